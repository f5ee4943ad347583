/- Lemmas for a law of the seat: what functions of the program do, each stated as a contract of its own (X4). -/
import Derived.Test.YtclmagkfpijbbaaGreatX3
set_option linter.unusedVariables false
set_option maxRecDepth 100000
set_option maxHeartbeats 4000000
namespace Go.Ab
open Go.RowKit Go.Shelf Go.Proofs Go.Eng
theorem bs23 : BuildS Tryz.prog 23 34 Y1:=zCh (z:=.agg #[.string ByteArray.empty,.string ByteArray.empty]) (by kernel_rfl) (by kernel_rfl) rfl
theorem app23 : AppT Tryz.prog 23 34 (Ty.cells Y1) 32:=appT_of (z:=.agg #[.string ByteArray.empty,.string ByteArray.empty]) (by kernel_rfl) (by kernel_rfl) rfl rfl
theorem mixed : Tryz.prog.follows .mixedOrders=true:=by kernel_rfl
theorem ent59 : Enters Tryz.prog 59:=enters_of Tryz.func59 (by kernel_rfl) rfl
theorem ent48 : Enters Tryz.prog 48:=enters_of Tryz.func48 (by kernel_rfl) rfl
theorem kt3 : KeyT Tryz.prog 3 (.int .i64):=keyT_int (by kernel_rfl)
theorem bt64 : zC4 Tryz.prog 64 (.agg #[.map none,.int .i64 0,.int .i64 0]) (fun i=>[(0,1),(1,1),(2,1)][i]?):=zBn (zDB 64 rfl) (fs:=Tryz.prog.fieldsOf 64) (by kernel_rfl) (fun w=>by kernel_rfl)
theorem zw61 : ZeroW Tryz.prog 61 (.map Y1 (.raw ifN)):=zeroW_of (z:=.map none) (fun w=>by kernel_rfl) rfl (fun _=>rfl)
theorem kt34 : KeyT Tryz.prog 34 Y1:=keyT_st2 (by unfold UndS; kernel_rfl) (fun _ _ _ _=>eq34) (fun em a b w=>by kernel_rfl)
theorem zw84 : ZeroW Tryz.prog 84 (.raw ifN):=zeroW_of (z:=.nilIface) (fun w=>by kernel_rfl) rfl (fun _=>rfl)
theorem unI84 : UndI Tryz.prog 84:=by unfold UndI; kernel_rfl
theorem bt38 : zC4 Tryz.prog 38 (.agg #[.int .i64 0,.int .i64 0]) (fun i=>[(0,1),(1,1)][i]?):=zBn (zDB 38 rfl) (fs:=Tryz.prog.fieldsOf 38) (by kernel_rfl) (fun w=>by kernel_rfl)
theorem ent37 : Enters Tryz.prog 37:=enters_of Tryz.func37 (by kernel_rfl) rfl
theorem ent38 : Enters Tryz.prog 38:=enters_of Tryz.func38 (by kernel_rfl) rfl
theorem meth91_188 : ∀ w v, (Go.method (Tryz.prog.types.size + Made.depth) 91 v "intermede/naming.sort").run Tryz.prog w = .ok (188, v) w := fun w v => by kernel_rfl
theorem meth86_187 : ∀ w v, (Go.method (Tryz.prog.types.size + Made.depth) 86 v "intermede/naming.sort").run Tryz.prog w = .ok (187, v) w := fun w v => by kernel_rfl
theorem ent188 : Enters Tryz.prog 188:=enters_of Tryz.func188 (by kernel_rfl) rfl
theorem ent187 : Enters Tryz.prog 187:=enters_of Tryz.func187 (by kernel_rfl) rfl
theorem ent40 : Enters Tryz.prog 40:=enters_of Tryz.func40 (by kernel_rfl) rfl
theorem bt36 : zC4 Tryz.prog 36 (.agg #[.string ByteArray.empty,.string ByteArray.empty,.string ByteArray.empty,.int .i64 0,.bool false]) (fun i=>[(0,2),(2,1),(3,1),(4,1)][i]?):=zBn (zDB 36 rfl) (fs:=Tryz.prog.fieldsOf 36) (by kernel_rfl) (fun w=>by kernel_rfl)
theorem ent39 : Enters Tryz.prog 39:=enters_of Tryz.func39 (by kernel_rfl) rfl
theorem ent22 : Enters Tryz.prog 22:=enters_of Tryz.func22 (by kernel_rfl) rfl
theorem ent8 : Enters Tryz.prog 8:=enters_of Tryz.func8 (by kernel_rfl) rfl
theorem ent23 : Enters Tryz.prog 23:=enters_of Tryz.func23 (by kernel_rfl) rfl
theorem ent11 : Enters Tryz.prog 11:=enters_of Tryz.func11 (by kernel_rfl) rfl
theorem zCg {p0:Str}{r:(ZN)×Int}(hr:f7 p0=some r) : zBb Tryz.prog 22 [.str p0] [.sl Y1 r.1,.i r.2]:=by
 refine zAW Tryz.func22 Tryz.ntmps22 rfl (rs:=[.tmp 2,.tmp 3]) rfl rfl fun w0 X hX=>?_
 refine sq<|rg<|V va<|V va<|nl<|an<|sq<|sq<|rg<|V vm<|V vnt<|V vgt<|nl<|an<|?_
 refine cnd (fun hc1 hr=>?_) (fun hc1 hr=>?_)
 ·refine sq<|rg<|V va<|V va<|?_
  obtain rfl:=Option.some.inj hr
  exact nl<|an<|cr<|zAC (zAk (l':=[(2,.sl Y1 ([] : ZN)),(3,.i 3)]) (zAA hX [] 4 rfl rfl ⟨⟨_,rfl,cv2⟩,⟨_,rfl,cv0⟩,trivial⟩ trivial) rfl ⟨rfl,rfl,trivial⟩)
 ·refine sk<|an<|sq<|rg<|V (zAs (qs:=[]) (cs:=[.str ([] : Str),.str ([] : Str)]) bt34 rfl rfl rfl)<|?_
  refine zAK (zBq (t:=Y1) (qs:=[(0,[.str ([] : Str),.str ([] : Str)])]) (ys:=[(([] : Str),([] : Str))]) bs23 rfl rfl rfl rfl rfl rfl rfl rfl ?_)
  obtain ⟨x2,e3,hr⟩:=zA hr
  obtain ⟨o16,e17,hr⟩:=zA hr
  refine V va<|nl<|an<|sq<|rg<|V vm<|?_
  refine V (zAn (t:=Y1) (undX 23 rfl) (szX 34 rfl) rfl rfl rfl e3)<|?_
  refine V (zDN (faX 34 0 rfl) rfl rfl)<|V va<|nl<|an<|sq<|sq<|rg<|V va<|nl<|an<|bl<|?_
  refine awc_loop (S:=Nat×Bool×Int×(ZN)) (R:=Unit ⊕ ((ZN))) (fun p=>match p with | (s4,s5,s6,s7)=>(⟨[(0,.str p0),(2,.nils),(3,.i 0),(4,.osl 0),(5,.ep 0 2 s4 (bif s5 then 1 else 0)),(6,.i s6)],[(0,.sl 34 Y1 s7)],1⟩ : AS)) (f7_b0 p0) (fun r e st=>match r with | .inl ()=>e=.ret∧Wk X st ⟨[(2,.nils),(3,.i 2)],[],0⟩ | .inr s15=>e=.exit 0∧Wk X st ⟨[(0,.str p0),(2,.nils),(3,.i 0),(4,.osl 0)],[(0,.sl 34 Y1 s15)],1⟩) e17 (by exact zAA hX [0] 4 rfl rfl wS wO) ?_ ?_
  ·intro e st hx
   rcases o16 with _ | s15
   ·obtain ⟨rfl,hw⟩:=hx
    obtain rfl:=Option.some.inj hr
    exact zAE (zAC (zAk (l':=[(2,.sl Y1 ([] : ZN)),(3,.i 2)]) (Wk.trans hw (zAA hX [] 4 rfl rfl ⟨⟨_,rfl,cv2⟩,⟨_,rfl,cv0⟩,trivial⟩ trivial)) rfl ⟨rfl,rfl,trivial⟩))
   ·obtain ⟨rfl,hw⟩:=hx
    obtain ⟨x18,e19,hr⟩:=zA hr
    refine bh<|an<|(zAY hw)<|sq<|sq<|?_
    obtain ⟨h20,hr⟩:=zAN hr
    refine zAa [0,2,3,4] [(true,.osl 0),(true,.bool x18),(true,.bool (!x18)),(true,.bool (!x18)),(!(!x18),.osl 0),(!(!x18),.str ((f17 s15).getD default)),(!(!x18),.str p0),(!(!x18),.bool (!decide (((f17 s15).getD default)=p0))),(true,.bool ((!x18)||(!decide (((f17 s15).getD default)=p0))))] [[],[0],[1],[2],[3],[4,3],[3],[5,6,3],[7,3]] [8] rfl rfl rfl rfl rfl ⟨?_,?_,?_,?_,?_,?_,?_,?_,?_,trivial⟩ (zAD ⟨rfl,trivial⟩) ?_
    ·exact oB wm
    ·exact zAr rfl (fun hg=>zAD ⟨rfl,trivial⟩) (fun hg=>zAj (as':=[.osl 0]) (f9_runs e19).x ent59 rfl ⟨cv0,trivial⟩ rfl rfl)
    ·exact oB wno
    ·exact oB wm
    ·exact oB wm
    ·exact zAr ⟨rfl,rfl,rfl,_,rfl,rfl⟩ (fun hg=>zAD ⟨hg,rfl,trivial⟩) (fun hg=>zAj (as':=[.osl 0]) (zC6 (zAz h20 hg)).x ent48 rfl ⟨cv0,trivial⟩ rfl rfl)
    ·exact oB wm
    ·exact oB wns
    ·exact zBr
    refine an<|?_
    refine cnd (fun hc21 hr=>?_) (fun hc21 hr=>?_)
    ·refine sq<|rg<|V va<|V va<|?_
     obtain rfl:=Option.some.inj hr
     exact nl<|an<|cr<|zAC (zAk (l':=[(2,.sl Y1 ([] : ZN)),(3,.i 2)]) (zAA hX [] 4 rfl rfl ⟨⟨_,rfl,cv2⟩,⟨_,rfl,cv0⟩,trivial⟩ trivial) rfl ⟨rfl,rfl,trivial⟩)
    ·refine sk<|an<|sq<|rg<|V vm<|V va<|V va<|?_
     obtain rfl:=Option.some.inj hr
     exact nl<|an<|cr<|zAk (l':=[(2,.sl Y1 s15),(3,.i 0)]) (zAA hX [] 4 rfl rfl wS trivial) rfl ⟨rfl,rfl,trivial⟩
  ·rintro ⟨s4,s5,s6,s7⟩ o hr
   refine sq<|sq<|rg<|V vm<|V vm<|V vnt<|V vls<|nl<|an<|?_
   refine cnd (fun hc22 hr=>?_) (fun hc22 hr=>?_)
   ·obtain ⟨o27,e28,hr⟩:=zA hr
    refine sk<|an<|sq<|bl<|?_
    refine zAy (S:=Nat×Bool×Int×(ZN)) (R:=Unit) (fun s=>match s with | (s23,s24,s25,s26)=>(⟨[(0,.str p0),(2,.nils),(3,.i 0),(4,.osl 0),(5,.ep 0 2 s23 (bif s24 then 1 else 0)),(6,.i s25)],[(0,.sl 34 Y1 s26)],1⟩ : AS)) (fun _ _ _=>False) e28 (fun hr=>?_) ?_ ?_
    ·obtain ⟨x29,e30,hr⟩:=zA hr
     refine sq<|rg<|V vm<|V vm<|?_
     refine V (zBB (undX 9 rfl) rfl rfl e30)<|V va<|nl<|an<|bl<|sq<|rg<|V vm<|V veq<|V va<|nl<|an<|?_
     refine cnd (fun hc31 hr=>?_) (fun hc31 hr=>?_)
     ·refine sq<|rg<|V vm<|?_
      refine V (zAs (qs:=[]) (cs:=[.str ([] : Str),.str ([] : Str)]) bt34 rfl rfl rfl)<|?_
      refine V (zAM (t:=Y1) (qs:=[(0,[.str ([] : Str),.str ([] : Str)])]) (ys:=[(([] : Str),([] : Str))]) bs23 rfl rfl rfl rfl rfl rfl rfl rfl)<|?_
      obtain ⟨h32,hr⟩:=zAN hr
      refine zAK (zAh rfl rfl app23 rfl rfl rfl h32 rfl ?_)
      obtain ⟨x33,e34,hr⟩:=zA hr
      refine V va<|nl<|an<|rg<|V vm<|V vm<|V vnL<|V vsu<|?_
      refine V (zAn (t:=Y1) (undX 23 rfl) (szX 34 rfl) rfl rfl rfl e34)<|?_
      refine V (zDN (faX 34 0 rfl) rfl rfl)<|V va<|?_
      obtain rfl:=Option.some.inj hr
      exact zAJ (zAS ((zAA hX [1] 4 rfl rfl wS wO)))
     ·refine sq<|?_
      obtain ⟨h35,hr⟩:=zAN hr
      refine zAa [0,2,3,4,5,6,7] [(true,.int .u8 ((UInt8.toNat x29 : Nat) : Int)),(true,.bool (decide (((UInt8.toNat x29 : Nat) : Int)=46))),(true,.bool (decide (((UInt8.toNat x29 : Nat) : Int)=46))),(decide (((UInt8.toNat x29 : Nat) : Int)=46),.ep 0 2 s4 (bif s5 then 1 else 0)),(decide (((UInt8.toNat x29 : Nat) : Int)=46),.osl 0),(decide (((UInt8.toNat x29 : Nat) : Int)=46),.osl 0),(decide (((UInt8.toNat x29 : Nat) : Int)=46),.i (List.length s7 : Int)),(decide (((UInt8.toNat x29 : Nat) : Int)=46),.i (w64 ((List.length s7 : Int) - 1))),(decide (((UInt8.toNat x29 : Nat) : Int)=46),.ep 0 2 (Int.toNat (w64 ((List.length s7 : Int) - 1))) 0),(decide (((UInt8.toNat x29 : Nat) : Int)=46),.ep 0 2 (Int.toNat (w64 ((List.length s7 : Int) - 1))) 0),(decide (((UInt8.toNat x29 : Nat) : Int)=46),.bool (decide (s4 * 2+(bif s5 then 1 else 0)=(Int.toNat (w64 ((List.length s7 : Int) - 1))) * 2+0))),(true,.bool ((decide (((UInt8.toNat x29 : Nat) : Int)=46))&&(decide (s4 * 2+(bif s5 then 1 else 0)=(Int.toNat (w64 ((List.length s7 : Int) - 1))) * 2+0)))),(true,.bool ((decide (((UInt8.toNat x29 : Nat) : Int)=46))&&(decide (s4 * 2+(bif s5 then 1 else 0)=(Int.toNat (w64 ((List.length s7 : Int) - 1))) * 2+0))))] [[],[0],[1],[2],[2],[2],[5,2],[6,2],[4,7,2],[8,2],[3,9,2],[10,2],[11]] [12] rfl rfl rfl rfl rfl ⟨?_,?_,?_,?_,?_,?_,?_,?_,?_,?_,?_,?_,?_,trivial⟩ (zAD ⟨rfl,trivial⟩) ?_
      ·exact oB wm
      ·exact oB weq
      ·exact oB wm
      ·exact oB wm
      ·exact oB wm
      ·exact oB wm
      ·exact zAr ⟨rfl,rfl,rfl,_,rfl,rfl⟩ (fun hg=>zAD ⟨hg,rfl,trivial⟩) (fun hg=>zC7 (t:=Y1) rfl rfl (undX 23 rfl) rfl rfl)
      ·exact oB wsu
      ·exact zAr ⟨rfl,rfl,rfl,_,rfl,rfl⟩ (fun hg=>zAD ⟨hg,hg,rfl,trivial⟩) (fun hg=>zAn (t:=Y1) (undX 23 rfl) (szX 34 rfl) rfl rfl rfl (zAz h35 hg))
      ·exact zAr ⟨rfl,rfl,rfl,_,rfl,rfl⟩ (fun hg=>zAD ⟨hg,rfl,trivial⟩) (fun hg=>zDN (faX 34 0 rfl) rfl rfl)
      ·exact zAr ⟨rfl,rfl,rfl,_,rfl,rfl⟩ (fun hg=>zAD ⟨hg,hg,rfl,trivial⟩) (fun hg=>av_epeq (n:=0) (undX 121 rfl) (szX 9 rfl) rfl rfl)
      ·exact zBe
      ·exact oB wa
      refine an<|?_
      refine cnd (fun hc36 hr=>?_) (fun hc36 hr=>?_)
      ·obtain ⟨x37,e38,hr⟩:=zA hr
       refine rg<|V vm<|V vm<|V vnL<|V vsu<|?_
       refine V (zAn (t:=Y1) (undX 23 rfl) (szX 34 rfl) rfl rfl rfl e38)<|?_
       refine V (zDN (faX 34 1 rfl) rfl rfl)<|V va<|?_
       obtain rfl:=Option.some.inj hr
       exact zAJ (zAS ((zAA hX [0] 4 rfl rfl wS wO)))
      ·refine sq<|?_
       refine zAa [0,2,3,4,5,6,7] [(true,.int .u8 ((UInt8.toNat x29 : Nat) : Int)),(true,.bool (decide (((UInt8.toNat x29 : Nat) : Int)=92))),(true,.bool (decide (((UInt8.toNat x29 : Nat) : Int)=92))),(decide (((UInt8.toNat x29 : Nat) : Int)=92),.i s6),(decide (((UInt8.toNat x29 : Nat) : Int)=92),.i (w64 (s6+1))),(decide (((UInt8.toNat x29 : Nat) : Int)=92),.str p0),(decide (((UInt8.toNat x29 : Nat) : Int)=92),.i (List.length p0 : Int)),(decide (((UInt8.toNat x29 : Nat) : Int)=92),.bool (decide ((w64 (s6+1)) < (List.length p0 : Int)))),(true,.bool ((decide (((UInt8.toNat x29 : Nat) : Int)=92))&&(decide ((w64 (s6+1)) < (List.length p0 : Int))))),(true,.bool ((decide (((UInt8.toNat x29 : Nat) : Int)=92))&&(decide ((w64 (s6+1)) < (List.length p0 : Int)))))] [[],[0],[1],[2],[3,2],[2],[5,2],[4,6,2],[7,2],[8]] [9] rfl rfl rfl rfl rfl ⟨?_,?_,?_,?_,?_,?_,?_,?_,?_,?_,trivial⟩ (zAD ⟨rfl,trivial⟩) ?_
       ·exact oB wm
       ·exact oB weq
       ·exact oB wm
       ·exact oB wm
       ·exact oB wad
       ·exact oB wm
       ·exact oB wnt
       ·exact oB wls
       ·exact zBe
       ·exact oB wa
       refine an<|?_
       refine cnd (fun hc39 hr=>?_) (fun hc39 hr=>?_)
       ·obtain ⟨x40,e41,hr⟩:=zA hr
        refine sq<|rg<|V vm<|V vad<|V va<|nl<|an<|?_
        obtain ⟨h42,hr⟩:=zAN hr
        obtain ⟨h43,hr⟩:=zAN hr
        refine zB0 10 [10,10,10,10,10,10,10,10,10,10] mixed [0,2,3,4,5,6] [(true,.ep 0 2 s4 (bif s5 then 1 else 0)),(true,.ep 0 2 s4 (bif s5 then 1 else 0)),(true,.str (bif s5 then x40.2 else x40.1)),(true,.str p0),(true,.i (w64 (s6+1))),(true,.i (w64 (s6+1))),(true,.i (w64 ((w64 (s6+1))+1))),(true,.str ((p0.take (Int.toNat (w64 ((w64 (s6+1))+1)))).drop (Int.toNat (w64 (s6+1))))),(true,.str ((bif s5 then x40.2 else x40.1)++((p0.take (Int.toNat (w64 ((w64 (s6+1))+1)))).drop (Int.toNat (w64 (s6+1)))))),(true,.ep 0 2 s4 (bif s5 then 1 else 0))] [[],[0],[1],[],[],[],[5],[3,4,6],[2,7],[0]] [8,9] rfl rfl rfl rfl rfl rfl rfl rfl ⟨?_,?_,?_,?_,?_,?_,?_,?_,?_,?_,trivial⟩ (zAD ⟨rfl,rfl,trivial⟩) ?_
        ·exact oB wm
        ·exact zAr rfl (fun hg=>zAD ⟨rfl,trivial⟩) (fun hg=>zDF rfl)
        ·exact zAr rfl (fun hg=>zAD ⟨rfl,trivial⟩) (fun hg=>zAu (tsX 9 rfl) rfl rfl rfl (zCM e41) two_drop)
        ·exact oB wm
        ·exact oB wm
        ·exact oB wm
        ·exact oB wad
        ·exact zAr rfl (fun hg=>zAD ⟨rfl,rfl,rfl,trivial⟩) (fun hg=>av_slice_str (l:=(w64 (s6+1))) (h:=(w64 ((w64 (s6+1))+1))) (undX 9 rfl) rfl ⟨_,rfl⟩ ⟨_,rfl⟩ h42)
        ·exact zAr rfl (fun hg=>zAD ⟨rfl,rfl,trivial⟩) (fun hg=>av_adds rfl rfl h43)
        ·exact zAr rfl (fun hg=>zAD ⟨rfl,trivial⟩) (fun hg=>zDF rfl)
        refine zAK (zDj (e':=(two_set x40 s5 ((bif s5 then x40.2 else x40.1)++((p0.take (Int.toNat (w64 ((w64 (s6+1))+1)))).drop (Int.toNat (w64 (s6+1))))))) (szX 9 rfl) rfl rfl rfl rfl (zCM e41) rfl rfl two_le rfl two_over ?_)
        obtain rfl:=Option.some.inj hr
        exact zAJ (zAS ((zAA hX [0] 4 rfl rfl wS wO)))
       ·obtain ⟨x44,e45,hr⟩:=zA hr
        obtain ⟨h46,hr⟩:=zAN hr
        obtain ⟨h47,hr⟩:=zAN hr
        refine zB0 10 [10,10,10,10,10,10,10,10,10,10] mixed [0,2,3,4,5,6] [(true,.ep 0 2 s4 (bif s5 then 1 else 0)),(true,.ep 0 2 s4 (bif s5 then 1 else 0)),(true,.str (bif s5 then x44.2 else x44.1)),(true,.str p0),(true,.i s6),(true,.i s6),(true,.i (w64 (s6+1))),(true,.str ((p0.take (Int.toNat (w64 (s6+1)))).drop (Int.toNat s6))),(true,.str ((bif s5 then x44.2 else x44.1)++((p0.take (Int.toNat (w64 (s6+1)))).drop (Int.toNat s6)))),(true,.ep 0 2 s4 (bif s5 then 1 else 0))] [[],[0],[1],[],[],[],[5],[3,4,6],[2,7],[0]] [8,9] rfl rfl rfl rfl rfl rfl rfl rfl ⟨?_,?_,?_,?_,?_,?_,?_,?_,?_,?_,trivial⟩ (zAD ⟨rfl,rfl,trivial⟩) ?_
        ·exact oB wm
        ·exact zAr rfl (fun hg=>zAD ⟨rfl,trivial⟩) (fun hg=>zDF rfl)
        ·exact zAr rfl (fun hg=>zAD ⟨rfl,trivial⟩) (fun hg=>zAu (tsX 9 rfl) rfl rfl rfl (zCM e45) two_drop)
        ·exact oB wm
        ·exact oB wm
        ·exact oB wm
        ·exact oB wad
        ·exact zAr rfl (fun hg=>zAD ⟨rfl,rfl,rfl,trivial⟩) (fun hg=>av_slice_str (l:=s6) (h:=(w64 (s6+1))) (undX 9 rfl) rfl ⟨_,rfl⟩ ⟨_,rfl⟩ h46)
        ·exact zAr rfl (fun hg=>zAD ⟨rfl,rfl,trivial⟩) (fun hg=>av_adds rfl rfl h47)
        ·exact zAr rfl (fun hg=>zAD ⟨rfl,trivial⟩) (fun hg=>zDF rfl)
        refine zAK (zDj (e':=(two_set x44 s5 ((bif s5 then x44.2 else x44.1)++((p0.take (Int.toNat (w64 (s6+1)))).drop (Int.toNat s6))))) (szX 9 rfl) rfl rfl rfl rfl (zCM e45) rfl rfl two_le rfl two_over ?_)
        obtain rfl:=Option.some.inj hr
        exact zAJ (zAS ((zAA hX [0] 4 rfl rfl wS wO)))
    ·rintro ⟨s23,s24,s25,s26⟩ rfl
     refine sq<|?_
     obtain ⟨h48,hr⟩:=zAN hr
     refine zAa [0,2,3,4,5,6] [(true,.osl 0),(true,.i (List.length s26 : Int)),(true,.bool (decide (20 < (List.length s26 : Int)))),(true,.bool (decide (20 < (List.length s26 : Int)))),(!(decide (20 < (List.length s26 : Int))),.ep 0 2 s23 (bif s24 then 1 else 0)),(!(decide (20 < (List.length s26 : Int))),.ep 0 2 s23 (bif s24 then 1 else 0)),(!(decide (20 < (List.length s26 : Int))),.str (bif s24 then (((ix s26 (s23:Int)).getD default)).2 else (((ix s26 (s23:Int)).getD default)).1)),(!(decide (20 < (List.length s26 : Int))),.i (List.length (bif s24 then (((ix s26 (s23:Int)).getD default)).2 else (((ix s26 (s23:Int)).getD default)).1) : Int)),(!(decide (20 < (List.length s26 : Int))),.bool (decide (32 < (List.length (bif s24 then (((ix s26 (s23:Int)).getD default)).2 else (((ix s26 (s23:Int)).getD default)).1) : Int)))),(true,.bool ((decide (20 < (List.length s26 : Int)))||(decide (32 < (List.length (bif s24 then (((ix s26 (s23:Int)).getD default)).2 else (((ix s26 (s23:Int)).getD default)).1) : Int)))))] [[],[0],[1],[2],[3],[4,3],[5,3],[6,3],[7,3],[8,3]] [9] rfl rfl rfl rfl rfl ⟨?_,?_,?_,?_,?_,?_,?_,?_,?_,?_,trivial⟩ (zAD ⟨rfl,trivial⟩) ?_
     ·exact oB wm
     ·exact zAr rfl (fun hg=>zAD ⟨rfl,trivial⟩) (fun hg=>zC7 (t:=Y1) rfl rfl (undX 23 rfl) rfl rfl)
     ·exact oB wgt
     ·exact oB wm
     ·exact oB wm
     ·exact zAr ⟨rfl,rfl,rfl,_,rfl,rfl⟩ (fun hg=>zAD ⟨hg,rfl,trivial⟩) (fun hg=>zDF rfl)
     ·exact zAr ⟨rfl,rfl,rfl,_,rfl,rfl⟩ (fun hg=>zAD ⟨hg,rfl,trivial⟩) (fun hg=>zAu (tsX 9 rfl) rfl rfl rfl (zCM (zAz h48 hg)) two_drop)
     ·exact oB wnt
     ·exact oB wgt
     ·exact zBr
     refine an<|?_
     refine cnd (fun hc49 hr=>?_) (fun hc49 hr=>?_)
     ·refine sq<|rg<|V va<|V va<|?_
      obtain rfl:=Option.some.inj hr
      exact nl<|an<|cr<|zAE (zAC (⟨rfl,(zAA hX [] 4 rfl rfl wS trivial)⟩))
     ·refine sk<|bn<|an<|rg<|V vm<|V vad<|V va<|?_
      obtain rfl:=Option.some.inj hr
      exact zAJ ((zAA hX [0] 4 rfl rfl wS wO))
    ·exact fun r h e st hne hx=>hx.elim
   ·obtain rfl:=Option.some.inj hr
    exact zAH (zAF (⟨rfl,(zAA hX [0] 4 rfl rfl wS wO)⟩))
theorem f14_runs {r:Unit}(hr:f14=some r) : Runs Tryz.prog 8 [] [] (fun q Hq=>q=[.ptr 0 0]∧Hq=[.tr E64 (some ((mset [] 0 []),1,0))]):=by
 refine zAW Tryz.func8 Tryz.ntmps8 rfl (rs:=[.tmp 0]) rfl rfl fun w0 X hX=>?_
 refine sq<|rg<|V va<|nl<|an<|sq<|rg<|?_
 refine zAK (zB6 .i (.map Y1 (.raw ifN)) rfl ?_)
 refine zAG (wk_mpt (i:=0) (.mp Y1 (.dat (.raw ifN))) rfl rfl)<|?_
 refine zAK (zB6 Y1 (.raw ifN) rfl ?_)
 refine zAK (aop_mptSet (kx:=0) (yx:=[]) (js:=[1]) (undX 62 rfl) kt3 (.inr rfl) rfl rfl rfl rfl rfl rfl ⟨1,rfl,rfl,rfl⟩ rfl holes0 ?_)
 refine V vm<|?_
 refine V (zAs (qs:=[(0,[.map 0]),(1,[.i 1])]) (cs:=[.map 0,.i 1,.i 0]) bt64 rfl rfl rfl)<|O ob<|V va<|?_
 obtain rfl:=Option.some.inj hr
 exact nl<|an<|cr<|zAe (l':=[(0,.ptr 0 0)]) (Hs:=[(0,.tr E64 (some ((mset [] 0 []),1,0)))]) (n:=1) (Wk.trans (pk (i:=2) (e:=F64) (js:=[0]) ((mset [] 0 []),1,0)) (zAA hX [2] 4 rfl rfl wS wO)) rfl rfl rfl ⟨rfl,trivial⟩
theorem f26_runs {p0:ZP}{p1:Int}{p2:ZN}{r:Int}(hr:f26 p0 p1 p2=some r) : zBb Tryz.prog 37 [.rp [.dm .i (.map Y1 (.raw ifN)) p0.1,.i p0.2.1,.i p0.2.2],.i p1,.sl Y1 p2] [.i r]:=by
 refine zAW Tryz.func37 Tryz.ntmps37 rfl (rs:=[.tmp 6]) rfl rfl fun w0 X hX=>?_
 refine sq<|rg<|V va<|nl<|an<|sq<|sq<|?_
 obtain ⟨h1,hr⟩:=zAN hr
 refine zAa [0,1,2,6] [(true,.rp [.dm .i (.map Y1 (.raw ifN)) p0.1,.i p0.2.1,.i p0.2.2]),(true,.bool false),(true,.bool false),(!false,.sl Y1 p2),(!false,.bool ((f9 p2).getD default)),(!false,.bool (!((f9 p2).getD default))),(true,.bool (false||(!((f9 p2).getD default))))] [[],[0],[1],[2],[3,2],[4,2],[5,2]] [6] rfl rfl rfl rfl rfl ⟨?_,?_,?_,?_,?_,?_,?_,trivial⟩ (zAD ⟨rfl,trivial⟩) ?_
 ·exact oB wm
 ·exact zAr rfl (fun hg=>zAD ⟨rfl,trivial⟩) (fun hg=>zCj (undX 28 rfl) rfl rfl)
 ·exact oB wm
 ·exact oB wm
 ·exact zAr ⟨rfl,rfl,rfl,_,rfl,rfl⟩ (fun hg=>zAD ⟨hg,rfl,trivial⟩) (fun hg=>zAV (f9_runs (zAz h1 hg)).x ent59 rfl rfl)
 ·exact oB wno
 ·exact zBr
 refine an<|?_
 refine cnd (fun hc2 hr=>?_) (fun hc2 hr=>?_)
 ·refine sq<|rg<|V va<|?_
  obtain rfl:=Option.some.inj hr
  exact nl<|an<|cr<|zAC (zAk (l':=[(6,.i 1)]) (zAA hX [] 4 rfl rfl wS trivial) rfl ⟨rfl,trivial⟩)
 ·refine sk<|an<|sq<|sq<|rg<|V vm<|V vnr<|V vfr<|V vlr<|V vm<|?_
  refine V (zDS (kx:=p1) (r:=.tup [.dm Y1 (.raw ifN) ((mget p0.1 p1).getD []),.bool ((mget p0.1 p1).isSome)]) (undX 62 rfl) kt3 zw61 rfl rfl rfl rfl)<|V vm<|V vx<|V vx<|V va<|V va<|nl<|an<|sq<|rg<|V vm<|V vno<|nl<|an<|?_
  refine cnd (fun hc3 hr=>?_) (fun hc3 hr=>?_)
  ·refine sq<|rg<|V va<|?_
   obtain rfl:=Option.some.inj hr
   exact nl<|an<|cr<|zAC (zAk (l':=[(6,.i 7)]) (zAA hX [] 4 rfl rfl wS trivial) rfl ⟨rfl,trivial⟩)
  ·refine sk<|an<|sq<|rg<|V va<|?_
   obtain rfl:=Option.some.inj hr
   exact nl<|an<|cr<|zAk (l':=[(6,.i 0)]) (zAA hX [] 4 rfl rfl wS trivial) rfl ⟨rfl,trivial⟩
theorem g38_runs {p0:ZP}{p1:Int}{p2:ZN}{r:(ZM)×(Int×Int)×Int}(hr:g38 p0 p1 p2=some r) : zBb Tryz.prog 38 [.rp [.dm .i (.map Y1 (.raw ifN)) p0.1,.i p0.2.1,.i p0.2.2],.i p1,.sl Y1 p2] [.dm Y1 (.raw ifN) r.1,.agg [.i r.2.1.1,.i r.2.1.2],.i r.2.2]:=by
 refine zAW Tryz.func38 Tryz.ntmps38 rfl (rs:=[.tmp 6,.cell 7 38,.tmp 8]) rfl rfl fun w0 X hX=>?_
 refine sq<|rg<|V va<|O oa<|V va<|nl<|an<|sq<|rg<|V vm<|V vnr<|V vfr<|V vlr<|V vm<|?_
 refine V (zBA (kx:=p1) (r:=.dm Y1 (.raw ifN) ((mget p0.1 p1).getD [])) (undX 62 rfl) kt3 zw61 rfl rfl rfl rfl)<|V va<|nl<|an<|sq<|sq<|rg<|V vm<|V vm<|V vnl<|V vsu<|?_
 obtain ⟨h1,hr⟩:=zAN hr
 obtain ⟨o10,e11,hr⟩:=zA hr
 refine V (zDD (t:=Y1) (l:=0) (h:=(w64 ((List.length p2 : Int) - 1))) (undX 23 rfl) (szX 34 rfl) rfl rfl ⟨_,rfl⟩ h1)<|V vnl<|V vm<|nl<|an<|bl<|?_
 refine zAb (t:=27) rfl (fun hl=>?_)
 refine zAI (S:=(ZM)) (R:=Int×Int×Int) (List.length ((p2.take (Int.toNat (w64 ((List.length p2 : Int) - 1)))).drop (Int.toNat 0)) : Int) (g38_b0 p0 p2) (fun p=>match p with | (i2,s3)=>(⟨[(0,.rp [.dm .i (.map Y1 (.raw ifN)) p0.1,.i p0.2.1,.i p0.2.2]),(6,.nilm),(7,.ptr 0 0),(8,.i 0),(9,.dm Y1 (.raw ifN) s3),(27,.sl Y1 ((p2.take (Int.toNat (w64 ((List.length p2 : Int) - 1)))).drop (Int.toNat 0))),(28,.i (List.length ((p2.take (Int.toNat (w64 ((List.length p2 : Int) - 1)))).drop (Int.toNat 0)) : Int)),(29,.i i2)],[(0,.var 38 [.i 0,.i 0])],1⟩ : AS)) (fun o e st=>match o with | .inl s3=>e=.exit 0∧Wk X st ⟨[(6,.nilm),(7,.ptr 0 0),(8,.i 0),(9,.dm Y1 (.raw ifN) s3)],[(0,.var 38 [.i 0,.i 0])],1⟩ | .inr (s7,s8,s9)=>e=.ret∧Wk X st ⟨[(6,.nilm),(7,.ptr 0 0),(8,.i s7)],[(0,.var 38 [.i s8,.i s9])],1⟩) (zAf hl) e11 (by exact zAA hX [0] 4 rfl rfl wS wO) ?_ ?_
 ·intro e st hx
  rcases o10 with s3 | ⟨s7,s8,s9⟩
  ·obtain ⟨rfl,hw⟩:=hx
   refine bh<|an<|(zAY hw)<|sq<|rg<|V vm<|?_
   refine V (zAs (qs:=[]) (cs:=[.i 0,.i 0]) bt38 rfl rfl rfl)<|V va<|O os<|V va<|?_
   obtain rfl:=Option.some.inj hr
   exact nl<|an<|cr<|zAk (l':=[(6,.dm Y1 (.raw ifN) s3),(7,.rp [.i 0,.i 0]),(8,.i 0)]) (zAA hX [] 4 rfl rfl wS trivial) rfl ⟨rfl,(.inr ⟨_,2,rfl,(tsX 38 rfl),rfl,rfl⟩),rfl,trivial⟩
  ·obtain ⟨rfl,hw⟩:=hx
   obtain rfl:=Option.some.inj hr
   exact zAE (zAC (zAk (l':=[(6,.dm Y1 (.raw ifN) []),(7,.rp [.i s8,.i s9]),(8,.i s7)]) (Wk.trans hw (zAA hX [] 4 rfl rfl ⟨⟨_,rfl,cv7⟩,⟨_,rfl,cv0⟩,⟨_,rfl,cv0⟩,trivial⟩ trivial)) rfl ⟨rfl,(.inr ⟨_,2,rfl,(tsX 38 rfl),rfl,rfl⟩),rfl,trivial⟩))
 ·rintro i2 s3 o ho
  refine sq<|rg<|V vls<|nl<|an<|sq<|?_
  refine zAO (b:=decide (i2 < (List.length ((p2.take (Int.toNat (w64 ((List.length p2 : Int) - 1)))).drop (Int.toNat 0)) : Int))) rfl (fun hc12=>?_) (fun hc12=>?_)
  ·obtain ⟨q,hr,rfl⟩:=zA7 hc12 ho
   obtain ⟨o16,e17,hr⟩:=zA hr
   refine sk<|an<|?_
   refine zAy (S:=(ZM)) (R:=Int×Int) (fun s=>match s with | s13=>(⟨[(0,.rp [.dm .i (.map Y1 (.raw ifN)) p0.1,.i p0.2.1,.i p0.2.2]),(6,.nilm),(7,.ptr 0 0),(8,.i 0),(9,.dm Y1 (.raw ifN) s13),(27,.sl Y1 ((p2.take (Int.toNat (w64 ((List.length p2 : Int) - 1)))).drop (Int.toNat 0))),(28,.i (List.length ((p2.take (Int.toNat (w64 ((List.length p2 : Int) - 1)))).drop (Int.toNat 0)) : Int)),(29,.i i2)],[(0,.var 38 [.i 0,.i 0])],1⟩ : AS)) (fun r e st=>match r with | (s14,s15)=>e=.ret∧Wk X st ⟨[(6,.nilm),(7,.ptr 0 0),(8,.i s14)],[(0,.var 38 [.i i2,.i s15])],1⟩) e17 (fun hr=>?_) ?_ ?_
   ·obtain ⟨x18,e19,hr⟩:=zA hr
    refine bl<|sq<|rg<|V vm<|?_
    refine V (zAQ (t:=Y1) (e:=x18) (undX 23 rfl) (szX 34 rfl) rfl rfl e19)<|V vlR<|O oa<|V va<|O os<|nl<|an<|sq<|rg<|V vm<|V vlP<|?_
    refine V (zBA (kx:=x18) (r:=.val ((mget s3 x18).getD ifN).1) (undX 61 rfl) kt34 zw84 rfl rfl rfl rfl)<|nl<|an<|bl<|sq<|rg<|?_
    obtain ⟨h20,hr⟩:=zAN hr
    refine V (av_ifnil (c:=((mget s3 x18).getD ifN)) unI84 rfl rfl h20)<|nl<|an<|?_
    refine cnd (fun hc21 hr=>?_) (fun hc21 hr=>?_)
    ·refine sq<|rg<|V va<|nl<|an<|sq<|rg<|V vm<|?_
     refine V (zAs (qs:=[(0,[.i i2]),(1,[.i 1])]) (cs:=[.i i2,.i 1]) bt38 rfl rfl rfl)<|V va<|O os<|V va<|?_
     obtain rfl:=Option.some.inj hr
     exact nl<|an<|cr<|zAE (zAE (⟨rfl,(zAA hX [0] 4 rfl rfl wS wO)⟩))
    ·obtain ⟨x22,e23,hr⟩:=zA hr
     refine sq<|rg<|V (av_assertS (c:=((mget s3 x18).getD ifN)) (undX 91 rfl) (zDB 91 rfl) rfl e23)<|V vx<|V vx<|nl<|an<|?_
     refine cnd (fun hc24 hr=>?_) (fun hc24 hr=>?_)
     ·refine sq<|rg<|V va<|nl<|an<|sq<|rg<|V vm<|?_
      refine V (zAs (qs:=[(0,[.i i2]),(1,[.i 2])]) (cs:=[.i i2,.i 2]) bt38 rfl rfl rfl)<|V va<|O os<|V va<|?_
      obtain rfl:=Option.some.inj hr
      exact nl<|an<|cr<|zAE (zAE (⟨rfl,(zAA hX [0] 4 rfl rfl wS wO)⟩))
     ·obtain ⟨x25,e26,hr⟩:=zA hr
      refine sq<|rg<|V (zDe (c:=((mget s3 x18).getD ifN)) (undX 86 rfl) (zDB 86 rfl) rfl e26)<|V vx<|V vx<|nl<|an<|?_
      refine cnd (fun hc27 hr=>?_) (fun hc27 hr=>?_)
      ·refine sq<|rg<|V va<|nl<|an<|sq<|rg<|V vm<|V vnr<|V vfr<|V vlr<|V vm<|?_
       refine V (zDS (kx:=x25.1) (r:=.tup [.dm Y1 (.raw ifN) ((mget p0.1 x25.1).getD []),.bool ((mget p0.1 x25.1).isSome)]) (undX 62 rfl) kt3 zw61 rfl rfl rfl rfl)<|V vm<|V vx<|V vx<|V va<|V va<|nl<|an<|sq<|sq<|rg<|V vm<|V vno<|nl<|an<|?_
       refine cnd (fun hc28 hr=>?_) (fun hc28 hr=>?_)
       ·refine sq<|rg<|V vm<|?_
        refine V (zAs (qs:=[(0,[.i i2]),(1,[.i 1])]) (cs:=[.i i2,.i 1]) bt38 rfl rfl rfl)<|V va<|O os<|V va<|?_
        obtain rfl:=Option.some.inj hr
        exact nl<|an<|cr<|zAC (zAE (zAE (⟨rfl,(zAA hX [0] 4 rfl rfl wS wO)⟩)))
       ·refine sk<|an<|rg<|V vm<|V va<|?_
        obtain rfl:=Option.some.inj hr
        exact zAJ (zAS (zAS ((zAA hX [0] 4 rfl rfl wS wO))))
      ·obtain rfl:=Option.some.inj hr
       exact zAv (zAS (zAS ((zAA hX [0] 4 rfl rfl wS wO))))
   ·rintro s13 rfl
    refine rg<|V vad<|V vm<|?_
    obtain rfl:=Option.some.inj hr
    exact zAJ ((zAA hX [0] 4 rfl rfl wS wO))
   ·rintro r rfl e st hne hx
    obtain ⟨s14,s15⟩:=r
    obtain ⟨rfl,hw⟩:=hx
    obtain rfl:=Option.some.inj hr
    exact ⟨rfl,(Wk.trans hw (zAA hX [0] 4 rfl rfl wS wO))⟩
  ·obtain rfl:=zA8 hc12 ho
   exact zAH (zAF (⟨rfl,(zAA hX [0] 4 rfl rfl wS wO)⟩))
theorem g38o_runs {p0_0:ZP}{p1:Int}{p2:ZN}{r:((Int×Int)×Int) ⊕ Int}(hr:g38o p0_0 p1 p2=some r) : Runs Tryz.prog 38 [.ptr 0 0,.i p1,.sl Y1 p2] [.tr E64 (some p0_0)] (fun q Hq=>match r with | .inl r=>q=[.nilm,.agg [.i r.1.1,.i r.1.2],.i r.2]∧Hq=[.tr E64 (some p0_0)] | .inr r=>q=[.map 1,.agg [.i 0,.i 0],.i 0]∧Hq=[.var 64 [.map 2,.i p0_0.2.1,.i p0_0.2.2],.map Y1 (.raw ifN) ((mget p0_0.1 r).getD []),.mpt .i (.mp Y1 (.dat (.raw ifN))) p0_0.1 [(r,1)]]):=by
 refine zAW Tryz.func38 Tryz.ntmps38 rfl (rs:=[.tmp 6,.cell 7 38,.tmp 8]) rfl rfl fun w0 X hX=>?_
 refine sq<|rg<|V va<|O oa<|V va<|nl<|an<|sq<|?_
 refine zAY (zAd (i:=0) [.map 2,.i p0_0.2.1,.i p0_0.2.2] [.mpt .i (.mp Y1 (.dat (.raw ifN))) p0_0.1 []] rfl rfl rfl rfl)<|?_
 obtain ⟨h2,hr⟩:=zAN hr
 refine zAY (wk_open (i:=2) (kx:=p1) (yx:=((mget p0_0.1 p1).getD [])) [.map Y1 (.raw ifN) ((mget p0_0.1 p1).getD [])] rfl rfl (zDH h2) (fun n h=>by cases h) rfl rfl)<|rg<|V vm<|V vnp<|V vfp<|V vlp<|V vm<|?_
 refine V (av_look_own (n:=3) (kx:=p1) (yx:=((mget p0_0.1 p1).getD [])) (av:=.map 3) (r:=.map 3) (ok:=false) (undX 62 rfl) kt3 (zDB 61 rfl) rfl rfl rfl rfl (List.mem_cons.2 (.inl rfl)) (zDH h2) (.inl rfl) rfl)<|V va<|nl<|an<|sq<|sq<|rg<|V vm<|V vm<|V vnl<|V vsu<|?_
 obtain ⟨h3,hr⟩:=zAN hr
 obtain ⟨o12,e13,hr⟩:=zA hr
 refine V (zDD (t:=Y1) (l:=0) (h:=(w64 ((List.length p2 : Int) - 1))) (undX 23 rfl) (szX 34 rfl) rfl rfl ⟨_,rfl⟩ h3)<|V vnl<|V vm<|nl<|an<|bl<|?_
 refine zAb (t:=27) rfl (fun hl=>?_)
 refine zAI (S:=Int) (R:=Int×Int×Int) (List.length ((p2.take (Int.toNat (w64 ((List.length p2 : Int) - 1)))).drop (Int.toNat 0)) : Int) (g38o_b0 p0_0 p2) (fun p=>match p with | (i4,s6)=>(⟨[(0,.ptr 0 0),(6,.nilm),(7,.ptr 1 0),(8,.i 0),(9,.map 2),(27,.sl Y1 ((p2.take (Int.toNat (w64 ((List.length p2 : Int) - 1)))).drop (Int.toNat 0))),(28,.i (List.length ((p2.take (Int.toNat (w64 ((List.length p2 : Int) - 1)))).drop (Int.toNat 0)) : Int)),(29,.i i4)],[(0,.var 64 [.map 3,.i p0_0.2.1,.i p0_0.2.2]),(1,.var 38 [.i 0,.i 0]),(2,.map Y1 (.raw ifN) ((mget p0_0.1 s6).getD [])),(3,.mpt .i (.mp Y1 (.dat (.raw ifN))) p0_0.1 [(s6,2)])],4⟩ : AS)) (fun o e st=>match o with | .inl s6=>e=.exit 0∧Wk X st ⟨[(6,.nilm),(7,.ptr 1 0),(8,.i 0),(9,.map 2)],[(0,.var 64 [.map 3,.i p0_0.2.1,.i p0_0.2.2]),(1,.var 38 [.i 0,.i 0]),(2,.map Y1 (.raw ifN) ((mget p0_0.1 s6).getD [])),(3,.mpt .i (.mp Y1 (.dat (.raw ifN))) p0_0.1 [(s6,2)])],4⟩ | .inr (s9,s10,s11)=>e=.ret∧Wk X st ⟨[(6,.nilm),(7,.ptr 1 0),(8,.i s9)],[(0,.tr E64 (some p0_0)),(1,.var 38 [.i s10,.i s11])],2⟩) (zAf hl) e13 (by exact zAA hX [0,1,3,2] 4 rfl rfl wS wO) ?_ ?_
 ·intro e st hx
  rcases o12 with s6 | ⟨s9,s10,s11⟩
  ·obtain ⟨rfl,hw⟩:=hx
   refine bh<|an<|(zAY hw)<|sq<|rg<|V vm<|?_
   refine V (zAs (qs:=[]) (cs:=[.i 0,.i 0]) bt38 rfl rfl rfl)<|V va<|O os<|V va<|?_
   obtain rfl:=Option.some.inj hr
   exact nl<|an<|cr<|zAe (l':=[(6,.map 1),(7,.rp [.i 0,.i 0]),(8,.i 0)]) (Hs:=[(0,.var 64 [.map 2,.i p0_0.2.1,.i p0_0.2.2]),(1,.map Y1 (.raw ifN) ((mget p0_0.1 s6).getD [])),(2,.mpt .i (.mp Y1 (.dat (.raw ifN))) p0_0.1 [(s6,1)])]) (n:=3) (zAA hX [0,2,3] 4 rfl rfl wS wO) rfl rfl rfl ⟨rfl,(.inr ⟨_,2,rfl,(tsX 38 rfl),rfl,rfl⟩),rfl,trivial⟩
  ·obtain ⟨rfl,hw⟩:=hx
   obtain rfl:=Option.some.inj hr
   exact zAE (zAC (zAe (l':=[(6,.nilm),(7,.rp [.i s10,.i s11]),(8,.i s9)]) (Hs:=[(0,.tr E64 (some p0_0))]) (n:=1) (Wk.trans hw (zAA hX [0] 4 rfl rfl wS wO)) rfl rfl rfl ⟨rfl,(.inr ⟨_,2,rfl,(tsX 38 rfl),rfl,rfl⟩),rfl,trivial⟩))
 ·rintro i4 s6 o ho
  refine sq<|rg<|V vls<|nl<|an<|sq<|?_
  refine zAO (b:=decide (i4 < (List.length ((p2.take (Int.toNat (w64 ((List.length p2 : Int) - 1)))).drop (Int.toNat 0)) : Int))) rfl (fun hc14=>?_) (fun hc14=>?_)
  ·obtain ⟨q,hr,rfl⟩:=zA7 hc14 ho
   obtain ⟨o18,e19,hr⟩:=zA hr
   refine sk<|an<|?_
   refine zAy (S:=Int) (R:=Int×Int) (fun s=>match s with | s15=>(⟨[(0,.ptr 0 0),(6,.nilm),(7,.ptr 1 0),(8,.i 0),(9,.map 2),(27,.sl Y1 ((p2.take (Int.toNat (w64 ((List.length p2 : Int) - 1)))).drop (Int.toNat 0))),(28,.i (List.length ((p2.take (Int.toNat (w64 ((List.length p2 : Int) - 1)))).drop (Int.toNat 0)) : Int)),(29,.i i4)],[(0,.var 64 [.map 3,.i p0_0.2.1,.i p0_0.2.2]),(1,.var 38 [.i 0,.i 0]),(2,.map Y1 (.raw ifN) ((mget p0_0.1 s15).getD [])),(3,.mpt .i (.mp Y1 (.dat (.raw ifN))) p0_0.1 [(s15,2)])],4⟩ : AS)) (fun r e st=>match r with | (s16,s17)=>e=.ret∧Wk X st ⟨[(6,.nilm),(7,.ptr 1 0),(8,.i s16)],[(0,.tr E64 (some p0_0)),(1,.var 38 [.i i4,.i s17])],2⟩) e19 (fun hr=>?_) ?_ ?_
   ·obtain ⟨x20,e21,hr⟩:=zA hr
    refine bl<|sq<|rg<|V vm<|?_
    refine V (zAQ (t:=Y1) (e:=x20) (undX 23 rfl) (szX 34 rfl) rfl rfl e21)<|V vlR<|O oa<|V va<|O os<|nl<|an<|sq<|rg<|V vm<|V vlP<|?_
    refine V (zBG (kx:=x20) (r:=.val ((mget ((mget p0_0.1 s6).getD []) x20).getD ifN).1) (undX 61 rfl) kt34 zw84 rfl rfl rfl rfl rfl)<|nl<|an<|bl<|sq<|rg<|?_
    obtain ⟨h22,hr⟩:=zAN hr
    refine V (av_ifnil (c:=((mget ((mget p0_0.1 s6).getD []) x20).getD ifN)) unI84 rfl rfl h22)<|nl<|an<|?_
    refine cnd (fun hc23 hr=>?_) (fun hc23 hr=>?_)
    ·refine sq<|rg<|V va<|nl<|an<|sq<|rg<|V vm<|?_
     refine V (zAs (qs:=[(0,[.i i4]),(1,[.i 1])]) (cs:=[.i i4,.i 1]) bt38 rfl rfl rfl)<|V va<|O os<|V va<|?_
     obtain ⟨h24,hr⟩:=zAN hr
     obtain rfl:=Option.some.inj hr
     exact nl<|an<|cr<|zAE (zAE (⟨rfl,(Wk.trans (zDT (i:=3) (n:=2) (kx:=s6) (hs':=[]) ((mget p0_0.1 s6).getD []) (js:=[2]) rfl (List.mem_cons.2 (.inl rfl)) (zDH h24) ⟨2,rfl,rfl,rfl⟩ rfl rfl holes1) (Wk.trans (pk (i:=0) (e:=F64) (js:=[3]) p0_0) (zAA hX [0,1] 4 rfl rfl wS wO)))⟩))
    ·obtain ⟨x25,e26,hr⟩:=zA hr
     refine sq<|rg<|V (av_assertS (c:=((mget ((mget p0_0.1 s6).getD []) x20).getD ifN)) (undX 91 rfl) (zDB 91 rfl) rfl e26)<|V vx<|V vx<|nl<|an<|?_
     refine cnd (fun hc27 hr=>?_) (fun hc27 hr=>?_)
     ·refine sq<|rg<|V va<|nl<|an<|sq<|rg<|V vm<|?_
      refine V (zAs (qs:=[(0,[.i i4]),(1,[.i 2])]) (cs:=[.i i4,.i 2]) bt38 rfl rfl rfl)<|V va<|O os<|V va<|?_
      obtain ⟨h28,hr⟩:=zAN hr
      obtain rfl:=Option.some.inj hr
      exact nl<|an<|cr<|zAE (zAE (⟨rfl,(Wk.trans (zDT (i:=3) (n:=2) (kx:=s6) (hs':=[]) ((mget p0_0.1 s6).getD []) (js:=[2]) rfl (List.mem_cons.2 (.inl rfl)) (zDH h28) ⟨2,rfl,rfl,rfl⟩ rfl rfl holes1) (Wk.trans (pk (i:=0) (e:=F64) (js:=[3]) p0_0) (zAA hX [0,1] 4 rfl rfl wS wO)))⟩))
     ·obtain ⟨x29,e30,hr⟩:=zA hr
      refine sq<|rg<|V (zDe (c:=((mget ((mget p0_0.1 s6).getD []) x20).getD ifN)) (undX 86 rfl) (zDB 86 rfl) rfl e30)<|V vx<|V vx<|nl<|an<|?_
      refine cnd (fun hc31 hr=>?_) (fun hc31 hr=>?_)
      ·refine sq<|rg<|V va<|nl<|an<|sq<|rg<|V vm<|V vnp<|V vfp<|V vlp<|V vm<|?_
       cases hc32 : (mget p0_0.1 x29.1).isSome
       ·have hr:=zD2 hc32 hr
        refine V (av_look_no (kx:=x29.1) (undX 62 rfl) kt3 (zDB 61 rfl) rfl rfl rfl rfl (isNone_mget hc32) rfl)<|V vm<|V vx<|V vx<|V va<|V va<|nl<|an<|sq<|sq<|rg<|V vm<|V vno<|nl<|an<|?_
        refine zCZ rfl<|sq<|rg<|V vm<|?_
        refine V (zAs (qs:=[(0,[.i i4]),(1,[.i 1])]) (cs:=[.i i4,.i 1]) bt38 rfl rfl rfl)<|V va<|O os<|V va<|?_
        obtain ⟨h33,hr⟩:=zAN hr
        obtain rfl:=Option.some.inj hr
        exact nl<|an<|cr<|zAC (zAE (zAE (⟨rfl,(Wk.trans (zDT (i:=3) (n:=2) (kx:=s6) (hs':=[]) ((mget p0_0.1 s6).getD []) (js:=[2]) rfl (List.mem_cons.2 (.inl rfl)) (zDH h33) ⟨2,rfl,rfl,rfl⟩ rfl rfl holes1) (Wk.trans (pk (i:=0) (e:=F64) (js:=[3]) p0_0) (zAA hX [0,1] 4 rfl rfl wS wO)))⟩)))
       ·have hr:=zD1 hc32 hr
        obtain ⟨h34,hr⟩:=zAN hr
        refine zAG (zDT (i:=3) (n:=2) (kx:=s6) (hs':=[]) ((mget p0_0.1 s6).getD []) (js:=[2]) rfl (List.mem_cons.2 (.inl rfl)) (zDH h34) ⟨2,rfl,rfl,rfl⟩ rfl rfl holes1)<|zAG (wk_open (i:=3) (kx:=x29.1) (yx:=((mget p0_0.1 x29.1).getD [])) [.map Y1 (.raw ifN) ((mget p0_0.1 x29.1).getD [])] rfl rfl (zDH hc32) (fun n h=>by cases h) rfl rfl)<|V (av_look_own (n:=5) (kx:=x29.1) (yx:=((mget p0_0.1 x29.1).getD [])) (av:=.map 5) (r:=.tup [.map 5,.bool true]) (ok:=true) (undX 62 rfl) kt3 (zDB 61 rfl) rfl rfl rfl rfl (List.mem_cons.2 (.inl rfl)) (zDH hc32) (.inl rfl) rfl)<|V vm<|V vx<|V vx<|V va<|V va<|nl<|an<|sq<|sq<|rg<|V vm<|V vno<|nl<|an<|?_
        refine zA3 rfl<|sk<|an<|rg<|V vm<|V va<|?_
        obtain rfl:=Option.some.inj hr
        exact zAJ (zAS (zAS ((zAA hX [0,1,5,3] 4 rfl rfl wS wO))))
      ·obtain rfl:=Option.some.inj hr
       exact zAv (zAS (zAS ((zAA hX [0,1,2,3] 4 rfl rfl wS wO))))
   ·rintro s15 rfl
    refine rg<|V vad<|V vm<|?_
    obtain rfl:=Option.some.inj hr
    exact zAJ ((zAA hX [0,1,2,3] 4 rfl rfl wS wO))
   ·rintro r rfl e st hne hx
    obtain ⟨s16,s17⟩:=r
    obtain ⟨rfl,hw⟩:=hx
    obtain rfl:=Option.some.inj hr
    exact ⟨rfl,(Wk.trans hw (zAA hX [0,1] 4 rfl rfl wS wO))⟩
  ·obtain rfl:=zA8 hc14 ho
   exact zAH (zAF (⟨rfl,(zAA hX [0,1,2,3] 4 rfl rfl wS wO)⟩))
theorem g40_runs {p0_0:ZP}{p1:Int}{p2:ZN}{p3:zDL}{p4:Bool}{r:(Int×Int)×Int×(ZP)}(hr:g40 p0_0 p1 p2 p3 p4=some r) : Runs Tryz.prog 40 [.ptr 0 0,.i p1,.sl Y1 p2,.val p3.1,.bool p4] [.tr E64 (some p0_0)] (fun q Hq=>q=[.agg [.i r.1.1,.i r.1.2],.i r.2.1]∧Hq=[.tr E64 (some r.2.2)]):=by
 refine zAW Tryz.func40 Tryz.ntmps40 rfl (rs:=[.cell 10 38,.tmp 11]) rfl rfl fun w0 X hX=>?_
 obtain ⟨x2,e3,hr⟩:=zA hr
 refine sq<|rg<|O oa<|V va<|nl<|an<|sq<|sq<|rg<|V vm<|V vm<|V vm<|?_
 refine zAG (zAd (i:=0) [.map 2,.i p0_0.2.1,.i p0_0.2.2] [.mpt .i (.mp Y1 (.dat (.raw ifN))) p0_0.1 []] rfl rfl rfl rfl)<|V (zAj (as':=[.ptr 0 0,.i p1,.sl Y1 p2]) (f26_runs e3).x ent37 rfl ⟨cv0,cv0,cv0,trivial⟩ rfl rfl)<|V va<|nl<|an<|sq<|rg<|V vm<|V vne<|nl<|an<|?_
 refine cnd (fun hc4 hr=>?_) (fun hc4 hr=>?_)
 ·refine sq<|rg<|V (zAs (qs:=[]) (cs:=[.i 0,.i 0]) bt38 rfl rfl rfl)<|V vm<|O os<|V va<|?_
  obtain rfl:=Option.some.inj hr
  exact nl<|an<|cr<|zAC (zAe (l':=[(10,.rp [.i 0,.i 0]),(11,.i x2)]) (Hs:=[(0,.tr E64 (some p0_0))]) (n:=1) (Wk.trans (pk (i:=0) (e:=F64) (js:=[2]) p0_0) (zAA hX [0] 4 rfl rfl wS wO)) rfl rfl rfl ⟨(.inr ⟨_,2,rfl,(tsX 38 rfl),rfl,rfl⟩),rfl,trivial⟩)
 ·obtain ⟨o6,e7,hr⟩:=zA hr
  refine sk<|an<|?_
  refine zAy (S:=Unit) (R:=Int) (fun s=>match s with | ()=>(⟨[(0,.ptr 0 0),(1,.i p1),(2,.sl Y1 p2),(3,.val p3.1),(4,.bool p4),(10,.ptr 1 0),(11,.i 0)],[(0,.tr E64 (some p0_0)),(1,.var 38 [.i 0,.i 0])],2⟩ : AS)) (fun r e st=>match r with | s5=>e=.ret∧Wk X st ⟨[(10,.ptr 1 0),(11,.i s5)],[(0,.tr E64 (some p0_0)),(1,.var 38 [.i 0,.i 0])],2⟩) e7 (fun hr=>?_) ?_ ?_
  ·obtain ⟨x8,e9,hr⟩:=zA hr
   refine sq<|rg<|V vm<|nl<|an<|bl<|sq<|rg<|?_
   refine V (av_assertS (c:=p3) (undX 91 rfl) (zDB 91 rfl) rfl e9)<|V vx<|V vx<|nl<|an<|?_
   refine cnd (fun hc10 hr=>?_) (fun hc10 hr=>?_)
   ·refine sq<|rg<|V va<|nl<|an<|sq<|rg<|V vm<|V vnt<|V vgt<|nl<|an<|?_
    refine cnd (fun hc11 hr=>?_) (fun hc11 hr=>?_)
    ·refine sq<|rg<|V (zAs (qs:=[]) (cs:=[.i 0,.i 0]) bt38 rfl rfl rfl)<|O os<|V va<|?_
     obtain rfl:=Option.some.inj hr
     exact nl<|an<|cr<|zAE (⟨rfl,(Wk.trans (pk (i:=0) (e:=F64) (js:=[2]) p0_0) (zAA hX [0,1] 4 rfl rfl wS wO))⟩)
    ·obtain rfl:=Option.some.inj hr
     exact zAv (zAS ((Wk.trans (pk (i:=0) (e:=F64) (js:=[2]) p0_0) (zAA hX [0,1] 4 rfl rfl wS wO))))
   ·obtain ⟨x12,e13,hr⟩:=zA hr
    refine sq<|rg<|V (zDe (c:=p3) (undX 86 rfl) (zDB 86 rfl) rfl e13)<|V vx<|V vx<|nl<|an<|?_
    refine cnd (fun hc14 hr=>?_) (fun hc14 hr=>?_)
    ·refine sq<|rg<|V va<|nl<|an<|sq<|rg<|V vm<|V vnp<|V vfp<|V vlp<|V vm<|?_
     refine V (av_look_any (kx:=x12.1) (undX 62 rfl) kt3 (zDB 61 rfl) rfl rfl rfl rfl)<|V vm<|V vx<|V vx<|V va<|V va<|nl<|an<|sq<|rg<|V vm<|V vno<|nl<|an<|?_
     refine cnd (fun hc15 hr=>?_) (fun hc15 hr=>?_)
     ·refine sq<|rg<|V (zAs (qs:=[]) (cs:=[.i 0,.i 0]) bt38 rfl rfl rfl)<|O os<|V va<|?_
      obtain rfl:=Option.some.inj hr
      exact nl<|an<|cr<|zAE (⟨rfl,(Wk.trans (pk (i:=0) (e:=F64) (js:=[2]) p0_0) (zAA hX [0,1] 4 rfl rfl wS wO))⟩)
     ·obtain rfl:=Option.some.inj hr
      exact zAv (zAS ((Wk.trans (pk (i:=0) (e:=F64) (js:=[2]) p0_0) (zAA hX [0,1] 4 rfl rfl wS wO))))
    ·obtain rfl:=Option.some.inj hr
     exact zAv (zAS ((Wk.trans (pk (i:=0) (e:=F64) (js:=[2]) p0_0) (zAA hX [0,1] 4 rfl rfl wS wO))))
  ·rintro _ rfl
   obtain ⟨o16,e17,hr⟩:=zA hr
   refine sq<|rg<|V vm<|V vm<|V vm<|?_
   rcases o16 with x18 | x19
   ·refine zAK (zAP (σ:=[0]) (as':=[.ptr 0 0,.i p1,.sl Y1 p2]) (g38o_runs e17).x ent38 rfl ⟨cv0,cv0,cv0,trivial⟩ rfl rfl rfl ?_)
    refine V vm<|V vx<|V vx<|V vx<|O oa<|V va<|O os<|V va<|nl<|an<|sq<|sq<|rg<|V vm<|V vne<|nl<|an<|?_
    refine cnd (fun hc20 hr=>?_) (fun hc20 hr=>?_)
    ·refine sq<|rg<|V vlP<|V vm<|O os<|V va<|?_
     obtain rfl:=Option.some.inj hr
     exact nl<|an<|cr<|zAC (zAe (l':=[(10,.rp [.i x18.1.1,.i x18.1.2]),(11,.i x18.2)]) (Hs:=[(0,.tr E64 (some p0_0))]) (n:=1) (zAA hX [0] 4 rfl rfl wS wO) rfl rfl rfl ⟨(.inr ⟨_,2,rfl,(tsX 38 rfl),rfl,rfl⟩),rfl,trivial⟩)
    ·obtain ⟨x21,e22,hr⟩:=zA hr
     refine sk<|an<|sq<|rg<|V vm<|V vm<|V vnl<|V vsu<|?_
     refine V (zAQ (t:=Y1) (e:=x21) (undX 23 rfl) (szX 34 rfl) rfl rfl e22)<|V vlR<|O oa<|O os<|?_
     exact absurd hr (by simp)
   ·refine zAK (zAP (σ:=[0]) (as':=[.ptr 0 0,.i p1,.sl Y1 p2]) (g38o_runs e17).x ent38 rfl ⟨cv0,cv0,cv0,trivial⟩ rfl rfl rfl ?_)
    obtain ⟨x23,e24,hr⟩:=zA hr
    obtain ⟨o29,e30,hr⟩:=zA hr
    refine V vm<|V vx<|V vx<|V vx<|O oa<|V va<|O os<|V va<|nl<|an<|sq<|sq<|rg<|V vm<|V vne<|nl<|an<|?_
    refine zA3 rfl<|sk<|an<|sq<|rg<|V vm<|V vm<|V vnl<|V vsu<|?_
    refine V (zAQ (t:=Y1) (e:=x23) (undX 23 rfl) (szX 34 rfl) rfl rfl e24)<|V vlR<|O oa<|O os<|nl<|an<|sq<|rg<|V vm<|V vlP<|?_
    refine V (av_lookup2 (kx:=x23) (r:=.tup [.val ((mget ((mget p0_0.1 x19).getD []) x23).getD ifN).1,.bool ((mget ((mget p0_0.1 x19).getD []) x23).isSome)]) (undX 61 rfl) kt34 zw84 rfl rfl rfl rfl rfl)<|V vm<|V vx<|V vx<|V va<|V va<|nl<|an<|?_
    refine zAy (S:=Int) (R:=Int×Int×Int) (fun s=>match s with | s25=>(⟨[(3,.val p3.1),(10,.ptr 1 0),(11,.i 0),(17,.map 2),(20,.ptr 3 0)],[(0,.var 64 [.map 4,.i p0_0.2.1,.i s25]),(1,.var 38 [.i 0,.i 0]),(2,.map Y1 (.raw ifN) ((mget p0_0.1 x19).getD [])),(3,.var 34 [.str x23.1,.str x23.2]),(4,.mpt .i (.mp Y1 (.dat (.raw ifN))) p0_0.1 [(x19,2)])],5⟩ : AS)) (fun r e st=>match r with | (s26,s27,s28)=>e=.ret∧Wk X st ⟨[(10,.ptr 1 0),(11,.i s26)],[(0,.tr E64 (some p0_0)),(1,.var 38 [.i s27,.i s28])],2⟩) e30 (fun hr=>?_) ?_ ?_
    ·refine bl<|sq<|?_
     refine zAa [0,2,3,4,10,11,17,20,21,22] [(true,.bool ((mget ((mget p0_0.1 x19).getD []) x23).isSome)),(true,.bool ((mget ((mget p0_0.1 x19).getD []) x23).isSome)),((mget ((mget p0_0.1 x19).getD []) x23).isSome,.bool p4),((mget ((mget p0_0.1 x19).getD []) x23).isSome,.bool (!p4)),(true,.bool (((mget ((mget p0_0.1 x19).getD []) x23).isSome)&&(!p4))),(true,.bool (((mget ((mget p0_0.1 x19).getD []) x23).isSome)&&(!p4)))] [[],[0],[1],[2,1],[3,1],[4]] [5] rfl rfl rfl rfl rfl ⟨?_,?_,?_,?_,?_,?_,trivial⟩ (zAD ⟨rfl,trivial⟩) ?_
     ·exact oB wm
     ·exact oB wm
     ·exact oB wm
     ·exact oB wno
     ·exact zBe
     ·exact oB wa
     refine an<|?_
     refine cnd (fun hc31 hr=>?_) (fun hc31 hr=>?_)
     ·refine sq<|rg<|V (zAs (qs:=[]) (cs:=[.i 0,.i 0]) bt38 rfl rfl rfl)<|O os<|V va<|?_
      obtain ⟨h32,hr⟩:=zAN hr
      obtain rfl:=Option.some.inj hr
      exact nl<|an<|cr<|zAE (⟨rfl,(Wk.trans (zDT (i:=3) (n:=2) (kx:=x19) (hs':=[]) ((mget p0_0.1 x19).getD []) (js:=[2]) rfl (List.mem_cons.2 (.inl rfl)) (zDH h32) ⟨2,rfl,rfl,rfl⟩ rfl rfl holes1) (Wk.trans (pk (i:=0) (e:=F64) (js:=[3]) p0_0) (zAA hX [0,1] 4 rfl rfl wS wO)))⟩)
     ·refine sq<|?_
      obtain ⟨h33,hr⟩:=zAN hr
      obtain ⟨h34,hr⟩:=zAN hr
      refine zAa [0,2,3,10,11,17,20,21,22] [(true,.bool ((mget ((mget p0_0.1 x19).getD []) x23).isSome)),(true,.bool ((mget ((mget p0_0.1 x19).getD []) x23).isSome)),((mget ((mget p0_0.1 x19).getD []) x23).isSome,.val ((mget ((mget p0_0.1 x19).getD []) x23).getD ifN).1),((mget ((mget p0_0.1 x19).getD []) x23).isSome,.i ((inv2 91 86 (2:Int) 3 ((mget ((mget p0_0.1 x19).getD []) x23).getD ifN)).getD default)),((mget ((mget p0_0.1 x19).getD []) x23).isSome,.val p3.1),((mget ((mget p0_0.1 x19).getD []) x23).isSome,.i ((inv2 91 86 (2:Int) 3 p3).getD default)),((mget ((mget p0_0.1 x19).getD []) x23).isSome,.bool (!decide (((inv2 91 86 (2:Int) 3 ((mget ((mget p0_0.1 x19).getD []) x23).getD ifN)).getD default)=((inv2 91 86 (2:Int) 3 p3).getD default)))),(true,.bool (((mget ((mget p0_0.1 x19).getD []) x23).isSome)&&(!decide (((inv2 91 86 (2:Int) 3 ((mget ((mget p0_0.1 x19).getD []) x23).getD ifN)).getD default)=((inv2 91 86 (2:Int) 3 p3).getD default))))),(true,.bool (((mget ((mget p0_0.1 x19).getD []) x23).isSome)&&(!decide (((inv2 91 86 (2:Int) 3 ((mget ((mget p0_0.1 x19).getD []) x23).getD ifN)).getD default)=((inv2 91 86 (2:Int) 3 p3).getD default)))))] [[],[0],[1],[2,1],[1],[4,1],[3,5,1],[6,1],[7]] [8] rfl rfl rfl rfl rfl ⟨?_,?_,?_,?_,?_,?_,?_,?_,?_,trivial⟩ (zAD ⟨rfl,trivial⟩) ?_
      ·exact oB wm
      ·exact oB wm
      ·exact oB wm
      ·exact zAr ⟨rfl,rfl,rfl,_,rfl,rfl⟩ (fun hg=>zAD ⟨hg,rfl,trivial⟩) (fun hg=>av_inv2 (c:=((mget ((mget p0_0.1 x19).getD []) x23).getD ifN)) rfl (zAz h33 hg) meth91_188 meth86_187 (f69_runs (r:=2) rfl) (f68_runs (r:=3) rfl) ent188 ent187 rfl)
      ·exact oB wm
      ·exact zAr ⟨rfl,rfl,rfl,_,rfl,rfl⟩ (fun hg=>zAD ⟨hg,rfl,trivial⟩) (fun hg=>av_inv2 (c:=p3) rfl (zAz h34 hg) meth91_188 meth86_187 (f69_runs (r:=2) rfl) (f68_runs (r:=3) rfl) ent188 ent187 rfl)
      ·exact oB wne
      ·exact zBe
      ·exact oB wa
      refine an<|?_
      refine cnd (fun hc35 hr=>?_) (fun hc35 hr=>?_)
      ·obtain ⟨x36,e37,hr⟩:=zA hr
       refine sq<|rg<|V vm<|V vnl<|V vsu<|V vm<|?_
       refine V (av_inv2 (c:=((mget ((mget p0_0.1 x19).getD []) x23).getD ifN)) rfl e37 meth91_188 meth86_187 (f69_runs (r:=2) rfl) (f68_runs (r:=3) rfl) ent188 ent187 rfl)<|?_
       refine V (zAs (qs:=[(0,[.i (w64 ((List.length p2 : Int) - 1))]),(1,[.i x36])]) (cs:=[.i (w64 ((List.length p2 : Int) - 1)),.i x36]) bt38 rfl rfl rfl)<|O os<|V va<|?_
       obtain ⟨h38,hr⟩:=zAN hr
       obtain rfl:=Option.some.inj hr
       exact nl<|an<|cr<|zAE (⟨rfl,(Wk.trans (zDT (i:=3) (n:=2) (kx:=x19) (hs':=[]) ((mget p0_0.1 x19).getD []) (js:=[2]) rfl (List.mem_cons.2 (.inl rfl)) (zDH h38) ⟨2,rfl,rfl,rfl⟩ rfl rfl holes1) (Wk.trans (pk (i:=0) (e:=F64) (js:=[3]) p0_0) (zAA hX [0,1] 4 rfl rfl wS wO)))⟩)
      ·refine sq<|?_
       refine zAa [0,3,10,11,17,20,22] [(true,.bool ((mget ((mget p0_0.1 x19).getD []) x23).isSome)),(true,.bool (!((mget ((mget p0_0.1 x19).getD []) x23).isSome))),(true,.bool (!((mget ((mget p0_0.1 x19).getD []) x23).isSome))),(!((mget ((mget p0_0.1 x19).getD []) x23).isSome),.ptr 0 0),(!((mget ((mget p0_0.1 x19).getD []) x23).isSome),.ptr 0 0),(!((mget ((mget p0_0.1 x19).getD []) x23).isSome),.ptr 0 2),(!((mget ((mget p0_0.1 x19).getD []) x23).isSome),.i p0_0.2.2),(!((mget ((mget p0_0.1 x19).getD []) x23).isSome),.bool (decide (p0_0.2.2=2000))),(true,.bool ((!((mget ((mget p0_0.1 x19).getD []) x23).isSome))&&(decide (p0_0.2.2=2000)))),(true,.bool ((!((mget ((mget p0_0.1 x19).getD []) x23).isSome))&&(decide (p0_0.2.2=2000))))] [[],[0],[1],[2],[3,2],[4,2],[5,2],[6,2],[7,2],[8]] [9] rfl rfl rfl rfl rfl ⟨?_,?_,?_,?_,?_,?_,?_,?_,?_,?_,trivial⟩ (zAD ⟨rfl,trivial⟩) ?_
       ·exact oB wm
       ·exact oB wno
       ·exact oB wm
       ·exact oB wm
       ·exact oB wnp
       ·exact oB wfp
       ·exact oB wlp
       ·exact oB weq
       ·exact zBe
       ·exact oB wa
       refine an<|?_
       refine cnd (fun hc39 hr=>?_) (fun hc39 hr=>?_)
       ·refine sq<|rg<|V (zAs (qs:=[]) (cs:=[.i 0,.i 0]) bt38 rfl rfl rfl)<|O os<|V va<|?_
        obtain ⟨h40,hr⟩:=zAN hr
        obtain rfl:=Option.some.inj hr
        exact nl<|an<|cr<|zAE (⟨rfl,(Wk.trans (zDT (i:=3) (n:=2) (kx:=x19) (hs':=[]) ((mget p0_0.1 x19).getD []) (js:=[2]) rfl (List.mem_cons.2 (.inl rfl)) (zDH h40) ⟨2,rfl,rfl,rfl⟩ rfl rfl holes1) (Wk.trans (pk (i:=0) (e:=F64) (js:=[3]) p0_0) (zAA hX [0,1] 4 rfl rfl wS wO)))⟩)
       ·refine sq<|rg<|V vm<|V vno<|V va<|nl<|an<|?_
        refine cnd (fun hc41 hr=>?_) (fun hc41 hr=>?_)
        ·refine rg<|V vm<|V vnp<|V vfp<|V vlp<|V vad<|V vnp<|V vfp<|O os<|?_
         obtain rfl:=Option.some.inj hr
         exact zAJ (zAS ((zAA hX [0,1,2,5,3] 4 rfl rfl wS wO)))
        ·obtain rfl:=Option.some.inj hr
         exact zAv (zAS ((zAA hX [0,1,2,5,3] 4 rfl rfl wS wO)))
    ·rintro s25 rfl
     refine sq<|rg<|V vm<|V vlP<|V vm<|?_
     refine zAK (zB (kx:=x23) (vx:=p3) (undX 61 rfl) kt34 (.inl rfl) rfl rfl rfl rfl rfl rfl rfl ?_)
     refine nl<|an<|sq<|rg<|V (zAs (qs:=[]) (cs:=[.i 0,.i 0]) bt38 rfl rfl rfl)<|O os<|V va<|?_
     obtain ⟨h42,hr⟩:=zAN hr
     obtain rfl:=Option.some.inj hr
     exact nl<|an<|cr<|zAe (l':=[(10,.rp [.i 0,.i 0]),(11,.i 0)]) (Hs:=[(0,.tr E64 (some ((mset p0_0.1 x19 (mset ((mget p0_0.1 x19).getD []) x23 p3)),p0_0.2.1,s25)))]) (n:=1) (Wk.trans (wk_close (i:=4) (n:=2) (kx:=x19) (hs':=[]) ((mget p0_0.1 x19).getD []) (mset ((mget p0_0.1 x19).getD []) x23 p3) (js:=[2]) rfl (List.mem_cons.2 (.inl rfl)) (zDH h42) ⟨2,rfl,rfl,rfl⟩ rfl rfl holes1) (Wk.trans (pk (i:=0) (e:=F64) (js:=[4]) ((mset p0_0.1 x19 (mset ((mget p0_0.1 x19).getD []) x23 p3)),p0_0.2.1,s25)) (zAA hX [0] 4 rfl rfl wS wO))) rfl rfl rfl ⟨(.inr ⟨_,2,rfl,(tsX 38 rfl),rfl,rfl⟩),rfl,trivial⟩
    ·rintro r rfl e st hne hx
     obtain ⟨s26,s27,s28⟩:=r
     obtain ⟨rfl,hw⟩:=hx
     obtain rfl:=Option.some.inj hr
     exact zAe (l':=[(10,.rp [.i s27,.i s28]),(11,.i s26)]) (Hs:=[(0,.tr E64 (some p0_0))]) (n:=1) (Wk.trans hw (zAA hX [0] 4 rfl rfl wS wO)) rfl rfl rfl ⟨(.inr ⟨_,2,rfl,(tsX 38 rfl),rfl,rfl⟩),rfl,trivial⟩
  ·rintro r rfl e st hne hx
   obtain ⟨s5,rfl⟩ : ∃ x,x=r:=⟨_,rfl⟩
   obtain ⟨rfl,hw⟩:=hx
   obtain rfl:=Option.some.inj hr
   exact zAe (l':=[(10,.rp [.i 0,.i 0]),(11,.i s5)]) (Hs:=[(0,.tr E64 (some p0_0))]) (n:=1) (Wk.trans hw (zAA hX [0] 4 rfl rfl wS wO)) rfl rfl rfl ⟨(.inr ⟨_,2,rfl,(tsX 38 rfl),rfl,rfl⟩),rfl,trivial⟩
theorem g23_runs {p0_0:ZP}{p1:Int}{p2:ZN}{p3:Int}{r:(Int×Int)×Int×(ZP)}(hr:g23 p0_0 p1 p2 p3=some r) : Runs Tryz.prog 23 [.ptr 0 0,.i p1,.sl Y1 p2,.i p3] [.tr E64 (some p0_0)] (fun q Hq=>q=[.agg [.i r.1.1,.i r.1.2],.i r.2.1]∧Hq=[.tr E64 (some r.2.2)]):=by
 refine zAW Tryz.func23 Tryz.ntmps23 rfl (rs:=[.cell 8 38,.tmp 9]) rfl rfl fun w0 X hX=>?_
 obtain ⟨x2,e3,hr⟩:=zA hr
 refine sq<|rg<|O oa<|V va<|nl<|an<|sq<|rg<|V vm<|V vm<|V vm<|V vm<|?_
 refine V (av_mkI (undX 86 rfl) rfl)<|?_
 refine zAK (zAP (σ:=[0]) (as':=[.ptr 0 0,.i p1,.sl Y1 p2,.val (ifI 86 .i64 p3).1,.bool false]) (g40_runs e3).x ent40 rfl ⟨cv0,cv0,cv0,cv0,cv0,trivial⟩ rfl rfl rfl ?_)
 refine V vx<|V vx<|O os<|V va<|?_
 obtain rfl:=Option.some.inj hr
 exact nl<|an<|cr<|zAe (l':=[(8,.rp [.i x2.1.1,.i x2.1.2]),(9,.i x2.2.1)]) (Hs:=[(0,.tr E64 (some x2.2.2))]) (n:=1) (zAA hX [0] 4 rfl rfl wS wO) rfl rfl rfl ⟨(.inr ⟨_,2,rfl,(tsX 38 rfl),rfl,rfl⟩),rfl,trivial⟩
theorem f28_runs {p0:Str×Str}{p1:zDL}{r:(ZB)}(hr:f28 p0 p1=some r) : zBb Tryz.prog 39 [.agg [.str p0.1,.str p0.2],.val p1.1] [.agg [.str r.1.1,.str r.1.2,.str r.2.1,.i r.2.2.1,.bool r.2.2.2]]:=by
 refine zAW Tryz.func39 Tryz.ntmps39 rfl (rs:=[.cell 4 36]) rfl rfl fun w0 X hX=>?_
 obtain ⟨o4,e5,hr⟩:=zA hr
 refine sq<|rg<|O ob<|O oa<|nl<|an<|sq<|rg<|V vlP<|?_
 refine V (zAs (qs:=[(0,[.str p0.1,.str p0.2])]) (cs:=[.str p0.1,.str p0.2,.str ([] : Str),.i 0,.bool false]) bt36 rfl rfl rfl)<|O oa<|O os<|nl<|an<|?_
 refine zAy (S:=Str×Int×Bool) (R:=Unit) (fun s=>match s with | (s1,s2,s3)=>(⟨[(4,.ptr 0 0),(5,.ptr 1 0)],[(0,.var 36 [.str ([] : Str),.str ([] : Str),.str ([] : Str),.i 0,.bool false]),(1,.var 36 [.str p0.1,.str p0.2,.str s1,.i s2,.bool s3])],2⟩ : AS)) (fun _ _ _=>False) e5 (fun hr=>?_) ?_ ?_
 ·obtain ⟨x6,e7,hr⟩:=zA hr
  refine sq<|rg<|V vm<|nl<|an<|bl<|sq<|rg<|?_
  refine V (av_assertS (c:=p1) (undX 91 rfl) (zDB 91 rfl) rfl e7)<|V vx<|V vx<|nl<|an<|?_
  refine cnd (fun hc8 hr=>?_) (fun hc8 hr=>?_)
  ·refine sq<|rg<|V va<|nl<|an<|rg<|V vm<|V vfp<|O os<|?_
   obtain rfl:=Option.some.inj hr
   exact zAJ (zAS ((zAA hX [1,2] 4 rfl rfl wS wO)))
  ·obtain ⟨x9,e10,hr⟩:=zA hr
   refine sq<|rg<|V (zDe (c:=p1) (undX 86 rfl) (zDB 86 rfl) rfl e10)<|V vx<|V vx<|nl<|an<|?_
   refine cnd (fun hc11 hr=>?_) (fun hc11 hr=>?_)
   ·refine sq<|rg<|V va<|nl<|an<|rg<|V vm<|V vfp<|O os<|V vfp<|O os<|?_
    obtain rfl:=Option.some.inj hr
    exact zAJ (zAS ((zAA hX [1,2] 4 rfl rfl wS wO)))
   ·obtain rfl:=Option.some.inj hr
    exact zAv (zAS ((zAA hX [1,2] 4 rfl rfl wS wO)))
 ·rintro ⟨s1,s2,s3⟩ rfl
  refine sq<|rg<|V vlP<|O os<|?_
  obtain rfl:=Option.some.inj hr
  exact nl<|an<|cr<|zAk (l':=[(4,.rp [.str p0.1,.str p0.2,.str s1,.i s2,.bool s3])]) (zAA hX [] 4 rfl rfl wS trivial) rfl ⟨(.inr ⟨_,5,rfl,(tsX 36 rfl),rfl,rfl⟩),trivial⟩
 ·exact fun r h e st hne hx=>hx.elim
theorem zDi {p0:ZP}{p1:Int}{p2:ZN}{r:(ZB)×(Int×Int)×Int}(hr:f16 p0 p1 p2=some r) : zBb Tryz.prog 11 [.rp [.dm .i (.map Y1 (.raw ifN)) p0.1,.i p0.2.1,.i p0.2.2],.i p1,.sl Y1 p2] [.agg [.str r.1.1.1,.str r.1.1.2,.str r.1.2.1,.i r.1.2.2.1,.bool r.1.2.2.2],.agg [.i r.2.1.1,.i r.2.1.2],.i r.2.2]:=by
 refine zAW Tryz.func11 Tryz.ntmps11 rfl (rs:=[.cell 6 36,.cell 7 38,.tmp 8]) rfl rfl fun w0 X hX=>?_
 obtain ⟨x1,e2,hr⟩:=zA hr
 refine sq<|rg<|O oa<|O oa<|V va<|nl<|an<|sq<|sq<|rg<|V vm<|V vm<|V vm<|?_
 refine V (zAV (f26_runs e2).x ent37 rfl rfl)<|V va<|nl<|an<|sq<|rg<|V vm<|V vne<|nl<|an<|?_
 refine cnd (fun hc3 hr=>?_) (fun hc3 hr=>?_)
 ·refine sq<|rg<|V (zAs (qs:=[]) (cs:=[.str ([] : Str),.str ([] : Str),.str ([] : Str),.i 0,.bool false]) bt36 rfl rfl rfl)<|?_
  refine V (zAs (qs:=[]) (cs:=[.i 0,.i 0]) bt38 rfl rfl rfl)<|V vm<|O os<|O os<|V va<|?_
  obtain rfl:=Option.some.inj hr
  exact nl<|an<|cr<|zAC (zAk (l':=[(6,.rp [.str ([] : Str),.str ([] : Str),.str ([] : Str),.i 0,.bool false]),(7,.rp [.i 0,.i 0]),(8,.i x1)]) (zAA hX [] 4 rfl rfl wS trivial) rfl ⟨(.inr ⟨_,5,rfl,(tsX 36 rfl),rfl,rfl⟩),(.inr ⟨_,2,rfl,(tsX 38 rfl),rfl,rfl⟩),rfl,trivial⟩)
 ·obtain ⟨x4,e5,hr⟩:=zA hr
  refine sk<|an<|sq<|rg<|V vm<|V vm<|V vm<|?_
  refine V (zAV (g38_runs e5).x ent38 rfl rfl)<|V vm<|V vx<|V vx<|V vx<|O oa<|V va<|O os<|V va<|nl<|an<|sq<|sq<|rg<|V vm<|V vne<|nl<|an<|?_
  refine cnd (fun hc6 hr=>?_) (fun hc6 hr=>?_)
  ·refine sq<|?_
   let c7 : Nat×AV:=(0,.rp [.dm .i (.map Y1 (.raw ifN)) p0.1,.i p0.2.1,.i p0.2.2])
   let c8 : Nat×AV:=(2,.sl Y1 p2)
   let c9 : Nat×AV:=(6,.ptr 0 0)
   let c10 : Nat×AV:=(7,.ptr 1 0)
   let c11 : Nat×AV:=(8,.i 0)
   let c12 : Nat×AV:=(11,.ptr 2 0)
   let c13 : Nat×AV:=(10,.dm Y1 (.raw ifN) x4.1)
   let c14 : Nat×AV:=(12,.i x4.2.2)
   let c15 : Nat×AO:=(0,.var 36 [.str ([] : Str),.str ([] : Str),.str ([] : Str),.i 0,.bool false])
   let c16 : Nat×AO:=(1,.var 38 [.i 0,.i 0])
   let c17 : Nat×AO:=(2,.var 38 [.i x4.2.1.1,.i x4.2.1.2])
   let c18 : Nat×AV:=(37,.agg [.str ([] : Str),.str ([] : Str),.str ([] : Str),.i 0,.bool false])
   let c19 : Nat×AV:=(38,.agg [.i x4.2.1.1,.i x4.2.1.2])
   let c20 : Nat×AV:=(39,.i x4.2.2)
   let c21 : Nat×AO:=(1,.var 38 [.i x4.2.1.1,.i x4.2.1.2])
   refine awc_drawS mixed (([dF,dF,dF,dF,dF,dF],⟨[c7,c8,c9,c10,c11,c12,c13,c14],[c15,c16,c17],3⟩,[0,1,2])::([dT,dF,dF,dF,dF,dF],⟨[c7,c8,c9,c10,c11,c12,c13,c14,c18],[c15,c16,c17],3⟩,[1,2,3])::([dF,dT,dF,dF,dF,dF],⟨[c7,c8,c9,c10,c11,c12,c13,c14,c19],[c15,c16,c17],3⟩,[0,2])::([dF,dF,dT,dF,dF,dF],⟨[c7,c8,c9,c10,c11,c12,c13,c14,c20],[c15,c16,c17],3⟩,[0,1])::([dT,dT,dF,dF,dF,dF],⟨[c7,c8,c9,c10,c11,c12,c13,c14,c18,c19],[c15,c16,c17],3⟩,[2,3])::([dT,dF,dT,dF,dF,dF],⟨[c7,c8,c9,c10,c11,c12,c13,c14,c18,c20],[c15,c16,c17],3⟩,[1,3])::([dT,dF,dF,dT,dF,dF],⟨[c7,c8,c9,c10,c11,c12,c13,c14,c18],[c15,c16,c17],3⟩,[1,2])::([dF,dT,dT,dF,dF,dF],⟨[c7,c8,c9,c10,c11,c12,c13,c14,c19,c20],[c15,c16,c17],3⟩,[0])::([dT,dT,dT,dF,dF,dF],⟨[c7,c8,c9,c10,c11,c12,c13,c14,c18,c19,c20],[c15,c16,c17],3⟩,[3])::([dT,dT,dF,dT,dF,dF],⟨[c7,c8,c9,c10,c11,c12,c13,c14,c18,c19],[c15,c16,c17],3⟩,[2,4])::([dT,dF,dT,dT,dF,dF],⟨[c7,c8,c9,c10,c11,c12,c13,c14,c18,c20],[c15,c16,c17],3⟩,[1])::([dT,dT,dT,dT,dF,dF],⟨[c7,c8,c9,c10,c11,c12,c13,c14,c18,c19,c20],[c15,c16,c17],3⟩,[4])::([dT,dT,dF,dT,dT,dF],⟨[c7,c8,c9,c10,c11,c12,c13,c14,c18,c19],[c15,c21,c17],3⟩,[2])::([dT,dT,dT,dT,dT,dF],⟨[c7,c8,c9,c10,c11,c12,c13,c14,c18,c19,c20],[c15,c21,c17],3⟩,[5])::([dT,dT,dT,dT,dT,dT],⟨[c7,c8,c9,c10,(8,.i x4.2.2),c12,c13,c14,c18,c19,c20],[c15,c21,c17],3⟩,[])::[]) ⟨[c7,c8,c9,c10,c11,c12,c13,c14],[c15,c16,c17],3⟩ ⟨[c7,c8,c9,c10,(8,.i x4.2.2),c12,c13,c14,c18,c19,c20],[c15,c21,c17],3⟩ (zAA hX [0,1,2] 4 rfl rfl wS wO) rfl rfl rfl rfl rfl ?_ ?_
   ·refine zDs (zDr rfl rfl (aV (zAs (qs:=[]) (cs:=[.str ([] : Str),.str ([] : Str),.str ([] : Str),.i 0,.bool false]) bt36 rfl rfl rfl) hX [0,1,2])<|zDr rfl rfl (aV (zDG (tsX 38 rfl) rfl rfl rfl rfl) hX [0,1,2])<|zDr rfl rfl (aV (zAg rfl) hX [0,1,2]) zDt)<|zDs (zDr rfl rfl (aV (zDG (tsX 38 rfl) rfl rfl rfl rfl) hX [0,1,2])<|zDr rfl rfl (aV (zAg rfl) hX [0,1,2])<|zDr rfl rfl (zDI (szX 36 rfl) rfl rfl rfl rfl rfl rfl rfl (wkA hX [0,1,2])) zDt)<|zDs (zDr rfl rfl (aV (zAs (qs:=[]) (cs:=[.str ([] : Str),.str ([] : Str),.str ([] : Str),.i 0,.bool false]) bt36 rfl rfl rfl) hX [0,1,2])<|zDr rfl rfl (aV (zAg rfl) hX [0,1,2]) zDt)<|zDs (zDr rfl rfl (aV (zAs (qs:=[]) (cs:=[.str ([] : Str),.str ([] : Str),.str ([] : Str),.i 0,.bool false]) bt36 rfl rfl rfl) hX [0,1,2])<|zDr rfl rfl (aV (zDG (tsX 38 rfl) rfl rfl rfl rfl) hX [0,1,2]) zDt)<|zDs (zDr rfl rfl (aV (zAg rfl) hX [0,1,2])<|zDr rfl rfl (zDI (szX 36 rfl) rfl rfl rfl rfl rfl rfl rfl (wkA hX [0,1,2])) zDt)<|zDs (zDr rfl rfl (aV (zDG (tsX 38 rfl) rfl rfl rfl rfl) hX [0,1,2])<|zDr rfl rfl (zDI (szX 36 rfl) rfl rfl rfl rfl rfl rfl rfl (wkA hX [0,1,2])) zDt)<|zDs (zDr rfl rfl (aV (zDG (tsX 38 rfl) rfl rfl rfl rfl) hX [0,1,2])<|zDr rfl rfl (aV (zAg rfl) hX [0,1,2]) zDt)<|zDs (zDr rfl rfl (aV (zAs (qs:=[]) (cs:=[.str ([] : Str),.str ([] : Str),.str ([] : Str),.i 0,.bool false]) bt36 rfl rfl rfl) hX [0,1,2]) zDt)<|zDs (zDr rfl rfl (zDI (szX 36 rfl) rfl rfl rfl rfl rfl rfl rfl (wkA hX [0,1,2])) zDt)<|zDs (zDr rfl rfl (aV (zAg rfl) hX [0,1,2])<|zDr rfl rfl (zDI (szX 38 rfl) rfl rfl rfl rfl rfl rfl rfl (wkA hX [0,1,2])) zDt)<|zDs (zDr rfl rfl (aV (zDG (tsX 38 rfl) rfl rfl rfl rfl) hX [0,1,2]) zDt)<|zDs (zDr rfl rfl (zDI (szX 38 rfl) rfl rfl rfl rfl rfl rfl rfl (wkA hX [0,1,2])) zDt)<|zDs (zDr rfl rfl (aV (zAg rfl) hX [0,1,2]) zDt)<|zDs (zDr rfl rfl (aV (zDJ rfl) hX [0,1,2]) zDt)<|zDs zDt<|?_
    exact obd_n
   obtain rfl:=Option.some.inj hr
   exact zAZ (zAw (zAC (zAk (l':=[(6,.rp [.str ([] : Str),.str ([] : Str),.str ([] : Str),.i 0,.bool false]),(7,.rp [.i x4.2.1.1,.i x4.2.1.2]),(8,.i x4.2.2)]) (zAA hX [] 4 rfl rfl wS trivial) rfl ⟨(.inr ⟨_,5,rfl,(tsX 36 rfl),rfl,rfl⟩),(.inr ⟨_,2,rfl,(tsX 38 rfl),rfl,rfl⟩),rfl,trivial⟩)))
  ·obtain ⟨x22,e23,hr⟩:=zA hr
   obtain ⟨o25,e26,hr⟩:=zA hr
   refine sk<|an<|sq<|rg<|V vm<|V vm<|V vnl<|V vsu<|?_
   refine V (zAQ (t:=Y1) (e:=x22) (undX 23 rfl) (szX 34 rfl) rfl rfl e23)<|V vlR<|O oa<|O os<|nl<|an<|sq<|rg<|V vm<|V vlP<|?_
   refine V (zDS (kx:=x22) (r:=.tup [.val ((mget x4.1 x22).getD ifN).1,.bool ((mget x4.1 x22).isSome)]) (undX 61 rfl) kt34 zw84 rfl rfl rfl rfl)<|V vm<|V vx<|V vx<|V va<|V va<|nl<|an<|?_
   refine zAy (S:=Bool) (R:=Unit) (fun s=>match s with | s24=>(⟨[(2,.sl Y1 p2),(6,.ptr 0 0),(7,.ptr 1 0),(8,.i 0),(13,.ptr 2 0),(14,.val ((mget x4.1 x22).getD ifN).1),(15,.bool s24)],[(0,.var 36 [.str ([] : Str),.str ([] : Str),.str ([] : Str),.i 0,.bool false]),(1,.var 38 [.i 0,.i 0]),(2,.var 34 [.str x22.1,.str x22.2])],3⟩ : AS)) (fun _ _ _=>False) e26 (fun hr=>?_) ?_ ?_
   ·obtain ⟨x27,e28,hr⟩:=zA hr
    refine sq<|rg<|V vm<|?_
    refine V (zDe (c:=((mget x4.1 x22).getD ifN)) (undX 86 rfl) (zDB 86 rfl) rfl e28)<|V vm<|V vx<|V vx<|V va<|V va<|nl<|an<|sq<|rg<|V vm<|nl<|an<|?_
    refine cnd (fun hc29 hr=>?_) (fun hc29 hr=>?_)
    ·refine rg<|V vm<|V vnr<|V vfr<|V vlr<|V vm<|?_
     refine V (zDS (kx:=x27.1) (r:=.tup [.dm Y1 (.raw ifN) ((mget p0.1 x27.1).getD []),.bool ((mget p0.1 x27.1).isSome)]) (undX 62 rfl) kt3 zw61 rfl rfl rfl rfl)<|V vm<|V vx<|V vx<|V va<|?_
     obtain rfl:=Option.some.inj hr
     exact zAJ ((zAA hX [0,1,3] 4 rfl rfl wS wO))
    ·obtain rfl:=Option.some.inj hr
     exact zAv ((zAA hX [0,1,3] 4 rfl rfl wS wO))
   ·rintro s24 rfl
    refine sq<|sq<|rg<|V vm<|V vno<|nl<|an<|?_
    refine cnd (fun hc30 hr=>?_) (fun hc30 hr=>?_)
    ·refine sq<|rg<|V (zAs (qs:=[]) (cs:=[.str ([] : Str),.str ([] : Str),.str ([] : Str),.i 0,.bool false]) bt36 rfl rfl rfl)<|V vm<|V vnl<|V vsu<|?_
     refine V (zAs (qs:=[(0,[.i (w64 ((List.length p2 : Int) - 1))]),(1,[.i 1])]) (cs:=[.i (w64 ((List.length p2 : Int) - 1)),.i 1]) bt38 rfl rfl rfl)<|O os<|O os<|V va<|?_
     obtain rfl:=Option.some.inj hr
     exact nl<|an<|cr<|zAC (zAk (l':=[(6,.rp [.str ([] : Str),.str ([] : Str),.str ([] : Str),.i 0,.bool false]),(7,.rp [.i (w64 ((List.length p2 : Int) - 1)),.i 1]),(8,.i 8)]) (zAA hX [] 4 rfl rfl wS trivial) rfl ⟨(.inr ⟨_,5,rfl,(tsX 36 rfl),rfl,rfl⟩),(.inr ⟨_,2,rfl,(tsX 38 rfl),rfl,rfl⟩),rfl,trivial⟩)
    ·obtain ⟨x31,e32,hr⟩:=zA hr
     refine sk<|an<|sq<|rg<|V vlP<|V vm<|?_
     refine V (zAV (f28_runs e32).x ent39 rfl rfl)<|?_
     refine V (zAs (qs:=[]) (cs:=[.i 0,.i 0]) bt38 rfl rfl rfl)<|O os<|O os<|V va<|?_
     obtain rfl:=Option.some.inj hr
     exact nl<|an<|cr<|zAk (l':=[(6,.rp [.str x31.1.1,.str x31.1.2,.str x31.2.1,.i x31.2.2.1,.bool x31.2.2.2]),(7,.rp [.i 0,.i 0]),(8,.i 0)]) (zAA hX [] 4 rfl rfl wS trivial) rfl ⟨(.inr ⟨_,5,rfl,(tsX 36 rfl),rfl,rfl⟩),(.inr ⟨_,2,rfl,(tsX 38 rfl),rfl,rfl⟩),rfl,trivial⟩
   ·exact fun r h e st hne hx=>hx.elim
theorem g7_runs {r:Bool}(hr:g7=some r) : zBb Tryz.prog 7 [] [.bool r]:=by
 refine zAW Tryz.func7 Tryz.ntmps7 rfl (rs:=[.tmp 0]) rfl rfl fun w0 X hX=>?_
 obtain ⟨x1,e2,hr⟩:=zA hr
 obtain ⟨x3,e4,hr⟩:=zA hr
 refine sq<|rg<|V va<|nl<|an<|sq<|rg<|?_
 refine V (zAV (zCg e2).x ent22 rfl rfl)<|V vm<|V vx<|V vx<|V va<|V va<|nl<|an<|sq<|rg<|?_
 refine zAK (zAP (σ:=[]) (as':=[]) (f14_runs e4).x ent8 rfl trivial rfl rfl rfl ?_)
 refine V va<|nl<|an<|sq<|sq<|rg<|V vm<|?_
 refine V (av_ptrnil (undX 28 rfl) rfl rfl)<|nl<|an<|?_
 refine zA3 rfl<|sk<|an<|sq<|rg<|V (zAs (qs:=[(0,[.str ([120] : Str)])]) (cs:=[.str ([120] : Str),.str ([] : Str)]) bt34 rfl rfl rfl)<|?_
 refine zAK (zBq (t:=Y1) (qs:=[(0,[.str ([120] : Str),.str ([] : Str)])]) (ys:=[(([120] : Str),([] : Str))]) bs23 rfl rfl rfl rfl rfl rfl rfl rfl ?_)
 obtain ⟨x5,e6,hr⟩:=zA hr
 refine V va<|nl<|an<|sq<|rg<|V vm<|V vm<|?_
 refine zAG (wk_frz [18,4,21] 1 rfl rfl rfl)<|?_
 refine zAK (zAP (σ:=[0]) (as':=[.ptr 0 0,.i 0,.sl Y1 [(([120] : Str),([] : Str))],.i 0]) (g23_runs e6).x ent23 rfl ⟨cv0,cv0,cv0,cv0,trivial⟩ rfl rfl rfl ?_)
 obtain ⟨x7,e8,hr⟩:=zA hr
 refine V vm<|V vx<|V vx<|O oa<|O os<|V va<|nl<|an<|sq<|rg<|V vm<|?_
 refine V (zAs (qs:=[(0,[.str ([120] : Str)])]) (cs:=[.str ([120] : Str),.str ([] : Str)]) bt34 rfl rfl rfl)<|?_
 refine V (zAs (qs:=[(0,[.str ([120] : Str)])]) (cs:=[.str ([120] : Str),.str ([] : Str)]) bt34 rfl rfl rfl)<|?_
 refine V (zAM (t:=Y1) (qs:=[(0,[.str ([120] : Str),.str ([] : Str)]),(1,[.str ([120] : Str),.str ([] : Str)])]) (ys:=[(([120] : Str),([] : Str)),(([120] : Str),([] : Str))]) bs23 rfl rfl rfl rfl rfl rfl rfl rfl)<|?_
 refine zAG (zAd (i:=0) [.map 3,.i x5.2.2.2.1,.i x5.2.2.2.2] [.mpt .i (.mp Y1 (.dat (.raw ifN))) x5.2.2.1 []] rfl rfl rfl rfl)<|V (zBD (as':=[.ptr 0 0,.i 0,.sl Y1 [(([120] : Str),([] : Str)),(([120] : Str),([] : Str))]]) (Hs:=[]) (zDi e8).x ent11 rfl ⟨cv0,cv0,cv0,trivial⟩ rfl rfl rfl)<|V vm<|V vx<|V vx<|V vx<|O oa<|O oa<|O os<|O os<|V va<|nl<|an<|sq<|?_
 obtain ⟨h9,hr⟩:=zAN hr
 obtain ⟨h10,hr⟩:=zAN hr
 refine zAa [1,2,6,7,9] [(true,.i x1.2),(true,.bool (decide (x1.2=0))),(true,.bool (decide (x1.2=0))),(decide (x1.2=0),.sl Y1 x1.1),(decide (x1.2=0),.i (List.length x1.1 : Int)),(decide (x1.2=0),.bool (decide ((List.length x1.1 : Int)=2))),(true,.bool ((decide (x1.2=0))&&(decide ((List.length x1.1 : Int)=2)))),(true,.bool ((decide (x1.2=0))&&(decide ((List.length x1.1 : Int)=2)))),((decide (x1.2=0))&&(decide ((List.length x1.1 : Int)=2)),.sl Y1 x1.1),((decide (x1.2=0))&&(decide ((List.length x1.1 : Int)=2)),.rp [.str ((((ix x1.1 0).getD default)).1),.str ((((ix x1.1 0).getD default)).2)]),((decide (x1.2=0))&&(decide ((List.length x1.1 : Int)=2)),.agg [.str ((((ix x1.1 0).getD default)).1),.str ((((ix x1.1 0).getD default)).2)]),((decide (x1.2=0))&&(decide ((List.length x1.1 : Int)=2)),.agg [.str ([97] : Str),.str ([98] : Str)]),((decide (x1.2=0))&&(decide ((List.length x1.1 : Int)=2)),.bool ((decide (bstr ((((ix x1.1 0).getD default)).1)=bstr ([97] : Str)))&&(decide (bstr ((((ix x1.1 0).getD default)).2)=bstr ([98] : Str))))),(true,.bool (((decide (x1.2=0))&&(decide ((List.length x1.1 : Int)=2)))&&((decide (bstr ((((ix x1.1 0).getD default)).1)=bstr ([97] : Str)))&&(decide (bstr ((((ix x1.1 0).getD default)).2)=bstr ([98] : Str)))))),(true,.bool (((decide (x1.2=0))&&(decide ((List.length x1.1 : Int)=2)))&&((decide (bstr ((((ix x1.1 0).getD default)).1)=bstr ([97] : Str)))&&(decide (bstr ((((ix x1.1 0).getD default)).2)=bstr ([98] : Str)))))),(((decide (x1.2=0))&&(decide ((List.length x1.1 : Int)=2)))&&((decide (bstr ((((ix x1.1 0).getD default)).1)=bstr ([97] : Str)))&&(decide (bstr ((((ix x1.1 0).getD default)).2)=bstr ([98] : Str)))),.sl Y1 x1.1),(((decide (x1.2=0))&&(decide ((List.length x1.1 : Int)=2)))&&((decide (bstr ((((ix x1.1 0).getD default)).1)=bstr ([97] : Str)))&&(decide (bstr ((((ix x1.1 0).getD default)).2)=bstr ([98] : Str)))),.rp [.str ((((ix x1.1 1).getD default)).1),.str ((((ix x1.1 1).getD default)).2)]),(((decide (x1.2=0))&&(decide ((List.length x1.1 : Int)=2)))&&((decide (bstr ((((ix x1.1 0).getD default)).1)=bstr ([97] : Str)))&&(decide (bstr ((((ix x1.1 0).getD default)).2)=bstr ([98] : Str)))),.agg [.str ((((ix x1.1 1).getD default)).1),.str ((((ix x1.1 1).getD default)).2)]),(((decide (x1.2=0))&&(decide ((List.length x1.1 : Int)=2)))&&((decide (bstr ((((ix x1.1 0).getD default)).1)=bstr ([97] : Str)))&&(decide (bstr ((((ix x1.1 0).getD default)).2)=bstr ([98] : Str)))),.agg [.str ([99,46,100] : Str),.str ([] : Str)]),(((decide (x1.2=0))&&(decide ((List.length x1.1 : Int)=2)))&&((decide (bstr ((((ix x1.1 0).getD default)).1)=bstr ([97] : Str)))&&(decide (bstr ((((ix x1.1 0).getD default)).2)=bstr ([98] : Str)))),.bool ((decide (bstr ((((ix x1.1 1).getD default)).1)=bstr ([99,46,100] : Str)))&&(decide (bstr ((((ix x1.1 1).getD default)).2)=bstr ([] : Str))))),(true,.bool ((((decide (x1.2=0))&&(decide ((List.length x1.1 : Int)=2)))&&((decide (bstr ((((ix x1.1 0).getD default)).1)=bstr ([97] : Str)))&&(decide (bstr ((((ix x1.1 0).getD default)).2)=bstr ([98] : Str)))))&&((decide (bstr ((((ix x1.1 1).getD default)).1)=bstr ([99,46,100] : Str)))&&(decide (bstr ((((ix x1.1 1).getD default)).2)=bstr ([] : Str)))))),(true,.bool ((((decide (x1.2=0))&&(decide ((List.length x1.1 : Int)=2)))&&((decide (bstr ((((ix x1.1 0).getD default)).1)=bstr ([97] : Str)))&&(decide (bstr ((((ix x1.1 0).getD default)).2)=bstr ([98] : Str)))))&&((decide (bstr ((((ix x1.1 1).getD default)).1)=bstr ([99,46,100] : Str)))&&(decide (bstr ((((ix x1.1 1).getD default)).2)=bstr ([] : Str)))))),((((decide (x1.2=0))&&(decide ((List.length x1.1 : Int)=2)))&&((decide (bstr ((((ix x1.1 0).getD default)).1)=bstr ([97] : Str)))&&(decide (bstr ((((ix x1.1 0).getD default)).2)=bstr ([98] : Str)))))&&((decide (bstr ((((ix x1.1 1).getD default)).1)=bstr ([99,46,100] : Str)))&&(decide (bstr ((((ix x1.1 1).getD default)).2)=bstr ([] : Str)))),.i x5.2.1),((((decide (x1.2=0))&&(decide ((List.length x1.1 : Int)=2)))&&((decide (bstr ((((ix x1.1 0).getD default)).1)=bstr ([97] : Str)))&&(decide (bstr ((((ix x1.1 0).getD default)).2)=bstr ([98] : Str)))))&&((decide (bstr ((((ix x1.1 1).getD default)).1)=bstr ([99,46,100] : Str)))&&(decide (bstr ((((ix x1.1 1).getD default)).2)=bstr ([] : Str)))),.bool (decide (x5.2.1=0))),(true,.bool (((((decide (x1.2=0))&&(decide ((List.length x1.1 : Int)=2)))&&((decide (bstr ((((ix x1.1 0).getD default)).1)=bstr ([97] : Str)))&&(decide (bstr ((((ix x1.1 0).getD default)).2)=bstr ([98] : Str)))))&&((decide (bstr ((((ix x1.1 1).getD default)).1)=bstr ([99,46,100] : Str)))&&(decide (bstr ((((ix x1.1 1).getD default)).2)=bstr ([] : Str)))))&&(decide (x5.2.1=0)))),(true,.bool (((((decide (x1.2=0))&&(decide ((List.length x1.1 : Int)=2)))&&((decide (bstr ((((ix x1.1 0).getD default)).1)=bstr ([97] : Str)))&&(decide (bstr ((((ix x1.1 0).getD default)).2)=bstr ([98] : Str)))))&&((decide (bstr ((((ix x1.1 1).getD default)).1)=bstr ([99,46,100] : Str)))&&(decide (bstr ((((ix x1.1 1).getD default)).2)=bstr ([] : Str)))))&&(decide (x5.2.1=0)))),(((((decide (x1.2=0))&&(decide ((List.length x1.1 : Int)=2)))&&((decide (bstr ((((ix x1.1 0).getD default)).1)=bstr ([97] : Str)))&&(decide (bstr ((((ix x1.1 0).getD default)).2)=bstr ([98] : Str)))))&&((decide (bstr ((((ix x1.1 1).getD default)).1)=bstr ([99,46,100] : Str)))&&(decide (bstr ((((ix x1.1 1).getD default)).2)=bstr ([] : Str)))))&&(decide (x5.2.1=0)),.i x7.2.2),(((((decide (x1.2=0))&&(decide ((List.length x1.1 : Int)=2)))&&((decide (bstr ((((ix x1.1 0).getD default)).1)=bstr ([97] : Str)))&&(decide (bstr ((((ix x1.1 0).getD default)).2)=bstr ([98] : Str)))))&&((decide (bstr ((((ix x1.1 1).getD default)).1)=bstr ([99,46,100] : Str)))&&(decide (bstr ((((ix x1.1 1).getD default)).2)=bstr ([] : Str)))))&&(decide (x5.2.1=0)),.bool (decide (x7.2.2=0))),(true,.bool ((((((decide (x1.2=0))&&(decide ((List.length x1.1 : Int)=2)))&&((decide (bstr ((((ix x1.1 0).getD default)).1)=bstr ([97] : Str)))&&(decide (bstr ((((ix x1.1 0).getD default)).2)=bstr ([98] : Str)))))&&((decide (bstr ((((ix x1.1 1).getD default)).1)=bstr ([99,46,100] : Str)))&&(decide (bstr ((((ix x1.1 1).getD default)).2)=bstr ([] : Str)))))&&(decide (x5.2.1=0)))&&(decide (x7.2.2=0)))),(true,.bool ((((((decide (x1.2=0))&&(decide ((List.length x1.1 : Int)=2)))&&((decide (bstr ((((ix x1.1 0).getD default)).1)=bstr ([97] : Str)))&&(decide (bstr ((((ix x1.1 0).getD default)).2)=bstr ([98] : Str)))))&&((decide (bstr ((((ix x1.1 1).getD default)).1)=bstr ([99,46,100] : Str)))&&(decide (bstr ((((ix x1.1 1).getD default)).2)=bstr ([] : Str)))))&&(decide (x5.2.1=0)))&&(decide (x7.2.2=0)))),((((((decide (x1.2=0))&&(decide ((List.length x1.1 : Int)=2)))&&((decide (bstr ((((ix x1.1 0).getD default)).1)=bstr ([97] : Str)))&&(decide (bstr ((((ix x1.1 0).getD default)).2)=bstr ([98] : Str)))))&&((decide (bstr ((((ix x1.1 1).getD default)).1)=bstr ([99,46,100] : Str)))&&(decide (bstr ((((ix x1.1 1).getD default)).2)=bstr ([] : Str)))))&&(decide (x5.2.1=0)))&&(decide (x7.2.2=0)),.ptr 4 4),((((((decide (x1.2=0))&&(decide ((List.length x1.1 : Int)=2)))&&((decide (bstr ((((ix x1.1 0).getD default)).1)=bstr ([97] : Str)))&&(decide (bstr ((((ix x1.1 0).getD default)).2)=bstr ([98] : Str)))))&&((decide (bstr ((((ix x1.1 1).getD default)).1)=bstr ([99,46,100] : Str)))&&(decide (bstr ((((ix x1.1 1).getD default)).2)=bstr ([] : Str)))))&&(decide (x5.2.1=0)))&&(decide (x7.2.2=0)),.bool x7.1.2.2.2),(true,.bool (((((((decide (x1.2=0))&&(decide ((List.length x1.1 : Int)=2)))&&((decide (bstr ((((ix x1.1 0).getD default)).1)=bstr ([97] : Str)))&&(decide (bstr ((((ix x1.1 0).getD default)).2)=bstr ([98] : Str)))))&&((decide (bstr ((((ix x1.1 1).getD default)).1)=bstr ([99,46,100] : Str)))&&(decide (bstr ((((ix x1.1 1).getD default)).2)=bstr ([] : Str)))))&&(decide (x5.2.1=0)))&&(decide (x7.2.2=0)))&&x7.1.2.2.2)),(true,.bool (((((((decide (x1.2=0))&&(decide ((List.length x1.1 : Int)=2)))&&((decide (bstr ((((ix x1.1 0).getD default)).1)=bstr ([97] : Str)))&&(decide (bstr ((((ix x1.1 0).getD default)).2)=bstr ([98] : Str)))))&&((decide (bstr ((((ix x1.1 1).getD default)).1)=bstr ([99,46,100] : Str)))&&(decide (bstr ((((ix x1.1 1).getD default)).2)=bstr ([] : Str)))))&&(decide (x5.2.1=0)))&&(decide (x7.2.2=0)))&&x7.1.2.2.2)),(((((((decide (x1.2=0))&&(decide ((List.length x1.1 : Int)=2)))&&((decide (bstr ((((ix x1.1 0).getD default)).1)=bstr ([97] : Str)))&&(decide (bstr ((((ix x1.1 0).getD default)).2)=bstr ([98] : Str)))))&&((decide (bstr ((((ix x1.1 1).getD default)).1)=bstr ([99,46,100] : Str)))&&(decide (bstr ((((ix x1.1 1).getD default)).2)=bstr ([] : Str)))))&&(decide (x5.2.1=0)))&&(decide (x7.2.2=0)))&&x7.1.2.2.2,.ptr 4 3),(((((((decide (x1.2=0))&&(decide ((List.length x1.1 : Int)=2)))&&((decide (bstr ((((ix x1.1 0).getD default)).1)=bstr ([97] : Str)))&&(decide (bstr ((((ix x1.1 0).getD default)).2)=bstr ([98] : Str)))))&&((decide (bstr ((((ix x1.1 1).getD default)).1)=bstr ([99,46,100] : Str)))&&(decide (bstr ((((ix x1.1 1).getD default)).2)=bstr ([] : Str)))))&&(decide (x5.2.1=0)))&&(decide (x7.2.2=0)))&&x7.1.2.2.2,.i x7.1.2.2.1),(((((((decide (x1.2=0))&&(decide ((List.length x1.1 : Int)=2)))&&((decide (bstr ((((ix x1.1 0).getD default)).1)=bstr ([97] : Str)))&&(decide (bstr ((((ix x1.1 0).getD default)).2)=bstr ([98] : Str)))))&&((decide (bstr ((((ix x1.1 1).getD default)).1)=bstr ([99,46,100] : Str)))&&(decide (bstr ((((ix x1.1 1).getD default)).2)=bstr ([] : Str)))))&&(decide (x5.2.1=0)))&&(decide (x7.2.2=0)))&&x7.1.2.2.2,.bool (decide (x7.1.2.2.1=0))),(true,.bool ((((((((decide (x1.2=0))&&(decide ((List.length x1.1 : Int)=2)))&&((decide (bstr ((((ix x1.1 0).getD default)).1)=bstr ([97] : Str)))&&(decide (bstr ((((ix x1.1 0).getD default)).2)=bstr ([98] : Str)))))&&((decide (bstr ((((ix x1.1 1).getD default)).1)=bstr ([99,46,100] : Str)))&&(decide (bstr ((((ix x1.1 1).getD default)).2)=bstr ([] : Str)))))&&(decide (x5.2.1=0)))&&(decide (x7.2.2=0)))&&x7.1.2.2.2)&&(decide (x7.1.2.2.1=0)))),(true,.bool ((((((((decide (x1.2=0))&&(decide ((List.length x1.1 : Int)=2)))&&((decide (bstr ((((ix x1.1 0).getD default)).1)=bstr ([97] : Str)))&&(decide (bstr ((((ix x1.1 0).getD default)).2)=bstr ([98] : Str)))))&&((decide (bstr ((((ix x1.1 1).getD default)).1)=bstr ([99,46,100] : Str)))&&(decide (bstr ((((ix x1.1 1).getD default)).2)=bstr ([] : Str)))))&&(decide (x5.2.1=0)))&&(decide (x7.2.2=0)))&&x7.1.2.2.2)&&(decide (x7.1.2.2.1=0))))] [[],[0],[1],[2],[3,2],[4,2],[5,2],[6],[7],[8,7],[9,7],[7],[10,11,7],[12,7],[13],[14],[15,14],[16,14],[14],[17,18,14],[19,14],[20],[21],[22,21],[23,21],[24],[25],[26,25],[27,25],[28],[29],[30,29],[31,29],[32],[33],[34,33],[35,33],[36,33],[37]] [38] rfl rfl rfl rfl rfl ⟨?_,?_,?_,?_,?_,?_,?_,?_,?_,?_,?_,?_,?_,?_,?_,?_,?_,?_,?_,?_,?_,?_,?_,?_,?_,?_,?_,?_,?_,?_,?_,?_,?_,?_,?_,?_,?_,?_,?_,trivial⟩ (zAD ⟨rfl,trivial⟩) ?_
 ·exact oB wm
 ·exact oB weq
 ·exact oB wm
 ·exact oB wm
 ·exact zAr ⟨rfl,rfl,rfl,_,rfl,rfl⟩ (fun hg=>zAD ⟨hg,rfl,trivial⟩) (fun hg=>zA0 (t:=Y1) rfl rfl (undX 23 rfl) rfl)
 ·exact oB weq
 ·exact zBe
 ·exact oB wm
 ·exact oB wm
 ·exact zAr ⟨rfl,rfl,rfl,_,rfl,rfl⟩ (fun hg=>zAD ⟨hg,rfl,trivial⟩) (fun hg=>zAQ (t:=Y1) (e:=((ix x1.1 0).getD default)) (undX 23 rfl) (szX 34 rfl) rfl rfl (zAz h9 hg))
 ·exact oB wlR
 ·exact zAr ⟨rfl,rfl,rfl,_,rfl,rfl⟩ (fun hg=>zAD ⟨rfl,trivial⟩) (fun hg=>zAs (qs:=[(0,[.str ([97] : Str)]),(1,[.str ([98] : Str)])]) (cs:=[.str ([97] : Str),.str ([98] : Str)]) bt34 rfl rfl rfl)
 ·exact zAr ⟨rfl,rfl,rfl,_,rfl,rfl⟩ (fun hg=>zAD ⟨hg,hg,rfl,trivial⟩) (fun hg=>av_eqlA (r:=(decide (bstr ((((ix x1.1 0).getD default)).1)=bstr ([97] : Str)))&&(decide (bstr ((((ix x1.1 0).getD default)).2)=bstr ([98] : Str)))) eq34 rfl rfl rfl rfl rfl rfl)
 ·exact zBe
 ·exact oB wm
 ·exact oB wm
 ·exact zAr ⟨rfl,rfl,rfl,_,rfl,rfl⟩ (fun hg=>zAD ⟨hg,rfl,trivial⟩) (fun hg=>zAQ (t:=Y1) (e:=((ix x1.1 1).getD default)) (undX 23 rfl) (szX 34 rfl) rfl rfl (zAz h10 hg))
 ·exact oB wlR
 ·exact zAr ⟨rfl,rfl,rfl,_,rfl,rfl⟩ (fun hg=>zAD ⟨rfl,trivial⟩) (fun hg=>zAs (qs:=[(0,[.str ([99,46,100] : Str)])]) (cs:=[.str ([99,46,100] : Str),.str ([] : Str)]) bt34 rfl rfl rfl)
 ·exact zAr ⟨rfl,rfl,rfl,_,rfl,rfl⟩ (fun hg=>zAD ⟨hg,hg,rfl,trivial⟩) (fun hg=>av_eqlA (r:=(decide (bstr ((((ix x1.1 1).getD default)).1)=bstr ([99,46,100] : Str)))&&(decide (bstr ((((ix x1.1 1).getD default)).2)=bstr ([] : Str)))) eq34 rfl rfl rfl rfl rfl rfl)
 ·exact zBe
 ·exact oB wm
 ·exact oB wm
 ·exact oB weq
 ·exact zBe
 ·exact oB wm
 ·exact oB wm
 ·exact oB weq
 ·exact zBe
 ·exact oB wm
 ·exact oB wfp
 ·exact oB wlp
 ·exact zBe
 ·exact oB wm
 ·exact oB wfp
 ·exact oB wlp
 ·exact oB weq
 ·exact zBe
 ·exact oB wa
 obtain rfl:=Option.some.inj hr
 exact zAZ (zAw (zAk (l':=[(0,.bool ((((((((decide (x1.2=0))&&(decide ((List.length x1.1 : Int)=2)))&&((decide (bstr ((((ix x1.1 0).getD default)).1)=bstr ([97] : Str)))&&(decide (bstr ((((ix x1.1 0).getD default)).2)=bstr ([98] : Str)))))&&((decide (bstr ((((ix x1.1 1).getD default)).1)=bstr ([99,46,100] : Str)))&&(decide (bstr ((((ix x1.1 1).getD default)).2)=bstr ([] : Str)))))&&(decide (x5.2.1=0)))&&(decide (x7.2.2=0)))&&x7.1.2.2.2)&&(decide (x7.1.2.2.1=0))))]) (zAA hX [] 4 rfl rfl wS trivial) rfl ⟨rfl,trivial⟩))
theorem bt67 : zC4 Tryz.prog 67 (.agg #[.int .i64 0,.slice none 0 0]) (fun i=>[(0,1),(1,1)][i]?):=zBn (zDB 67 rfl) (fs:=Tryz.prog.fieldsOf 67) (by kernel_rfl) (fun w=>by kernel_rfl)
theorem bs68 : BuildS Tryz.prog 68 67 Y4:=zCh (z:=.agg #[.int .i64 0,.slice none 0 0]) (by kernel_rfl) (by kernel_rfl) rfl
theorem bt70 : zC4 Tryz.prog 70 (.agg #[.slice none 0 0,.int .i64 0]) (fun i=>[(0,1),(1,1)][i]?):=zBn (zDB 70 rfl) (fs:=Tryz.prog.fieldsOf 70) (by kernel_rfl) (fun w=>by kernel_rfl)
theorem app68 : AppT Tryz.prog 68 67 (Ty.cells Y4) 32:=appT_of (z:=.agg #[.int .i64 0,.slice none 0 0]) (by kernel_rfl) (by kernel_rfl) rfl rfl
theorem ent85 : Enters Tryz.prog 85:=enters_of Tryz.func85 (by kernel_rfl) rfl
theorem ent50 : Enters Tryz.prog 50:=enters_of Tryz.func50 (by kernel_rfl) rfl
theorem ent86 : Enters Tryz.prog 86:=enters_of Tryz.func86 (by kernel_rfl) rfl
theorem ent51 : Enters Tryz.prog 51:=enters_of Tryz.func51 (by kernel_rfl) rfl
theorem ent62 : Enters Tryz.prog 62:=enters_of Tryz.func62 (by kernel_rfl) rfl
theorem g9_runs {r:Unit}(hr:g9=some r) : Runs Tryz.prog 9 [] [] (fun q Hq=>q=[.ptr 0 0]∧Hq=[.tr E70 (some ([(0,([] : ZE))],1))]):=by
 refine zAW Tryz.func9 Tryz.ntmps9 rfl (rs:=[.tmp 0]) rfl rfl fun w0 X hX=>?_
 refine sq<|rg<|V va<|nl<|an<|sq<|rg<|?_
 refine V ((av_nilL (cs':=[.i 0,.sl Y3 ([] : ZE)]) (zAs (qs:=[]) (cs:=[.i 0,.nils]) bt67 rfl rfl rfl) ⟨(.inl rfl),(.inr ⟨_,rfl,rfl⟩),trivial⟩))<|?_
 refine zAK (zBq (t:=Y4) (qs:=[(0,[.i 0,.sl Y3 ([] : ZE)])]) (ys:=[(0,([] : ZE))]) bs68 rfl rfl rfl rfl rfl rfl rfl rfl ?_)
 refine V (zAs (qs:=[(0,[.osl 0]),(1,[.i 1])]) (cs:=[.osl 0,.i 1]) bt70 rfl rfl rfl)<|O ob<|V va<|?_
 obtain rfl:=Option.some.inj hr
 exact nl<|an<|cr<|zAe (l':=[(0,.ptr 0 0)]) (Hs:=[(0,.tr E70 (some ([(0,([] : ZE))],1)))]) (n:=1) (Wk.trans (pk (i:=1) (e:=F70) (js:=[0]) ([(0,([] : ZE))],1)) (zAA hX [1] 4 rfl rfl wS wO)) rfl rfl rfl ⟨rfl,trivial⟩
theorem g24_runs {p0_0:ZP}{r:Int×Int×(ZP)}(hr:g24 p0_0=some r) : Runs Tryz.prog 24 [.ptr 0 0] [.tr E64 (some p0_0)] (fun q Hq=>q=[.i r.1,.i r.2.1]∧Hq=[.tr E64 (some r.2.2)]):=by
 refine zAW Tryz.func24 Tryz.ntmps24 rfl (rs:=[.tmp 2,.tmp 3]) rfl rfl fun w0 X hX=>?_
 refine sq<|rg<|V va<|V va<|nl<|an<|sq<|bl<|sq<|rg<|V vm<|?_
 refine V (av_ptrnil (undX 28 rfl) rfl rfl)<|V va<|nl<|an<|?_
 refine zA3 rfl<|sq<|rg<|V vm<|V vnp<|V vfp<|?_
 refine zAG (zAd (i:=0) [.map 1,.i p0_0.2.1,.i p0_0.2.2] [.mpt .i (.mp Y1 (.dat (.raw ifN))) p0_0.1 []] rfl rfl rfl rfl)<|V vlp<|?_
 refine V (av_len_mpt rfl rfl (undX 62 rfl) rfl rfl)<|V veq<|V va<|nl<|an<|?_
 refine cnd (fun hc2 hr=>?_) (fun hc2 hr=>?_)
 ·refine sq<|rg<|V va<|V va<|?_
  obtain rfl:=Option.some.inj hr
  exact nl<|an<|cr<|zAE (zAC (zAe (l':=[(2,.i 0),(3,.i 4)]) (Hs:=[(0,.tr E64 (some p0_0))]) (n:=1) (Wk.trans (pk (i:=0) (e:=F64) (js:=[1]) p0_0) (zAA hX [0] 4 rfl rfl wS wO)) rfl rfl rfl ⟨rfl,rfl,trivial⟩))
 ·refine sk<|bn<|an<|sq<|?_
  refine zCV (st2:=⟨[(0,.ptr 0 0),(2,.i 0),(3,.i 0),(22,.map 2)],[(0,.var 64 [.map 1,.i p0_0.2.1,.i p0_0.2.2]),(1,.mpt .i (.mp Y1 (.dat (.raw ifN))) p0_0.1 []),(2,.map Y1 (.raw ifN) [])],3⟩) 8 [0,1,2,3,4,5,6,7] [0,0,0,0,0,0,0,0] [[],[0],[1],[2],[],[4],[5],[6]] mixed [0,2,3] [(true,.ptr 0 0),(true,.ptr 0 0),(true,.ptr 0 0),(true,.map 1),(true,.ptr 0 0),(true,.ptr 0 0),(true,.ptr 0 1),(true,.i p0_0.2.1)] [[],[0],[1],[2],[],[4],[5],[6]] [] [0,2,3,22] rfl rfl rfl rfl rfl rfl rfl rfl rfl rfl rfl rfl ⟨?_,?_,?_,?_,?_,?_,?_,?_,trivial⟩ (zAD trivial) rfl ⟨(fun X' o ho=>by obtain rfl:=Option.some.inj ho; exact zAg rfl),(fun X' o ho=>by obtain rfl:=Option.some.inj ho; exact zAm rfl),(fun X' o ho=>by obtain rfl:=Option.some.inj ho; exact zAc (faX 64 0 rfl) rfl rfl),(fun X' o ho=>by obtain rfl:=Option.some.inj ho; exact zAU (tsX 62 rfl) rfl rfl rfl),(fun X' o ho=>by obtain rfl:=Option.some.inj ho; exact zAg rfl),(fun X' o ho=>by obtain rfl:=Option.some.inj ho; exact zAm rfl),(fun X' o ho=>by obtain rfl:=Option.some.inj ho; exact zAc (faX 64 1 rfl) rfl rfl),(fun X' o ho=>by obtain rfl:=Option.some.inj ho; exact zAU (tsX 3 rfl) rfl rfl rfl),trivial⟩ rfl (fun X'=>zB6 Y1 (.raw ifN) rfl ⟨⟨rfl,rfl,rfl,rfl,trivial⟩,⟨rfl,rfl,rfl,trivial⟩,rfl⟩) ?_
  ·exact oB wm
  ·exact oB wnp
  ·exact oB wfp
  ·exact oB wlp
  ·exact oB wm
  ·exact oB wnp
  ·exact oB wfp
  ·exact oB wlp
  refine zAK (aop_mptSet (kx:=p0_0.2.1) (yx:=[]) (js:=[2]) (undX 62 rfl) kt3 (.inl rfl) rfl rfl rfl rfl rfl rfl ⟨2,rfl,rfl,rfl⟩ rfl holes0 ?_)
  refine nl<|an<|sq<|rg<|V vm<|V vnp<|V vfp<|V vlp<|V vad<|V vnp<|V vfp<|O os<|nl<|an<|sq<|rg<|V vm<|V vnp<|V vfp<|V vlp<|V vsu<|V va<|V va<|?_
  obtain rfl:=Option.some.inj hr
  exact nl<|an<|cr<|zAe (l':=[(2,.i (w64 ((w64 (p0_0.2.1+1)) - 1))),(3,.i 0)]) (Hs:=[(0,.tr E64 (some ((mset p0_0.1 p0_0.2.1 []),(w64 (p0_0.2.1+1)),p0_0.2.2)))]) (n:=1) (Wk.trans (pk (i:=0) (e:=F64) (js:=[1]) ((mset p0_0.1 p0_0.2.1 []),(w64 (p0_0.2.1+1)),p0_0.2.2)) (zAA hX [0] 4 rfl rfl wS wO)) rfl rfl rfl ⟨rfl,rfl,trivial⟩
theorem g25_runs {p0_0:ZQ}{r:Int×Int×(ZQ)}(hr:g25 p0_0=some r) : Runs Tryz.prog 25 [.ptr 0 0] [.tr E70 (some p0_0)] (fun q Hq=>q=[.i r.1,.i r.2.1]∧Hq=[.tr E70 (some r.2.2)]):=by
 refine zAW Tryz.func25 Tryz.ntmps25 rfl (rs:=[.tmp 2,.tmp 3]) rfl rfl fun w0 X hX=>?_
 refine sq<|rg<|V va<|V va<|nl<|an<|sq<|sq<|rg<|V vm<|V vnp<|V vfp<|?_
 refine zAG (zAd (i:=0) [.osl 1,.i p0_0.2] [.sl 67 Y4 p0_0.1] rfl rfl rfl rfl)<|V vlp<|V vnL<|V vge<|nl<|an<|?_
 refine cnd (fun hc2 hr=>?_) (fun hc2 hr=>?_)
 ·refine sq<|rg<|V va<|V va<|?_
  obtain rfl:=Option.some.inj hr
  exact nl<|an<|cr<|zAC (zAe (l':=[(2,.i 0),(3,.i 4)]) (Hs:=[(0,.tr E70 (some p0_0))]) (n:=1) (Wk.trans (pk (i:=0) (e:=F70) (js:=[1]) p0_0) (zAA hX [0] 4 rfl rfl wS wO)) rfl rfl rfl ⟨rfl,rfl,trivial⟩)
 ·refine sk<|an<|sq<|?_
  obtain ⟨h3,hr⟩:=zAN hr
  refine zCV (st2:=⟨[(0,.ptr 0 0),(2,.i 0),(3,.i 0),(21,.osl 2)],[(0,.var 70 [.osl 1,.i p0_0.2]),(1,.dead),(2,.sl 67 Y4 (p0_0.1++[(p0_0.2,([] : ZE))]))],3⟩) 11 [0] [0,2,3,4,11,6,7,8,9,10,11] [[],[],[],[],[],[],[],[],[],[],[]] mixed [0,2,3] [(true,.ptr 0 0),(true,.ptr 0 0),(true,.ptr 0 0),(true,.ptr 0 0),(true,.osl 1),(true,.ptr 0 0),(true,.ptr 0 0),(true,.ptr 0 1),(true,.i p0_0.2),(true,.agg [.i p0_0.2,.sl Y3 ([] : ZE)]),(true,.sl Y4 [(p0_0.2,([] : ZE))])] [[],[],[1],[2],[3],[],[5],[6],[7],[8],[9]] [4,10] [0,2,3,21] rfl rfl rfl rfl rfl rfl rfl rfl rfl rfl rfl rfl ⟨?_,?_,?_,?_,?_,?_,?_,?_,?_,?_,?_,trivial⟩ (zAD ⟨rfl,rfl,trivial⟩) rfl ⟨(fun X' o ho=>by obtain rfl:=Option.some.inj ho; exact zAg rfl),trivial⟩ rfl (fun X'=>zAh rfl rfl app68 rfl rfl rfl h3 rfl ⟨⟨rfl,rfl,rfl,rfl,trivial⟩,⟨rfl,rfl,rfl,trivial⟩,rfl⟩) ?_
  ·exact oB wm
  ·exact oB wm
  ·exact oB wnp
  ·exact oB wfp
  ·exact oB wlp
  ·exact oB wm
  ·exact oB wnp
  ·exact oB wfp
  ·exact oB wlp
  ·exact zAr rfl (fun hg=>zAD ⟨rfl,trivial⟩) (fun hg=>(av_nilL (cs':=[.i p0_0.2,.sl Y3 ([] : ZE)]) (zAs (qs:=[(0,[.i p0_0.2])]) (cs:=[.i p0_0.2,.nils]) bt67 rfl rfl rfl) ⟨(.inl rfl),(.inr ⟨_,rfl,rfl⟩),trivial⟩))
  ·exact zAr rfl (fun hg=>zAD ⟨rfl,trivial⟩) (fun hg=>zAM (t:=Y4) (qs:=[(0,[.i p0_0.2,.sl Y3 ([] : ZE)])]) (ys:=[(p0_0.2,([] : ZE))]) bs68 rfl rfl rfl rfl rfl rfl rfl rfl)
  refine V vnp<|V vfp<|O os<|nl<|an<|sq<|rg<|V vm<|V vnp<|V vfp<|V vlp<|V vad<|V vnp<|V vfp<|O os<|nl<|an<|sq<|rg<|V vm<|V vnp<|V vfp<|V vlp<|V vsu<|V va<|V va<|?_
  obtain rfl:=Option.some.inj hr
  exact nl<|an<|cr<|zAe (l':=[(2,.i (w64 ((w64 (p0_0.2+1)) - 1))),(3,.i 0)]) (Hs:=[(0,.tr E70 (some ((p0_0.1++[(p0_0.2,([] : ZE))]),(w64 (p0_0.2+1)))))]) (n:=1) (Wk.trans (pk (i:=0) (e:=F70) (js:=[2]) ((p0_0.1++[(p0_0.2,([] : ZE))]),(w64 (p0_0.2+1)))) (zAA hX [0] 4 rfl rfl wS wO)) rfl rfl rfl ⟨rfl,rfl,trivial⟩
theorem g12_runs {p0_0:ZP}{p1:Int}{p2:ZN}{p3:Str}{r:(Int×Int)×Int×(ZP)}(hr:g12 p0_0 p1 p2 p3=some r) : Runs Tryz.prog 12 [.ptr 0 0,.i p1,.sl Y1 p2,.str p3] [.tr E64 (some p0_0)] (fun q Hq=>q=[.agg [.i r.1.1,.i r.1.2],.i r.2.1]∧Hq=[.tr E64 (some r.2.2)]):=by
 refine zAW Tryz.func12 Tryz.ntmps12 rfl (rs:=[.cell 8 38,.tmp 9]) rfl rfl fun w0 X hX=>?_
 obtain ⟨x2,e3,hr⟩:=zA hr
 refine sq<|rg<|O oa<|V va<|nl<|an<|sq<|rg<|V vm<|V vm<|V vm<|V vm<|?_
 refine V (av_mkS (undX 91 rfl) rfl)<|?_
 refine zAK (zAP (σ:=[0]) (as':=[.ptr 0 0,.i p1,.sl Y1 p2,.val (ifS 91 p3).1,.bool false]) (g40_runs e3).x ent40 rfl ⟨cv0,cv0,cv0,cv0,cv0,trivial⟩ rfl rfl rfl ?_)
 refine V vx<|V vx<|O os<|V va<|?_
 obtain rfl:=Option.some.inj hr
 exact nl<|an<|cr<|zAe (l':=[(8,.rp [.i x2.1.1,.i x2.1.2]),(9,.i x2.2.1)]) (Hs:=[(0,.tr E64 (some x2.2.2))]) (n:=1) (zAA hX [0] 4 rfl rfl wS wO) rfl rfl rfl ⟨(.inr ⟨_,2,rfl,(tsX 38 rfl),rfl,rfl⟩),rfl,trivial⟩
theorem f22_runs {p0:Str×Str}{r:Bool}(hr:f22 p0=some r) : zBb Tryz.prog 85 [.agg [.str p0.1,.str p0.2]] [.bool r]:=by
 refine zAW Tryz.func85 Tryz.ntmps85 rfl (rs:=[.tmp 2]) rfl rfl fun w0 X hX=>?_
 obtain ⟨o3,e4,hr⟩:=zA hr
 refine sq<|rg<|O ob<|V va<|nl<|an<|sq<|sq<|rg<|V vfp<|V vlp<|V vfp<|V vlp<|?_
 refine V (zAM (t:=.str) (qs:=[(0,[.str p0.1]),(1,[.str p0.2])]) (ys:=[p0.1,p0.2]) bs49 rfl rfl rfl rfl rfl rfl rfl rfl)<|V vnl<|V vm<|nl<|an<|bl<|?_
 refine zAb (t:=10) rfl (fun hl=>?_)
 refine zAI (List.length [p0.1,p0.2] : Int) (f22_b0 p0) (fun p=>match p with | (i1,())=>(⟨[(1,.ptr 0 0),(2,.bool false),(10,.sl .str [p0.1,p0.2]),(11,.i (List.length [p0.1,p0.2] : Int)),(12,.i i1)],[(0,.var 34 [.str p0.1,.str p0.2])],1⟩ : AS)) (fun o e st=>match o with | .inl ()=>e=.exit 0∧Wk X st ⟨[(1,.ptr 0 0),(2,.bool false)],[(0,.var 34 [.str p0.1,.str p0.2])],1⟩ | .inr ()=>e=.ret∧Wk X st ⟨[(2,.bool false)],[],0⟩) (zAf hl) e4 (by exact zAA hX [0] 4 rfl rfl wS wO) ?_ ?_
 ·intro e st hx
  rcases o3 with _ | _
  ·obtain ⟨rfl,hw⟩:=hx
   refine bh<|an<|(zAY hw)<|sq<|?_
   refine zAa [1] [(true,.ptr 0 0),(true,.str p0.1),(true,.bool (!decide (p0.1=([] : Str)))),(true,.bool (!decide (p0.1=([] : Str)))),(!(!decide (p0.1=([] : Str))),.ptr 0 1),(!(!decide (p0.1=([] : Str))),.str p0.2),(!(!decide (p0.1=([] : Str))),.bool (!decide (p0.2=([] : Str)))),(true,.bool ((!decide (p0.1=([] : Str)))||(!decide (p0.2=([] : Str))))),(true,.bool ((!decide (p0.1=([] : Str)))||(!decide (p0.2=([] : Str)))))] [[],[0],[1],[2],[3],[4,3],[5,3],[6,3],[7]] [8] rfl rfl rfl rfl rfl ⟨?_,?_,?_,?_,?_,?_,?_,?_,?_,trivial⟩ (zAD ⟨rfl,trivial⟩) ?_
   ·exact oB wfp
   ·exact oB wlp
   ·exact oB wns
   ·exact oB wm
   ·exact oB wfp
   ·exact oB wlp
   ·exact oB wns
   ·exact zBr
   ·exact oB wa
   obtain rfl:=Option.some.inj hr
   exact zAZ (zAw (zAk (l':=[(2,.bool ((!decide (p0.1=([] : Str)))||(!decide (p0.2=([] : Str)))))]) (zAA hX [] 4 rfl rfl wS trivial) rfl ⟨rfl,trivial⟩))
  ·obtain ⟨rfl,hw⟩:=hx
   obtain rfl:=Option.some.inj hr
   exact zAE (zAC (zAk (l':=[(2,.bool false)]) (Wk.trans hw (zAA hX [] 4 rfl rfl wS trivial)) rfl ⟨rfl,trivial⟩))
 ·rintro i1 _ o ho
  refine sq<|rg<|V vls<|nl<|an<|sq<|?_
  refine zAO (b:=decide (i1 < (List.length [p0.1,p0.2] : Int))) rfl (fun hc5=>?_) (fun hc5=>?_)
  ·obtain ⟨q,hr,rfl⟩:=zA7 hc5 ho
   obtain ⟨x6,e7,hr⟩:=zA hr
   refine sk<|an<|sq<|bl<|sq<|rg<|V (zAQ (t:=.str) (e:=x6) (undX 49 rfl) (szX 9 rfl) rfl rfl e7)<|V vlr<|V va<|nl<|an<|sq<|sq<|rg<|V vm<|V vnt<|V vgt<|nl<|an<|?_
   refine cnd (fun hc8 hr=>?_) (fun hc8 hr=>?_)
   ·refine sq<|rg<|V va<|?_
    obtain rfl:=Option.some.inj hr
    exact nl<|an<|cr<|zAC (zAE (zAC (⟨rfl,(zAA hX [] 4 rfl rfl wS trivial)⟩)))
   ·refine sk<|an<|sq<|rg<|V vm<|V vnt<|V vm<|nl<|an<|bl<|?_
    obtain ⟨h11,hr⟩:=zAN hr
    obtain ⟨o12,e13,hr⟩:=zA hr
    refine zAI (List.length x6 : Int) (f22_b1 x6) (fun p=>match p with | (i9,())=>(⟨[(1,.ptr 0 0),(2,.bool false),(4,.str x6),(10,.sl .str [p0.1,p0.2]),(11,.i (List.length [p0.1,p0.2] : Int)),(12,.i i1),(20,.i (List.length x6 : Int)),(21,.i i9)],[(0,.var 34 [.str p0.1,.str p0.2])],1⟩ : AS)) (fun o e st=>match o with | .inl ()=>e=.exit 2∧Wk X st ⟨[(1,.ptr 0 0),(2,.bool false),(10,.sl .str [p0.1,p0.2]),(11,.i (List.length [p0.1,p0.2] : Int)),(12,.i i1)],[(0,.var 34 [.str p0.1,.str p0.2])],1⟩ | .inr ()=>e=.ret∧Wk X st ⟨[(2,.bool false)],[],0⟩) (of_decide_eq_true h11) e13 (by exact zAA hX [0] 4 rfl rfl wS wO) ?_ ?_
    ·intro e st hx
     rcases o12 with _ | _
     ·obtain ⟨rfl,hw⟩:=hx
      refine bh<|bn<|an<|(zAY hw)<|rg<|V vad<|V vm<|?_
      obtain rfl:=Option.some.inj hr
      exact zAJ ((zAA hX [0] 4 rfl rfl wS wO))
     ·obtain ⟨rfl,hw⟩:=hx
      obtain rfl:=Option.some.inj hr
      exact zAE (zAE (zAC (⟨rfl,(Wk.trans hw (zAA hX [] 4 rfl rfl wS trivial))⟩)))
    ·rintro i9 _ o ho
     refine sq<|rg<|V vls<|nl<|an<|sq<|?_
     refine zAO (b:=decide (i9 < (List.length x6 : Int))) rfl (fun hc14=>?_) (fun hc14=>?_)
     ·obtain ⟨q,hr,rfl⟩:=zA7 hc14 ho
      obtain ⟨x15,e16,hr⟩:=zA hr
      refine sk<|an<|sq<|bl<|sq<|rg<|V vm<|V va<|nl<|an<|sq<|?_
      obtain ⟨h17,hr⟩:=zAN hr
      refine zAa [1,2,4,10,11,12,20,21,5] [(true,.str x6),(true,.i i9),(true,.int .u8 ((UInt8.toNat x15 : Nat) : Int)),(true,.bool (decide (((UInt8.toNat x15 : Nat) : Int) < 33))),(true,.bool (decide (((UInt8.toNat x15 : Nat) : Int) < 33))),(!(decide (((UInt8.toNat x15 : Nat) : Int) < 33)),.str x6),(!(decide (((UInt8.toNat x15 : Nat) : Int) < 33)),.i i9),(!(decide (((UInt8.toNat x15 : Nat) : Int) < 33)),.int .u8 ((UInt8.toNat ((ix x6 i9).getD default) : Nat) : Int)),(!(decide (((UInt8.toNat x15 : Nat) : Int) < 33)),.bool (decide (126 < ((UInt8.toNat ((ix x6 i9).getD default) : Nat) : Int)))),(true,.bool ((decide (((UInt8.toNat x15 : Nat) : Int) < 33))||(decide (126 < ((UInt8.toNat ((ix x6 i9).getD default) : Nat) : Int)))))] [[],[],[0,1],[2],[3],[4],[4],[5,6,4],[7,4],[8,4]] [9] rfl rfl rfl rfl rfl ⟨?_,?_,?_,?_,?_,?_,?_,?_,?_,?_,trivial⟩ (zAD ⟨rfl,trivial⟩) ?_
      ·exact oB wm
      ·exact oB wm
      ·exact zAr rfl (fun hg=>zAD ⟨rfl,rfl,trivial⟩) (fun hg=>zBB (undX 9 rfl) rfl rfl e16)
      ·exact oB wls
      ·exact oB wm
      ·exact oB wm
      ·exact oB wm
      ·exact zAr ⟨rfl,rfl,rfl,_,rfl,rfl⟩ (fun hg=>zAD ⟨hg,hg,rfl,trivial⟩) (fun hg=>zBB (undX 9 rfl) rfl rfl (zAz h17 hg))
      ·exact oB wgt
      ·exact zBr
      refine an<|?_
      refine cnd (fun hc18 hr=>?_) (fun hc18 hr=>?_)
      ·refine sq<|rg<|V va<|?_
       obtain rfl:=Option.some.inj hr
       exact nl<|an<|cr<|zAE (zAC (⟨rfl,(zAA hX [] 4 rfl rfl wS trivial)⟩))
      ·refine sk<|bn<|an<|rg<|V vad<|V vm<|?_
       obtain rfl:=Option.some.inj hr
       exact zAJ ((zAA hX [0] 4 rfl rfl wS wO))
     ·obtain rfl:=zA8 hc14 ho
      exact zAH (zAF (⟨rfl,(zAA hX [0] 4 rfl rfl wS wO)⟩))
  ·obtain rfl:=zA8 hc5 ho
   exact zAH (zAF (⟨rfl,(zAA hX [0] 4 rfl rfl wS wO)⟩))
theorem f10_runs {p0:ZN}{r:Bool}(hr:f10 p0=some r) : zBb Tryz.prog 60 [.sl Y1 p0] [.bool r]:=by
 refine zAW Tryz.func60 Tryz.ntmps60 rfl (rs:=[.tmp 2]) rfl rfl fun w0 X hX=>?_
 obtain ⟨o3,e4,hr⟩:=zA hr
 refine sq<|rg<|V va<|nl<|an<|sq<|sq<|rg<|V vm<|V vnl<|V vm<|nl<|an<|bl<|?_
 refine zAb (t:=0) rfl (fun hl=>?_)
 refine zAI (List.length p0 : Int) (f10_b0 p0) (fun p=>match p with | (i1,())=>(⟨[(0,.sl Y1 p0),(2,.bool false),(5,.sl Y1 p0),(6,.i (List.length p0 : Int)),(7,.i i1)],[],0⟩ : AS)) (fun o e st=>match o with | .inl ()=>e=.exit 0∧Wk X st ⟨[(0,.sl Y1 p0),(2,.bool false)],[],0⟩ | .inr ()=>e=.ret∧Wk X st ⟨[(2,.bool false)],[],0⟩) (zAf hl) e4 (by exact zAA hX [] 4 rfl rfl wS trivial) ?_ ?_
 ·intro e st hx
  rcases o3 with _ | _
  ·obtain ⟨rfl,hw⟩:=hx
   refine bh<|an<|(zAY hw)<|sq<|?_
   refine zAa [0] [(true,.sl Y1 p0),(true,.i (List.length p0 : Int)),(true,.bool (decide (1≤(List.length p0 : Int)))),(true,.bool (decide (1≤(List.length p0 : Int)))),(decide (1≤(List.length p0 : Int)),.sl Y1 p0),(decide (1≤(List.length p0 : Int)),.i (List.length p0 : Int)),(decide (1≤(List.length p0 : Int)),.bool (decide ((List.length p0 : Int)≤20))),(true,.bool ((decide (1≤(List.length p0 : Int)))&&(decide ((List.length p0 : Int)≤20)))),(true,.bool ((decide (1≤(List.length p0 : Int)))&&(decide ((List.length p0 : Int)≤20))))] [[],[0],[1],[2],[3],[4,3],[5,3],[6,3],[7]] [8] rfl rfl rfl rfl rfl ⟨?_,?_,?_,?_,?_,?_,?_,?_,?_,trivial⟩ (zAD ⟨rfl,trivial⟩) ?_
   ·exact oB wm
   ·exact zAr rfl (fun hg=>zAD ⟨rfl,trivial⟩) (fun hg=>zA0 (t:=Y1) rfl rfl (undX 23 rfl) rfl)
   ·exact oB wge
   ·exact oB wm
   ·exact oB wm
   ·exact zAr ⟨rfl,rfl,rfl,_,rfl,rfl⟩ (fun hg=>zAD ⟨hg,rfl,trivial⟩) (fun hg=>zA0 (t:=Y1) rfl rfl (undX 23 rfl) rfl)
   ·exact oB wle
   ·exact zBe
   ·exact oB wa
   obtain rfl:=Option.some.inj hr
   exact zAZ (zAw (zAk (l':=[(2,.bool ((decide (1≤(List.length p0 : Int)))&&(decide ((List.length p0 : Int)≤20))))]) (zAA hX [] 4 rfl rfl wS trivial) rfl ⟨rfl,trivial⟩))
  ·obtain ⟨rfl,hw⟩:=hx
   obtain rfl:=Option.some.inj hr
   exact zAE (zAC (zAk (l':=[(2,.bool false)]) (Wk.trans hw (zAA hX [] 4 rfl rfl wS trivial)) rfl ⟨rfl,trivial⟩))
 ·rintro i1 _ o ho
  refine sq<|rg<|V vls<|nl<|an<|sq<|?_
  refine zAO (b:=decide (i1 < (List.length p0 : Int))) rfl (fun hc5=>?_) (fun hc5=>?_)
  ·obtain ⟨q,hr,rfl⟩:=zA7 hc5 ho
   obtain ⟨x6,e7,hr⟩:=zA hr
   obtain ⟨x8,e9,hr⟩:=zA hr
   refine sk<|an<|sq<|bl<|sq<|rg<|V (zAQ (t:=Y1) (e:=x6) (undX 23 rfl) (szX 34 rfl) rfl rfl e7)<|V vlR<|O oa<|O os<|nl<|an<|sq<|rg<|V vlP<|?_
   refine V (zAV (f22_runs e9).x ent85 rfl rfl)<|V vno<|nl<|an<|?_
   refine cnd (fun hc10 hr=>?_) (fun hc10 hr=>?_)
   ·refine sq<|rg<|V va<|?_
    obtain rfl:=Option.some.inj hr
    exact nl<|an<|cr<|zAE (zAC (⟨rfl,(zAA hX [] 4 rfl rfl wS trivial)⟩))
   ·refine sk<|bn<|an<|rg<|V vad<|V vm<|?_
    obtain rfl:=Option.some.inj hr
    exact zAJ ((zAA hX [] 4 rfl rfl wS trivial))
  ·obtain rfl:=zA8 hc5 ho
   exact zAH (zAF (⟨rfl,(zAA hX [] 4 rfl rfl wS trivial)⟩))
theorem zDa {p0:ZQ}{p1:Int}{r:(Option (ZR))}(hr:g51 p0 p1=some r) : zBb Tryz.prog 51 [.rp [.sl Y4 p0.1,.i p0.2],.i p1] [.pd Y4 r]:=by
 refine zAW Tryz.func51 Tryz.ntmps51 rfl (rs:=[.tmp 4]) rfl rfl fun w0 X hX=>?_
 obtain ⟨o5,e6,hr⟩:=zA hr
 refine sq<|rg<|V va<|nl<|an<|sq<|sq<|rg<|V vm<|V vnr<|V vfr<|V vlr<|V vnl<|V vm<|nl<|an<|bl<|?_
 refine zAb (t:=9) rfl (fun hl=>?_)
 refine zAI (S:=Unit) (R:=Int×(ZE)) (List.length p0.1 : Int) (g51_b0 p0 p1) (fun p=>match p with | (i1,())=>(⟨[(0,.rp [.sl Y4 p0.1,.i p0.2]),(1,.i p1),(4,.nilp),(10,.i (List.length p0.1 : Int)),(11,.i i1)],[],0⟩ : AS)) (fun o e st=>match o with | .inl ()=>e=.exit 0∧Wk X st ⟨[(4,.nilp)],[],0⟩ | .inr (s3,s4)=>e=.ret∧Wk X st ⟨[(4,.rp [.i s3,.sl Y3 s4])],[],0⟩) (zAf hl) e6 (by exact zAA hX [] 4 rfl rfl wS trivial) ?_ ?_
 ·intro e st hx
  rcases o5 with _ | ⟨s3,s4⟩
  ·obtain ⟨rfl,hw⟩:=hx
   refine bh<|an<|(zAY hw)<|sq<|rg<|V va<|?_
   obtain rfl:=Option.some.inj hr
   exact nl<|an<|cr<|zAk (l':=[(4,.pd Y4 none)]) (zAA hX [] 4 rfl rfl ⟨⟨_,rfl,cv4⟩,trivial⟩ trivial) rfl ⟨rfl,trivial⟩
  ·obtain ⟨rfl,hw⟩:=hx
   obtain rfl:=Option.some.inj hr
   exact zAE (zAC (zAk (l':=[(4,.pd Y4 (some (s3,s4)))]) (Wk.trans hw (zAA hX [] 4 rfl rfl ⟨⟨_,rfl,(cv5 rfl rfl)⟩,trivial⟩ trivial)) rfl ⟨rfl,trivial⟩))
 ·rintro i1 _ o ho
  refine sq<|rg<|V vls<|nl<|an<|sq<|?_
  refine zAO (b:=decide (i1 < (List.length p0.1 : Int))) rfl (fun hc7=>?_) (fun hc7=>?_)
  ·obtain ⟨q,hr,rfl⟩:=zA7 hc7 ho
   obtain ⟨x8,e9,hr⟩:=zA hr
   refine sk<|an<|sq<|bl<|sq<|rg<|V vm<|V va<|nl<|an<|sq<|rg<|V vm<|V vnr<|V vfr<|V vlr<|V vm<|?_
   refine V (zAQ (t:=Y4) (e:=x8) (undX 68 rfl) (szX 67 rfl) rfl rfl e9)<|V vfr<|V vlr<|V vm<|V veq<|nl<|an<|?_
   refine cnd (fun hc10 hr=>?_) (fun hc10 hr=>?_)
   ·refine sq<|rg<|V vm<|V vnr<|V vfr<|V vlr<|V vm<|?_
    refine V (zAQ (t:=Y4) (e:=x8) (undX 68 rfl) (szX 67 rfl) rfl rfl e9)<|V va<|?_
    obtain rfl:=Option.some.inj hr
    exact nl<|an<|cr<|zAE (zAC (⟨rfl,(zAA hX [] 4 rfl rfl wS trivial)⟩))
   ·refine sk<|bn<|an<|rg<|V vad<|V vm<|?_
    obtain rfl:=Option.some.inj hr
    exact zAJ ((zAA hX [] 4 rfl rfl wS trivial))
  ·obtain rfl:=zA8 hc7 ho
   exact zAH (zAF (⟨rfl,(zAA hX [] 4 rfl rfl wS trivial)⟩))
theorem g51o_runs {p0_0:ZQ}{p1:Int}{r:Unit ⊕ Nat}(hr:g51o p0_0 p1=some r) : Runs Tryz.prog 51 [.ptr 0 0,.i p1] [.tr E70 (some p0_0)] (fun q Hq=>match r with | .inl r=>q=[.nilp]∧Hq=[.tr E70 (some p0_0)] | .inr r=>q=[.ep 1 2 r 0]∧Hq=[.var 70 [.osl 1,.i p0_0.2],.sl 67 Y4 p0_0.1]):=by
 refine zAW Tryz.func51 Tryz.ntmps51 rfl (rs:=[.tmp 4]) rfl rfl fun w0 X hX=>?_
 obtain ⟨o5,e6,hr⟩:=zA hr
 refine sq<|rg<|V va<|nl<|an<|sq<|sq<|rg<|V vm<|V vnp<|V vfp<|?_
 refine zAG (zAd (i:=0) [.osl 1,.i p0_0.2] [.sl 67 Y4 p0_0.1] rfl rfl rfl rfl)<|V vlp<|V vnL<|V vm<|nl<|an<|bl<|?_
 refine zA5 (i:=1) rfl rfl (fun hl=>?_)
 refine zAI (List.length p0_0.1 : Int) (g51o_b0 p0_0 p1) (fun p=>match p with | (i2,())=>(⟨[(0,.ptr 0 0),(1,.i p1),(4,.nilp),(10,.i (List.length p0_0.1 : Int)),(11,.i i2)],[(0,.tr E70 (some p0_0))],1⟩ : AS)) (fun o e st=>match o with | .inl ()=>e=.exit 0∧Wk X st ⟨[(4,.nilp)],[(0,.tr E70 (some p0_0))],1⟩ | .inr s4=>e=.ret∧Wk X st ⟨[(4,.ep 1 2 s4 0)],[(0,.var 70 [.osl 1,.i p0_0.2]),(1,.sl 67 Y4 p0_0.1)],2⟩) (zAf hl) e6 (Wk.trans (pk (i:=0) (e:=F70) (js:=[1]) p0_0) (by exact zAA hX [0] 4 rfl rfl wS wO)) ?_ ?_
 ·intro e st hx
  rcases o5 with _ | s4
  ·obtain ⟨rfl,hw⟩:=hx
   refine bh<|an<|(zAY hw)<|sq<|rg<|V va<|?_
   obtain rfl:=Option.some.inj hr
   exact nl<|an<|cr<|zAe (l':=[(4,.nilp)]) (Hs:=[(0,.tr E70 (some p0_0))]) (n:=1) (zAA hX [0] 4 rfl rfl wS wO) rfl rfl rfl ⟨rfl,trivial⟩
  ·obtain ⟨rfl,hw⟩:=hx
   obtain rfl:=Option.some.inj hr
   exact zAE (zAC (zAe (l':=[(4,.ep 1 2 s4 0)]) (Hs:=[(0,.var 70 [.osl 1,.i p0_0.2]),(1,.sl 67 Y4 p0_0.1)]) (n:=2) (Wk.trans hw (zAA hX [0,1] 4 rfl rfl wS wO)) rfl rfl rfl ⟨rfl,trivial⟩))
 ·rintro i2 _ o ho
  refine sq<|rg<|V vls<|nl<|an<|sq<|?_
  refine zAO (b:=decide (i2 < (List.length p0_0.1 : Int))) rfl (fun hc7=>?_) (fun hc7=>?_)
  ·obtain ⟨q,hr,rfl⟩:=zA7 hc7 ho
   obtain ⟨x8,e9,hr⟩:=zA hr
   refine sk<|an<|sq<|bl<|sq<|rg<|V vm<|V va<|nl<|an<|sq<|rg<|V vm<|V vnp<|V vfp<|?_
   refine zAG (zAd (i:=0) [.osl 1,.i p0_0.2] [.sl 67 Y4 p0_0.1] rfl rfl rfl rfl)<|V vlp<|V vm<|?_
   refine V (zAn (t:=Y4) (undX 68 rfl) (szX 67 rfl) rfl rfl rfl e9)<|?_
   refine V (zDN (faX 67 0 rfl) rfl rfl)<|?_
   refine V (zAu (tsX 3 rfl) rfl rfl rfl (zCM e9) rfl)<|V vm<|V veq<|nl<|an<|?_
   refine cnd (fun hc10 hr=>?_) (fun hc10 hr=>?_)
   ·refine sq<|rg<|V vm<|V vnp<|V vfp<|V vlp<|V vm<|?_
    refine V (zAn (t:=Y4) (undX 68 rfl) (szX 67 rfl) rfl rfl rfl e9)<|V va<|?_
    obtain rfl:=Option.some.inj hr
    exact nl<|an<|cr<|zAE (zAC (⟨rfl,(zAA hX [0,1] 4 rfl rfl wS wO)⟩))
   ·refine sk<|bn<|an<|rg<|V vad<|V vm<|?_
    obtain rfl:=Option.some.inj hr
    exact zAJ ((Wk.trans (pk (i:=0) (e:=F70) (js:=[1]) p0_0) (zAA hX [0] 4 rfl rfl wS wO)))
  ·obtain rfl:=zA8 hc7 ho
   exact zAH (zAF (⟨rfl,(zAA hX [0] 4 rfl rfl wS wO)⟩))
theorem f13_runs {p0:Str×Str}{p1:Str×Str}{r:Int}(hr:f13 p0 p1=some r) : zBb Tryz.prog 86 [.agg [.str p0.1,.str p0.2],.agg [.str p1.1,.str p1.2]] [.i r]:=by
 refine zAW Tryz.func86 Tryz.ntmps86 rfl (rs:=[.tmp 4]) rfl rfl fun w0 X hX=>?_
 obtain ⟨x1,e2,hr⟩:=zA hr
 refine sq<|rg<|O ob<|O ob<|V va<|nl<|an<|sq<|sq<|?_
 obtain ⟨h3,hr⟩:=zAN hr
 refine zAa [2,3,4] [(true,.agg [.str p0.1,.str p0.2]),(true,.bool x1),(true,.bool (!x1)),(true,.bool (!x1)),(!(!x1),.agg [.str p1.1,.str p1.2]),(!(!x1),.bool ((f22 p1).getD default)),(!(!x1),.bool (!((f22 p1).getD default))),(true,.bool ((!x1)||(!((f22 p1).getD default))))] [[],[0],[1],[2],[3],[4,3],[5,3],[6,3]] [7] rfl rfl rfl rfl rfl ⟨?_,?_,?_,?_,?_,?_,?_,?_,trivial⟩ (zAD ⟨rfl,trivial⟩) ?_
 ·exact oB wlP
 ·exact zAr rfl (fun hg=>zAD ⟨rfl,trivial⟩) (fun hg=>zAV (f22_runs e2).x ent85 rfl rfl)
 ·exact oB wno
 ·exact oB wm
 ·exact oB wlP
 ·exact zAr ⟨rfl,rfl,rfl,_,rfl,rfl⟩ (fun hg=>zAD ⟨hg,rfl,trivial⟩) (fun hg=>zAV (f22_runs (zAz h3 hg)).x ent85 rfl rfl)
 ·exact oB wno
 ·exact zBr
 refine an<|?_
 refine cnd (fun hc4 hr=>?_) (fun hc4 hr=>?_)
 ·refine sq<|rg<|V va<|?_
  obtain rfl:=Option.some.inj hr
  exact nl<|an<|cr<|zAC (zAk (l':=[(4,.i 0)]) (zAA hX [] 4 rfl rfl wS trivial) rfl ⟨rfl,trivial⟩)
 ·obtain ⟨x5,e6,hr⟩:=zA hr
  refine sk<|an<|sq<|sq<|rg<|V vfp<|V vlp<|V vfp<|V vlp<|?_
  refine V (zAV (fCmp_runs e6).x ent50 rfl rfl)<|V va<|nl<|an<|sq<|rg<|V vm<|V vne<|nl<|an<|?_
  refine cnd (fun hc7 hr=>?_) (fun hc7 hr=>?_)
  ·refine sq<|rg<|V vm<|V va<|?_
   obtain rfl:=Option.some.inj hr
   exact nl<|an<|cr<|zAC (zAk (l':=[(4,.i x5)]) (zAA hX [] 4 rfl rfl wS trivial) rfl ⟨rfl,trivial⟩)
  ·obtain ⟨x8,e9,hr⟩:=zA hr
   refine sk<|an<|sq<|rg<|V vfp<|V vlp<|V vfp<|V vlp<|?_
   refine V (zAV (fCmp_runs e9).x ent50 rfl rfl)<|V va<|?_
   obtain rfl:=Option.some.inj hr
   exact nl<|an<|cr<|zAk (l':=[(4,.i x8)]) (zAA hX [] 4 rfl rfl wS trivial) rfl ⟨rfl,trivial⟩
theorem g62_runs {p0:Option (ZR)}{p1:Str×Str}{r:Int×Bool}(hr:g62 p0 p1=some r) : zBb Tryz.prog 62 [.pd Y4 p0,.agg [.str p1.1,.str p1.2]] [.i r.1,.bool r.2]:=by
 refine zAW Tryz.func62 Tryz.ntmps62 rfl (rs:=[.tmp 4,.tmp 5]) rfl rfl fun w0 X hX=>?_
 obtain ⟨x1,e2,hr⟩:=zA hr
 obtain ⟨o7,e8,hr⟩:=zA hr
 refine sq<|rg<|O ob<|V va<|V va<|nl<|an<|sq<|sq<|rg<|V vm<|?_
 refine V (zCJ (t:=Y4) (y:=x1) rfl e2)<|V vfr<|V vlr<|V vnl<|V vm<|nl<|an<|bl<|?_
 refine zAb (t:=12) rfl (fun hl=>?_)
 refine zAI (S:=Unit) (R:=Int×Bool) (List.length x1.2 : Int) (g62_b0 p1 x1) (fun p=>match p with | (i3,())=>(⟨[(0,.pd Y4 p0),(3,.ptr 0 0),(4,.i 0),(5,.bool false),(12,.sl Y3 x1.2),(13,.i (List.length x1.2 : Int)),(14,.i i3)],[(0,.var 34 [.str p1.1,.str p1.2])],1⟩ : AS)) (fun o e st=>match o with | .inl ()=>e=.exit 0∧Wk X st ⟨[(0,.pd Y4 p0),(4,.i 0),(5,.bool false)],[],0⟩ | .inr (s5,s6)=>e=.ret∧Wk X st ⟨[(4,.i s5),(5,.bool s6)],[],0⟩) (zAf hl) e8 (by exact zAA hX [0] 4 rfl rfl wS wO) ?_ ?_
 ·intro e st hx
  rcases o7 with _ | ⟨s5,s6⟩
  ·obtain ⟨rfl,hw⟩:=hx
   obtain ⟨x9,e10,hr⟩:=zA hr
   refine bh<|an<|(zAY hw)<|sq<|rg<|V vm<|?_
   refine V (zCJ (t:=Y4) (y:=x9) rfl e10)<|V vfr<|V vlr<|V vnl<|V va<|V va<|?_
   obtain rfl:=Option.some.inj hr
   exact nl<|an<|cr<|zAk (l':=[(4,.i (List.length x9.2 : Int)),(5,.bool false)]) (zAA hX [] 4 rfl rfl wS trivial) rfl ⟨rfl,rfl,trivial⟩
  ·obtain ⟨rfl,hw⟩:=hx
   obtain rfl:=Option.some.inj hr
   exact zAE (zAC (zAk (l':=[(4,.i s5),(5,.bool s6)]) (Wk.trans hw (zAA hX [] 4 rfl rfl wS trivial)) rfl ⟨rfl,rfl,trivial⟩))
 ·rintro i3 _ o ho
  refine sq<|rg<|V vls<|nl<|an<|sq<|?_
  refine zAO (b:=decide (i3 < (List.length x1.2 : Int))) rfl (fun hc11=>?_) (fun hc11=>?_)
  ·obtain ⟨q,hr,rfl⟩:=zA7 hc11 ho
   obtain ⟨x12,e13,hr⟩:=zA hr
   obtain ⟨x14,e15,hr⟩:=zA hr
   refine sk<|an<|sq<|bl<|sq<|rg<|V vm<|?_
   refine V (zAQ (t:=Y3) (e:=x12) (undX 65 rfl) (szX 36 rfl) rfl rfl e13)<|V vlR<|O oa<|V va<|O os<|nl<|an<|sq<|rg<|V vfp<|V vlP<|V vlP<|?_
   refine V (zAV (f13_runs e15).x ent86 rfl rfl)<|V va<|nl<|an<|sq<|rg<|V vm<|V vge<|nl<|an<|?_
   refine cnd (fun hc16 hr=>?_) (fun hc16 hr=>?_)
   ·refine sq<|rg<|V vm<|V vm<|V veq<|V va<|V va<|?_
    obtain rfl:=Option.some.inj hr
    exact nl<|an<|cr<|zAE (zAC (⟨rfl,(zAA hX [] 4 rfl rfl wS trivial)⟩))
   ·refine sk<|bn<|an<|rg<|V vad<|V vm<|?_
    obtain rfl:=Option.some.inj hr
    exact zAJ ((zAA hX [0] 4 rfl rfl wS wO))
  ·obtain rfl:=zA8 hc11 ho
   exact zAH (zAF (⟨rfl,(zAA hX [] 4 rfl rfl wS trivial)⟩))
theorem g62o_runs {p0_0:ZL}{p0z:Nat}{p1:Str×Str}{r:Int×Bool}(hr:g62o p0_0 p0z p1=some r) : Runs Tryz.prog 62 [.ep 0 2 p0z 0,.agg [.str p1.1,.str p1.2]] [.sl 67 Y4 p0_0] (fun q Hq=>q=[.i r.1,.bool r.2]∧Hq=[.sl 67 Y4 p0_0]):=by
 refine zAW Tryz.func62 Tryz.ntmps62 rfl (rs:=[.tmp 4,.tmp 5]) rfl rfl fun w0 X hX=>?_
 obtain ⟨x1,e2,hr⟩:=zA hr
 obtain ⟨o7,e8,hr⟩:=zA hr
 refine sq<|rg<|O ob<|V va<|V va<|nl<|an<|sq<|sq<|rg<|V vm<|?_
 refine V (zDF rfl)<|?_
 refine V (zDN (faX 67 1 rfl) rfl rfl)<|?_
 refine V (zAu (tsX 65 rfl) rfl rfl rfl (zCM e2) rfl)<|V vnl<|V vm<|nl<|an<|bl<|?_
 refine zAb (t:=12) rfl (fun hl=>?_)
 refine zAI (S:=Unit) (R:=Int×Bool) (List.length x1.2 : Int) (g62o_b0 p1 x1) (fun p=>match p with | (i3,())=>(⟨[(0,.ep 0 2 p0z 0),(3,.ptr 1 0),(4,.i 0),(5,.bool false),(12,.sl Y3 x1.2),(13,.i (List.length x1.2 : Int)),(14,.i i3)],[(0,.sl 67 Y4 p0_0),(1,.var 34 [.str p1.1,.str p1.2])],2⟩ : AS)) (fun o e st=>match o with | .inl ()=>e=.exit 0∧Wk X st ⟨[(0,.ep 0 2 p0z 0),(4,.i 0),(5,.bool false)],[(0,.sl 67 Y4 p0_0)],1⟩ | .inr (s5,s6)=>e=.ret∧Wk X st ⟨[(4,.i s5),(5,.bool s6)],[(0,.sl 67 Y4 p0_0)],1⟩) (zAf hl) e8 (by exact zAA hX [0,1] 4 rfl rfl wS wO) ?_ ?_
 ·intro e st hx
  rcases o7 with _ | ⟨s5,s6⟩
  ·obtain ⟨rfl,hw⟩:=hx
   obtain ⟨x9,e10,hr⟩:=zA hr
   refine bh<|an<|(zAY hw)<|sq<|rg<|V vm<|?_
   refine V (zDF rfl)<|?_
   refine V (zDN (faX 67 1 rfl) rfl rfl)<|?_
   refine V (zAu (tsX 65 rfl) rfl rfl rfl (zCM e10) rfl)<|V vnl<|V va<|V va<|?_
   obtain rfl:=Option.some.inj hr
   exact nl<|an<|cr<|zAe (l':=[(4,.i (List.length x9.2 : Int)),(5,.bool false)]) (Hs:=[(0,.sl 67 Y4 p0_0)]) (n:=1) (zAA hX [0] 4 rfl rfl wS wO) rfl rfl rfl ⟨rfl,rfl,trivial⟩
  ·obtain ⟨rfl,hw⟩:=hx
   obtain rfl:=Option.some.inj hr
   exact zAE (zAC (zAe (l':=[(4,.i s5),(5,.bool s6)]) (Hs:=[(0,.sl 67 Y4 p0_0)]) (n:=1) (Wk.trans hw (zAA hX [0] 4 rfl rfl wS wO)) rfl rfl rfl ⟨rfl,rfl,trivial⟩))
 ·rintro i3 _ o ho
  refine sq<|rg<|V vls<|nl<|an<|sq<|?_
  refine zAO (b:=decide (i3 < (List.length x1.2 : Int))) rfl (fun hc11=>?_) (fun hc11=>?_)
  ·obtain ⟨q,hr,rfl⟩:=zA7 hc11 ho
   obtain ⟨x12,e13,hr⟩:=zA hr
   obtain ⟨x14,e15,hr⟩:=zA hr
   refine sk<|an<|sq<|bl<|sq<|rg<|V vm<|?_
   refine V (zAQ (t:=Y3) (e:=x12) (undX 65 rfl) (szX 36 rfl) rfl rfl e13)<|V vlR<|O oa<|V va<|O os<|nl<|an<|sq<|rg<|V vfp<|V vlP<|V vlP<|?_
   refine V (zAV (f13_runs e15).x ent86 rfl rfl)<|V va<|nl<|an<|sq<|rg<|V vm<|V vge<|nl<|an<|?_
   refine cnd (fun hc16 hr=>?_) (fun hc16 hr=>?_)
   ·refine sq<|rg<|V vm<|V vm<|V veq<|V va<|V va<|?_
    obtain rfl:=Option.some.inj hr
    exact nl<|an<|cr<|zAE (zAC (⟨rfl,(zAA hX [0] 4 rfl rfl wS wO)⟩))
   ·refine sk<|bn<|an<|rg<|V vad<|V vm<|?_
    obtain rfl:=Option.some.inj hr
    exact zAJ ((zAA hX [0,1] 4 rfl rfl wS wO))
  ·obtain rfl:=zA8 hc11 ho
   exact zAH (zAF (⟨rfl,(zAA hX [0] 4 rfl rfl wS wO)⟩))
theorem g61_runs {p0:ZQ}{p1:Int}{p2:ZN}{r:(Option (ZR))×(Int×Int)×Int}(hr:g61 p0 p1 p2=some r) : zBb Tryz.prog 61 [.rp [.sl Y4 p0.1,.i p0.2],.i p1,.sl Y1 p2] [.pd Y4 r.1,.agg [.i r.2.1.1,.i r.2.1.2],.i r.2.2]:=by
 refine zAW Tryz.func61 Tryz.ntmps61 rfl (rs:=[.tmp 6,.cell 7 38,.tmp 8]) rfl rfl fun w0 X hX=>?_
 obtain ⟨x1,e2,hr⟩:=zA hr
 refine sq<|rg<|V va<|O oa<|V va<|nl<|an<|sq<|rg<|V vm<|V vm<|?_
 refine V (zAV (zDa e2).x ent51 rfl rfl)<|V va<|nl<|an<|sq<|sq<|rg<|V vm<|V vm<|V vnl<|V vsu<|?_
 obtain ⟨h3,hr⟩:=zAN hr
 obtain ⟨o12,e13,hr⟩:=zA hr
 refine V (zDD (t:=Y1) (l:=0) (h:=(w64 ((List.length p2 : Int) - 1))) (undX 23 rfl) (szX 34 rfl) rfl rfl ⟨_,rfl⟩ h3)<|V vnl<|V vm<|nl<|an<|bl<|?_
 refine zAb (t:=21) rfl (fun hl=>?_)
 refine zAI (S:=(Option (ZR))) (R:=Int×Int×Int) (List.length ((p2.take (Int.toNat (w64 ((List.length p2 : Int) - 1)))).drop (Int.toNat 0)) : Int) (g61_b0 p0 p2) (fun p=>match p with | (i4,s5)=>(⟨[(0,.rp [.sl Y4 p0.1,.i p0.2]),(6,.nilp),(7,.ptr 0 0),(8,.i 0),(9,.pd Y4 s5),(21,.sl Y1 ((p2.take (Int.toNat (w64 ((List.length p2 : Int) - 1)))).drop (Int.toNat 0))),(22,.i (List.length ((p2.take (Int.toNat (w64 ((List.length p2 : Int) - 1)))).drop (Int.toNat 0)) : Int)),(23,.i i4)],[(0,.var 38 [.i 0,.i 0])],1⟩ : AS)) (fun o e st=>match o with | .inl s5=>e=.exit 0∧Wk X st ⟨[(6,.nilp),(7,.ptr 0 0),(8,.i 0),(9,.pd Y4 s5)],[(0,.var 38 [.i 0,.i 0])],1⟩ | .inr (s9,s10,s11)=>e=.ret∧Wk X st ⟨[(6,.nilp),(7,.ptr 0 0),(8,.i s9)],[(0,.var 38 [.i s10,.i s11])],1⟩) (zAf hl) e13 (by exact zAA hX [0] 4 rfl rfl wS wO) ?_ ?_
 ·intro e st hx
  rcases o12 with s5 | ⟨s9,s10,s11⟩
  ·obtain ⟨rfl,hw⟩:=hx
   refine bh<|an<|(zAY hw)<|sq<|rg<|V vm<|?_
   refine V (zAs (qs:=[]) (cs:=[.i 0,.i 0]) bt38 rfl rfl rfl)<|V va<|O os<|V va<|?_
   obtain rfl:=Option.some.inj hr
   exact nl<|an<|cr<|zAk (l':=[(6,.pd Y4 s5),(7,.rp [.i 0,.i 0]),(8,.i 0)]) (zAA hX [] 4 rfl rfl wS trivial) rfl ⟨rfl,(.inr ⟨_,2,rfl,(tsX 38 rfl),rfl,rfl⟩),rfl,trivial⟩
  ·obtain ⟨rfl,hw⟩:=hx
   obtain rfl:=Option.some.inj hr
   exact zAE (zAC (zAk (l':=[(6,.pd Y4 none),(7,.rp [.i s10,.i s11]),(8,.i s9)]) (Wk.trans hw (zAA hX [] 4 rfl rfl ⟨⟨_,rfl,cv4⟩,⟨_,rfl,cv0⟩,⟨_,rfl,cv0⟩,trivial⟩ trivial)) rfl ⟨rfl,(.inr ⟨_,2,rfl,(tsX 38 rfl),rfl,rfl⟩),rfl,trivial⟩))
 ·rintro i4 s5 o ho
  refine sq<|rg<|V vls<|nl<|an<|sq<|?_
  refine zAO (b:=decide (i4 < (List.length ((p2.take (Int.toNat (w64 ((List.length p2 : Int) - 1)))).drop (Int.toNat 0)) : Int))) rfl (fun hc14=>?_) (fun hc14=>?_)
  ·obtain ⟨q,hr,rfl⟩:=zA7 hc14 ho
   obtain ⟨x15,e16,hr⟩:=zA hr
   obtain ⟨x17,e18,hr⟩:=zA hr
   refine sk<|an<|sq<|bl<|sq<|rg<|V vm<|?_
   refine V (zAQ (t:=Y1) (e:=x15) (undX 23 rfl) (szX 34 rfl) rfl rfl e16)<|V vlR<|O oa<|V va<|O os<|nl<|an<|sq<|rg<|V vm<|V vlP<|?_
   refine V (zAV (g62_runs e18).x ent62 rfl rfl)<|V vm<|V vx<|V vx<|V va<|V va<|nl<|an<|sq<|bl<|sq<|rg<|V vm<|V vno<|V va<|nl<|an<|?_
   refine cnd (fun hc19 hr=>?_) (fun hc19 hr=>?_)
   ·refine sq<|rg<|V vm<|?_
    refine V (zAs (qs:=[(0,[.i i4]),(1,[.i 1])]) (cs:=[.i i4,.i 1]) bt38 rfl rfl rfl)<|V va<|O os<|V va<|?_
    obtain rfl:=Option.some.inj hr
    exact nl<|an<|cr<|zAE (zAC (zAE (zAC (⟨rfl,(zAA hX [0] 4 rfl rfl wS wO)⟩))))
   ·obtain ⟨x20,e21,hr⟩:=zA hr
    obtain ⟨x22,e23,hr⟩:=zA hr
    refine sq<|rg<|V vm<|?_
    refine V (zCJ (t:=Y4) (y:=x20) rfl e21)<|V vfr<|V vlr<|V vm<|?_
    refine V (zAQ (t:=Y3) (e:=x22) (undX 65 rfl) (szX 36 rfl) rfl rfl e23)<|V vfr<|V vlr<|V vno<|V va<|nl<|an<|?_
    refine cnd (fun hc24 hr=>?_) (fun hc24 hr=>?_)
    ·refine sq<|rg<|V vm<|?_
     refine V (zAs (qs:=[(0,[.i i4]),(1,[.i 2])]) (cs:=[.i i4,.i 2]) bt38 rfl rfl rfl)<|V va<|O os<|V va<|?_
     obtain rfl:=Option.some.inj hr
     exact nl<|an<|cr<|zAE (zAC (zAE (zAC (⟨rfl,(zAA hX [0] 4 rfl rfl wS wO)⟩))))
    ·obtain ⟨x25,e26,hr⟩:=zA hr
     obtain ⟨x27,e28,hr⟩:=zA hr
     obtain ⟨x29,e30,hr⟩:=zA hr
     refine sk<|bn<|an<|sq<|rg<|V vm<|V vm<|?_
     refine V (zCJ (t:=Y4) (y:=x25) rfl e26)<|V vfr<|V vlr<|V vm<|?_
     refine V (zAQ (t:=Y3) (e:=x27) (undX 65 rfl) (szX 36 rfl) rfl rfl e28)<|V vfr<|V vlr<|?_
     refine V (zAV (zDa e30).x ent51 rfl rfl)<|V va<|nl<|an<|sq<|rg<|V vm<|?_
     refine V (zDW (t:=Y4) (undX 108 rfl) rfl rfl)<|nl<|an<|?_
     refine cnd (fun hc31 hr=>?_) (fun hc31 hr=>?_)
     ·refine sq<|rg<|V vm<|?_
      refine V (zAs (qs:=[(0,[.i i4]),(1,[.i 1])]) (cs:=[.i i4,.i 1]) bt38 rfl rfl rfl)<|V va<|O os<|V va<|?_
      obtain rfl:=Option.some.inj hr
      exact nl<|an<|cr<|zAE (zAC (⟨rfl,(zAA hX [0] 4 rfl rfl wS wO)⟩))
     ·refine sk<|bn<|an<|rg<|V vad<|V vm<|?_
      obtain rfl:=Option.some.inj hr
      exact zAJ ((zAA hX [0] 4 rfl rfl wS wO))
  ·obtain rfl:=zA8 hc14 ho
   exact zAH (zAF (⟨rfl,(zAA hX [0] 4 rfl rfl wS wO)⟩))
theorem app65 : AppT Tryz.prog 65 36 (Ty.cells Y3) 64:=appT_of (z:=.agg #[.string ByteArray.empty,.string ByteArray.empty,.string ByteArray.empty,.int .i64 0,.bool false]) (by kernel_rfl) (by kernel_rfl) rfl rfl
theorem bs65 : BuildS Tryz.prog 65 36 Y3:=zCh (z:=.agg #[.string ByteArray.empty,.string ByteArray.empty,.string ByteArray.empty,.int .i64 0,.bool false]) (by kernel_rfl) (by kernel_rfl) rfl
theorem ent60 : Enters Tryz.prog 60:=enters_of Tryz.func60 (by kernel_rfl) rfl
theorem ent61 : Enters Tryz.prog 61:=enters_of Tryz.func61 (by kernel_rfl) rfl
theorem ent63 : Enters Tryz.prog 63:=enters_of Tryz.func63 (by kernel_rfl) rfl
theorem ent64 : Enters Tryz.prog 64:=enters_of Tryz.func64 (by kernel_rfl) rfl
theorem ent24 : Enters Tryz.prog 24:=enters_of Tryz.func24 (by kernel_rfl) rfl
theorem ent14 : Enters Tryz.prog 14:=enters_of Tryz.func14 (by kernel_rfl) rfl
theorem ent27 : Enters Tryz.prog 27:=enters_of Tryz.func27 (by kernel_rfl) rfl
theorem ent65 : Enters Tryz.prog 65:=enters_of Tryz.func65 (by kernel_rfl) rfl
theorem ent25 : Enters Tryz.prog 25:=enters_of Tryz.func25 (by kernel_rfl) rfl
theorem zDp {p0_0:ZQ}{p1:Int}{p2:ZN}{r:((Int×Int)×Int) ⊕ Nat}(hr:g61o p0_0 p1 p2=some r) : Runs Tryz.prog 61 [.ptr 0 0,.i p1,.sl Y1 p2] [.tr E70 (some p0_0)] (fun q Hq=>match r with | .inl r=>q=[.nilp,.agg [.i r.1.1,.i r.1.2],.i r.2]∧Hq=[.tr E70 (some p0_0)] | .inr r=>q=[.ep 1 2 r 0,.agg [.i 0,.i 0],.i 0]∧Hq=[.var 70 [.osl 1,.i p0_0.2],.sl 67 Y4 p0_0.1]):=by
 refine zAW Tryz.func61 Tryz.ntmps61 rfl (rs:=[.tmp 6,.cell 7 38,.tmp 8]) rfl rfl fun w0 X hX=>?_
 refine zDO ?_
 refine zDK ?_
 refine zDY (zDJ rfl) ?_
 refine zAK (zD (zDB 38 rfl) rfl ?_)
 refine zDY (zDJ rfl) ?_
 refine zAJ (zAZ (zDO ?_))
 refine zDK ?_
 refine zDY (zAg rfl) ?_
 refine zDY (zAg rfl) ?_
 obtain ⟨o2,e3,hr⟩:=zA hr
 rcases o2 with x4 | x5
 ·exact absurd hr (by simp)
 ·refine zAK (zAP (σ:=[0]) (as':=[.ptr 0 0,.i p1]) (g51o_runs e3).x ent51 rfl ⟨cv0,cv0,trivial⟩ rfl rfl rfl ?_)
  refine zDY (zDJ rfl) ?_
  refine zAJ (zAZ (zDO (zDO ?_)))
  refine zDK ?_
  refine zDY (zAg rfl) ?_
  refine zDY (zAg rfl) ?_
  refine zDY (zA0 (t:=Y1) rfl rfl (undX 23 rfl) rfl) ?_
  refine zDY (zDz rfl rfl) ?_
  obtain ⟨h6,hr⟩:=zAN hr
  refine zDY (zDD (t:=Y1) (l:=0) (h:=(w64 ((List.length p2 : Int) - 1))) (undX 23 rfl) (szX 34 rfl) rfl rfl ⟨_,rfl⟩ h6) ?_
  refine zDY (zA0 (t:=Y1) rfl rfl (undX 23 rfl) rfl) ?_
  refine zDY (zAg rfl) ?_
  refine zAJ (zAZ (zDv ?_))
  obtain ⟨o15,e16,hr⟩:=zA hr
  refine zAb (t:=21) rfl (fun hl=>?_)
  refine zAI (S:=Nat) (R:=Int×Int×Int) (List.length ((p2.take (Int.toNat (w64 ((List.length p2 : Int) - 1)))).drop (Int.toNat 0)) : Int) (g61o_b0 p0_0 p2) (fun p=>match p with | (i7,s8)=>(⟨[(0,.ptr 0 0),(6,.nilp),(7,.ptr 1 0),(8,.i 0),(9,.ep 2 2 s8 0),(21,.sl Y1 ((p2.take (Int.toNat (w64 ((List.length p2 : Int) - 1)))).drop (Int.toNat 0))),(22,.i (List.length ((p2.take (Int.toNat (w64 ((List.length p2 : Int) - 1)))).drop (Int.toNat 0)) : Int)),(23,.i i7)],[(0,.var 70 [.osl 2,.i p0_0.2]),(1,.var 38 [.i 0,.i 0]),(2,.sl 67 Y4 p0_0.1)],3⟩ : AS)) (fun o e st=>match o with | .inl s8=>e=.exit 0∧Wk X st ⟨[(6,.nilp),(7,.ptr 1 0),(8,.i 0),(9,.ep 2 2 s8 0)],[(0,.var 70 [.osl 2,.i p0_0.2]),(1,.var 38 [.i 0,.i 0]),(2,.sl 67 Y4 p0_0.1)],3⟩ | .inr (s12,s13,s14)=>e=.ret∧Wk X st ⟨[(6,.nilp),(7,.ptr 1 0),(8,.i s12)],[(0,.tr E70 (some p0_0)),(1,.var 38 [.i s13,.i s14])],2⟩) (zAf hl) e16 (by exact zAA hX [0,1,2] 4 rfl rfl wS wO) ?_ ?_
  ·intro e st hx
   rcases o15 with s8 | ⟨s12,s13,s14⟩
   ·obtain ⟨rfl,hw⟩:=hx
    refine zAl (zAZ ((zAY hw) (zDO ?_)))
    refine zDK ?_
    refine zDY (zAg rfl) ?_
    refine zDY (zAs (qs:=[]) (cs:=[.i 0,.i 0]) bt38 rfl rfl rfl) ?_
    refine zDY (zDJ rfl) ?_
    refine zAK (zDI (szX 38 rfl) rfl rfl rfl rfl rfl rfl rfl ?_)
    refine zDY (zDJ rfl) ?_
    obtain rfl:=Option.some.inj hr
    exact zAJ (zAZ (zAw (zAe (l':=[(6,.ep 1 2 s8 0),(7,.rp [.i 0,.i 0]),(8,.i 0)]) (Hs:=[(0,.var 70 [.osl 1,.i p0_0.2]),(1,.sl 67 Y4 p0_0.1)]) (n:=2) (zAA hX [0,2] 4 rfl rfl ⟨⟨_,rfl,cv0⟩,⟨_,rfl,cv0⟩,⟨_,rfl,cv0⟩,trivial⟩ ⟨zAL,zAL,trivial⟩) rfl rfl rfl ⟨rfl,(.inr ⟨_,2,rfl,(tsX 38 rfl),rfl,rfl⟩),rfl,trivial⟩)))
   ·obtain ⟨rfl,hw⟩:=hx
    obtain rfl:=Option.some.inj hr
    exact zAE (zAC (zAe (l':=[(6,.nilp),(7,.rp [.i s13,.i s14]),(8,.i s12)]) (Hs:=[(0,.tr E70 (some p0_0))]) (n:=1) (Wk.trans hw (zAA hX [0] 4 rfl rfl ⟨⟨_,rfl,cv0⟩,⟨_,rfl,cv0⟩,⟨_,rfl,cv0⟩,trivial⟩ ⟨zAL,trivial⟩)) rfl rfl rfl ⟨rfl,(.inr ⟨_,2,rfl,(tsX 38 rfl),rfl,rfl⟩),rfl,trivial⟩))
  ·rintro i7 s8 o ho
   refine zDO ?_
   refine zDK ?_
   refine zDY (av_lss rfl rfl) ?_
   refine zAJ (zAZ (zDO ?_))
   refine zAO (b:=decide (i7 < (List.length ((p2.take (Int.toNat (w64 ((List.length p2 : Int) - 1)))).drop (Int.toNat 0)) : Int))) rfl (fun hc17=>?_) (fun hc17=>?_)
   ·obtain ⟨q,hr,rfl⟩:=zA7 hc17 ho
    refine zAv (zAZ (zDO (zDv (zDO ?_))))
    refine zDK ?_
    refine zDY (zAg rfl) ?_
    obtain ⟨x18,e19,hr⟩:=zA hr
    refine zDY (zAQ (t:=Y1) (e:=x18) (undX 23 rfl) (szX 34 rfl) rfl rfl e19) ?_
    refine zDY (zDw (tsX 34 rfl) rfl rfl rfl) ?_
    refine zAK (zD (zDB 34 rfl) rfl ?_)
    refine zDY (zDJ rfl) ?_
    refine zAK (zDI (szX 34 rfl) rfl rfl rfl rfl rfl rfl rfl ?_)
    refine zAJ (zAZ (zDO ?_))
    refine zDK ?_
    refine zDY (zAg rfl) ?_
    refine zDY (zDG (tsX 34 rfl) rfl rfl rfl rfl) ?_
    obtain ⟨x20,e21,hr⟩:=zA hr
    refine zAK (zAP (σ:=[2]) (as':=[.ep 2 2 s8 0,.agg [.str x18.1,.str x18.2]]) (g62o_runs e21).x ent62 rfl ⟨cv0,cv0,trivial⟩ rfl rfl rfl ?_)
    refine zDY (zAg rfl) ?_
    refine zDY (zDA rfl rfl) ?_
    refine zDY (zDA rfl rfl) ?_
    refine zDY (zDJ rfl) ?_
    refine zDY (zDJ rfl) ?_
    refine zAJ (zAZ (zDO (zDv (zDO ?_))))
    refine zDK ?_
    refine zDY (zAg rfl) ?_
    refine zDY (zDx rfl) ?_
    refine zDY (zDJ rfl) ?_
    refine zAJ (zAZ ?_)
    refine zAO (b:=!x20.2) rfl (fun hc22=>?_) (fun hc22=>?_)
    ·have hr:=zD1 hc22 hr
     refine zDO ?_
     refine zDK ?_
     refine zDY (zAg rfl) ?_
     refine zDY (zAs (qs:=[(0,[.i i7]),(1,[.i 1])]) (cs:=[.i i7,.i 1]) bt38 rfl rfl rfl) ?_
     refine zDY (zDJ rfl) ?_
     refine zAK (zDI (szX 38 rfl) rfl rfl rfl rfl rfl rfl rfl ?_)
     refine zDY (zDJ rfl) ?_
     obtain rfl:=Option.some.inj hr
     exact zAJ (zAZ (zAw (zAE (zAC (zAE (zAC (⟨rfl,(Wk.trans (pk (i:=0) (e:=F70) (js:=[2]) p0_0) (zAA hX [0,1] 4 rfl rfl ⟨⟨_,rfl,cv0⟩,⟨_,rfl,cv0⟩,⟨_,rfl,cv0⟩,trivial⟩ ⟨zAL,zAL,trivial⟩))⟩)))))))
    ·have hr:=zD2 hc22 hr
     refine zDO ?_
     refine zDK ?_
     refine zDY (zAg rfl) ?_
     refine zDY (zDF rfl) ?_
     refine zDY (zDN (faX 67 1 rfl) rfl rfl) ?_
     obtain ⟨x23,e24,hr⟩:=zA hr
     refine zDY (zAu (tsX 65 rfl) rfl rfl rfl (zCM e24) rfl) ?_
     refine zDY (zAg rfl) ?_
     obtain ⟨x25,e26,hr⟩:=zA hr
     refine zDY (zAQ (t:=Y3) (e:=x25) (undX 65 rfl) (szX 36 rfl) rfl rfl e26) ?_
     refine zDY (zDE (faX 36 3 rfl) rfl rfl) ?_
     refine zDY (zDC (tsX 4 rfl) rfl) ?_
     refine zDY (zDx rfl) ?_
     refine zDY (zDJ rfl) ?_
     refine zAJ (zAZ ?_)
     refine zAO (b:=!x25.2.2.2) rfl (fun hc27=>?_) (fun hc27=>?_)
     ·have hr:=zD1 hc27 hr
      refine zDO ?_
      refine zDK ?_
      refine zDY (zAg rfl) ?_
      refine zDY (zAs (qs:=[(0,[.i i7]),(1,[.i 2])]) (cs:=[.i i7,.i 2]) bt38 rfl rfl rfl) ?_
      refine zDY (zDJ rfl) ?_
      refine zAK (zDI (szX 38 rfl) rfl rfl rfl rfl rfl rfl rfl ?_)
      refine zDY (zDJ rfl) ?_
      obtain rfl:=Option.some.inj hr
      exact zAJ (zAZ (zAw (zAE (zAC (zAE (zAC (⟨rfl,(Wk.trans (pk (i:=0) (e:=F70) (js:=[2]) p0_0) (zAA hX [0,1] 4 rfl rfl ⟨⟨_,rfl,cv0⟩,⟨_,rfl,cv0⟩,⟨_,rfl,cv0⟩,trivial⟩ ⟨zAL,zAL,trivial⟩))⟩)))))))
     ·have hr:=zD2 hc27 hr
      refine zAv (zAS (zAZ (zDO ?_)))
      refine zDK ?_
      refine zDY (zAg rfl) ?_
      refine zDY (zAg rfl) ?_
      refine zDY (zDF rfl) ?_
      refine zDY (zDN (faX 67 1 rfl) rfl rfl) ?_
      refine zDY (zAu (tsX 65 rfl) rfl rfl rfl (zCM e24) rfl) ?_
      refine zDY (zAg rfl) ?_
      refine zDY (zAQ (t:=Y3) (e:=x25) (undX 65 rfl) (szX 36 rfl) rfl rfl e26) ?_
      refine zDY (zDE (faX 36 2 rfl) rfl rfl) ?_
      refine zDY (zDC (tsX 3 rfl) rfl) ?_
      refine zAG (pk (i:=0) (e:=F70) (js:=[2]) p0_0) ?_
      obtain ⟨o28,e29,hr⟩:=zA hr
      rcases o28 with x30 | x31
      ·refine zAK (zAP (σ:=[0]) (as':=[.ptr 0 0,.i x25.2.2.1]) (g51o_runs e29).x ent51 rfl ⟨cv0,cv0,trivial⟩ rfl rfl rfl ?_)
       refine zAG (zAA (st':=⟨[(0,.ptr 0 0),(6,.nilp),(7,.ptr 1 0),(8,.i 0),(21,.sl Y1 ((p2.take (Int.toNat (w64 ((List.length p2 : Int) - 1)))).drop (Int.toNat 0))),(22,.i (List.length ((p2.take (Int.toNat (w64 ((List.length p2 : Int) - 1)))).drop (Int.toNat 0)) : Int)),(23,.i i7),(10,.i i7),(12,.i x20.1),(51,.ptr 0 0),(55,.sl Y3 x23.2),(56,.i x20.1),(57,.rp [.str x25.1.1,.str x25.1.2,.str x25.2.1,.i x25.2.2.1,.bool x25.2.2.2]),(58,.rp [.i x25.2.2.1,.bool x25.2.2.2]),(59,.i x25.2.2.1),(60,.nilp)],[(0,.tr E70 (some p0_0)),(1,.var 38 [.i 0,.i 0]),(2,.dead),(3,.var 34 [.str x18.1,.str x18.2])],4⟩) hX [0,1,2,3] 4 rfl rfl ⟨⟨_,rfl,cv0⟩,⟨_,rfl,cv0⟩,⟨_,rfl,cv0⟩,⟨_,rfl,cv0⟩,⟨_,rfl,cv0⟩,⟨_,rfl,cv0⟩,⟨_,rfl,cv0⟩,⟨_,rfl,cv0⟩,⟨_,rfl,cv0⟩,⟨_,rfl,cv0⟩,⟨_,rfl,cv0⟩,⟨_,rfl,cv0⟩,⟨_,rfl,cv0⟩,⟨_,rfl,cv0⟩,⟨_,rfl,cv0⟩,⟨_,rfl,cv0⟩,trivial⟩ ⟨zAL,zAL,zAL,zAL,trivial⟩) ?_
       refine zDY (zDJ rfl) ?_
       refine zAJ (zAZ (zDO ?_))
       refine zDK ?_
       refine zDY (zAg rfl) ?_
       refine zDY (av_nilnil (undX 108 rfl) rfl rfl) ?_
       refine zAJ (zAZ (zCZ rfl (zDO ?_)))
       refine zDK ?_
       refine zDY (zAg rfl) ?_
       refine zDY (zAs (qs:=[(0,[.i i7]),(1,[.i 1])]) (cs:=[.i i7,.i 1]) bt38 rfl rfl rfl) ?_
       refine zDY (zDJ rfl) ?_
       refine zAK (zDI (szX 38 rfl) rfl rfl rfl rfl rfl rfl rfl ?_)
       refine zDY (zDJ rfl) ?_
       obtain rfl:=Option.some.inj hr
       exact zAJ (zAZ (zAw (zAE (zAC (⟨rfl,(zAA hX [0,1] 4 rfl rfl ⟨⟨_,rfl,cv0⟩,⟨_,rfl,cv0⟩,⟨_,rfl,cv0⟩,trivial⟩ ⟨zAL,zAL,trivial⟩)⟩)))))
      ·refine zAK (zAP (σ:=[0]) (as':=[.ptr 0 0,.i x25.2.2.1]) (g51o_runs e29).x ent51 rfl ⟨cv0,cv0,trivial⟩ rfl rfl rfl ?_)
       refine zDY (zDJ rfl) ?_
       refine zAJ (zAZ (zDO ?_))
       refine zDK ?_
       refine zDY (zAg rfl) ?_
       refine zDY (av_epnil (undX 108 rfl) rfl rfl) ?_
       refine zAJ (zAZ (zA3 rfl (zAv (zAS (zAZ ?_)))))
       refine zDK ?_
       refine zDY (zD3 rfl rfl) ?_
       refine zDY (zAg rfl) ?_
       obtain rfl:=Option.some.inj hr
       exact zAJ ((zAA hX [0,1,4] 4 rfl rfl ⟨⟨_,rfl,cv0⟩,⟨_,rfl,cv0⟩,⟨_,rfl,cv0⟩,⟨_,rfl,cv0⟩,⟨_,rfl,cv0⟩,⟨_,rfl,cv0⟩,⟨_,rfl,cv0⟩,⟨_,rfl,cv0⟩,trivial⟩ ⟨zAL,zAL,zAL,trivial⟩))
   ·obtain rfl:=zA8 hc17 ho
    exact zAH (zAF (⟨rfl,(zAA hX [0,1,2] 4 rfl rfl ⟨⟨_,rfl,cv0⟩,⟨_,rfl,cv0⟩,⟨_,rfl,cv0⟩,⟨_,rfl,cv0⟩,trivial⟩ ⟨zAL,zAL,zAL,trivial⟩)⟩))
theorem g63_runs {p0:ZQ}{r:Int}(hr:g63 p0=some r) : zBb Tryz.prog 63 [.rp [.sl Y4 p0.1,.i p0.2]] [.i r]:=by
 refine zAW Tryz.func63 Tryz.ntmps63 rfl (rs:=[.tmp 2]) rfl rfl fun w0 X hX=>?_
 refine zDO ?_
 refine zDK ?_
 refine zDY (zDJ rfl) ?_
 refine zAJ (zAZ (zDO ?_))
 refine zDK ?_
 refine zDY (zDJ rfl) ?_
 refine zAJ (zAZ (zDO (zDO ?_)))
 refine zDK ?_
 refine zDY (zAg rfl) ?_
 refine zDY (zDy rfl) ?_
 refine zDY (zDE (faX 70 0 rfl) rfl rfl) ?_
 refine zDY (zDC (tsX 68 rfl) rfl) ?_
 refine zDY (zA0 (t:=Y4) rfl rfl (undX 68 rfl) rfl) ?_
 refine zDY (zAg rfl) ?_
 refine zAJ (zAZ (zDv ?_))
 obtain ⟨o6,e7,hr⟩:=zA hr
 refine zAb (t:=9) rfl (fun hl=>?_)
 refine zAI (List.length p0.1 : Int) (g63_b0 p0) (fun p=>match p with | (i1,s2)=>(⟨[(2,.i 0),(3,.i s2),(9,.sl Y4 p0.1),(10,.i (List.length p0.1 : Int)),(11,.i i1)],[],0⟩ : AS)) (fun o e st=>match o with | .inr _=>False | .inl s2=>e=.exit 0∧Wk X st ⟨[(2,.i 0),(3,.i s2)],[],0⟩) (zAf hl) e7 (by exact zAA hX [] 4 rfl rfl wS trivial) ?_ ?_
 ·intro e st hx
  rcases o6 with s2 | _
  ·obtain ⟨rfl,hw⟩:=hx
   refine zAl (zAZ ((zAY hw) (zDO ?_)))
   refine zDK ?_
   refine zDY (zAg rfl) ?_
   refine zDY (zDJ rfl) ?_
   obtain rfl:=Option.some.inj hr
   exact zAJ (zAZ (zAw (zAk (l':=[(2,.i s2)]) (zAA hX [] 4 rfl rfl ⟨⟨_,rfl,cv0⟩,trivial⟩ trivial) rfl ⟨rfl,trivial⟩)))
  ·exact hx.elim
 ·rintro i1 s2 o ho
  refine zDO ?_
  refine zDK ?_
  refine zDY (av_lss rfl rfl) ?_
  refine zAJ (zAZ (zDO ?_))
  refine zAO (b:=decide (i1 < (List.length p0.1 : Int))) rfl (fun hc8=>?_) (fun hc8=>?_)
  ·obtain ⟨q,hr,rfl⟩:=zA7 hc8 ho
   refine zAv (zAZ (zDO (zDv (zDO ?_))))
   refine zDK ?_
   obtain ⟨x9,e10,hr⟩:=zA hr
   refine zDY (zAQ (t:=Y4) (e:=x9) (undX 68 rfl) (szX 67 rfl) rfl rfl e10) ?_
   refine zDY (zDw (tsX 67 rfl) rfl rfl rfl) ?_
   refine zAK (zD (zDB 67 rfl) rfl ?_)
   refine zAK (zDI (szX 67 rfl) rfl rfl rfl rfl rfl rfl rfl ?_)
   refine zAJ (zAZ ?_)
   refine zDK ?_
   refine zDY (zAg rfl) ?_
   refine zDY (zAc (faX 67 1 rfl) rfl rfl) ?_
   refine zDY (zAU (tsX 65 rfl) rfl rfl rfl) ?_
   refine zDY (zA0 (t:=Y3) rfl rfl (undX 65 rfl) rfl) ?_
   refine zDY (zD3 rfl rfl) ?_
   refine zDY (zDJ rfl) ?_
   refine zAJ (zAS (zAZ ?_))
   refine zDK ?_
   refine zDY (zD3 rfl rfl) ?_
   refine zDY (zAg rfl) ?_
   obtain rfl:=Option.some.inj hr
   exact zAJ ((zAA hX [] 4 rfl rfl ⟨⟨_,rfl,cv0⟩,⟨_,rfl,cv0⟩,⟨_,rfl,cv0⟩,⟨_,rfl,cv0⟩,⟨_,rfl,cv0⟩,trivial⟩ trivial))
  ·obtain rfl:=zA8 hc8 ho
   exact zAH (zAF (⟨rfl,(zAA hX [] 4 rfl rfl ⟨⟨_,rfl,cv0⟩,⟨_,rfl,cv0⟩,trivial⟩ trivial)⟩))
theorem g64_runs {p0_0:ZL}{p0z:Nat}{p1:ZB}{r:(ZL)}(hr:g64 p0_0 p0z p1=some r) : Runs Tryz.prog 64 [.ep 0 2 p0z 0,.agg [.str p1.1.1,.str p1.1.2,.str p1.2.1,.i p1.2.2.1,.bool p1.2.2.2]] [.sl 67 Y4 p0_0] (fun q Hq=>q=[]∧Hq=[.sl 67 Y4 r]):=by
 refine zAW Tryz.func64 Tryz.ntmps64 rfl (rs:=[]) rfl rfl fun w0 X hX=>?_
 refine zDO ?_
 refine zDK ?_
 refine zAK (aop_box rfl rfl ?_)
 refine zAJ (zAZ (zDO ?_))
 refine zDK ?_
 refine zDY (zAg rfl) ?_
 refine zDY (zAc (faX 36 0 rfl) rfl rfl) ?_
 refine zDY (zDG (tsX 34 rfl) rfl rfl rfl rfl) ?_
 obtain ⟨x2,e3,hr⟩:=zA hr
 refine zAK (zAP (σ:=[0]) (as':=[.ep 0 2 p0z 0,.agg [.str p1.1.1,.str p1.1.2]]) (g62o_runs e3).x ent62 rfl ⟨cv0,cv0,trivial⟩ rfl rfl rfl ?_)
 refine zDY (zAg rfl) ?_
 refine zDY (zDA rfl rfl) ?_
 refine zDY (zDA rfl rfl) ?_
 refine zDY (zDJ rfl) ?_
 refine zDY (zDJ rfl) ?_
 refine zAJ (zAZ (zDO ?_))
 refine zDK ?_
 refine zDY (zDJ rfl) ?_
 refine zAJ (zAZ (zDO ?_))
 refine zDK ?_
 refine zDY (zAg rfl) ?_
 refine zDY (zAg rfl) ?_
 refine zDY (zDF rfl) ?_
 refine zDY (zDN (faX 67 1 rfl) rfl rfl) ?_
 obtain ⟨x4,e5,hr⟩:=zA hr
 refine zDY (zAu (tsX 65 rfl) rfl rfl rfl (zCM e5) rfl) ?_
 refine zDY (zAg rfl) ?_
 obtain ⟨h6,hr⟩:=zAN hr
 refine zDY (zDD (t:=Y3) (l:=0) (h:=x2.1) (undX 65 rfl) (szX 36 rfl) rfl rfl ⟨_,rfl⟩ h6) ?_
 obtain ⟨h7,hr⟩:=zAN hr
 refine zAK (zDM rfl rfl app65 rfl rfl h7 rfl ?_)
 refine zDY (zDJ rfl) ?_
 refine zAJ (zAZ (zDO ?_))
 refine zDK ?_
 refine zDY (zAg rfl) ?_
 refine zDY (zDG (tsX 36 rfl) rfl rfl rfl rfl) ?_
 refine zDY (zAM (t:=Y3) (qs:=[(0,[.str p1.1.1,.str p1.1.2,.str p1.2.1,.i p1.2.2.1,.bool p1.2.2.2])]) (ys:=[p1]) bs65 rfl rfl rfl rfl rfl rfl rfl rfl) ?_
 obtain ⟨h8,hr⟩:=zAN hr
 refine zAK (zAh rfl rfl app65 rfl rfl rfl h8 rfl ?_)
 refine zDY (zDJ rfl) ?_
 refine zAJ (zAZ ?_)
 obtain ⟨o10,e11,hr⟩:=zA hr
 refine zAy (S:=Int) (R:=Unit) (fun s=>match s with | s9=>(⟨[(0,.ep 0 2 p0z 0),(4,.i s9),(6,.osl 1)],[(0,.sl 67 Y4 p0_0),(1,.sl 36 Y3 (((x4.2.take (Int.toNat x2.1)).drop (Int.toNat 0))++[p1]))],2⟩ : AS)) (fun _ _ _=>False) e11 (fun hr=>?_) ?_ ?_
 ·refine zDO ?_
  refine zDK ?_
  refine zDY (zAg rfl) ?_
  refine zAJ (zAZ ?_)
  refine zAO (b:=x2.2) rfl (fun hc12=>?_) (fun hc12=>?_)
  ·have hr:=zD1 hc12 hr
   refine zDK ?_
   refine zDY (zAg rfl) ?_
   refine zDY (zD3 rfl rfl) ?_
   refine zDY (zDJ rfl) ?_
   obtain rfl:=Option.some.inj hr
   exact zAJ ((zAA hX [0,3] 4 rfl rfl ⟨⟨_,rfl,cv0⟩,⟨_,rfl,cv0⟩,⟨_,rfl,cv0⟩,trivial⟩ ⟨zAL,zAL,trivial⟩))
  ·have hr:=zD2 hc12 hr
   obtain rfl:=Option.some.inj hr
   exact zAv ((zAA hX [0,3] 4 rfl rfl ⟨⟨_,rfl,cv0⟩,⟨_,rfl,cv0⟩,⟨_,rfl,cv0⟩,trivial⟩ ⟨zAL,zAL,trivial⟩))
 ·rintro s9 rfl
  refine zDK ?_
  refine zDY (zAg rfl) ?_
  refine zDY (zAg rfl) ?_
  refine zDY (zAg rfl) ?_
  refine zDY (zDF rfl) ?_
  refine zDY (zDN (faX 67 1 rfl) rfl rfl) ?_
  obtain ⟨x13,e14,hr⟩:=zA hr
  refine zDY (zAu (tsX 65 rfl) rfl rfl rfl (zCM e14) rfl) ?_
  refine zDY (zAg rfl) ?_
  obtain ⟨h15,hr⟩:=zAN hr
  refine zDY (zDD (t:=Y3) (l:=s9) (h:=(List.length x13.2 : Int)) (undX 65 rfl) (szX 36 rfl) rfl ⟨_,rfl⟩ rfl h15) ?_
  obtain ⟨h16,hr⟩:=zAN hr
  refine zAK (zAh rfl rfl app65 rfl rfl rfl h16 rfl ?_)
  refine zDY (zDF rfl) ?_
  refine zDY (zDN (faX 67 1 rfl) rfl rfl) ?_
  refine zAG (wk_frz [37] 2 rfl rfl rfl) ?_
  refine zAK (zDj (e':=(x13.1,((((x4.2.take (Int.toNat x2.1)).drop (Int.toNat 0))++[p1])++((x13.2.take (Int.toNat (List.length x13.2 : Int))).drop (Int.toNat s9))))) (szX 65 rfl) rfl rfl rfl rfl (zCM e14) rfl rfl rfl rfl rfl ?_)
  obtain rfl:=Option.some.inj hr
  exact zAJ (zCz (zAe (l':=[]) (Hs:=[(0,.sl 67 Y4 (p0_0.set p0z (x13.1,((((x4.2.take (Int.toNat x2.1)).drop (Int.toNat 0))++[p1])++((x13.2.take (Int.toNat (List.length x13.2 : Int))).drop (Int.toNat s9))))))]) (n:=1) (zAA hX [0] 4 rfl rfl trivial ⟨zAL,trivial⟩) rfl rfl rfl trivial))
 ·exact fun r h e st hne hx=>hx.elim
theorem g26_runs {p0_0:ZQ}{p1:Int}{p2:ZN}{p3:ZB}{p4:Bool}{r:(Int×Int)×Int×(ZQ)}(hr:g26 p0_0 p1 p2 p3 p4=some r) : Runs Tryz.prog 26 [.ptr 0 0,.i p1,.sl Y1 p2,.agg [.str p3.1.1,.str p3.1.2,.str p3.2.1,.i p3.2.2.1,.bool p3.2.2.2],.bool p4] [.tr E70 (some p0_0)] (fun q Hq=>q=[.agg [.i r.1.1,.i r.1.2],.i r.2.1]∧Hq=[.tr E70 (some r.2.2)]):=by
 refine zAW Tryz.func26 Tryz.ntmps26 rfl (rs:=[.cell 10 38,.tmp 11]) rfl rfl fun w0 X hX=>?_
 refine zDO ?_
 refine zDK ?_
 refine zAG (zAA (st':=⟨[(0,.ptr 0 0),(1,.i p1),(2,.sl Y1 p2),(3,.agg [.str p3.1.1,.str p3.1.2,.str p3.2.1,.i p3.2.2.1,.bool p3.2.2.2]),(4,.bool p4)],[(0,.tr E70 (some p0_0))],1⟩) hX [0] 4 rfl rfl ⟨⟨_,rfl,cv0⟩,⟨_,rfl,cv0⟩,⟨_,rfl,cv0⟩,⟨_,rfl,cv0⟩,⟨_,rfl,cv0⟩,trivial⟩ ⟨zAL,trivial⟩) ?_
 refine zAK (aop_box rfl rfl ?_)
 refine zAK (zD (zDB 38 rfl) rfl ?_)
 refine zDY (zDJ rfl) ?_
 refine zAJ (zAZ (zDO (zDO ?_)))
 obtain ⟨x2,e3,hr⟩:=zA hr
 refine zAa [0,1,2,4,8,10,11] [(true,.sl Y1 p2),(true,.bool x2),(true,.bool (!x2)),(true,.bool (!x2)),(!(!x2),.ptr 1 4),(!(!x2),.bool p3.2.2.2),(!(!x2),.bool (!p3.2.2.2)),(!(!x2),.bool (!p3.2.2.2)),((!(!x2))&&(!p3.2.2.2),.ptr 1 2),((!(!x2))&&(!p3.2.2.2),.str p3.2.1),((!(!x2))&&(!p3.2.2.2),.i (List.length p3.2.1 : Int)),((!(!x2))&&(!p3.2.2.2),.bool (decide (65536 < (List.length p3.2.1 : Int)))),(!(!x2),.bool ((!p3.2.2.2)&&(decide (65536 < (List.length p3.2.1 : Int))))),(true,.bool ((!x2)||((!p3.2.2.2)&&(decide (65536 < (List.length p3.2.1 : Int))))))] [[],[0],[1],[2],[3],[4,3],[5,3],[6,3],[7],[8,7],[9,7],[10,7],[11,7,3],[12,3]] [13] rfl rfl rfl rfl rfl ⟨?_,?_,?_,?_,?_,?_,?_,?_,?_,?_,?_,?_,?_,?_,trivial⟩ (zAD ⟨rfl,trivial⟩) ?_
 ·exact zAr rfl (fun hg=>zAD trivial) (fun hg=>zAg rfl)
 ·exact zAr rfl (fun hg=>zAD ⟨rfl,trivial⟩) (fun hg=>zAV (f10_runs e3).x ent60 rfl rfl)
 ·exact zAr rfl (fun hg=>zAD ⟨rfl,trivial⟩) (fun hg=>zDx rfl)
 ·exact zAr rfl (fun hg=>zAD ⟨rfl,trivial⟩) (fun hg=>zAg rfl)
 ·exact zAr ⟨rfl,rfl,rfl,_,rfl,rfl⟩ (fun hg=>zAD ⟨rfl,trivial⟩) (fun hg=>zAc (faX 36 3 rfl) rfl rfl)
 ·exact zAr ⟨rfl,rfl,rfl,_,rfl,rfl⟩ (fun hg=>zAD ⟨hg,rfl,trivial⟩) (fun hg=>zAU (tsX 4 rfl) rfl rfl rfl)
 ·exact zAr ⟨rfl,rfl,rfl,_,rfl,rfl⟩ (fun hg=>zAD ⟨hg,rfl,trivial⟩) (fun hg=>zDx rfl)
 ·exact zAr ⟨rfl,rfl,rfl,_,rfl,rfl⟩ (fun hg=>zAD ⟨hg,rfl,trivial⟩) (fun hg=>zAg rfl)
 ·exact zAr ⟨rfl,rfl,rfl,_,rfl,rfl⟩ (fun hg=>zAD ⟨(zBO hg),trivial⟩) (fun hg=>zAc (faX 36 1 rfl) rfl rfl)
 ·exact zAr ⟨rfl,rfl,rfl,_,rfl,rfl⟩ (fun hg=>zAD ⟨hg,(zBO hg),trivial⟩) (fun hg=>zAU (tsX 9 rfl) rfl rfl rfl)
 ·exact zAr ⟨rfl,rfl,rfl,_,rfl,rfl⟩ (fun hg=>zAD ⟨hg,(zBO hg),trivial⟩) (fun hg=>av_len_str rfl rfl (undX 9 rfl) rfl)
 ·exact zAr ⟨rfl,rfl,rfl,_,rfl,rfl⟩ (fun hg=>zAD ⟨hg,(zBO hg),trivial⟩) (fun hg=>av_gtr rfl rfl)
 ·exact zBC (b:=true) (p:=!p3.2.2.2) (q:=decide (65536 < (List.length p3.2.1 : Int))) ⟨rfl,rfl,rfl,_,rfl,rfl⟩ rfl rfl (fun hg=>zAD ⟨hg,rfl,trivial⟩) rfl rfl rfl rfl rfl
 ·exact zBr
 refine zAZ ?_
 refine zAO (b:=(!x2)||((!p3.2.2.2)&&(decide (65536 < (List.length p3.2.1 : Int))))) rfl (fun hc4=>?_) (fun hc4=>?_)
 ·have hr:=zD1 hc4 hr
  refine zDO ?_
  refine zDK ?_
  refine zDY (zAs (qs:=[]) (cs:=[.i 0,.i 0]) bt38 rfl rfl rfl) ?_
  refine zAK (zDI (szX 38 rfl) rfl rfl rfl rfl rfl rfl rfl ?_)
  refine zDY (zDJ rfl) ?_
  obtain rfl:=Option.some.inj hr
  exact zAJ (zAZ (zAw (zAC (zAe (l':=[(10,.rp [.i 0,.i 0]),(11,.i 1)]) (Hs:=[(0,.tr E70 (some p0_0))]) (n:=1) (zAA hX [0] 4 rfl rfl ⟨⟨_,rfl,cv0⟩,⟨_,rfl,cv0⟩,trivial⟩ ⟨zAL,trivial⟩) rfl rfl rfl ⟨(.inr ⟨_,2,rfl,(tsX 38 rfl),rfl,rfl⟩),rfl,trivial⟩))))
 ·have hr:=zD2 hc4 hr
  refine zAv (zAZ (zDO (zDO ?_)))
  refine zAY (zAd (i:=0) [.osl 3,.i p0_0.2] [.sl 67 Y4 p0_0.1] rfl rfl rfl rfl) ?_
  obtain ⟨x5,e6,hr⟩:=zA hr
  obtain ⟨h7,hr⟩:=zAN hr
  refine zAa [0,1,2,4,8,10,11] [(true,.ptr 0 0),(true,.i p1),(true,.pd .unit (Option.map (fun _=>()) x5)),(true,.bool (Option.isNone (Option.map (fun _=>()) x5))),(true,.bool (Option.isNone (Option.map (fun _=>()) x5))),(!(Option.isNone (Option.map (fun _=>()) x5)),.ptr 1 4),(!(Option.isNone (Option.map (fun _=>()) x5)),.bool p3.2.2.2),(!(Option.isNone (Option.map (fun _=>()) x5)),.bool p3.2.2.2),((!(Option.isNone (Option.map (fun _=>()) x5)))&&p3.2.2.2,.ptr 0 0),((!(Option.isNone (Option.map (fun _=>()) x5)))&&p3.2.2.2,.ptr 1 3),((!(Option.isNone (Option.map (fun _=>()) x5)))&&p3.2.2.2,.i p3.2.2.1),((!(Option.isNone (Option.map (fun _=>()) x5)))&&p3.2.2.2,.pd .unit (Option.map (fun _=>()) ((g51 p0_0 p3.2.2.1).getD default))),((!(Option.isNone (Option.map (fun _=>()) x5)))&&p3.2.2.2,.bool (Option.isNone (Option.map (fun _=>()) ((g51 p0_0 p3.2.2.1).getD default)))),(!(Option.isNone (Option.map (fun _=>()) x5)),.bool (p3.2.2.2&&(Option.isNone (Option.map (fun _=>()) ((g51 p0_0 p3.2.2.1).getD default))))),(true,.bool ((Option.isNone (Option.map (fun _=>()) x5))||(p3.2.2.2&&(Option.isNone (Option.map (fun _=>()) ((g51 p0_0 p3.2.2.1).getD default))))))] [[],[],[0,1],[2],[3],[4],[5,4],[6,4],[7],[7],[9,7],[8,10,7],[11,7],[12,7,4],[13,4]] [14] rfl rfl rfl rfl rfl ⟨?_,?_,?_,?_,?_,?_,?_,?_,?_,?_,?_,?_,?_,?_,?_,trivial⟩ (zAD ⟨rfl,trivial⟩) ?_
  ·exact zAr rfl (fun hg=>zAD trivial) (fun hg=>zAg rfl)
  ·exact zAr rfl (fun hg=>zAD trivial) (fun hg=>zAg rfl)
  ·exact zAr rfl (fun hg=>zAD ⟨rfl,rfl,trivial⟩) (fun hg=>av_callBP (as':=[.ptr 0 0,.i p1]) (zDa e6).x ent51 rfl ⟨cv0,cv0,trivial⟩)
  ·exact zAr rfl (fun hg=>zAD ⟨rfl,trivial⟩) (fun hg=>zDW (t:=.unit) (undX 108 rfl) rfl rfl)
  ·exact zAr rfl (fun hg=>zAD ⟨rfl,trivial⟩) (fun hg=>zAg rfl)
  ·exact zAr ⟨rfl,rfl,rfl,_,rfl,rfl⟩ (fun hg=>zAD ⟨rfl,trivial⟩) (fun hg=>zAc (faX 36 3 rfl) rfl rfl)
  ·exact zAr ⟨rfl,rfl,rfl,_,rfl,rfl⟩ (fun hg=>zAD ⟨hg,rfl,trivial⟩) (fun hg=>zAU (tsX 4 rfl) rfl rfl rfl)
  ·exact zAr ⟨rfl,rfl,rfl,_,rfl,rfl⟩ (fun hg=>zAD ⟨hg,rfl,trivial⟩) (fun hg=>zAg rfl)
  ·exact zAr ⟨rfl,rfl,rfl,_,rfl,rfl⟩ (fun hg=>zAD ⟨(zBO hg),trivial⟩) (fun hg=>zAg rfl)
  ·exact zAr ⟨rfl,rfl,rfl,_,rfl,rfl⟩ (fun hg=>zAD ⟨(zBO hg),trivial⟩) (fun hg=>zAc (faX 36 2 rfl) rfl rfl)
  ·exact zAr ⟨rfl,rfl,rfl,_,rfl,rfl⟩ (fun hg=>zAD ⟨hg,(zBO hg),trivial⟩) (fun hg=>zAU (tsX 3 rfl) rfl rfl rfl)
  ·exact zAr ⟨rfl,rfl,rfl,_,rfl,rfl⟩ (fun hg=>zAD ⟨hg,hg,(zBO hg),trivial⟩) (fun hg=>av_callBP (as':=[.ptr 0 0,.i p3.2.2.1]) (zDa (zAz h7 hg)).x ent51 rfl ⟨cv0,cv0,trivial⟩)
  ·exact zAr ⟨rfl,rfl,rfl,_,rfl,rfl⟩ (fun hg=>zAD ⟨hg,(zBO hg),trivial⟩) (fun hg=>zDW (t:=.unit) (undX 108 rfl) rfl rfl)
  ·exact zBC (b:=true) (p:=p3.2.2.2) (q:=(Option.isNone (Option.map (fun _=>()) ((g51 p0_0 p3.2.2.1).getD default)))) ⟨rfl,rfl,rfl,_,rfl,rfl⟩ rfl rfl (fun hg=>zAD ⟨hg,rfl,trivial⟩) rfl rfl rfl rfl rfl
  ·exact zBr
  refine zAZ ?_
  refine zAO (b:=(Option.isNone (Option.map (fun _=>()) x5))||(p3.2.2.2&&(Option.isNone (Option.map (fun _=>()) ((g51 p0_0 p3.2.2.1).getD default))))) rfl (fun hc8=>?_) (fun hc8=>?_)
  ·have hr:=zD1 hc8 hr
   refine zDO ?_
   refine zDK ?_
   refine zAG (zAA (st':=⟨[(0,.ptr 0 0),(1,.i p1),(2,.sl Y1 p2),(4,.bool p4),(8,.ptr 1 0),(10,.ptr 2 0),(11,.i 0)],[(0,.var 70 [.osl 3,.i p0_0.2]),(1,.var 36 [.str p3.1.1,.str p3.1.2,.str p3.2.1,.i p3.2.2.1,.bool p3.2.2.2]),(2,.var 38 [.i 0,.i 0]),(3,.sl 67 Y4 p0_0.1)],4⟩) hX [0,1,2,3] 4 rfl rfl ⟨⟨_,rfl,cv0⟩,⟨_,rfl,cv0⟩,⟨_,rfl,cv0⟩,⟨_,rfl,cv0⟩,⟨_,rfl,cv0⟩,⟨_,rfl,cv0⟩,⟨_,rfl,cv0⟩,trivial⟩ ⟨zAL,zAL,zAL,zAL,trivial⟩) ?_
   refine zDY (zAs (qs:=[]) (cs:=[.i 0,.i 0]) bt38 rfl rfl rfl) ?_
   refine zAK (zDI (szX 38 rfl) rfl rfl rfl rfl rfl rfl rfl ?_)
   refine zDY (zDJ rfl) ?_
   obtain rfl:=Option.some.inj hr
   exact zAJ (zAZ (zAw (zAC (zAe (l':=[(10,.rp [.i 0,.i 0]),(11,.i 7)]) (Hs:=[(0,.tr E70 (some p0_0))]) (n:=1) (Wk.trans (pk (i:=0) (e:=F70) (js:=[3]) p0_0) (zAA hX [0] 4 rfl rfl ⟨⟨_,rfl,cv0⟩,⟨_,rfl,cv0⟩,trivial⟩ ⟨zAL,trivial⟩)) rfl rfl rfl ⟨(.inr ⟨_,2,rfl,(tsX 38 rfl),rfl,rfl⟩),rfl,trivial⟩))))
  ·have hr:=zD2 hc8 hr
   refine zAv (zAZ (zDO ?_))
   refine zDK ?_
   refine zDY (zAg rfl) ?_
   refine zDY (zAg rfl) ?_
   refine zDY (zAg rfl) ?_
   refine zAG (pk (i:=0) (e:=F70) (js:=[3]) p0_0) ?_
   obtain ⟨o9,e10,hr⟩:=zA hr
   rcases o9 with x11 | x12
   ·refine zAK (zAP (σ:=[0]) (as':=[.ptr 0 0,.i p1,.sl Y1 p2]) (zDp e10).x ent61 rfl ⟨cv0,cv0,cv0,trivial⟩ rfl rfl rfl ?_)
    refine zAG (zAA (st':=⟨[(0,.ptr 0 0),(1,.i p1),(2,.sl Y1 p2),(4,.bool p4),(8,.ptr 1 0),(10,.ptr 2 0),(11,.i 0),(49,.ptr 0 0),(50,.i p1),(51,.sl Y1 p2),(52,.tup [.nilp,.agg [.i x11.1.1,.i x11.1.2],.i x11.2])],[(0,.tr E70 (some p0_0)),(1,.var 36 [.str p3.1.1,.str p3.1.2,.str p3.2.1,.i p3.2.2.1,.bool p3.2.2.2]),(2,.var 38 [.i 0,.i 0]),(3,.dead)],4⟩) hX [0,1,2,3] 4 rfl rfl ⟨⟨_,rfl,cv0⟩,⟨_,rfl,cv0⟩,⟨_,rfl,cv0⟩,⟨_,rfl,cv0⟩,⟨_,rfl,cv0⟩,⟨_,rfl,cv0⟩,⟨_,rfl,cv0⟩,⟨_,rfl,cv0⟩,⟨_,rfl,cv0⟩,⟨_,rfl,cv0⟩,⟨_,rfl,cv0⟩,trivial⟩ ⟨zAL,zAL,zAL,zAL,trivial⟩) ?_
    refine zDY (zAg rfl) ?_
    refine zDY (zDA rfl rfl) ?_
    refine zDY (zDA rfl rfl) ?_
    refine zDY (zDA rfl rfl) ?_
    refine zAK (zD (zDB 38 rfl) rfl ?_)
    refine zDY (zDJ rfl) ?_
    refine zAK (zDI (szX 38 rfl) rfl rfl rfl rfl rfl rfl rfl ?_)
    refine zDY (zDJ rfl) ?_
    refine zAJ (zAZ (zDO (zDO ?_)))
    refine zDK ?_
    refine zDY (zAg rfl) ?_
    refine zDY (zD0 rfl rfl) ?_
    refine zAJ (zAZ ?_)
    refine zAO (b:=!decide (x11.2=0)) rfl (fun hc13=>?_) (fun hc13=>?_)
    ·have hr:=zD1 hc13 hr
     refine zDO ?_
     refine zDK ?_
     refine zDY (zDG (tsX 38 rfl) rfl rfl rfl rfl) ?_
     refine zDY (zAg rfl) ?_
     refine zAK (zDI (szX 38 rfl) rfl rfl rfl rfl rfl rfl rfl ?_)
     refine zDY (zDJ rfl) ?_
     obtain rfl:=Option.some.inj hr
     exact zAJ (zAZ (zAw (zAC (zAe (l':=[(10,.rp [.i x11.1.1,.i x11.1.2]),(11,.i x11.2)]) (Hs:=[(0,.tr E70 (some p0_0))]) (n:=1) (zAA hX [0] 4 rfl rfl ⟨⟨_,rfl,cv0⟩,⟨_,rfl,cv0⟩,trivial⟩ ⟨zAL,trivial⟩) rfl rfl rfl ⟨(.inr ⟨_,2,rfl,(tsX 38 rfl),rfl,rfl⟩),rfl,trivial⟩))))
    ·have hr:=zD2 hc13 hr
     refine zAv (zAZ (zDO ?_))
     refine zDK ?_
     refine zDY (zAg rfl) ?_
     refine zDY (zAg rfl) ?_
     refine zDY (zA0 (t:=Y1) rfl rfl (undX 23 rfl) rfl) ?_
     refine zDY (zDz rfl rfl) ?_
     obtain ⟨x14,e15,hr⟩:=zA hr
     refine zDY (zAQ (t:=Y1) (e:=x14) (undX 23 rfl) (szX 34 rfl) rfl rfl e15) ?_
     refine zDY (zDw (tsX 34 rfl) rfl rfl rfl) ?_
     refine zDY (zAc (faX 36 0 rfl) rfl rfl) ?_
     refine zAK (zDI (szX 34 rfl) rfl rfl rfl rfl rfl rfl rfl ?_)
     refine zAJ (zAZ (zDO ?_))
     refine zDK ?_
     refine zDY (zAg rfl) ?_
     refine zDY (zAc (faX 36 0 rfl) rfl rfl) ?_
     refine zDY (zDG (tsX 34 rfl) rfl rfl rfl rfl) ?_
     obtain ⟨x16,e17,hr⟩:=zA hr
     refine zDY (av_callN (as':=[.nilp,.agg [.str x14.1,.str x14.2]]) (g62_runs e17).x ent62 rfl ⟨cv4,cv0,trivial⟩ rfl) ?_
     refine zDY (zAg rfl) ?_
     refine zDY (zDA rfl rfl) ?_
     refine zDY (zDA rfl rfl) ?_
     refine zDY (zDJ rfl) ?_
     refine zDY (zDJ rfl) ?_
     refine zAJ (zAZ (zDO (zDv (zDO ?_))))
     refine zAa [0,2,4,8,10,11,12,15,16] [(true,.bool x16.2),(true,.bool x16.2),(x16.2,.bool p4),(x16.2,.bool (!p4)),(true,.bool (x16.2&&(!p4))),(true,.bool (x16.2&&(!p4)))] [[],[0],[1],[2,1],[3,1],[4]] [5] rfl rfl rfl rfl rfl ⟨?_,?_,?_,?_,?_,?_,trivial⟩ (zAD ⟨rfl,trivial⟩) ?_
     ·exact zAr rfl (fun hg=>zAD trivial) (fun hg=>zAg rfl)
     ·exact zAr rfl (fun hg=>zAD ⟨rfl,trivial⟩) (fun hg=>zAg rfl)
     ·exact zAr ⟨rfl,rfl,rfl,_,rfl,rfl⟩ (fun hg=>zAD ⟨rfl,trivial⟩) (fun hg=>zAg rfl)
     ·exact zAr ⟨rfl,rfl,rfl,_,rfl,rfl⟩ (fun hg=>zAD ⟨hg,rfl,trivial⟩) (fun hg=>zDx rfl)
     ·exact zBe
     ·exact zAr rfl (fun hg=>zAD ⟨rfl,trivial⟩) (fun hg=>zDJ rfl)
     refine zAZ ?_
     refine zAO (b:=x16.2&&(!p4)) rfl (fun hc18=>?_) (fun hc18=>?_)
     ·have hr:=zD1 hc18 hr
      refine zDO ?_
      refine zDK ?_
      refine zDY (zAs (qs:=[]) (cs:=[.i 0,.i 0]) bt38 rfl rfl rfl) ?_
      refine zAK (zDI (szX 38 rfl) rfl rfl rfl rfl rfl rfl rfl ?_)
      refine zDY (zDJ rfl) ?_
      obtain rfl:=Option.some.inj hr
      exact zAJ (zAZ (zAw (zAE (zAC (zAe (l':=[(10,.rp [.i 0,.i 0]),(11,.i 6)]) (Hs:=[(0,.tr E70 (some p0_0))]) (n:=1) (zAA hX [0] 4 rfl rfl ⟨⟨_,rfl,cv0⟩,⟨_,rfl,cv0⟩,trivial⟩ ⟨zAL,trivial⟩) rfl rfl rfl ⟨(.inr ⟨_,2,rfl,(tsX 38 rfl),rfl,rfl⟩),rfl,trivial⟩)))))
     ·have hr:=zD2 hc18 hr
      exact absurd hr (by simp)
   ·refine zAK (zAP (σ:=[0]) (as':=[.ptr 0 0,.i p1,.sl Y1 p2]) (zDp e10).x ent61 rfl ⟨cv0,cv0,cv0,trivial⟩ rfl rfl rfl ?_)
    refine zAG (zAA (st':=⟨[(0,.ptr 0 0),(1,.i p1),(2,.sl Y1 p2),(4,.bool p4),(8,.ptr 1 0),(10,.ptr 2 0),(11,.i 0),(49,.ptr 0 0),(50,.i p1),(51,.sl Y1 p2),(52,.tup [.ep 4 2 x12 0,.agg [.i 0,.i 0],.i 0])],[(0,.var 70 [.osl 4,.i p0_0.2]),(1,.var 36 [.str p3.1.1,.str p3.1.2,.str p3.2.1,.i p3.2.2.1,.bool p3.2.2.2]),(2,.var 38 [.i 0,.i 0]),(3,.dead),(4,.sl 67 Y4 p0_0.1)],5⟩) hX [0,1,2,3,4] 4 rfl rfl ⟨⟨_,rfl,cv0⟩,⟨_,rfl,cv0⟩,⟨_,rfl,cv0⟩,⟨_,rfl,cv0⟩,⟨_,rfl,cv0⟩,⟨_,rfl,cv0⟩,⟨_,rfl,cv0⟩,⟨_,rfl,cv0⟩,⟨_,rfl,cv0⟩,⟨_,rfl,cv0⟩,⟨_,rfl,cv0⟩,trivial⟩ ⟨zAL,zAL,zAL,zAL,zAL,trivial⟩) ?_
    refine zDY (zAg rfl) ?_
    refine zDY (zDA rfl rfl) ?_
    refine zDY (zDA rfl rfl) ?_
    refine zDY (zDA rfl rfl) ?_
    refine zAK (zD (zDB 38 rfl) rfl ?_)
    refine zDY (zDJ rfl) ?_
    refine zAK (zDI (szX 38 rfl) rfl rfl rfl rfl rfl rfl rfl ?_)
    refine zDY (zDJ rfl) ?_
    refine zAJ (zAZ (zDO (zDO ?_)))
    refine zDK ?_
    refine zDY (zAg rfl) ?_
    refine zDY (zD0 rfl rfl) ?_
    refine zAJ (zAZ (zA3 rfl (zAv (zAZ (zDO ?_)))))
    refine zDK ?_
    refine zDY (zAg rfl) ?_
    refine zDY (zAg rfl) ?_
    refine zDY (zA0 (t:=Y1) rfl rfl (undX 23 rfl) rfl) ?_
    refine zDY (zDz rfl rfl) ?_
    obtain ⟨x19,e20,hr⟩:=zA hr
    refine zDY (zAQ (t:=Y1) (e:=x19) (undX 23 rfl) (szX 34 rfl) rfl rfl e20) ?_
    refine zDY (zDw (tsX 34 rfl) rfl rfl rfl) ?_
    refine zDY (zAc (faX 36 0 rfl) rfl rfl) ?_
    refine zAK (zDI (szX 34 rfl) rfl rfl rfl rfl rfl rfl rfl ?_)
    refine zAJ (zAZ (zDO ?_))
    refine zDK ?_
    refine zDY (zAg rfl) ?_
    refine zDY (zAc (faX 36 0 rfl) rfl rfl) ?_
    refine zDY (zDG (tsX 34 rfl) rfl rfl rfl rfl) ?_
    obtain ⟨x21,e22,hr⟩:=zA hr
    refine zAK (zAP (σ:=[4]) (as':=[.ep 4 2 x12 0,.agg [.str x19.1,.str x19.2]]) (g62o_runs e22).x ent62 rfl ⟨cv0,cv0,trivial⟩ rfl rfl rfl ?_)
    refine zDY (zAg rfl) ?_
    refine zDY (zDA rfl rfl) ?_
    refine zDY (zDA rfl rfl) ?_
    refine zDY (zDJ rfl) ?_
    refine zDY (zDJ rfl) ?_
    refine zAJ (zAZ (zDO (zDv (zDO ?_))))
    refine zAa [0,2,4,8,10,11,12,15,16] [(true,.bool x21.2),(true,.bool x21.2),(x21.2,.bool p4),(x21.2,.bool (!p4)),(true,.bool (x21.2&&(!p4))),(true,.bool (x21.2&&(!p4)))] [[],[0],[1],[2,1],[3,1],[4]] [5] rfl rfl rfl rfl rfl ⟨?_,?_,?_,?_,?_,?_,trivial⟩ (zAD ⟨rfl,trivial⟩) ?_
    ·exact zAr rfl (fun hg=>zAD trivial) (fun hg=>zAg rfl)
    ·exact zAr rfl (fun hg=>zAD ⟨rfl,trivial⟩) (fun hg=>zAg rfl)
    ·exact zAr ⟨rfl,rfl,rfl,_,rfl,rfl⟩ (fun hg=>zAD ⟨rfl,trivial⟩) (fun hg=>zAg rfl)
    ·exact zAr ⟨rfl,rfl,rfl,_,rfl,rfl⟩ (fun hg=>zAD ⟨hg,rfl,trivial⟩) (fun hg=>zDx rfl)
    ·exact zBe
    ·exact zAr rfl (fun hg=>zAD ⟨rfl,trivial⟩) (fun hg=>zDJ rfl)
    refine zAZ ?_
    refine zAO (b:=x21.2&&(!p4)) rfl (fun hc23=>?_) (fun hc23=>?_)
    ·have hr:=zD1 hc23 hr
     refine zDO ?_
     refine zDK ?_
     refine zDY (zAs (qs:=[]) (cs:=[.i 0,.i 0]) bt38 rfl rfl rfl) ?_
     refine zAK (zDI (szX 38 rfl) rfl rfl rfl rfl rfl rfl rfl ?_)
     refine zDY (zDJ rfl) ?_
     obtain rfl:=Option.some.inj hr
     exact zAJ (zAZ (zAw (zAE (zAC (zAe (l':=[(10,.rp [.i 0,.i 0]),(11,.i 6)]) (Hs:=[(0,.tr E70 (some p0_0))]) (n:=1) (Wk.trans (pk (i:=0) (e:=F70) (js:=[4]) p0_0) (zAA hX [0] 4 rfl rfl ⟨⟨_,rfl,cv0⟩,⟨_,rfl,cv0⟩,trivial⟩ ⟨zAL,trivial⟩)) rfl rfl rfl ⟨(.inr ⟨_,2,rfl,(tsX 38 rfl),rfl,rfl⟩),rfl,trivial⟩)))))
    ·have hr:=zD2 hc23 hr
     refine zDO ?_
     obtain ⟨h24,hr⟩:=zAN hr
     obtain ⟨h25,hr⟩:=zAN hr
     refine zAa [0,2,8,10,11,12,15,16] [(true,.bool x21.2),(true,.bool x21.2),(x21.2,.ep 4 2 x12 0),(x21.2,.ep 4 2 x12 0),(x21.2,.ep 4 2 x12 1),(x21.2,.sl Y3 ((((ix p0_0.1 (x12:Int)).getD default)).2)),(x21.2,.i x21.1),(x21.2,.rp [.str (((((ix ((((ix p0_0.1 (x12:Int)).getD default)).2) x21.1).getD default)).1).1),.str (((((ix ((((ix p0_0.1 (x12:Int)).getD default)).2) x21.1).getD default)).1).2),.str (((((ix ((((ix p0_0.1 (x12:Int)).getD default)).2) x21.1).getD default)).2).1),.i ((((((ix ((((ix p0_0.1 (x12:Int)).getD default)).2) x21.1).getD default)).2).2).1),.bool ((((((ix ((((ix p0_0.1 (x12:Int)).getD default)).2) x21.1).getD default)).2).2).2)]),(x21.2,.rp [.bool ((((((ix ((((ix p0_0.1 (x12:Int)).getD default)).2) x21.1).getD default)).2).2).2)]),(x21.2,.bool ((((((ix ((((ix p0_0.1 (x12:Int)).getD default)).2) x21.1).getD default)).2).2).2)),(true,.bool (x21.2&&((((((ix ((((ix p0_0.1 (x12:Int)).getD default)).2) x21.1).getD default)).2).2).2))),(true,.bool (x21.2&&((((((ix ((((ix p0_0.1 (x12:Int)).getD default)).2) x21.1).getD default)).2).2).2))),(x21.2&&((((((ix ((((ix p0_0.1 (x12:Int)).getD default)).2) x21.1).getD default)).2).2).2),.ptr 1 4),(x21.2&&((((((ix ((((ix p0_0.1 (x12:Int)).getD default)).2) x21.1).getD default)).2).2).2),.bool p3.2.2.2),(x21.2&&((((((ix ((((ix p0_0.1 (x12:Int)).getD default)).2) x21.1).getD default)).2).2).2),.bool (!p3.2.2.2)),(true,.bool ((x21.2&&((((((ix ((((ix p0_0.1 (x12:Int)).getD default)).2) x21.1).getD default)).2).2).2))&&(!p3.2.2.2))),(true,.bool ((x21.2&&((((((ix ((((ix p0_0.1 (x12:Int)).getD default)).2) x21.1).getD default)).2).2).2))&&(!p3.2.2.2)))] [[],[0],[1],[2,1],[3,1],[4,1],[1],[5,6,1],[7,1],[8,1],[9,1],[10],[11],[12,11],[13,11],[14,11],[15]] [16] rfl rfl rfl rfl rfl ⟨?_,?_,?_,?_,?_,?_,?_,?_,?_,?_,?_,?_,?_,?_,?_,?_,?_,trivial⟩ (zAD ⟨rfl,trivial⟩) ?_
     ·exact zAr rfl (fun hg=>zAD trivial) (fun hg=>zAg rfl)
     ·exact zAr rfl (fun hg=>zAD ⟨rfl,trivial⟩) (fun hg=>zAg rfl)
     ·exact zAr ⟨rfl,rfl,rfl,_,rfl,rfl⟩ (fun hg=>zAD ⟨rfl,trivial⟩) (fun hg=>zAg rfl)
     ·exact zAr ⟨rfl,rfl,rfl,_,rfl,rfl⟩ (fun hg=>zAD ⟨hg,rfl,trivial⟩) (fun hg=>zDF rfl)
     ·exact zAr ⟨rfl,rfl,rfl,_,rfl,rfl⟩ (fun hg=>zAD ⟨hg,rfl,trivial⟩) (fun hg=>zDN (faX 67 1 rfl) rfl rfl)
     ·exact zAr ⟨rfl,rfl,rfl,_,rfl,rfl⟩ (fun hg=>zAD ⟨hg,rfl,trivial⟩) (fun hg=>zAu (tsX 65 rfl) rfl rfl rfl (zCM (zAz h24 hg)) rfl)
     ·exact zAr ⟨rfl,rfl,rfl,_,rfl,rfl⟩ (fun hg=>zAD ⟨rfl,trivial⟩) (fun hg=>zAg rfl)
     ·exact zAr ⟨rfl,rfl,rfl,_,rfl,rfl⟩ (fun hg=>zAD ⟨hg,hg,rfl,trivial⟩) (fun hg=>zAQ (t:=Y3) (e:=((ix ((((ix p0_0.1 (x12:Int)).getD default)).2) x21.1).getD default)) (undX 65 rfl) (szX 36 rfl) rfl rfl (zAz h25 hg))
     ·exact zAr ⟨rfl,rfl,rfl,_,rfl,rfl⟩ (fun hg=>zAD ⟨hg,rfl,trivial⟩) (fun hg=>zDE (faX 36 3 rfl) rfl rfl)
     ·exact zAr ⟨rfl,rfl,rfl,_,rfl,rfl⟩ (fun hg=>zAD ⟨hg,rfl,trivial⟩) (fun hg=>zDC (tsX 4 rfl) rfl)
     ·exact zBe
     ·exact zAr rfl (fun hg=>zAD ⟨rfl,trivial⟩) (fun hg=>zAg rfl)
     ·exact zAr ⟨rfl,rfl,rfl,_,rfl,rfl⟩ (fun hg=>zAD ⟨rfl,trivial⟩) (fun hg=>zAc (faX 36 3 rfl) rfl rfl)
     ·exact zAr ⟨rfl,rfl,rfl,_,rfl,rfl⟩ (fun hg=>zAD ⟨hg,rfl,trivial⟩) (fun hg=>zAU (tsX 4 rfl) rfl rfl rfl)
     ·exact zAr ⟨rfl,rfl,rfl,_,rfl,rfl⟩ (fun hg=>zAD ⟨hg,rfl,trivial⟩) (fun hg=>zDx rfl)
     ·exact zBe
     ·exact zAr rfl (fun hg=>zAD ⟨rfl,trivial⟩) (fun hg=>zDJ rfl)
     refine zAZ ?_
     refine zAO (b:=(x21.2&&((((((ix ((((ix p0_0.1 (x12:Int)).getD default)).2) x21.1).getD default)).2).2).2))&&(!p3.2.2.2)) rfl (fun hc26=>?_) (fun hc26=>?_)
     ·have hr:=zD1 hc26 hr
      refine zDO ?_
      refine zDK ?_
      refine zAG (zAA (st':=⟨[(2,.sl Y1 p2),(8,.ptr 1 0),(10,.ptr 2 0),(11,.i 0),(12,.ep 4 2 x12 0)],[(0,.var 70 [.osl 4,.i p0_0.2]),(1,.var 36 [.str x19.1,.str x19.2,.str p3.2.1,.i p3.2.2.1,.bool p3.2.2.2]),(2,.var 38 [.i 0,.i 0]),(3,.dead),(4,.sl 67 Y4 p0_0.1),(5,.var 38 [.i 0,.i 0])],6⟩) hX [0,1,2,3,4,5] 4 rfl rfl ⟨⟨_,rfl,cv0⟩,⟨_,rfl,cv0⟩,⟨_,rfl,cv0⟩,⟨_,rfl,cv0⟩,⟨_,rfl,cv0⟩,trivial⟩ ⟨zAL,zAL,zAL,zAL,zAL,zAL,trivial⟩) ?_
      refine zDY (zAg rfl) ?_
      refine zDY (zA0 (t:=Y1) rfl rfl (undX 23 rfl) rfl) ?_
      refine zDY (zDz rfl rfl) ?_
      refine zDY (zAs (qs:=[(0,[.i (w64 ((List.length p2 : Int) - 1))]),(1,[.i 3])]) (cs:=[.i (w64 ((List.length p2 : Int) - 1)),.i 3]) bt38 rfl rfl rfl) ?_
      refine zAK (zDI (szX 38 rfl) rfl rfl rfl rfl rfl rfl rfl ?_)
      refine zDY (zDJ rfl) ?_
      obtain rfl:=Option.some.inj hr
      exact zAJ (zAZ (zAw (zAE (zAC (zAe (l':=[(10,.rp [.i (w64 ((List.length p2 : Int) - 1)),.i 3]),(11,.i 10)]) (Hs:=[(0,.tr E70 (some p0_0))]) (n:=1) (Wk.trans (pk (i:=0) (e:=F70) (js:=[4]) p0_0) (zAA hX [0] 4 rfl rfl ⟨⟨_,rfl,cv0⟩,⟨_,rfl,cv0⟩,trivial⟩ ⟨zAL,trivial⟩)) rfl rfl rfl ⟨(.inr ⟨_,2,rfl,(tsX 38 rfl),rfl,rfl⟩),rfl,trivial⟩)))))
     ·have hr:=zD2 hc26 hr
      refine zDO ?_
      obtain ⟨h27,hr⟩:=zAN hr
      obtain ⟨h28,hr⟩:=zAN hr
      refine zAa [0,2,8,10,11,12,15,16] [(true,.bool x21.2),(true,.bool x21.2),(x21.2,.ep 4 2 x12 0),(x21.2,.ep 4 2 x12 0),(x21.2,.ep 4 2 x12 1),(x21.2,.sl Y3 ((((ix p0_0.1 (x12:Int)).getD default)).2)),(x21.2,.i x21.1),(x21.2,.rp [.str (((((ix ((((ix p0_0.1 (x12:Int)).getD default)).2) x21.1).getD default)).1).1),.str (((((ix ((((ix p0_0.1 (x12:Int)).getD default)).2) x21.1).getD default)).1).2),.str (((((ix ((((ix p0_0.1 (x12:Int)).getD default)).2) x21.1).getD default)).2).1),.i ((((((ix ((((ix p0_0.1 (x12:Int)).getD default)).2) x21.1).getD default)).2).2).1),.bool ((((((ix ((((ix p0_0.1 (x12:Int)).getD default)).2) x21.1).getD default)).2).2).2)]),(x21.2,.rp [.bool ((((((ix ((((ix p0_0.1 (x12:Int)).getD default)).2) x21.1).getD default)).2).2).2)]),(x21.2,.bool ((((((ix ((((ix p0_0.1 (x12:Int)).getD default)).2) x21.1).getD default)).2).2).2)),(x21.2,.bool (!((((((ix ((((ix p0_0.1 (x12:Int)).getD default)).2) x21.1).getD default)).2).2).2))),(true,.bool (x21.2&&(!((((((ix ((((ix p0_0.1 (x12:Int)).getD default)).2) x21.1).getD default)).2).2).2)))),(true,.bool (x21.2&&(!((((((ix ((((ix p0_0.1 (x12:Int)).getD default)).2) x21.1).getD default)).2).2).2)))),(x21.2&&(!((((((ix ((((ix p0_0.1 (x12:Int)).getD default)).2) x21.1).getD default)).2).2).2)),.ptr 1 4),(x21.2&&(!((((((ix ((((ix p0_0.1 (x12:Int)).getD default)).2) x21.1).getD default)).2).2).2)),.bool p3.2.2.2),(true,.bool ((x21.2&&(!((((((ix ((((ix p0_0.1 (x12:Int)).getD default)).2) x21.1).getD default)).2).2).2)))&&p3.2.2.2)),(true,.bool ((x21.2&&(!((((((ix ((((ix p0_0.1 (x12:Int)).getD default)).2) x21.1).getD default)).2).2).2)))&&p3.2.2.2))] [[],[0],[1],[2,1],[3,1],[4,1],[1],[5,6,1],[7,1],[8,1],[9,1],[10,1],[11],[12],[13,12],[14,12],[15]] [16] rfl rfl rfl rfl rfl ⟨?_,?_,?_,?_,?_,?_,?_,?_,?_,?_,?_,?_,?_,?_,?_,?_,?_,trivial⟩ (zAD ⟨rfl,trivial⟩) ?_
      ·exact zAr rfl (fun hg=>zAD trivial) (fun hg=>zAg rfl)
      ·exact zAr rfl (fun hg=>zAD ⟨rfl,trivial⟩) (fun hg=>zAg rfl)
      ·exact zAr ⟨rfl,rfl,rfl,_,rfl,rfl⟩ (fun hg=>zAD ⟨rfl,trivial⟩) (fun hg=>zAg rfl)
      ·exact zAr ⟨rfl,rfl,rfl,_,rfl,rfl⟩ (fun hg=>zAD ⟨hg,rfl,trivial⟩) (fun hg=>zDF rfl)
      ·exact zAr ⟨rfl,rfl,rfl,_,rfl,rfl⟩ (fun hg=>zAD ⟨hg,rfl,trivial⟩) (fun hg=>zDN (faX 67 1 rfl) rfl rfl)
      ·exact zAr ⟨rfl,rfl,rfl,_,rfl,rfl⟩ (fun hg=>zAD ⟨hg,rfl,trivial⟩) (fun hg=>zAu (tsX 65 rfl) rfl rfl rfl (zCM (zAz h27 hg)) rfl)
      ·exact zAr ⟨rfl,rfl,rfl,_,rfl,rfl⟩ (fun hg=>zAD ⟨rfl,trivial⟩) (fun hg=>zAg rfl)
      ·exact zAr ⟨rfl,rfl,rfl,_,rfl,rfl⟩ (fun hg=>zAD ⟨hg,hg,rfl,trivial⟩) (fun hg=>zAQ (t:=Y3) (e:=((ix ((((ix p0_0.1 (x12:Int)).getD default)).2) x21.1).getD default)) (undX 65 rfl) (szX 36 rfl) rfl rfl (zAz h28 hg))
      ·exact zAr ⟨rfl,rfl,rfl,_,rfl,rfl⟩ (fun hg=>zAD ⟨hg,rfl,trivial⟩) (fun hg=>zDE (faX 36 3 rfl) rfl rfl)
      ·exact zAr ⟨rfl,rfl,rfl,_,rfl,rfl⟩ (fun hg=>zAD ⟨hg,rfl,trivial⟩) (fun hg=>zDC (tsX 4 rfl) rfl)
      ·exact zAr ⟨rfl,rfl,rfl,_,rfl,rfl⟩ (fun hg=>zAD ⟨hg,rfl,trivial⟩) (fun hg=>zDx rfl)
      ·exact zBe
      ·exact zAr rfl (fun hg=>zAD ⟨rfl,trivial⟩) (fun hg=>zAg rfl)
      ·exact zAr ⟨rfl,rfl,rfl,_,rfl,rfl⟩ (fun hg=>zAD ⟨rfl,trivial⟩) (fun hg=>zAc (faX 36 3 rfl) rfl rfl)
      ·exact zAr ⟨rfl,rfl,rfl,_,rfl,rfl⟩ (fun hg=>zAD ⟨hg,rfl,trivial⟩) (fun hg=>zAU (tsX 4 rfl) rfl rfl rfl)
      ·exact zBe
      ·exact zAr rfl (fun hg=>zAD ⟨rfl,trivial⟩) (fun hg=>zDJ rfl)
      refine zAZ ?_
      refine zAO (b:=(x21.2&&(!((((((ix ((((ix p0_0.1 (x12:Int)).getD default)).2) x21.1).getD default)).2).2).2)))&&p3.2.2.2) rfl (fun hc29=>?_) (fun hc29=>?_)
      ·have hr:=zD1 hc29 hr
       refine zDO ?_
       refine zDK ?_
       refine zDY (zAg rfl) ?_
       refine zDY (zA0 (t:=Y1) rfl rfl (undX 23 rfl) rfl) ?_
       refine zDY (zDz rfl rfl) ?_
       refine zDY (zAs (qs:=[(0,[.i (w64 ((List.length p2 : Int) - 1))]),(1,[.i 2])]) (cs:=[.i (w64 ((List.length p2 : Int) - 1)),.i 2]) bt38 rfl rfl rfl) ?_
       refine zAK (zDI (szX 38 rfl) rfl rfl rfl rfl rfl rfl rfl ?_)
       refine zDY (zDJ rfl) ?_
       obtain rfl:=Option.some.inj hr
       exact zAJ (zAZ (zAw (zAE (zAC (zAe (l':=[(10,.rp [.i (w64 ((List.length p2 : Int) - 1)),.i 2]),(11,.i 10)]) (Hs:=[(0,.tr E70 (some p0_0))]) (n:=1) (Wk.trans (pk (i:=0) (e:=F70) (js:=[4]) p0_0) (zAA hX [0] 4 rfl rfl ⟨⟨_,rfl,cv0⟩,⟨_,rfl,cv0⟩,trivial⟩ ⟨zAL,trivial⟩)) rfl rfl rfl ⟨(.inr ⟨_,2,rfl,(tsX 38 rfl),rfl,rfl⟩),rfl,trivial⟩)))))
      ·have hr:=zD2 hc29 hr
       refine zDO ?_
       obtain ⟨h30,hr⟩:=zAN hr
       refine zAa [0,8,10,11,12,16] [(true,.bool x21.2),(true,.bool (!x21.2)),(true,.bool (!x21.2)),(!x21.2,.ptr 0 0),(!x21.2,.i ((g63 p0_0).getD default)),(!x21.2,.bool (decide (2000≤((g63 p0_0).getD default)))),(true,.bool ((!x21.2)&&(decide (2000≤((g63 p0_0).getD default))))),(true,.bool ((!x21.2)&&(decide (2000≤((g63 p0_0).getD default)))))] [[],[0],[1],[2],[3,2],[4,2],[5,2],[6]] [7] rfl rfl rfl rfl rfl ⟨?_,?_,?_,?_,?_,?_,?_,?_,trivial⟩ (zAD ⟨rfl,trivial⟩) ?_
       ·exact zAr rfl (fun hg=>zAD trivial) (fun hg=>zAg rfl)
       ·exact zAr rfl (fun hg=>zAD ⟨rfl,trivial⟩) (fun hg=>zDx rfl)
       ·exact zAr rfl (fun hg=>zAD ⟨rfl,trivial⟩) (fun hg=>zAg rfl)
       ·exact zAr ⟨rfl,rfl,rfl,_,rfl,rfl⟩ (fun hg=>zAD ⟨rfl,trivial⟩) (fun hg=>zAg rfl)
       ·exact zAr ⟨rfl,rfl,rfl,_,rfl,rfl⟩ (fun hg=>zAD ⟨hg,rfl,trivial⟩) (fun hg=>zAj (as':=[.ptr 0 0]) (g63_runs (zAz h30 hg)).x ent63 rfl ⟨cv0,trivial⟩ rfl rfl)
       ·exact zAr ⟨rfl,rfl,rfl,_,rfl,rfl⟩ (fun hg=>zAD ⟨hg,rfl,trivial⟩) (fun hg=>av_geq rfl rfl)
       ·exact zBe
       ·exact zAr rfl (fun hg=>zAD ⟨rfl,trivial⟩) (fun hg=>zDJ rfl)
       refine zAZ ?_
       refine zAO (b:=(!x21.2)&&(decide (2000≤((g63 p0_0).getD default)))) rfl (fun hc31=>?_) (fun hc31=>?_)
       ·have hr:=zD1 hc31 hr
        refine zDO ?_
        refine zDK ?_
        refine zAG (zAA (st':=⟨[(8,.ptr 1 0),(10,.ptr 2 0),(11,.i 0),(12,.ep 4 2 x12 0)],[(0,.var 70 [.osl 4,.i p0_0.2]),(1,.var 36 [.str x19.1,.str x19.2,.str p3.2.1,.i p3.2.2.1,.bool p3.2.2.2]),(2,.var 38 [.i 0,.i 0]),(3,.dead),(4,.sl 67 Y4 p0_0.1),(5,.var 38 [.i 0,.i 0])],6⟩) hX [0,1,2,3,4,5] 4 rfl rfl ⟨⟨_,rfl,cv0⟩,⟨_,rfl,cv0⟩,⟨_,rfl,cv0⟩,⟨_,rfl,cv0⟩,trivial⟩ ⟨zAL,zAL,zAL,zAL,zAL,zAL,trivial⟩) ?_
        refine zDY (zAs (qs:=[]) (cs:=[.i 0,.i 0]) bt38 rfl rfl rfl) ?_
        refine zAK (zDI (szX 38 rfl) rfl rfl rfl rfl rfl rfl rfl ?_)
        refine zDY (zDJ rfl) ?_
        obtain rfl:=Option.some.inj hr
        exact zAJ (zAZ (zAw (zAE (zAC (zAe (l':=[(10,.rp [.i 0,.i 0]),(11,.i 4)]) (Hs:=[(0,.tr E70 (some p0_0))]) (n:=1) (Wk.trans (pk (i:=0) (e:=F70) (js:=[4]) p0_0) (zAA hX [0] 4 rfl rfl ⟨⟨_,rfl,cv0⟩,⟨_,rfl,cv0⟩,trivial⟩ ⟨zAL,trivial⟩)) rfl rfl rfl ⟨(.inr ⟨_,2,rfl,(tsX 38 rfl),rfl,rfl⟩),rfl,trivial⟩)))))
       ·have hr:=zD2 hc31 hr
        refine zAv (zAS (zAZ (zDO ?_)))
        refine zDK ?_
        refine zDY (zAg rfl) ?_
        refine zDY (zDG (tsX 36 rfl) rfl rfl rfl rfl) ?_
        obtain ⟨x32,e33,hr⟩:=zA hr
        refine zAK (zAP (σ:=[4]) (as':=[.ep 4 2 x12 0,.agg [.str x19.1,.str x19.2,.str p3.2.1,.i p3.2.2.1,.bool p3.2.2.2]]) (g64_runs e33).x ent64 rfl ⟨cv0,cv0,trivial⟩ rfl rfl rfl ?_)
        refine zAJ (zAZ (zDO ?_))
        refine zDK ?_
        refine zAG (zAA (st':=⟨[(10,.ptr 2 0),(11,.i 0)],[(0,.var 70 [.osl 4,.i p0_0.2]),(1,.var 36 [.str x19.1,.str x19.2,.str p3.2.1,.i p3.2.2.1,.bool p3.2.2.2]),(2,.var 38 [.i 0,.i 0]),(3,.dead),(4,.sl 67 Y4 x32),(5,.var 38 [.i 0,.i 0])],6⟩) hX [0,1,2,3,4,5] 4 rfl rfl ⟨⟨_,rfl,cv0⟩,⟨_,rfl,cv0⟩,trivial⟩ ⟨zAL,zAL,zAL,zAL,zAL,zAL,trivial⟩) ?_
        refine zDY (zAs (qs:=[]) (cs:=[.i 0,.i 0]) bt38 rfl rfl rfl) ?_
        refine zAK (zDI (szX 38 rfl) rfl rfl rfl rfl rfl rfl rfl ?_)
        refine zDY (zDJ rfl) ?_
        obtain rfl:=Option.some.inj hr
        exact zAJ (zAZ (zAw (zAe (l':=[(10,.rp [.i 0,.i 0]),(11,.i 0)]) (Hs:=[(0,.tr E70 (some (x32,p0_0.2)))]) (n:=1) (Wk.trans (pk (i:=0) (e:=F70) (js:=[4]) (x32,p0_0.2)) (zAA hX [0] 4 rfl rfl ⟨⟨_,rfl,cv0⟩,⟨_,rfl,cv0⟩,trivial⟩ ⟨zAL,trivial⟩)) rfl rfl rfl ⟨(.inr ⟨_,2,rfl,(tsX 38 rfl),rfl,rfl⟩),rfl,trivial⟩)))
theorem g13_runs {p0_0:ZP}{p1:Int}{p2:ZN}{p3:Str}{r:(Int×Int)×Int×(ZP)}(hr:g13 p0_0 p1 p2 p3=some r) : Runs Tryz.prog 13 [.ptr 0 0,.i p1,.sl Y1 p2,.str p3] [.tr E64 (some p0_0)] (fun q Hq=>q=[.agg [.i r.1.1,.i r.1.2],.i r.2.1]∧Hq=[.tr E64 (some r.2.2)]):=by
 refine zAW Tryz.func13 Tryz.ntmps13 rfl (rs:=[.cell 8 38,.tmp 9]) rfl rfl fun w0 X hX=>?_
 refine zDO ?_
 refine zDK ?_
 refine zAK (zD (zDB 38 rfl) rfl ?_)
 refine zDY (zDJ rfl) ?_
 refine zAJ (zAZ (zDO ?_))
 refine zDK ?_
 refine zDY (zAg rfl) ?_
 refine zDY (zAg rfl) ?_
 refine zDY (zAg rfl) ?_
 refine zDY (zAg rfl) ?_
 refine zDY (av_mkS (undX 91 rfl) rfl) ?_
 obtain ⟨x2,e3,hr⟩:=zA hr
 refine zAK (zAP (σ:=[0]) (as':=[.ptr 0 0,.i p1,.sl Y1 p2,.val (ifS 91 p3).1,.bool true]) (g40_runs e3).x ent40 rfl ⟨cv0,cv0,cv0,cv0,cv0,trivial⟩ rfl rfl rfl ?_)
 refine zAG (zAA (st':=⟨[(0,.ptr 0 0),(1,.i p1),(2,.sl Y1 p2),(3,.str p3),(8,.ptr 1 0),(9,.i 0),(10,.ptr 0 0),(11,.i p1),(12,.sl Y1 p2),(13,.str p3),(14,.val (ifS 91 p3).1),(15,.tup [.agg [.i x2.1.1,.i x2.1.2],.i x2.2.1])],[(0,.tr E64 (some x2.2.2)),(1,.var 38 [.i 0,.i 0])],2⟩) hX [0,1] 4 rfl rfl ⟨⟨_,rfl,cv0⟩,⟨_,rfl,cv0⟩,⟨_,rfl,cv0⟩,⟨_,rfl,cv0⟩,⟨_,rfl,cv0⟩,⟨_,rfl,cv0⟩,⟨_,rfl,cv0⟩,⟨_,rfl,cv0⟩,⟨_,rfl,cv0⟩,⟨_,rfl,cv0⟩,⟨_,rfl,cv0⟩,⟨_,rfl,cv0⟩,trivial⟩ ⟨zAL,zAL,trivial⟩) ?_
 refine zDY (zDA rfl rfl) ?_
 refine zDY (zDA rfl rfl) ?_
 refine zAK (zDI (szX 38 rfl) rfl rfl rfl rfl rfl rfl rfl ?_)
 refine zDY (zDJ rfl) ?_
 obtain rfl:=Option.some.inj hr
 exact zAJ (zAZ (zAw (zAe (l':=[(8,.rp [.i x2.1.1,.i x2.1.2]),(9,.i x2.2.1)]) (Hs:=[(0,.tr E64 (some x2.2.2))]) (n:=1) (zAA hX [0] 4 rfl rfl ⟨⟨_,rfl,cv0⟩,⟨_,rfl,cv0⟩,trivial⟩ ⟨zAL,trivial⟩) rfl rfl rfl ⟨(.inr ⟨_,2,rfl,(tsX 38 rfl),rfl,rfl⟩),rfl,trivial⟩)))
theorem g27_runs {p0_0:ZP}{p1:Int}{p2:ZN}{p3:Int}{r:(Int×Int)×Int×(ZP)}(hr:g27 p0_0 p1 p2 p3=some r) : Runs Tryz.prog 27 [.ptr 0 0,.i p1,.sl Y1 p2,.i p3] [.tr E64 (some p0_0)] (fun q Hq=>q=[.agg [.i r.1.1,.i r.1.2],.i r.2.1]∧Hq=[.tr E64 (some r.2.2)]):=by
 refine zAW Tryz.func27 Tryz.ntmps27 rfl (rs:=[.cell 8 38,.tmp 9]) rfl rfl fun w0 X hX=>?_
 refine zDO ?_
 refine zDK ?_
 refine zAK (zD (zDB 38 rfl) rfl ?_)
 refine zDY (zDJ rfl) ?_
 refine zAJ (zAZ (zDO ?_))
 refine zDK ?_
 refine zDY (zAg rfl) ?_
 refine zDY (zAg rfl) ?_
 refine zDY (zAg rfl) ?_
 refine zDY (zAg rfl) ?_
 refine zDY (av_mkI (undX 86 rfl) rfl) ?_
 obtain ⟨x2,e3,hr⟩:=zA hr
 refine zAK (zAP (σ:=[0]) (as':=[.ptr 0 0,.i p1,.sl Y1 p2,.val (ifI 86 .i64 p3).1,.bool true]) (g40_runs e3).x ent40 rfl ⟨cv0,cv0,cv0,cv0,cv0,trivial⟩ rfl rfl rfl ?_)
 refine zAG (zAA (st':=⟨[(0,.ptr 0 0),(1,.i p1),(2,.sl Y1 p2),(3,.i p3),(8,.ptr 1 0),(9,.i 0),(10,.ptr 0 0),(11,.i p1),(12,.sl Y1 p2),(13,.i p3),(14,.val (ifI 86 .i64 p3).1),(15,.tup [.agg [.i x2.1.1,.i x2.1.2],.i x2.2.1])],[(0,.tr E64 (some x2.2.2)),(1,.var 38 [.i 0,.i 0])],2⟩) hX [0,1] 4 rfl rfl ⟨⟨_,rfl,cv0⟩,⟨_,rfl,cv0⟩,⟨_,rfl,cv0⟩,⟨_,rfl,cv0⟩,⟨_,rfl,cv0⟩,⟨_,rfl,cv0⟩,⟨_,rfl,cv0⟩,⟨_,rfl,cv0⟩,⟨_,rfl,cv0⟩,⟨_,rfl,cv0⟩,⟨_,rfl,cv0⟩,⟨_,rfl,cv0⟩,trivial⟩ ⟨zAL,zAL,trivial⟩) ?_
 refine zDY (zDA rfl rfl) ?_
 refine zDY (zDA rfl rfl) ?_
 refine zAK (zDI (szX 38 rfl) rfl rfl rfl rfl rfl rfl rfl ?_)
 refine zDY (zDJ rfl) ?_
 obtain rfl:=Option.some.inj hr
 exact zAJ (zAZ (zAw (zAe (l':=[(8,.rp [.i x2.1.1,.i x2.1.2]),(9,.i x2.2.1)]) (Hs:=[(0,.tr E64 (some x2.2.2))]) (n:=1) (zAA hX [0] 4 rfl rfl ⟨⟨_,rfl,cv0⟩,⟨_,rfl,cv0⟩,trivial⟩ ⟨zAL,trivial⟩) rfl rfl rfl ⟨(.inr ⟨_,2,rfl,(tsX 38 rfl),rfl,rfl⟩),rfl,trivial⟩)))
theorem g14_runs {p0_0:ZP}{p1:Int}{p2:ZN}{r:(Int×Int)×Int×(ZP)}(hr:g14 p0_0 p1 p2=some r) : Runs Tryz.prog 14 [.ptr 0 0,.i p1,.sl Y1 p2] [.tr E64 (some p0_0)] (fun q Hq=>q=[.agg [.i r.1.1,.i r.1.2],.i r.2.1]∧Hq=[.tr E64 (some r.2.2)]):=by
 refine zAW Tryz.func14 Tryz.ntmps14 rfl (rs:=[.cell 6 38,.tmp 7]) rfl rfl fun w0 X hX=>?_
 refine zDO ?_
 refine zDK ?_
 refine zAG (zAA (st':=⟨[(0,.ptr 0 0),(1,.i p1),(2,.sl Y1 p2)],[(0,.tr E64 (some p0_0))],1⟩) hX [0] 4 rfl rfl ⟨⟨_,rfl,cv0⟩,⟨_,rfl,cv0⟩,⟨_,rfl,cv0⟩,trivial⟩ ⟨zAL,trivial⟩) ?_
 refine zAK (zD (zDB 38 rfl) rfl ?_)
 refine zDY (zDJ rfl) ?_
 refine zAJ (zAZ (zDO (zDO ?_)))
 refine zDK ?_
 refine zDY (zAg rfl) ?_
 refine zDY (zAg rfl) ?_
 refine zDY (zAg rfl) ?_
 refine zAG (zAd (i:=0) [.map 2,.i p0_0.2.1,.i p0_0.2.2] [.mpt .i (.mp Y1 (.dat (.raw ifN))) p0_0.1 []] rfl rfl rfl rfl) ?_
 obtain ⟨x2,e3,hr⟩:=zA hr
 refine zDY (zAj (as':=[.ptr 0 0,.i p1,.sl Y1 p2]) (f26_runs e3).x ent37 rfl ⟨cv0,cv0,cv0,trivial⟩ rfl rfl) ?_
 refine zDY (zDJ rfl) ?_
 refine zAJ (zAZ (zDO ?_))
 refine zDK ?_
 refine zDY (zAg rfl) ?_
 refine zDY (zD0 rfl rfl) ?_
 refine zAJ (zAZ ?_)
 refine zAO (b:=!decide (x2=0)) rfl (fun hc4=>?_) (fun hc4=>?_)
 ·have hr:=zD1 hc4 hr
  refine zDO ?_
  refine zDK ?_
  refine zDY (zAs (qs:=[]) (cs:=[.i 0,.i 0]) bt38 rfl rfl rfl) ?_
  refine zDY (zAg rfl) ?_
  refine zAK (zDI (szX 38 rfl) rfl rfl rfl rfl rfl rfl rfl ?_)
  refine zDY (zDJ rfl) ?_
  obtain rfl:=Option.some.inj hr
  exact zAJ (zAZ (zAw (zAC (zAe (l':=[(6,.rp [.i 0,.i 0]),(7,.i x2)]) (Hs:=[(0,.tr E64 (some p0_0))]) (n:=1) (Wk.trans (pk (i:=0) (e:=F64) (js:=[2]) p0_0) (zAA hX [0] 4 rfl rfl ⟨⟨_,rfl,cv0⟩,⟨_,rfl,cv0⟩,trivial⟩ ⟨zAL,trivial⟩)) rfl rfl rfl ⟨(.inr ⟨_,2,rfl,(tsX 38 rfl),rfl,rfl⟩),rfl,trivial⟩))))
 ·have hr:=zD2 hc4 hr
  refine zAv (zAZ (zDO ?_))
  refine zDK ?_
  refine zAG (zAA (st':=⟨[(0,.ptr 0 0),(1,.i p1),(2,.sl Y1 p2),(6,.ptr 1 0),(7,.i 0)],[(0,.var 64 [.map 2,.i p0_0.2.1,.i p0_0.2.2]),(1,.var 38 [.i 0,.i 0]),(2,.mpt .i (.mp Y1 (.dat (.raw ifN))) p0_0.1 [])],3⟩) hX [0,1,2] 4 rfl rfl ⟨⟨_,rfl,cv0⟩,⟨_,rfl,cv0⟩,⟨_,rfl,cv0⟩,⟨_,rfl,cv0⟩,⟨_,rfl,cv0⟩,trivial⟩ ⟨zAL,zAL,zAL,trivial⟩) ?_
  refine zDY (zAg rfl) ?_
  refine zDY (zAg rfl) ?_
  refine zDY (zAg rfl) ?_
  refine zAG (pk (i:=0) (e:=F64) (js:=[2]) p0_0) ?_
  obtain ⟨o5,e6,hr⟩:=zA hr
  rcases o5 with x7 | x8
  ·refine zAK (zAP (σ:=[0]) (as':=[.ptr 0 0,.i p1,.sl Y1 p2]) (g38o_runs e6).x ent38 rfl ⟨cv0,cv0,cv0,trivial⟩ rfl rfl rfl ?_)
   refine zAG (zAA (st':=⟨[(0,.ptr 0 0),(1,.i p1),(2,.sl Y1 p2),(6,.ptr 1 0),(7,.i 0),(24,.ptr 0 0),(25,.i p1),(26,.sl Y1 p2),(27,.tup [.nilm,.agg [.i x7.1.1,.i x7.1.2],.i x7.2])],[(0,.tr E64 (some p0_0)),(1,.var 38 [.i 0,.i 0]),(2,.dead)],3⟩) hX [0,1,2] 4 rfl rfl ⟨⟨_,rfl,cv0⟩,⟨_,rfl,cv0⟩,⟨_,rfl,cv0⟩,⟨_,rfl,cv0⟩,⟨_,rfl,cv0⟩,⟨_,rfl,cv0⟩,⟨_,rfl,cv0⟩,⟨_,rfl,cv0⟩,⟨_,rfl,cv0⟩,trivial⟩ ⟨zAL,zAL,zAL,trivial⟩) ?_
   refine zDY (zAg rfl) ?_
   refine zDY (zDA rfl rfl) ?_
   refine zDY (zDA rfl rfl) ?_
   refine zDY (zDA rfl rfl) ?_
   refine zAK (zD (zDB 38 rfl) rfl ?_)
   refine zDY (zDJ rfl) ?_
   refine zAK (zDI (szX 38 rfl) rfl rfl rfl rfl rfl rfl rfl ?_)
   refine zDY (zDJ rfl) ?_
   refine zAJ (zAZ (zDO (zDO ?_)))
   refine zDK ?_
   refine zDY (zAg rfl) ?_
   refine zDY (zD0 rfl rfl) ?_
   refine zAJ (zAZ ?_)
   refine zAO (b:=!decide (x7.2=0)) rfl (fun hc9=>?_) (fun hc9=>?_)
   ·have hr:=zD1 hc9 hr
    refine zDO ?_
    refine zDK ?_
    refine zDY (zDG (tsX 38 rfl) rfl rfl rfl rfl) ?_
    refine zDY (zAg rfl) ?_
    refine zAK (zDI (szX 38 rfl) rfl rfl rfl rfl rfl rfl rfl ?_)
    refine zDY (zDJ rfl) ?_
    obtain rfl:=Option.some.inj hr
    exact zAJ (zAZ (zAw (zAC (zAe (l':=[(6,.rp [.i x7.1.1,.i x7.1.2]),(7,.i x7.2)]) (Hs:=[(0,.tr E64 (some p0_0))]) (n:=1) (zAA hX [0] 4 rfl rfl ⟨⟨_,rfl,cv0⟩,⟨_,rfl,cv0⟩,trivial⟩ ⟨zAL,trivial⟩) rfl rfl rfl ⟨(.inr ⟨_,2,rfl,(tsX 38 rfl),rfl,rfl⟩),rfl,trivial⟩))))
   ·have hr:=zD2 hc9 hr
    refine zAv (zAZ (zDO ?_))
    refine zDK ?_
    refine zDY (zAg rfl) ?_
    refine zDY (zAg rfl) ?_
    refine zDY (zA0 (t:=Y1) rfl rfl (undX 23 rfl) rfl) ?_
    refine zDY (zDz rfl rfl) ?_
    obtain ⟨x10,e11,hr⟩:=zA hr
    refine zDY (zAQ (t:=Y1) (e:=x10) (undX 23 rfl) (szX 34 rfl) rfl rfl e11) ?_
    refine zDY (zDw (tsX 34 rfl) rfl rfl rfl) ?_
    refine zAK (zD (zDB 34 rfl) rfl ?_)
    refine zAK (zDI (szX 34 rfl) rfl rfl rfl rfl rfl rfl rfl ?_)
    exact absurd hr (by simp)
  ·refine zAK (zAP (σ:=[0]) (as':=[.ptr 0 0,.i p1,.sl Y1 p2]) (g38o_runs e6).x ent38 rfl ⟨cv0,cv0,cv0,trivial⟩ rfl rfl rfl ?_)
   refine zAG (zAA (st':=⟨[(0,.ptr 0 0),(1,.i p1),(2,.sl Y1 p2),(6,.ptr 1 0),(7,.i 0),(24,.ptr 0 0),(25,.i p1),(26,.sl Y1 p2),(27,.tup [.map 3,.agg [.i 0,.i 0],.i 0])],[(0,.var 64 [.map 4,.i p0_0.2.1,.i p0_0.2.2]),(1,.var 38 [.i 0,.i 0]),(2,.dead),(3,.map Y1 (.raw ifN) ((mget p0_0.1 x8).getD [])),(4,.mpt .i (.mp Y1 (.dat (.raw ifN))) p0_0.1 [(x8,3)])],5⟩) hX [0,1,2,3,4] 4 rfl rfl ⟨⟨_,rfl,cv0⟩,⟨_,rfl,cv0⟩,⟨_,rfl,cv0⟩,⟨_,rfl,cv0⟩,⟨_,rfl,cv0⟩,⟨_,rfl,cv0⟩,⟨_,rfl,cv0⟩,⟨_,rfl,cv0⟩,⟨_,rfl,cv0⟩,trivial⟩ ⟨zAL,zAL,zAL,zAL,zAL,trivial⟩) ?_
   refine zDY (zAg rfl) ?_
   refine zDY (zDA rfl rfl) ?_
   refine zDY (zDA rfl rfl) ?_
   refine zDY (zDA rfl rfl) ?_
   refine zAK (zD (zDB 38 rfl) rfl ?_)
   refine zDY (zDJ rfl) ?_
   refine zAK (zDI (szX 38 rfl) rfl rfl rfl rfl rfl rfl rfl ?_)
   refine zDY (zDJ rfl) ?_
   refine zAJ (zAZ (zDO (zDO ?_)))
   refine zDK ?_
   refine zDY (zAg rfl) ?_
   refine zDY (zD0 rfl rfl) ?_
   refine zAJ (zAZ (zA3 rfl (zAv (zAZ (zDO ?_)))))
   refine zDK ?_
   refine zDY (zAg rfl) ?_
   refine zDY (zAg rfl) ?_
   refine zDY (zA0 (t:=Y1) rfl rfl (undX 23 rfl) rfl) ?_
   refine zDY (zDz rfl rfl) ?_
   obtain ⟨x12,e13,hr⟩:=zA hr
   refine zDY (zAQ (t:=Y1) (e:=x12) (undX 23 rfl) (szX 34 rfl) rfl rfl e13) ?_
   refine zDY (zDw (tsX 34 rfl) rfl rfl rfl) ?_
   refine zAK (zD (zDB 34 rfl) rfl ?_)
   refine zAK (zDI (szX 34 rfl) rfl rfl rfl rfl rfl rfl rfl ?_)
   refine zAJ (zAZ (zDO (zDO ?_)))
   refine zDK ?_
   refine zDY (zAg rfl) ?_
   refine zDY (zDG (tsX 34 rfl) rfl rfl rfl rfl) ?_
   refine zDY (av_lookup2 (kx:=x12) (r:=.tup [.val ((mget ((mget p0_0.1 x8).getD []) x12).getD ifN).1,.bool ((mget ((mget p0_0.1 x8).getD []) x12).isSome)]) (undX 61 rfl) kt34 zw84 rfl rfl rfl rfl rfl) ?_
   refine zDY (zAg rfl) ?_
   refine zDY (zDA rfl rfl) ?_
   refine zDY (zDA rfl rfl) ?_
   refine zDY (zDJ rfl) ?_
   refine zDY (zDJ rfl) ?_
   refine zAJ (zAZ (zDO ?_))
   refine zDK ?_
   refine zDY (zAg rfl) ?_
   refine zDY (zDx rfl) ?_
   refine zAJ (zAZ ?_)
   refine zAO (b:=!((mget ((mget p0_0.1 x8).getD []) x12).isSome)) rfl (fun hc14=>?_) (fun hc14=>?_)
   ·have hr:=zD1 hc14 hr
    refine zDO ?_
    refine zDK ?_
    refine zDY (zAg rfl) ?_
    refine zDY (zA0 (t:=Y1) rfl rfl (undX 23 rfl) rfl) ?_
    refine zDY (zDz rfl rfl) ?_
    refine zDY (zAs (qs:=[(0,[.i (w64 ((List.length p2 : Int) - 1))]),(1,[.i 1])]) (cs:=[.i (w64 ((List.length p2 : Int) - 1)),.i 1]) bt38 rfl rfl rfl) ?_
    refine zAK (zDI (szX 38 rfl) rfl rfl rfl rfl rfl rfl rfl ?_)
    refine zDY (zDJ rfl) ?_
    obtain ⟨h15,hr⟩:=zAN hr
    obtain rfl:=Option.some.inj hr
    exact zAJ (zAZ (zAw (zAC (zAe (l':=[(6,.rp [.i (w64 ((List.length p2 : Int) - 1)),.i 1]),(7,.i 8)]) (Hs:=[(0,.tr E64 (some p0_0))]) (n:=1) (Wk.trans (zDT (i:=4) (n:=3) (kx:=x8) (hs':=[]) ((mget p0_0.1 x8).getD []) (js:=[3]) rfl (List.mem_cons.2 (.inl rfl)) (zDH h15) ⟨3,rfl,rfl,rfl⟩ rfl rfl holes1) (Wk.trans (pk (i:=0) (e:=F64) (js:=[4]) p0_0) (zAA hX [0] 4 rfl rfl ⟨⟨_,rfl,cv0⟩,⟨_,rfl,cv0⟩,trivial⟩ ⟨zAL,trivial⟩))) rfl rfl rfl ⟨(.inr ⟨_,2,rfl,(tsX 38 rfl),rfl,rfl⟩),rfl,trivial⟩))))
   ·have hr:=zD2 hc14 hr
    refine zAv (zAZ (zDO ?_))
    refine zDK ?_
    refine zAG (zAA (st':=⟨[(0,.ptr 0 0),(6,.ptr 1 0),(7,.i 0),(9,.map 3),(12,.ptr 6 0)],[(0,.var 64 [.map 4,.i p0_0.2.1,.i p0_0.2.2]),(1,.var 38 [.i 0,.i 0]),(2,.dead),(3,.map Y1 (.raw ifN) ((mget p0_0.1 x8).getD [])),(4,.mpt .i (.mp Y1 (.dat (.raw ifN))) p0_0.1 [(x8,3)]),(5,.var 38 [.i 0,.i 0]),(6,.var 34 [.str x12.1,.str x12.2])],7⟩) hX [0,1,2,3,4,5,6] 4 rfl rfl ⟨⟨_,rfl,cv0⟩,⟨_,rfl,cv0⟩,⟨_,rfl,cv0⟩,⟨_,rfl,cv0⟩,⟨_,rfl,cv0⟩,trivial⟩ ⟨zAL,zAL,zAL,zAL,zAL,zAL,zAL,trivial⟩) ?_
    refine zDY (zAg rfl) ?_
    refine zDY (zDG (tsX 34 rfl) rfl rfl rfl rfl) ?_
    refine zAK (aop_mapDel (kx:=x12) rfl rfl rfl (undX 61 rfl) kt34 rfl rfl rfl rfl ?_)
    refine zAJ (zAZ (zDO ?_))
    refine zDK ?_
    refine zDY (zAg rfl) ?_
    refine zDY (zAm rfl) ?_
    refine zDY (zAc (faX 64 2 rfl) rfl rfl) ?_
    refine zDY (zAU (tsX 3 rfl) rfl rfl rfl) ?_
    refine zDY (zDz rfl rfl) ?_
    refine zDY (zAm rfl) ?_
    refine zDY (zAc (faX 64 2 rfl) rfl rfl) ?_
    refine zAK (zDI (szX 3 rfl) rfl rfl rfl rfl rfl rfl rfl ?_)
    refine zAJ (zAZ (zDO ?_))
    refine zDK ?_
    refine zDY (zAs (qs:=[]) (cs:=[.i 0,.i 0]) bt38 rfl rfl rfl) ?_
    refine zAK (zDI (szX 38 rfl) rfl rfl rfl rfl rfl rfl rfl ?_)
    refine zDY (zDJ rfl) ?_
    obtain ⟨h16,hr⟩:=zAN hr
    obtain rfl:=Option.some.inj hr
    exact zAJ (zAZ (zAw (zAe (l':=[(6,.rp [.i 0,.i 0]),(7,.i 0)]) (Hs:=[(0,.tr E64 (some ((mset p0_0.1 x8 (mdel ((mget p0_0.1 x8).getD []) x12)),p0_0.2.1,(w64 (p0_0.2.2 - 1)))))]) (n:=1) (Wk.trans (wk_close (i:=4) (n:=3) (kx:=x8) (hs':=[]) ((mget p0_0.1 x8).getD []) (mdel ((mget p0_0.1 x8).getD []) x12) (js:=[3]) rfl (List.mem_cons.2 (.inl rfl)) (zDH h16) ⟨3,rfl,rfl,rfl⟩ rfl rfl holes1) (Wk.trans (pk (i:=0) (e:=F64) (js:=[4]) ((mset p0_0.1 x8 (mdel ((mget p0_0.1 x8).getD []) x12)),p0_0.2.1,(w64 (p0_0.2.2 - 1)))) (zAA hX [0] 4 rfl rfl ⟨⟨_,rfl,cv0⟩,⟨_,rfl,cv0⟩,trivial⟩ ⟨zAL,trivial⟩))) rfl rfl rfl ⟨(.inr ⟨_,2,rfl,(tsX 38 rfl),rfl,rfl⟩),rfl,trivial⟩)))
theorem g28_runs {p0_0:ZP}{p1:Int}{p2:ZN}{r:Int×(Int×Int)×Int×(ZP)}(hr:g28 p0_0 p1 p2=some r) : Runs Tryz.prog 28 [.ptr 0 0,.i p1,.sl Y1 p2] [.tr E64 (some p0_0)] (fun q Hq=>q=[.i r.1,.agg [.i r.2.1.1,.i r.2.1.2],.i r.2.2.1]∧Hq=[.tr E64 (some r.2.2.2)]):=by
 refine zAW Tryz.func28 Tryz.ntmps28 rfl (rs:=[.tmp 6,.cell 7 38,.tmp 8]) rfl rfl fun w0 X hX=>?_
 refine zDO ?_
 refine zDK ?_
 refine zDY (zDJ rfl) ?_
 refine zAK (zD (zDB 38 rfl) rfl ?_)
 refine zDY (zDJ rfl) ?_
 refine zAJ (zAZ (zDO (zDO ?_)))
 refine zDK ?_
 refine zDY (zAg rfl) ?_
 refine zDY (zAg rfl) ?_
 refine zDY (zAg rfl) ?_
 refine zDY (av_mkI (undX 86 rfl) rfl) ?_
 obtain ⟨x2,e3,hr⟩:=zA hr
 refine zAK (zAP (σ:=[0]) (as':=[.ptr 0 0,.i p1,.sl Y1 p2,.val (ifI 86 .i64 0).1,.bool false]) (g40_runs e3).x ent40 rfl ⟨cv0,cv0,cv0,cv0,cv0,trivial⟩ rfl rfl rfl ?_)
 refine zDY (zAg rfl) ?_
 refine zDY (zDA rfl rfl) ?_
 refine zDY (zDA rfl rfl) ?_
 refine zAK (zD (zDB 38 rfl) rfl ?_)
 refine zAK (zDI (szX 38 rfl) rfl rfl rfl rfl rfl rfl rfl ?_)
 refine zDY (zDJ rfl) ?_
 refine zAJ (zAZ (zDO ?_))
 refine zDK ?_
 refine zDY (zAg rfl) ?_
 refine zDY (zD0 rfl rfl) ?_
 refine zAJ (zAZ ?_)
 refine zAO (b:=!decide (x2.2.1=0)) rfl (fun hc4=>?_) (fun hc4=>?_)
 ·have hr:=zD1 hc4 hr
  refine zDO ?_
  refine zCV (st2:=⟨[(0,.ptr 0 0),(1,.i p1),(2,.sl Y1 p2),(7,.ptr 1 0),(8,.i 0),(10,.i x2.2.1),(6,.i 0)],[(0,.tr E64 (some x2.2.2)),(1,.var 38 [.i x2.1.1,.i x2.1.2]),(2,.var 38 [.i x2.1.1,.i x2.1.2])],3⟩) 3 [1] [3,0,3] [[],[],[]] mixed [0,1,2,7,8,9,10] [(true,.agg [.i x2.1.1,.i x2.1.2]),(true,.i x2.2.1),(true,.i 0)] [[],[],[]] [0,2] [0,1,2,7,8,10,6] rfl rfl rfl rfl rfl rfl rfl rfl rfl rfl rfl rfl ⟨?_,?_,?_,trivial⟩ (zAD ⟨rfl,rfl,trivial⟩) rfl ⟨(fun X' o ho=>by obtain rfl:=Option.some.inj ho; exact zAg rfl),trivial⟩ rfl (fun X'=>zDI (szX 38 rfl) rfl rfl rfl rfl rfl rfl rfl ⟨⟨rfl,rfl,rfl,rfl,rfl,rfl,rfl,trivial⟩,⟨rfl,rfl,rfl,trivial⟩,rfl⟩) ?_
  ·exact zAr rfl (fun hg=>zAD trivial) (fun hg=>zDG (tsX 38 rfl) rfl rfl rfl rfl)
  ·exact zAr rfl (fun hg=>zAD trivial) (fun hg=>zAg rfl)
  ·exact zAr rfl (fun hg=>zAD trivial) (fun hg=>zDJ rfl)
  refine zDY (zDJ rfl) ?_
  obtain rfl:=Option.some.inj hr
  exact zAJ (zAZ (zAw (zAC (zAe (l':=[(6,.i 0),(7,.rp [.i x2.1.1,.i x2.1.2]),(8,.i x2.2.1)]) (Hs:=[(0,.tr E64 (some x2.2.2))]) (n:=1) (zAA hX [0] 4 rfl rfl ⟨⟨_,rfl,cv0⟩,⟨_,rfl,cv0⟩,⟨_,rfl,cv0⟩,trivial⟩ ⟨zAL,trivial⟩) rfl rfl rfl ⟨rfl,(.inr ⟨_,2,rfl,(tsX 38 rfl),rfl,rfl⟩),rfl,trivial⟩))))
 ·have hr:=zD2 hc4 hr
  refine zAv (zAZ (zDO ?_))
  refine zDK ?_
  refine zDY (zAg rfl) ?_
  obtain ⟨x5,e6,hr⟩:=zA hr
  refine zAK (zAP (σ:=[0]) (as':=[.ptr 0 0]) (g24_runs e6).x ent24 rfl ⟨cv0,trivial⟩ rfl rfl rfl ?_)
  refine zAG (zAA (st':=⟨[(0,.ptr 0 0),(1,.i p1),(2,.sl Y1 p2),(6,.i 0),(7,.ptr 1 0),(8,.i 0),(26,.ptr 0 0),(27,.tup [.i x5.1,.i x5.2.1])],[(0,.tr E64 (some x5.2.2)),(1,.var 38 [.i 0,.i 0]),(2,.var 38 [.i x2.1.1,.i x2.1.2])],3⟩) hX [0,1,2] 4 rfl rfl ⟨⟨_,rfl,cv0⟩,⟨_,rfl,cv0⟩,⟨_,rfl,cv0⟩,⟨_,rfl,cv0⟩,⟨_,rfl,cv0⟩,⟨_,rfl,cv0⟩,⟨_,rfl,cv0⟩,⟨_,rfl,cv0⟩,trivial⟩ ⟨zAL,zAL,zAL,trivial⟩) ?_
  refine zDY (zAg rfl) ?_
  refine zDY (zDA rfl rfl) ?_
  refine zDY (zDA rfl rfl) ?_
  refine zDY (zDJ rfl) ?_
  refine zDY (zDJ rfl) ?_
  refine zAJ (zAZ (zDO (zDO ?_)))
  refine zDK ?_
  refine zDY (zAg rfl) ?_
  refine zDY (zD0 rfl rfl) ?_
  refine zAJ (zAZ ?_)
  refine zAO (b:=!decide (x5.2.1=0)) rfl (fun hc7=>?_) (fun hc7=>?_)
  ·have hr:=zD1 hc7 hr
   refine zDO ?_
   refine zDK ?_
   refine zDY (zAg rfl) ?_
   refine zDY (zAg rfl) ?_
   refine zDY (zAg rfl) ?_
   obtain ⟨x8,e9,hr⟩:=zA hr
   refine zAK (zAP (σ:=[0]) (as':=[.ptr 0 0,.i p1,.sl Y1 p2]) (g14_runs e9).x ent14 rfl ⟨cv0,cv0,cv0,trivial⟩ rfl rfl rfl ?_)
   refine zAJ (zAZ (zDO ?_))
   refine zDK ?_
   refine zDY (zAs (qs:=[]) (cs:=[.i 0,.i 0]) bt38 rfl rfl rfl) ?_
   refine zDY (zAg rfl) ?_
   refine zDY (zDJ rfl) ?_
   refine zAK (zDI (szX 38 rfl) rfl rfl rfl rfl rfl rfl rfl ?_)
   refine zDY (zDJ rfl) ?_
   obtain rfl:=Option.some.inj hr
   exact zAJ (zAZ (zAw (zAC (zAe (l':=[(6,.i 0),(7,.rp [.i 0,.i 0]),(8,.i x5.2.1)]) (Hs:=[(0,.tr E64 (some x8.2.2))]) (n:=1) (zAA hX [0] 4 rfl rfl ⟨⟨_,rfl,cv0⟩,⟨_,rfl,cv0⟩,⟨_,rfl,cv0⟩,trivial⟩ ⟨zAL,trivial⟩) rfl rfl rfl ⟨rfl,(.inr ⟨_,2,rfl,(tsX 38 rfl),rfl,rfl⟩),rfl,trivial⟩))))
  ·have hr:=zD2 hc7 hr
   refine zAv (zAZ (zDO ?_))
   refine zDK ?_
   refine zDY (zAg rfl) ?_
   refine zDY (zAg rfl) ?_
   refine zDY (zAg rfl) ?_
   refine zDY (zAg rfl) ?_
   obtain ⟨x10,e11,hr⟩:=zA hr
   refine zAK (zAP (σ:=[0]) (as':=[.ptr 0 0,.i p1,.sl Y1 p2,.i x5.1]) (g27_runs e11).x ent27 rfl ⟨cv0,cv0,cv0,cv0,trivial⟩ rfl rfl rfl ?_)
   refine zAJ (zAZ (zDO ?_))
   refine zDK ?_
   refine zAG (zAA (st':=⟨[(6,.i 0),(7,.ptr 1 0),(8,.i 0),(11,.i x5.1)],[(0,.tr E64 (some x10.2.2)),(1,.var 38 [.i 0,.i 0]),(2,.var 38 [.i x2.1.1,.i x2.1.2])],3⟩) hX [0,1,2] 4 rfl rfl ⟨⟨_,rfl,cv0⟩,⟨_,rfl,cv0⟩,⟨_,rfl,cv0⟩,⟨_,rfl,cv0⟩,trivial⟩ ⟨zAL,zAL,zAL,trivial⟩) ?_
   refine zDY (zAg rfl) ?_
   refine zDY (zAs (qs:=[]) (cs:=[.i 0,.i 0]) bt38 rfl rfl rfl) ?_
   refine zDY (zDJ rfl) ?_
   refine zAK (zDI (szX 38 rfl) rfl rfl rfl rfl rfl rfl rfl ?_)
   refine zDY (zDJ rfl) ?_
   obtain rfl:=Option.some.inj hr
   exact zAJ (zAZ (zAw (zAe (l':=[(6,.i x5.1),(7,.rp [.i 0,.i 0]),(8,.i 0)]) (Hs:=[(0,.tr E64 (some x10.2.2))]) (n:=1) (zAA hX [0] 4 rfl rfl ⟨⟨_,rfl,cv0⟩,⟨_,rfl,cv0⟩,⟨_,rfl,cv0⟩,trivial⟩ ⟨zAL,trivial⟩) rfl rfl rfl ⟨rfl,(.inr ⟨_,2,rfl,(tsX 38 rfl),rfl,rfl⟩),rfl,trivial⟩)))
theorem g65_runs {p0:ZQ}{p1:Int}{p2:ZN}{r:Int}(hr:g65 p0 p1 p2=some r) : zBb Tryz.prog 65 [.rp [.sl Y4 p0.1,.i p0.2],.i p1,.sl Y1 p2] [.i r]:=by
 refine zAW Tryz.func65 Tryz.ntmps65 rfl (rs:=[.tmp 6]) rfl rfl fun w0 X hX=>?_
 refine zDO ?_
 refine zDK ?_
 refine zDY (zDJ rfl) ?_
 refine zAJ (zAZ (zDO (zDv (zDO ?_))))
 refine zDK ?_
 refine zDY (zAg rfl) ?_
 obtain ⟨x1,e2,hr⟩:=zA hr
 refine zDY (zAV (f10_runs e2).x ent60 rfl rfl) ?_
 refine zDY (zDx rfl) ?_
 refine zDY (zDJ rfl) ?_
 refine zAJ (zAZ ?_)
 refine zAO (b:=!x1) rfl (fun hc3=>?_) (fun hc3=>?_)
 ·have hr:=zD1 hc3 hr
  refine zDO ?_
  refine zDK ?_
  refine zDY (zDJ rfl) ?_
  obtain rfl:=Option.some.inj hr
  exact zAJ (zAZ (zAw (zAE (zAC (zAk (l':=[(6,.i 1)]) (zAA hX [] 4 rfl rfl ⟨⟨_,rfl,cv0⟩,trivial⟩ trivial) rfl ⟨rfl,trivial⟩)))))
 ·have hr:=zD2 hc3 hr
  refine zDO ?_
  refine zDK ?_
  refine zDY (zAg rfl) ?_
  refine zDY (zAg rfl) ?_
  obtain ⟨x4,e5,hr⟩:=zA hr
  refine zDY (zAV (zDa e5).x ent51 rfl rfl) ?_
  refine zDY (zDW (t:=Y4) (undX 108 rfl) rfl rfl) ?_
  refine zDY (zDJ rfl) ?_
  refine zAJ (zAZ ?_)
  refine zAO (b:=(Option.isNone x4)) rfl (fun hc6=>?_) (fun hc6=>?_)
  ·have hr:=zD1 hc6 hr
   refine zDO ?_
   refine zDK ?_
   refine zDY (zDJ rfl) ?_
   obtain rfl:=Option.some.inj hr
   exact zAJ (zAZ (zAw (zAE (zAC (zAk (l':=[(6,.i 7)]) (zAA hX [] 4 rfl rfl ⟨⟨_,rfl,cv0⟩,trivial⟩ trivial) rfl ⟨rfl,trivial⟩)))))
  ·have hr:=zD2 hc6 hr
   refine zAv (zAS (zAZ (zDO ?_)))
   refine zDK ?_
   refine zDY (zDJ rfl) ?_
   obtain rfl:=Option.some.inj hr
   exact zAJ (zAZ (zAw (zAk (l':=[(6,.i 0)]) (zAA hX [] 4 rfl rfl ⟨⟨_,rfl,cv0⟩,trivial⟩ trivial) rfl ⟨rfl,trivial⟩)))
theorem g29_runs {p0_0:ZQ}{p1:Int}{p2:ZN}{r:Int×(Int×Int)×Int×(ZQ)}(hr:g29 p0_0 p1 p2=some r) : Runs Tryz.prog 29 [.ptr 0 0,.i p1,.sl Y1 p2] [.tr E70 (some p0_0)] (fun q Hq=>q=[.i r.1,.agg [.i r.2.1.1,.i r.2.1.2],.i r.2.2.1]∧Hq=[.tr E70 (some r.2.2.2)]):=by
 refine zAW Tryz.func29 Tryz.ntmps29 rfl (rs:=[.tmp 6,.cell 7 38,.tmp 8]) rfl rfl fun w0 X hX=>?_
 refine zDO ?_
 refine zDK ?_
 refine zAG (zAA (st':=⟨[(0,.ptr 0 0),(1,.i p1),(2,.sl Y1 p2)],[(0,.tr E70 (some p0_0))],1⟩) hX [0] 4 rfl rfl ⟨⟨_,rfl,cv0⟩,⟨_,rfl,cv0⟩,⟨_,rfl,cv0⟩,trivial⟩ ⟨zAL,trivial⟩) ?_
 refine zDY (zDJ rfl) ?_
 refine zAK (zD (zDB 38 rfl) rfl ?_)
 refine zDY (zDJ rfl) ?_
 refine zAJ (zAZ (zDO (zDO ?_)))
 refine zDK ?_
 refine zDY (zAg rfl) ?_
 refine zDY (zAg rfl) ?_
 refine zDY (zAg rfl) ?_
 refine zAG (zAd (i:=0) [.osl 2,.i p0_0.2] [.sl 67 Y4 p0_0.1] rfl rfl rfl rfl) ?_
 obtain ⟨x2,e3,hr⟩:=zA hr
 refine zDY (zAj (as':=[.ptr 0 0,.i p1,.sl Y1 p2]) (g65_runs e3).x ent65 rfl ⟨cv0,cv0,cv0,trivial⟩ rfl rfl) ?_
 refine zDY (zDJ rfl) ?_
 refine zAJ (zAZ (zDO ?_))
 refine zDK ?_
 refine zDY (zAg rfl) ?_
 refine zDY (zD0 rfl rfl) ?_
 refine zAJ (zAZ ?_)
 refine zAO (b:=!decide (x2=0)) rfl (fun hc4=>?_) (fun hc4=>?_)
 ·have hr:=zD1 hc4 hr
  refine zDO ?_
  refine zDK ?_
  refine zDY (zAs (qs:=[]) (cs:=[.i 0,.i 0]) bt38 rfl rfl rfl) ?_
  refine zDY (zAg rfl) ?_
  refine zDY (zDJ rfl) ?_
  refine zAK (zDI (szX 38 rfl) rfl rfl rfl rfl rfl rfl rfl ?_)
  refine zDY (zDJ rfl) ?_
  obtain rfl:=Option.some.inj hr
  exact zAJ (zAZ (zAw (zAC (zAe (l':=[(6,.i 0),(7,.rp [.i 0,.i 0]),(8,.i x2)]) (Hs:=[(0,.tr E70 (some p0_0))]) (n:=1) (Wk.trans (pk (i:=0) (e:=F70) (js:=[2]) p0_0) (zAA hX [0] 4 rfl rfl ⟨⟨_,rfl,cv0⟩,⟨_,rfl,cv0⟩,⟨_,rfl,cv0⟩,trivial⟩ ⟨zAL,trivial⟩)) rfl rfl rfl ⟨rfl,(.inr ⟨_,2,rfl,(tsX 38 rfl),rfl,rfl⟩),rfl,trivial⟩))))
 ·have hr:=zD2 hc4 hr
  refine zAv (zAZ (zDO ?_))
  refine zDK ?_
  refine zAG (zAA (st':=⟨[(0,.ptr 0 0),(1,.i p1),(2,.sl Y1 p2),(6,.i 0),(7,.ptr 1 0),(8,.i 0)],[(0,.var 70 [.osl 2,.i p0_0.2]),(1,.var 38 [.i 0,.i 0]),(2,.sl 67 Y4 p0_0.1)],3⟩) hX [0,1,2] 4 rfl rfl ⟨⟨_,rfl,cv0⟩,⟨_,rfl,cv0⟩,⟨_,rfl,cv0⟩,⟨_,rfl,cv0⟩,⟨_,rfl,cv0⟩,⟨_,rfl,cv0⟩,trivial⟩ ⟨zAL,zAL,zAL,trivial⟩) ?_
  refine zDY (zAg rfl) ?_
  refine zDY (zAg rfl) ?_
  refine zDY (zAg rfl) ?_
  refine zAG (pk (i:=0) (e:=F70) (js:=[2]) p0_0) ?_
  obtain ⟨o5,e6,hr⟩:=zA hr
  rcases o5 with x7 | x8
  ·refine zAK (zAP (σ:=[0]) (as':=[.ptr 0 0,.i p1,.sl Y1 p2]) (zDp e6).x ent61 rfl ⟨cv0,cv0,cv0,trivial⟩ rfl rfl rfl ?_)
   refine zAG (zAA (st':=⟨[(0,.ptr 0 0),(1,.i p1),(2,.sl Y1 p2),(6,.i 0),(7,.ptr 1 0),(8,.i 0),(27,.ptr 0 0),(28,.i p1),(29,.sl Y1 p2),(30,.tup [.nilp,.agg [.i x7.1.1,.i x7.1.2],.i x7.2])],[(0,.tr E70 (some p0_0)),(1,.var 38 [.i 0,.i 0]),(2,.dead)],3⟩) hX [0,1,2] 4 rfl rfl ⟨⟨_,rfl,cv0⟩,⟨_,rfl,cv0⟩,⟨_,rfl,cv0⟩,⟨_,rfl,cv0⟩,⟨_,rfl,cv0⟩,⟨_,rfl,cv0⟩,⟨_,rfl,cv0⟩,⟨_,rfl,cv0⟩,⟨_,rfl,cv0⟩,⟨_,rfl,cv0⟩,trivial⟩ ⟨zAL,zAL,zAL,trivial⟩) ?_
   refine zDY (zAg rfl) ?_
   refine zDY (zDA rfl rfl) ?_
   refine zDY (zDA rfl rfl) ?_
   refine zDY (zDA rfl rfl) ?_
   refine zAK (zD (zDB 38 rfl) rfl ?_)
   refine zDY (zDJ rfl) ?_
   refine zAK (zDI (szX 38 rfl) rfl rfl rfl rfl rfl rfl rfl ?_)
   refine zDY (zDJ rfl) ?_
   refine zAJ (zAZ (zDO (zDO ?_)))
   refine zDK ?_
   refine zDY (zAg rfl) ?_
   refine zDY (zD0 rfl rfl) ?_
   refine zAJ (zAZ ?_)
   refine zAO (b:=!decide (x7.2=0)) rfl (fun hc9=>?_) (fun hc9=>?_)
   ·have hr:=zD1 hc9 hr
    refine zDO ?_
    refine zCV (st2:=⟨[(0,.ptr 0 0),(2,.sl Y1 p2),(7,.ptr 1 0),(8,.i 0),(10,.nilp),(12,.i x7.2),(6,.i 0)],[(0,.tr E70 (some p0_0)),(1,.var 38 [.i x7.1.1,.i x7.1.2]),(2,.dead),(3,.var 38 [.i x7.1.1,.i x7.1.2])],4⟩) 3 [1] [3,0,3] [[],[],[]] mixed [0,2,7,8,11,10,12] [(true,.agg [.i x7.1.1,.i x7.1.2]),(true,.i x7.2),(true,.i 0)] [[],[],[]] [0,2] [0,2,7,8,10,12,6] rfl rfl rfl rfl rfl rfl rfl rfl rfl rfl rfl rfl ⟨?_,?_,?_,trivial⟩ (zAD ⟨rfl,rfl,trivial⟩) rfl ⟨(fun X' o ho=>by obtain rfl:=Option.some.inj ho; exact zAg rfl),trivial⟩ rfl (fun X'=>zDI (szX 38 rfl) rfl rfl rfl rfl rfl rfl rfl ⟨⟨rfl,rfl,rfl,rfl,rfl,rfl,rfl,trivial⟩,⟨rfl,rfl,rfl,rfl,trivial⟩,rfl⟩) ?_
    ·exact zAr rfl (fun hg=>zAD trivial) (fun hg=>zDG (tsX 38 rfl) rfl rfl rfl rfl)
    ·exact zAr rfl (fun hg=>zAD trivial) (fun hg=>zAg rfl)
    ·exact zAr rfl (fun hg=>zAD trivial) (fun hg=>zDJ rfl)
    refine zDY (zDJ rfl) ?_
    obtain rfl:=Option.some.inj hr
    exact zAJ (zAZ (zAw (zAC (zAe (l':=[(6,.i 0),(7,.rp [.i x7.1.1,.i x7.1.2]),(8,.i x7.2)]) (Hs:=[(0,.tr E70 (some p0_0))]) (n:=1) (zAA hX [0] 4 rfl rfl ⟨⟨_,rfl,cv0⟩,⟨_,rfl,cv0⟩,⟨_,rfl,cv0⟩,trivial⟩ ⟨zAL,trivial⟩) rfl rfl rfl ⟨rfl,(.inr ⟨_,2,rfl,(tsX 38 rfl),rfl,rfl⟩),rfl,trivial⟩))))
   ·have hr:=zD2 hc9 hr
    refine zAv (zAZ (zDO ?_))
    refine zDK ?_
    refine zDY (zAg rfl) ?_
    refine zDY (zAg rfl) ?_
    refine zDY (zA0 (t:=Y1) rfl rfl (undX 23 rfl) rfl) ?_
    refine zDY (zDz rfl rfl) ?_
    obtain ⟨x10,e11,hr⟩:=zA hr
    refine zDY (zAQ (t:=Y1) (e:=x10) (undX 23 rfl) (szX 34 rfl) rfl rfl e11) ?_
    refine zDY (zDw (tsX 34 rfl) rfl rfl rfl) ?_
    refine zAK (zD (zDB 34 rfl) rfl ?_)
    refine zAK (zDI (szX 34 rfl) rfl rfl rfl rfl rfl rfl rfl ?_)
    refine zAJ (zAZ (zDO ?_))
    refine zDK ?_
    refine zDY (zAg rfl) ?_
    refine zDY (zDG (tsX 34 rfl) rfl rfl rfl rfl) ?_
    obtain ⟨x12,e13,hr⟩:=zA hr
    refine zDY (av_callN (as':=[.nilp,.agg [.str x10.1,.str x10.2]]) (g62_runs e13).x ent62 rfl ⟨cv4,cv0,trivial⟩ rfl) ?_
    refine zDY (zAg rfl) ?_
    refine zDY (zDA rfl rfl) ?_
    refine zDY (zDA rfl rfl) ?_
    refine zDY (zDJ rfl) ?_
    refine zDY (zDJ rfl) ?_
    refine zAJ (zAZ (zDO (zDv (zDO ?_))))
    refine zDK ?_
    refine zDY (zAg rfl) ?_
    refine zDY (zDJ rfl) ?_
    refine zAJ (zAZ ?_)
    refine zAO (b:=x12.2) rfl (fun hc14=>?_) (fun hc14=>?_)
    ·have hr:=zD1 hc14 hr
     refine zDO ?_
     refine zDK ?_
     refine zDY (zAs (qs:=[]) (cs:=[.i 0,.i 0]) bt38 rfl rfl rfl) ?_
     refine zDY (zDJ rfl) ?_
     refine zAK (zDI (szX 38 rfl) rfl rfl rfl rfl rfl rfl rfl ?_)
     refine zDY (zDJ rfl) ?_
     obtain rfl:=Option.some.inj hr
     exact zAJ (zAZ (zAw (zAE (zAC (zAe (l':=[(6,.i 0),(7,.rp [.i 0,.i 0]),(8,.i 6)]) (Hs:=[(0,.tr E70 (some p0_0))]) (n:=1) (zAA hX [0] 4 rfl rfl ⟨⟨_,rfl,cv0⟩,⟨_,rfl,cv0⟩,⟨_,rfl,cv0⟩,trivial⟩ ⟨zAL,trivial⟩) rfl rfl rfl ⟨rfl,(.inr ⟨_,2,rfl,(tsX 38 rfl),rfl,rfl⟩),rfl,trivial⟩)))))
    ·have hr:=zD2 hc14 hr
     refine zDO ?_
     refine zAY (zAd (i:=0) [.osl 5,.i p0_0.2] [.sl 67 Y4 p0_0.1] rfl rfl rfl rfl) ?_
     obtain ⟨h15,hr⟩:=zAN hr
     refine zAa [0,6,7,8,10,13] [(true,.ptr 0 0),(true,.ptr 0 0),(true,.ptr 0 0),(true,.osl 5),(true,.i (List.length p0_0.1 : Int)),(true,.bool (decide (1000≤(List.length p0_0.1 : Int)))),(true,.bool (decide (1000≤(List.length p0_0.1 : Int)))),(!(decide (1000≤(List.length p0_0.1 : Int))),.ptr 0 0),(!(decide (1000≤(List.length p0_0.1 : Int))),.i ((g63 p0_0).getD default)),(!(decide (1000≤(List.length p0_0.1 : Int))),.bool (decide (2000≤((g63 p0_0).getD default)))),(true,.bool ((decide (1000≤(List.length p0_0.1 : Int)))||(decide (2000≤((g63 p0_0).getD default))))),(true,.bool ((decide (1000≤(List.length p0_0.1 : Int)))||(decide (2000≤((g63 p0_0).getD default)))))] [[],[0],[1],[2],[3],[4],[5],[6],[7,6],[8,6],[9,6],[10]] [11] rfl rfl rfl rfl rfl ⟨?_,?_,?_,?_,?_,?_,?_,?_,?_,?_,?_,?_,trivial⟩ (zAD ⟨rfl,trivial⟩) ?_
     ·exact zAr rfl (fun hg=>zAD trivial) (fun hg=>zAg rfl)
     ·exact zAr rfl (fun hg=>zAD ⟨rfl,trivial⟩) (fun hg=>zAm rfl)
     ·exact zAr rfl (fun hg=>zAD ⟨rfl,trivial⟩) (fun hg=>zAc (faX 70 0 rfl) rfl rfl)
     ·exact zAr rfl (fun hg=>zAD ⟨rfl,trivial⟩) (fun hg=>zAU (tsX 68 rfl) rfl rfl rfl)
     ·exact zAr rfl (fun hg=>zAD ⟨rfl,trivial⟩) (fun hg=>zC7 (t:=Y4) rfl rfl (undX 68 rfl) rfl rfl)
     ·exact zAr rfl (fun hg=>zAD ⟨rfl,trivial⟩) (fun hg=>av_geq rfl rfl)
     ·exact zAr rfl (fun hg=>zAD ⟨rfl,trivial⟩) (fun hg=>zAg rfl)
     ·exact zAr ⟨rfl,rfl,rfl,_,rfl,rfl⟩ (fun hg=>zAD ⟨rfl,trivial⟩) (fun hg=>zAg rfl)
     ·exact zAr ⟨rfl,rfl,rfl,_,rfl,rfl⟩ (fun hg=>zAD ⟨hg,rfl,trivial⟩) (fun hg=>zAj (as':=[.ptr 0 0]) (g63_runs (zAz h15 hg)).x ent63 rfl ⟨cv0,trivial⟩ rfl rfl)
     ·exact zAr ⟨rfl,rfl,rfl,_,rfl,rfl⟩ (fun hg=>zAD ⟨hg,rfl,trivial⟩) (fun hg=>av_geq rfl rfl)
     ·exact zBr
     ·exact zAr rfl (fun hg=>zAD ⟨rfl,trivial⟩) (fun hg=>zDJ rfl)
     refine zAZ ?_
     refine zAO (b:=(decide (1000≤(List.length p0_0.1 : Int)))||(decide (2000≤((g63 p0_0).getD default)))) rfl (fun hc16=>?_) (fun hc16=>?_)
     ·have hr:=zD1 hc16 hr
      refine zDO ?_
      refine zDK ?_
      refine zAG (zAA (st':=⟨[(0,.ptr 0 0),(6,.i 0),(7,.ptr 1 0),(8,.i 0),(10,.nilp),(13,.ptr 4 0)],[(0,.var 70 [.osl 5,.i p0_0.2]),(1,.var 38 [.i 0,.i 0]),(2,.dead),(3,.var 38 [.i x7.1.1,.i x7.1.2]),(4,.var 34 [.str x10.1,.str x10.2]),(5,.sl 67 Y4 p0_0.1)],6⟩) hX [0,1,2,3,4,5] 4 rfl rfl ⟨⟨_,rfl,cv0⟩,⟨_,rfl,cv0⟩,⟨_,rfl,cv0⟩,⟨_,rfl,cv0⟩,⟨_,rfl,cv0⟩,⟨_,rfl,cv0⟩,trivial⟩ ⟨zAL,zAL,zAL,zAL,zAL,zAL,trivial⟩) ?_
      refine zDY (zAs (qs:=[]) (cs:=[.i 0,.i 0]) bt38 rfl rfl rfl) ?_
      refine zDY (zDJ rfl) ?_
      refine zAK (zDI (szX 38 rfl) rfl rfl rfl rfl rfl rfl rfl ?_)
      refine zDY (zDJ rfl) ?_
      obtain rfl:=Option.some.inj hr
      exact zAJ (zAZ (zAw (zAE (zAC (zAe (l':=[(6,.i 0),(7,.rp [.i 0,.i 0]),(8,.i 4)]) (Hs:=[(0,.tr E70 (some p0_0))]) (n:=1) (Wk.trans (pk (i:=0) (e:=F70) (js:=[5]) p0_0) (zAA hX [0] 4 rfl rfl ⟨⟨_,rfl,cv0⟩,⟨_,rfl,cv0⟩,⟨_,rfl,cv0⟩,trivial⟩ ⟨zAL,trivial⟩)) rfl rfl rfl ⟨rfl,(.inr ⟨_,2,rfl,(tsX 38 rfl),rfl,rfl⟩),rfl,trivial⟩)))))
     ·have hr:=zD2 hc16 hr
      exact absurd hr (by simp)
  ·refine zAK (zAP (σ:=[0]) (as':=[.ptr 0 0,.i p1,.sl Y1 p2]) (zDp e6).x ent61 rfl ⟨cv0,cv0,cv0,trivial⟩ rfl rfl rfl ?_)
   refine zAG (zAA (st':=⟨[(0,.ptr 0 0),(1,.i p1),(2,.sl Y1 p2),(6,.i 0),(7,.ptr 1 0),(8,.i 0),(27,.ptr 0 0),(28,.i p1),(29,.sl Y1 p2),(30,.tup [.ep 3 2 x8 0,.agg [.i 0,.i 0],.i 0])],[(0,.var 70 [.osl 3,.i p0_0.2]),(1,.var 38 [.i 0,.i 0]),(2,.dead),(3,.sl 67 Y4 p0_0.1)],4⟩) hX [0,1,2,3] 4 rfl rfl ⟨⟨_,rfl,cv0⟩,⟨_,rfl,cv0⟩,⟨_,rfl,cv0⟩,⟨_,rfl,cv0⟩,⟨_,rfl,cv0⟩,⟨_,rfl,cv0⟩,⟨_,rfl,cv0⟩,⟨_,rfl,cv0⟩,⟨_,rfl,cv0⟩,⟨_,rfl,cv0⟩,trivial⟩ ⟨zAL,zAL,zAL,zAL,trivial⟩) ?_
   refine zDY (zAg rfl) ?_
   refine zDY (zDA rfl rfl) ?_
   refine zDY (zDA rfl rfl) ?_
   refine zDY (zDA rfl rfl) ?_
   refine zAK (zD (zDB 38 rfl) rfl ?_)
   refine zDY (zDJ rfl) ?_
   refine zAK (zDI (szX 38 rfl) rfl rfl rfl rfl rfl rfl rfl ?_)
   refine zDY (zDJ rfl) ?_
   refine zAJ (zAZ (zDO (zDO ?_)))
   refine zDK ?_
   refine zDY (zAg rfl) ?_
   refine zDY (zD0 rfl rfl) ?_
   refine zAJ (zAZ (zA3 rfl (zAv (zAZ (zDO ?_)))))
   refine zDK ?_
   refine zDY (zAg rfl) ?_
   refine zDY (zAg rfl) ?_
   refine zDY (zA0 (t:=Y1) rfl rfl (undX 23 rfl) rfl) ?_
   refine zDY (zDz rfl rfl) ?_
   obtain ⟨x17,e18,hr⟩:=zA hr
   refine zDY (zAQ (t:=Y1) (e:=x17) (undX 23 rfl) (szX 34 rfl) rfl rfl e18) ?_
   refine zDY (zDw (tsX 34 rfl) rfl rfl rfl) ?_
   refine zAK (zD (zDB 34 rfl) rfl ?_)
   refine zAK (zDI (szX 34 rfl) rfl rfl rfl rfl rfl rfl rfl ?_)
   refine zAJ (zAZ (zDO ?_))
   refine zDK ?_
   refine zDY (zAg rfl) ?_
   refine zDY (zDG (tsX 34 rfl) rfl rfl rfl rfl) ?_
   obtain ⟨x19,e20,hr⟩:=zA hr
   refine zAK (zAP (σ:=[3]) (as':=[.ep 3 2 x8 0,.agg [.str x17.1,.str x17.2]]) (g62o_runs e20).x ent62 rfl ⟨cv0,cv0,trivial⟩ rfl rfl rfl ?_)
   refine zDY (zAg rfl) ?_
   refine zDY (zDA rfl rfl) ?_
   refine zDY (zDA rfl rfl) ?_
   refine zDY (zDJ rfl) ?_
   refine zDY (zDJ rfl) ?_
   refine zAJ (zAZ (zDO (zDv (zDO ?_))))
   refine zDK ?_
   refine zDY (zAg rfl) ?_
   refine zDY (zDJ rfl) ?_
   refine zAJ (zAZ ?_)
   refine zAO (b:=x19.2) rfl (fun hc21=>?_) (fun hc21=>?_)
   ·have hr:=zD1 hc21 hr
    refine zDO ?_
    refine zDK ?_
    refine zDY (zAs (qs:=[]) (cs:=[.i 0,.i 0]) bt38 rfl rfl rfl) ?_
    refine zDY (zDJ rfl) ?_
    refine zAK (zDI (szX 38 rfl) rfl rfl rfl rfl rfl rfl rfl ?_)
    refine zDY (zDJ rfl) ?_
    obtain rfl:=Option.some.inj hr
    exact zAJ (zAZ (zAw (zAE (zAC (zAe (l':=[(6,.i 0),(7,.rp [.i 0,.i 0]),(8,.i 6)]) (Hs:=[(0,.tr E70 (some p0_0))]) (n:=1) (Wk.trans (pk (i:=0) (e:=F70) (js:=[3]) p0_0) (zAA hX [0] 4 rfl rfl ⟨⟨_,rfl,cv0⟩,⟨_,rfl,cv0⟩,⟨_,rfl,cv0⟩,trivial⟩ ⟨zAL,trivial⟩)) rfl rfl rfl ⟨rfl,(.inr ⟨_,2,rfl,(tsX 38 rfl),rfl,rfl⟩),rfl,trivial⟩)))))
   ·have hr:=zD2 hc21 hr
    refine zDO ?_
    obtain ⟨h22,hr⟩:=zAN hr
    refine zAa [0,6,7,8,10,13] [(true,.ptr 0 0),(true,.ptr 0 0),(true,.ptr 0 0),(true,.osl 3),(true,.i (List.length p0_0.1 : Int)),(true,.bool (decide (1000≤(List.length p0_0.1 : Int)))),(true,.bool (decide (1000≤(List.length p0_0.1 : Int)))),(!(decide (1000≤(List.length p0_0.1 : Int))),.ptr 0 0),(!(decide (1000≤(List.length p0_0.1 : Int))),.i ((g63 p0_0).getD default)),(!(decide (1000≤(List.length p0_0.1 : Int))),.bool (decide (2000≤((g63 p0_0).getD default)))),(true,.bool ((decide (1000≤(List.length p0_0.1 : Int)))||(decide (2000≤((g63 p0_0).getD default))))),(true,.bool ((decide (1000≤(List.length p0_0.1 : Int)))||(decide (2000≤((g63 p0_0).getD default)))))] [[],[0],[1],[2],[3],[4],[5],[6],[7,6],[8,6],[9,6],[10]] [11] rfl rfl rfl rfl rfl ⟨?_,?_,?_,?_,?_,?_,?_,?_,?_,?_,?_,?_,trivial⟩ (zAD ⟨rfl,trivial⟩) ?_
    ·exact zAr rfl (fun hg=>zAD trivial) (fun hg=>zAg rfl)
    ·exact zAr rfl (fun hg=>zAD ⟨rfl,trivial⟩) (fun hg=>zAm rfl)
    ·exact zAr rfl (fun hg=>zAD ⟨rfl,trivial⟩) (fun hg=>zAc (faX 70 0 rfl) rfl rfl)
    ·exact zAr rfl (fun hg=>zAD ⟨rfl,trivial⟩) (fun hg=>zAU (tsX 68 rfl) rfl rfl rfl)
    ·exact zAr rfl (fun hg=>zAD ⟨rfl,trivial⟩) (fun hg=>zC7 (t:=Y4) rfl rfl (undX 68 rfl) rfl rfl)
    ·exact zAr rfl (fun hg=>zAD ⟨rfl,trivial⟩) (fun hg=>av_geq rfl rfl)
    ·exact zAr rfl (fun hg=>zAD ⟨rfl,trivial⟩) (fun hg=>zAg rfl)
    ·exact zAr ⟨rfl,rfl,rfl,_,rfl,rfl⟩ (fun hg=>zAD ⟨rfl,trivial⟩) (fun hg=>zAg rfl)
    ·exact zAr ⟨rfl,rfl,rfl,_,rfl,rfl⟩ (fun hg=>zAD ⟨hg,rfl,trivial⟩) (fun hg=>zAj (as':=[.ptr 0 0]) (g63_runs (zAz h22 hg)).x ent63 rfl ⟨cv0,trivial⟩ rfl rfl)
    ·exact zAr ⟨rfl,rfl,rfl,_,rfl,rfl⟩ (fun hg=>zAD ⟨hg,rfl,trivial⟩) (fun hg=>av_geq rfl rfl)
    ·exact zBr
    ·exact zAr rfl (fun hg=>zAD ⟨rfl,trivial⟩) (fun hg=>zDJ rfl)
    refine zAZ ?_
    refine zAO (b:=(decide (1000≤(List.length p0_0.1 : Int)))||(decide (2000≤((g63 p0_0).getD default)))) rfl (fun hc23=>?_) (fun hc23=>?_)
    ·have hr:=zD1 hc23 hr
     refine zDO ?_
     refine zDK ?_
     refine zAG (zAA (st':=⟨[(0,.ptr 0 0),(6,.i 0),(7,.ptr 1 0),(8,.i 0),(10,.ep 3 2 x8 0),(13,.ptr 5 0)],[(0,.var 70 [.osl 3,.i p0_0.2]),(1,.var 38 [.i 0,.i 0]),(2,.dead),(3,.sl 67 Y4 p0_0.1),(4,.var 38 [.i 0,.i 0]),(5,.var 34 [.str x17.1,.str x17.2])],6⟩) hX [0,1,2,3,4,5] 4 rfl rfl ⟨⟨_,rfl,cv0⟩,⟨_,rfl,cv0⟩,⟨_,rfl,cv0⟩,⟨_,rfl,cv0⟩,⟨_,rfl,cv0⟩,⟨_,rfl,cv0⟩,trivial⟩ ⟨zAL,zAL,zAL,zAL,zAL,zAL,trivial⟩) ?_
     refine zDY (zAs (qs:=[]) (cs:=[.i 0,.i 0]) bt38 rfl rfl rfl) ?_
     refine zDY (zDJ rfl) ?_
     refine zAK (zDI (szX 38 rfl) rfl rfl rfl rfl rfl rfl rfl ?_)
     refine zDY (zDJ rfl) ?_
     obtain rfl:=Option.some.inj hr
     exact zAJ (zAZ (zAw (zAE (zAC (zAe (l':=[(6,.i 0),(7,.rp [.i 0,.i 0]),(8,.i 4)]) (Hs:=[(0,.tr E70 (some p0_0))]) (n:=1) (Wk.trans (pk (i:=0) (e:=F70) (js:=[3]) p0_0) (zAA hX [0] 4 rfl rfl ⟨⟨_,rfl,cv0⟩,⟨_,rfl,cv0⟩,⟨_,rfl,cv0⟩,trivial⟩ ⟨zAL,trivial⟩)) rfl rfl rfl ⟨rfl,(.inr ⟨_,2,rfl,(tsX 38 rfl),rfl,rfl⟩),rfl,trivial⟩)))))
    ·have hr:=zD2 hc23 hr
     refine zAv (zAS (zAZ (zDO ?_)))
     refine zB0 7 [7,6,3,4,5,6,7] mixed [0,6,7,8,10,13] [(true,.ep 3 2 x8 0),(true,.agg [.str x17.1,.str x17.2]),(true,.ptr 0 0),(true,.ptr 0 0),(true,.ptr 0 1),(true,.i p0_0.2),(true,.agg [.str x17.1,.str x17.2,.str ([] : Str),.i p0_0.2,.bool true])] [[],[],[],[2],[3],[4],[1,5]] [0,6] rfl rfl rfl rfl rfl rfl rfl rfl ⟨?_,?_,?_,?_,?_,?_,?_,trivial⟩ (zAD ⟨rfl,rfl,trivial⟩) ?_
     ·exact zAr rfl (fun hg=>zAD trivial) (fun hg=>zAg rfl)
     ·exact zAr rfl (fun hg=>zAD trivial) (fun hg=>zDG (tsX 34 rfl) rfl rfl rfl rfl)
     ·exact zAr rfl (fun hg=>zAD trivial) (fun hg=>zAg rfl)
     ·exact zAr rfl (fun hg=>zAD ⟨rfl,trivial⟩) (fun hg=>zAm rfl)
     ·exact zAr rfl (fun hg=>zAD ⟨rfl,trivial⟩) (fun hg=>zAc (faX 70 1 rfl) rfl rfl)
     ·exact zAr rfl (fun hg=>zAD ⟨rfl,trivial⟩) (fun hg=>zAU (tsX 3 rfl) rfl rfl rfl)
     ·exact zAr rfl (fun hg=>zAD ⟨rfl,rfl,trivial⟩) (fun hg=>zAs (qs:=[(0,[.str x17.1,.str x17.2]),(2,[.i p0_0.2]),(3,[.bool true])]) (cs:=[.str x17.1,.str x17.2,.str ([] : Str),.i p0_0.2,.bool true]) bt36 rfl rfl rfl)
     obtain ⟨x24,e25,hr⟩:=zA hr
     refine zAK (zAP (σ:=[3]) (as':=[.ep 3 2 x8 0,.agg [.str x17.1,.str x17.2,.str ([] : Str),.i p0_0.2,.bool true]]) (g64_runs e25).x ent64 rfl ⟨cv0,cv0,trivial⟩ rfl rfl rfl ?_)
     refine zAJ (zAZ (zDO ?_))
     refine zDK ?_
     refine zAG (zAA (st':=⟨[(0,.ptr 0 0),(6,.i 0),(7,.ptr 1 0),(8,.i 0)],[(0,.var 70 [.osl 3,.i p0_0.2]),(1,.var 38 [.i 0,.i 0]),(2,.dead),(3,.sl 67 Y4 x24),(4,.var 38 [.i 0,.i 0]),(5,.var 34 [.str x17.1,.str x17.2])],6⟩) hX [0,1,2,3,4,5] 4 rfl rfl ⟨⟨_,rfl,cv0⟩,⟨_,rfl,cv0⟩,⟨_,rfl,cv0⟩,⟨_,rfl,cv0⟩,trivial⟩ ⟨zAL,zAL,zAL,zAL,zAL,zAL,trivial⟩) ?_
     refine zDY (zAg rfl) ?_
     refine zAG (pk (i:=0) (e:=F70) (js:=[3]) (x24,p0_0.2)) ?_
     obtain ⟨x26,e27,hr⟩:=zA hr
     refine zAK (zAP (σ:=[0]) (as':=[.ptr 0 0]) (g25_runs e27).x ent25 rfl ⟨cv0,trivial⟩ rfl rfl rfl ?_)
     refine zAG (zAA (st':=⟨[(0,.ptr 0 0),(6,.i 0),(7,.ptr 1 0),(8,.i 0),(75,.ptr 0 0),(76,.tup [.i x26.1,.i x26.2.1])],[(0,.tr E70 (some x26.2.2)),(1,.var 38 [.i 0,.i 0]),(2,.dead),(3,.dead),(4,.var 38 [.i 0,.i 0]),(5,.var 34 [.str x17.1,.str x17.2])],6⟩) hX [0,1,2,3,4,5] 4 rfl rfl ⟨⟨_,rfl,cv0⟩,⟨_,rfl,cv0⟩,⟨_,rfl,cv0⟩,⟨_,rfl,cv0⟩,⟨_,rfl,cv0⟩,⟨_,rfl,cv0⟩,trivial⟩ ⟨zAL,zAL,zAL,zAL,zAL,zAL,trivial⟩) ?_
     refine zDY (zAg rfl) ?_
     refine zDY (zDA rfl rfl) ?_
     refine zDY (zDA rfl rfl) ?_
     refine zDY (zDJ rfl) ?_
     refine zDY (zDJ rfl) ?_
     refine zAJ (zAZ (zDO ?_))
     refine zDK ?_
     refine zDY (zAg rfl) ?_
     refine zDY (zAs (qs:=[]) (cs:=[.i 0,.i 0]) bt38 rfl rfl rfl) ?_
     refine zDY (zDJ rfl) ?_
     refine zAK (zDI (szX 38 rfl) rfl rfl rfl rfl rfl rfl rfl ?_)
     refine zDY (zDJ rfl) ?_
     obtain rfl:=Option.some.inj hr
     exact zAJ (zAZ (zAw (zAe (l':=[(6,.i x26.1),(7,.rp [.i 0,.i 0]),(8,.i 0)]) (Hs:=[(0,.tr E70 (some x26.2.2))]) (n:=1) (zAA hX [0] 4 rfl rfl ⟨⟨_,rfl,cv0⟩,⟨_,rfl,cv0⟩,⟨_,rfl,cv0⟩,trivial⟩ ⟨zAL,trivial⟩) rfl rfl rfl ⟨rfl,(.inr ⟨_,2,rfl,(tsX 38 rfl),rfl,rfl⟩),rfl,trivial⟩)))
theorem g30_runs {p0_0:ZQ}{p1:Int}{p2:ZN}{r:(Int×Int)×Int×(ZQ)}(hr:g30 p0_0 p1 p2=some r) : Runs Tryz.prog 30 [.ptr 0 0,.i p1,.sl Y1 p2] [.tr E70 (some p0_0)] (fun q Hq=>q=[.agg [.i r.1.1,.i r.1.2],.i r.2.1]∧Hq=[.tr E70 (some r.2.2)]):=by
 refine zAW Tryz.func30 Tryz.ntmps30 rfl (rs:=[.cell 6 38,.tmp 7]) rfl rfl fun w0 X hX=>?_
 refine zDO ?_
 refine zDK ?_
 refine zAG (zAA (st':=⟨[(0,.ptr 0 0),(1,.i p1),(2,.sl Y1 p2)],[(0,.tr E70 (some p0_0))],1⟩) hX [0] 4 rfl rfl ⟨⟨_,rfl,cv0⟩,⟨_,rfl,cv0⟩,⟨_,rfl,cv0⟩,trivial⟩ ⟨zAL,trivial⟩) ?_
 refine zAK (zD (zDB 38 rfl) rfl ?_)
 refine zDY (zDJ rfl) ?_
 refine zAJ (zAZ (zDO (zDO ?_)))
 refine zDK ?_
 refine zDY (zAg rfl) ?_
 refine zDY (zAg rfl) ?_
 refine zDY (zAg rfl) ?_
 refine zAG (zAd (i:=0) [.osl 2,.i p0_0.2] [.sl 67 Y4 p0_0.1] rfl rfl rfl rfl) ?_
 obtain ⟨x2,e3,hr⟩:=zA hr
 refine zDY (zAj (as':=[.ptr 0 0,.i p1,.sl Y1 p2]) (g65_runs e3).x ent65 rfl ⟨cv0,cv0,cv0,trivial⟩ rfl rfl) ?_
 refine zDY (zDJ rfl) ?_
 refine zAJ (zAZ (zDO ?_))
 refine zDK ?_
 refine zDY (zAg rfl) ?_
 refine zDY (zD0 rfl rfl) ?_
 refine zAJ (zAZ ?_)
 refine zAO (b:=!decide (x2=0)) rfl (fun hc4=>?_) (fun hc4=>?_)
 ·have hr:=zD1 hc4 hr
  refine zDO ?_
  refine zDK ?_
  refine zDY (zAs (qs:=[]) (cs:=[.i 0,.i 0]) bt38 rfl rfl rfl) ?_
  refine zDY (zAg rfl) ?_
  refine zAK (zDI (szX 38 rfl) rfl rfl rfl rfl rfl rfl rfl ?_)
  refine zDY (zDJ rfl) ?_
  obtain rfl:=Option.some.inj hr
  exact zAJ (zAZ (zAw (zAC (zAe (l':=[(6,.rp [.i 0,.i 0]),(7,.i x2)]) (Hs:=[(0,.tr E70 (some p0_0))]) (n:=1) (Wk.trans (pk (i:=0) (e:=F70) (js:=[2]) p0_0) (zAA hX [0] 4 rfl rfl ⟨⟨_,rfl,cv0⟩,⟨_,rfl,cv0⟩,trivial⟩ ⟨zAL,trivial⟩)) rfl rfl rfl ⟨(.inr ⟨_,2,rfl,(tsX 38 rfl),rfl,rfl⟩),rfl,trivial⟩))))
 ·have hr:=zD2 hc4 hr
  refine zAv (zAZ (zDO ?_))
  refine zDK ?_
  refine zAG (zAA (st':=⟨[(0,.ptr 0 0),(1,.i p1),(2,.sl Y1 p2),(6,.ptr 1 0),(7,.i 0)],[(0,.var 70 [.osl 2,.i p0_0.2]),(1,.var 38 [.i 0,.i 0]),(2,.sl 67 Y4 p0_0.1)],3⟩) hX [0,1,2] 4 rfl rfl ⟨⟨_,rfl,cv0⟩,⟨_,rfl,cv0⟩,⟨_,rfl,cv0⟩,⟨_,rfl,cv0⟩,⟨_,rfl,cv0⟩,trivial⟩ ⟨zAL,zAL,zAL,trivial⟩) ?_
  refine zDY (zAg rfl) ?_
  refine zDY (zAg rfl) ?_
  refine zDY (zAg rfl) ?_
  refine zAG (pk (i:=0) (e:=F70) (js:=[2]) p0_0) ?_
  obtain ⟨o5,e6,hr⟩:=zA hr
  rcases o5 with x7 | x8
  ·refine zAK (zAP (σ:=[0]) (as':=[.ptr 0 0,.i p1,.sl Y1 p2]) (zDp e6).x ent61 rfl ⟨cv0,cv0,cv0,trivial⟩ rfl rfl rfl ?_)
   refine zAG (zAA (st':=⟨[(0,.ptr 0 0),(1,.i p1),(2,.sl Y1 p2),(6,.ptr 1 0),(7,.i 0),(24,.ptr 0 0),(25,.i p1),(26,.sl Y1 p2),(27,.tup [.nilp,.agg [.i x7.1.1,.i x7.1.2],.i x7.2])],[(0,.tr E70 (some p0_0)),(1,.var 38 [.i 0,.i 0]),(2,.dead)],3⟩) hX [0,1,2] 4 rfl rfl ⟨⟨_,rfl,cv0⟩,⟨_,rfl,cv0⟩,⟨_,rfl,cv0⟩,⟨_,rfl,cv0⟩,⟨_,rfl,cv0⟩,⟨_,rfl,cv0⟩,⟨_,rfl,cv0⟩,⟨_,rfl,cv0⟩,⟨_,rfl,cv0⟩,trivial⟩ ⟨zAL,zAL,zAL,trivial⟩) ?_
   refine zDY (zAg rfl) ?_
   refine zDY (zDA rfl rfl) ?_
   refine zDY (zDA rfl rfl) ?_
   refine zDY (zDA rfl rfl) ?_
   refine zAK (zD (zDB 38 rfl) rfl ?_)
   refine zDY (zDJ rfl) ?_
   refine zAK (zDI (szX 38 rfl) rfl rfl rfl rfl rfl rfl rfl ?_)
   refine zDY (zDJ rfl) ?_
   refine zAJ (zAZ (zDO (zDO ?_)))
   refine zDK ?_
   refine zDY (zAg rfl) ?_
   refine zDY (zD0 rfl rfl) ?_
   refine zAJ (zAZ ?_)
   refine zAO (b:=!decide (x7.2=0)) rfl (fun hc9=>?_) (fun hc9=>?_)
   ·have hr:=zD1 hc9 hr
    refine zDO ?_
    refine zDK ?_
    refine zDY (zDG (tsX 38 rfl) rfl rfl rfl rfl) ?_
    refine zDY (zAg rfl) ?_
    refine zAK (zDI (szX 38 rfl) rfl rfl rfl rfl rfl rfl rfl ?_)
    refine zDY (zDJ rfl) ?_
    obtain rfl:=Option.some.inj hr
    exact zAJ (zAZ (zAw (zAC (zAe (l':=[(6,.rp [.i x7.1.1,.i x7.1.2]),(7,.i x7.2)]) (Hs:=[(0,.tr E70 (some p0_0))]) (n:=1) (zAA hX [0] 4 rfl rfl ⟨⟨_,rfl,cv0⟩,⟨_,rfl,cv0⟩,trivial⟩ ⟨zAL,trivial⟩) rfl rfl rfl ⟨(.inr ⟨_,2,rfl,(tsX 38 rfl),rfl,rfl⟩),rfl,trivial⟩))))
   ·have hr:=zD2 hc9 hr
    refine zAv (zAZ (zDO ?_))
    refine zDK ?_
    refine zDY (zAg rfl) ?_
    refine zDY (zAg rfl) ?_
    refine zDY (zAg rfl) ?_
    refine zDY (zA0 (t:=Y1) rfl rfl (undX 23 rfl) rfl) ?_
    refine zDY (zDz rfl rfl) ?_
    obtain ⟨x10,e11,hr⟩:=zA hr
    refine zDY (zAQ (t:=Y1) (e:=x10) (undX 23 rfl) (szX 34 rfl) rfl rfl e11) ?_
    refine zDY (zDw (tsX 34 rfl) rfl rfl rfl) ?_
    obtain ⟨x12,e13,hr⟩:=zA hr
    refine zDY (av_callN (as':=[.nilp,.agg [.str x10.1,.str x10.2]]) (g62_runs e13).x ent62 rfl ⟨cv4,cv0,trivial⟩ rfl) ?_
    refine zDY (zAg rfl) ?_
    refine zDY (zDA rfl rfl) ?_
    refine zDY (zDA rfl rfl) ?_
    refine zDY (zDJ rfl) ?_
    refine zDY (zDJ rfl) ?_
    refine zAJ (zAZ (zDO (zDO ?_)))
    refine zDK ?_
    refine zDY (zAg rfl) ?_
    refine zDY (zDx rfl) ?_
    refine zAJ (zAZ ?_)
    refine zAO (b:=!x12.2) rfl (fun hc14=>?_) (fun hc14=>?_)
    ·have hr:=zD1 hc14 hr
     refine zDO ?_
     refine zDK ?_
     refine zDY (zAg rfl) ?_
     refine zDY (zA0 (t:=Y1) rfl rfl (undX 23 rfl) rfl) ?_
     refine zDY (zDz rfl rfl) ?_
     refine zDY (zAs (qs:=[(0,[.i (w64 ((List.length p2 : Int) - 1))]),(1,[.i 1])]) (cs:=[.i (w64 ((List.length p2 : Int) - 1)),.i 1]) bt38 rfl rfl rfl) ?_
     refine zAK (zDI (szX 38 rfl) rfl rfl rfl rfl rfl rfl rfl ?_)
     refine zDY (zDJ rfl) ?_
     obtain rfl:=Option.some.inj hr
     exact zAJ (zAZ (zAw (zAC (zAe (l':=[(6,.rp [.i (w64 ((List.length p2 : Int) - 1)),.i 1]),(7,.i 8)]) (Hs:=[(0,.tr E70 (some p0_0))]) (n:=1) (zAA hX [0] 4 rfl rfl ⟨⟨_,rfl,cv0⟩,⟨_,rfl,cv0⟩,trivial⟩ ⟨zAL,trivial⟩) rfl rfl rfl ⟨(.inr ⟨_,2,rfl,(tsX 38 rfl),rfl,rfl⟩),rfl,trivial⟩))))
    ·have hr:=zD2 hc14 hr
     refine zAv (zAZ (zDO ?_))
     refine zDK ?_
     refine zDY (zDJ rfl) ?_
     exact absurd hr (by simp)
  ·refine zAK (zAP (σ:=[0]) (as':=[.ptr 0 0,.i p1,.sl Y1 p2]) (zDp e6).x ent61 rfl ⟨cv0,cv0,cv0,trivial⟩ rfl rfl rfl ?_)
   refine zAG (zAA (st':=⟨[(0,.ptr 0 0),(1,.i p1),(2,.sl Y1 p2),(6,.ptr 1 0),(7,.i 0),(24,.ptr 0 0),(25,.i p1),(26,.sl Y1 p2),(27,.tup [.ep 3 2 x8 0,.agg [.i 0,.i 0],.i 0])],[(0,.var 70 [.osl 3,.i p0_0.2]),(1,.var 38 [.i 0,.i 0]),(2,.dead),(3,.sl 67 Y4 p0_0.1)],4⟩) hX [0,1,2,3] 4 rfl rfl ⟨⟨_,rfl,cv0⟩,⟨_,rfl,cv0⟩,⟨_,rfl,cv0⟩,⟨_,rfl,cv0⟩,⟨_,rfl,cv0⟩,⟨_,rfl,cv0⟩,⟨_,rfl,cv0⟩,⟨_,rfl,cv0⟩,⟨_,rfl,cv0⟩,trivial⟩ ⟨zAL,zAL,zAL,zAL,trivial⟩) ?_
   refine zDY (zAg rfl) ?_
   refine zDY (zDA rfl rfl) ?_
   refine zDY (zDA rfl rfl) ?_
   refine zDY (zDA rfl rfl) ?_
   refine zAK (zD (zDB 38 rfl) rfl ?_)
   refine zDY (zDJ rfl) ?_
   refine zAK (zDI (szX 38 rfl) rfl rfl rfl rfl rfl rfl rfl ?_)
   refine zDY (zDJ rfl) ?_
   refine zAJ (zAZ (zDO (zDO ?_)))
   refine zDK ?_
   refine zDY (zAg rfl) ?_
   refine zDY (zD0 rfl rfl) ?_
   refine zAJ (zAZ (zA3 rfl (zAv (zAZ (zDO ?_)))))
   refine zDK ?_
   refine zDY (zAg rfl) ?_
   refine zDY (zAg rfl) ?_
   refine zDY (zAg rfl) ?_
   refine zDY (zA0 (t:=Y1) rfl rfl (undX 23 rfl) rfl) ?_
   refine zDY (zDz rfl rfl) ?_
   obtain ⟨x15,e16,hr⟩:=zA hr
   refine zDY (zAQ (t:=Y1) (e:=x15) (undX 23 rfl) (szX 34 rfl) rfl rfl e16) ?_
   refine zDY (zDw (tsX 34 rfl) rfl rfl rfl) ?_
   obtain ⟨x17,e18,hr⟩:=zA hr
   refine zAK (zAP (σ:=[3]) (as':=[.ep 3 2 x8 0,.agg [.str x15.1,.str x15.2]]) (g62o_runs e18).x ent62 rfl ⟨cv0,cv0,trivial⟩ rfl rfl rfl ?_)
   refine zDY (zAg rfl) ?_
   refine zDY (zDA rfl rfl) ?_
   refine zDY (zDA rfl rfl) ?_
   refine zDY (zDJ rfl) ?_
   refine zDY (zDJ rfl) ?_
   refine zAJ (zAZ (zDO (zDO ?_)))
   refine zDK ?_
   refine zDY (zAg rfl) ?_
   refine zDY (zDx rfl) ?_
   refine zAJ (zAZ ?_)
   refine zAO (b:=!x17.2) rfl (fun hc19=>?_) (fun hc19=>?_)
   ·have hr:=zD1 hc19 hr
    refine zDO ?_
    refine zDK ?_
    refine zDY (zAg rfl) ?_
    refine zDY (zA0 (t:=Y1) rfl rfl (undX 23 rfl) rfl) ?_
    refine zDY (zDz rfl rfl) ?_
    refine zDY (zAs (qs:=[(0,[.i (w64 ((List.length p2 : Int) - 1))]),(1,[.i 1])]) (cs:=[.i (w64 ((List.length p2 : Int) - 1)),.i 1]) bt38 rfl rfl rfl) ?_
    refine zAK (zDI (szX 38 rfl) rfl rfl rfl rfl rfl rfl rfl ?_)
    refine zDY (zDJ rfl) ?_
    obtain rfl:=Option.some.inj hr
    exact zAJ (zAZ (zAw (zAC (zAe (l':=[(6,.rp [.i (w64 ((List.length p2 : Int) - 1)),.i 1]),(7,.i 8)]) (Hs:=[(0,.tr E70 (some p0_0))]) (n:=1) (Wk.trans (pk (i:=0) (e:=F70) (js:=[3]) p0_0) (zAA hX [0] 4 rfl rfl ⟨⟨_,rfl,cv0⟩,⟨_,rfl,cv0⟩,trivial⟩ ⟨zAL,trivial⟩)) rfl rfl rfl ⟨(.inr ⟨_,2,rfl,(tsX 38 rfl),rfl,rfl⟩),rfl,trivial⟩))))
   ·have hr:=zD2 hc19 hr
    refine zAv (zAZ (zDO ?_))
    refine zDK ?_
    refine zAG (zAA (st':=⟨[(6,.ptr 1 0),(7,.i 0),(9,.ep 3 2 x8 0),(12,.i x17.1)],[(0,.var 70 [.osl 3,.i p0_0.2]),(1,.var 38 [.i 0,.i 0]),(2,.dead),(3,.sl 67 Y4 p0_0.1),(4,.var 38 [.i 0,.i 0])],5⟩) hX [0,1,2,3,4] 4 rfl rfl ⟨⟨_,rfl,cv0⟩,⟨_,rfl,cv0⟩,⟨_,rfl,cv0⟩,⟨_,rfl,cv0⟩,trivial⟩ ⟨zAL,zAL,zAL,zAL,zAL,trivial⟩) ?_
    refine zDY (zDJ rfl) ?_
    refine zAJ (zAZ (zDO ?_))
    refine zDK ?_
    refine zDY (zAg rfl) ?_
    refine zDY (zAg rfl) ?_
    refine zDY (zDF rfl) ?_
    refine zDY (zDN (faX 67 1 rfl) rfl rfl) ?_
    obtain ⟨x20,e21,hr⟩:=zA hr
    refine zDY (zAu (tsX 65 rfl) rfl rfl rfl (zCM e21) rfl) ?_
    refine zDY (zAg rfl) ?_
    obtain ⟨h22,hr⟩:=zAN hr
    refine zDY (zDD (t:=Y3) (l:=0) (h:=x17.1) (undX 65 rfl) (szX 36 rfl) rfl rfl ⟨_,rfl⟩ h22) ?_
    obtain ⟨h23,hr⟩:=zAN hr
    refine zAK (zDM rfl rfl app65 rfl rfl h23 rfl ?_)
    refine zDY (zDJ rfl) ?_
    refine zAJ (zAZ (zDO ?_))
    refine zDK ?_
    refine zDY (zAg rfl) ?_
    refine zDY (zAg rfl) ?_
    refine zDY (zAg rfl) ?_
    refine zDY (zDF rfl) ?_
    refine zDY (zDN (faX 67 1 rfl) rfl rfl) ?_
    refine zDY (zAu (tsX 65 rfl) rfl rfl rfl (zCM e21) rfl) ?_
    refine zDY (zAg rfl) ?_
    refine zDY (zD3 rfl rfl) ?_
    obtain ⟨h24,hr⟩:=zAN hr
    refine zDY (zDD (t:=Y3) (l:=(w64 (x17.1+1))) (h:=(List.length x20.2 : Int)) (undX 65 rfl) (szX 36 rfl) rfl ⟨_,rfl⟩ rfl h24) ?_
    obtain ⟨h25,hr⟩:=zAN hr
    refine zAK (zAh rfl rfl app65 rfl rfl rfl h25 rfl ?_)
    refine zDY (zDF rfl) ?_
    refine zDY (zDN (faX 67 1 rfl) rfl rfl) ?_
    refine zAG (wk_frz [69] 6 rfl rfl rfl) ?_
    refine zAK (zDj (e':=(x20.1,(((x20.2.take (Int.toNat x17.1)).drop (Int.toNat 0))++((x20.2.take (Int.toNat (List.length x20.2 : Int))).drop (Int.toNat (w64 (x17.1+1))))))) (szX 65 rfl) rfl rfl rfl rfl (zCM e21) rfl rfl rfl rfl rfl ?_)
    refine zAJ (zAZ (zDO ?_))
    refine zDK ?_
    refine zDY (zAs (qs:=[]) (cs:=[.i 0,.i 0]) bt38 rfl rfl rfl) ?_
    refine zAK (zDI (szX 38 rfl) rfl rfl rfl rfl rfl rfl rfl ?_)
    refine zDY (zDJ rfl) ?_
    obtain rfl:=Option.some.inj hr
    exact zAJ (zAZ (zAw (zAe (l':=[(6,.rp [.i 0,.i 0]),(7,.i 0)]) (Hs:=[(0,.tr E70 (some ((p0_0.1.set x8 (x20.1,(((x20.2.take (Int.toNat x17.1)).drop (Int.toNat 0))++((x20.2.take (Int.toNat (List.length x20.2 : Int))).drop (Int.toNat (w64 (x17.1+1))))))),p0_0.2)))]) (n:=1) (Wk.trans (pk (i:=0) (e:=F70) (js:=[3]) ((p0_0.1.set x8 (x20.1,(((x20.2.take (Int.toNat x17.1)).drop (Int.toNat 0))++((x20.2.take (Int.toNat (List.length x20.2 : Int))).drop (Int.toNat (w64 (x17.1+1))))))),p0_0.2)) (zAA hX [0] 4 rfl rfl ⟨⟨_,rfl,cv0⟩,⟨_,rfl,cv0⟩,trivial⟩ ⟨zAL,trivial⟩)) rfl rfl rfl ⟨(.inr ⟨_,2,rfl,(tsX 38 rfl),rfl,rfl⟩),rfl,trivial⟩)))
theorem g41_runs {p0:ZP}{p1:List Int}{r:Int}(hr:g41 p0 p1=some r) : zBb Tryz.prog 41 [.rp [.dm .i (.map Y1 (.raw ifN)) p0.1,.i p0.2.1,.i p0.2.2],.sl .i p1] [.i r]:=by
 refine zAW Tryz.func41 Tryz.ntmps41 rfl (rs:=[.tmp 4]) rfl rfl fun w0 X hX=>?_
 refine zDO ?_
 refine zDK ?_
 refine zDY (zDJ rfl) ?_
 refine zAJ (zAZ (zDO (zDO ?_)))
 refine zDK ?_
 refine zDY (zAg rfl) ?_
 refine zDY (zCj (undX 28 rfl) rfl rfl) ?_
 refine zAJ (zAZ (zA3 rfl (zAv (zAZ (zDO (zDO ?_))))))
 refine zDK ?_
 refine zDY (zAg rfl) ?_
 refine zDY (zA0 (t:=.i) rfl rfl (undX 47 rfl) rfl) ?_
 refine zDY (zAg rfl) ?_
 refine zAJ (zAZ (zDv ?_))
 obtain ⟨o3,e4,hr⟩:=zA hr
 refine zAb (t:=1) rfl (fun hl=>?_)
 refine zAI (List.length p1 : Int) (g41_b0 p0 p1) (fun p=>match p with | (i1,())=>(⟨[(0,.rp [.dm .i (.map Y1 (.raw ifN)) p0.1,.i p0.2.1,.i p0.2.2]),(4,.i 0),(11,.sl .i p1),(12,.i (List.length p1 : Int)),(13,.i i1)],[],0⟩ : AS)) (fun o e st=>match o with | .inl ()=>e=.exit 0∧Wk X st ⟨[(4,.i 0)],[],0⟩ | .inr ()=>e=.ret∧Wk X st ⟨[(4,.i 7)],[],0⟩) (zAf hl) e4 (by exact zAA hX [] 4 rfl rfl wS trivial) ?_ ?_
 ·intro e st hx
  rcases o3 with _ | _
  ·obtain ⟨rfl,hw⟩:=hx
   refine zAl (zAZ ((zAY hw) (zDO ?_)))
   refine zDK ?_
   refine zDY (zDJ rfl) ?_
   obtain rfl:=Option.some.inj hr
   exact zAJ (zAZ (zAw (zAk (l':=[(4,.i 0)]) (zAA hX [] 4 rfl rfl ⟨⟨_,rfl,cv0⟩,trivial⟩ trivial) rfl ⟨rfl,trivial⟩)))
  ·obtain ⟨rfl,hw⟩:=hx
   obtain rfl:=Option.some.inj hr
   exact zAE (zAC (zAk (l':=[(4,.i 7)]) (Wk.trans hw (zAA hX [] 4 rfl rfl ⟨⟨_,rfl,cv0⟩,trivial⟩ trivial)) rfl ⟨rfl,trivial⟩))
 ·rintro i1 _ o ho
  refine zDO ?_
  refine zDK ?_
  refine zDY (av_lss rfl rfl) ?_
  refine zAJ (zAZ (zDO ?_))
  refine zAO (b:=decide (i1 < (List.length p1 : Int))) rfl (fun hc5=>?_) (fun hc5=>?_)
  ·obtain ⟨q,hr,rfl⟩:=zA7 hc5 ho
   refine zAv (zAZ (zDO (zDv (zDO ?_))))
   refine zDK ?_
   obtain ⟨x6,e7,hr⟩:=zA hr
   refine zDY (zAQ (t:=.i) (e:=x6) (undX 47 rfl) (szX 3 rfl) rfl rfl e7) ?_
   refine zDY (zDC (tsX 3 rfl) rfl) ?_
   refine zDY (zDJ rfl) ?_
   refine zAJ (zAZ (zDO ?_))
   refine zDK ?_
   refine zDY (zAg rfl) ?_
   refine zDY (zDy rfl) ?_
   refine zDY (zDE (faX 64 0 rfl) rfl rfl) ?_
   refine zDY (zDC (tsX 62 rfl) rfl) ?_
   refine zDY (zAg rfl) ?_
   refine zDY (zDS (kx:=x6) (r:=.tup [.dm Y1 (.raw ifN) ((mget p0.1 x6).getD []),.bool ((mget p0.1 x6).isSome)]) (undX 62 rfl) kt3 zw61 rfl rfl rfl rfl) ?_
   refine zDY (zAg rfl) ?_
   refine zDY (zDA rfl rfl) ?_
   refine zDY (zDA rfl rfl) ?_
   refine zDY (zDJ rfl) ?_
   refine zDY (zDJ rfl) ?_
   refine zAJ (zAZ (zDO ?_))
   refine zDK ?_
   refine zDY (zAg rfl) ?_
   refine zDY (zDx rfl) ?_
   refine zAJ (zAZ ?_)
   refine zAO (b:=!((mget p0.1 x6).isSome)) rfl (fun hc8=>?_) (fun hc8=>?_)
   ·have hr:=zD1 hc8 hr
    refine zDO ?_
    refine zDK ?_
    refine zDY (zDJ rfl) ?_
    obtain rfl:=Option.some.inj hr
    exact zAJ (zAZ (zAw (zAE (zAC (⟨rfl,(zAA hX [] 4 rfl rfl ⟨⟨_,rfl,cv0⟩,trivial⟩ trivial)⟩)))))
   ·have hr:=zD2 hc8 hr
    refine zAv (zAS (zAZ ?_))
    refine zDK ?_
    refine zDY (zD3 rfl rfl) ?_
    refine zDY (zAg rfl) ?_
    obtain rfl:=Option.some.inj hr
    exact zAJ ((zAA hX [] 4 rfl rfl ⟨⟨_,rfl,cv0⟩,⟨_,rfl,cv0⟩,⟨_,rfl,cv0⟩,⟨_,rfl,cv0⟩,⟨_,rfl,cv0⟩,trivial⟩ trivial))
  ·obtain rfl:=zA8 hc5 ho
   exact zAH (zAF (⟨rfl,(zAA hX [] 4 rfl rfl ⟨⟨_,rfl,cv0⟩,trivial⟩ trivial)⟩))
end Go.Ab
