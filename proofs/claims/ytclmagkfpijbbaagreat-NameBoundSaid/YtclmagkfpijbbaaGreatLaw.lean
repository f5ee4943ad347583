/- The law NameBound returns true for every input and leaves its arguments as they were. -/
import Derived.Test.YtclmagkfpijbbaaGreatRows
import Derived.WalkKit
import Derived.ProofKit
import Derived.OpenShut
import Derived.ShutString
import Derived.ChangeOld
import Derived.Below
import Derived.SizedLaws
import Derived.Test.YtclmagkfpijbbaaGreatX2
import Derived.Test.YtclmagkfpijbbaaGreatX5
set_option linter.unusedVariables false
namespace Go.Proofs.YtclmagkfpijbbaaGreat
namespace nameBound
open Go.ChangeShapes Go.WideShapes Go.ChangeAt Go.RowKit Go.Eng Go.Ab
open Go.ChangeMaps (open_string shut_string)
theorem to3 : TyOf Tryz.prog (.int .i64) 3:=.int (by kernel_rfl)
theorem to9 : TyOf Tryz.prog .str 9:=.str (by kernel_rfl)
theorem to34 : TyOf Tryz.prog Y1 34:=.st (fs:=Tryz.prog.fieldsOf 34) (by kernel_rfl) (by kernel_rfl) (fd_cast (l:=[(9,0),(9,1)]) (by kernel_rfl) (.cons (by kernel_rfl) to9 (.one (by kernel_rfl) to9)))
theorem to23 : TyOf Tryz.prog (.slice Y1) 23:=.slice (E:=34) (by kernel_rfl) (by kernel_rfl) rfl (by kernel_rfl) to34
theorem to26 : TyOf Tryz.prog Y2 26:=.st (fs:=Tryz.prog.fieldsOf 26) (by kernel_rfl) (by kernel_rfl) (fd_cast (l:=[(3,0),(3,1),(3,2),(3,3),(23,4),(9,5)]) (by kernel_rfl) (.cons (by kernel_rfl) to3 (.cons (by kernel_rfl) to3 (.cons (by kernel_rfl) to3 (.cons (by kernel_rfl) to3 (.cons (by kernel_rfl) to23 (.one (by kernel_rfl) to9)))))))
theorem to22 : TyOf Tryz.prog (.slice Y2) 22:=.slice (E:=26) (by kernel_rfl) (by kernel_rfl) rfl (by kernel_rfl) to26
theorem own : ownKnob Tryz.prog.godebug=none:=by kernel_rfl
theorem laidOut : laidOutB Tryz.prog=true:=by kernel_rfl
set_option maxRecDepth 100000 in
theorem lifted (os:Os) (started:os.Started) (H:Type) (enc:TypeId×Value→H) :
  ReturnsInHanded {} Tryz.checked os 4 .any (Rows.nameBoundSpec.pre6 enc Tryz.prog Tryz.f4 Rows.nameBoundRow.domain false) (Rows.nameBoundSpec.post enc Tryz.prog Tryz.f4 false true false false):=by
 refine returnsInHanded_of_change_sized (C:=Tryz.checked) own started (by kernel_rfl) Tryz.func4
  (ChangeSpec.witness6 (enc:=enc) (C:=Tryz.checked) false ⟨#[],#[.slice none 0 0,.int .i64 0,.agg #[.string ByteArray.empty,.string ByteArray.empty],.agg #[.string ByteArray.empty,.string ByteArray.empty],.string ByteArray.empty],[]⟩ 8 (by kernel_rfl) (by kernel_rfl) (by kernel_rfl) (by kernel_rfl)) ?_
 intro W base args ds gs before hval0 hW hcnd hsz0 _
 have hsz : (DataW.weightsEach Tryz.prog (Tryz.f4.params.toList++Rows.nameBoundSpec.plain.varTypes Tryz.prog) (ds++gs)).all (·≤reachBytes)=true:=hsz0
 have hval : ∀ (j:Nat) t v,Tryz.f4.params[j]?=some t→args[j]?=some v→Value.okWide Tryz.prog W .any base t v:=hval0
 have hW':=hW
 obtain ⟨p,q,hA0,hV,rfl,hfz,hnd⟩:=hW
 have hA : DataW.TrodAll enc Tryz.prog W 0 (fun _=>true) true Tryz.f4.params.toList args.toList ds p:=hA0
 rw [Tryz.params4] at hA hval hsz
 obtain ⟨v0,vs0,d0,ds0,p0,q0,hargs,rfl,rfl,h0,r0⟩:=trodAll_cons hA
 obtain ⟨v1,vs1,d1,ds1,p1,q1,rfl,rfl,rfl,h1,r1⟩:=trodAll_cons r0
 obtain ⟨v2,vs2,d2,ds2,p2,q2,rfl,rfl,rfl,h2,r2⟩:=trodAll_cons r1
 obtain ⟨v3,vs3,d3,ds3,p3,q3,rfl,rfl,rfl,h3,r3⟩:=trodAll_cons r2
 obtain ⟨v4,vs4,d4,ds4,p4,q4,rfl,rfl,rfl,h4,r4⟩:=trodAll_cons r3
 obtain ⟨rfl,rfl,rfl⟩:=trodAll_nil r4
 obtain rfl : args=#[v0,v1,v2,v3,v4]:=by cases args; simp_all
 obtain ⟨rfl,rfl⟩:=trodVars_none hV
 have lt0 : ∀ x∈p0,x.block < W.heap.size:=by obtain ⟨m,hm⟩:=h0; exact DataW.trod_lt m _ _ _ hm
 obtain ⟨x0,wf0,rp0⟩:=arg_ty to22 rfl (hval 0 22 v0 rfl rfl) hsz (j:=0) rfl rfl h0
 have lt1 : ∀ x∈p1,x.block < W.heap.size:=by obtain ⟨m,hm⟩:=h1; exact DataW.trod_lt m _ _ _ hm
 obtain ⟨x1,wf1,rp1⟩:=arg_ty to3 rfl (hval 1 3 v1 rfl rfl) hsz (j:=1) rfl rfl h1
 have lt2 : ∀ x∈p2,x.block < W.heap.size:=by obtain ⟨m,hm⟩:=h2; exact DataW.trod_lt m _ _ _ hm
 obtain ⟨x2,wf2,rp2⟩:=arg_ty to34 rfl (hval 2 34 v2 rfl rfl) hsz (j:=2) rfl rfl h2
 have lt3 : ∀ x∈p3,x.block < W.heap.size:=by obtain ⟨m,hm⟩:=h3; exact DataW.trod_lt m _ _ _ hm
 obtain ⟨x3,wf3,rp3⟩:=arg_ty to34 rfl (hval 3 34 v3 rfl rfl) hsz (j:=3) rfl rfl h3
 have lt4 : ∀ x∈p4,x.block < W.heap.size:=by obtain ⟨m,hm⟩:=h4; exact DataW.trod_lt m _ _ _ hm
 obtain ⟨x4,wf4,rp4⟩:=arg_ty to9 rfl (hval 4 9 v4 rfl rfl) hsz (j:=4) rfl rfl h4
 clear hA0 hval0 hsz0 hsz
 refine (Calls.mono (law_calls (g4_runs (g4_t x0 x1 x2 x3 x4)) (vs:=[v0,v1,v2,v3,v4]) (by simp only [RepL]; exact ⟨rp0,rp1,rp2,rp3,rp4,trivial⟩)) fun e W' ⟨v,hr,_,hv⟩=>?_)
 obtain ⟨rfl,bel⟩:=hv
 subst hr
 exact ⟨_,rfl,_,_,_,[],_,[],hW',trodAll_mk1 (shut_bool Tryz.underlying4 _),(trodAll_cons_mk (Below.trod laidOut (by kernel_rfl) (of_decide_eq_true (by kernel_rfl)) h0 bel lt0) (trodAll_cons_mk (Below.trod laidOut (by kernel_rfl) (of_decide_eq_true (by kernel_rfl)) h1 bel lt1) (trodAll_cons_mk (Below.trod laidOut (by kernel_rfl) (of_decide_eq_true (by kernel_rfl)) h2 bel lt2) (trodAll_cons_mk (Below.trod laidOut (by kernel_rfl) (of_decide_eq_true (by kernel_rfl)) h3 bel lt3) (trodAll_cons_mk (Below.trod laidOut (by kernel_rfl) (of_decide_eq_true (by kernel_rfl)) h4 bel lt4) trodAll_mk0))))),rfl,bel.frame _,fun h=>by cases h⟩
theorem over : Rows.nameBoundRow.holds Tryz.pinned (OpenSpec.ofChange Rows.nameBoundSpec) :=
 OpenClaim.holds_of_wide 4 Tryz.f4 rfl rfl rfl rfl rfl rfl rfl ⟨rfl,rfl,rfl,rfl,rfl⟩ rfl rfl rfl rfl rfl (by kernel_rfl) Tryz.func4 (by kernel_rfl)
  (of_decide_eq_true (by kernel_rfl)) (by unfold Func.isWrapper; first | (rw [if_pos (by decide +kernel)]; kernel_rfl) | (rw [if_neg (by decide +kernel)]; exact ⟨rfl,rfl⟩))
  (fun os started H enc _=>lifted os started H enc)
end nameBound
/-- The row. -/
theorem nameBound_holds : Rows.NameBoundSaid:=nameBound.over
end Go.Proofs.YtclmagkfpijbbaaGreat
