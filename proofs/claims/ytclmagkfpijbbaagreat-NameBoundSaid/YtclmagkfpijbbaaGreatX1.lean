/- Lemmas for a law of the seat: what functions of the program do, each stated as a contract of its own (X1). -/
import Derived.Below
import Derived.Orders
import Derived.Tactics2
import Derived.LoopTactic
import Derived.RowKit3
import Derived.KernelRfl
import Derived.OrdersIn
import Derived.TacticsIn
import Derived.RangeFuncRecord
import Derived.RangeFuncSeq
import Derived.RangeFuncCalls
import Derived.Laws.Sem
import Derived.WalkKit
import Derived.WideLaws
import Derived.LaidEql
import Derived.Maps.AppendAt
import Derived.Shelf.Abstract
import Derived.RangeFuncLeaves
import Derived.Laws.StructEq
import Derived.ChangeKeysEq
import Derived.Laws.MakeOwn
set_option linter.unusedVariables false
set_option linter.unusedSimpArgs false
namespace Go.Eng
open Go.RowKit

abbrev Fr:=List (Nat×Value)

def Fr.look : Fr→Nat→Option Value
 | [],_=>none
 | (d,v)::l,t=>bif Nat.beq d t then some v else Fr.look l t

def evo (l:Fr) : Operand→Option Value
 | .tmp t=>l.look t
 | .const v=>some v
 | .global g=>some (.pointer (some ⟨g,0,none⟩))
 | .func f=>some (.func (.func f) #[] #[])

def ctl : Obj→Bool
 | .loop _=>true
 | .deferred _=>true
 | _=>false
def nox : Nat→Prop:=fun _=>False
def onx (L:Nat) : Nat→Prop:=fun k=>k=L
def DK (ex:Nat→Prop) (w w':World) : Prop:=∀ (k:Nat) (o:Obj),w.heap[k]?=some o→ctl o=true→¬ ex k→w'.heap[k]?=some o
theorem DK.refl {ex:Nat→Prop}{w:World} : DK ex w w:=fun _ _ h _ _=>h
theorem DK.trans {ex:Nat→Prop}{a b c:World}(h:DK ex a b) (k:DK ex b c) : DK ex a c:=fun i o hi ho he=>k i o (h i o hi ho he) ho he
theorem DK.of_below {ex:Nat→Prop}{w w':World}(h:Below w.heap.size w w') : DK ex w w':=fun k o hk _ _=>(h.block k (Array.getElem?_eq_some_iff.1 hk).1).trans hk
theorem DK.some {ex:Nat→Prop}{w w':World}(h:DK nox w w') : DK ex w w':=fun i o hi ho _=>h i o hi ho (fun hk=>hk)
theorem DK.weak {ex ex':Nat→Prop}{w w':World}(h:DK ex w w') (hx:∀ k,ex k→ex' k) : DK ex' w w':=fun i o hi ho hn=>h i o hi ho (fun hk=>hn (hx _ hk))

structure Ev where
 n : Nat
 ro : Option Nat
 w0 : World
 ex : Nat→Prop
 mr : Bool

def mark (D:Nat) : Deferred:={ target:=.collected D,args:=#[] }

structure Good (N:Ev) (a:Act) (w:World) : Prop where
 dk : DK N.ex N.w0 w
 size : N.w0.heap.size≤w.heap.size
 exlt : ∀ x,N.ex x→x < N.w0.heap.size
 marks : ∃ Ds : List Nat,a.defers=Ds.map mark∧(N.mr=false→Ds=[])∧Ds.Nodup∧∀ D∈Ds,N.w0.heap.size≤D∧¬ N.ex D∧w.heap[D]?=some (.deferred (some []))
 rnd : ∀ l,N.ro=some l→¬ N.ex l∧∃ r,w.heap[l]?=some (.loop r)

theorem Good.step {N:Ev}{a a':Act}{w w':World}(h:Good N a w) (hd:a'.defers=a.defers) (hk:DK N.ex w w') (hs:w.heap.size≤w'.heap.size) : Good N a' w':=by
 obtain ⟨Ds,h1,h0,h2,h3⟩:=h.marks
 exact ⟨h.dk.trans hk,Nat.le_trans h.size hs,h.exlt,⟨Ds,hd.trans h1,h0,h2,fun D hD=>⟨(h3 D hD).1,(h3 D hD).2.1,hk D _ (h3 D hD).2.2 rfl (h3 D hD).2.1⟩⟩,
  fun l hl=>let ⟨hx,r,hr⟩:=h.rnd l hl; ⟨hx,r,hk l _ hr rfl hx⟩⟩

structure Holds (N:Ev) (l:Fr) (a:Act) : Prop where
 size : a.tmps.size=N.n
 slot : ∀ t v,l.look t=some v→a.tmps[t]?=some v

theorem Holds.eval {N:Ev}{l:Fr}{a:Act}(h:Holds N l a){x:Operand}{v:Value}(hx:evo l x=some v) : a.eval x=v:=by
 cases x with
 | tmp t =>
  have:=h.slot t v hx
  simp [Act.eval,this]
 | const c=>simpa [evo,Act.eval] using hx
 | global g=>simpa [evo,Act.eval] using hx
 | func f=>simpa [evo,Act.eval] using hx

theorem Fr.look_cons (d:Nat) (v:Value) (l:Fr) (t:Nat) : Fr.look ((d,v)::l) t=if d=t then some v else Fr.look l t:=by
 simp only [Fr.look]
 by_cases h : d=t
 ·subst h; simp
 ·have : Nat.beq d t=false:=by
   rw [Bool.eq_false_iff]; intro hc; exact h (Nat.eq_of_beq_eq_true hc)
  simp [this,h]

theorem Holds.put {N:Ev}{l:Fr}{a:Act}(h:Holds N l a){d:Nat}(hd:d < N.n) (v:Value) : Holds N ((d,v)::l) (a.put (some d) v):=by
 refine ⟨by simp [Act.put,h.size],?_⟩
 intro t u ht
 rw [Fr.look_cons] at ht
 split at ht
 ·rename_i e; subst e
  cases ht
  simp [Act.put,h.size,hd]
 ·rename_i e
  simp only [Act.put]
  rw [Array.getElem?_setIfInBounds_ne e]
  exact h.slot t u ht

def Sub : Fr→Fr→Prop
 | [],_=>True
 | (d,v)::r,l=>l.look d=some v∧Sub r l

theorem Sub.look {l' l:Fr}(h:Sub l' l){t:Nat}{v:Value}(ht:l'.look t=some v) : l.look t=some v:=by
 induction l' with
 | nil=>simp [Fr.look] at ht
 | cons p r ih =>
  obtain ⟨d,u⟩:=p
  rw [Fr.look_cons] at ht
  split at ht
  ·rename_i e; subst e; cases ht; exact h.1
  ·exact ih h.2 ht

theorem Holds.sub {N:Ev}{l l':Fr}{a:Act}(h:Holds N l a) (hs:Sub l' l) : Holds N l' a :=
 ⟨h.size,fun t v ht=>h.slot t v (hs.look ht)⟩

abbrev Post:=Exit→Fr→World→Prop

def FW (ro:Option Nat) : Fence:={ fn:=fun _=>True,depth:=none,alive:=false,round:=ro }

def up (N:Ev) (Q:Post) : Exit→Act→World→Prop:=fun e a w=>∃ l,Holds N l a∧Good N a w∧Q e l w

def thenK (K:Fr→World→Prop) (Q:Post) : Post
 | .normal,l,w=>K l w
 | e,l,w=>Q e l w

def WC (P:Program) (N:Ev) (c:Code) (Q:Post) (l:Fr) (w:World) : Prop:=∀ a,Holds N l a→Good N a w→c.wpIn (FW N.ro) 0 P (up N Q) a w
def WL (P:Program) (N:Ev) (ops:Array Oper) (Q:Post) (rest:List Oper) (l:Fr) (w:World) : Prop:=∀ a,Holds N l a→Good N a w→wpListIn (FW N.ro) 0 P ops (up N Q) rest a w

def OpW (P:Program) (N:Ev) (o:Oper) (K:Fr→World→Prop) (Q:Post) (l:Fr) (w:World) : Prop :=
 ∀ a,Holds N l a→Good N a w→o.wpIn (FW N.ro) 0 P a w (up N (thenK K Q) .normal) (up N Q)

section
variable {P:Program} {N:Ev} {Q:Post} {l:Fr} {w:World}

theorem WC.mono {c:Code}{Q':Post}(hq:∀ e l w,Q e l w→Q' e l w) (h:WC P N c Q l w) : WC P N c Q' l w :=
 fun a ha hg=>wpIn_mono (h a ha hg) fun _ _ _ ⟨l,hl,g,q⟩=>⟨l,hl,g,hq _ _ _ q⟩

theorem wc_seq {c d:Code}(h:WC P N c (thenK (WC P N d Q) Q) l w) : WC P N (.seq c d) Q l w:=by
 intro a ha hg
 refine wpIn_seq (wpIn_mono (h a ha hg) ?_)
 rintro e a' w' ⟨l',hl',g',q⟩
 cases e with
 | normal=>exact q a' hl' g'
 | _=>exact ⟨l',hl',g',q⟩

theorem wc_skip (h:Q .normal l w) : WC P N .skip Q l w:=fun a ha hg=>wpIn_skip ⟨l,ha,hg,h⟩
theorem wc_exit {id:Nat}(h:Q (.exit id) l w) : WC P N (.exit id) Q l w:=fun a ha hg=>wpIn_exit ⟨l,ha,hg,h⟩
theorem wc_ret (h:Q .ret l w) : WC P N .ret Q l w:=fun a ha hg=>wpIn_ret ⟨l,ha,hg,h⟩

theorem wc_cond {c:Operand}{x y:Code}{b:Bool}(hc:evo l c=some (.bool b)) (ht:b=true→WC P N x Q l w) (hf:b=false→WC P N y Q l w) :
  WC P N (.cond c x y) Q l w :=
 fun a ha hg=>wpIn_cond_split (ha.eval hc) (fun h=>ht h a ha hg) (fun h=>hf h a ha hg)

def blockQ (id:Nat) (Q:Post) : Post
 | .exit id',l,w=>bif Nat.beq id' id then Q .normal l w else Q (.exit id') l w
 | e,l,w=>Q e l w

theorem wc_block {id:Nat}{c:Code}(h:WC P N c (blockQ id Q) l w) : WC P N (.block id c) Q l w:=by
 intro a ha hg
 refine wpIn_block (wpIn_mono (h a ha hg) ?_)
 rintro e a' w' ⟨l',hl',g',q⟩
 cases e with
 | exit id' =>
  simp only [Exit.inBlock]
  simp only [blockQ] at q
  by_cases e : id'=id
  ·subst e
   rw [if_pos rfl]
   rw [show Nat.beq id' id'=true by simp] at q
   exact ⟨l',hl',g',q⟩
  ·rw [if_neg e]
   have : Nat.beq id' id=false:=by
    rw [Bool.eq_false_iff]; intro hc; exact e (Nat.eq_of_beq_eq_true hc)
   rw [this] at q
   exact ⟨l',hl',g',q⟩
 | _=>exact ⟨l',hl',g',q⟩

theorem wpIn_loopG {F:Fence}{n:Nat}{P:Program}{c:Code}{Q:Exit→Act→World→Prop}{a:Act}{w:World}{σ:Type}(I:σ→Act→World→Prop) (μ:σ→Nat) (s₀:σ) (h₀:I s₀ a w)
  (round:∀ s a w,I s a w→c.wpIn F n P (Exit.then (fun a' w'=>∃ s',I s' a' w'∧μ s' < μ s) Q) a w) : (Code.loop c).wpIn F n P Q a w:=by
 intro b k cs hro hb hr
 have key : ∀ j s a w,μ s=j→I s a w →
   ∃ e a' w',Q e a' w'∧ArrivesIn (Machine.fenced P F) P (lone (b.atR a (.code c::.inLoop c::k)) cs w) b k cs e a' w':=by
  intro j
  induction j using Nat.strongRecOn with
  | _ j ih =>
   intro s a w hn hI
   obtain ⟨e,a₁,w₁,hq,harr⟩:=round s a w hI b (.inLoop c::k) cs hro hb hr
   cases e with
   | normal =>
    obtain ⟨s₁,hI₁,hlt⟩:=hq
    obtain ⟨e₂,a₂,w₂,hq₂,harr₂⟩:=ih (μ s₁) (hn ▸ hlt) s₁ a₁ w₁ rfl hI₁
    exact ⟨e₂,a₂,w₂,hq₂,.of_steps (StepsIn.trans harr (.one (fenced_calm hb hr rfl) stepR_inLoop)) harr₂⟩
   | exit id=>exact ⟨_,a₁,w₁,hq,.pass (x:=.inLoop c) rfl (fun _ _=>.inl (by simp)) harr⟩
   | goto l=>exact ⟨_,a₁,w₁,hq,.pass (x:=.inLoop c) rfl (fun _ _=>.inl (by simp)) harr⟩
   | ret=>exact ⟨_,a₁,w₁,hq,.pass (x:=.inLoop c) rfl (fun _ _=>.inl (by simp)) harr⟩
   | panic ch=>exact ⟨_,a₁,w₁,hq,.pass (x:=.inLoop c) rfl (fun _ _=>.inl (by simp)) harr⟩
   | outgrown=>exact ⟨_,a₁,w₁,hq,.pass (x:=.inLoop c) rfl (fun _ _=>.inl (by simp)) harr⟩
 obtain ⟨e,a',w',hq,harr⟩:=key _ s₀ a w rfl h₀
 exact ⟨e,a',w',hq,.of_steps (.one (fenced_calm hb hr rfl) stepR_loop) harr⟩

theorem wc_region {id:Nat}{ops:List Oper}(h:WL P N ops.toArray Q ops l w) : WC P N (.region id ops.toArray false) Q l w :=
 fun a ha hg=>wpIn_region_lit (h a ha hg)

theorem wl_op {ops:Array Oper}{o:Oper}{rest:List Oper}(hg:o.guard=none) (h:OpW P N o (fun l w=>WL P N ops Q rest l w) Q l w) : WL P N ops Q (o::rest) l w:=by
 intro a ha hgd
 unfold wpListIn
 rw [if_pos (by simp [Region.wanted,hg])]
 refine Oper.wpIn_mono ?_ (h a ha hgd)
 rintro a w ⟨l',hl',g',h⟩
 exact h a hl' g'

end
end Go.Eng
namespace Go.Eng
open Go.RowKit Go.Shelf

def Und (P:Program) (T:Nat) (d:TypeDesc) : Prop:=P.underlying T=some d
def Sz (P:Program) (T n:Nat) : Prop:=∀ w,(sizeOf T).run P w=.ok n w
def AggT (P:Program) (T:Nat) (b:Bool) : Prop:=∀ w,(isAgg T).run P w=.ok b w
def Zero (P:Program) (T:Nat) (v:Value) : Prop:=∀ w,(zeroValue T).run P w=.ok v w

def zCX (w:World) (b off:Nat) (vs:List Value) : Prop:=∀ i v,vs[i]?=some v→w.cell? ⟨b,off+i,none⟩=some v

theorem zCX.below {w w':World}{b off B:Nat}{vs:List Value}(h:zCX w b off vs) (hb:Below B w w') (hlt:b < B) : zCX w' b off vs :=
 fun i v hi=>(hb.cell (p:=⟨b,off+i,none⟩) hlt).trans (h i v hi)

theorem zCX.ext {w w':World}{b off:Nat}{vs:List Value}(h:zCX w b off vs) (hb:Below w.heap.size w w') : zCX w' b off vs:=by
 intro i v hi
 have:=h i v hi
 exact (hb.cell (p:=⟨b,off+i,none⟩) (World.block_lt_of_cell? w _ this)).trans this

theorem zCu (b off i:Nat) : (⟨b,off,none⟩ : Addr).add i=⟨b,off+i,none⟩:=by unfold Addr.add; split <;> simp_all

theorem zDR {w:World}{b o:Nat}{cs:Array Value}{T:TypeId}{fr:Nat×Nat}{v:Value}(h:w.heap[b]?=some (.cells cs T fr)) (hv:cs[o]?=some v) : w.cell? ⟨b,o,none⟩=some v:=by
 simp [World.cell?,h,hv]

theorem cells_sub {w:World}{b o:Nat}{vs:List Value}(h:zCX w b o vs) (i:Nat) (us:List Value) (hu:us=(vs.drop i).take us.length) : zCX w b (o+i) us:=by
 intro j v hj
 rw [hu] at hj
 have hj' : vs[i+j]?=some v:=by
  rw [List.getElem?_take] at hj
  split at hj
  ·rwa [List.getElem?_drop] at hj
  ·cases hj
 have:=h (i+j) v hj'
 rw [Nat.add_assoc]; exact this

theorem run_loadCellsFrom {P:Program}{w:World}{b o:Nat}(vs:List Value) : ∀ (i:Nat) (acc:Array Value),zCX w b (o+i) vs →
  (loadCellsFrom ⟨b,o,none⟩ i vs.length acc).run P w=.ok (acc++vs.toArray) w:=by
 induction vs with
 | nil=>intro i acc _; simp [loadCellsFrom,pure,Sem.run]
 | cons v vs ih =>
  intro i acc h
  have h0 : w.cell? ⟨b,o+i,none⟩=some v:=by simpa using h 0 v (by simp)
  have hr : (load (⟨b,o+i,none⟩ : Addr)).run P w=.ok v w:=by simp [load,Sem.run,h0]
  simp only [List.length_cons,loadCellsFrom,Sem.run_bind,zCu,hr,Result.andThen_ok]
  rw [ih (i+1) (acc.push v) (fun j u hj=>by have:=h (j+1) u (by simpa using hj); rw [← this]; congr 2; omega)]
  simp

theorem run_loadVar_agg {P:Program}{w:World}{b o T n:Nat}{vs:List Value}(hA:AggT P T true) (hS:Sz P T n) (hl:vs.length=n) (hc:zCX w b o vs) :
  (loadVar T ⟨b,o,none⟩).run P w=.ok (.agg vs.toArray) w:=by
 subst hl
 have:=run_loadCellsFrom (P:=P) vs 0 #[] (by simpa using hc)
 simp only [loadVar,Sem.run_bind,hA w,hS w,Result.andThen_ok,loadCells,if_true,this,Array.empty_append]
 rfl

theorem run_loadVar_one {P:Program}{w:World}{b o T:Nat}{v:Value}(hA:AggT P T false) (hc:w.cell? ⟨b,o,none⟩=some v) :
  (loadVar T ⟨b,o,none⟩).run P w=.ok v w:=by
 simp [loadVar,Sem.run_bind,hA w,Result.andThen_ok,load,Sem.run,hc]

structure Put (w w':World) (b:Nat) : Prop where
 os : w'.os=w.os
 tape : w'.tape=w.tape
 output : w'.output=w.output
 size : w'.heap.size=w.heap.size
 other : ∀ k,k≠b→w'.heap[k]?=w.heap[k]?

theorem Put.blk {w w':World}{b k:Nat}{o:Obj}(h:Put w w' b) (hk:w.heap[k]?=some o) (hne:k≠b) : w'.heap[k]?=some o:=(h.other k hne).trans hk

def splice (cs:Array Value) (off:Nat) : List Value→Array Value
 | []=>cs
 | v::vs=>splice (cs.setIfInBounds off v) (off+1) vs

theorem run_storeCells {P:Program}{b o T:Nat}(vs:List Value) (h1:∀ v∈vs,v.oneCell'=true) : ∀ (i:Nat) (cs:Array Value) (w:World),w.heap[b]?=some (.cells cs T (0,0))→o+i+vs.length≤cs.size →
  ∃ w',(storeCells ⟨b,o,none⟩ vs i).run P w=.ok () w'∧Put w w' b∧w'.heap[b]?=some (.cells (splice cs (o+i) vs) T (0,0)):=by
 induction vs with
 | nil=>intro i cs w hb _; exact ⟨w,by simp [storeCells,pure,Sem.run],⟨rfl,rfl,rfl,rfl,fun _ _=>rfl⟩,hb⟩
 | cons v vs ih =>
  intro i cs w hb hl
  have hv : v.oneCell'=true:=h1 v (by simp)
  simp only [List.length_cons] at hl
  have hc : w.cell? ⟨b,o+i,none⟩=some (cs[o+i]'(by omega)):=zDR hb (by simp [Array.getElem?_eq_getElem (show o+i < cs.size by omega)])
  have hf : w.frozen? ⟨b,o+i,none⟩=false:=by simp [World.frozen?,hb]
  have hw : (w.setCell ⟨b,o+i,none⟩ v).heap[b]?=some (.cells (cs.setIfInBounds (o+i) v) T (0,0)):=by
   have hlt : b < w.heap.size:=(Array.getElem?_eq_some_iff.1 hb).1
   simp only [World.setCell,Array.getElem?_modify,if_true,hb,Option.map_some]
   rfl
  have hr : (store (⟨b,o+i,none⟩ : Addr) v).run P w=.ok () (w.setCell ⟨b,o+i,none⟩ v):=by
   cases v <;> simp_all [store,Sem.run,Value.oneCell']
  obtain ⟨w',hr',hp,hb'⟩:=ih (fun u hu=>h1 u (by simp [hu])) (i+1) (cs.setIfInBounds (o+i) v) (w.setCell ⟨b,o+i,none⟩ v) hw (by simp; omega)
  refine ⟨w',?_,⟨hp.os,hp.tape,hp.output,by rw [hp.size]; simp [World.setCell],fun k hk=>(hp.other k hk).trans (Below.heap_setCell _ _ _ _ hk)⟩,?_⟩
  ·simp only [storeCells,Sem.run_bind,zCu,hr,Result.andThen_ok,hr']
  ·rw [hb']; simp [splice,Nat.add_assoc]

theorem run_storeVar {P:Program}{w:World}{b o T T':Nat}{cs:Array Value}{v:Value}(hS:Sz P T v.cells.size) (hb:w.heap[b]?=some (.cells cs T' (0,0))) (h1:∀ u∈v.cells.toList,u.oneCell'=true) (hl:o+v.cells.size≤cs.size) :
  ∃ w',(storeVar T ⟨b,o,none⟩ v).run P w=.ok () w'∧Put w w' b∧w'.heap[b]?=some (.cells (splice cs o v.cells.toList) T' (0,0)):=by
 obtain ⟨w',hr,hp,hb'⟩:=run_storeCells (P:=P) (o:=o) v.cells.toList h1 0 cs w hb (by simpa using hl)
 refine ⟨w',?_,hp,by simpa using hb'⟩
 simp [storeVar,Sem.run_bind,hS w,Result.andThen_ok,hr]

structure New (w w':World) (b:Nat) (o:Obj) : Prop where
 ext : Below w.heap.size w w'
 eq : b=w.heap.size
 size : w'.heap.size=w.heap.size+1
 blk : w'.heap[b]?=some o

theorem zBh (w:World) (o:Obj) : New w { w with heap:=w.heap.push o } w.heap.size o :=
 ⟨(Below.refl _ w).alloc (Nat.le_refl _) o,rfl,by simp,by simp⟩

theorem run_newRow {P:Program}(w:World) (T:TypeId) (cs:Array Value) : (newRow T cs).run P w=.ok ⟨w.heap.size,0,none⟩ { w with heap:=w.heap.push (.cells cs T) }:=by
 simp [newRow,newObj,Sem.run_bind,Sem.run,Result.andThen,pure]

def Ret (P:Program) (f:FuncId) (args:Array Value) (w:World) (R:Value→World→Prop) : Prop:=Calls P f args w fun e w'=>∃ v,e=.returned v∧(DK nox w w'∧w.heap.size≤w'.heap.size)∧R v w'

theorem Ret.mono {P:Program}{f:FuncId}{args:Array Value}{w:World}{R R':Value→World→Prop}(h:Ret P f args w R) (hr:∀ v w',R v w'→R' v w') : Ret P f args w R' :=
 Calls.mono h fun e w' ⟨v,he,hd,hv⟩=>⟨v,he,hd,hr v w' hv⟩

def OutsAt (P:Program) (l:Fr) (w:World) : List ResultVar→List Value→Prop
 | [],[]=>True
 | .tmp t::r,v::vs=>l.look t=some v∧OutsAt P l w r vs
 | .cell a T::r,v::vs=>(∃ p,l.look a=some (.pointer (some p))∧(loadVar T p).run P w=.ok v w)∧OutsAt P l w r vs
 | _,_=>False

def zBg : List Value→Value
 | [v]=>v
 | vs=>.tuple vs.toArray

def retQ (P:Program) (rs:List ResultVar) (R:Value→World→Prop) : Post
 | .normal,l,w | .ret,l,w=>∃ vs,OutsAt P l w rs vs∧R (zBg vs) w
 | _,_,_=>False

section
variable {P:Program} {N:Ev} {K:Fr→World→Prop} {Q:Post} {l:Fr} {w:World}

def argFr : Nat→List Value→Fr
 | _,[]=>[]
 | i,v::vs=>(i,v)::argFr (i+1) vs

theorem argFr_look (vs:List Value) : ∀ i t v,(argFr i vs).look t=some v→i≤t∧vs[t - i]?=some v:=by
 induction vs with
 | nil=>intro i t v h; simp [argFr,Fr.look] at h
 | cons u vs ih =>
  intro i t v h
  rw [argFr,Fr.look_cons] at h
  split at h
  ·rename_i e; subst e; cases h; simp
  ·obtain ⟨h1,h2⟩:=ih (i+1) t v h
   have : t - i=(t - (i+1))+1:=by omega
   exact ⟨by omega,by rw [this]; simpa using h2⟩

def resOf (a:Act) : ResultVar→Sem Value
 | .tmp t=>pure (a.tmps.getD t undef)
 | .cell x t=>do loadVar t (← asAddr (a.tmps.getD x undef))

theorem outs_run {rs:List ResultVar}{a:Act}(ha:Holds N l a) (f:ResultVar→Sem Value) (hf:∀ r,f r=resOf a r) : ∀ {vs:List Value},OutsAt P l w rs vs→(rs.mapM f).run P w=.ok vs w:=by
 induction rs with
 | nil=>intro vs h; cases vs with
  | nil=>simp [pure,Sem.run]
  | cons v vs=>exact h.elim
 | cons r rs ih =>
  intro vs h
  cases vs with
  | nil=>cases r <;> exact h.elim
  | cons v vs =>
   cases r with
   | tmp t =>
    obtain ⟨h1,h2⟩:=h
    have e : a.tmps.getD t undef=v:=by simp [ha.slot t v h1]
    rw [List.mapM_cons]
    simp only [Sem.run_bind,Sem.run_pure,Result.andThen_ok,hf,resOf,e,ih h2]
   | cell x T =>
    obtain ⟨⟨p,h1,hp⟩,h2⟩:=h
    have e : a.tmps.getD x undef=.pointer (some p):=by simp [ha.slot x _ h1]
    have ea : (asAddr (a.tmps.getD x undef)).run P w=.ok p w:=by rw [e]; rfl
    rw [List.mapM_cons]
    simp only [Sem.run_bind,Sem.run_pure,Result.andThen_ok,hf,resOf,ea,hp,ih h2]

theorem outs_tmps {rs:List ResultVar}{vs:List Value}{a:Act}(ha:Holds N l a) (h:OutsAt P l w rs vs) (fn:Func) (hr:fn.results=rs.toArray) :
  (results fn a.tmps).run P w=.ok (zBg vs) w:=by
 simp only [results,hr,Sem.run_bind,List.mapM_toArray]
 rw [map_eq_pure_bind,Sem.run_bind,outs_run (P:=P) (w:=w) ha _ (fun r=>by cases r <;> rfl) h]
 simp only [Result.andThen_ok,Sem.run_pure]
 match vs with
 | []=>rfl
 | [v]=>rfl
 | v::u::r=>simp [zBg]

theorem args_hold {n:Nat}{ro:Option Nat}{w0:World}{ex:Nat→Prop}{mk:Bool}{args:List Value}{k:Nat}(hk:k=n - args.toArray.size) (hle:args.length≤n){ds:List Deferred} :
  Holds ⟨n,ro,w0,ex,mk⟩ (argFr 0 args) { tmps:=args.toArray++Array.replicate k undef,defers:=ds }:=by
 refine ⟨by subst hk; simp; omega,?_⟩
 intro t v ht
 obtain ⟨_,h2⟩:=argFr_look _ _ _ _ ht
 have hlt : t < args.length:=by
  rcases Nat.lt_or_ge t args.length with h | h
  ·exact h
  ·rw [List.getElem?_eq_none (by simpa using h)] at h2; cases h2
 rw [Array.getElem?_append_left (by simpa using hlt)]
 simpa using h2

theorem good_start {n:Nat}{w:World}{ex:Nat→Prop}{mk:Bool}{tm:Array Value}(hx:∀ x,ex x→x < w.heap.size:=by intro x h; exact False.elim h) : Good ⟨n,none,w,ex,mk⟩ { tmps:=tm,defers:=[] } w :=
 ⟨DK.refl,Nat.le_refl _,hx,⟨[],rfl,fun _=>rfl,List.nodup_nil,fun D h=>by cases h⟩,fun l h=>by cases h⟩

theorem ret_of {f:FuncId}{fn:Func}{c:Code}{n:Nat}{args:List Value}{R:Value→World→Prop}(hf:P.funcs[f]?=some fn) (hb:fn.body=some c) (hN:fn.ntmps=n) (hle:Nat.ble args.length n=true){rs:List ResultVar}(hr:fn.results=rs.toArray)
  (h:WC P ⟨n,none,w,nox,false⟩ c (retQ P rs R) (argFr 0 args) w) : Ret P f args.toArray w R:=by
 refine (callsIn_wide (n:=0)).1 (callsIn_of_wp (F:=Fence.wide) hf hb trivial ?_)
 have hle' : args.length≤n:=by simpa using hle
 refine wpIn_mono (h _ (args_hold (by rw [hN]) hle') good_start) ?_
 rintro e a' w' ⟨l',hl',g,q⟩
 have hd : a'.defers=[]:=by
  obtain ⟨Ds,h1,h2,_⟩:=g.marks
  rw [h1,h2 rfl]; rfl
 cases e with
 | normal=>obtain ⟨vs,ho,hR⟩:=q; exact ⟨hd,_,outs_tmps hl' ho fn hr,_,rfl,⟨g.dk,g.size⟩,hR⟩
 | ret=>obtain ⟨vs,ho,hR⟩:=q; exact ⟨hd,_,outs_tmps hl' ho fn hr,_,rfl,⟨g.dk,g.size⟩,hR⟩
 | _=>exact q.elim
end
end Go.Eng
namespace Go.Eng
open Go.RowKit Go.Shelf Go.Proofs

section
variable {P:Program} {N:Ev} {K:Fr→World→Prop} {Q:Post} {l:Fr} {w:World}

def nodef (o:Oper) : Bool:=match o.op with
 | .defer _=>false
 | _=>true
theorem zCe {ro:Option Nat}{ρ:Operand→Value}{o:Oper}(h:nodef o=true) : Oper.semAt ro ρ o=execOp ρ o :=
 Oper.semAt_eq ro ρ o (fun c hc=>by simp [nodef,hc] at h)

theorem zAo {o:Oper}{d:Nat}{v:Value}{w':World}(hd:o.dst=some d) (hN:Nat.blt d N.n=true)
  (hrun:∀ a,Holds N l a→(execOp a.eval o).run P w=.ok (.value v) w') (k:K ((d,v)::l) w')
  (hw:DK N.ex w w'∧w.heap.size≤w'.heap.size:=by exact ⟨DK.refl,Nat.le_refl _⟩) (hf:nodef o=true:=by rfl) : OpW P N o K Q l w:=by
 intro a ha hg
 refine ⟨fun _ _=>trivial,?_⟩
 show o.uponIn (FW N.ro) 0 P a _ _ ((o.semAt N.ro a.eval).run P w)
 rw [zCe hf,hrun a ha,Oper.uponIn_value,hd]
 exact ⟨_,ha.put (by simpa [Nat.blt_eq] using hN) v,hg.step rfl hw.1 hw.2,k⟩

theorem op_skip {o:Oper}{w':World}(hd:o.dst=none)
  (hrun:∀ a,Holds N l a→(execOp a.eval o).run P w=.ok .skip w') (k:K l w')
  (hw:DK N.ex w w'∧w.heap.size≤w'.heap.size:=by exact ⟨DK.refl,Nat.le_refl _⟩) (hf:nodef o=true:=by rfl) : OpW P N o K Q l w:=by
 intro a ha hg
 refine ⟨fun _ _=>trivial,?_⟩
 show o.uponIn (FW N.ro) 0 P a _ _ ((o.semAt N.ro a.eval).run P w)
 rw [zCe hf,hrun a ha,Oper.uponIn_skip,hd]
 exact ⟨_,ha,hg.step rfl hw.1 hw.2,k⟩

theorem dk_new {ex:Nat→Prop}{w w':World}{b:Nat}{o:Obj}(h:New w w' b o) : DK ex w w'∧w.heap.size≤w'.heap.size:=⟨DK.of_below h.ext,by rw [h.size]; omega⟩
theorem dk_put {ex:Nat→Prop}{w w':World}{b:Nat}{o:Obj}(h:Put w w' b) (hb:w.heap[b]?=some o) (ho:ctl o=false) : DK ex w w'∧w.heap.size≤w'.heap.size:=by
 refine ⟨fun k o' hk hc _=>?_,by rw [h.size]; exact Nat.le_refl _⟩
 by_cases e : k=b
 ·subst e
  rw [hb] at hk; cases hk; rw [ho] at hc; cases hc
 ·exact (h.other k e).trans hk

variable {d:Nat} {T U:TypeId} {pos:String} {aft:Array Edge} {g:Option (Nat×Bool)}

theorem op_move {x:Operand}{v:Value}(hx:evo l x=some v) (hN:Nat.blt d N.n=true) (k:K ((d,v)::l) w) :
  OpW P N ⟨some d,.move x,T,pos,aft,g⟩ K Q l w :=
 zAo rfl hN (fun a ha=>by simp [execOp,ha.eval hx]) k

theorem op_assign {x:Operand}{v:Value}(hx:evo l x=some v) (hN:Nat.blt d N.n=true) (k:K ((d,v)::l) w) :
  OpW P N ⟨some d,.assign x,T,pos,aft,g⟩ K Q l w :=
 zAo rfl hN (fun a ha=>by simp [execOp,ha.eval hx]) k

theorem op_pick_t {c x y:Operand}{v:Value}(hc:evo l c=some (.bool true)) (hx:evo l x=some v) (hN:Nat.blt d N.n=true) (k:K ((d,v)::l) w) :
  OpW P N ⟨some d,.pick c x y,T,pos,aft,g⟩ K Q l w :=
 zAo rfl hN (fun a ha=>by simp [execOp,ha.eval hx,ha.eval hc,asBool]) k

theorem op_pick_f {c x y:Operand}{v:Value}(hc:evo l c=some (.bool false)) (hx:evo l y=some v) (hN:Nat.blt d N.n=true) (k:K ((d,v)::l) w) :
  OpW P N ⟨some d,.pick c x y,T,pos,aft,g⟩ K Q l w :=
 zAo rfl hN (fun a ha=>by simp [execOp,ha.eval hx,ha.eval hc,asBool]) k

theorem op_extract {i:Nat}{x:Operand}{vs:Array Value}{v:Value}(hx:evo l x=some (.tuple vs)) (hv:vs[i]?=some v) (hN:Nat.blt d N.n=true) (k:K ((d,v)::l) w) :
  OpW P N ⟨some d,.extract x i,T,pos,aft,g⟩ K Q l w :=
 zAo rfl hN (fun a ha=>by simp [execOp,ha.eval hx,Instr.extract,hv]) k

theorem op_bin {op:BinOp}{x y:Operand}{vx vy v:Value}(hx:evo l x=some vx) (hy:evo l y=some vy)
  (hg:∀ w,(eqGuard op T x y vx vy).run P w=.ok () w) (hr:∀ w,(binOp op T vx vy).run P w=.ok v w) (hN:Nat.blt d N.n=true) (k:K ((d,v)::l) w) {T':TypeId} :
  OpW P N ⟨some d,.binOp op T x y T',U,pos,aft,g⟩ K Q l w :=
 zAo rfl hN (fun s hs=>by simp [execOp,hs.eval hx,hs.eval hy,Sem.run_bind,hg w,hr w,Result.andThen_ok]) k

theorem wrap_in {k:IntKind}{n:Int}(h:k.min≤n∧n≤k.max) : k.wrap n=n:=by
 cases k <;> simp [IntKind.min,IntKind.max,IntKind.wrap,IntKind.bits,IntKind.signed] at * <;> omega

variable {x y:Operand} {kd:IntKind} {a b:Int} {T':TypeId}

theorem wrap_i64 {n:Int}(h:-9223372036854775808≤n∧n≤9223372036854775807) : IntKind.i64.wrap n=n:=wrap_in h
theorem bytes_beq (s t:ByteArray) : (s.toList == t.toList)=decide (s=t):=by
 have h : s.toList=t.toList↔s=t:=by
  constructor
  ·intro h
   rw [ByteArray.toList_eq,ByteArray.toList_eq] at h
   cases s; cases t; simp at h; subst h; rfl
  ·rintro rfl; rfl
 by_cases e : s=t
 ·subst e; simp
 ·simp [e,h]
theorem op_not {c:Bool}(hx:evo l x=some (.bool c)) (hN:Nat.blt d N.n=true) (k:K ((d,.bool (!c))::l) w) :
  OpW P N ⟨some d,.unOp .not T x,U,pos,aft,g⟩ K Q l w :=
 zAo rfl hN (fun s hs=>by simp [execOp,hs.eval hx,Op.unary]) k

theorem op_len_slice {A:Option Addr}{n c e:Nat}{ts:Array TypeId}{cl:Array Operand}(hc:cl=#[x]) (ht:ts=#[T]) (hU:Und P T (.slice e)) (hx:evo l x=some (.slice A n c)) (hN:Nat.blt d N.n=true) (k:K ((d,.int .i64 n)::l) w) :
  OpW P N ⟨some d,.call ⟨.builtin .len,cl,ts⟩,U,pos,aft,g⟩ K Q l w:=by
 subst hc ht
 refine zAo rfl hN (fun s hs=>?_) k
 simp [execOp,resolve,invoke,builtin,Builtin.len_,hs.eval hx,run_underlying hU,goInt]

theorem op_len_str {s:ByteArray}{ts:Array TypeId}{cl:Array Operand}(hc:cl=#[x]) (ht:ts=#[T]) (hU:Und P T .string) (hx:evo l x=some (.string s)) (hN:Nat.blt d N.n=true) (k:K ((d,.int .i64 s.size)::l) w) :
  OpW P N ⟨some d,.call ⟨.builtin .len,cl,ts⟩,U,pos,aft,g⟩ K Q l w:=by
 subst hc ht
 refine zAo rfl hN (fun a ha=>?_) k
 simp [execOp,resolve,invoke,builtin,Builtin.len_,ha.eval hx,run_underlying hU,goInt]

theorem op_min {ts:Array TypeId}{cl:Array Operand}(hc:cl=#[x,y]) (hx:evo l x=some (.int kd a)) (hy:evo l y=some (.int kd b)) (hN:Nat.blt d N.n=true) (k:K ((d,.int kd (if b < a then b else a))::l) w) :
  OpW P N ⟨some d,.call ⟨.builtin .min,cl,ts⟩,U,pos,aft,g⟩ K Q l w:=by
 subst hc
 refine zAo rfl hN (fun s hs=>?_) k
 simp [execOp,resolve,invoke,builtin,Builtin.min_,Builtin.min2,hs.eval hx,hs.eval hy]
theorem op_load1 {b o:Nat}{v:Value}(hx:evo l x=some (.pointer (some ⟨b,o,none⟩))) (hA:AggT P T false) (hc:w.cell? ⟨b,o,none⟩=some v) (hN:Nat.blt d N.n=true) (k:K ((d,v)::l) w) :
  OpW P N ⟨some d,.load T x,U,pos,aft,g⟩ K Q l w :=
 zAo rfl hN (fun s hs=>by simp [execOp,hs.eval hx,Instr.loadAt,Instr.sureAddr,run_loadVar_one hA hc]) k

theorem op_loadN {b o n:Nat}{vs:List Value}(hx:evo l x=some (.pointer (some ⟨b,o,none⟩))) (hA:AggT P T true) (hS:Sz P T n) (hl:vs.length=n) (hc:zCX w b o vs) (hN:Nat.blt d N.n=true) (k:K ((d,.agg vs.toArray)::l) w) :
  OpW P N ⟨some d,.load T x,U,pos,aft,g⟩ K Q l w :=
 zAo rfl hN (fun s hs=>by simp [execOp,hs.eval hx,Instr.loadAt,Instr.sureAddr,run_loadVar_agg hA hS hl hc]) k

def zCv (P:Program) (T f off:Nat) : Prop:=∀ b o w,(Instr.fieldAt T (.pointer (some ⟨b,o,none⟩)) f).run P w=.ok (.pointer (some ⟨b,o+off,none⟩)) w
theorem zDQ {b o f off:Nat}(hx:evo l x=some (.pointer (some ⟨b,o,none⟩))) (hf:zCv P T f off) (hN:Nat.blt d N.n=true) (k:K ((d,.pointer (some ⟨b,o+off,none⟩))::l) w) :
  OpW P N ⟨some d,.fieldAddr T x f,U,pos,aft,g⟩ K Q l w :=
 zAo rfl hN (fun s hs=>by simp [execOp,hs.eval hx,hf b o w]) k

theorem op_indexAddr {A:Option Addr}{b o n c e sz j:Nat}{i:Int}(hx:evo l x=some (.slice A n c)) (hy:evo l y=some (.int kd i)) (hU:Und P T (.slice e)) (hS:Sz P e sz) (hA:A=some ⟨b,o,none⟩) (hj:i=(j:Int)) (hlt:j < n)
  (hN:Nat.blt d N.n=true) (k:K ((d,.pointer (some ⟨b,o+j * sz,none⟩))::l) w) :
  OpW P N ⟨some d,.indexAddr T x y,U,pos,aft,g⟩ K Q l w:=by
 subst hA hj
 refine zAo rfl hN (fun s hs=>?_) k
 have h1 : (0:Int)≤(j:Int)∧(j:Int) < (n:Int):=by omega
 simp [execOp,hs.eval hx,hs.eval hy,Instr.indexAt,asIntOf,run_underlying hU,hS w,zCu,hlt]

theorem op_box {v:Value}(hx:evo l x=some v) (hN:Nat.blt d N.n=true) (k:∀ w' b,New w w' b (.cells v.cells T)→K ((d,.pointer (some ⟨b,0,none⟩))::l) w') :
  OpW P N ⟨some d,.box T x,U,pos,aft,g⟩ K Q l w :=
 zAo rfl hN (fun s hs=>by simp [execOp,hs.eval hx,Instr.box,newVar,run_newRow]) (k _ _ (zBh w _)) (dk_new (zBh w _))

theorem op_alloc {v:Value}(hZ:Zero P T v) (hN:Nat.blt d N.n=true) (k:∀ w' b,New w w' b (.cells v.cells T)→K ((d,.pointer (some ⟨b,0,none⟩))::l) w') :
  OpW P N ⟨some d,.alloc T,U,pos,aft,g⟩ K Q l w :=
 zAo rfl hN (fun s hs=>by simp [execOp,Instr.alloc,newVar,hZ w,run_newRow]) (k _ _ (zBh w _)) (dk_new (zBh w _))

theorem op_store {b o:Nat}{cs:Array Value}{v:Value}{T':TypeId}(hx:evo l x=some (.pointer (some ⟨b,o,none⟩))) (hy:evo l y=some v) (hS:Sz P T v.cells.size) (hb:w.heap[b]?=some (.cells cs T' (0,0))) (h1:(v.cells.toList.all (·.oneCell'))=true) (hl:Nat.ble (o+v.cells.size) cs.size=true)
  (k:∀ w',Put w w' b→w'.heap[b]?=some (.cells (splice cs o v.cells.toList) T' (0,0))→K l w') :
  OpW P N ⟨none,.store T x y,U,pos,aft,g⟩ K Q l w:=by
 obtain ⟨w',hr,hp,hb'⟩:=run_storeVar (P:=P) (o:=o) hS hb (by simpa only [List.all_eq_true] using h1) (by simpa using hl)
 refine op_skip rfl (fun s hs=>?_) (k w' hp hb') (dk_put hp hb rfl)
 simp [execOp,hs.eval hx,hs.eval hy,Instr.storeAt,Instr.sureAddr,hr]

def evos (l:Fr) : List (Nat×Operand)→Option (List (Nat×Value))
 | []=>some []
 | (i,x)::r=>match evo l x,evos l r with
  | some v,some vs=>some ((i,v)::vs)
  | _,_=>none
theorem evos_eval {s:Act}(hs:Holds N l s){ps:List (Nat×Operand)} : ∀ {vs:List (Nat×Value)},evos l ps=some vs→ps.map (fun p=>(p.1,s.eval p.2))=vs:=by
 induction ps with
 | nil=>intro vs h; simp [evos] at h; simp [h]
 | cons p r ih =>
  intro vs h
  obtain ⟨i,x⟩:=p
  simp only [evos] at h
  split at h
  ·rename_i v us h1 h2
   cases h
   simp [hs.eval h1,ih h2]
  ·cases h

theorem op_build {ps:List (Nat×Operand)}{vs:List (Nat×Value)}{v:Value}(hx:evos l ps=some vs) (hr:∀ w,(Instr.build T vs.toArray).run P w=.ok v w) (hN:Nat.blt d N.n=true) (k:K ((d,v)::l) w) :
  OpW P N ⟨some d,.build T ps.toArray,U,pos,aft,g⟩ K Q l w:=by
 refine zAo rfl hN (fun s hs=>?_) k
 have e:=evos_eval hs hx
 simp only [execOp,List.map_toArray,Sem.run_bind]
 rw [show (List.map (fun (x:Nat×Operand)=>match x with | (i,x)=>(i,s.eval x)) ps)=vs from e,hr w]
 rfl

theorem zDc {a:Addr}(hx:evo l x=some (.pointer (some a))) (hN:Nat.blt d N.n=true) (k:K ((d,.pointer (some a))::l) w) :
  OpW P N ⟨some d,.nilCheck x,U,pos,aft,g⟩ K Q l w :=
 zAo rfl hN (fun s hs=>by simp [execOp,hs.eval hx]) k

theorem op_index {vx vi v:Value}(hx:evo l x=some vx) (hy:evo l y=some vi) (hr:∀ w,(Instr.index T vx vi).run P w=.ok v w) (hN:Nat.blt d N.n=true) (k:K ((d,v)::l) w) :
  OpW P N ⟨some d,.index T x y,U,pos,aft,g⟩ K Q l w :=
 zAo rfl hN (fun s hs=>by simp [execOp,hs.eval hx,hs.eval hy,hr w]) k

def evl (l:Fr) : List Operand→Option (List Value)
 | []=>some []
 | x::r=>match evo l x,evl l r with
  | some v,some vs=>some (v::vs)
  | _,_=>none
theorem evl_eval {s:Act}(hs:Holds N l s){ps:List Operand} : ∀ {vs:List Value},evl l ps=some vs→ps.map s.eval=vs:=by
 induction ps with
 | nil=>intro vs h; simp [evl] at h; simp [h]
 | cons x r ih =>
  intro vs h
  simp only [evl] at h
  split at h
  ·rename_i v us h1 h2
   cases h
   simp [hs.eval h1,ih h2]
  ·cases h

theorem calls_FW {ro:Option Nat}{n:Nat}{f:FuncId}{args:Array Value}{R:Ending→World→Prop}(h:Calls P f args w R) : CallsIn (FW ro) n P f args w R:=by
 have h' : CallsIn Fence.wide n P f args w R:=callsIn_wide.2 h
 cases ro with
 | none=>exact h'
 | some l=>exact h'.inRound l

theorem op_enter {o:Oper}{f:FuncId}{args:Array Value}{R:Value→World→Prop}(hd:o.dst=some d) (hN:Nat.blt d N.n=true)
  (hrun:∀ a,Holds N l a→(execOp a.eval o).run P w=.ok (.enter f args) w) (hc:Ret P f args w R) (k:∀ v w',R v w'→K ((d,v)::l) w') (hf:nodef o=true:=by rfl) : OpW P N o K Q l w:=by
 intro a ha hg
 refine ⟨fun _ _=>trivial,?_⟩
 show o.uponIn (FW N.ro) 0 P a _ _ ((o.semAt N.ro a.eval).run P w)
 rw [zCe hf,hrun a ha,Oper.uponIn_enter]
 refine ⟨(fun h=>by simp [FW] at h),CallsIn.mono (calls_FW hc) ?_⟩
 rintro e w' ⟨v,rfl,hdk,hR⟩
 rw [hd]
 exact ⟨_,ha.put (by simpa [Nat.blt_eq] using hN) v,hg.step rfl hdk.1.some hdk.2,k v w' hR⟩

theorem zDf {f:FuncId}{xs:List Operand}{vs:List Value}{ts:Array TypeId}{R:Value→World→Prop}(hf:Enters P f) (hx:evl l xs=some vs) (hc:Ret P f vs.toArray w R) (hN:Nat.blt d N.n=true)
  (k:∀ v w',R v w'→K ((d,v)::l) w') : OpW P N ⟨some d,.call ⟨.value (.func f),xs.toArray,ts⟩,U,pos,aft,g⟩ K Q l w:=by
 refine op_enter rfl hN (fun s hs=>?_) hc k
 have e:=evl_eval hs hx
 simp [execOp,resolve,Deferred.ofValue,Act.eval,invoke,e,hf _ w]

theorem op_callv {f:FuncId}{fx:Operand}{first caps:Array Value}{xs:List Operand}{vs:List Value}{ts:Array TypeId}{args:Array Value}{R:Value→World→Prop}(hfx:evo l fx=some (.func (.func f) first caps)) (hf:Enters P f) (hx:evl l xs=some vs) (ha:first++vs.toArray++caps=args) (hc:Ret P f args w R) (hN:Nat.blt d N.n=true)
  (k:∀ v w',R v w'→K ((d,v)::l) w') : OpW P N ⟨some d,.call ⟨.value fx,xs.toArray,ts⟩,U,pos,aft,g⟩ K Q l w:=by
 subst ha
 refine op_enter rfl hN (fun s hs=>?_) hc k
 have e:=evl_eval hs hx
 simp [execOp,resolve,Deferred.ofValue,hs.eval hfx,invoke,e,hf _ w]

theorem op_makeFunc {fn:Fn}{fs cs:List Operand}{us vs:List Value}(h1:evl l fs=some us) (h2:evl l cs=some vs) (hN:Nat.blt d N.n=true) (k:K ((d,.func fn us.toArray vs.toArray)::l) w) :
  OpW P N ⟨some d,.makeFunc fn fs.toArray cs.toArray,U,pos,aft,g⟩ K Q l w:=by
 refine zAo rfl hN (fun s hs=>?_) k
 simp [execOp,Instr.makeFunc,evl_eval hs h1,evl_eval hs h2]

end
end Go.Eng
namespace Go.Eng
open Go.RowKit Go.Shelf Go.Proofs

abbrev VP:=Value→World→Prop
structure SR (S:World→World→Prop) : Prop where
 refl : ∀ w,S w w
 trans : ∀ a b c,S a b→S b c→S a c
 drawn : ∀ w W,S { w with drawn:=w.drawn+1 } W→S w W
def Mono (S:World→World→Prop) (φ:VP) : Prop:=∀ v W W',S W W'→φ v W→φ v W'

def dstOf (o:Oper) : Nat:=o.dst.getD 0

def zBp : List (Option Nat×VP)→Fr→World→(Fr→Prop)→Prop
 | [],l,_,K=>K l
 | (some d,φ)::r,l,W,K=>∀ v,φ v W→zBp r ((d,v)::l) W K
 | (none,φ)::r,l,W,K=>φ undef W→zBp r l W K

def toldL (o:Oper) (φ:VP) (l:Fr) (W:World) : Prop:=match o.dst with
 | some d=>∃ v,l.look d=some v∧φ v W
 | none=>φ undef W
def toldA (o:Oper) (φ:VP) (a:Act) (W:World) : Prop:=match o.dst with
 | some d=>∃ v,a.tmps[d]?=some v∧φ v W
 | none=>φ undef W
theorem told {o:Oper}{φ:VP}{l:Fr}{W:World}{d:Nat}{v:Value}(hd:o.dst=some d) (h1:l.look d=some v) (h2:φ v W) : toldL o φ l W:=by unfold toldL; rw [hd]; exact ⟨v,h1,h2⟩
def OpG (P:Program) (N:Ev) (S:World→World→Prop) (ops:List Oper) (o:Oper) (φ:VP) (Q:Post) (l:Fr) (W:World) : Prop :=
 match o.guard with
 | none=>OpW P N o (fun l' W'=>toldL o φ l' W'∧S W W') Q l W
 | some (j,b)=>∃ vj,((ops[j]?).bind fun o'=>o'.dst.bind l.look)=some vj ∧
   (vj=.bool b→OpW P N o (fun l' W'=>toldL o φ l' W'∧S W W') Q l W)∧(vj≠.bool b→φ undef W)

def depAt (ops:List Oper) (Φ:List VP) (js:List Nat) : List (Option Nat×VP):=js.map fun j=>((ops[j]?).bind (·.dst),(Φ[j]?).getD fun _ _=>True)

def Obs (P:Program) (N:Ev) (S:World→World→Prop) (ops:List Oper) (Φ:List VP) (Q:Post) (lb:Fr) (w:World) : List Oper→List VP→List (List Nat)→Prop
 | o::os,φ::φs,js::jss=>(∀ W,S w W→zBp (depAt ops Φ js) lb W fun l=>OpG P N S ops o φ Q l W)∧Obs P N S ops Φ Q lb w os φs jss
 | _,_,_=>True

def Monos (S:World→World→Prop) : List VP→Prop
 | []=>True
 | φ::r=>Mono S φ∧Monos S r

def memB (a:Nat) : List Nat→Bool
 | []=>false
 | b::l=>Nat.beq a b||memB a l
def zCn : List Nat→Bool
 | []=>true
 | a::l=>!memB a l&&zCn l
theorem memB_iff {a:Nat}{l:List Nat} : memB a l=true↔a∈l:=by
 induction l with
 | nil=>simp [memB]
 | cons b l ih=>simp [memB,ih]
theorem zCS {l:List Nat}(h:zCn l=true) : l.Nodup:=by
 induction l with
 | nil=>simp
 | cons a l ih =>
  simp only [zCn,Bool.and_eq_true,Bool.not_eq_true'] at h
  refine List.nodup_cons.2 ⟨fun hm=>?_,ih h.2⟩
  rw [memB_iff.2 hm] at h
  exact absurd h.1 (by simp)

def zCO (N:Nat) (ops:List Oper) (dep:List (List Nat)) (lb:Fr) : Bool :=
 (ops.all fun o=>o.dst.isNone||(Nat.blt (dstOf o) N&&(lb.look (dstOf o)).isNone)) &&
 ((ops.zipIdx).all fun (o,i)=>(ops.zipIdx).all fun (o',i')=>Nat.beq i i'||(o.dst.isNone||(o'.dst.isNone||!Nat.beq (dstOf o) (dstOf o'))))&&Nat.beq dep.length ops.length &&
 ((ops.zip dep).all fun (o,js)=>js.all fun j=>o.after.toList.any fun e=>Region.binds .any e&&Nat.beq e.on j) &&
 ((ops.zipIdx).all fun (o,i)=>o.after.toList.all fun e=>!Region.binds .any e||Nat.blt e.on i)

theorem zDP {l:Fr}{W:World}{K:Fr→Prop}(h:K l) : zBp [] l W K:=h

theorem zBp.imp {ds:List (Option Nat×VP)} : ∀ {l:Fr}{W:World}{K K':Fr→Prop},(∀ l,K l→K' l)→zBp ds l W K→zBp ds l W K':=by
 induction ds with
 | nil=>intro l W K K' h g; exact h _ g
 | cons p r ih =>
  intro l W K K' h g
  obtain ⟨d,φ⟩:=p
  cases d with
  | some d=>exact fun v hv=>ih h (g v hv)
  | none=>exact fun hv=>ih h (g hv)

section
variable {P:Program} {N:Ev} {Q:Post} {l:Fr} {w:World}

theorem Oper.wpIn_frame {F:Fence}{n:Nat}{o:Oper}{a:Act}{w:World}{K:Act→World→Prop}{Q':Exit→Act→World→Prop}(h:o.wpIn F n P a w K Q') :
  o.wpIn F n P a w (fun a' w'=>K a' w'∧∃ v,a'.tmps=(a.put o.dst v).tmps) Q':=by
 unfold Oper.wpIn at *
 refine ⟨h.1,?_⟩
 have h:=h.2
 generalize (o.semAt F.round a.eval).run P w=r at *
 cases r with
 | ok n w' =>
  cases n <;> simp only [Oper.uponIn] at h ⊢ <;>
   first
    | exact ⟨h,_,rfl⟩
    | exact ⟨h.1,CallsIn.mono h.2 (fun e w'' he=>by cases e <;> first | exact ⟨he,_,rfl⟩ | exact he)⟩
    | exact ⟨h.1,RowsIn.mono h.2 (fun _ _ he=>⟨he,_,rfl⟩)⟩
    | exact ⟨h.1,RoundIn.mono h.2 (fun e w'' he=>by cases e <;> first | exact ⟨he,_,rfl⟩ | exact he)⟩
    | (refine ⟨h,undef,?_⟩; cases o.dst <;> rfl)
 | halt x w'=>cases x <;> simp only [Oper.uponIn] at h ⊢ <;> exact h

def toldP (p:Option Nat×VP) (a:Act) (W:World) : Prop:=match p.1 with
 | some d=>∃ v,a.tmps[d]?=some v∧p.2 v W
 | none=>p.2 undef W
theorem zBp.use {ds:List (Option Nat×VP)} : ∀ {l:Fr}{W:World}{K:Fr→Prop}{a:Act},zBp ds l W K→Holds N l a→(∀ p∈ds,toldP p a W)→∃ l',Holds N l' a∧K l':=by
 induction ds with
 | nil=>intro l W K a g ha _; exact ⟨l,ha,g⟩
 | cons p r ih =>
  intro l W K a g ha hd
  obtain ⟨d,φ⟩:=p
  cases d with
  | none=>exact ih (g (hd (none,φ) (by simp))) ha (fun p hp=>hd p (by simp [hp]))
  | some d =>
  obtain ⟨v,hv,hφ⟩:=hd (some d,φ) (by simp)
  refine ih (g v hφ) ⟨ha.size,?_⟩ (fun p hp=>hd p (by simp [hp]))
  intro t u ht
  rw [Fr.look_cons] at ht
  split at ht
  ·rename_i e; subst e; cases ht; exact hv
  ·exact ha.slot t u ht

theorem gather_up {a:Act}{W:World}{Q:Fr→World→Prop}(hg:Good N a W) (h:∃ l',Holds N l' a∧Q l' W) : ∃ l',Holds N l' a∧Good N a W∧Q l' W:=let ⟨l',h1,h2⟩:=h; ⟨l',h1,hg,h2⟩

theorem told_dep {ops:List Oper}{Φ:List VP}{j:Nat}{o:Oper}{φ:VP}{a:Act}{W:World}(ho:ops[j]?=some o) (hφ:Φ[j]?=some φ) (h:toldA o φ a W) : toldP ((ops[j]?).bind (·.dst),(Φ[j]?).getD fun _ _=>True) a W:=by
 rw [ho,hφ]
 unfold toldA at h
 unfold toldP
 cases hd : o.dst with
 | none=>rw [hd] at h; simpa [hd] using h
 | some d=>rw [hd] at h; simpa [hd] using h
theorem told_hold {o:Oper}{φ:VP}{l:Fr}{a:Act}{W:World}(h:toldL o φ l W) (hl:Holds N l a) : toldA o φ a W:=by
 unfold toldL at h
 unfold toldA
 cases hd : o.dst with
 | none=>rw [hd] at h; exact h
 | some d=>rw [hd] at h; obtain ⟨v,h1,h2⟩:=h; exact ⟨v,hl.slot _ _ h1,h2⟩

structure Mid (N:Ev) (S:World→World→Prop) (ops:List Oper) (Φ:List VP) (lb:Fr) (w:World) (listed:Array Bool) (a:Act) (W:World) : Prop where
 below : S w W
 base : Holds N lb a
 good : Good N a W
 done : ∀ (i:Nat) (o:Oper) (φ:VP),ops[i]?=some o→Φ[i]?=some φ→listed[i]?=some true→toldA o φ a W

theorem Obs.at {S:World→World→Prop}{ops:List Oper}{Φ:List VP}{lb:Fr}{os:List Oper} : ∀ {φs:List VP}{jss:List (List Nat)},Obs P N S ops Φ Q lb w os φs jss→∀ {i:Nat}{o:Oper}{φ:VP}{js:List Nat},os[i]?=some o→φs[i]?=some φ→jss[i]?=some js →
  ∀ W,S w W→zBp (depAt ops Φ js) lb W fun l=>OpG P N S ops o φ Q l W:=by
 induction os with
 | nil=>intro φs jss _ i o φ js h; simp at h
 | cons o' os ih =>
  intro φs jss h i o φ js h1 h2 h3
  cases φs with
  | nil=>simp at h2
  | cons φ' φs =>
   cases jss with
   | nil=>simp at h3
   | cons js' jss =>
    cases i with
    | zero=>simp at h1 h2 h3; subst h1 h2 h3; exact h.1
    | succ i=>simp at h1 h2 h3; exact ih h.2 h1 h2 h3

theorem Monos.at {S:World→World→Prop}{Φ:List VP}(h:Monos S Φ) : ∀ {i:Nat}{φ:VP},Φ[i]?=some φ→Mono S φ:=by
 induction Φ with
 | nil=>intro i φ h; simp at h
 | cons φ' Φ ih =>
  intro i φ hi
  cases i with
  | zero=>simp at hi; subst hi; exact h.1
  | succ i=>simp at hi; exact ih h.2 hi

theorem edges_of {N:Nat}{ops:List Oper}{dep:List (List Nat)}{lb:Fr}(hok:zCO N ops dep lb=true){i:Nat}{o:Oper}(ho:ops[i]?=some o) : ∀ e∈o.after,Region.binds .any e=true→e.on < i:=by
 simp only [zCO,Bool.and_eq_true,List.all_eq_true] at hok
 obtain ⟨⟨⟨⟨h1,h2'⟩,h3⟩,h4⟩,h5⟩:=hok
 intro e he hb
 have:=h5 (o,i) (by rw [List.mem_zipIdx_iff_getElem?]; simpa using ho)
 simp only [List.all_eq_true] at this
 have hx:=this e (Array.mem_toList_iff.2 he)
 simpa [hb] using hx

theorem mid_step {S:World→World→Prop}(hS:SR S){ops:List Oper}{Φ:List VP}{dep:List (List Nat)}{lb:Fr}(hok:zCO N.n ops dep lb=true) (hΦ:Φ.length=ops.length) (hmono:Monos S Φ) (hob:Obs P N S ops Φ Q lb w ops Φ dep)
  {listed:Array Bool} {a:Act} {W:World} (hmid:Mid N S ops Φ lb w listed a W) {i:Nat} {o:Oper} (ho:ops[i]?=some o)
  (hrd:∀ e∈o.after,Region.binds .any e=true→listed[e.on]?=some true) {Kn:Act→World→Prop} (hK:∀ a' W',Mid N S ops Φ lb w (listed.setIfInBounds i true) a' W'→Kn a' W')
  {full:Array Oper} (hfull:∀ (k:Nat) (o:Oper),ops[k]?=some o→full[k]?=some o) : wpOpIn (FW N.ro) 0 P full (up N Q) i Kn a W:=by
 have hok0:=hok
 simp only [zCO,Bool.and_eq_true,List.all_eq_true] at hok
 obtain ⟨⟨⟨⟨h1,h2'⟩,h3⟩,h4⟩,h5⟩:=hok
 have hlt : i < ops.length:=(List.getElem?_eq_some_iff.1 ho).1
 have ho' : full[i]?=some o:=hfull i o ho
 have hφl : i < Φ.length:=by omega
 have hφ : Φ[i]?=some (Φ[i]'hφl):=List.getElem?_eq_getElem hφl
 generalize hφφ : Φ[i]'hφl=φ at *
 have hdl : i < dep.length:=by have:=Nat.eq_of_beq_eq_true h3; omega
 have hj : dep[i]?=some (dep[i]'hdl):=List.getElem?_eq_getElem hdl
 generalize hjj : dep[i]'hdl=js at *
 have hdst:=h1 o (List.mem_of_getElem? ho)
 have hdN : ∀ d,o.dst=some d→d < N.n∧lb.look d=none:=by
  intro d hd
  simp [hd,dstOf] at hdst
  exact hdst
 have huniq : ∀ (k:Nat) (ok:Oper) (d:Nat),ops[k]?=some ok→o.dst=some d→ok.dst=some d→i=k:=by
  intro k ok d hk hd hdk
  have hz:=h2' (o,i) (by rw [List.mem_zipIdx_iff_getElem?]; simpa using ho)
  have hz2:=hz (ok,k) (by rw [List.mem_zipIdx_iff_getElem?]; simpa using hk)
  simpa [hd,hdk,dstOf] using hz2
 -- what the operation asks about is done
 have hdeps : ∀ p∈depAt ops Φ js,toldP p a W:=by
  intro p hp
  simp only [depAt,List.mem_map] at hp
  obtain ⟨j,hjm,rfl⟩:=hp
  have hz:=h4 (o,js) (by
   refine List.mem_of_getElem? (i:=i) ?_
   rw [List.getElem?_zip_eq_some]; exact ⟨ho,hj⟩)
  have hz':=hz j hjm
  rw [List.any_eq_true] at hz'
  obtain ⟨e,he,hb⟩:=hz'
  have he:=Array.mem_toList_iff.1 he
  rw [Bool.and_eq_true] at hb
  have hej : e.on=j:=Nat.eq_of_beq_eq_true hb.2
  have hL' : listed[j]?=some true:=by rw [← hej]; exact hrd e he hb.1
  have hjlt : j < ops.length:=by
   have:=edges_of hok0 ho e he hb.1; omega
  have hoj : ops[j]?=some (ops[j]'hjlt):=List.getElem?_eq_getElem hjlt
  have hφj : Φ[j]?=some (Φ[j]'(by omega)):=List.getElem?_eq_getElem (by omega)
  have:=hmid.done j _ _ hoj hφj hL'
  exact told_dep hoj hφj this
 obtain ⟨l',hl',hG⟩:=zBp.use (hob.at ho hφ hj W hmid.below) hmid.base hdeps
 -- what holds behind the operation
 have hstep : ∀ (a':Act) (W':World) (v:Value),a'.tmps=(a.put o.dst v).tmps→Good N a' W'→toldA o φ a' W'→S W W'→Mid N S ops Φ lb w (listed.setIfInBounds i true) a' W':=by
  intro a' W' v ht hdf hφv hBW
  have hget : ∀ t,o.dst≠some t→a'.tmps[t]?=a.tmps[t]?:=by
   intro t hne
   rw [ht]
   cases hd : o.dst with
   | none=>rfl
   | some d =>
    rw [hd] at hne
    simp only [Act.put,Array.getElem?_setIfInBounds_ne (fun e:d=t=>hne (by rw [e]))]
  refine ⟨hS.trans _ _ _ hmid.below hBW,⟨?_,?_⟩,hdf,?_⟩
  ·rw [ht]; cases o.dst <;> simp [Act.put,hmid.base.size]
  ·intro t u htu
   rw [hget t (fun hd=>by have:=(hdN t hd).2; rw [htu] at this; cases this)]
   exact hmid.base.slot t u htu
  ·intro k ok φk hok hφk hlk
   by_cases hik : i=k
   ·subst hik
    rw [ho] at hok; cases hok
    rw [hφ] at hφk; cases hφk
    exact hφv
   ·have hlk' : listed[k]?=some true:=by
     rwa [Array.getElem?_setIfInBounds_ne hik] at hlk
    have hdn:=hmid.done k ok φk hok hφk hlk'
    unfold toldA at hdn ⊢
    cases hdk : ok.dst with
    | none=>rw [hdk] at hdn; exact hmono.at hφk undef W W' hBW hdn
    | some dk =>
     rw [hdk] at hdn
     obtain ⟨u,hu,hφu⟩:=hdn
     refine ⟨u,?_,hmono.at hφk u W W' hBW hφu⟩
     rw [hget dk (fun hd=>hik (huniq k ok dk hok hd hdk))]
     exact hu
 -- the operation itself
 have hrun : ∀ (hop:OpW P N o (fun l' W'=>toldL o φ l' W'∧S W W') Q l' W),o.wpIn (FW N.ro) 0 P a W Kn (up N Q):=by
  intro hop
  refine Oper.wpIn_mono ?_ (Oper.wpIn_frame (hop a hl' hmid.good))
  rintro a' W' ⟨⟨l₁,hl₁,hgd,htd,hBW⟩,u,hu⟩
  exact hK a' W' (hstep a' W' u hu hgd (told_hold htd hl₁) hBW)
 unfold wpOpIn
 rw [ho']
 simp only []
 unfold OpG at hG
 cases hg : o.guard with
 | none =>
  rw [hg] at hG
  rw [if_pos (by simp [Region.wanted,hg])]
  exact hrun hG
 | some jb =>
  obtain ⟨j,b⟩:=jb
  rw [hg] at hG
  obtain ⟨vj,hc,hy,hn⟩:=hG
  rw [Option.bind_eq_some_iff] at hc
  obtain ⟨oj,hoj,hc⟩:=hc
  rw [Option.bind_eq_some_iff] at hc
  obtain ⟨dj,hdj,hc⟩:=hc
  have hyl : (yielded full a.tmps j == some b)=true↔vj=.bool b:=by
   have hojf:=hfull j oj hoj
   have hs:=hl'.slot _ _ hc
   cases vj <;> simp [yielded,hojf,hdj,hs]
  by_cases hcb : vj=.bool b
  ·rw [if_pos (by simp only [Region.wanted,hg]; exact hyl.2 hcb)]
   exact hrun (hy hcb)
  ·rw [if_neg (by simp only [Region.wanted,hg]; exact fun h=>hcb (hyl.1 h))]
   refine ⟨fun _ _=>trivial,hK _ W (hstep _ W undef rfl (hmid.good.step (by cases hx:o.dst <;> rfl) DK.refl (Nat.le_refl _)) ?_ (hS.refl _))⟩
   unfold toldA
   cases hd : o.dst with
   | none=>exact hn hcb
   | some d =>
    have hdlt : d < a.tmps.size:=by rw [hmid.base.size]; exact (hdN d hd).1
    exact ⟨undef,by simp [Act.put,hdlt],hn hcb⟩

theorem draw_any {S:World→World→Prop}(hS:SR S){ops:List Oper}{Φ:List VP}{dep:List (List Nat)}{lb:Fr}(hok:zCO N.n ops dep lb=true) (hΦ:Φ.length=ops.length) (hmono:Monos S Φ) (hob:Obs P N S ops Φ Q lb w ops Φ dep)
  (hfin:∀ a W listed,Mid N S ops Φ lb w listed a W→(∀ i,i < ops.length→listed[i]?=some true)→up N Q .normal a W) :
  ∀ (fuel:Nat) (listed:Array Bool) (a:Act) (W:World),Mid N S ops Φ lb w listed a W→listed.size=ops.length→(listed.toList.filter (! ·)).length≤fuel →
   wpAnyIn (FW N.ro) 0 P .any ops.toArray (up N Q) fuel listed a W:=by
 -- where nothing is ready all is done
 have hall : ∀ listed : Array Bool,listed.size=ops.length→Region.ready .any ops.toArray listed=[]→∀ i,i < ops.length→listed[i]?=some true:=by
  intro listed hs hr i
  induction i using Nat.strongRecOn with
  | _ i ih =>
   intro hi
   rcases hl : listed[i]? with _ | b
   ·simp at hl; omega
   ·cases b with
    | true=>rfl
    | false =>
     exfalso
     have : i∈Region.ready .any ops.toArray listed:=by
      simp only [Region.ready,List.mem_filter,List.mem_range,List.size_toArray]
      refine ⟨hi,?_⟩
      simp only [Array.getD_eq_getD_getElem?,hl,Option.getD_some,Bool.not_false,Bool.true_and]
      have ho0 : ops[i]?=some (ops[i]'hi):=List.getElem?_eq_getElem hi
      have ho : ops.toArray[i]?=some (ops[i]'hi):=by simp
      simp only [ho,Option.map_some,Option.getD_some,Array.all_eq_true']
      intro e he
      by_cases hb : Region.binds .any e=true
      ·have hlt:=edges_of hok ho0 e he hb
       simp only [hb,Bool.not_true,Bool.false_or]
       rw [ih e.on hlt (by omega)]; rfl
      ·simp [hb]
     rw [hr] at this
     cases this
 intro fuel
 induction fuel with
 | zero =>
  intro listed a W hmid hs hf
  have hnil : ∀ i,i < ops.length→listed[i]?=some true:=by
   intro i hi
   have hfl : listed.toList.filter (! ·)=[]:=List.eq_nil_of_length_eq_zero (by omega)
   rw [List.filter_eq_nil_iff] at hfl
   have hlt : i < listed.size:=by omega
   have hm:=hfl listed[i] (by simp)
   rw [Array.getElem?_eq_getElem hlt]
   simpa using hm
  refine ⟨?_,hfin a W listed hmid hnil⟩
  simp only [Region.ready,List.filter_eq_nil_iff,List.mem_range,List.size_toArray]
  intro i hi
  simp [Array.getD_eq_getD_getElem?,hnil i hi]
 | succ fuel ih =>
  intro listed a W hmid hs hf
  refine ⟨fun hr=>hfin a W listed hmid (hall listed hs hr),?_⟩
  intro i hi
  simp only [Region.ready,List.mem_filter,List.mem_range,List.size_toArray] at hi
  obtain ⟨hlt,hi⟩:=hi
  rw [Bool.and_eq_true] at hi
  obtain ⟨hun,hrd⟩:=hi
  have ho : ops[i]?=some (ops[i]'hlt):=List.getElem?_eq_getElem hlt
  have ho' : ops.toArray[i]?=some (ops[i]'hlt):=by simp
  have hun' : listed[i]?=some false:=by
   have hlt' : i < listed.size:=by omega
   rw [Array.getElem?_eq_getElem hlt']
   simp only [Array.getD_eq_getD_getElem?,Array.getElem?_eq_getElem hlt',Option.getD_some] at hun
   simpa using hun
  have hcount : ((listed.setIfInBounds i true).toList.filter (! ·)).length≤fuel:=by
   have hlt' : i < listed.toList.length:=by simp; omega
   have e1 : (listed.setIfInBounds i true).toList=listed.toList.set i true:=by simp
   rw [e1]
   have e2 : listed.toList=listed.toList.take i++false::listed.toList.drop (i+1):=by
    have hg : listed.toList[i]=false:=by
     have:=hun'
     rw [Array.getElem?_eq_getElem (by simpa using hlt')] at this
     simpa using this
    rw [← hg,← List.drop_eq_getElem_cons hlt']; simp
   have e3 : listed.toList.set i true=listed.toList.take i++true::listed.toList.drop (i+1):=by
    rw [List.set_eq_take_append_cons_drop,if_pos hlt']
   rw [e3]
   rw [e2] at hf
   simp only [List.filter_append,List.length_append,List.filter_cons,Bool.not_false,Bool.not_true,if_true,List.length_cons] at hf ⊢
   simp at hf ⊢
   omega
  refine mid_step hS hok hΦ hmono hob hmid ho ?_ (fun a' W' hm=>ih _ a' W' hm (by simp [hs]) hcount) (fun k o h=>by simpa using h)
  intro e he hb
  rw [ho'] at hrd
  simp only [Option.map_some,Option.getD_some,Array.all_eq_true'] at hrd
  have:=hrd e he
  simp only [hb,Bool.not_true,Bool.false_or] at this
  rcases hlj : listed[e.on]? with _ | b
  ·simp [Array.getD_eq_getD_getElem?,hlj] at this
  ·simp [Array.getD_eq_getD_getElem?,hlj] at this; rw [this]

theorem text_any {S:World→World→Prop}(hS:SR S){ops:List Oper}{Φ:List VP}{dep:List (List Nat)}{lb:Fr}(hok:zCO N.n ops dep lb=true) (hΦ:Φ.length=ops.length) (hmono:Monos S Φ) (hob:Obs P N S ops Φ Q lb w ops Φ dep)
  (hfin:∀ a W listed,Mid N S ops Φ lb w listed a W→(∀ i,i < ops.length→listed[i]?=some true)→up N Q .normal a W) :
  ∀ (m k:Nat) (listed:Array Bool) (a:Act) (W:World),k+m=ops.length→Mid N S ops Φ lb w listed a W→listed.size=ops.length→(∀ j,j < k→listed[j]?=some true) →
   wpOpsIn (FW N.ro) 0 P ops.toArray (up N Q) (List.range' k m) a W:=by
 intro m
 induction m with
 | zero =>
  intro k listed a W hk hmid hs hl
  exact hfin a W listed hmid (fun i hi=>hl i (by omega))
 | succ m ih =>
  intro k listed a W hk hmid hs hl
  rw [List.range'_succ,wpOpsIn_cons]
  have ho : ops[k]?=some (ops[k]'(by omega)):=List.getElem?_eq_getElem (by omega)
  refine mid_step hS hok hΦ hmono hob hmid ho (fun e he hb=>hl _ (edges_of hok ho e he hb)) (fun a' W' hm=>ih (k+1) _ a' W' (by omega) hm (by simp [hs]) ?_) (fun k o h=>by simpa using h)
  intro j hj
  by_cases e : k=j
  ·subst e
   rw [Array.getElem?_setIfInBounds_self_of_lt (by omega)]
  ·rw [Array.getElem?_setIfInBounds_ne e]
   exact hl j (by omega)

theorem below_of_drawn {B k:Nat}{W:World}(h:Below B { w with drawn:=k } W) : Below B w W:=⟨h.os,h.tape,h.output,h.size,h.block⟩
theorem zBt : SR (fun w W=>Below w.heap.size w W):=⟨fun w=>Below.refl _ w,fun a b c h k=>h.trans (k.mono h.size),fun w W h=>below_of_drawn h⟩

theorem Obs.drawn {S:World→World→Prop}(hS:SR S){ops:List Oper}{Φ:List VP}{lb:Fr}{os:List Oper} : ∀ {φs:List VP}{jss:List (List Nat)},Obs P N S ops Φ Q lb w os φs jss→Obs P N S ops Φ Q lb { w with drawn:=w.drawn+1 } os φs jss:=by
 induction os with
 | nil=>intro φs jss _; trivial
 | cons o os ih =>
  intro φs jss h
  cases φs with
  | nil=>trivial
  | cons φ φs =>
   cases jss with
   | nil=>trivial
   | cons js jss=>exact ⟨fun W hW=>h.1 W (hS.drawn _ _ hW),ih h.2⟩

theorem live_told {S:World→World→Prop}{ops:List Oper}{Φ:List VP}{lb:Fr}{listed:Array Bool}{a':Act}{W:World}{m:Nat}{live:List Nat}(hmid:Mid N S ops Φ lb w listed a' W) (hml:m≤ops.length) (hΦ:m≤Φ.length) (hlive:(live.all fun i=>Nat.blt i m)=true) (hall:∀ i,i < m→listed[i]?=some true) :
  ∀ p∈depAt ops Φ live,toldP p a' W:=by
 intro p hp
 simp only [depAt,List.mem_map] at hp
 obtain ⟨j,hjm,rfl⟩:=hp
 have hjlt : j < m:=by
  rw [List.all_eq_true] at hlive
  simpa using hlive j hjm
 have hoj : ops[j]?=some (ops[j]'(by omega)):=List.getElem?_eq_getElem (by omega)
 have hφj : Φ[j]?=some (Φ[j]'(by omega)):=List.getElem?_eq_getElem (by omega)
 exact told_dep hoj hφj (hmid.done j _ _ hoj hφj (hall j hjlt))

theorem wc_drawS {S:World→World→Prop}(hS:SR S){id:Nat}{ops:List Oper}(hm:P.follows .mixedOrders=true) (lb:Fr) (hlb:Sub lb l) (Φ:List VP) (dep:List (List Nat)) (live:List Nat)
  (hok:zCO N.n ops dep lb=true) (hΦ:Nat.beq Φ.length ops.length=true) (hlive:(live.all fun i=>Nat.blt i ops.length)=true) (hmono:Monos S Φ) (hob:Obs P N S ops Φ Q lb w ops Φ dep)
  (hfin:∀ W,S w W→zBp (depAt ops Φ live) lb W fun l'=>Q .normal l' W) : WC P N (.region id ops.toArray true) Q l w:=by
 intro a ha hg
 refine wpIn_region_any hm ?_
 have hΦ':=Nat.eq_of_beq_eq_true hΦ
 refine draw_any hS (w:={ w with drawn:=w.drawn+1 }) hok hΦ' hmono (hob.drawn hS) ?_ _ _ _ _ ?_ (by simp) ?_
 ·intro a' W listed hmid hall
  exact gather_up hmid.good (zBp.use (hfin W (hS.drawn _ _ hmid.below)) hmid.base (live_told hmid (Nat.le_refl _) (by omega) hlive hall))
 ·refine ⟨hS.refl _,ha.sub hlb,hg.step rfl (fun _ _ h _ _=>h) (Nat.le_refl _),?_⟩
  intro i o φ _ _ hi
  simp [Array.getElem?_replicate] at hi
 ·simp
theorem wc_draw {id:Nat}{ops:List Oper}(hm:P.follows .mixedOrders=true) (lb:Fr) (hlb:Sub lb l) (Φ:List VP) (dep:List (List Nat)) (live:List Nat)
  (hok:zCO N.n ops dep lb=true) (hΦ:Nat.beq Φ.length ops.length=true) (hlive:(live.all fun i=>Nat.blt i ops.length)=true) (hmono:Monos (fun w W=>Below w.heap.size w W) Φ) (hob:Obs P N (fun w W=>Below w.heap.size w W) ops Φ Q lb w ops Φ dep)
  (hfin:∀ W,Below w.heap.size w W→zBp (depAt ops Φ live) lb W fun l'=>Q .normal l' W) : WC P N (.region id ops.toArray true) Q l w :=
 wc_drawS zBt hm lb hlb Φ dep live hok hΦ hlive hmono hob hfin

theorem wc_textS {S:World→World→Prop}(hS:SR S){id:Nat}{ops:List Oper}(lb:Fr) (hlb:Sub lb l) (Φ:List VP) (dep:List (List Nat)) (live:List Nat)
  (hok:zCO N.n ops dep lb=true) (hΦ:Nat.beq Φ.length ops.length=true) (hlive:(live.all fun i=>Nat.blt i ops.length)=true) (hmono:Monos S Φ) (hob:Obs P N S ops Φ Q lb w ops Φ dep)
  (hfin:∀ W,S w W→zBp (depAt ops Φ live) lb W fun l'=>Q .normal l' W) : WC P N (.region id ops.toArray false) Q l w:=by
 intro a ha hg
 refine wpIn_region ?_
 have hΦ':=Nat.eq_of_beq_eq_true hΦ
 rw [List.range_eq_range',List.size_toArray]
 refine text_any hS hok hΦ' hmono hob ?_ ops.length 0 (Array.replicate ops.length false) a w (by simp) ⟨hS.refl _,ha.sub hlb,hg,?_⟩ (by simp) (fun j hj=>absurd hj (by omega))
 ·intro a' W listed hmid hall
  exact gather_up hmid.good (zBp.use (hfin W hmid.below) hmid.base (live_told hmid (Nat.le_refl _) (by omega) hlive hall))
 ·intro i o φ _ _ hi
  simp [Array.getElem?_replicate] at hi
theorem wc_text {id:Nat}{ops:List Oper}(lb:Fr) (hlb:Sub lb l) (Φ:List VP) (dep:List (List Nat)) (live:List Nat)
  (hok:zCO N.n ops dep lb=true) (hΦ:Nat.beq Φ.length ops.length=true) (hlive:(live.all fun i=>Nat.blt i ops.length)=true) (hmono:Monos (fun w W=>Below w.heap.size w W) Φ) (hob:Obs P N (fun w W=>Below w.heap.size w W) ops Φ Q lb w ops Φ dep)
  (hfin:∀ W,Below w.heap.size w W→zBp (depAt ops Φ live) lb W fun l'=>Q .normal l' W) : WC P N (.region id ops.toArray false) Q l w :=
 wc_textS zBt lb hlb Φ dep live hok hΦ hlive hmono hob hfin

def backOk (ops:List Oper) : Bool:=(ops.zipIdx).all fun (o,i)=>o.after.toList.all fun e=>!Region.binds .any e||Nat.blt e.on i
theorem back_of {ops:List Oper}(h:backOk ops=true) (i:Nat) (o:Oper) (ho:ops[i]?=some o) : ∀ e∈o.after,Region.binds .any e=true→e.on < i:=by
 simp only [backOk,List.all_eq_true] at h
 intro e he hb
 have:=h (o,i) (by rw [List.mem_zipIdx_iff_getElem?]; simpa using ho) e (Array.mem_toList_iff.2 he)
 simpa [hb] using this

theorem zDZ {S:World→World→Prop}{ops:List Oper}{o:Oper}{φ:VP}(hg:o.guard=none) (h:OpW P N o (fun l' W'=>toldL o φ l' W'∧S w W') Q l w) : OpG P N S ops o φ Q l w:=by
 unfold OpG; rw [hg]; exact h
theorem zBO {a b:Bool}(h:(a&&b)=true) : a=true:=(Bool.and_eq_true_iff.1 h).1
theorem undef_ne {b:Bool} : (undef:Value)≠.bool b:=by intro h; cases h

end
end Go.Eng
namespace Go.Eng
open Go.RowKit Go.Shelf Go.Proofs

structure Rd {α:Type} (R:World→List Value→α→Prop) (sz:Nat) (w:World) (A:Option Addr) (n:Nat) (xs:List α) : Prop where
 len : xs.length=n
 bd : n≤140737488355328
 rows : ∃ b off,(0 < n→A=some ⟨b,off,none⟩)∧∀ i x,xs[i]?=some x→∃ cs,cs.length=sz∧R w cs x∧zCX w b (off+i * sz) cs

def Flat {α:Type}(enc:α→List Value) : World→List Value→α→Prop:=fun _ cs x=>cs=enc x

def Lifts {α:Type}(R:World→List Value→α→Prop) : Prop:=∀ w w' cs x,Below w.heap.size w w'→R w cs x→R w' cs x
theorem Rd.ext {α:Type}{R:World→List Value→α→Prop}{sz:Nat}{w w':World}{A:Option Addr}{n:Nat}{xs:List α}(hR:Lifts R) (h:Rd R sz w A n xs) (hb:Below w.heap.size w w') : Rd R sz w' A n xs:=by
 obtain ⟨b,off,hA,hc⟩:=h.rows
 exact ⟨h.len,h.bd,b,off,hA,fun i x hx=>let ⟨cs,h1,h2,h3⟩:=hc i x hx; ⟨cs,h1,hR _ _ _ _ hb h2,h3.ext hb⟩⟩

theorem Rd.flat {α:Type}{enc:α→List Value}{sz:Nat}{w:World}{A:Option Addr}{n:Nat}{xs:List α}(h:Rd (Flat enc) sz w A n xs) :
  ∃ b off,(0 < n→A=some ⟨b,off,none⟩)∧∀ i x,xs[i]?=some x→zCX w b (off+i * sz) (enc x):=by
 obtain ⟨b,off,hA,hc⟩:=h.rows
 exact ⟨b,off,hA,fun i x hx=>by obtain ⟨cs,_,rfl,h3⟩:=hc i x hx; exact h3⟩

def AppT (P:Program) (T e size bytes:Nat) : Prop :=
 P.underlying T=some (.slice e)∧0 < size∧∃ i z,P.info? e=some i∧i.zero=some z∧i.size=size∧i.bytes=bytes∧z.cells.size=size
theorem appT_of {P:Program}{T e size bytes:Nat}{z:Value}(h1:P.underlying T=some (.slice e)) (h2:(P.info? e).map (fun i=>(i.zero,i.size,i.bytes))=some (some z,size,bytes)) (h3:Nat.beq z.cells.size size=true) (h4:Nat.blt 0 size=true) : AppT P T e size bytes:=by
 cases hi : P.info? e with
 | none=>rw [hi] at h2; cases h2
 | some i =>
  rw [hi] at h2
  simp at h2
  exact ⟨h1,by simpa using h4,i,z,hi,h2.1,h2.2.1,h2.2.2,Nat.eq_of_beq_eq_true h3⟩

section
variable {P:Program} {N:Ev} {K:Fr→World→Prop} {Q:Post} {l:Fr} {w:World}
variable {d:Nat} {T U:TypeId} {pos:String} {aft:Array Edge} {g:Option (Nat×Bool)}

theorem dk_grown {ex:Nat→Prop}{w w':World}{base e size n:Nat}{v:Value}{xs:List Value}(hown:w.ownsRow base e size v n xs) (h:w.grownBy w' v.ownBlock) : DK ex w w'∧w.heap.size≤w'.heap.size:=by
 refine ⟨fun k o hk hc _=>?_,h.size⟩
 by_cases e : some k=v.ownBlock
 ·exfalso
  rcases hown.2 with ⟨rfl,_⟩ | ⟨g,cap,cur,rfl,_,hg,_⟩
  ·cases e
  ·cases e
   rw [hg] at hk; cases hk; cases hc
 ·exact (h.block k (Array.getElem?_eq_some_iff.1 hk).1 e).trans hk
theorem op_pick {c x y:Operand}{cb:Bool}{v:Value}(hc:evo l c=some (.bool cb)) (ht:cb=true→evo l x=some v) (hf:cb=false→evo l y=some v) (hN:Nat.blt d N.n=true) (k:K ((d,v)::l) w) :
  OpW P N ⟨some d,.pick c x y,T,pos,aft,g⟩ K Q l w:=by
 cases cb with
 | true=>exact op_pick_t hc (ht rfl) hN k
 | false=>exact op_pick_f hc (hf rfl) hN k
theorem splice_size (vs:List Value) : ∀ (cs:Array Value) (o:Nat),(splice cs o vs).size=cs.size:=by
 induction vs with
 | nil=>intro cs o; rfl
 | cons v vs ih=>intro cs o; simp [splice,ih]

theorem then_norm {K:Fr→World→Prop}(h:K l w) : thenK K Q .normal l w:=h
theorem wl_done {ops:Array Oper}(h:Q .normal l w) : WL P N ops Q [] l w:=fun a ha hg=>wpListIn_nil ⟨l,ha,hg,h⟩
end

theorem below_then {B:Nat}{a b c:World}(h:Below B a b) (hB:B≤b.heap.size) (k:Below b.heap.size b c) : Below B a c:=h.trans (k.mono hB)
theorem below_step {a b c:World}(h:Below a.heap.size a b) (k:Below b.heap.size b c) : Below a.heap.size a c:=below_then h h.size k
theorem zCX.at {w:World}{b o i:Nat}{vs:List Value}{v:Value}(h:zCX w b o vs) (hv:vs[i]?=some v) : w.cell? ⟨b,o+i,none⟩=some v:=h i v hv
theorem zCX.head {w:World}{b o:Nat}{v:Value}{vs:List Value}(h:zCX w b o (v::vs)) : w.cell? ⟨b,o,none⟩=some v:=h 0 v rfl

def Own {α:Type}(enc:α→List Value) (base e sz:Nat) (w:World) (v:Value) (xs:List α) : Prop:=w.ownsRow base e sz v xs.length (xs.flatMap enc)

theorem Own.grown {α:Type}{enc:α→List Value}{base e sz:Nat}{w w':World}{v:Value}{xs:List α}{row:Option Nat}(h:Own enc base e sz w v xs) (hg:w.grownBy w' row) (hne:v.ownBlock=none∨v.ownBlock≠row) : Own enc base e sz w' v xs :=
 h.kept hg hne
def RowsAt {α:Type}(R:World→List Value→α→Prop) (sz:Nat) (w:World) (b:Nat) : Nat→List α→Prop
 | _,[]=>True
 | off,x::xs=>(∃ cs,cs.length=sz∧R w cs x∧zCX w b off cs)∧RowsAt R sz w b (off+sz) xs
theorem RowsAt.get {α:Type}{R:World→List Value→α→Prop}{sz:Nat}{w:World}{b:Nat}{xs:List α} : ∀ {off:Nat},RowsAt R sz w b off xs→∀ i x,xs[i]?=some x→∃ cs,cs.length=sz∧R w cs x∧zCX w b (off+i * sz) cs:=by
 induction xs with
 | nil=>intro off _ i x hx; simp at hx
 | cons y ys ih =>
  intro off h i x hx
  cases i with
  | zero=>simp at hx; subst hx; simpa using h.1
  | succ i =>
   simp at hx
   have:=ih h.2 i x hx
   rwa [show off+sz+i * sz=off+(i+1) * sz by rw [Nat.add_mul]; omega] at this
section
variable {P:Program} {N:Ev} {K:Fr→World→Prop} {Q:Post} {l:Fr} {w:World}
variable {d:Nat} {T U:TypeId} {pos:String} {aft:Array Edge} {g:Option (Nat×Bool)}

end
end Go.Eng
namespace Go.Eng
open Go.RowKit Go.Shelf Go.Proofs


structure But (FT:List Nat) (b:Nat) (w w':World) : Prop where
 os : w'.os=w.os
 tape : w'.tape=w.tape
 output : w'.output=w.output
 size : w.heap.size≤w'.heap.size
 same : ∀ (k:Nat) (o:Obj),w.heap[k]?=some o→k∉FT→(ctl o=false∨k < b)→w'.heap[k]?=some o

theorem But.refl {FT:List Nat}{b:Nat}{w:World} : But FT b w w:=⟨rfl,rfl,rfl,Nat.le_refl _,fun _ _ h _ _=>h⟩
theorem But.trans {FT:List Nat}{b:Nat}{u v w:World}(h:But FT b u v) (k:But FT b v w) : But FT b u w :=
 ⟨k.os.trans h.os,k.tape.trans h.tape,k.output.trans h.output,Nat.le_trans h.size k.size,fun i o hi hf hc=>k.same i o (h.same i o hi hf hc) hf hc⟩
theorem But.mono {FT FT':List Nat}{b b':Nat}{w w':World}(h:But FT b w w') (hF:∀ k∈FT,k∈FT') (hb:b'≤b) : But FT' b' w w' :=
 ⟨h.os,h.tape,h.output,h.size,fun k o hk hf hc=>h.same k o hk (fun hm=>hf (hF k hm)) (hc.imp id (fun hl=>Nat.lt_of_lt_of_le hl hb))⟩
theorem But.of_below {FT:List Nat}{b:Nat}{w w':World}(h:Below w.heap.size w w') : But FT b w w' :=
 ⟨h.os,h.tape,h.output,h.size,fun k o hk _ _=>(h.block k (Array.getElem?_eq_some_iff.1 hk).1).trans hk⟩
theorem But.below {FT:List Nat}{b B:Nat}{w w':World}(h:But FT b w w') (hF:∀ k∈FT,B≤k) (hb:B≤b) (hB:B≤w.heap.size) : Below B w w' :=
 ⟨h.os,h.tape,h.output,h.size,fun k hk=>by
  have hlt : k < w.heap.size:=Nat.lt_of_lt_of_le hk hB
  have e : w.heap[k]?=some (w.heap[k]'hlt):=Array.getElem?_eq_getElem hlt
  rw [e]
  exact h.same k _ e (fun hm=>by have:=hF k hm; omega) (.inr (by omega))⟩
def zipFr : Fr→List Nat→List Value→Fr
 | l,p::ps,v::vs=>zipFr ((p,v)::l) ps vs
 | l,_,_=>l
theorem zip_hold {N:Ev}{ps:List Nat} : ∀ {vs:List Value}{l:Fr}{tm:Array Value}{ds:List Deferred},(ps.all fun p=>Nat.blt p N.n)=true→Holds N l { tmps:=tm,defers:=ds } →
  Holds N (zipFr l ps vs) { tmps:=(ps.zip vs).foldl (fun t (p,v)=>t.setIfInBounds p v) tm,defers:=ds }:=by
 induction ps with
 | nil=>intro vs l tm ds _ h; simpa [zipFr] using h
 | cons p ps ih =>
  intro vs l tm ds hp h
  cases vs with
  | nil=>simpa [zipFr] using h
  | cons v vs =>
   simp only [List.all_cons,Bool.and_eq_true] at hp
   simp only [zipFr,List.zip_cons_cons,List.foldl_cons]
   refine ih hp.2 ?_
   have:=h.put (d:=p) (by simpa using hp.1) v
   simpa [Act.put] using this

section
variable {P:Program}

def YieldC (P:Program) (l:Nat) (args:List Value) (W:World) (R:Bool→World→Prop) : Prop :=
 YieldAt (FW none) 0 P l args.toArray W fun e W'=>∃ b,e=.returned (.bool b)∧DK (onx l) W W'∧W.heap.size≤W'.heap.size∧R b W'

def SeqC {α:Type}(P:Program) (gf:Nat) (lb:List Value) (encs:α→List Value) (FT:List Nat) (S:List α) (n0:Nat) (w:World) : Prop :=
 ∀ (l:Nat) (J Jx:List α→World→Prop) (W:World),Below w.heap.size w W→w.heap.size≤l∧l < W.heap.size →
  (∀ pre W1 W2,J pre W1→But FT W1.heap.size W1 W2→J pre W2)→(∀ pre W1 W2,Jx pre W1→But FT W1.heap.size W1 W2→Jx pre W2) →
  (∀ pre x rest W1,S=pre++x::rest→J pre W1→YieldC P l (encs x) W1 fun b W'=>Below n0 W1 W'∧if b then J (pre++[x]) W' else Jx (pre++[x]) W') →
  J [] W →
  Calls P gf (.func (.yield l) #[] #[]::lb).toArray W fun e W'=>∃ v,e=.returned v∧DK (onx l) W W'∧W.heap.size≤W'.heap.size∧(J S W'∨∃ pre x rest,S=pre++x::rest∧Jx (pre++[x]) W')

def jumpOf : Exit→Option Code
 | .ret=>some .ret
 | .exit id=>some (.exit id)
 | _=>none

theorem but_putObj {FT:List Nat}{b l:Nat}{W:World}{o o':Obj}(hb:b≤l) (hl:W.heap[l]?=some o) (ho:ctl o=true) : But FT b W (W.putObj l o'):=by
 refine ⟨rfl,rfl,rfl,by simp,fun k o2 hk hf hc=>?_⟩
 by_cases e : k=l
 ·subst e
  rw [hl] at hk; cases hk
  rcases hc with hc | hc
  ·rw [ho] at hc; cases hc
  ·omega
 ·exact (World.putObj_heap_other e).trans hk

def retQM (P:Program) (rs:List ResultVar) (w0:World) (R:Value→World→Prop) : Post
 | .normal,l,w | .ret,l,w=>∀ w',But [] w0.heap.size w w'→w.heap.size=w'.heap.size→∃ vs,OutsAt P l w' rs vs∧R (zBg vs) w'
 | _,_,_=>False

theorem leaves_marks {fn:Func}{tm:Array Value}{R:Ending→World→Prop}{b:Nat} : ∀ {Ds:List Nat}{w:World},Ds.Nodup→(∀ D∈Ds,b≤D∧w.heap[D]?=some (.deferred (some []))) →
  (∀ w',But [] b w w'→w.heap.size=w'.heap.size→DK nox { w with heap:=w.heap.extract 0 b } w'→∃ v,(results fn tm).run P w'=.ok v w'∧R (.returned v) w') →
  LeavesInM Fence.wide 0 P fn tm R (Ds.map mark) .returning w:=by
 intro Ds
 induction Ds with
 | nil =>
  intro w _ _ h
  refine h w But.refl rfl ?_
  intro k o hk _ _
  have hk' : (w.heap.extract 0 b)[k]?=some o:=hk
  rw [Array.getElem?_extract] at hk'
  split at hk'
  ·simpa using hk'
  ·cases hk'
 | cons D Ds ih =>
  intro w hn hD h
  obtain ⟨hn1,hn2⟩:=List.nodup_cons.1 hn
  obtain ⟨hb,hd⟩:=hD D (by simp)
  have hstep : But [] b w (w.putObj D (.deferred none)):=but_putObj hb hd rfl
  refine ⟨by simp,.inl ⟨D,w.putObj D (.deferred none),rfl,run_takeDeferred hd,ih hn2 (fun D' hm=>?_) ?_⟩⟩
  ·obtain ⟨h1,h2⟩:=hD D' (by simp [hm])
   exact ⟨h1,(World.putObj_heap_other (by rintro rfl; exact hn1 hm)).trans h2⟩
  ·intro w' hB hs hdk
   refine h w' (hstep.trans hB) (by rw [← hs]; simp) ?_
   intro k o hk ho hx
   have hk' : (w.heap.extract 0 b)[k]?=some o:=hk
   rw [Array.getElem?_extract] at hk'
   split at hk'
   ·rename_i hlt
    refine hdk k o ?_ ho hx
    show ((w.putObj D (.deferred none)).heap.extract 0 b)[k]?=some o
    rw [Array.getElem?_extract,if_pos (by simpa using hlt)]
    simp only [Nat.zero_add] at hk' ⊢
    exact (World.putObj_heap_other (by omega)).trans hk'
   ·cases hk'

theorem ret_ofM {w:World}{f:FuncId}{fn:Func}{c:Code}{n:Nat}{args:List Value}{R:Value→World→Prop}(hf:P.funcs[f]?=some fn) (hb:fn.body=some c) (hN:fn.ntmps=n) (hle:Nat.ble args.length n=true){rs:List ResultVar}(hr:fn.results=rs.toArray)
  (h:WC P ⟨n,none,w,nox,true⟩ c (retQM P rs w R) (argFr 0 args) w) : Ret P f args.toArray w R:=by
 refine (callsIn_wide (n:=0)).1 (callsIn_of_wp_marks (F:=Fence.wide) hf hb trivial ?_)
 have hle' : args.length≤n:=by simpa using hle
 refine wpIn_mono (h _ (args_hold (by rw [hN]) hle') good_start) ?_
 have key : ∀ (l':Fr) (a':Act) (w':World),Holds ⟨n,none,w,nox,true⟩ l' a'→Good ⟨n,none,w,nox,true⟩ a' w' →
   (∀ w2,But [] w.heap.size w' w2→w'.heap.size=w2.heap.size→∃ vs,OutsAt P l' w2 rs vs∧R (zBg vs) w2) →
   LeavesInM Fence.wide 0 P fn a'.tmps (fun e w'=>∃ v,e=.returned v∧(DK nox w w'∧w.heap.size≤w'.heap.size)∧R v w') a'.defers .returning w':=by
  intro l' a' w' hl' g q
  obtain ⟨Ds,e1,_,e3,e4⟩:=g.marks
  rw [e1]
  refine leaves_marks (b:=w.heap.size) e3 (fun D hm=>⟨(e4 D hm).1,(e4 D hm).2.2⟩) fun w2 hB hs hdk=>?_
  obtain ⟨vs,ho,hR⟩:=q w2 hB hs
  refine ⟨_,outs_tmps hl' ho fn hr,_,rfl,⟨?_,by rw [← hs]; exact g.size⟩,hR⟩
  intro k o hk hc hx
  have h1:=g.dk k o hk hc hx
  refine hdk k o ?_ hc hx
  show (w'.heap.extract 0 w.heap.size)[k]?=some o
  have hlt:=(Array.getElem?_eq_some_iff.1 hk).1
  have hgs : w.heap.size≤w'.heap.size:=g.size
  rw [Array.getElem?_extract,if_pos (by omega)]
  simpa using h1
 rintro e a' w' ⟨l',hl',g,q⟩
 cases e with
 | normal=>exact key l' a' w' hl' g q
 | ret=>exact key l' a' w' hl' g q
 | _=>exact q.elim

section
variable {N:Ev} {K:Fr→World→Prop} {Q:Post} {l:Fr} {w:World} {d:Nat} {U:TypeId} {pos:String} {aft:Array Edge} {g:Option (Nat×Bool)}
theorem roundIn_FW {ro:Option Nat}{n L:Nat}{f:FuncId}{tm:Array Value}{a b:Code}{W:World}{R:Ending→World→Prop}(h:RoundIn (FW none) n P L f tm a b W R) : RoundIn (FW ro) n P L f tm a b W R:=by
 cases ro <;> exact h
end
end

theorem SeqC.ext {α:Type}{P:Program}{gf:Nat}{lb:List Value}{encs:α→List Value}{FT:List Nat}{S:List α}{n0:Nat}{w W:World}(h:SeqC P gf lb encs FT S n0 w) (hb:Below w.heap.size w W) : SeqC P gf lb encs FT S n0 W :=
 fun l J Jx V hV hl hJ hJx hY h0=>h l J Jx V (below_step hb hV) ⟨Nat.le_trans hb.size hl.1,hl.2⟩ hJ hJx hY h0
end Go.Eng
namespace Go.Eng
open Go.RowKit Go.Shelf Go.Proofs

def cellEq : Value→Value→Bool
 | .int _ a,.int _ b=>decide (a=b)
 | .string a,.string b=>decide (a=b)
 | .bool a,.bool b=>decide (a=b)
 | _,_=>false
def zB7 : List Bool→Bool
 | []=>true
 | [b]=>b
 | b::l=>b&&zB7 l
def basicB (P:Program) (T:TypeId) : Bool:=match P.underlying T with
 | some (.int _) | some .string | some .bool=>true
 | _=>false
def pairB (P:Program) (T:TypeId) (x y:Value) : Bool:=match P.underlying T,x,y with
 | some (.int _),.int k _,.int k' _=>decide (k=k')
 | some .string,.string _,.string _=>true
 | some .bool,.bool _,.bool _=>true
 | _,_,_=>false

section
variable {P:Program} {w:World}
theorem run_pair {d:Nat}{T:TypeId}{x y:Value}(h:pairB P T x y=true) : (Op.equalIn (d+1) T x y).run P w=.ok (cellEq x y) w:=by
 unfold pairB at h
 split at h
 ·rename_i k0 k a k' b hu
  have hk : k=k':=by simpa using h
  subst hk
  rw [run_equalIn_int w d T k k0 a b hu]; rfl
 ·rename_i a b hu
  rw [run_equalIn_string w d T a b hu,bytes_beq]; rfl
 ·rename_i a b hu
  rw [run_equalIn_bool' w d T a b hu]
  cases a <;> cases b <;> rfl
 ·cases h
theorem run_part {T:TypeId}{xs:Array Value}{o:Nat}{v:Value}(hb:basicB P T=true) (hv:xs[o]?=some v) : (part T xs o).run P w=.ok v w:=by
 have hA : (isAgg T).run P w=.ok false w:=by
  unfold basicB at hb
  split at hb
  ·rename_i k hu; simp [isAgg,Sem.run_bind,run_underlying hu]
  ·rename_i hu; simp [isAgg,Sem.run_bind,run_underlying hu]
  ·rename_i hu; simp [isAgg,Sem.run_bind,run_underlying hu]
  ·cases hb
 simp only [part,Sem.run_bind,hA,Result.andThen_ok,Bool.false_eq_true,if_false,hv,Sem.run_pure]

def flatFs (P:Program) : Nat→List Field→Bool
 | _,[]=>true
 | i, f :: fs => (f.name != "_") && Nat.beq f.offset i && basicB P f.type && flatFs P (i + 1) fs
def pairsFs (P:Program) : List Field→List Value→List Value→Bool
 | f::fs,x::xs,y::ys=>pairB P f.type x y&&pairsFs P fs xs ys
 | [],[],[]=>true
 | _,_,_=>false
def zBi : List Value→List Value→List Bool
 | x::xs,y::ys=>cellEq x y::zBi xs ys
 | _,_=>[]

theorem run_eqFields {d:Nat}{X Y:Array Value}{fs:List Field} : ∀ {i:Nat}{xs ys:List Value},flatFs P i fs=true→pairsFs P fs xs ys=true→X.toList.drop i=xs→Y.toList.drop i=ys →
  (Op.eqFields (d+1) X Y fs).run P w=.ok (zB7 (zBi xs ys)) w:=by
 induction fs with
 | nil =>
  intro i xs ys h1 h2 _ _
  match xs,ys,h2 with
  | [],[],_=>simp [Op.eqFields,zBi,zB7]
 | cons f fs ih =>
  intro i xs ys h1 h2 hX hY
  match xs,ys,h2 with
  | x::xs,y::ys,h2 =>
   simp only [flatFs,Bool.and_eq_true] at h1
   obtain ⟨⟨⟨hn,ho⟩,hb⟩,hr⟩:=h1
   have ho' : f.offset=i:=Nat.eq_of_beq_eq_true ho
   have hn' : f.name ≠ "_" := by simpa using hn
   simp only [pairsFs,Bool.and_eq_true] at h2
   have hx : X[i]?=some x:=by
    have:=congrArg (fun l=>l[0]?) hX
    simpa using this
   have hy : Y[i]?=some y:=by
    have:=congrArg (fun l=>l[0]?) hY
    simpa using this
   have hX' : X.toList.drop (i+1)=xs:=by
    have:=congrArg List.tail hX
    simpa using this
   have hY' : Y.toList.drop (i+1)=ys:=by
    have:=congrArg List.tail hY
    simpa using this
   have hrest:=ih hr h2.2 hX' hY'
   rw [Op.eqFields,if_pos hn']
   simp only [Sem.run_bind,ho',run_part hb hx,run_part hb hy,run_pair h2.1,Result.andThen_ok]
   cases hc : cellEq x y with
   | false =>
    simp only [Bool.not_false,if_true,Sem.run_pure]
    cases hrr : zBi xs ys with
    | nil=>simp [zBi,hc,hrr,zB7]
    | cons b l=>simp [zBi,hc,hrr,zB7]
   | true =>
    simp only [Bool.not_true,Bool.false_eq_true,if_false,hrest]
    cases hrr : zBi xs ys with
    | nil=>simp [zBi,hc,hrr,zB7]
    | cons b l=>simp [zBi,hc,hrr,zB7]

theorem run_eqFlat {d:Nat}{t:TypeId}{fs:List Field}{X Y:List Value}(hu:P.underlying t=some (.struct fs.toArray)) (hp:P.stoodInHeld t=false) (hf:flatFs P 0 fs=true) (hx:pairsFs P fs X Y=true) :
  (Op.equalIn (d+2) t (.agg X.toArray) (.agg Y.toArray)).run P w=.ok (zB7 (zBi X Y)) w:=by
 have hfo : P.fieldsOf t=fs.toArray:=by simp [Program.fieldsOf,hu]
 rw [run_equalIn_struct w (d+1) t _ _ (by rw [hfo]; exact hu) hp,hfo]
 exact run_eqFields hf hx (by simp) (by simp)

def EqT (P:Program) (t:TypeId) (X Y:List Value) : Prop:=P.eqGuardType P.depth t=false∧∀ w,(Op.equalIn 10000 t (.agg X.toArray) (.agg Y.toArray)).run P w=.ok (zB7 (zBi X Y)) w
end
section
variable {P:Program} {N:Ev} {K:Fr→World→Prop} {Q:Post} {l:Fr} {w:World}
variable {d:Nat} {T U:TypeId} {pos:String} {aft:Array Edge} {g:Option (Nat×Bool)}
theorem op_eqlA {x y:Operand}{X Y:List Value}{T':TypeId}{b:Bool}(hx:evo l x=some (.agg X.toArray)) (hy:evo l y=some (.agg Y.toArray)) (h:EqT P T X Y) (hb:zB7 (zBi X Y)=b) (hN:Nat.blt d N.n=true) (k:K ((d,.bool b)::l) w) :
  OpW P N ⟨some d,.binOp .eql T x y T',U,pos,aft,g⟩ K Q l w :=
 op_bin hx hy (fun w=>run_eqGuard_agg w .eql T x y _ _ h.1) (fun w=>by rw [run_eql_struct,h.2 w,hb]; rfl) hN k
theorem op_neqA {x y:Operand}{X Y:List Value}{T':TypeId}{b:Bool}(hx:evo l x=some (.agg X.toArray)) (hy:evo l y=some (.agg Y.toArray)) (h:EqT P T X Y) (hb:zB7 (zBi X Y)=b) (hN:Nat.blt d N.n=true) (k:K ((d,.bool (!b))::l) w) :
  OpW P N ⟨some d,.binOp .neq T x y T',U,pos,aft,g⟩ K Q l w :=
 op_bin hx hy (fun w=>run_eqGuard_agg w .neq T x y _ _ h.1) (fun w=>by rw [run_neq_struct,h.2 w,hb]; rfl) hN k
end
end Go.Eng
namespace Go.Ab
open Go.RowKit Go.Shelf Go.Proofs Go.Eng

abbrev Str:=List UInt8
def bstr (s:Str) : ByteArray:=⟨s.toArray⟩
theorem bstr_data (b:ByteArray) : bstr b.data.toList=b:=by cases b; simp [bstr]
theorem zDb (s:Str) : (bstr s).size=s.length:=by simp [bstr,ByteArray.size]
theorem bstr_inj {s t:Str}(h:bstr s=bstr t) : s=t:=by simpa [bstr] using h

abbrev zDL:={ v : Value // v.oneCell'=true }
inductive Ty where
 | int (k:IntKind)
 | bool
 | str
 | unit
 | pair (a b:Ty)
 | st (a:Ty)
 | slice (e:Ty)
 | arr (n:Nat) (e:Ty)
 | raw (z:zDL)
 | map (k v:Ty)
 | ptr (t:Ty)
@[reducible] def Ty.den : Ty→Type
 | .int _=>Int
 | .bool=>Bool
 | .str=>Str
 | .unit=>Unit
 | .pair a b=>a.den×b.den
 | .st a=>a.den
 | .slice e=>List e.den
 | .arr _ e=>List e.den
 | .raw _=>zDL
 | .map k v=>List (k.den×v.den)
 | .ptr t=>Option t.den
def Ty.dflt : (t:Ty)→t.den
 | .int _=>(0:Int)
 | .bool=>false
 | .str=>([] : List UInt8)
 | .unit=>()
 | .pair a b=>(a.dflt,b.dflt)
 | .st a=>a.dflt
 | .slice e=>([] : List e.den)
 | .arr n e=>List.replicate n e.dflt
 | .raw z=>z
 | .map k v=>([] : List (k.den×v.den))
 | .ptr t=>(none:Option t.den)
def Ty.cells : Ty→Nat
 | .int _=>1
 | .bool=>1
 | .str=>1
 | .unit=>0
 | .pair a b=>a.cells+b.cells
 | .st a=>a.cells
 | .slice _=>1
 | .arr n e=>n * e.cells
 | .raw _=>1
 | .map _ _=>1
 | .ptr _=>1
def Ty.agg : Ty→Bool
 | .st _=>true
 | .arr _ _=>true
 | .unit=>true
 | .pair _ _=>true
 | _=>false

abbrev Mem:=Nat→Option Obj
def Mem.le (m m':Mem) : Prop:=∀ b o,m b=some o→m' b=some o
theorem Mem.le_refl (m:Mem) : m.le m:=fun _ _ h=>h
theorem Mem.le.trans {a b c:Mem}(h:a.le b) (k:b.le c) : a.le c:=fun x o hx=>k x o (h x o hx)

def zCQ (m:Mem) (b off:Nat) (vs:List Value) : Prop:=∀ j v,vs[j]?=some v→∃ cs T fr,m b=some (.cells cs T fr)∧cs[off+j]?=some v
theorem zCQ.mono {m m':Mem}{b off:Nat}{vs:List Value}(h:zCQ m b off vs) (hm:m.le m') : zCQ m' b off vs:=fun j v hj=>let ⟨cs,T,fr,h1,h2⟩:=h j v hj; ⟨cs,T,fr,hm _ _ h1,h2⟩

abbrev zC8 : Nat:=140737488355328

def zCP (es:Array MapEntry) (clock:Nat) : Prop:=(es.toList.map (·.born)).Nodup∧∀ e∈es.toList,e.born < clock
def RC (m:Mem) : (t:Ty)→t.den→List Value→Prop
 | .int k,x,cs=>cs=[.int k x]
 | .bool,x,cs=>cs=[.bool x]
 | .str,x,cs=>cs=[.string (bstr x)]
 | .unit,_,cs=>cs=[]
 | .pair a b,x,cs=>∃ c d,cs=c++d∧RC m a x.1 c∧RC m b x.2 d
 | .st a,x,cs=>RC m a x cs
 | .slice e,(x:List e.den),cs=>∃ A n c,cs=[.slice A n c]∧x.length=n∧n≤c∧n≤zC8∧∃ b o,(0 < n→A=some ⟨b,o,none⟩)∧∀ (i:Nat) (y:e.den),x[i]?=some y→∃ us,RC m e y us∧zCQ m b (o+i * e.cells) us
 | .arr n e,(x:List e.den),cs=>x.length=n∧∃ us : List (List Value),us.length=n∧cs=us.flatten∧∀ (i:Nat) (y:e.den) (u:List Value),x[i]?=some y→us[i]?=some u→RC m e y u
 | .raw _,x,cs=>cs=[x.1]
 | .map k v,(x:List (k.den×v.den)),cs=>(x=[]∧cs=[.map none])∨∃ (x':List (k.den×v.den)),x'.Perm x∧∃ (b:Nat) (es:Array MapEntry) (clock:Nat),cs=[.map (some b)]∧m b=some (.map es clock)∧es.toList.length=x'.length∧(x'.map (·.1)).Nodup∧zCP es clock ∧
   ∀ (i:Nat) (p:k.den×v.den) (e:MapEntry),x'[i]?=some p→es.toList[i]?=some e→(if k.agg then ∃ us,e.key=.agg us.toArray∧RC m k p.1 us else RC m k p.1 [e.key])∧(if v.agg then ∃ us,e.val=.agg us.toArray∧RC m v p.2 us else RC m v p.2 [e.val])
 | .ptr t,(x:Option t.den),cs=>(x=none∧cs=[.pointer none])∨∃ (y:t.den) (b o:Nat) (us:List Value),x=some y∧cs=[.pointer (some ⟨b,o,none⟩)]∧RC m t y us∧zCQ m b o us

theorem RC.mono {m m':Mem}(hm:m.le m') : ∀ {t:Ty}{x:t.den}{cs:List Value},RC m t x cs→RC m' t x cs:=by
 intro t
 induction t with
 | int k=>intro x cs h; exact h
 | bool=>intro x cs h; exact h
 | str=>intro x cs h; exact h
 | unit=>intro x cs h; exact h
 | pair a b iha ihb=>intro x cs h; obtain ⟨c,d,h1,h2,h3⟩:=h; exact ⟨c,d,h1,iha h2,ihb h3⟩
 | st a ih=>intro x cs h; exact ih (x:=x) h
 | slice e ih =>
  intro x cs h
  obtain ⟨A,n,c,h1,h2,h3,h4,b,o,h5,h6⟩:=h
  exact ⟨A,n,c,h1,h2,h3,h4,b,o,h5,fun i y hy=>let ⟨us,h7,h8⟩:=h6 i y hy; ⟨us,ih h7,h8.mono hm⟩⟩
 | arr n e ih =>
  intro x cs h
  obtain ⟨h1,us,h2,h3,h4⟩:=h
  exact ⟨h1,us,h2,h3,fun i y u hy hu=>ih (h4 i y u hy hu)⟩
 | raw z=>intro x cs h; exact h
 | map k v ihk ihv =>
  intro x cs h
  rcases h with h | ⟨x',hp,b,es,clock,h1,h2,h3,h4,h5,h6⟩
  ·exact .inl h
  ·refine .inr ⟨x',hp,b,es,clock,h1,hm _ _ h2,h3,h4,h5,fun i p e a1 a2=>?_⟩
   obtain ⟨g1,g2⟩:=h6 i p e a1 a2
   refine ⟨?_,?_⟩
   ·split at g1
    ·rename_i ha; rw [if_pos ha]; obtain ⟨us,q1,q2⟩:=g1; exact ⟨us,q1,ihk q2⟩
    ·rename_i ha; rw [if_neg ha]; exact ihk g1
   ·split at g2
    ·rename_i ha; rw [if_pos ha]; obtain ⟨us,q1,q2⟩:=g2; exact ⟨us,q1,ihv q2⟩
    ·rename_i ha; rw [if_neg ha]; exact ihv g2
 | ptr t ih =>
  intro x cs h
  rcases h with h | ⟨y,b,o,us,h1,h2,h3,h4⟩
  ·exact .inl h
  ·exact .inr ⟨y,b,o,us,h1,h2,ih h3,h4.mono hm⟩

theorem zCf {us:List (List Value)}{n k:Nat}(h:us.length=n) (hk:∀ u∈us,u.length=k) : us.flatten.length=n * k:=by
 subst h
 induction us with
 | nil=>simp
 | cons u us ih =>
  rw [List.flatten_cons,List.length_append,hk u (by simp),ih (fun v hv=>hk v (by simp [hv])),List.length_cons,Nat.add_mul]
  omega

theorem RC.len {m:Mem} : ∀ {t:Ty}{x:t.den}{cs:List Value},RC m t x cs→cs.length=t.cells:=by
 intro t
 induction t with
 | int k=>intro x cs h; cases h; rfl
 | bool=>intro x cs h; cases h; rfl
 | str=>intro x cs h; cases h; rfl
 | unit=>intro x cs h; cases h; rfl
 | pair a b iha ihb=>intro x cs h; obtain ⟨c,d,rfl,h2,h3⟩:=h; simp [iha h2,ihb h3,Ty.cells]
 | st a ih=>intro x cs h; exact ih (x:=x) h
 | slice e ih=>intro x cs h; obtain ⟨A,n,c,rfl,_⟩:=h; rfl
 | arr n e ih =>
  intro x cs h
  obtain ⟨h1,us,h2,rfl,h4⟩:=h
  refine zCf h2 fun u hu=>?_
  obtain ⟨i,hi,rfl⟩:=List.getElem_of_mem hu
  exact ih (h4 i (x[i]'(by omega)) _ (List.getElem?_eq_getElem (by omega)) (List.getElem?_eq_getElem hi))
 | raw z=>intro x cs h; cases h; rfl
 | map k v ihk ihv =>
  intro x cs h
  rcases h with ⟨_,rfl⟩ | ⟨x',_,b,es,clock,rfl,_⟩ <;> rfl
 | ptr t ih =>
  intro x cs h
  rcases h with ⟨_,rfl⟩ | ⟨y,b,o,us,_,rfl,_⟩ <;> rfl

theorem RC.one {m:Mem} : ∀ {t:Ty}{x:t.den}{cs:List Value},RC m t x cs→∀ v∈cs,v.oneCell'=true:=by
 intro t
 induction t with
 | int k=>intro x cs h; cases h; intro v hv; simp at hv; subst hv; rfl
 | bool=>intro x cs h; cases h; intro v hv; simp at hv; subst hv; rfl
 | str=>intro x cs h; cases h; intro v hv; simp at hv; subst hv; rfl
 | unit=>intro x cs h; cases h; intro v hv; simp at hv
 | pair a b iha ihb =>
  intro x cs h; obtain ⟨c,d,rfl,h2,h3⟩:=h
  intro v hv
  rcases List.mem_append.1 hv with hv | hv
  ·exact iha h2 v hv
  ·exact ihb h3 v hv
 | st a ih=>intro x cs h; exact ih (x:=x) h
 | slice e ih=>intro x cs h; obtain ⟨A,n,c,rfl,_⟩:=h; intro v hv; simp at hv; subst hv; rfl
 | arr n e ih =>
  intro x cs h
  obtain ⟨h1,us,h2,rfl,h4⟩:=h
  intro v hv
  obtain ⟨u,hu,hvu⟩:=List.mem_flatten.1 hv
  obtain ⟨i,hi,rfl⟩:=List.getElem_of_mem hu
  exact ih (h4 i (x[i]'(by omega)) _ (List.getElem?_eq_getElem (by omega)) (List.getElem?_eq_getElem hi)) v hvu
 | raw z=>intro x cs h; cases h; intro v hv; simp at hv; subst hv; exact x.2
 | map k v ihk ihv =>
  intro x cs h
  rcases h with ⟨_,rfl⟩ | ⟨x',_,b,es,clock,rfl,_⟩ <;> intro u hu <;> simp at hu <;> subst hu <;> rfl
 | ptr t ih =>
  intro x cs h
  rcases h with ⟨_,rfl⟩ | ⟨y,b,o,us,_,rfl,_⟩ <;> intro u hu <;> simp at hu <;> subst hu <;> rfl

def RV (m:Mem) (t:Ty) (x:t.den) (v:Value) : Prop:=if t.agg then ∃ cs,v=.agg cs.toArray∧RC m t x cs else RC m t x [v]

inductive AV where
 | int (k:IntKind) (z:Int)
 | bool (b:Bool)
 | str (s:Str)
 | sl (t:Ty) (x:List t.den)
 | nils
 | rp (cs:List AV)
 | agg (cs:List AV)
 | tup (vs:List AV)
 | ptr (i o:Nat)
 | osl (i:Nat)
 | ep (i sz z o:Nat)
 | map (i:Nat)
 | fn (f:FuncId) (first caps:List AV)
 | nilp
 | nilf
 | nili
 | nilm
 | yld (l:Nat)
 | val (v:Value)
 | clo (a:AV)
 | sog (i:Nat)
 | epg (i k:Nat)
 | row (i k:Nat)
 | epr (i k sz z o:Nat)
 | dm (tk tv:Ty) (x:List (tk.den×tv.den))
 | pd (t:Ty) (x:Option t.den)
 | any
 | bad

mutual
def RepA (m:Mem) (ρ:List Value) : AV→Value→Prop
 | .int k z,v=>v=.int k z
 | .bool b,v=>v=.bool b
 | .str s,v=>v=.string (bstr s)
 | .sl t x,v=>RC m (.slice t) x [v]
 | .nils,v=>v=.slice none 0 0
 | .rp cs,v=>∃ b o us,v=.pointer (some ⟨b,o,none⟩)∧RepL m ρ cs us∧zCQ m b o us∧(∀ u∈us,u.oneCell'=true)
 | .agg cs,v=>∃ us,v=.agg us.toArray∧RepL m ρ cs us∧(∀ u∈us,u.oneCell'=true)
 | .tup vs,v=>∃ us,v=.tuple us.toArray∧RepL m ρ vs us
 | .ptr i o,v=>∃ b,ρ[i]?=some (.pointer (some ⟨b,0,none⟩))∧v=.pointer (some ⟨b,o,none⟩)
 | .osl i,v=>ρ[i]?=some v∧v.oneCell'=true
 | .ep i sz z o,v=>∃ b n c,ρ[i]?=some (.slice (some ⟨b,0,none⟩) n c)∧v=.pointer (some ⟨b,z * sz+o,none⟩)
 | .map i,v=>ρ[i]?=some v∧v.oneCell'=true
 | .fn f first caps,v=>∃ us ws,v=.func (.func f) us.toArray ws.toArray∧RepL m ρ first us∧RepL m ρ caps ws
 | .nilp,v=>v=.pointer none
 | .nilf,v=>v=.nilFunc
 | .nili,v=>v=.nilIface
 | .nilm,v=>v=.map none
 | .yld l,v=>v=.func (.yield l) #[] #[]
 | .val u,v=>v=u
 | .clo a,v=>RepA m [] a v
 | .sog i,v=>∃ rs,ρ[i]?=some (.tuple (v::rs).toArray)∧v.oneCell'=true
 | .epg i k,v=>∃ b n c rs,ρ[i]?=some (.tuple (.slice (some ⟨b,0,none⟩) n c::rs).toArray)∧v=.pointer (some ⟨b,k,none⟩)
 | .row i k,v=>∃ h rs,ρ[i]?=some (.tuple (h::rs).toArray)∧rs[k]?=some v∧v.oneCell'=true
 | .epr i k sz z o,v=>∃ h rs b n c,ρ[i]?=some (.tuple (h::rs).toArray)∧rs[k]?=some (.slice (some ⟨b,0,none⟩) n c)∧v=.pointer (some ⟨b,z * sz+o,none⟩)
 | .dm tk tv x,v=>RC m (.map tk tv) x [v]
 | .pd t x,v=>RC m (.ptr t) x [v]
 | .any,_=>True
 | .bad,_=>False
def RepL (m:Mem) (ρ:List Value) : List AV→List Value→Prop
 | [],[]=>True
 | a::xs,v::vs=>RepA m ρ a v∧RepL m ρ xs vs
 | _,_=>False
end

theorem RepL.len {m:Mem}{ρ:List Value} : ∀ {xs:List AV}{vs:List Value},RepL m ρ xs vs→vs.length=xs.length:=by
 intro xs
 induction xs with
 | nil=>intro vs h; cases vs with
  | nil=>rfl
  | cons=>simp [RepL] at h
 | cons a xs ih=>intro vs h; cases vs with
  | nil=>simp [RepL] at h
  | cons v vs=>simp only [RepL] at h; simp [ih h.2]
theorem RepL.get {m:Mem}{ρ:List Value} : ∀ {xs:List AV}{vs:List Value}{i:Nat}{a:AV},RepL m ρ xs vs→xs[i]?=some a→∃ v,vs[i]?=some v∧RepA m ρ a v:=by
 intro xs
 induction xs with
 | nil=>intro vs i a h hi; simp at hi
 | cons a xs ih=>intro vs i b h hi; cases vs with
  | nil=>simp [RepL] at h
  | cons v vs =>
   simp only [RepL] at h
   cases i with
   | zero=>simp at hi; subst hi; exact ⟨v,rfl,h.1⟩
   | succ i=>simpa using ih h.2 (by simpa using hi)
theorem RepL.app {m:Mem}{ρ:List Value} : ∀ {xs bs:List AV}{us vs:List Value},RepL m ρ xs us→RepL m ρ bs vs→RepL m ρ (xs++bs) (us++vs):=by
 intro xs
 induction xs with
 | nil=>intro bs us vs h k; cases us with
  | nil=>simpa using k
  | cons=>simp [RepL] at h
 | cons a xs ih=>intro bs us vs h k; cases us with
  | nil=>simp [RepL] at h
  | cons u us=>simp only [RepL,List.cons_append] at h ⊢; exact ⟨h.1,ih h.2 k⟩
theorem RepL.split {m:Mem}{ρ:List Value} : ∀ {xs bs:List AV}{vs:List Value},RepL m ρ (xs++bs) vs→∃ us ws,vs=us++ws∧RepL m ρ xs us∧RepL m ρ bs ws:=by
 intro xs
 induction xs with
 | nil=>intro bs vs h; exact ⟨[],vs,rfl,by simp [RepL],h⟩
 | cons a xs ih=>intro bs vs h; cases vs with
  | nil=>simp [RepL] at h
  | cons v vs =>
   simp only [RepL,List.cons_append] at h
   obtain ⟨us,ws,rfl,h1,h2⟩:=ih h.2
   exact ⟨v::us,ws,rfl,⟨h.1,h1⟩,h2⟩
theorem RepL.drop {m:Mem}{ρ:List Value} : ∀ (k:Nat){xs:List AV}{vs:List Value},RepL m ρ xs vs→RepL m ρ (xs.drop k) (vs.drop k):=by
 intro k
 induction k with
 | zero=>intro xs vs h; simpa using h
 | succ k ih=>intro xs vs h; cases xs with
  | nil=>cases vs with
   | nil=>simp [RepL]
   | cons=>simp [RepL] at h
  | cons a xs=>cases vs with
   | nil=>simp [RepL] at h
   | cons v vs=>simp only [RepL] at h; simpa using ih h.2
theorem RepL.take {m:Mem}{ρ:List Value} : ∀ (k:Nat){xs:List AV}{vs:List Value},RepL m ρ xs vs→RepL m ρ (xs.take k) (vs.take k):=by
 intro k
 induction k with
 | zero=>intro xs vs h; simp [RepL]
 | succ k ih=>intro xs vs h; cases xs with
  | nil=>cases vs with
   | nil=>simp [RepL]
   | cons=>simp [RepL] at h
  | cons a xs=>cases vs with
   | nil=>simp [RepL] at h
   | cons v vs=>simp only [RepL,List.take_succ_cons] at h ⊢; exact ⟨h.1,ih h.2⟩

mutual
theorem RepA.mono {m m':Mem}{ρ ρ':List Value}(hm:m.le m') (hρ:∀ (i:Nat) (h:Value),ρ[i]?=some h→ρ'[i]?=some h) : ∀ (a:AV){v:Value},RepA m ρ a v→RepA m' ρ' a v
 | .int ..,v,h=>by simpa only [RepA] using h
 | .bool ..,v,h=>by simpa only [RepA] using h
 | .str ..,v,h=>by simpa only [RepA] using h
 | .sl ..,v,h=>by simp only [RepA] at h ⊢; exact h.mono hm
 | .nils,v,h=>by simpa only [RepA] using h
 | .rp cs,v,h=>by
  simp only [RepA] at h ⊢
  obtain ⟨b,o,us,h1,h2,h3,h4⟩:=h
  exact ⟨b,o,us,h1,RepL.mono hm hρ cs h2,h3.mono hm,h4⟩
 | .agg cs,v,h=>by
  simp only [RepA] at h ⊢
  obtain ⟨us,h1,h2,h4⟩:=h
  exact ⟨us,h1,RepL.mono hm hρ cs h2,h4⟩
 | .tup cs,v,h=>by
  simp only [RepA] at h ⊢
  obtain ⟨us,h1,h2⟩:=h
  exact ⟨us,h1,RepL.mono hm hρ cs h2⟩
 | .ptr i o,v,h=>by simp only [RepA] at h ⊢; obtain ⟨b,h1,h2⟩:=h; exact ⟨b,hρ _ _ h1,h2⟩
 | .osl i,v,h=>by simp only [RepA] at h ⊢; exact ⟨hρ _ _ h.1,h.2⟩
 | .ep i sz z o,v,h=>by simp only [RepA] at h ⊢; obtain ⟨b,n,c,h1,h2⟩:=h; exact ⟨b,n,c,hρ _ _ h1,h2⟩
 | .map i,v,h=>by simp only [RepA] at h ⊢; exact ⟨hρ _ _ h.1,h.2⟩
 | .fn f first caps,v,h=>by
  simp only [RepA] at h ⊢
  obtain ⟨us,ws,h1,h2,h3⟩:=h
  exact ⟨us,ws,h1,RepL.mono hm hρ first h2,RepL.mono hm hρ caps h3⟩
 | .nilp,v,h=>by simpa only [RepA] using h
 | .nilf,v,h=>by simpa only [RepA] using h
 | .nili,v,h=>by simpa only [RepA] using h
 | .nilm,v,h=>by simpa only [RepA] using h
 | .yld _,v,h=>by simpa only [RepA] using h
 | .val _,v,h=>by simpa only [RepA] using h
 | .clo a,v,h=>by simp only [RepA] at h ⊢; exact RepA.mono hm (fun _ _ h=>h) a h
 | .sog i,v,h=>by simp only [RepA] at h ⊢; obtain ⟨rs,h1,h2⟩:=h; exact ⟨rs,hρ _ _ h1,h2⟩
 | .epg i k,v,h=>by simp only [RepA] at h ⊢; obtain ⟨b,n,c,rs,h1,h2⟩:=h; exact ⟨b,n,c,rs,hρ _ _ h1,h2⟩
 | .row i k,v,h=>by simp only [RepA] at h ⊢; obtain ⟨hd,rs,h1,h2⟩:=h; exact ⟨hd,rs,hρ _ _ h1,h2⟩
 | .epr i k sz z o,v,h=>by simp only [RepA] at h ⊢; obtain ⟨hd,rs,b,n,c,h1,h2⟩:=h; exact ⟨hd,rs,b,n,c,hρ _ _ h1,h2⟩
 | .dm ..,v,h=>by simp only [RepA] at h ⊢; exact h.mono hm
 | .pd ..,v,h=>by simp only [RepA] at h ⊢; exact h.mono hm
 | .any,v,h=>by simp only [RepA]
 | .bad,v,h=>by simp only [RepA] at h
theorem RepL.mono {m m':Mem}{ρ ρ':List Value}(hm:m.le m') (hρ:∀ (i:Nat) (h:Value),ρ[i]?=some h→ρ'[i]?=some h) : ∀ (xs:List AV){vs:List Value},RepL m ρ xs vs→RepL m' ρ' xs vs
 | [],[],h=>by simp only [RepL]
 | [],_::_,h=>by simp only [RepL] at h
 | _::_,[],h=>by simp only [RepL] at h
 | a::xs,v::vs,h=>by simp only [RepL] at h ⊢; exact ⟨RepA.mono hm hρ a h.1,RepL.mono hm hρ xs h.2⟩
end

def expl : (t:Ty)→t.den→List AV
 | .int k,x=>[.int k x]
 | .bool,x=>[.bool x]
 | .str,x=>[.str x]
 | .unit,_=>[]
 | .pair a b,x=>expl a x.1++expl b x.2
 | .st a,x=>expl a x
 | .slice e,(x:List e.den)=>[.sl e x]
 | .raw _,x=>[.val x.1]
 | .map k v,x=>[.dm k v x]
 | .ptr t,x=>[.pd t x]
 | .arr n e,(x:List e.den)=>(List.range n).flatMap fun i=>expl e (x.getD i e.dflt)
def zBx (t:Ty) (x:t.den) : AV:=if t.agg then .agg (expl t x) else ((expl t x).head?).getD .any

theorem rc_expl {m:Mem}{ρ:List Value} : ∀ {t:Ty}{x:t.den}{cs:List Value},RC m t x cs→RepL m ρ (expl t x) cs:=by
 intro t
 induction t with
 | int k=>intro x cs h; cases h; simp [expl,RepL,RepA]
 | bool=>intro x cs h; cases h; simp [expl,RepL,RepA]
 | str=>intro x cs h; cases h; simp [expl,RepL,RepA]
 | unit=>intro x cs h; cases h; simp [expl,RepL]
 | pair a b iha ihb=>intro x cs h; obtain ⟨c,d,rfl,h2,h3⟩:=h; exact (iha h2).app (ihb h3)
 | st a ih=>intro x cs h; exact ih (x:=x) h
 | slice e ih =>
  intro x cs h
  have h':=h
  obtain ⟨A,n,c,rfl,_⟩:=h
  simp only [expl,RepL,RepA,and_true]
  exact h'
 | arr n e ih =>
  intro x cs h
  obtain ⟨h1,us,h2,rfl,h4⟩:=h
  have key : ∀ k,k≤n→RepL m ρ ((List.range k).flatMap fun i=>expl e (x.getD i e.dflt)) (us.take k).flatten:=by
   intro k
   induction k with
   | zero=>intro _; simp [RepL]
   | succ k ihk =>
    intro hk
    have hx : x[k]?=some (x[k]'(by omega)):=List.getElem?_eq_getElem (by omega)
    have hu : us[k]?=some (us[k]'(by omega)):=List.getElem?_eq_getElem (by omega)
    rw [List.range_succ,List.flatMap_append,List.take_add_one,List.flatten_append,hu]
    refine (ihk (by omega)).app ?_
    simp only [List.flatMap_cons,List.flatMap_nil,List.append_nil,Option.toList_some,List.flatten_cons,List.flatten_nil]
    rw [List.getD_eq_getElem?_getD,hx,Option.getD_some]
    exact ih (h4 k _ _ hx hu)
  have:=key n (Nat.le_refl _)
  rwa [List.take_of_length_le (by omega)] at this
 | raw z=>intro x cs h; cases h; simp [expl,RepL,RepA]
 | map k v ihk ihv =>
  intro x cs h
  have h':=h
  rcases h with ⟨_,rfl⟩ | ⟨x',_,b,es,clock,rfl,_⟩ <;> simp only [expl,RepL,RepA,and_true] <;> exact h'
 | ptr t ih =>
  intro x cs h
  have h':=h
  rcases h with ⟨_,rfl⟩ | ⟨y,b,o,us,_,rfl,_⟩ <;> simp only [expl,RepL,RepA,and_true] <;> exact h'

def Ty.noArr : Ty→Bool
 | .pair a b=>a.noArr&&b.noArr
 | .st a=>a.noArr
 | .arr _ _=>false
 | _=>true
def Ty.fit : (t:Ty)→t.den→Bool
 | .pair a b,x=>a.fit x.1&&b.fit x.2
 | .st a,x=>a.fit x
 | .arr n e,(x:List e.den)=>Nat.beq x.length n&&x.all fun y=>e.fit y
 | .int _,_=>true
 | .bool,_=>true
 | .str,_=>true
 | .unit,_=>true
 | .slice _,_=>true
 | .raw _,_=>true
 | .map _ _,_=>true
 | .ptr _,_=>true
theorem fit_noArr : ∀ {t:Ty}{x:t.den},t.noArr=true→t.fit x=true:=by
 intro t
 induction t with
 | pair a b iha ihb=>intro x h; simp only [Ty.noArr,Bool.and_eq_true] at h; simp only [Ty.fit,Bool.and_eq_true]; exact ⟨iha h.1,ihb h.2⟩
 | st a ih=>intro x h; exact ih (x:=x) h
 | arr n e ih=>intro x h; simp [Ty.noArr] at h
 | _=>intro x _; rfl
theorem zCY {m:Mem}{ρ:List Value} : ∀ {t:Ty}{x:t.den}{cs:List Value},t.fit x=true→RepL m ρ (expl t x) cs→RC m t x cs:=by
 have one : ∀ {a:AV} {cs:List Value},RepL m ρ [a] cs→∃ v,cs=[v]∧RepA m ρ a v:=by
  intro a cs h
  cases cs with
  | nil=>simp [RepL] at h
  | cons v vs=>cases vs with
   | nil=>simp only [RepL,and_true] at h; exact ⟨v,rfl,h⟩
   | cons=>simp [RepL] at h
 intro t
 induction t with
 | int k=>intro x cs _ h; obtain ⟨v,rfl,h'⟩:=one (a:=.int k x) h; simp only [RepA] at h'; subst h'; rfl
 | bool=>intro x cs _ h; obtain ⟨v,rfl,h'⟩:=one (a:=.bool x) h; simp only [RepA] at h'; subst h'; rfl
 | str=>intro x cs _ h; obtain ⟨v,rfl,h'⟩:=one (a:=.str x) h; simp only [RepA] at h'; subst h'; rfl
 | unit=>intro x cs _ h; cases cs with
  | nil=>rfl
  | cons=>simp [RepL,expl] at h
 | pair a b iha ihb =>
  intro x cs hn h
  simp only [Ty.fit,Bool.and_eq_true] at hn
  obtain ⟨us,ws,rfl,h1,h2⟩:=RepL.split h
  exact ⟨us,ws,rfl,iha hn.1 h1,ihb hn.2 h2⟩
 | st a ih=>intro x cs hn h; exact ih (x:=x) hn h
 | slice e ih=>intro x cs _ h; obtain ⟨v,rfl,h'⟩:=one (a:=.sl e x) h; simpa only [RepA] using h'
 | arr n e ih =>
  intro x cs hn h
  simp only [Ty.fit,Bool.and_eq_true,List.all_eq_true] at hn
  obtain ⟨hl,hn⟩:=hn
  have hl:=Nat.eq_of_beq_eq_true hl
  have key : ∀ (k:Nat) {vs:List Value},k≤n→RepL m ρ ((List.range k).flatMap fun i=>expl e (x.getD i e.dflt)) vs→∃ us : List (List Value),us.length=k∧vs=us.flatten∧∀ (i:Nat) (y:e.den) (u:List Value),i < k→x[i]?=some y→us[i]?=some u→RC m e y u:=by
   intro k
   induction k with
   | zero =>
    intro vs _ h
    cases vs with
    | nil=>exact ⟨[],rfl,rfl,fun i y u hi=>absurd hi (by omega)⟩
    | cons=>simp [RepL] at h
   | succ k ihk =>
    intro vs hk h
    rw [List.range_succ,List.flatMap_append] at h
    obtain ⟨us,ws,rfl,h1,h2⟩:=RepL.split h
    obtain ⟨vs,q1,q2,q3⟩:=ihk (by omega) h1
    have h2 : RepL m ρ (expl e (x.getD k e.dflt)) ws:=by simpa using h2
    have hx : x[k]?=some (x.getD k e.dflt):=by rw [List.getD_eq_getElem?_getD,List.getElem?_eq_getElem (show k < x.length by omega)]; rfl
    have hmem : x.getD k e.dflt∈x:=by rw [List.getD_eq_getElem?_getD,List.getElem?_eq_getElem (show k < x.length by omega)]; simp
    refine ⟨vs++[ws],by simp [q1],by simp [q2],fun i y u hi hy hu=>?_⟩
    rw [List.getElem?_append] at hu
    split at hu
    ·exact q3 i y u (by omega) hy hu
    ·have e1 : i=k:=by omega
     subst e1
     rw [q1,Nat.sub_self] at hu
     cases hu
     rw [hx] at hy
     cases hy
     exact ih (x:=x.getD i e.dflt) (hn _ hmem) h2
  obtain ⟨us,q1,q2,q3⟩:=key n (Nat.le_refl _) h
  exact ⟨hl,us,q1,q2,fun i y u hy hu=>q3 i y u (by have:=(List.getElem?_eq_some_iff.1 hy).1; omega) hy hu⟩
 | raw z=>intro x cs _ h; obtain ⟨v,rfl,h'⟩:=one (a:=.val x.1) h; simp only [RepA] at h'; subst h'; rfl
 | map k v ihk ihv=>intro x cs _ h; obtain ⟨u,rfl,h'⟩:=one (a:=.dm k v x) h; simpa only [RepA] using h'
 | ptr t ih=>intro x cs _ h; obtain ⟨u,rfl,h'⟩:=one (a:=.pd t x) h; simpa only [RepA] using h'

def ofV1 : Value→AV
 | .int k n=>.int k n
 | .bool b=>.bool b
 | .string s=>.str s.data.toList
 | .slice none 0 0=>.nils
 | .pointer none=>.nilp
 | .nilFunc=>.nilf
 | .nilIface=>.nili
 | .map none=>.nilm
 | v=>.val v
def ofV : Value→AV
 | .agg cs=>if cs.toList.all (·.oneCell') then .agg (cs.toList.map ofV1) else .val (.agg cs)
 | v=>ofV1 v
theorem rep_ofV1 (m:Mem) (ρ:List Value) (v:Value) : RepA m ρ (ofV1 v) v:=by
 unfold ofV1
 split <;> simp only [RepA]
 exact (congrArg Value.string (bstr_data _)).symm
theorem rep_ofV (m:Mem) (ρ:List Value) (v:Value) : RepA m ρ (ofV v) v:=by
 unfold ofV
 split
 ·rename_i cs
  split
  ·rename_i h
   simp only [RepA]
   refine ⟨cs.toList,by simp,?_,by simpa only [List.all_eq_true] using h⟩
   clear h
   induction cs.toList with
   | nil=>simp [RepL]
   | cons u us ih=>simp only [List.map_cons,RepL]; exact ⟨rep_ofV1 m ρ u,ih⟩
  ·simp only [RepA]
 ·exact rep_ofV1 m ρ v

inductive OT where
 | dat (t:Ty)
 | sl (E:TypeId) (e:OT)
 | mp (k:Ty) (v:OT)
 | pt (T:TypeId) (e:OT)
 | pair (a b:OT)
@[reducible] def OT.den : OT→Type
 | .dat t=>t.den
 | .sl _ e=>List e.den
 | .mp k v=>List (k.den×v.den)
 | .pt _ e=>e.den
 | .pair a b=>a.den×b.den
def OT.cells : OT→Nat
 | .dat t=>t.cells
 | .pair a b=>a.cells+b.cells
 | _=>1
def OT.aggB : OT→Bool
 | .dat t=>t.agg
 | .pair _ _=>true
 | _=>false
def OT.node : OT→Bool
 | .sl _ _=>true
 | .mp _ _=>true
 | .pt _ _=>true
 | _=>false

inductive AO where
 | dead
 | var (T:TypeId) (cs:List AV)
 | sl (T:TypeId) (t:Ty) (x:List t.den)
 | map (tk tv:Ty) (x:List (tk.den×tv.den))
 | slo (T T':TypeId) (t:Ty) (x:List (List t.den))
 | guest (p:Mem→List (Nat×Obj)→Prop)
 | mpt (k:Ty) (v:OT) (x:List (k.den×v.den)) (hs:List (k.den×Nat))
 | mapr (tk tv:Ty) (x left:List (tk.den×tv.den)) (cur:Option (tk.den×tv.den)) (j:Nat)
 | mit (tk tv:Ty) (left:List (tk.den×tv.den)) (cur:Option (tk.den×tv.den))
 | bld (T E:TypeId) (s:Str)
 | sloh (T T':TypeId) (t:Ty) (x:List (List t.den)) (z j:Nat)
 | tr (o:OT) (x:Option o.den)

abbrev Frag:=List (Nat×Obj)

def zBo (m:Mem) (t:Ty) (x:List t.den) (vs:List Value) : Prop:=∃ us : List (List Value),us.length=x.length∧vs=us.flatten∧∀ (i:Nat) (y:t.den) (u:List Value),x[i]?=some y→us[i]?=some u→RC m t y u

def SlRep (m:Mem) (T:TypeId) (t:Ty) (x:List t.den) (h:Value) (f:Frag) : Prop :=
 x.length≤zC8∧((x=[]∧h=.slice none 0 0∧f=[])∨∃ b c cs vs,h=.slice (some ⟨b,0,none⟩) x.length c∧f=[(b,.cells cs T (0,0))]∧x.length≤c∧c≤maxLen∧cs.size=c * t.cells ∧
   zBo m t x vs∧cs.toList.take (x.length * t.cells)=vs)
theorem zBo.mono {m m':Mem}(hm:m.le m'){t:Ty}{x:List t.den}{vs:List Value}(h:zBo m t x vs) : zBo m' t x vs :=
 let ⟨us,h6,h7,h8⟩:=h; ⟨us,h6,h7,fun i y u hy hu=>(h8 i y u hy hu).mono hm⟩
theorem SlRep.mono {m m':Mem}(hm:m.le m'){T:TypeId}{t:Ty}{x:List t.den}{h:Value}{f:Frag}(H:SlRep m T t x h f) : SlRep m' T t x h f:=by
 obtain ⟨h0,H | ⟨b,c,cs,vs,h1,h2,h3,h4,h5,h6,h9⟩⟩:=H
 ·exact ⟨h0,.inl H⟩
 ·exact ⟨h0,.inr ⟨b,c,cs,vs,h1,h2,h3,h4,h5,h6.mono hm,h9⟩⟩
def RowsO (m:Mem) (T:TypeId) (t:Ty) : List (List t.den)→List Value→List Frag→Prop
 | [],[],[]=>True
 | x::xs,r::rs,f::fs=>SlRep m T t x r f∧RowsO m T t xs rs fs
 | _,_,_=>False
theorem RowsO.mono {m m':Mem}(hm:m.le m'){T:TypeId}{t:Ty} : ∀ {x:List (List t.den)}{rs:List Value}{fs:List Frag},RowsO m T t x rs fs→RowsO m' T t x rs fs:=by
 intro x
 induction x with
 | nil=>intro rs fs h; cases rs with
  | nil=>cases fs with
   | nil=>trivial
   | cons=>exact h.elim
  | cons=>exact h.elim
 | cons y x ih=>intro rs fs h; cases rs with
  | nil=>exact h.elim
  | cons r rs=>cases fs with
   | nil=>exact h.elim
   | cons f fs=>exact ⟨h.1.mono hm,ih h.2⟩

def OR (m:Mem) : (o:OT)→o.den→List Value→Frag→Prop
 | .dat t,x,cs,f=>RC m t x cs∧f=[]
 | .pair a b,x,cs,f=>∃ c d g h,cs=c++d∧f=g++h∧OR m a x.1 c g∧OR m b x.2 d h
 | .pt T e,x,cs,f=>∃ b us g,cs=[.pointer (some ⟨b,0,none⟩)]∧f=(b,.cells us.toArray T (0,0))::g∧(∀ u∈us,u.oneCell'=true)∧OR m e x us g
 | .sl E e,(x:List e.den),cs,f=>x.length≤zC8∧((x=[]∧cs=[.slice none 0 0]∧f=[]) ∨
   ∃ (b c:Nat) (arr:Array Value) (us:List (List Value)) (fs:List Frag),cs=[.slice (some ⟨b,0,none⟩) x.length c]∧f=(b,.cells arr E (0,0))::fs.flatten∧x.length≤c∧c≤maxLen∧arr.size=c * e.cells∧us.length=x.length∧fs.length=x.length ∧
    arr.toList.take (x.length * e.cells)=us.flatten∧∀ (i:Nat) (y:e.den) (u:List Value) (g:Frag),x[i]?=some y→us[i]?=some u→fs[i]?=some g→OR m e y u g)
 | .mp k v,(x:List (k.den×v.den)),cs,f=>∃ (x':List (k.den×v.den)),x'.Perm x∧∃ (b:Nat) (es:Array MapEntry) (clock:Nat) (fs:List Frag),cs=[.map (some b)]∧f=(b,.map es clock)::fs.flatten ∧
   es.toList.length=x'.length∧fs.length=x'.length∧((x'.map (·.1)).Nodup∧zCP es clock) ∧
   ∀ (i:Nat) (p:k.den×v.den) (e:MapEntry) (g:Frag),x'[i]?=some p→es.toList[i]?=some e→fs[i]?=some g→RV m k p.1 e.key∧∃ us : List Value,(if v.aggB then e.val=.agg us.toArray else us=[e.val])∧OR m v p.2 us g
theorem RV.mono {m m':Mem}(hm:m.le m'){t:Ty}{x:t.den}{v:Value}(h:RV m t x v) : RV m' t x v:=by
 unfold RV at h ⊢
 split
 ·rename_i ha; rw [if_pos ha] at h; obtain ⟨cs,h1,h2⟩:=h; exact ⟨cs,h1,h2.mono hm⟩
 ·rename_i ha; rw [if_neg ha] at h; exact h.mono hm
theorem OR.mono {m m':Mem}(hm:m.le m') : ∀ {o:OT}{x:o.den}{cs:List Value}{f:Frag},OR m o x cs f→OR m' o x cs f:=by
 intro o
 induction o with
 | dat t=>intro x cs f h; exact ⟨h.1.mono hm,h.2⟩
 | pair a b iha ihb=>intro x cs f h; obtain ⟨c,d,g,k,h1,h2,h3,h4⟩:=h; exact ⟨c,d,g,k,h1,h2,iha h3,ihb h4⟩
 | pt T e ih=>intro x cs f h; obtain ⟨b,us,g,h1,h2,h3,h4⟩:=h; exact ⟨b,us,g,h1,h2,h3,ih h4⟩
 | sl E e ih =>
  intro x cs f h
  obtain ⟨h0,h | ⟨b,c,arr,us,fs,h1,h2,h3,h4,h5,h6,h7,h8,h9⟩⟩:=h
  ·exact ⟨h0,.inl h⟩
  ·exact ⟨h0,.inr ⟨b,c,arr,us,fs,h1,h2,h3,h4,h5,h6,h7,h8,fun i y u g a1 a2 a3=>ih (h9 i y u g a1 a2 a3)⟩⟩
 | mp k v ih =>
  intro x cs f h
  obtain ⟨x',hp,b,es,clock,fs,h1,h2,h3,h4,h5,h6⟩:=h
  refine ⟨x',hp,b,es,clock,fs,h1,h2,h3,h4,h5,fun i p e g a1 a2 a3=>?_⟩
  obtain ⟨b1,us,b2,b3⟩:=h6 i p e g a1 a2 a3
  exact ⟨b1.mono hm,us,b2,ih b3⟩
def HoleOk {κ:Type}(ρ:List Value) (ks:List κ) (q:κ×Nat) : Prop:=(∃ u,ρ[q.2]?=some u)∧(q.1∉ks→ρ[q.2]?=some (.slice none 0 0))
theorem HoleOk.tr {κ:Type}{ρ ρ':List Value}{ks:List κ}{z:κ}{n n':Nat}(h:HoleOk ρ ks (z,n)) (hr:∀ u,ρ[n]?=some u→ρ'[n']?=some u) : HoleOk ρ' ks (z,n') :=
 ⟨let ⟨u,hu⟩:=h.1; ⟨u,hr u hu⟩,fun hz=>hr _ (h.2 hz)⟩
def EntT (m:Mem) (ρ:List Value) (k:Ty) (v:OT) (hs:List (k.den×Nat)) (p:k.den×v.den) (e:MapEntry) (g:Frag) : Prop :=
 (RV m k p.1 e.key∧e.val.oneCell'=true)∧(∀ n,(p.1,n)∈hs→g=[]∧ρ[n]?=some e.val)∧((∀ n,(p.1,n)∉hs)→OR m v p.2 [e.val] g)
theorem EntT.mono {m m':Mem}{ρ ρ':List Value}(hm:m.le m') (hρ:∀ (i:Nat) (h:Value),ρ[i]?=some h→ρ'[i]?=some h){k:Ty}{v:OT}{hs:List (k.den×Nat)}{p:k.den×v.den}{e:MapEntry}{g:Frag}(h:EntT m ρ k v hs p e g) : EntT m' ρ' k v hs p e g :=
 ⟨⟨h.1.1.mono hm,h.1.2⟩,fun n hn=>⟨(h.2.1 n hn).1,hρ _ _ (h.2.1 n hn).2⟩,fun hn=>(h.2.2 hn).mono hm⟩

def EntM (m:Mem) (tk tv:Ty) (x:List (tk.den×tv.den)) (es:Array MapEntry) (clock:Nat) : Prop:=es.toList.length=x.length∧(x.map (·.1)).Nodup∧zCP es clock∧∀ (i:Nat) (p:tk.den×tv.den) (e:MapEntry),x[i]?=some p→es.toList[i]?=some e→RV m tk p.1 e.key∧RV m tv p.2 e.val
theorem EntM.mono {m m':Mem}(hm:m.le m'){tk tv:Ty}{x:List (tk.den×tv.den)}{es:Array MapEntry}{clock:Nat}(h:EntM m tk tv x es clock) : EntM m' tk tv x es clock :=
 ⟨h.1,h.2.1,h.2.2.1,fun i p e a b=>⟨(h.2.2.2 i p e a b).1.mono hm,(h.2.2.2 i p e a b).2.mono hm⟩⟩
def ItOk {α:Type}(x:List α) (es:Array MapEntry) (seen:Array Nat) (left:List α) (cur:Option α) (now:Prop) : Prop:=left=((x.zip es.toList).filter fun q=>!seen.contains q.2.born).map (·.1)∧∀ p,cur=some p→∃ (i:Nat) (e:MapEntry),x[i]?=some p∧es.toList[i]?=some e∧seen.back?=some e.born∧now
def ORep (m:Mem) (ρ:List Value) : AO→Value→Frag→Prop
 | .dead,_,f=>f=[]
 | .var T cs,h,f=>∃ b us,h=.pointer (some ⟨b,0,none⟩)∧f=[(b,.cells us.toArray T (0,0))]∧RepL m ρ cs us∧(∀ u∈us,u.oneCell'=true)
 | .sl T t x,h,f=>x.length≤zC8∧((x=[]∧h=.slice none 0 0∧f=[])∨∃ b c cs vs,h=.slice (some ⟨b,0,none⟩) x.length c∧f=[(b,.cells cs T (0,0))]∧x.length≤c∧c≤maxLen∧cs.size=c * t.cells ∧
   zBo m t x vs∧cs.toList.take (x.length * t.cells)=vs)
 | .slo T T' t x,h,f=>∃ rs fs f0 b c cs,h=.tuple (.slice (some ⟨b,0,none⟩) x.length c::rs).toArray∧f=f0++fs.flatten∧f0=[(b,.cells cs T (0,0))]∧x.length≤zC8∧x.length≤c∧c≤maxLen∧cs.size=c∧cs.toList.take x.length=rs∧RowsO m T' t x rs fs
 | .sloh T T' t x z j,h,f=>∃ rs fs f0 b c cs r,h=.tuple (.slice (some ⟨b,0,none⟩) x.length c::rs).toArray∧f=f0++fs.flatten∧f0=[(b,.cells cs T (0,0))]∧x.length≤zC8∧x.length≤c∧c≤maxLen∧cs.size=c∧cs.toList.take x.length=rs∧RowsO m T' t (x.set z []) (rs.set z (.slice none 0 0)) fs∧z < x.length∧rs[z]?=some r∧r.oneCell'=true∧ρ[j]?=some r
 | .guest p,h,f=>∃ m0,m0.le m∧p m0 f
 | .bld T E s,h,f=>s.length≤zC8∧∃ b,h=.pointer (some ⟨b,0,none⟩)∧((s=[]∧∃ p,(p=.pointer none∨p=.pointer (some ⟨b,0,none⟩))∧f=[(b,.cells #[p,.slice none 0 0] T (0,0))]) ∨
   ∃ b2 c cs,f=[(b,.cells #[.pointer (some ⟨b,0,none⟩),.slice (some ⟨b2,0,none⟩) s.length c] T (0,0)),(b2,.cells cs E (0,0))]∧s.length≤c∧c≤maxLen∧cs.size=c∧cs.toList.take s.length=s.map fun x=>Value.int .u8 x.toNat)
 | .mpt k v x hs,h,f=>v.node=true∧(∀ q∈hs,HoleOk ρ (x.map (·.1)) q)∧∃ (x':List (k.den×v.den)),x'.Perm x∧∃ (b:Nat) (es:Array MapEntry) (clock:Nat) (fs:List Frag),h=.map (some b)∧f=(b,.map es clock)::fs.flatten∧es.toList.length=x'.length∧fs.length=x'.length∧((x'.map (·.1)).Nodup∧zCP es clock) ∧
   ∀ (i:Nat) (p:k.den×v.den) (e:MapEntry) (g:Frag),x'[i]?=some p→es.toList[i]?=some e→fs[i]?=some g→EntT m ρ k v hs p e g
 | .map tk tv x,h,f=>∃ (x':List (tk.den×tv.den)),x'.Perm x∧∃ b es clock,h=.map (some b)∧f=[(b,.map es clock)]∧es.toList.length=x'.length∧(x'.map (·.1)).Nodup∧zCP es clock∧∀ (i:Nat) (p:tk.den×tv.den) (e:MapEntry),x'[i]?=some p→es.toList[i]?=some e→RV m tk p.1 e.key∧RV m tv p.2 e.val
 | .mapr tk tv x left cur j,h,f=>∃ (x':List (tk.den×tv.den)),x'.Perm x∧∃ b es clock r since c0 seen,h=.map (some b)∧f=[(b,.map es clock),(r,.mapIter (some b) since seen c0)]∧ρ[j]?=some (.pointer (some ⟨r,0,none⟩))∧EntM m tk tv x' es clock∧ItOk x' es seen left cur (c0=clock)∧(∀ e∈es.toList,e.born < since)∧since≤c0∧since≤clock
 | .mit tk tv left cur,h,f=>(∃ r since c0 seen,h=.pointer (some ⟨r,0,none⟩)∧left=[]∧cur=none∧f=[(r,.mapIter none since seen c0)])∨∃ b es clock r since c0 seen x,h=.pointer (some ⟨r,0,none⟩)∧m b=some (.map es clock)∧f=[(r,.mapIter (some b) since seen c0)]∧EntM m tk tv x es clock∧ItOk x es seen left cur (c0=clock)∧(∀ e∈es.toList,e.born < since)∧since≤c0∧since≤clock
 | .tr o x,h,f=>o.node=true∧((x=none∧h=.pointer none∧f=[])∨∃ y,x=some y∧OR m o y [h] f)

theorem ORep.mono {m m':Mem}{ρ ρ':List Value}(hm:m.le m') (hρ:∀ (i:Nat) (h:Value),ρ[i]?=some h→ρ'[i]?=some h){o:AO}{h:Value}{f:Frag}(H:ORep m ρ o h f) : ORep m' ρ' o h f:=by
 cases o with
 | dead=>exact H
 | var T cs=>obtain ⟨b,us,h1,h2,h3,h4⟩:=H; exact ⟨b,us,h1,h2,RepL.mono hm hρ cs h3,h4⟩
 | sl T t x =>
  obtain ⟨h0,H | ⟨b,c,cs,vs,h1,h2,h3,h4,h5,⟨us,h6,h7,h8⟩,h9⟩⟩:=H
  ·exact ⟨h0,.inl H⟩
  ·exact ⟨h0,.inr ⟨b,c,cs,vs,h1,h2,h3,h4,h5,⟨us,h6,h7,fun i y u hy hu=>(h8 i y u hy hu).mono hm⟩,h9⟩⟩
 | slo T T' t x =>
  obtain ⟨rs,fs,f0,b,c,cs,h1,h2,h3,h4,h5,h6,h7,h8,h9⟩:=H
  exact ⟨rs,fs,f0,b,c,cs,h1,h2,h3,h4,h5,h6,h7,h8,h9.mono hm⟩
 | sloh T T' t x z j =>
  obtain ⟨rs,fs,f0,b,c,cs,r,h1,h2,h3,h4,h5,h6,h7,h8,h9,h10,h11,h12,h13⟩:=H
  exact ⟨rs,fs,f0,b,c,cs,r,h1,h2,h3,h4,h5,h6,h7,h8,h9.mono hm,h10,h11,h12,hρ _ _ h13⟩
 | guest p=>obtain ⟨m0,h1,h2⟩:=H; exact ⟨m0,h1.trans hm,h2⟩
 | bld T E s=>exact H
 | mpt k v x hs=>obtain ⟨h0,h00,x',hp,b,es,cl,fs,h1,h2,h3,h4,h5,h6⟩:=H; exact ⟨h0,fun q hq=>(h00 q hq).tr (fun u hu=>hρ _ _ hu),x',hp,b,es,cl,fs,h1,h2,h3,h4,h5,fun i p e g a1 a2 a3=>(h6 i p e g a1 a2 a3).mono hm hρ⟩
 | map tk tv x =>
  obtain ⟨x',hp,b,es,cl,h1,h2,h3⟩:=H
  exact ⟨x',hp,b,es,cl,h1,h2,EntM.mono hm (x:=x') h3⟩
 | mapr tk tv x left cur j =>
  obtain ⟨x',hp,b,es,cl,r,since,c0,seen,h1,h2,h3,h4,h5⟩:=H
  exact ⟨x',hp,b,es,cl,r,since,c0,seen,h1,h2,hρ _ _ h3,h4.mono hm,h5⟩
 | mit tk tv left cur =>
  rcases H with H | ⟨b,es,cl,r,since,c0,seen,x,h1,h2,h3,h4,h5⟩
  ·exact .inl H
  ·exact .inr ⟨b,es,cl,r,since,c0,seen,x,h1,hm _ _ h2,h3,h4.mono hm,h5⟩
 | tr o x =>
  obtain ⟨h0,h1 | ⟨y,h1,h2⟩⟩:=H
  ·exact ⟨h0,.inl h1⟩
  ·exact ⟨h0,.inr ⟨y,h1,h2.mono hm⟩⟩

def inC (e:World) (k:Nat) : Prop:=∃ o,e.heap[k]?=some o∧ctl o=true
structure SH (e w:World) (m:Mem) (f:Frag) : Prop where
 os : w.os=e.os
 tape : w.tape=e.tape
 output : w.output=e.output
 fz : ∀ b o,m b=some o→w.heap[b]?=some o
 own : ∀ p∈f,w.heap[p.1]?=some p.2
 nd : (f.map (·.1)).Nodup
 dis : ∀ p∈f,m p.1=none
 noctl : ∀ p∈f,ctl p.2=true→inC e p.1
 mctl : ∀ b o,m b=some o→ctl o=false
 esz : e.heap.size≤w.heap.size

theorem SH.perm {e w:World}{m:Mem}{f g:Frag}(h:SH e w m f) (hp:f.Perm g) : SH e w m g :=
 ⟨h.os,h.tape,h.output,h.fz,fun p hm=>h.own p (hp.mem_iff.2 hm),(hp.map _).nodup_iff.1 h.nd,fun p hm=>h.dis p (hp.mem_iff.2 hm),fun p hm=>h.noctl p (hp.mem_iff.2 hm),h.mctl,h.esz⟩

theorem SH.lt {e w:World}{m:Mem}{f:Frag}(h:SH e w m f){p:Nat×Obj}(hp:p∈f) : p.1 < w.heap.size:=(Array.getElem?_eq_some_iff.1 (h.own p hp)).1

theorem SH.alloc {e w w':World}{m:Mem}{f:Frag}{b:Nat}{o:Obj}(h:SH e w m f) (hN:New w w' b o) (ho:ctl o=false) : SH e w' m ((b,o)::f):=by
 have hlt : ∀ x o',w.heap[x]?=some o'→x < w.heap.size:=fun x o' hx=>(Array.getElem?_eq_some_iff.1 hx).1
 refine ⟨hN.ext.os.trans h.os,hN.ext.tape.trans h.tape,hN.ext.output.trans h.output,fun x o' hx=>(hN.ext.block x (hlt _ _ (h.fz _ _ hx))).trans (h.fz _ _ hx),?_,?_,?_,?_,h.mctl,Nat.le_trans h.esz hN.ext.size⟩
 ·intro p hp
  rcases List.mem_cons.1 hp with rfl | hp
  ·exact hN.blk
  ·exact (hN.ext.block _ (h.lt hp)).trans (h.own p hp)
 ·rw [List.map_cons,List.nodup_cons]
  refine ⟨fun hm=>?_,h.nd⟩
  obtain ⟨p,hp,he⟩:=List.mem_map.1 hm
  have:=h.lt hp
  have h3 : b=w.heap.size:=hN.eq
  simp only at he
  omega
 ·intro p hp
  rcases List.mem_cons.1 hp with rfl | hp
  ·show m b=none
   cases hb : m b with
   | none=>rfl
   | some o'=>have:=hlt _ _ (h.fz _ _ hb); rw [hN.eq] at this; omega
  ·exact h.dis p hp
 ·intro p hp
  rcases List.mem_cons.1 hp with rfl | hp
  ·intro hc; rw [ho] at hc; cases hc
  ·exact h.noctl p hp

theorem SH.put {e w w':World}{m:Mem}{f:Frag}{b:Nat}{o o':Obj}(h:SH e w m ((b,o)::f)) (hP:Put w w' b) (hb:w'.heap[b]?=some o') (ho:ctl o'=false) : SH e w' m ((b,o')::f):=by
 have hnd:=h.nd
 rw [List.map_cons,List.nodup_cons] at hnd
 refine ⟨hP.os.trans h.os,hP.tape.trans h.tape,hP.output.trans h.output,fun x o' hx=>(hP.other x ?_).trans (h.fz _ _ hx),?_,?_,?_,?_,h.mctl,by rw [hP.size]; exact h.esz⟩
 ·rintro rfl
  have:=h.dis (x,o) (by simp)
  simp only at this
  rw [this] at hx; cases hx
 ·intro p hp
  rcases List.mem_cons.1 hp with rfl | hp
  ·exact hb
  ·refine (hP.other _ ?_).trans (h.own p (by simp [hp]))
   intro he
   exact hnd.1 (List.mem_map.2 ⟨p,hp,he⟩)
 ·rw [List.map_cons,List.nodup_cons]; exact hnd
 ·intro p hp
  rcases List.mem_cons.1 hp with rfl | hp
  ·exact h.dis (b,o) (by simp)
  ·exact h.dis p (by simp [hp])
 ·intro p hp
  rcases List.mem_cons.1 hp with rfl | hp
  ·intro hc; rw [ho] at hc; cases hc
  ·exact h.noctl p (by simp [hp])

theorem SH.ext {e w w':World}{m:Mem}{f:Frag}(h:SH e w m f) (hB:Below w.heap.size w w') : SH e w' m f:=by
 have hlt : ∀ x o',w.heap[x]?=some o'→x < w.heap.size:=fun x o' hx=>(Array.getElem?_eq_some_iff.1 hx).1
 exact ⟨hB.os.trans h.os,hB.tape.trans h.tape,hB.output.trans h.output,fun x o hx=>(hB.block x (hlt _ _ (h.fz _ _ hx))).trans (h.fz _ _ hx),fun p hp=>(hB.block _ (h.lt hp)).trans (h.own p hp),h.nd,h.dis,h.noctl,h.mctl,Nat.le_trans h.esz hB.size⟩

def Mem.add (m:Mem) (g:Frag) : Mem:=fun b=>match m b with
 | some o=>some o
 | none=>(g.find? fun p=>Nat.beq p.1 b&&!ctl p.2).map (·.2)
theorem Mem.le_add (m:Mem) (g:Frag) : m.le (m.add g):=fun b o h=>by simp [Mem.add,h]
theorem SH.frz {e w:World}{m:Mem}{g f:Frag}(h:SH e w m (g++f)) : SH e w (m.add g) f:=by
 have hnd:=h.nd
 rw [List.map_append,List.nodup_append] at hnd
 refine ⟨h.os,h.tape,h.output,?_,fun p hp=>h.own p (by simp [hp]),hnd.2.1,?_,fun p hp=>h.noctl p (by simp [hp]),?_,h.esz⟩
 ·intro b o hb
  unfold Mem.add at hb
  split at hb
  ·rename_i o' ho; cases hb; exact h.fz _ _ ho
  ·rw [Option.map_eq_some_iff] at hb
   obtain ⟨p,hp,rfl⟩:=hb
   have h1:=List.mem_of_find?_eq_some hp
   have h2:=List.find?_some hp
   rw [Bool.and_eq_true] at h2
   have h3 : p.1=b:=Nat.eq_of_beq_eq_true h2.1
   subst h3
   exact h.own p (by simp [h1])
 ·intro p hp
  unfold Mem.add
  rw [h.dis p (by simp [hp])]
  simp only [Option.map_eq_none_iff,List.find?_eq_none]
  intro q hq he
  rw [Bool.and_eq_true] at he
  have h3 : q.1=p.1:=Nat.eq_of_beq_eq_true he.1
  exact hnd.2.2 q.1 (List.mem_map.2 ⟨q,hq,rfl⟩) p.1 (List.mem_map.2 ⟨p,hp,rfl⟩) h3
 ·intro b o hb
  unfold Mem.add at hb
  split at hb
  ·rename_i o' ho; cases hb; exact h.mctl _ _ ho
  ·rw [Option.map_eq_some_iff] at hb
   obtain ⟨p,hp,rfl⟩:=hb
   have h2:=List.find?_some hp
   rw [Bool.and_eq_true] at h2
   simpa using h2.2
theorem SH.weak {e w:World}{m m':Mem}{f:Frag}(h:SH e w m f) (hm:m'.le m) : SH e w m' f :=
 ⟨h.os,h.tape,h.output,fun b o hb=>h.fz b o (hm b o hb),h.own,h.nd,fun p hp=>(by
  cases hx : m' p.1 with
  | none=>rfl
  | some o=>have:=hm _ _ hx; rw [h.dis p hp] at this; cases this),h.noctl,fun b o hb=>h.mctl b o (hm b o hb),h.esz⟩
theorem add_get {m:Mem}{g:Frag}{b:Nat}{o:Obj}(hnd:(g.map (·.1)).Nodup) (hg:(b,o)∈g) (hm:m b=none) (ho:ctl o=false) : m.add g b=some o:=by
 unfold Mem.add
 rw [hm]
 simp only [Option.map_eq_some_iff]
 refine ⟨(b,o),?_,rfl⟩
 induction g with
 | nil=>cases hg
 | cons p g ih =>
  rw [List.map_cons,List.nodup_cons] at hnd
  rcases List.mem_cons.1 hg with rfl | hg
  ·simp [ho]
  ·have : p.1≠b:=fun e=>hnd.1 (List.mem_map.2 ⟨(b,o),hg,e.symm⟩)
   have h2 : Nat.beq p.1 b=false:=by
    rw [Bool.eq_false_iff]; intro hc; exact this (Nat.eq_of_beq_eq_true hc)
   rw [List.find?_cons_of_neg (by simp [h2])]
   exact ih hnd.2 hg
end Go.Ab
namespace Go.Ab
open Go.RowKit Go.Shelf Go.Proofs Go.Eng

abbrev AFr:=List (Nat×AV)
def AFr.look : AFr→Nat→Option AV
 | [],_=>none
 | (d,v)::l,t=>bif Nat.beq d t then some v else AFr.look l t
abbrev AH:=List (Nat×AO)
def AH.get : AH→Nat→AO
 | [],_=>.dead
 | (d,v)::l,t=>bif Nat.beq d t then v else AH.get l t
structure AS where
 l : AFr
 H : AH
 n : Nat
def AS.put (st:AS) (d:Nat) (a:AV) : AS:=⟨(d,a)::st.l,st.H,st.n⟩

def aev (l:AFr) : Operand→Option AV
 | .tmp t=>l.look t
 | .const v=>some (ofV v)
 | .func f=>some (.fn f [] [])
 | .global _=>none

structure Cx where
 e : World
 m : Mem
 ρ : List Value
 F : Frag

structure Conc (X:Cx) (st:AS) (fr:Fr) (w:World) (m:Mem) (ρ:List Value) (φ:List Frag) : Prop where
 mle : X.m.le m
 pre : ∀ (i:Nat) (h:Value),X.ρ[i]?=some h→ρ[i]?=some h
 nρ : ρ.length=st.n
 nφ : φ.length=st.n
 slots : ∀ t a,st.l.look t=some a→∃ v,fr.look t=some v∧RepA m ρ a v
 objs : ∀ (i:Nat) (h:Value) (f:Frag),ρ[i]?=some h→φ[i]?=some f→ORep m ρ (st.H.get i) h f
 sh : SH X.e w m (φ.flatten++X.F)

abbrev zBa:=Exit→AS→Prop
def upQ (X:Cx) (Q:zBa) : Post:=fun e fr w=>∃ st m ρ φ,Conc X st fr w m ρ φ∧Q e st
def upK (X:Cx) (K:AS→Prop) : Fr→World→Prop:=fun fr w=>∃ st m ρ φ,Conc X st fr w m ρ φ∧K st
def athen (K:AS→Prop) (Q:zBa) : zBa
 | .normal,st=>K st
 | e,st=>Q e st
def zBP (id:Nat) (Q:zBa) : zBa
 | .exit id',st=>bif Nat.beq id' id then Q .normal st else Q (.exit id') st
 | e,st=>Q e st

def AWC (P:Program) (N:Ev) (X:Cx) (c:Code) (Q:zBa) (st:AS) : Prop:=∀ fr w m ρ φ,Conc X st fr w m ρ φ→WC P N c (upQ X Q) fr w
def AWL (P:Program) (N:Ev) (X:Cx) (ops:Array Oper) (Q:zBa) (rest:List Oper) (st:AS) : Prop:=∀ fr w m ρ φ,Conc X st fr w m ρ φ→WL P N ops (upQ X Q) rest fr w
def AOp (P:Program) (N:Ev) (X:Cx) (o:Oper) (K:AS→Prop) (st:AS) : Prop:=∀ (Q:Post) fr w m ρ φ,Conc X st fr w m ρ φ→OpW P N o (upK X K) Q fr w
def AOpV (P:Program) (N:Ev) (X:Cx) (o:Oper) (a:AV) (st:AS) : Prop:=∀ (Q:Post) fr w m ρ φ,Conc X st fr w m ρ φ →
 OpW P N o (fun fr' w'=>∃ d v,o.dst=some d∧fr'=(d,v)::fr∧Below w.heap.size w w'∧∃ m',m.le m'∧SH X.e w' m' (φ.flatten++X.F)∧RepA m' ρ a v) Q fr w

section
variable {P:Program} {N:Ev} {X:Cx} {Q:zBa} {st:AS}

theorem AFr.look_cons (d:Nat) (v:AV) (l:AFr) (t:Nat) : AFr.look ((d,v)::l) t=if d=t then some v else AFr.look l t:=by
 simp only [AFr.look]
 by_cases h : d=t
 ·subst h; simp
 ·have : Nat.beq d t=false:=by
   rw [Bool.eq_false_iff]; intro hc; exact h (Nat.eq_of_beq_eq_true hc)
  simp [this,h]
theorem AH.get_cons (d:Nat) (v:AO) (l:AH) (t:Nat) : AH.get ((d,v)::l) t=if d=t then v else AH.get l t:=by
 simp only [AH.get]
 by_cases h : d=t
 ·subst h; simp
 ·have : Nat.beq d t=false:=by
   rw [Bool.eq_false_iff]; intro hc; exact h (Nat.eq_of_beq_eq_true hc)
  simp [this,h]

theorem Conc.put {fr:Fr}{w:World}{m:Mem}{ρ:List Value}{φ:List Frag}(h:Conc X st fr w m ρ φ){d:Nat}{a:AV}{v:Value}(ha:RepA m ρ a v) : Conc X (st.put d a) ((d,v)::fr) w m ρ φ:=by
 refine ⟨h.mle,h.pre,h.nρ,h.nφ,?_,h.objs,h.sh⟩
 intro t b hb
 simp only [AS.put,AFr.look_cons] at hb
 rw [Fr.look_cons]
 split
 ·rename_i e; rw [if_pos e] at hb; cases hb; exact ⟨v,rfl,ha⟩
 ·rename_i e; rw [if_neg e] at hb; exact h.slots t b hb

theorem Conc.grow {fr:Fr}{w w':World}{m m':Mem}{ρ:List Value}{φ:List Frag}(h:Conc X st fr w m ρ φ) (hm:m.le m') (hs:SH X.e w' m' (φ.flatten++X.F)) : Conc X st fr w' m' ρ φ :=
 ⟨h.mle.trans hm,h.pre,h.nρ,h.nφ,fun t a ha=>let ⟨v,h1,h2⟩:=h.slots t a ha; ⟨v,h1,RepA.mono hm (fun _ _ h=>h) a h2⟩,fun i hd f h1 h2=>(h.objs i hd f h1 h2).mono hm (fun _ _ h=>h),hs⟩

theorem Conc.ev {fr:Fr}{w:World}{m:Mem}{ρ:List Value}{φ:List Frag}(h:Conc X st fr w m ρ φ){x:Operand}{a:AV}(hx:aev st.l x=some a) : ∃ v,evo fr x=some v∧RepA m ρ a v:=by
 cases x with
 | tmp t=>exact h.slots t a hx
 | const v=>simp only [aev,Option.some.injEq] at hx; subst hx; exact ⟨v,rfl,rep_ofV m ρ v⟩
 | func f=>simp only [aev,Option.some.injEq] at hx; subst hx; exact ⟨_,rfl,by simp only [RepA]; exact ⟨[],[],rfl,by simp [RepL],by simp [RepL]⟩⟩
 | global g=>simp [aev] at hx

theorem awc_mono {c:Code}{Q':zBa}(hq:∀ e st,Q e st→Q' e st) (h:AWC P N X c Q st) : AWC P N X c Q' st :=
 fun fr w m ρ φ hc=>WC.mono (fun e l w ⟨st,m,ρ,φ,h1,h2⟩=>⟨st,m,ρ,φ,h1,hq _ _ h2⟩) (h fr w m ρ φ hc)

theorem zDO {c d:Code}(h:AWC P N X c (athen (AWC P N X d Q) Q) st) : AWC P N X (.seq c d) Q st:=by
 intro fr w m ρ φ hc
 refine wc_seq (WC.mono ?_ (h fr w m ρ φ hc))
 rintro e l w ⟨st,m,ρ,φ,h1,h2⟩
 cases e with
 | normal=>exact h2 _ _ _ _ _ h1
 | _=>exact ⟨st,m,ρ,φ,h1,h2⟩
theorem zAv (h:Q .normal st) : AWC P N X .skip Q st:=fun fr w m ρ φ hc=>wc_skip ⟨st,m,ρ,φ,hc,h⟩
theorem zAH {id:Nat}(h:Q (.exit id) st) : AWC P N X (.exit id) Q st:=fun fr w m ρ φ hc=>wc_exit ⟨st,m,ρ,φ,hc,h⟩
theorem zAw (h:Q .ret st) : AWC P N X .ret Q st:=fun fr w m ρ φ hc=>wc_ret ⟨st,m,ρ,φ,hc,h⟩
theorem zDv {id:Nat}{c:Code}(h:AWC P N X c (zBP id Q) st) : AWC P N X (.block id c) Q st:=by
 intro fr w m ρ φ hc
 refine wc_block (WC.mono ?_ (h fr w m ρ φ hc))
 rintro e l w ⟨st,m,ρ,φ,h1,h2⟩
 cases e with
 | exit id' =>
  simp only [blockQ,zBP] at h2 ⊢
  cases hb : Nat.beq id' id
  ·rw [hb] at h2; exact ⟨st,m,ρ,φ,h1,h2⟩
  ·rw [hb] at h2; exact ⟨st,m,ρ,φ,h1,h2⟩
 | _=>exact ⟨st,m,ρ,φ,h1,h2⟩
theorem zAO {c:Operand}{x y:Code}{b:Bool}(hc:aev st.l c=some (.bool b)) (ht:b=true→AWC P N X x Q st) (hf:b=false→AWC P N X y Q st) : AWC P N X (.cond c x y) Q st:=by
 intro fr w m ρ φ h
 obtain ⟨v,h1,h2⟩:=h.ev hc
 simp only [RepA] at h2
 subst h2
 exact wc_cond h1 (fun hb=>ht hb fr w m ρ φ h) (fun hb=>hf hb fr w m ρ φ h)
theorem zAZ {K:AS→Prop}(h:K st) : athen K Q .normal st:=h
theorem zAF {K:AS→Prop}{i:Nat}(h:Q (.exit i) st) : athen K Q (.exit i) st:=h
theorem zAC {K:AS→Prop}(h:Q .ret st) : athen K Q .ret st:=h
theorem zAS {id:Nat}(h:Q .normal st) : zBP id Q .normal st:=h
theorem zAE {id:Nat}(h:Q .ret st) : zBP id Q .ret st:=h
theorem zAl {id:Nat}(h:Q .normal st) : zBP id Q (.exit id) st:=by simp [zBP]; exact h
theorem zDK {id:Nat}{ops:List Oper}(h:AWL P N X ops.toArray Q ops st) : AWC P N X (.region id ops.toArray false) Q st:=fun fr w m ρ φ hc=>wc_region (h fr w m ρ φ hc)
theorem zAJ {ops:Array Oper}(h:Q .normal st) : AWL P N X ops Q [] st:=fun fr w m ρ φ hc=>wl_done ⟨st,m,ρ,φ,hc,h⟩
theorem zAK {ops:Array Oper}{o:Oper}{rest:List Oper}(h:AOp P N X o (AWL P N X ops Q rest) st) (hg:o.guard=none:=by rfl) : AWL P N X ops Q (o::rest) st:=by
 intro fr w m ρ φ hc
 refine wl_op hg ?_
 have:=h (upQ X Q) fr w m ρ φ hc
 intro a ha hgd
 refine Oper.wpIn_mono ?_ (this a ha hgd)
 rintro a w ⟨l',hl',g',⟨st',m',ρ',φ',h1,h2⟩⟩
 exact ⟨l',hl',g',h2 _ _ _ _ _ h1⟩
theorem zAX {o:Oper}{a:AV}{K:AS→Prop}{d:Nat}(h:AOpV P N X o a st) (k:K (st.put d a)) (hd:o.dst=some d:=by rfl) : AOp P N X o K st:=by
 intro Q fr w m ρ φ hc a' ha hgd
 refine Oper.wpIn_mono ?_ (h Q fr w m ρ φ hc a' ha hgd)
 rintro a w' ⟨l',hl',g',⟨d',v,hd',rfl,hb,m',hm,hs,hr⟩⟩
 rw [hd] at hd'; cases hd'
 exact ⟨_,hl',g',⟨_,m',ρ,φ,(hc.grow hm hs).put hr,k⟩⟩
theorem zDY {ops:Array Oper}{o:Oper}{rest:List Oper}{a:AV}{d:Nat}(h:AOpV P N X o a st) (k:AWL P N X ops Q rest (st.put d a)) (hd:o.dst=some d:=by rfl) (hg:o.guard=none:=by rfl) : AWL P N X ops Q (o::rest) st :=
 zAK (zAX h k hd) hg

theorem zA6 {o:Oper}{a:AV}{d:Nat}(hd:o.dst=some d) (h:∀ (Q:Post) fr w m ρ φ,Conc X st fr w m ρ φ→∃ v,RepA m ρ a v∧∀ K : Fr→World→Prop,K ((d,v)::fr) w→OpW P N o K Q fr w) : AOpV P N X o a st:=by
 intro Q fr w m ρ φ hc
 obtain ⟨v,h1,h2⟩:=h Q fr w m ρ φ hc
 exact h2 _ ⟨d,v,hd,rfl,Below.refl _ _,m,Mem.le_refl _,hc.sh,h1⟩
end

section
variable {X:Cx} {st:AS} {fr:Fr} {w:World} {m:Mem} {ρ:List Value} {φ:List Frag}
theorem Conc.int {x:Operand}{k:IntKind}{z:Int}(h:Conc X st fr w m ρ φ) (hx:aev st.l x=some (.int k z)) : evo fr x=some (.int k z):=by
 obtain ⟨v,h1,h2⟩:=h.ev hx; simp only [RepA] at h2; subst h2; exact h1
theorem Conc.bool {x:Operand}{b:Bool}(h:Conc X st fr w m ρ φ) (hx:aev st.l x=some (.bool b)) : evo fr x=some (.bool b):=by
 obtain ⟨v,h1,h2⟩:=h.ev hx; simp only [RepA] at h2; subst h2; exact h1
theorem Conc.str {x:Operand}{s:Str}(h:Conc X st fr w m ρ φ) (hx:aev st.l x=some (.str s)) : evo fr x=some (.string (bstr s)):=by
 obtain ⟨v,h1,h2⟩:=h.ev hx; simp only [RepA] at h2; subst h2; exact h1
theorem Conc.evl {xs:List Operand}{as':List AV}(h:Conc X st fr w m ρ φ) (hx:(xs.map (aev st.l))=as'.map some) : ∃ vs,evl fr xs=some vs∧RepL m ρ as' vs:=by
 induction xs generalizing as' with
 | nil=>cases as' with
  | nil=>exact ⟨[],rfl,by simp [RepL]⟩
  | cons=>simp at hx
 | cons x xs ih=>cases as' with
  | nil=>simp at hx
  | cons a as' =>
   simp only [List.map_cons,List.cons.injEq] at hx
   obtain ⟨v,h1,h2⟩:=h.ev hx.1
   obtain ⟨vs,h3,h4⟩:=ih hx.2
   exact ⟨v::vs,by simp [Eng.evl,h1,h3],by simp only [RepL]; exact ⟨h2,h4⟩⟩
end
end Go.Ab
namespace Go.Ab
open Go.RowKit Go.Shelf Go.Proofs Go.Eng

def TyS (P:Program) (T:Nat) (b:Bool) (n:Nat) : Prop:=AggT P T b∧Sz P T n

theorem zCQ.cells {e w:World}{m:Mem}{f:Frag}{b o:Nat}{us:List Value}(h:zCQ m b o us) (hs:SH e w m f) : zCX w b o us:=by
 intro j v hj
 obtain ⟨cs,T,fr,h1,h2⟩:=h j v hj
 exact zDR (hs.fz _ _ h1) h2

theorem zBo.at {m:Mem}{t:Ty}{x:List t.den}{vs:List Value}(h:zBo m t x vs){z:Nat}{y:t.den}(hz:x[z]?=some y) : ∃ u,RC m t y u∧∀ j v,u[j]?=some v→vs[z * t.cells+j]?=some v:=by
 obtain ⟨us,h1,rfl,h3⟩:=h
 have hzl:=(List.getElem?_eq_some_iff.1 hz).1
 obtain ⟨w,hw⟩ : ∃ w,us[z]?=some w:=⟨_,List.getElem?_eq_getElem (by omega)⟩
 refine ⟨w,h3 z y _ hz hw,?_⟩
 have hall : ∀ u∈us,u.length=t.cells:=by
  intro u hu
  obtain ⟨i,hi,rfl⟩:=List.getElem_of_mem hu
  exact RC.len (h3 i (x[i]'(by omega)) _ (List.getElem?_eq_getElem (by omega)) (List.getElem?_eq_getElem hi))
 clear h3 h1 hz hzl
 induction us generalizing z with
 | nil=>simp at hw
 | cons u us ih =>
  intro j v hj
  have hu : u.length=t.cells:=hall u (by simp)
  rw [List.flatten_cons]
  cases z with
  | zero =>
   simp only [List.getElem?_cons_zero,Option.some.injEq] at hw
   subst hw
   have hjl:=(List.getElem?_eq_some_iff.1 hj).1
   rw [Nat.zero_mul,Nat.zero_add,List.getElem?_append_left hjl]; exact hj
  | succ z =>
   rw [List.getElem?_append_right (by rw [hu,Nat.add_mul]; omega),hu,show (z+1) * t.cells+j - t.cells=z * t.cells+j by rw [Nat.add_mul]; omega]
   exact ih (by simpa using hw) (fun u hu=>hall u (by simp [hu])) j v hj

def ix {α:Type}(x:List α) (z:Int) : Option α:=if 0≤z then x[z.toNat]? else none
theorem ix_some {α:Type}{x:List α}{z:Int}{e:α}(h:ix x z=some e) : 0≤z∧z.toNat < x.length∧x[z.toNat]?=some e:=by
 unfold ix at h
 split at h
 ·rename_i h0; exact ⟨h0,(List.getElem?_eq_some_iff.1 h).1,h⟩
 ·cases h

section
variable {P:Program} {N:Ev} {X:Cx} {Q:zBa} {st:AS}
variable {d:Nat} {T U T':TypeId} {pos:String} {aft:Array Edge} {g:Option (Nat×Bool)} {x y:Operand} {k ky:IntKind} {a b:Int}

theorem Conc.obj {fr:Fr}{w:World}{m:Mem}{ρ:List Value}{φ:List Frag}(hc:Conc X st fr w m ρ φ){i:Nat}{h:Value}(hi:ρ[i]?=some h) : ∃ f,φ[i]?=some f∧ORep m ρ (st.H.get i) h f∧∀ p∈f,w.heap[p.1]?=some p.2:=by
 have hl:=(List.getElem?_eq_some_iff.1 hi).1
 have hf : φ[i]?=some (φ[i]'(by rw [hc.nφ,← hc.nρ]; exact hl)):=List.getElem?_eq_getElem _
 refine ⟨_,hf,hc.objs i h _ hi hf,fun p hp=>hc.sh.own p (List.mem_append.2 (.inl (List.mem_flatten.2 ⟨_,List.mem_of_getElem? hf,hp⟩)))⟩

theorem zAg {v:AV}(hx:aev st.l x=some v) (hN:Nat.blt d N.n=true:=by rfl) : AOpV P N X ⟨some d,.move x,T,pos,aft,g⟩ v st :=
 zA6 rfl fun Q fr w m ρ φ hc=>let ⟨u,h1,h2⟩:=hc.ev hx; ⟨u,h2,fun K hk=>op_move h1 hN hk⟩
theorem zDJ {v:AV}(hx:aev st.l x=some v) (hN:Nat.blt d N.n=true:=by rfl) : AOpV P N X ⟨some d,.assign x,T,pos,aft,g⟩ v st :=
 zA6 rfl fun Q fr w m ρ φ hc=>let ⟨u,h1,h2⟩:=hc.ev hx; ⟨u,h2,fun K hk=>op_assign h1 hN hk⟩

theorem zBK {m:Mem}{ρ:List Value}{z:Int} : RepA m ρ (.int k z) (.int k z):=by simp only [RepA]
theorem zAx {m:Mem}{ρ:List Value}{z:Bool} : RepA m ρ (.bool z) (.bool z):=by simp only [RepA]
theorem rep_str {m:Mem}{ρ:List Value}{z:Str} : RepA m ρ (.str z) (.string (bstr z)):=by simp only [RepA]

theorem av_bin {op:BinOp}{ax ay r:AV}(hx:aev st.l x=some ax) (hy:aev st.l y=some ay) (h:∀ m ρ vx vy,RepA m ρ ax vx→RepA m ρ ay vy→∃ v,RepA m ρ r v∧(∀ w,(eqGuard op T x y vx vy).run P w=.ok () w)∧∀ w,(binOp op T vx vy).run P w=.ok v w)
  (hN:Nat.blt d N.n=true) : AOpV P N X ⟨some d,.binOp op T x y T',U,pos,aft,g⟩ r st :=
 zA6 rfl fun Q fr w m ρ φ hc=>by
  obtain ⟨vx,h1,h2⟩:=hc.ev hx
  obtain ⟨vy,h3,h4⟩:=hc.ev hy
  obtain ⟨v,h5,h6,h7⟩:=h m ρ vx vy h2 h4
  exact ⟨v,h5,fun K hk=>op_bin h1 h3 h6 h7 hN hk⟩
theorem zBQ {op:BinOp}{r:AV}(hx:aev st.l x=some (.int k a)) (hy:aev st.l y=some (.int ky b)) (h:∀ m ρ,∃ v,RepA m ρ r v∧∀ w,(binOp op T (.int k a) (.int ky b)).run P w=.ok v w)
  (hN:Nat.blt d N.n=true) : AOpV P N X ⟨some d,.binOp op T x y T',U,pos,aft,g⟩ r st :=
 av_bin hx hy (fun m ρ vx vy h1 h2=>by
  simp only [RepA] at h1 h2; subst h1 h2
  obtain ⟨v,h3,h4⟩:=h m ρ
  exact ⟨v,h3,fun w=>by cases op <;> simp [eqGuard],h4⟩) hN

theorem zD3 (hx:aev st.l x=some (.int k a)) (hy:aev st.l y=some (.int k b)) (hN:Nat.blt d N.n=true:=by rfl) : AOpV P N X ⟨some d,.binOp .add T x y T',U,pos,aft,g⟩ (.int k (k.wrap (a+b))) st :=
 zBQ hx hy (fun m ρ=>⟨_,zBK,fun w=>by simp [binOp,Op.intArith]⟩) hN
theorem zDz (hx:aev st.l x=some (.int k a)) (hy:aev st.l y=some (.int k b)) (hN:Nat.blt d N.n=true:=by rfl) : AOpV P N X ⟨some d,.binOp .sub T x y T',U,pos,aft,g⟩ (.int k (k.wrap (a - b))) st :=
 zBQ hx hy (fun m ρ=>⟨_,zBK,fun w=>by simp [binOp,Op.intArith]⟩) hN
theorem av_lss (hx:aev st.l x=some (.int k a)) (hy:aev st.l y=some (.int k b)) (hN:Nat.blt d N.n=true:=by rfl) : AOpV P N X ⟨some d,.binOp .lss T x y T',U,pos,aft,g⟩ (.bool (decide (a < b))) st :=
 zBQ hx hy (fun m ρ=>⟨_,zAx,fun w=>by simp [binOp,Op.intCmp]⟩) hN
theorem av_leq (hx:aev st.l x=some (.int k a)) (hy:aev st.l y=some (.int k b)) (hN:Nat.blt d N.n=true:=by rfl) : AOpV P N X ⟨some d,.binOp .leq T x y T',U,pos,aft,g⟩ (.bool (decide (a≤b))) st :=
 zBQ hx hy (fun m ρ=>⟨_,zAx,fun w=>by simp [binOp,Op.intCmp]⟩) hN
theorem av_gtr (hx:aev st.l x=some (.int k a)) (hy:aev st.l y=some (.int k b)) (hN:Nat.blt d N.n=true:=by rfl) : AOpV P N X ⟨some d,.binOp .gtr T x y T',U,pos,aft,g⟩ (.bool (decide (b < a))) st :=
 zBQ hx hy (fun m ρ=>⟨_,zAx,fun w=>by simp [binOp,Op.intCmp]⟩) hN
theorem av_geq (hx:aev st.l x=some (.int k a)) (hy:aev st.l y=some (.int k b)) (hN:Nat.blt d N.n=true:=by rfl) : AOpV P N X ⟨some d,.binOp .geq T x y T',U,pos,aft,g⟩ (.bool (decide (b≤a))) st :=
 zBQ hx hy (fun m ρ=>⟨_,zAx,fun w=>by simp [binOp,Op.intCmp]⟩) hN
theorem av_eql (hx:aev st.l x=some (.int k a)) (hy:aev st.l y=some (.int k b)) (hN:Nat.blt d N.n=true:=by rfl) : AOpV P N X ⟨some d,.binOp .eql T x y T',U,pos,aft,g⟩ (.bool (decide (a=b))) st :=
 zBQ hx hy (fun m ρ=>⟨_,zAx,fun w=>by simp [binOp,Op.intCmp]; rfl⟩) hN
theorem zD0 (hx:aev st.l x=some (.int k a)) (hy:aev st.l y=some (.int k b)) (hN:Nat.blt d N.n=true:=by rfl) : AOpV P N X ⟨some d,.binOp .neq T x y T',U,pos,aft,g⟩ (.bool (!decide (a=b))) st :=
 zBQ hx hy (fun m ρ=>⟨_,zAx,fun w=>by simp [binOp,Op.intCmp]; rfl⟩) hN
theorem bstr_toList (s:Str) : (bstr s).toList=s:=by rw [ByteArray.toList_eq]; simp [bstr]
theorem av_ss {op:BinOp}{r:AV}{s t:Str}(hx:aev st.l x=some (.str s)) (hy:aev st.l y=some (.str t)) (h:∀ m ρ,∃ v,RepA m ρ r v∧∀ w,(Op.stringOp op (bstr s) (bstr t)).run P w=.ok v w)
  (hop:op≠.shl∧op≠.shr:=by decide) (hN:Nat.blt d N.n=true) : AOpV P N X ⟨some d,.binOp op T x y T',U,pos,aft,g⟩ r st :=
 av_bin hx hy (fun m ρ vx vy h1 h2=>by
  simp only [RepA] at h1 h2; subst h1 h2
  obtain ⟨v,h3,h4⟩:=h m ρ
  exact ⟨v,h3,fun w=>by cases op <;> simp [eqGuard],fun w=>by rw [← h4 w]; cases op <;> rfl⟩) hN
theorem beq_str (s t:Str) : (s == t)=decide (s=t):=by
 by_cases h : s=t <;> simp [h]
theorem av_neqs {s t:Str}(hx:aev st.l x=some (.str s)) (hy:aev st.l y=some (.str t)) (hN:Nat.blt d N.n=true:=by rfl) : AOpV P N X ⟨some d,.binOp .neq T x y T',U,pos,aft,g⟩ (.bool (!decide (s=t))) st :=
 av_ss hx hy (fun m ρ=>⟨_,zAx,fun w=>by simp only [Op.stringOp,bstr_toList,beq_str]; rfl⟩) (by decide) hN
theorem bstr_app (s t:Str) : bstr s++bstr t=bstr (s++t):=by
 have : (bstr s++bstr t).data=(bstr (s++t)).data:=by simp [bstr,ByteArray.data_append]
 cases h : bstr s++bstr t; rw [h] at this; simp only at this; subst this; rfl
def strOk (n:Nat) : Bool:=Nat.ble n zC8
theorem av_adds {s t:Str}(hx:aev st.l x=some (.str s)) (hy:aev st.l y=some (.str t)) (hb:strOk (s.length+t.length)=true) (hN:Nat.blt d N.n=true:=by rfl) : AOpV P N X ⟨some d,.binOp .add T x y T',U,pos,aft,g⟩ (.str (s++t)) st :=
 av_ss hx hy (fun m ρ=>⟨_,rep_str,fun w=>by
  have hb:=Nat.le_of_ble_eq_true hb
  have hc : zC8=140737488355328:=rfl
  simp only [Op.stringOp,zDb]
  rw [if_neg (by simp only [IntKind.max,IntKind.bits,IntKind.signed]; simp; omega),bstr_app]; rfl⟩) (by decide) hN

theorem zDx {c:Bool}(hx:aev st.l x=some (.bool c)) (hN:Nat.blt d N.n=true:=by rfl) : AOpV P N X ⟨some d,.unOp .not T x,U,pos,aft,g⟩ (.bool (!c)) st :=
 zA6 rfl fun Q fr w m ρ φ hc=>⟨_,zAx,fun K hk=>op_not (hc.bool hx) hN hk⟩
def flatB : AV→Bool
 | .int _ _=>true
 | .bool _=>true
 | .str _=>true
 | _=>false
def flatV : AV→Value
 | .int k z=>.int k z
 | .bool b=>.bool b
 | .str s=>.string (bstr s)
 | _=>undef
theorem flat_rep {m:Mem}{ρ:List Value}{a:AV}{v:Value}(hf:flatB a=true) (h:RepA m ρ a v) : v=flatV a:=by
 cases a <;> simp [flatB] at hf <;> simpa only [RepA,flatV] using h
theorem flat_repL {m:Mem}{ρ:List Value} : ∀ {as':List AV}{vs:List Value},(as'.all flatB)=true→RepL m ρ as' vs→vs=as'.map flatV:=by
 intro as'
 induction as' with
 | nil=>intro vs _ h; cases vs with
  | nil=>rfl
  | cons=>simp [RepL] at h
 | cons a as' ih=>intro vs hf h; cases vs with
  | nil=>simp [RepL] at h
  | cons v vs =>
   simp only [RepL] at h
   simp only [List.all_cons,Bool.and_eq_true] at hf
   rw [flat_rep hf.1 h.1,ih hf.2 h.2,List.map_cons]
theorem av_eqlA {cs ds:List AV}{Xs Ys:List Value}{r:Bool}(h:EqT P T Xs Ys) (hx:aev st.l x=some (.agg cs)) (hy:aev st.l y=some (.agg ds)) (hf:(cs.all flatB&&ds.all flatB)=true) (hX:cs.map flatV=Xs) (hY:ds.map flatV=Ys) (hr:zB7 (zBi Xs Ys)=r) (hN:Nat.blt d N.n=true:=by rfl) :
  AOpV P N X ⟨some d,.binOp .eql T x y T',U,pos,aft,g⟩ (.bool r) st :=
 zA6 rfl fun Q fr w m ρ φ hc=>⟨_,zAx,fun K hk=>by
  obtain ⟨v,h1,h2⟩:=hc.ev hx
  obtain ⟨u,h3,h4⟩:=hc.ev hy
  simp only [RepA] at h2 h4
  obtain ⟨vs,rfl,h5,_⟩:=h2
  obtain ⟨us,rfl,h6,_⟩:=h4
  simp only [Bool.and_eq_true] at hf
  rw [flat_repL hf.1 h5,hX] at h1
  rw [flat_repL hf.2 h6,hY] at h3
  exact op_eqlA h1 h3 h hr hN hk⟩
theorem av_neqA {cs ds:List AV}{Xs Ys:List Value}{r:Bool}(h:EqT P T Xs Ys) (hx:aev st.l x=some (.agg cs)) (hy:aev st.l y=some (.agg ds)) (hf:(cs.all flatB&&ds.all flatB)=true) (hX:cs.map flatV=Xs) (hY:ds.map flatV=Ys) (hr:zB7 (zBi Xs Ys)=r) (hN:Nat.blt d N.n=true:=by rfl) :
  AOpV P N X ⟨some d,.binOp .neq T x y T',U,pos,aft,g⟩ (.bool (!r)) st :=
 zA6 rfl fun Q fr w m ρ φ hc=>⟨_,zAx,fun K hk=>by
  obtain ⟨v,h1,h2⟩:=hc.ev hx
  obtain ⟨u,h3,h4⟩:=hc.ev hy
  simp only [RepA] at h2 h4
  obtain ⟨vs,rfl,h5,_⟩:=h2
  obtain ⟨us,rfl,h6,_⟩:=h4
  simp only [Bool.and_eq_true] at hf
  rw [flat_repL hf.1 h5,hX] at h1
  rw [flat_repL hf.2 h6,hY] at h3
  exact op_neqA h1 h3 h hr hN hk⟩

theorem zA0 {t:Ty}{xs:List t.den}{e:Nat}{ts:Array TypeId}{cl:Array Operand}(hc:cl=#[x]) (ht:ts=#[T]) (hU:Und P T (.slice e)) (hx:aev st.l x=some (.sl t xs)) (hN:Nat.blt d N.n=true:=by rfl) :
  AOpV P N X ⟨some d,.call ⟨.builtin .len,cl,ts⟩,U,pos,aft,g⟩ (.int .i64 (xs.length : Int)) st :=
 zA6 rfl fun Q fr w m ρ φ hcc=>by
  obtain ⟨v,h1,h2⟩:=hcc.ev hx
  simp only [RepA,RC] at h2
  obtain ⟨A,n,c,h3,h4,_⟩:=h2
  cases h3
  rw [h4]
  exact ⟨_,zBK,fun K hk=>op_len_slice hc ht hU h1 hN hk⟩
theorem zC7 {i:Nat}{t:Ty}{xs:List t.den}{e E:Nat}{ts:Array TypeId}{cl:Array Operand}(hc:cl=#[x]) (ht:ts=#[T]) (hU:Und P T (.slice e)) (hx:aev st.l x=some (.osl i)) (hH:st.H.get i=.sl E t xs) (hN:Nat.blt d N.n=true:=by rfl) :
  AOpV P N X ⟨some d,.call ⟨.builtin .len,cl,ts⟩,U,pos,aft,g⟩ (.int .i64 (xs.length : Int)) st :=
 zA6 rfl fun Q fr w m ρ φ hcc=>by
  obtain ⟨v,h1,h2⟩:=hcc.ev hx
  simp only [RepA] at h2
  obtain ⟨f,_,ho,_⟩:=hcc.obj h2.1
  rw [hH] at ho
  obtain ⟨_,⟨rfl,rfl,_⟩ | ⟨b,c,cs,vs,rfl,_⟩⟩:=ho
  ·exact ⟨_,zBK,fun K hk=>op_len_slice hc ht hU h1 hN hk⟩
  ·exact ⟨_,zBK,fun K hk=>op_len_slice hc ht hU h1 hN hk⟩
theorem av_len_str {s:Str}{ts:Array TypeId}{cl:Array Operand}(hc:cl=#[x]) (ht:ts=#[T]) (hU:Und P T .string) (hx:aev st.l x=some (.str s)) (hN:Nat.blt d N.n=true:=by rfl) :
  AOpV P N X ⟨some d,.call ⟨.builtin .len,cl,ts⟩,U,pos,aft,g⟩ (.int .i64 (s.length : Int)) st :=
 zA6 rfl fun Q fr w m ρ φ hcc=>⟨_,zBK,fun K hk=>op_len_str hc ht hU (hcc.str hx) hN (by rw [zDb]; exact hk)⟩
theorem av_min {ts:Array TypeId}{cl:Array Operand}(hc:cl=#[x,y]) (hx:aev st.l x=some (.int k a)) (hy:aev st.l y=some (.int k b)) (hN:Nat.blt d N.n=true:=by rfl) :
  AOpV P N X ⟨some d,.call ⟨.builtin .min,cl,ts⟩,U,pos,aft,g⟩ (.int k (min a b)) st :=
 zA6 rfl fun Q fr w m ρ φ hcc=>⟨_,zBK,fun K hk=>op_min hc (hcc.int hx) (hcc.int hy) hN (by rw [show (if b < a then b else a)=min a b by split <;> omega]; exact hk)⟩
theorem RepL.one1 {m:Mem}{ρ:List Value}{a:AV}{r:List AV}{us:List Value}(h:RepL m ρ (a::r) us) : ∃ u us',us=u::us'∧RepA m ρ a u∧RepL m ρ r us':=by
 cases us with
 | nil=>simp [RepL] at h
 | cons u us=>simp only [RepL] at h; exact ⟨u,us,rfl,h.1,h.2⟩

theorem zDC {v:AV}{r:List AV}(hT:TyS P T false 1) (hx:aev st.l x=some (.rp (v::r))) (hN:Nat.blt d N.n=true:=by rfl) : AOpV P N X ⟨some d,.load T x,U,pos,aft,g⟩ v st :=
 zA6 rfl fun Q fr w m ρ φ hc=>by
  obtain ⟨p,h1,h2⟩:=hc.ev hx
  simp only [RepA] at h2
  obtain ⟨b,o,us,rfl,h3,h4,h5⟩:=h2
  obtain ⟨u,us',rfl,h6,_⟩:=h3.one1
  exact ⟨u,h6,fun K hk=>op_load1 h1 hT.1 ((h4.cells hc.sh).head) hN hk⟩
theorem zDw {n:Nat}{cs ds:List AV}(hT:TyS P T true n) (hx:aev st.l x=some (.rp cs)) (hd:cs.take n=ds) (hl:Nat.beq ds.length n=true) (hN:Nat.blt d N.n=true:=by rfl) : AOpV P N X ⟨some d,.load T x,U,pos,aft,g⟩ (.agg ds) st :=
 zA6 rfl fun Q fr w m ρ φ hc=>by
  obtain ⟨p,h1,h2⟩:=hc.ev hx
  simp only [RepA] at h2
  obtain ⟨b,o,us,rfl,h3,h4,h5⟩:=h2
  have hl':=Nat.eq_of_beq_eq_true hl
  subst hd
  have h6:=h3.take n
  refine ⟨.agg (us.take n).toArray,?_,fun K hk=>op_loadN h1 hT.1 hT.2 ?_ ?_ hN hk⟩
  ·simp only [RepA]; exact ⟨_,rfl,h6,fun u hu=>h5 u (List.mem_of_mem_take hu)⟩
  ·rw [h6.len]; exact hl'
  ·exact cells_sub (h4.cells hc.sh) 0 _ (by simp)
theorem own_cells {m:Mem}{ρ:List Value}{φ:List Frag}{fr:Fr}{w:World}(hc:Conc X st fr w m ρ φ){i o:Nat}{T':TypeId}{cs:List AV}{v:Value}(hv:RepA m ρ (.ptr i o) v) (hH:st.H.get i=.var T' cs) : ∃ b us,v=.pointer (some ⟨b,o,none⟩)∧w.heap[b]?=some (.cells us.toArray T' (0,0))∧RepL m ρ cs us∧(∀ u∈us,u.oneCell'=true):=by
 simp only [RepA] at hv
 obtain ⟨b,h1,rfl⟩:=hv
 obtain ⟨f,_,ho,hw⟩:=hc.obj h1
 rw [hH] at ho
 obtain ⟨b',us,h2,rfl,h3,h4⟩:=ho
 cases h2
 exact ⟨b,us,rfl,hw (b,_) (List.mem_singleton.2 rfl),h3,h4⟩
theorem zAU {i o:Nat}{cs:List AV}{v:AV}{r:List AV}(hT:TyS P T false 1) (hx:aev st.l x=some (.ptr i o)) (hH:st.H.get i=.var T' cs) (hd:cs.drop o=v::r) (hN:Nat.blt d N.n=true:=by rfl) : AOpV P N X ⟨some d,.load T x,U,pos,aft,g⟩ v st :=
 zA6 rfl fun Q fr w m ρ φ hc=>by
  obtain ⟨p,h1,h2⟩:=hc.ev hx
  obtain ⟨b,us,rfl,h3,h4,_⟩:=own_cells hc h2 hH
  have h5:=h4.drop o
  rw [hd] at h5
  obtain ⟨u,us',h6,h7,_⟩:=h5.one1
  refine ⟨u,h7,fun K hk=>op_load1 h1 hT.1 (zDR h3 ?_) hN hk⟩
  have : (us.drop o)[0]?=some u:=by rw [h6]; rfl
  rw [List.getElem?_drop] at this
  simpa using this
theorem zDG {n i o:Nat}{cs ds:List AV}(hT:TyS P T true n) (hx:aev st.l x=some (.ptr i o)) (hH:st.H.get i=.var T' cs) (hd:(cs.drop o).take n=ds) (hl:Nat.beq ds.length n=true) (hN:Nat.blt d N.n=true:=by rfl) : AOpV P N X ⟨some d,.load T x,U,pos,aft,g⟩ (.agg ds) st :=
 zA6 rfl fun Q fr w m ρ φ hc=>by
  obtain ⟨p,h1,h2⟩:=hc.ev hx
  obtain ⟨b,us,rfl,h3,h4,h5⟩:=own_cells hc h2 hH
  have hl':=Nat.eq_of_beq_eq_true hl
  subst hd
  have h6:=(h4.drop o).take n
  refine ⟨.agg ((us.drop o).take n).toArray,?_,fun K hk=>op_loadN h1 hT.1 hT.2 ?_ ?_ hN hk⟩
  ·simp only [RepA]; exact ⟨_,rfl,h6,fun u hu=>h5 u (List.mem_of_mem_drop (List.mem_of_mem_take hu))⟩
  ·rw [h6.len]; exact hl'
  ·intro j v hj
   refine zDR h3 ?_
   rw [List.getElem?_take] at hj
   split at hj
   ·rw [List.getElem?_drop] at hj; simpa using hj
   ·cases hj
theorem own_elem {m:Mem}{ρ:List Value}{φ:List Frag}{fr:Fr}{w:World}(hc:Conc X st fr w m ρ φ){i z o:Nat}{E:TypeId}{t:Ty}{xs:List t.den}{e:t.den}{v:Value}(hv:RepA m ρ (.ep i t.cells z o) v) (hH:st.H.get i=.sl E t xs) (he:xs[z]?=some e) :
  ∃ b us,v=.pointer (some ⟨b,z * t.cells+o,none⟩)∧RC m t e us∧zCX w b (z * t.cells) us:=by
 simp only [RepA] at hv
 obtain ⟨b,n,c,h1,rfl⟩:=hv
 obtain ⟨f,_,ho,hw⟩:=hc.obj h1
 rw [hH] at ho
 obtain ⟨_,⟨_,h2,_⟩ | ⟨b',c',cs,vs,h2,rfl,h3,h4,h5,h6,h7⟩⟩:=ho
 ·cases h2
 ·cases h2
  obtain ⟨u,h8,h9⟩:=h6.at he
  refine ⟨b,u,rfl,h8,fun j v hj=>zDR (hw (b,_) (List.mem_singleton.2 rfl)) ?_⟩
  have:=h9 j v hj
  rw [← h7,List.getElem?_take] at this
  split at this
  ·simpa using this
  ·cases this
theorem zAu {i z o sz:Nat}{E:TypeId}{t:Ty}{xs:List t.den}{e:t.den}{v:AV}{r:List AV}(hT:TyS P T false 1) (hx:aev st.l x=some (.ep i sz z o)) (hH:st.H.get i=.sl E t xs) (hsz:sz=t.cells) (he:xs[z]?=some e) (hd:(expl t e).drop o=v::r) (hN:Nat.blt d N.n=true:=by rfl) : AOpV P N X ⟨some d,.load T x,U,pos,aft,g⟩ v st :=
 zA6 rfl fun Q fr w m ρ φ hc=>by
  subst hsz
  obtain ⟨p,h1,h2⟩:=hc.ev hx
  obtain ⟨b,us,rfl,h3,h4⟩:=own_elem hc h2 hH he
  have h5:=(rc_expl (ρ:=ρ) h3).drop o
  rw [hd] at h5
  obtain ⟨u,us',h6,h7,_⟩:=h5.one1
  refine ⟨u,h7,fun K hk=>op_load1 h1 hT.1 (h4 o u ?_) hN hk⟩
  have : (us.drop o)[0]?=some u:=by rw [h6]; rfl
  rw [List.getElem?_drop] at this
  simpa using this
theorem zB5 {n i z o sz:Nat}{E:TypeId}{t:Ty}{xs:List t.den}{e:t.den}{ds:List AV}(hT:TyS P T true n) (hx:aev st.l x=some (.ep i sz z o)) (hH:st.H.get i=.sl E t xs) (hsz:sz=t.cells) (he:xs[z]?=some e) (hd:((expl t e).drop o).take n=ds) (hl:Nat.beq ds.length n=true) (hN:Nat.blt d N.n=true:=by rfl) : AOpV P N X ⟨some d,.load T x,U,pos,aft,g⟩ (.agg ds) st :=
 zA6 rfl fun Q fr w m ρ φ hc=>by
  subst hsz
  obtain ⟨p,h1,h2⟩:=hc.ev hx
  obtain ⟨b,us,rfl,h3,h4⟩:=own_elem hc h2 hH he
  have hl':=Nat.eq_of_beq_eq_true hl
  subst hd
  have h6:=((rc_expl (ρ:=ρ) h3).drop o).take n
  refine ⟨.agg ((us.drop o).take n).toArray,?_,fun K hk=>op_loadN h1 hT.1 hT.2 ?_ ?_ hN hk⟩
  ·simp only [RepA]; exact ⟨_,rfl,h6,fun u hu=>h3.one u (List.mem_of_mem_drop (List.mem_of_mem_take hu))⟩
  ·rw [h6.len]; exact hl'
  ·intro j v hj
   rw [List.getElem?_take] at hj
   split at hj
   ·rw [List.getElem?_drop] at hj
    have:=h4 (o+j) v hj
    rw [Nat.add_assoc]; exact this
   ·cases hj

theorem zDE {f off:Nat}{cs ds:List AV}(hf:zCv P T f off) (hx:aev st.l x=some (.rp cs)) (hd:cs.drop off=ds) (hN:Nat.blt d N.n=true:=by rfl) : AOpV P N X ⟨some d,.fieldAddr T x f,U,pos,aft,g⟩ (.rp ds) st :=
 zA6 rfl fun Q fr w m ρ φ hc=>by
  obtain ⟨p,h1,h2⟩:=hc.ev hx
  simp only [RepA] at h2
  obtain ⟨b,o,us,rfl,h3,h4,h5⟩:=h2
  subst hd
  refine ⟨_,?_,fun K hk=>zDQ h1 hf hN hk⟩
  simp only [RepA]
  refine ⟨b,o+off,us.drop off,rfl,h3.drop off,?_,fun u hu=>h5 u (List.mem_of_mem_drop hu)⟩
  intro j v hj
  rw [List.getElem?_drop] at hj
  have:=h4 (off+j) v hj
  rw [Nat.add_assoc]; exact this
theorem zAc {f off i o o':Nat}(hf:zCv P T f off) (hx:aev st.l x=some (.ptr i o)) (ho:o+off=o') (hN:Nat.blt d N.n=true:=by rfl) : AOpV P N X ⟨some d,.fieldAddr T x f,U,pos,aft,g⟩ (.ptr i o') st :=
 zA6 rfl fun Q fr w m ρ φ hc=>by
  obtain ⟨p,h1,h2⟩:=hc.ev hx
  simp only [RepA] at h2
  obtain ⟨b,h3,rfl⟩:=h2
  subst ho
  exact ⟨_,by simp only [RepA]; exact ⟨b,h3,rfl⟩,fun K hk=>zDQ h1 hf hN hk⟩
theorem zDN {f off i sz z o o':Nat}(hf:zCv P T f off) (hx:aev st.l x=some (.ep i sz z o)) (ho:o+off=o') (hN:Nat.blt d N.n=true:=by rfl) : AOpV P N X ⟨some d,.fieldAddr T x f,U,pos,aft,g⟩ (.ep i sz z o') st :=
 zA6 rfl fun Q fr w m ρ φ hc=>by
  obtain ⟨p,h1,h2⟩:=hc.ev hx
  simp only [RepA] at h2
  obtain ⟨b,n,c,h3,rfl⟩:=h2
  subst ho
  exact ⟨_,by simp only [RepA]; exact ⟨b,n,c,h3,rfl⟩,fun K hk=>zDQ h1 hf hN (by rw [Nat.add_assoc]; exact hk)⟩

theorem zAQ {t:Ty}{xs:List t.den}{e:t.den}{E:Nat}(hU:Und P T (.slice E)) (hS:Sz P E t.cells) (hx:aev st.l x=some (.sl t xs)) (hy:aev st.l y=some (.int k a)) (he:ix xs a=some e) (hN:Nat.blt d N.n=true:=by rfl) : AOpV P N X ⟨some d,.indexAddr T x y,U,pos,aft,g⟩ (.rp (expl t e)) st :=
 zA6 rfl fun Q fr w m ρ φ hc=>by
  obtain ⟨p,h1,h2⟩:=hc.ev hx
  simp only [RepA,RC] at h2
  obtain ⟨A,n,c,h3,h4,h5,h6,b,o,h7,h8⟩:=h2
  cases h3
  obtain ⟨g1,g2,g3⟩:=ix_some he
  obtain ⟨us,h9,h10⟩:=h8 _ _ g3
  refine ⟨_,?_,fun K hk=>op_indexAddr (j:=a.toNat) h1 (hc.int hy) hU hS (h7 (by omega)) (by omega) (by omega) hN hk⟩
  simp only [RepA]
  exact ⟨b,_,us,rfl,rc_expl h9,h10,h9.one⟩
theorem zAn {i:Nat}{t:Ty}{xs:List t.den}{E E':Nat}{e:t.den}(hU:Und P T (.slice E)) (hS:Sz P E t.cells) (hx:aev st.l x=some (.osl i)) (hy:aev st.l y=some (.int k a)) (hH:st.H.get i=.sl E' t xs) (he:ix xs a=some e) (hN:Nat.blt d N.n=true:=by rfl) : AOpV P N X ⟨some d,.indexAddr T x y,U,pos,aft,g⟩ (.ep i t.cells a.toNat 0) st :=
 zA6 rfl fun Q fr w m ρ φ hc=>by
  obtain ⟨g1,g2,g3⟩:=ix_some he
  obtain ⟨p,h1,h2⟩:=hc.ev hx
  simp only [RepA] at h2
  obtain ⟨f,_,ho,hw⟩:=hc.obj h2.1
  rw [hH] at ho
  obtain ⟨_,⟨rfl,rfl,_⟩ | ⟨b',c',cs,vs,rfl,rfl,h3,h4,h5,h6,h7⟩⟩:=ho
  ·simp at g2
  ·refine ⟨_,?_,fun K hk=>op_indexAddr (b:=b') (o:=0) (j:=a.toNat) h1 (hc.int hy) hU hS rfl (by omega) (by omega) hN hk⟩
   simp only [RepA]
   exact ⟨b',_,c',h2.1,by simp⟩
theorem zCM {α:Type}{xs:List α}{z:Int}{e:α}(h:ix xs z=some e) : xs[z.toNat]?=some e:=(ix_some h).2.2
theorem zDy {cs:List AV}(hx:aev st.l x=some (.rp cs)) (hN:Nat.blt d N.n=true:=by rfl) : AOpV P N X ⟨some d,.nilCheck x,U,pos,aft,g⟩ (.rp cs) st :=
 zA6 rfl fun Q fr w m ρ φ hc=>by
  obtain ⟨p,h1,h2⟩:=hc.ev hx
  have h2':=h2
  simp only [RepA] at h2
  obtain ⟨b,o,us,rfl,_⟩:=h2
  exact ⟨_,h2',fun K hk=>zDc h1 hN hk⟩
theorem zAm {i o:Nat}(hx:aev st.l x=some (.ptr i o)) (hN:Nat.blt d N.n=true:=by rfl) : AOpV P N X ⟨some d,.nilCheck x,U,pos,aft,g⟩ (.ptr i o) st :=
 zA6 rfl fun Q fr w m ρ φ hc=>by
  obtain ⟨p,h1,h2⟩:=hc.ev hx
  have h2':=h2
  simp only [RepA] at h2
  obtain ⟨b,_,rfl⟩:=h2
  exact ⟨_,h2',fun K hk=>zDc h1 hN hk⟩
theorem zDF {i sz z o:Nat}(hx:aev st.l x=some (.ep i sz z o)) (hN:Nat.blt d N.n=true:=by rfl) : AOpV P N X ⟨some d,.nilCheck x,U,pos,aft,g⟩ (.ep i sz z o) st :=
 zA6 rfl fun Q fr w m ρ φ hc=>by
  obtain ⟨p,h1,h2⟩:=hc.ev hx
  have h2':=h2
  simp only [RepA] at h2
  obtain ⟨b,_,_,_,rfl⟩:=h2
  exact ⟨_,h2',fun K hk=>zDc h1 hN hk⟩
end
end Go.Ab
namespace Go.Ab
open Go.RowKit Go.Shelf Go.Proofs Go.Eng

mutual
def renA (σ:List Nat) : AV→AV
 | .rp cs=>.rp (renL σ cs)
 | .agg cs=>.agg (renL σ cs)
 | .tup cs=>.tup (renL σ cs)
 | .ptr i o=>match σ[i]? with
  | some j=>.ptr j o
  | none=>.bad
 | .osl i=>match σ[i]? with
  | some j=>.osl j
  | none=>.bad
 | .ep i sz z o=>match σ[i]? with
  | some j=>.ep j sz z o
  | none=>.bad
 | .map i=>match σ[i]? with
  | some j=>.map j
  | none=>.bad
 | .fn f first caps=>.fn f (renL σ first) (renL σ caps)
 | .int k z=>.int k z
 | .bool b=>.bool b
 | .str s=>.str s
 | .sl t x=>.sl t x
 | .nils=>.nils
 | .nilp=>.nilp
 | .nilf=>.nilf
 | .nili=>.nili
 | .nilm=>.nilm
 | .yld l=>.yld l
 | .val v=>.val v
 | .clo a=>.clo a
 | .sog i=>match σ[i]? with
  | some j=>.sog j
  | none=>.bad
 | .epg i k=>match σ[i]? with
  | some j=>.epg j k
  | none=>.bad
 | .row i k=>match σ[i]? with
  | some j=>.row j k
  | none=>.bad
 | .epr i k sz z o=>match σ[i]? with
  | some j=>.epr j k sz z o
  | none=>.bad
 | .dm tk tv x=>.dm tk tv x
 | .pd t x=>.pd t x
 | .any=>.any
 | .bad=>.bad
def renL (σ:List Nat) : List AV→List AV
 | []=>[]
 | a::r=>renA σ a::renL σ r
end
def AO.ren (σ:List Nat) : AO→AO
 | .dead=>.dead
 | .var T cs=>.var T (renL σ cs)
 | .sl T t x=>.sl T t x
 | .map tk tv x=>.map tk tv x
 | .slo T T' t x=>.slo T T' t x
 | .guest p=>.guest p
 | .mpt k v x hs=>if hs.all (fun q=>(σ[q.2]?).isSome) then .mpt k v x (hs.map fun q=>(q.1,(σ[q.2]?).getD 0)) else .guest fun _ _=>False
 | .mapr tk tv x left cur j=>match σ[j]? with
  | some j'=>.mapr tk tv x left cur j'
  | none=>.guest fun _ _=>False
 | .mit tk tv left cur=>.mit tk tv left cur
 | .bld T E s=>.bld T E s
 | .tr o x=>.tr o x
 | .sloh T T' t x z j=>match σ[j]? with
  | some j'=>.sloh T T' t x z j'
  | none=>.guest fun _ _=>False

section
variable {m:Mem} {ρ ρ1:List Value} {σ:List Nat}
mutual
theorem ren_fwd (h:∀ (i j:Nat) (u:Value),σ[i]?=some j→ρ[j]?=some u→ρ1[i]?=some u) : ∀ (a:AV){v:Value},RepA m ρ (renA σ a) v→RepA m ρ1 a v
 | .rp cs,v,H=>by simp only [renA,RepA] at H ⊢; obtain ⟨b,o,us,h1,h2,h3⟩:=H; exact ⟨b,o,us,h1,zB3 h cs h2,h3⟩
 | .agg cs,v,H=>by simp only [renA,RepA] at H ⊢; obtain ⟨us,h1,h2,h3⟩:=H; exact ⟨us,h1,zB3 h cs h2,h3⟩
 | .tup cs,v,H=>by simp only [renA,RepA] at H ⊢; obtain ⟨us,h1,h2⟩:=H; exact ⟨us,h1,zB3 h cs h2⟩
 | .ptr i o,v,H=>by
  simp only [renA] at H
  split at H
  ·rename_i j hj; simp only [RepA] at H ⊢; obtain ⟨b,h1,h2⟩:=H; exact ⟨b,h _ _ _ hj h1,h2⟩
  ·simp only [RepA] at H
 | .osl i,v,H=>by
  simp only [renA] at H
  split at H
  ·rename_i j hj; simp only [RepA] at H ⊢; exact ⟨h _ _ _ hj H.1,H.2⟩
  ·simp only [RepA] at H
 | .ep i sz z o,v,H=>by
  simp only [renA] at H
  split at H
  ·rename_i j hj; simp only [RepA] at H ⊢; obtain ⟨b,n,c,h1,h2⟩:=H; exact ⟨b,n,c,h _ _ _ hj h1,h2⟩
  ·simp only [RepA] at H
 | .map i,v,H=>by
  simp only [renA] at H
  split at H
  ·rename_i j hj; simp only [RepA] at H ⊢; exact ⟨h _ _ _ hj H.1,H.2⟩
  ·simp only [RepA] at H
 | .fn f first caps,v,H=>by simp only [renA,RepA] at H ⊢; obtain ⟨us,ws,h1,h2,h3⟩:=H; exact ⟨us,ws,h1,zB3 h first h2,zB3 h caps h3⟩
 | .int ..,v,H=>by simpa only [renA,RepA] using H
 | .bool ..,v,H=>by simpa only [renA,RepA] using H
 | .str ..,v,H=>by simpa only [renA,RepA] using H
 | .sl ..,v,H=>by simpa only [renA,RepA] using H
 | .dm ..,v,H=>by simpa only [renA,RepA] using H
 | .pd ..,v,H=>by simpa only [renA,RepA] using H
 | .nils,v,H=>by simpa only [renA,RepA] using H
 | .nilp,v,H=>by simpa only [renA,RepA] using H
 | .nilf,v,H=>by simpa only [renA,RepA] using H
 | .nili,v,H=>by simpa only [renA,RepA] using H
 | .nilm,v,H=>by simpa only [renA,RepA] using H
 | .yld _,v,H=>by simpa only [renA,RepA] using H
 | .val _,v,H=>by simpa only [renA,RepA] using H
 | .clo _,v,H=>by simpa only [renA,RepA] using H
 | .sog i,v,H=>by
  simp only [renA] at H
  split at H
  ·rename_i j hj; simp only [RepA] at H ⊢; obtain ⟨rs,h1,h2⟩:=H; exact ⟨rs,h _ _ _ hj h1,h2⟩
  ·simp only [RepA] at H
 | .epg i k,v,H=>by
  simp only [renA] at H
  split at H
  ·rename_i j hj; simp only [RepA] at H ⊢; obtain ⟨b,n,c,rs,h1,h2⟩:=H; exact ⟨b,n,c,rs,h _ _ _ hj h1,h2⟩
  ·simp only [RepA] at H
 | .row i k,v,H=>by
  simp only [renA] at H
  split at H
  ·rename_i j hj; simp only [RepA] at H ⊢; obtain ⟨hd,rs,h1,h2⟩:=H; exact ⟨hd,rs,h _ _ _ hj h1,h2⟩
  ·simp only [RepA] at H
 | .epr i k sz z o,v,H=>by
  simp only [renA] at H
  split at H
  ·rename_i j hj; simp only [RepA] at H ⊢; obtain ⟨hd,rs,b,n,c,h1,h2⟩:=H; exact ⟨hd,rs,b,n,c,h _ _ _ hj h1,h2⟩
  ·simp only [RepA] at H
 | .any,v,H=>by simp only [RepA]
 | .bad,v,H=>by simp only [renA,RepA] at H
theorem zB3 (h:∀ (i j:Nat) (u:Value),σ[i]?=some j→ρ[j]?=some u→ρ1[i]?=some u) : ∀ (as':List AV){vs:List Value},RepL m ρ (renL σ as') vs→RepL m ρ1 as' vs
 | [],[],H=>by simp only [RepL]
 | [],_::_,H=>by simp only [renL,RepL] at H
 | _::_,[],H=>by simp only [renL,RepL] at H
 | a::r,v::vs,H=>by simp only [renL,RepL] at H ⊢; exact ⟨ren_fwd h a H.1,zB3 h r H.2⟩
end
mutual
theorem ren_bwd (h:∀ (i:Nat) (u:Value),ρ1[i]?=some u→∃ j,σ[i]?=some j∧ρ[j]?=some u) : ∀ (a:AV){v:Value},RepA m ρ1 a v→RepA m ρ (renA σ a) v
 | .rp cs,v,H=>by simp only [renA,RepA] at H ⊢; obtain ⟨b,o,us,h1,h2,h3⟩:=H; exact ⟨b,o,us,h1,zCH h cs h2,h3⟩
 | .agg cs,v,H=>by simp only [renA,RepA] at H ⊢; obtain ⟨us,h1,h2,h3⟩:=H; exact ⟨us,h1,zCH h cs h2,h3⟩
 | .tup cs,v,H=>by simp only [renA,RepA] at H ⊢; obtain ⟨us,h1,h2⟩:=H; exact ⟨us,h1,zCH h cs h2⟩
 | .ptr i o,v,H=>by
  simp only [RepA] at H
  obtain ⟨b,h1,h2⟩:=H
  obtain ⟨j,h3,h4⟩:=h _ _ h1
  simp only [renA,h3,RepA]; exact ⟨b,h4,h2⟩
 | .osl i,v,H=>by
  simp only [RepA] at H
  obtain ⟨j,h3,h4⟩:=h _ _ H.1
  simp only [renA,h3,RepA]; exact ⟨h4,H.2⟩
 | .ep i sz z o,v,H=>by
  simp only [RepA] at H
  obtain ⟨b,n,c,h1,h2⟩:=H
  obtain ⟨j,h3,h4⟩:=h _ _ h1
  simp only [renA,h3,RepA]; exact ⟨b,n,c,h4,h2⟩
 | .map i,v,H=>by
  simp only [RepA] at H
  obtain ⟨j,h3,h4⟩:=h _ _ H.1
  simp only [renA,h3,RepA]; exact ⟨h4,H.2⟩
 | .fn f first caps,v,H=>by simp only [renA,RepA] at H ⊢; obtain ⟨us,ws,h1,h2,h3⟩:=H; exact ⟨us,ws,h1,zCH h first h2,zCH h caps h3⟩
 | .int ..,v,H=>by simpa only [renA,RepA] using H
 | .bool ..,v,H=>by simpa only [renA,RepA] using H
 | .str ..,v,H=>by simpa only [renA,RepA] using H
 | .sl ..,v,H=>by simpa only [renA,RepA] using H
 | .dm ..,v,H=>by simpa only [renA,RepA] using H
 | .pd ..,v,H=>by simpa only [renA,RepA] using H
 | .nils,v,H=>by simpa only [renA,RepA] using H
 | .nilp,v,H=>by simpa only [renA,RepA] using H
 | .nilf,v,H=>by simpa only [renA,RepA] using H
 | .nili,v,H=>by simpa only [renA,RepA] using H
 | .nilm,v,H=>by simpa only [renA,RepA] using H
 | .yld _,v,H=>by simpa only [renA,RepA] using H
 | .val _,v,H=>by simpa only [renA,RepA] using H
 | .clo _,v,H=>by simpa only [renA,RepA] using H
 | .sog i,v,H=>by
  simp only [RepA] at H
  obtain ⟨rs,h1,h2⟩:=H
  obtain ⟨j,h3,h4⟩:=h _ _ h1
  simp only [renA,h3,RepA]; exact ⟨rs,h4,h2⟩
 | .epg i k,v,H=>by
  simp only [RepA] at H
  obtain ⟨b,n,c,rs,h1,h2⟩:=H
  obtain ⟨j,h3,h4⟩:=h _ _ h1
  simp only [renA,h3,RepA]; exact ⟨b,n,c,rs,h4,h2⟩
 | .row i k,v,H=>by
  simp only [RepA] at H
  obtain ⟨hd,rs,h1,h2⟩:=H
  obtain ⟨j,h3,h4⟩:=h _ _ h1
  simp only [renA,h3,RepA]; exact ⟨hd,rs,h4,h2⟩
 | .epr i k sz z o,v,H=>by
  simp only [RepA] at H
  obtain ⟨hd,rs,b,n,c,h1,h2⟩:=H
  obtain ⟨j,h3,h4⟩:=h _ _ h1
  simp only [renA,h3,RepA]; exact ⟨hd,rs,b,n,c,h4,h2⟩
 | .any,v,H=>by simp only [renA,RepA]
 | .bad,v,H=>by simp only [RepA] at H
theorem zCH (h:∀ (i:Nat) (u:Value),ρ1[i]?=some u→∃ j,σ[i]?=some j∧ρ[j]?=some u) : ∀ (as':List AV){vs:List Value},RepL m ρ1 as' vs→RepL m ρ (renL σ as') vs
 | [],[],H=>by simp only [renL,RepL]
 | [],_::_,H=>by simp only [RepL] at H
 | _::_,[],H=>by simp only [RepL] at H
 | a::r,v::vs,H=>by simp only [renL,RepL] at H ⊢; exact ⟨ren_bwd h a H.1,zCH h r H.2⟩
end
theorem ORep.fwd (h:∀ (i j:Nat) (u:Value),σ[i]?=some j→ρ[j]?=some u→ρ1[i]?=some u){o:AO}{u:Value}{f:Frag}(H:ORep m ρ (o.ren σ) u f) : ORep m ρ1 o u f:=by
 cases o with
 | dead=>exact H
 | var T cs=>obtain ⟨b,us,h1,h2,h3,h4⟩:=H; exact ⟨b,us,h1,h2,zB3 h cs h3,h4⟩
 | sl T t x=>exact H
 | map tk tv x=>exact H
 | slo=>exact H
 | guest=>exact H
 | mit=>exact H
 | bld=>exact H
 | tr=>exact H
 | sloh T T' t x z j =>
  simp only [AO.ren] at H
  split at H
  ·rename_i j' hj
   obtain ⟨rs,fs,f0,b,c,cs,r,h1,h2,h3,h4,h5,h6,h7,h8,h9,h10,h11,h12,h13⟩:=H
   exact ⟨rs,fs,f0,b,c,cs,r,h1,h2,h3,h4,h5,h6,h7,h8,h9,h10,h11,h12,h _ _ _ hj h13⟩
  ·obtain ⟨_,_,hF⟩:=H; exact hF.elim
 | mapr tk tv x left cur j =>
  simp only [AO.ren] at H
  split at H
  ·rename_i j' hj
   obtain ⟨x',hp,b,es,cl,r,since,c0,seen,h1,h2,h3,h4⟩:=H
   exact ⟨x',hp,b,es,cl,r,since,c0,seen,h1,h2,h _ _ _ hj h3,h4⟩
  ·obtain ⟨_,_,hF⟩:=H; exact hF.elim
 | mpt k v x hs =>
  simp only [AO.ren] at H
  split at H
  ·rename_i hall
   rw [List.all_eq_true] at hall
   obtain ⟨h0,h00,x',hp',b,es,cl,fs,h1,h2,h3,h4,h5,h6⟩:=H
   have key : ∀ (z:k.den) (n:Nat),(z,n)∈hs→∃ j,σ[n]?=some j∧(z,j)∈hs.map fun q=>(q.1,(σ[q.2]?).getD 0):=by
    intro z n hz
    have:=hall _ hz
    obtain ⟨j,hj⟩:=Option.isSome_iff_exists.1 this
    exact ⟨j,hj,List.mem_map.2 ⟨(z,n),hz,by simp only [hj,Option.getD_some]⟩⟩
   refine ⟨h0,fun q hq=>?_,x',hp',b,es,cl,fs,h1,h2,h3,h4,h5,fun i p e g a1 a2 a3=>?_⟩
   ·obtain ⟨j,hj,hm⟩:=key q.1 q.2 hq
    exact (h00 _ hm).tr (fun u hu=>h _ _ _ hj hu)
   ·obtain ⟨b1,b2,b3⟩:=h6 i p e g a1 a2 a3
    refine ⟨b1,fun n hn=>?_,fun hn=>b3 fun n hm=>?_⟩
    ·obtain ⟨j,hj,hm⟩:=key _ _ hn
     exact ⟨(b2 j hm).1,h _ _ _ hj (b2 j hm).2⟩
    ·obtain ⟨q,hq,he⟩:=List.mem_map.1 hm
     exact hn q.2 (by rw [Prod.mk.injEq] at he; rw [← he.1]; exact hq)
  ·obtain ⟨_,_,hF⟩:=H; exact hF.elim
theorem ORep.bwd (h:∀ (i:Nat) (u:Value),ρ1[i]?=some u→∃ j,σ[i]?=some j∧ρ[j]?=some u){o:AO}{u:Value}{f:Frag}(H:ORep m ρ1 o u f) : ORep m ρ (o.ren σ) u f:=by
 cases o with
 | dead=>exact H
 | var T cs=>obtain ⟨b,us,h1,h2,h3,h4⟩:=H; exact ⟨b,us,h1,h2,zCH h cs h3,h4⟩
 | sl T t x=>exact H
 | map tk tv x=>exact H
 | slo=>exact H
 | guest=>exact H
 | mit=>exact H
 | bld=>exact H
 | tr=>exact H
 | sloh T T' t x z j =>
  obtain ⟨rs,fs,f0,b,c,cs,r,h1,h2,h3,h4,h5,h6,h7,h8,h9,h10,h11,h12,h13⟩:=H
  obtain ⟨j',hj,hr⟩:=h _ _ h13
  simp only [AO.ren,hj]
  exact ⟨rs,fs,f0,b,c,cs,r,h1,h2,h3,h4,h5,h6,h7,h8,h9,h10,h11,h12,hr⟩
 | mapr tk tv x left cur j =>
  obtain ⟨x',hp,b,es,cl,r,since,c0,seen,h1,h2,h3,h4⟩:=H
  obtain ⟨j',hj,hr⟩:=h _ _ h3
  simp only [AO.ren,hj]
  exact ⟨x',hp,b,es,cl,r,since,c0,seen,h1,h2,hr,h4⟩
 | mpt k v x hs =>
  obtain ⟨h0,h00,x',hp',b,es,cl,fs,h1,h2,h3,h4,h5,h6⟩:=H
  have hall : hs.all (fun q=>(σ[q.2]?).isSome)=true:=by
   rw [List.all_eq_true]
   intro q hq
   obtain ⟨u,hu⟩:=(h00 q hq).1
   obtain ⟨j,hj,_⟩:=h _ _ hu
   rw [hj]; rfl
  have key : ∀ (z:k.den) (j:Nat),(z,j)∈hs.map (fun q=>(q.1,(σ[q.2]?).getD 0))→∃ n,(z,n)∈hs∧∀ u,ρ1[n]?=some u→ρ[j]?=some u:=by
   intro z j hz
   obtain ⟨q,hq,he⟩:=List.mem_map.1 hz
   rw [Prod.mk.injEq] at he
   refine ⟨q.2,by rw [← he.1]; exact hq,fun u hu=>?_⟩
   obtain ⟨j',hj,hr⟩:=h _ _ hu
   have:=he.2
   rw [hj,Option.getD_some] at this
   rw [← this]; exact hr
  simp only [AO.ren,hall,if_true]
  refine ⟨h0,fun q hq=>?_,x',hp',b,es,cl,fs,h1,h2,h3,h4,h5,fun i p e g a1 a2 a3=>?_⟩
  ·obtain ⟨n,hn,hr⟩:=key q.1 q.2 hq
   exact (h00 _ hn).tr hr
  ·obtain ⟨b1,b2,b3⟩:=h6 i p e g a1 a2 a3
   refine ⟨b1,fun j hj=>?_,fun hn=>b3 fun n hm=>?_⟩
   ·obtain ⟨n,hn,hr⟩:=key _ _ hj
    exact ⟨(b2 n hn).1,hr _ (b2 n hn).2⟩
   ·exact hn _ (List.mem_map.2 ⟨(p.1,n),hm,rfl⟩)
end

structure zCl (m:Mem) (ρ:List Value) (H:List AO) (φ:List Frag) : Prop where
 nρ : ρ.length=H.length
 nφ : φ.length=H.length
 at_ : ∀ (i:Nat) (o:AO) (h:Value) (f:Frag),H[i]?=some o→ρ[i]?=some h→φ[i]?=some f→ORep m ρ o h f

def Runs (P:Program) (f:FuncId) (args:List AV) (H:List AO) (R:List AV→List AO→Prop) : Prop :=
 ∀ (e w:World) (m:Mem) (ρ:List Value) (φ:List Frag) (F:Frag) (vs:List Value),RepL m ρ args vs→zCl m ρ H φ→SH e w m (φ.flatten++F) →
  Ret P f vs.toArray w fun v w'=>∃ rs H' m' ρ' φ',R rs H'∧m.le m'∧(∀ (i:Nat) (h:Value),ρ[i]?=some h→ρ'[i]?=some h)∧H.length≤H'.length∧zCl m' ρ' H' φ'∧SH e w' m' (φ'.flatten++F)∧∃ us,RepL m' ρ' rs us∧v=zBg us

def RunsM (m0:Mem) (P:Program) (f:FuncId) (args:List AV) (H:List AO) (R:List AV→List AO→Prop) : Prop :=
 ∀ (e w:World) (m:Mem) (ρ:List Value) (φ:List Frag) (F:Frag) (vs:List Value),m0.le m→RepL m ρ args vs→zCl m ρ H φ→SH e w m (φ.flatten++F) →
  Ret P f vs.toArray w fun v w'=>∃ rs H' m' ρ' φ',R rs H'∧m.le m'∧(∀ (i:Nat) (h:Value),ρ[i]?=some h→ρ'[i]?=some h)∧H.length≤H'.length∧zCl m' ρ' H' φ'∧SH e w' m' (φ'.flatten++F)∧∃ us,RepL m' ρ' rs us∧v=zBg us
theorem Runs.x {m0:Mem}{P:Program}{f:FuncId}{args:List AV}{H:List AO}{R:List AV→List AO→Prop}(h:Runs P f args H R) : RunsM m0 P f args H R:=fun e w m ρ φ F vs _=>h e w m ρ φ F vs
abbrev zBb (P:Program) (f:FuncId) (args rs:List AV) : Prop:=Runs P f args [] fun r H'=>r=rs∧H'=[]

def tupA : List AV→AV
 | [a]=>a
 | l=>.tup l
theorem zBM {m:Mem}{ρ:List Value} : ∀ {rs:List AV}{us:List Value},RepL m ρ rs us→RepA m ρ (tupA rs) (zBg us):=by
 intro rs us h
 match rs,us with
 | [],[]=>simp only [tupA,zBg,RepA]; exact ⟨[],rfl,h⟩
 | [],_::_=>simp [RepL] at h
 | _::_,[]=>simp [RepL] at h
 | [a],[u]=>simp only [RepL,and_true] at h; exact h
 | [a],_::_::_=>simp [RepL] at h
 | a::b::r,[u]=>simp [RepL] at h
 | a::b::r,u::v::us=>simp only [tupA,zBg,RepA]; exact ⟨_,rfl,h⟩

theorem zCT (φ:List Frag) : φ.flatten=(List.range φ.length).flatMap fun i=>φ.getD i []:=by
 induction φ with
 | nil=>rfl
 | cons f φ ih =>
  rw [List.flatten_cons,List.length_cons,List.range_succ_eq_map,List.flatMap_cons,List.flatMap_map,ih]
  simp

theorem range_split {n:Nat}{σ:List Nat}(hn:σ.Nodup) (hl:∀ i∈σ,i < n) : (List.range n).Perm (σ++(List.range n).filter fun i=>!σ.contains i):=by
 rw [List.perm_ext_iff_of_nodup List.nodup_range]
 ·intro a
  simp only [List.mem_range,List.mem_append,List.mem_filter,Bool.not_eq_true',List.contains_eq_mem,decide_eq_false_iff_not]
  constructor
  ·intro h
   by_cases e : a∈σ
   ·exact .inl e
   ·exact .inr ⟨h,e⟩
  ·rintro (h | h)
   ·exact hl a h
   ·exact h.1
 ·rw [List.nodup_append]
  refine ⟨hn,List.Pairwise.filter _ List.nodup_range,?_⟩
  intro a ha b hb e
  subst e
  simp only [List.mem_filter,Bool.not_eq_true',List.contains_eq_mem,decide_eq_false_iff_not] at hb
  exact hb.2 ha

def allM (w:World) (f:Frag) : Mem:=fun b=>if (f.map (·.1)).contains b then none else (w.heap[b]?).filter fun o=>!ctl o
theorem sh_all {e w:World}{m:Mem}{f:Frag}(h:SH e w m f) : SH e w (allM w f) f∧m.le (allM w f):=by
 refine ⟨⟨h.os,h.tape,h.output,?_,h.own,h.nd,?_,h.noctl,?_,h.esz⟩,?_⟩
 ·intro b o hb
  unfold allM at hb
  split at hb
  ·cases hb
  ·exact (Option.filter_eq_some_iff.1 hb).1
 ·intro p hp
  unfold allM
  rw [if_pos]
  simp only [List.contains_eq_mem,decide_eq_true_eq]
  exact List.mem_map.2 ⟨p,hp,rfl⟩
 ·intro b o hb
  unfold allM at hb
  split at hb
  ·cases hb
  ·simpa using (Option.filter_eq_some_iff.1 hb).2
 ·intro b o hb
  unfold allM
  rw [if_neg]
  ·exact Option.filter_eq_some_iff.2 ⟨h.fz b o hb,by simp [h.mctl b o hb]⟩
  ·simp only [List.contains_eq_mem,decide_eq_true_eq]
   intro hm
   obtain ⟨p,hp,he⟩:=List.mem_map.1 hm
   have:=h.dis p hp
   rw [he,hb] at this; cases this
theorem zDq {e w w':World}{m':Mem}{f:Frag}(h:SH e w (allM w f) f) (h':SH e w' m' f) (hm:(allM w f).le m') (hs:w.heap.size≤w'.heap.size) (hd:DK nox w w') : Below w.heap.size w w':=by
 refine ⟨h'.os.trans h.os.symm,h'.tape.trans h.tape.symm,h'.output.trans h.output.symm,hs,fun k hk=>?_⟩
 have hk' : w.heap[k]?=some (w.heap[k]'hk):=Array.getElem?_eq_getElem hk
 by_cases hf : (f.map (·.1)).contains k
 ·simp only [List.contains_eq_mem,decide_eq_true_eq] at hf
  obtain ⟨p,hp,rfl⟩:=List.mem_map.1 hf
  rw [h'.own p hp,h.own p hp]
 ·cases hc : ctl (w.heap[k]'hk) with
  | true=>rw [hk']; exact hd k _ hk' hc (fun h=>h)
  | false =>
   have h1 : allM w f k=some (w.heap[k]'hk):=by unfold allM; rw [if_neg hf,hk']; simp [Option.filter,hc]
   rw [hk',h'.fz _ _ (hm _ _ h1)]

section
variable {P:Program} {N:Ev} {X:Cx} {Q:zBa} {st:AS}
variable {d:Nat} {T U T':TypeId} {pos:String} {aft:Array Edge} {g:Option (Nat×Bool)} {x y:Operand} {k ky:IntKind} {a b:Int}

theorem ret_pure {f:FuncId}{as' rs:List AV}{fr:Fr}{w:World}{m:Mem}{ρ:List Value}{φ:List Frag}{vs:List Value}(hr:RunsM X.m P f as' [] fun r H'=>r=rs∧H'=[]) (hcl:renL [] as'=as') (hc:Conc X st fr w m ρ φ) (hv:RepL m ρ as' vs) :
  Ret P f vs.toArray w fun v w'=>Below w.heap.size w w'∧∃ m',m.le m'∧SH X.e w' m' (φ.flatten++X.F)∧RepA m' ρ (tupA rs) v:=by
 obtain ⟨h1,h2⟩:=sh_all hc.sh
 have hv' : RepL (allM w (φ.flatten++X.F)) [] as' vs:=by
  refine RepL.mono h2 (fun _ _ h=>h) as' ?_
  refine zB3 (σ:=[]) (ρ:=ρ) (fun i j u hi _=>by simp at hi) as' ?_
  rw [hcl]; exact hv
 have:=hr X.e w _ [] [] (φ.flatten++X.F) vs (hc.mle.trans h2) hv' ⟨rfl,rfl,fun i o h f hi=>by simp at hi⟩ (by simpa using h1)
 refine Calls.mono this ?_
 rintro e w' ⟨v,he,hd,rs',H',m',ρ',φ',⟨rfl,rfl⟩,hm,_,_,ho,hs,us,hu,rfl⟩
 have hρ : ρ'=[]:=List.eq_nil_of_length_eq_zero ho.nρ
 have hφ : φ'=[]:=List.eq_nil_of_length_eq_zero ho.nφ
 subst hρ hφ
 have hs' : SH X.e w' m' (φ.flatten++X.F):=by simpa using hs
 exact ⟨_,he,hd,zDq h1 hs' hm hd.2 hd.1,m',h2.trans hm,hs',RepA.mono (Mem.le_refl _) (fun i h hi=>by simp at hi) _ (zBM hu)⟩

theorem zAV {f:FuncId}{xs:List Operand}{as' rs:List AV}{ts:Array TypeId}{r:AV}(hr:RunsM X.m P f as' [] fun r H'=>r=rs∧H'=[]) (hf:Enters P f) (hx:xs.map (aev st.l)=as'.map some) (hrs:tupA rs=r) (hcl:renL [] as'=as':=by rfl) (hN:Nat.blt d N.n=true:=by rfl) :
  AOpV P N X ⟨some d,.call ⟨.value (.func f),xs.toArray,ts⟩,U,pos,aft,g⟩ r st:=by
 intro Q fr w m ρ φ hc
 obtain ⟨vs,h1,h2⟩:=hc.evl hx
 subst hrs
 refine zDf hf h1 (ret_pure hr hcl hc h2) hN ?_
 rintro v w' ⟨hb,m',h3,h4,h5⟩
 exact ⟨d,v,rfl,rfl,hb,m',h3,h4,h5⟩
theorem zDA {i:Nat}{vs:List AV}{v:AV}(hx:aev st.l x=some (.tup vs)) (hv:vs[i]?=some v) (hN:Nat.blt d N.n=true:=by rfl) : AOpV P N X ⟨some d,.extract x i,U,pos,aft,g⟩ v st :=
 zA6 rfl fun Q fr w m ρ φ hc=>by
  obtain ⟨p,h1,h2⟩:=hc.ev hx
  simp only [RepA] at h2
  obtain ⟨us,rfl,h3⟩:=h2
  obtain ⟨u,h4,h5⟩:=h3.get hv
  exact ⟨u,h5,fun K hk=>op_extract h1 (by simpa using h4) hN hk⟩
theorem zA4 {f:FuncId}{fs cs:List Operand}{us vs:List AV}(h1:fs.map (aev st.l)=us.map some) (h2:cs.map (aev st.l)=vs.map some) (hN:Nat.blt d N.n=true:=by rfl) : AOpV P N X ⟨some d,.makeFunc (.func f) fs.toArray cs.toArray,U,pos,aft,g⟩ (.fn f us vs) st :=
 zA6 rfl fun Q fr w m ρ φ hc=>by
  obtain ⟨p,h3,h4⟩:=hc.evl h1
  obtain ⟨q,h5,h6⟩:=hc.evl h2
  refine ⟨_,?_,fun K hk=>op_makeFunc h3 h5 hN hk⟩
  simp only [RepA]
  exact ⟨p,q,rfl,h4,h6⟩

theorem RepL.cells {m:Mem}{ρ:List Value}{a:AV}{v:Value}(h:RepA m ρ a v) (h1:v.oneCell'=true) : v.cells=#[v]:=by
 cases v <;> simp [Value.oneCell'] at h1 <;> rfl
end

def argA : Nat→List AV→AFr
 | _,[]=>[]
 | i,a::r=>(i,a)::argA (i+1) r
theorem arg_rep {m:Mem}{ρ:List Value} : ∀ {as':List AV}{vs:List Value}{i:Nat},RepL m ρ as' vs→∀ t a,(argA i as').look t=some a→∃ v,(argFr i vs).look t=some v∧RepA m ρ a v:=by
 intro as'
 induction as' with
 | nil=>intro vs i h t a ht; simp [argA,AFr.look] at ht
 | cons b as' ih =>
  intro vs i h t a ht
  cases vs with
  | nil=>simp [RepL] at h
  | cons v vs =>
   simp only [RepL] at h
   rw [argA,AFr.look_cons] at ht
   rw [argFr,Fr.look_cons]
   split
   ·rename_i e; rw [if_pos e] at ht; cases ht; exact ⟨v,rfl,h.1⟩
   ·rename_i e; rw [if_neg e] at ht; exact ih h.2 t a ht
def zipH : Nat→List AO→AH
 | _,[]=>[]
 | i,o::r=>(i,o)::zipH (i+1) r
theorem zipH_get : ∀ {H:List AO}{i j:Nat}{o:AO},H[j]?=some o→AH.get (zipH i H) (i+j)=o:=by
 intro H
 induction H with
 | nil=>intro i j o h; simp at h
 | cons p H ih =>
  intro i j o h
  rw [zipH,AH.get_cons]
  cases j with
  | zero=>simp at h; simp [h]
  | succ j =>
   rw [if_neg (by omega),show i+(j+1)=(i+1)+j by omega]
   exact ih (by simpa using h)

def AOut1 (P:Program) (l:AFr) : ResultVar→AV→Prop
 | .tmp t,a=>l.look t=some a
 | .cell x T,a=>(∃ r,l.look x=some (.rp (a::r))∧TyS P T false 1)∨∃ cs n,l.look x=some (.rp cs)∧TyS P T true n∧a=.agg (cs.take n)∧Nat.ble n cs.length=true
def AOuts (P:Program) (l:AFr) : List ResultVar→List AV→Prop
 | [],[]=>True
 | r::rs,a::as'=>AOut1 P l r a∧AOuts P l rs as'
 | _,_=>False
def aretQ (P:Program) (rs:List ResultVar) (k:Nat) (R:List AV→List AO→Prop) : zBa
 | .normal,st | .ret,st=>∃ as' H',AOuts P st.l rs as'∧(List.range st.n).map st.H.get=H'∧Nat.ble k st.n=true∧R as' H'
 | _,_=>False

theorem aouts {P:Program}{X:Cx}{st:AS}{fr:Fr}{w:World}{m:Mem}{ρ:List Value}{φ:List Frag}(hc:Conc X st fr w m ρ φ) : ∀ {rs:List ResultVar}{as':List AV},AOuts P st.l rs as'→∃ vs,OutsAt P fr w rs vs∧RepL m ρ as' vs:=by
 intro rs
 induction rs with
 | nil=>intro as' h; cases as' with
  | nil=>exact ⟨[],trivial,by simp [RepL]⟩
  | cons=>exact h.elim
 | cons r rs ih=>intro as' h; cases as' with
  | nil=>exact h.elim
  | cons a as' =>
   obtain ⟨h1,h2⟩:=h
   obtain ⟨vs,h3,h4⟩:=ih h2
   cases r with
   | tmp t =>
    obtain ⟨v,h5,h6⟩:=hc.slots t a h1
    exact ⟨v::vs,⟨h5,h3⟩,by simp only [RepL]; exact ⟨h6,h4⟩⟩
   | cell x T =>
    rcases h1 with ⟨r,h5,hT⟩ | ⟨cs,n,h5,hT,rfl,hn⟩
    ·obtain ⟨v,h6,h7⟩:=hc.slots x _ h5
     simp only [RepA] at h7
     obtain ⟨b,o,us,rfl,h8,h9,_⟩:=h7
     obtain ⟨u,us',rfl,h10,_⟩:=h8.one1
     exact ⟨u::vs,⟨⟨_,h6,run_loadVar_one hT.1 (h9.cells hc.sh).head⟩,h3⟩,by simp only [RepL]; exact ⟨h10,h4⟩⟩
    ·obtain ⟨v,h6,h7⟩:=hc.slots x _ h5
     simp only [RepA] at h7
     obtain ⟨b,o,us,rfl,h8,h9,h10⟩:=h7
     have hn:=Nat.le_of_ble_eq_true hn
     have h11:=h8.take n
     have hlen : (us.take n).length=n:=by rw [h11.len]; simp; omega
     refine ⟨.agg (us.take n).toArray::vs,⟨⟨_,h6,run_loadVar_agg hT.1 hT.2 hlen (cells_sub (h9.cells hc.sh) 0 _ (by simp))⟩,h3⟩,?_⟩
     simp only [RepL,RepA]
     exact ⟨⟨_,rfl,h11,fun u hu=>h10 u (List.mem_of_mem_take hu)⟩,h4⟩

theorem runs_of {P:Program}{f:FuncId}{fn:Func}{c:Code}{n:Nat}{args:List AV}{H:List AO}{R:List AV→List AO→Prop}{rs:List ResultVar}(hf:P.funcs[f]?=some fn) (hN:fn.ntmps=n) (hb:fn.body=some c) (hr:fn.results=rs.toArray) (hle:Nat.ble args.length n=true)
  (h:∀ (w0:World) (X:Cx),X.ρ.length=H.length→AWC P ⟨n,none,w0,nox,false⟩ X c (aretQ P rs H.length R) ⟨argA 0 args,zipH 0 H,H.length⟩) : Runs P f args H R:=by
 intro e w m ρ φ F vs hv ho hs
 have hl:=hv.len
 refine ret_of hf hb hN (by rw [hl]; exact hle) hr ?_
 have hc : Conc ⟨e,m,ρ,F⟩ ⟨argA 0 args,zipH 0 H,H.length⟩ (argFr 0 vs) w m ρ φ:=by
  refine ⟨Mem.le_refl _,fun _ _ h=>h,ho.nρ,ho.nφ,arg_rep hv,?_,hs⟩
  intro i hd f hi hf
  have hil : i < H.length:=by rw [← ho.nρ]; exact (List.getElem?_eq_some_iff.1 hi).1
  have hH : H[i]?=some (H[i]'hil):=List.getElem?_eq_getElem hil
  have:=zipH_get (i:=0) hH
  rw [Nat.zero_add] at this
  show ORep m ρ (AH.get (zipH 0 H) i) hd f
  rw [this]
  exact ho.at_ i _ hd f hH hi hf
 refine WC.mono ?_ (h w ⟨e,m,ρ,F⟩ ho.nρ _ _ _ _ _ hc)
 rintro ex l w' ⟨st,m',ρ',φ',hc',hq⟩
 have key : aretQ P rs H.length R .normal st→∃ vs,OutsAt P l w' rs vs∧∃ rs' H' m'' ρ' φ',R rs' H'∧m.le m''∧(∀ (i:Nat) (h:Value),ρ[i]?=some h→ρ'[i]?=some h)∧H.length≤H'.length∧zCl m'' ρ' H' φ'∧SH e w' m'' (φ'.flatten++F)∧∃ us,RepL m'' ρ' rs' us∧zBg vs=zBg us:=by
  rintro ⟨as',H',h1,rfl,hk,hR⟩
  obtain ⟨us,h2,h3⟩:=aouts hc' h1
  refine ⟨us,h2,as',_,m',ρ',φ',hR,hc'.mle,hc'.pre,?_,⟨?_,?_,?_⟩,hc'.sh,us,h3,rfl⟩
  ·simpa using Nat.le_of_ble_eq_true hk
  ·simpa using hc'.nρ
  ·simpa using hc'.nφ
  ·intro i o hd f hi hh hf
   rw [List.getElem?_map] at hi
   obtain ⟨j,hj,rfl⟩:=Option.map_eq_some_iff.1 hi
   have hil:=(List.getElem?_eq_some_iff.1 hj).1
   rw [List.getElem?_range (by simpa using hil)] at hj
   cases hj
   exact hc'.objs i hd f hh hf
 cases ex with
 | normal=>exact key hq
 | ret=>exact key hq
 | _=>exact hq.elim
end Go.Ab
namespace Go.Ab
open Go.RowKit Go.Shelf Go.Proofs Go.Eng

def zBd : AV→Option (List AV)
 | .agg cs=>some cs
 | .tup _=>none
 | .val _=>none
 | .clo _=>none
 | .any=>none
 | .bad=>none
 | a=>some [a]
theorem zC0 {m:Mem}{ρ:List Value}{a:AV}{cs:List AV}{v:Value}(h:zBd a=some cs) (hr:RepA m ρ a v) : RepL m ρ cs v.cells.toList∧∀ u∈v.cells.toList,u.oneCell'=true:=by
 have one : ∀ {a:AV} {v:Value},RepA m ρ a v→v.oneCell'=true→RepL m ρ [a] v.cells.toList∧∀ u∈v.cells.toList,u.oneCell'=true:=by
  intro a v h h1
  have hc : v.cells=#[v]:=by cases v <;> simp [Value.oneCell'] at h1 <;> rfl
  rw [hc]
  refine ⟨by simp only [RepL]; exact ⟨h,trivial⟩,fun u hu=>?_⟩
  simp at hu; subst hu; exact h1
 cases a with
 | agg ds =>
  simp only [zBd,Option.some.injEq] at h
  subst h
  simp only [RepA] at hr
  obtain ⟨us,rfl,h1,h2⟩:=hr
  exact ⟨by simpa [Value.cells] using h1,by simpa [Value.cells] using h2⟩
 | tup=>simp [zBd] at h
 | val=>simp [zBd] at h
 | clo=>simp [zBd] at h
 | sog i=>simp only [zBd,Option.some.injEq] at h; subst h; have h':=hr; simp only [RepA] at hr; obtain ⟨rs,_,h2⟩:=hr; exact one h' h2
 | epg i k=>simp only [zBd,Option.some.injEq] at h; subst h; have h':=hr; simp only [RepA] at hr; obtain ⟨b,n,c,rs,_,rfl⟩:=hr; exact one h' rfl
 | row i k=>simp only [zBd,Option.some.injEq] at h; subst h; have h':=hr; simp only [RepA] at hr; obtain ⟨hd,rs,_,_,h2⟩:=hr; exact one h' h2
 | epr i k sz z o=>simp only [zBd,Option.some.injEq] at h; subst h; have h':=hr; simp only [RepA] at hr; obtain ⟨hd,rs,b,n,c,_,_,rfl⟩:=hr; exact one h' rfl
 | dm tk tv x=>simp only [zBd,Option.some.injEq] at h; subst h; have h':=hr; simp only [RepA] at hr; have h2:=RC.one hr _ (List.mem_singleton.2 rfl); exact one h' h2
 | pd t x=>simp only [zBd,Option.some.injEq] at h; subst h; have h':=hr; simp only [RepA] at hr; have h2:=RC.one hr _ (List.mem_singleton.2 rfl); exact one h' h2
 | any=>simp [zBd] at h
 | bad=>simp [zBd] at h
 | int k z=>simp only [zBd,Option.some.injEq] at h; subst h; have h':=hr; simp only [RepA] at hr; subst hr; exact one h' rfl
 | bool b=>simp only [zBd,Option.some.injEq] at h; subst h; have h':=hr; simp only [RepA] at hr; subst hr; exact one h' rfl
 | str s=>simp only [zBd,Option.some.injEq] at h; subst h; have h':=hr; simp only [RepA] at hr; subst hr; exact one h' rfl
 | sl t x=>simp only [zBd,Option.some.injEq] at h; subst h; have h':=hr; simp only [RepA,RC] at hr; obtain ⟨A,n,c,h1,_⟩:=hr; cases h1; exact one h' rfl
 | nils=>simp only [zBd,Option.some.injEq] at h; subst h; have h':=hr; simp only [RepA] at hr; subst hr; exact one h' rfl
 | rp cs=>simp only [zBd,Option.some.injEq] at h; subst h; have h':=hr; simp only [RepA] at hr; obtain ⟨b,o,us,rfl,_⟩:=hr; exact one h' rfl
 | ptr i o=>simp only [zBd,Option.some.injEq] at h; subst h; have h':=hr; simp only [RepA] at hr; obtain ⟨b,_,rfl⟩:=hr; exact one h' rfl
 | osl i=>simp only [zBd,Option.some.injEq] at h; subst h; have h':=hr; simp only [RepA] at hr; exact one h' hr.2
 | ep i sz z o=>simp only [zBd,Option.some.injEq] at h; subst h; have h':=hr; simp only [RepA] at hr; obtain ⟨b,n,c,_,rfl⟩:=hr; exact one h' rfl
 | map i=>simp only [zBd,Option.some.injEq] at h; subst h; have h':=hr; simp only [RepA] at hr; exact one h' hr.2
 | fn f first caps=>simp only [zBd,Option.some.injEq] at h; subst h; have h':=hr; simp only [RepA] at hr; obtain ⟨us,ws,rfl,_⟩:=hr; exact one h' rfl
 | nilp=>simp only [zBd,Option.some.injEq] at h; subst h; have h':=hr; simp only [RepA] at hr; subst hr; exact one h' rfl
 | nilf=>simp only [zBd,Option.some.injEq] at h; subst h; have h':=hr; simp only [RepA] at hr; subst hr; exact one h' rfl
 | nili=>simp only [zBd,Option.some.injEq] at h; subst h; have h':=hr; simp only [RepA] at hr; subst hr; exact one h' rfl
 | nilm=>simp only [zBd,Option.some.injEq] at h; subst h; have h':=hr; simp only [RepA] at hr; subst hr; exact one h' rfl
 | yld l=>simp only [zBd,Option.some.injEq] at h; subst h; have h':=hr; simp only [RepA] at hr; subst hr; exact one h' rfl

def over {α:Type}(cs:List α) (o:Nat) : List α→List α
 | []=>cs
 | d::ds=>over (cs.set o d) (o+1) ds
theorem RepL.set {m:Mem}{ρ:List Value} : ∀ {as':List AV}{vs:List Value}{i:Nat}{a:AV}{v:Value},RepL m ρ as' vs→RepA m ρ a v→RepL m ρ (as'.set i a) (vs.set i v):=by
 intro as'
 induction as' with
 | nil=>intro vs i a v h _; cases vs with
  | nil=>simpa using h
  | cons=>simp [RepL] at h
 | cons b as' ih=>intro vs i a v h ha; cases vs with
  | nil=>simp [RepL] at h
  | cons u vs =>
   simp only [RepL] at h
   cases i with
   | zero=>simp only [List.set_cons_zero,RepL]; exact ⟨ha,h.2⟩
   | succ i=>simp only [List.set_cons_succ,RepL]; exact ⟨h.1,ih h.2 ha⟩
theorem RepL.over {m:Mem}{ρ:List Value} : ∀ {ds:List AV}{us:List Value}{cs:List AV}{vs:List Value}{o:Nat},RepL m ρ cs vs→RepL m ρ ds us→RepL m ρ (over cs o ds) (Go.Ab.over vs o us):=by
 intro ds
 induction ds with
 | nil=>intro us cs vs o h k; cases us with
  | nil=>exact h
  | cons=>simp [RepL] at k
 | cons d ds ih=>intro us cs vs o h k; cases us with
  | nil=>simp [RepL] at k
  | cons u us=>simp only [RepL] at k; exact ih (h.set k.1) k.2
theorem splice_over : ∀ (vs:List Value) (cs:Array Value) (o:Nat),(splice cs o vs).toList=over cs.toList o vs:=by
 intro vs
 induction vs with
 | nil=>intro cs o; rfl
 | cons v vs ih=>intro cs o; simp only [splice,over]; rw [ih]; simp
theorem over_one : ∀ {ds cs:List Value}{o:Nat},(∀ u∈cs,u.oneCell'=true)→(∀ u∈ds,u.oneCell'=true)→∀ u∈over cs o ds,u.oneCell'=true:=by
 intro ds
 induction ds with
 | nil=>intro cs o h _; exact h
 | cons d ds ih =>
  intro cs o h k
  refine ih (fun u hu=>?_) (fun u hu=>k u (by simp [hu]))
  rcases List.mem_or_eq_of_mem_set hu with h1 | h1
  ·exact h u h1
  ·subst h1; exact k _ (by simp)
theorem over_len {α:Type} : ∀ (ds cs:List α) (o:Nat),(over cs o ds).length=cs.length:=by
 intro ds
 induction ds with
 | nil=>intro cs o; rfl
 | cons d ds ih=>intro cs o; simp only [over]; rw [ih]; simp
theorem over_get {α:Type} : ∀ (ds cs:List α) (o i:Nat),o+ds.length≤cs.length→(over cs o ds)[i]?=if o≤i∧i < o+ds.length then ds[i - o]? else cs[i]?:=by
 intro ds
 induction ds with
 | nil=>intro cs o i _; simp only [over,List.length_nil,Nat.add_zero]; rw [if_neg (by omega)]
 | cons d ds ih =>
  intro cs o i h
  simp only [List.length_cons] at h ⊢
  simp only [over]
  rw [ih _ _ _ (by simp; omega),List.getElem?_set]
  by_cases h1 : o=i
  ·subst h1
   rw [if_neg (by omega),if_pos rfl,if_pos (by omega),if_pos (by omega)]
   simp
  ·rw [if_neg h1]
   by_cases h2 : o+1≤i∧i < o+1+ds.length
   ·rw [if_pos h2,if_pos (by omega),show i - o=(i - (o+1))+1 by omega,List.getElem?_cons_succ]
   ·rw [if_neg h2,if_neg (by omega)]

section
variable {P:Program} {N:Ev} {X:Cx} {Q:zBa} {st:AS}
variable {d:Nat} {T U T':TypeId} {pos:String} {aft:Array Edge} {g:Option (Nat×Bool)} {x y:Operand} {k ky:IntKind} {a b:Int}

def AS.new (st:AS) (d:Nat) (a:AV) (o:AO) : AS:=⟨(d,a)::st.l,(st.n,o)::st.H,st.n+1⟩
def AS.upd (st:AS) (i:Nat) (o:AO) : AS:=⟨st.l,(i,o)::st.H,st.n⟩

theorem pre_app {ρ:List Value}{h:Value} : ∀ (i:Nat) (u:Value),ρ[i]?=some u→(ρ++[h])[i]?=some u:=by
 intro i u hi
 rw [List.getElem?_append_left (List.getElem?_eq_some_iff.1 hi).1]; exact hi

theorem Conc.newObj {fr:Fr}{w w':World}{m m':Mem}{ρ:List Value}{φ:List Frag}(hc:Conc X st fr w m ρ φ){d:Nat}{av:AV}{v h:Value}{o:AO}{f:Frag}(hm:m.le m') (hs:SH X.e w' m' (f++(φ.flatten++X.F))) (ho:ORep m' (ρ++[h]) o h f) (ha:RepA m' (ρ++[h]) av v) :
  Conc X (st.new d av o) ((d,v)::fr) w' m' (ρ++[h]) (φ++[f]):=by
 refine ⟨hc.mle.trans hm,fun i u hi=>pre_app i u (hc.pre i u hi),by simp [AS.new,hc.nρ],by simp [AS.new,hc.nφ],?_,?_,?_⟩
 ·intro t b hb
  simp only [AS.new,AFr.look_cons] at hb
  rw [Fr.look_cons]
  split
  ·rename_i e; rw [if_pos e] at hb; cases hb; exact ⟨v,rfl,ha⟩
  ·rename_i e; rw [if_neg e] at hb
   obtain ⟨u,h1,h2⟩:=hc.slots t b hb
   exact ⟨u,h1,RepA.mono hm pre_app b h2⟩
 ·intro i hd f' hi hf
  simp only [AS.new,AH.get_cons]
  by_cases e : st.n=i
  ·subst e
   rw [if_pos rfl]
   rw [← hc.nρ,List.getElem?_append_right (Nat.le_refl _)] at hi
   rw [← hc.nφ,List.getElem?_append_right (Nat.le_refl _)] at hf
   simp at hi hf
   subst hi hf; exact ho
  ·rw [if_neg e]
   have hil : i < ρ.length:=by
    have:=(List.getElem?_eq_some_iff.1 hi).1
    simp at this
    rw [hc.nρ] at this ⊢; omega
   rw [List.getElem?_append_left hil] at hi
   rw [List.getElem?_append_left (by rw [hc.nφ,← hc.nρ]; exact hil)] at hf
   exact (hc.objs i hd f' hi hf).mono hm pre_app
 ·refine hs.perm ?_
  rw [List.flatten_append,List.flatten_cons,List.flatten_nil,List.append_nil,List.append_assoc]
  exact List.perm_append_comm_assoc _ _ _

theorem perm_idx {α:Type} : ∀ {l:List α}{i:Nat}{x:α},l[i]?=some x→l.Perm (x::l.eraseIdx i):=by
 intro l
 induction l with
 | nil=>intro i x h; simp at h
 | cons y l ih =>
  intro i x h
  cases i with
  | zero=>simp at h; subst h; exact List.Perm.refl _
  | succ i=>exact ((ih (by simpa using h)).cons y).trans (List.Perm.swap x y _)
theorem zBl {φ:List Frag}{i:Nat}{f:Frag}(h:φ[i]?=some f) (f':Frag) : (φ.flatten).Perm (f++(φ.eraseIdx i).flatten)∧((φ.set i f').flatten).Perm (f'++(φ.eraseIdx i).flatten):=by
 have hl:=(List.getElem?_eq_some_iff.1 h).1
 constructor
 ·simpa using (perm_idx h).flatten
 ·have h2 : (φ.set i f')[i]?=some f':=List.getElem?_set_self hl
  have:=(perm_idx h2).flatten
  rw [List.eraseIdx_set_eq] at this; simpa using this

theorem Conc.turn {fr:Fr}{w w':World}{m:Mem}{ρ:List Value}{φ:List Frag}(hc:Conc X st fr w m ρ φ){i:Nat}{h:Value}{f f':Frag}{o:AO}(hi:ρ[i]?=some h) (hf:φ[i]?=some f) (hs:SH X.e w' m (f'++((φ.eraseIdx i).flatten++X.F))) (ho:ORep m ρ o h f') :
  Conc X (st.upd i o) fr w' m ρ (φ.set i f'):=by
 refine ⟨hc.mle,hc.pre,hc.nρ,by rw [List.length_set]; exact hc.nφ,hc.slots,?_,?_⟩
 ·intro j hd g hj hg
  simp only [AS.upd,AH.get_cons]
  by_cases e : i=j
  ·subst e
   rw [if_pos rfl]
   rw [hi] at hj; cases hj
   rw [List.getElem?_set_self (List.getElem?_eq_some_iff.1 hf).1] at hg
   cases hg; exact ho
  ·rw [if_neg e]
   rw [List.getElem?_set_ne e] at hg
   exact hc.objs j hd g hj hg
 ·refine hs.perm ?_
  rw [← List.append_assoc]
  exact ((zBl hf f').2.append_right _).symm
theorem Conc.front {fr:Fr}{w:World}{m:Mem}{ρ:List Value}{φ:List Frag}(hc:Conc X st fr w m ρ φ){i:Nat}{f:Frag}(hf:φ[i]?=some f) : SH X.e w m (f++((φ.eraseIdx i).flatten++X.F)):=by
 refine hc.sh.perm ?_
 rw [← List.append_assoc]
 exact (zBl hf f).1.append_right _

theorem zBH {o:Oper}{K:AS→Prop}(h:∀ (Q:Post) fr w m ρ φ,Conc X st fr w m ρ φ→∀ K' : Fr→World→Prop,(∀ fr' w' st' m' ρ' φ',Conc X st' fr' w' m' ρ' φ'→K st'→K' fr' w')→OpW P N o K' Q fr w) : AOp P N X o K st :=
 fun Q fr w m ρ φ hc=>h Q fr w m ρ φ hc _ (fun fr' w' st' m' ρ' φ' h1 h2=>⟨st',m',ρ',φ',h1,h2⟩)

theorem aop_box {av:AV}{cs:List AV}{K:AS→Prop}(hx:aev st.l x=some av) (hcs:zBd av=some cs) (k:K (st.new d (.ptr st.n 0) (.var T cs))) (hN:Nat.blt d N.n=true:=by rfl) : AOp P N X ⟨some d,.box T x,U,pos,aft,g⟩ K st :=
 zBH fun Q fr w m ρ φ hc K' hK=>by
  obtain ⟨v,h1,h2⟩:=hc.ev hx
  obtain ⟨h3,h4⟩:=zC0 hcs h2
  refine op_box h1 hN fun w' b hn=>?_
  refine hK _ _ _ _ _ _ (hc.newObj (h:=.pointer (some ⟨b,0,none⟩)) (f:=[(b,.cells v.cells T)]) (Mem.le_refl _) (hc.sh.alloc hn rfl) ?_ ?_) k
  ·exact ⟨b,v.cells.toList,rfl,by simp,RepL.mono (Mem.le_refl _) pre_app cs h3,h4⟩
  ·simp only [RepA]
   exact ⟨b,by rw [← hc.nρ]; simp,rfl⟩
theorem zD {v:Value}{cs:List AV}{K:AS→Prop}(hZ:Zero P T v) (hcs:zBd (ofV v)=some cs) (k:K (st.new d (.ptr st.n 0) (.var T cs))) (hN:Nat.blt d N.n=true:=by rfl) : AOp P N X ⟨some d,.alloc T,U,pos,aft,g⟩ K st :=
 zBH fun Q fr w m ρ φ hc K' hK=>by
  obtain ⟨h3,h4⟩:=zC0 hcs (rep_ofV m ρ v)
  refine op_alloc hZ hN fun w' b hn=>?_
  refine hK _ _ _ _ _ _ (hc.newObj (h:=.pointer (some ⟨b,0,none⟩)) (f:=[(b,.cells v.cells T)]) (Mem.le_refl _) (hc.sh.alloc hn rfl) ?_ ?_) k
  ·exact ⟨b,v.cells.toList,rfl,by simp,RepL.mono (Mem.le_refl _) pre_app cs h3,h4⟩
  ·simp only [RepA]
   exact ⟨b,by rw [← hc.nρ]; simp,rfl⟩

theorem zDI {i o n:Nat}{cs ds cs':List AV}{av:AV}{K:AS→Prop}(hT:Sz P T n) (hx:aev st.l x=some (.ptr i o)) (hy:aev st.l y=some av) (hH:st.H.get i=.var T' cs) (hd:zBd av=some ds) (hn:Nat.beq ds.length n=true) (hle:Nat.ble (o+n) cs.length=true) (hcs:over cs o ds=cs') (k:K (st.upd i (.var T' cs'))) :
  AOp P N X ⟨none,.store T x y,U,pos,aft,g⟩ K st :=
 zBH fun Q fr w m ρ φ hc K' hK=>by
  obtain ⟨p,h1,h2⟩:=hc.ev hx
  obtain ⟨v,h3,h4⟩:=hc.ev hy
  obtain ⟨h5,h6⟩:=zC0 hd h4
  simp only [RepA] at h2
  obtain ⟨b,h7,rfl⟩:=h2
  obtain ⟨f,hf,ho,hw⟩:=hc.obj h7
  rw [hH] at ho
  obtain ⟨b',us,h8,rfl,h9,h10⟩:=ho
  cases h8
  have hn':=Nat.eq_of_beq_eq_true hn
  have hvl : v.cells.size=n:=by rw [← hn']; simpa using h5.len
  have hle':=Nat.le_of_ble_eq_true hle
  have hb:=hw (b,_) (List.mem_singleton.2 rfl)
  have hul:=h9.len
  refine op_store h1 h3 (by rw [hvl]; exact hT) hb (by simpa only [List.all_eq_true] using h6) ?_ fun w' hP hb'=>?_
  ·rw [Nat.ble_eq]; simp only [List.size_toArray]; rw [hvl]; omega
  ·have hsp : splice us.toArray o v.cells.toList=(over us o v.cells.toList).toArray:=by
    have:=splice_over v.cells.toList us.toArray o
    apply Array.toList_inj.1
    rw [this]
   rw [hsp] at hb'
   subst hcs
   have hfr:=hc.front hf
   refine hK _ _ _ _ _ _ (hc.turn h7 hf (f':=[(b,.cells (over us o v.cells.toList).toArray T' (0,0))]) (hfr.put hP hb' rfl) ?_) k
   exact ⟨b,_,rfl,rfl,h9.over h5,over_one h10 h6⟩

theorem zBo.len {m:Mem}{t:Ty}{x:List t.den}{vs:List Value}(h:zBo m t x vs) : vs.length=x.length * t.cells:=by
 obtain ⟨us,h1,rfl,h3⟩:=h
 refine zCf h1 fun u hu=>?_
 obtain ⟨i,hi,rfl⟩:=List.getElem_of_mem hu
 exact RC.len (h3 i (x[i]'(by omega)) _ (List.getElem?_eq_getElem (by omega)) (List.getElem?_eq_getElem hi))
theorem zBo.app {m:Mem}{t:Ty}{x y:List t.den}{us vs:List Value}(h:zBo m t x us) (k:zBo m t y vs) : zBo m t (x++y) (us++vs):=by
 obtain ⟨u1,h1,rfl,h3⟩:=h
 obtain ⟨u2,k1,rfl,k3⟩:=k
 refine ⟨u1++u2,by simp [h1,k1],by simp,fun i e u he hu=>?_⟩
 rcases Nat.lt_or_ge i x.length with hi | hi
 ·rw [List.getElem?_append_left hi] at he
  rw [List.getElem?_append_left (by omega)] at hu
  exact h3 i e u he hu
 ·rw [List.getElem?_append_right hi] at he
  rw [List.getElem?_append_right (by omega),h1] at hu
  exact k3 _ e u he hu
theorem over_at {α:Type} : ∀ {us:List (List α)}{z c:Nat}{u ds:List α}{o:Nat},(∀ v∈us,v.length=c)→us[z]?=some u→o+ds.length≤c→(us.set z (over u o ds)).flatten=over us.flatten (z * c+o) ds:=by
 intro us z c u ds o hall hz hle
 have hu:=hall u (List.mem_of_getElem? hz)
 apply List.ext_getElem?
 intro i
 have hfl : us.flatten.length=us.length * c:=by
  clear hz hle hu
  induction us with
  | nil=>simp
  | cons v us ih=>rw [List.flatten_cons,List.length_append,hall v (by simp),ih (fun w hw=>hall w (by simp [hw])),List.length_cons,Nat.add_mul]; omega
 have hzl:=(List.getElem?_eq_some_iff.1 hz).1
 have hbd : z * c+c≤us.length * c:=by
  have:=Nat.mul_le_mul_right c (show z+1≤us.length by omega)
  rw [Nat.add_mul] at this; omega
 rw [over_get ds us.flatten _ i (by rw [hfl]; omega)]
 clear hfl hbd hzl
 induction us generalizing z i with
 | nil=>simp at hz
 | cons v us ih =>
  have hv:=hall v (by simp)
  cases z with
  | zero =>
   simp at hz; subst hz
   simp only [List.set_cons_zero,List.flatten_cons,Nat.zero_mul,Nat.zero_add]
   rcases Nat.lt_or_ge i c with hi | hi
   ·rw [List.getElem?_append_left (by rw [over_len]; omega),over_get _ _ _ _ (by omega),List.getElem?_append_left (by omega)]
   ·rw [List.getElem?_append_right (by rw [over_len]; omega),over_len,if_neg (by omega),List.getElem?_append_right (by omega)]
  | succ z =>
   simp only [List.set_cons_succ,List.flatten_cons]
   rcases Nat.lt_or_ge i c with hi | hi
   ·rw [List.getElem?_append_left (by omega),if_neg (by rw [Nat.add_mul]; omega),List.getElem?_append_left (by omega)]
   ·rw [List.getElem?_append_right (by omega),ih (fun w hw=>hall w (by simp [hw])) (by simpa using hz),List.getElem?_append_right (by omega),hv]
    by_cases h1 : z * c+o≤i - c∧i - c < z * c+o+ds.length
    ·rw [if_pos h1,if_pos (by rw [Nat.add_mul]; omega)]
     congr 1
     rw [Nat.add_mul]; omega
    ·rw [if_neg h1,if_neg (by rw [Nat.add_mul]; omega)]

theorem zDj {i sz z o n:Nat}{E:TypeId}{t:Ty}{xs:List t.den}{e e':t.den}{ds:List AV}{av:AV}{K:AS→Prop}(hT:Sz P T n) (hx:aev st.l x=some (.ep i sz z o)) (hy:aev st.l y=some av) (hH:st.H.get i=.sl E t xs) (hsz:sz=t.cells) (he:xs[z]?=some e) (hd:zBd av=some ds) (hn:Nat.beq ds.length n=true)
  (hle:Nat.ble (o+n) t.cells=true) (hno:t.fit e'=true) (hcs:over (expl t e) o ds=expl t e') (k:K (st.upd i (.sl E t (xs.set z e')))) :
  AOp P N X ⟨none,.store T x y,U,pos,aft,g⟩ K st :=
 zBH fun Q fr w m ρ φ hc K' hK=>by
  subst hsz
  obtain ⟨p,h1,h2⟩:=hc.ev hx
  obtain ⟨v,h3,h4⟩:=hc.ev hy
  obtain ⟨h5,h6⟩:=zC0 hd h4
  simp only [RepA] at h2
  obtain ⟨b,n',c',h7,rfl⟩:=h2
  obtain ⟨f,hf,ho,hw⟩:=hc.obj h7
  rw [hH] at ho
  obtain ⟨h0,⟨_,h8,_⟩ | ⟨b',c,cs,vs,h8,rfl,h9,h10,h11,h12,h13⟩⟩:=ho
  ·cases h8
  cases h8
  have hn':=Nat.eq_of_beq_eq_true hn
  have hvl : v.cells.size=n:=by rw [← hn']; simpa using h5.len
  have hle':=Nat.le_of_ble_eq_true hle
  have hb:=hw (b,_) (List.mem_singleton.2 rfl)
  have hzl:=(List.getElem?_eq_some_iff.1 he).1
  have hbd : z * t.cells+t.cells≤c' * t.cells:=by
   have:=Nat.mul_le_mul_right t.cells (show z+1≤c' by omega)
   rw [Nat.add_mul] at this; omega
  have hbd2 : z * t.cells+t.cells≤xs.length * t.cells:=by
   have:=Nat.mul_le_mul_right t.cells (show z+1≤xs.length by omega)
   rw [Nat.add_mul] at this; omega
  refine op_store h1 h3 (by rw [hvl]; exact hT) hb (by simpa only [List.all_eq_true] using h6) ?_ fun w' hP hb'=>?_
  ·rw [Nat.ble_eq,hvl,h11]; omega
  ·have hfr:=hc.front hf
   have hvl' : v.cells.toList.length=n:=by simpa using hvl
   refine hK _ _ _ _ _ _ (hc.turn h7 hf (f':=[(b,.cells (splice cs (z * t.cells+o) v.cells.toList) E (0,0))]) (hfr.put hP hb' rfl) ?_) k
   have hrc:=h12.len
   obtain ⟨us,g1,rfl,g3⟩:=h12
   have hall : ∀ u∈us,u.length=t.cells:=by
    intro u hu
    obtain ⟨i,hi,rfl⟩:=List.getElem_of_mem hu
    exact RC.len (g3 i (xs[i]'(by omega)) _ (List.getElem?_eq_getElem (by omega)) (List.getElem?_eq_getElem hi))
   obtain ⟨u,hu⟩ : ∃ u,us[z]?=some u:=⟨_,List.getElem?_eq_getElem (by omega)⟩
   have hue:=g3 z e u he hu
   have hnew : RC m t e' (over u o v.cells.toList):=by
    refine zCY (ρ:=ρ) hno ?_
    rw [← hcs]
    exact (rc_expl hue).over h5
   refine ⟨by simpa using h0,.inr ⟨b,c',_,_,by simp,rfl,by simpa using h9,h10,?_,⟨us.set z (over u o v.cells.toList),by simpa using g1,rfl,?_⟩,?_⟩⟩
   ·rw [splice_size]; exact h11
   ·intro j q r hq hr
    by_cases hj : z=j
    ·subst hj
     rw [List.getElem?_set_self (by omega)] at hq hr
     cases hq; cases hr; exact hnew
    ·rw [List.getElem?_set_ne hj] at hq hr
     exact g3 j q r hq hr
   ·rw [splice_over,over_at hall hu (by omega),← h13]
    simp only [List.length_set]
    apply List.ext_getElem?
    intro j
    have hcl : cs.toList.length=c' * t.cells:=by simpa using h11
    rw [List.getElem?_take,over_get _ _ _ _ (by omega),over_get _ _ _ _ (by rw [List.length_take]; omega),List.getElem?_take]
    by_cases h1 : z * t.cells+o≤j∧j < z * t.cells+o+v.cells.toList.length
    ·rw [if_pos h1,if_pos h1,if_pos (by omega)]
    ·rw [if_neg h1,if_neg h1]
end
end Go.Ab
namespace Go.Ab
open Go.RowKit Go.Shelf Go.Proofs Go.Eng

theorem flatten_at {α:Type} : ∀ {us:List (List α)}{c j:Nat}{v:α},(∀ u∈us,u.length=c)→us.flatten[j]?=some v→∃ z r u,j=z * c+r∧us[z]?=some u∧u[r]?=some v:=by
 intro us
 induction us with
 | nil=>intro c j v _ h; simp at h
 | cons w us ih =>
  intro c j v hall h
  have hw:=hall w (by simp)
  rw [List.flatten_cons] at h
  rcases Nat.lt_or_ge j w.length with hj | hj
  ·rw [List.getElem?_append_left hj] at h
   exact ⟨0,j,w,by omega,rfl,h⟩
  ·rw [List.getElem?_append_right hj] at h
   obtain ⟨z,r,u,h1,h2,h3⟩:=ih (fun u hu=>hall u (by simp [hu])) h
   exact ⟨z+1,r,u,by rw [Nat.add_mul]; omega,by simpa using h2,h3⟩

theorem choose_rows {m:Mem}{t:Ty}{xs:List t.den}{b o:Nat}(h:∀ (i:Nat) (y:t.den),xs[i]?=some y→∃ us,RC m t y us∧zCQ m b (o+i * t.cells) us) : ∃ vs,zBo m t xs vs∧zCQ m b o vs:=by
 have h' : ∀ i,∃ u,∀ y,xs[i]?=some y→RC m t y u∧zCQ m b (o+i * t.cells) u:=by
  intro i
  cases hi : xs[i]? with
  | none=>exact ⟨[],fun y hy=>by cases hy⟩
  | some y=>obtain ⟨u,h1,h2⟩:=h i y hi; exact ⟨u,fun y' hy=>by cases hy; exact ⟨h1,h2⟩⟩
 obtain ⟨U,hU⟩:=Classical.axiomOfChoice h'
 have hat : ∀ (i:Nat) (u:List Value),((List.range xs.length).map U)[i]?=some u→i < xs.length∧u=U i:=by
  intro i u hu
  have hl:=(List.getElem?_eq_some_iff.1 hu).1
  simp at hl
  rw [List.getElem?_map,List.getElem?_range hl] at hu
  exact ⟨hl,(Option.some.inj hu).symm⟩
 refine ⟨((List.range xs.length).map U).flatten,⟨_,by simp,rfl,fun i y u hy hu=>?_⟩,?_⟩
 ·obtain ⟨_,rfl⟩:=hat i u hu
  exact (hU i y hy).1
 ·intro j v hj
  obtain ⟨z,r,u,rfl,h2,h3⟩:=flatten_at (c:=t.cells) (fun u hu=>by
   obtain ⟨i,hi,rfl⟩:=List.getElem_of_mem hu
   obtain ⟨hl,e⟩:=hat i _ (List.getElem?_eq_getElem hi)
   rw [e]
   exact (hU i _ (List.getElem?_eq_getElem hl)).1.len) hj
  obtain ⟨hl,rfl⟩:=hat z u h2
  have:=(hU z _ (List.getElem?_eq_getElem hl)).2 r v h3
  rw [Nat.add_assoc] at this; exact this

theorem rc_slice {m:Mem}{t:Ty}{xs:List t.den}{v:Value}(h:RC m (.slice t) xs [v]) : ∃ A c,v=.slice A xs.length c∧xs.length≤c∧xs.length≤zC8∧((xs=[])∨∃ b o vs,A=some ⟨b,o,none⟩∧zBo m t xs vs∧zCQ m b o vs):=by
 simp only [RC] at h
 obtain ⟨A,n,c,h1,h2,h3,h4,b,o,h5,h6⟩:=h
 cases h1
 subst h2
 refine ⟨A,c,rfl,h3,h4,?_⟩
 cases hx : xs with
 | nil=>exact .inl rfl
 | cons y ys =>
  rw [← hx]
  obtain ⟨vs,h7,h8⟩:=choose_rows h6
  exact .inr ⟨b,o,vs,h5 (by rw [hx]; simp),h7,h8⟩
theorem zCy {m:Mem}{t:Ty}{xs:List t.den}{b c:Nat}{cs:Array Value}{T:TypeId}{fr:Nat×Nat}{vs:List Value}(hb:m b=some (.cells cs T fr)) (h:zBo m t xs vs) (ht:cs.toList.take (xs.length * t.cells)=vs) (hc:xs.length≤c) (hn:xs.length≤zC8) : RC m (.slice t) xs [.slice (some ⟨b,0,none⟩) xs.length c]:=by
 simp only [RC]
 refine ⟨_,_,c,rfl,rfl,hc,hn,b,0,fun _=>rfl,fun i y hy=>?_⟩
 obtain ⟨u,h1,h2⟩:=h.at hy
 refine ⟨u,h1,fun j v hj=>⟨cs,T,fr,hb,?_⟩⟩
 have:=h2 j v hj
 rw [← ht,List.getElem?_take] at this
 split at this
 ·simpa using this
 ·cases this

def apOk (bytes n:Nat) : Bool:=Nat.ble (n * bytes) zC8

section
variable {P:Program} {N:Ev} {X:Cx} {Q:zBa} {st:AS}
variable {d:Nat} {T U T':TypeId} {pos:String} {aft:Array Edge} {g:Option (Nat×Bool)} {x y:Operand} {k ky:IntKind} {a b:Int}

theorem SH.grown {e w w':World}{m:Mem}{f r:Frag}{E sz n:Nat}{v v':Value}{vs:List Value}(h:SH e w m (f++r)) (hf:(v.ownBlock=none∧f=[])∨∃ b o,v.ownBlock=some b∧f=[(b,o)]) (hg:w.grownBy w' v.ownBlock) (ho:w'.ownsRow 0 E sz v' n vs) (hb:v'.ownBlock=v.ownBlock∨v'.ownBlock=some w.heap.size) :
  ∃ f',SH e w' m (f'++r)∧((v'=.slice none 0 0∧n=0∧f'=[])∨∃ g cap cur,v'=.slice (some ⟨g,0,none⟩) n cap∧f'=[(g,.cells cur E (0,0))]∧n≤cap∧cap≤maxLen∧cur.size=cap * sz∧cur.toList.take (n * sz)=vs):=by
 have hlt : ∀ x o',w.heap[x]?=some o'→x < w.heap.size:=fun x o' hx=>(Array.getElem?_eq_some_iff.1 hx).1
 have hkeep : ∀ x o',w.heap[x]?=some o'→some x≠v.ownBlock→w'.heap[x]?=some o':=fun x o' hx hn=>(hg.block x (hlt _ _ hx) hn).trans hx
 have hmne : ∀ x o',m x=some o'→some x≠v.ownBlock:=by
  intro x o' hx he
  rcases hf with ⟨h1,_⟩ | ⟨b,o,h1,rfl⟩
  ·rw [h1] at he; cases he
  ·rw [h1] at he; cases he
   have:=h.dis (x,o) (by simp)
   simp only at this
   rw [hx] at this; cases this
 have hnd:=h.nd
 rw [List.map_append,List.nodup_append] at hnd
 have hrne : ∀ p∈r,some p.1≠v.ownBlock:=by
  intro p hp he
  rcases hf with ⟨h1,_⟩ | ⟨b,o,h1,rfl⟩
  ·rw [h1] at he; cases he
  ·rw [h1] at he; cases he
   exact hnd.2.2 p.1 (by simp) p.1 (List.mem_map.2 ⟨p,hp,rfl⟩) rfl
 have hbase : SH e w' m r:=⟨hg.os.trans h.os,hg.tape.trans h.tape,hg.output.trans h.output,fun x o' hx=>hkeep x o' (h.fz _ _ hx) (hmne x o' hx),fun p hp=>hkeep _ _ (h.own p (by simp [hp])) (hrne p hp),hnd.2.1,fun p hp=>h.dis p (by simp [hp]),fun p hp=>h.noctl p (by simp [hp]),h.mctl,Nat.le_trans h.esz hg.size⟩
 rcases ho.2 with ⟨rfl,rfl⟩ | ⟨q,cap,cur,rfl,_,h2,h3,h4,h5,h6⟩
 ·exact ⟨[],by simpa using hbase,.inl ⟨rfl,rfl,rfl⟩⟩
 ·refine ⟨[(q,.cells cur E (0,0))],?_,.inr ⟨q,cap,cur,rfl,rfl,h3,h4,h5,h6⟩⟩
  have hq : (∃ o,f=[(q,o)])∨q=w.heap.size:=by
   rcases hb with hb | hb
   ·left
    rcases hf with ⟨h1,_⟩ | ⟨b,o,h1,rfl⟩
    ·rw [h1] at hb; cases hb
    ·rw [h1] at hb; cases hb; exact ⟨o,rfl⟩
   ·right; cases hb; rfl
  have hqr : q∉r.map (·.1):=by
   intro hm
   rcases hq with ⟨o,rfl⟩ | rfl
   ·exact hnd.2.2 q (by simp) q hm rfl
   ·obtain ⟨p,hp,he⟩:=List.mem_map.1 hm
    have:=hlt _ _ (h.own p (by simp [hp]))
    omega
  have hqm : m q=none:=by
   cases hx : m q with
   | none=>rfl
   | some o' =>
    rcases hq with ⟨o,rfl⟩ | rfl
    ·have:=h.dis (q,o) (by simp)
     simp only at this; rw [this] at hx; cases hx
    ·have:=hlt _ _ (h.fz _ _ hx); omega
  refine ⟨hbase.os,hbase.tape,hbase.output,hbase.fz,?_,?_,?_,?_,hbase.mctl,hbase.esz⟩
  ·intro p hp
   rcases List.mem_append.1 hp with hp | hp
   ·rw [List.mem_singleton.1 hp]; exact h2
   ·exact hbase.own p hp
  ·simp only [List.singleton_append,List.map_cons,List.nodup_cons]; exact ⟨hqr,hbase.nd⟩
  ·intro p hp
   rcases List.mem_append.1 hp with hp | hp
   ·rw [List.mem_singleton.1 hp]; exact hqm
   ·exact hbase.dis p hp
  ·intro p hp
   rcases List.mem_append.1 hp with hp | hp
   ·rw [List.mem_singleton.1 hp]; intro h; cases h
   ·exact hbase.noctl p hp

theorem owns_of {m:Mem}{ρ:List Value}{E:TypeId}{t:Ty}{xs:List t.den}{h:Value}{f:Frag}{w:World}(ho:ORep m ρ (.sl E t xs) h f) (hw:∀ p∈f,w.heap[p.1]?=some p.2) :
  ∃ vs,w.ownsRow 0 E t.cells h xs.length vs∧zBo m t xs vs∧((h.ownBlock=none∧f=[])∨∃ b o,h.ownBlock=some b∧f=[(b,o)]):=by
 obtain ⟨_,⟨rfl,rfl,rfl⟩ | ⟨b,c,cs,vs,rfl,rfl,h3,h4,h5,h6,h7⟩⟩:=ho
 ·exact ⟨[],World.ownsRow_nil w 0 E t.cells,⟨[],rfl,rfl,fun i y u hy=>by simp at hy⟩,.inl ⟨rfl,rfl⟩⟩
 ·exact ⟨vs,⟨h6.len,.inr ⟨b,c,cs,rfl,Nat.zero_le _,hw (b,_) (List.mem_singleton.2 rfl),h3,h4,h5,h7⟩⟩,h6,.inr ⟨b,_,rfl,rfl⟩⟩

theorem zBo.one {m:Mem}{t:Ty}{xs:List t.den}{vs:List Value}(h:zBo m t xs vs) : ∀ v∈vs,v.oneCell'=true:=by
 obtain ⟨us,h1,rfl,h3⟩:=h
 intro v hv
 obtain ⟨u,hu,hvu⟩:=List.mem_flatten.1 hv
 obtain ⟨i,hi,rfl⟩:=List.getElem_of_mem hu
 exact RC.one (h3 i (xs[i]'(by omega)) _ (List.getElem?_eq_getElem (by omega)) (List.getElem?_eq_getElem hi)) v hvu
theorem zBo.nil {m:Mem}{t:Ty} : zBo m t [] []:=⟨[],rfl,rfl,fun i y u hy=>by simp at hy⟩

theorem SH.tail {e w:World}{m:Mem}{f r:Frag}(h:SH e w m (f++r)) : SH e w m r:=by
 have hnd:=h.nd
 rw [List.map_append,List.nodup_append] at hnd
 exact ⟨h.os,h.tape,h.output,h.fz,fun p hp=>h.own p (by simp [hp]),hnd.2.1,fun p hp=>h.dis p (by simp [hp]),fun p hp=>h.noctl p (by simp [hp]),h.mctl,h.esz⟩

def AS.app (st:AS) (d i:Nat) (o:AO) : AS:=⟨(d,.osl st.n)::st.l,(st.n,o)::(i,.dead)::st.H,st.n+1⟩

theorem Conc.swap {fr:Fr}{w w':World}{m m':Mem}{ρ:List Value}{φ:List Frag}(hc:Conc X st fr w m ρ φ){i:Nat}{d:Nat}{av:AV}{v h0 h:Value}{f f':Frag}{o:AO}(hi:ρ[i]?=some h0) (hf:φ[i]?=some f) (hm:m.le m') (hs:SH X.e w' m' (f'++((φ.eraseIdx i).flatten++X.F))) (ho:ORep m' (ρ++[h]) o h f') (ha:RepA m' (ρ++[h]) av v) :
  Conc X ⟨(d,av)::st.l,(st.n,o)::(i,.dead)::st.H,st.n+1⟩ ((d,v)::fr) w' m' (ρ++[h]) (φ.set i []++[f']):=by
 have h2 : SH X.e w' m' ((φ.set i []).flatten++X.F):=hs.tail.perm (((zBl hf []).2.append_right _).symm)
 have h1 : Conc X (st.upd i .dead) fr w' m' ρ (φ.set i []):=by
  refine ⟨hc.mle.trans hm,hc.pre,hc.nρ,by rw [List.length_set]; exact hc.nφ,fun t a ha=>let ⟨v,h3,h4⟩:=hc.slots t a ha; ⟨v,h3,RepA.mono hm (fun _ _ h=>h) a h4⟩,?_,h2⟩
  intro j hd g hj hg
  simp only [AS.upd,AH.get_cons]
  by_cases e : i=j
  ·subst e
   rw [if_pos rfl]
   rw [List.getElem?_set_self (List.getElem?_eq_some_iff.1 hf).1] at hg
   cases hg; rfl
  ·rw [if_neg e]
   rw [List.getElem?_set_ne e] at hg
   exact (hc.objs j hd g hj hg).mono hm (fun _ _ h=>h)
 refine h1.newObj (Mem.le_refl _) (hs.perm ?_) ho ha
 refine List.Perm.append_left _ ?_
 exact ((zBl hf []).2.append_right _).symm

theorem run_append {w:World}{m:Mem}{f:Frag}{E bytes n:Nat}{t:Ty}{ys:List t.den}{v u:Value}{vs:List Value}{e:World}{ty:TypeId}(hT:AppT P T E t.cells bytes) (hs:SH e w m f) (hown:w.ownsRow 0 E t.cells v n vs) (hy:RC m (.slice t) ys [u]) (hb:apOk bytes (n+ys.length)=true) (hn:n+ys.length≤zC8) :
  ∃ v' w' us,(Builtin.append_ #[T,T] ty #[v,u]).run P w=.ok v' w'∧zBo m t ys us∧w'.ownsRow 0 E t.cells v' (n+ys.length) (vs++us)∧w.grownBy w' v.ownBlock∧(v'.ownBlock=v.ownBlock∨v'.ownBlock=some w.heap.size):=by
 obtain ⟨hU,hsz,i,z,hi,hz,hsize,hby,hzs⟩:=hT
 obtain ⟨A,c,rfl,h1,h2,h3⟩:=rc_slice hy
 have hb':=Nat.le_of_ble_eq_true hb
 rcases h3 with rfl | ⟨b,o,us,rfl,h4,h5⟩
 ·-- nothing is appended
  refine ⟨v,w,[],?_,zBo.nil,by simpa using hown,⟨rfl,rfl,rfl,Nat.le_refl _,fun _ _ _=>rfl⟩,.inl rfl⟩
  rcases hown.2 with ⟨rfl,rfl⟩ | ⟨q,cap,cur,rfl,_,g2,g3,_⟩
  ·cases A with
   | none=>simp [Builtin.append_,run_underlying hU,sizeOf,typeInfo,hi,Builtin.lenOf,Builtin.firstCells,loadCells,loadCellsFrom]
   | some A=>simp [Builtin.append_,run_underlying hU,sizeOf,typeInfo,hi,Builtin.lenOf,Builtin.firstCells,loadCells,loadCellsFrom]
  ·cases A with
   | none=>simp [Builtin.append_,run_underlying hU,sizeOf,typeInfo,hi,Builtin.lenOf,Builtin.firstCells,loadCells,loadCellsFrom,g3,storeCells]
   | some A=>simp [Builtin.append_,run_underlying hU,sizeOf,typeInfo,hi,Builtin.lenOf,Builtin.firstCells,loadCells,loadCellsFrom,g3,storeCells]
 ·have hcells:=h5.cells hs
  have hmax : n+ys.length≤maxLen:=by
   have : zC8=140737488355328:=rfl
   simp only [maxLen]; omega
  obtain ⟨v',w',hr,g2,g3,g4,g5⟩:=run_append_own_at (P:=P) (w:=w) 0 T ty E i z t.cells bytes hU hi hz hsize hby hzs hsz v n vs hown ⟨b,o,none⟩ ys.length c us h4.len (fun j u hj=>by rw [zCu]; exact hcells j u hj) h4.one hmax hb' (Nat.zero_le _)
  exact ⟨v',w',us,hr,h4,g2,g3,g5⟩

theorem zAh {s:Operand}{i E bytes:Nat}{t:Ty}{xs ys:List t.den}{cl:Array Operand}{ts:Array TypeId}{K:AS→Prop}(hcl:cl=#[s,x]) (hts:ts=#[T,T]) (hT:AppT P T E t.cells bytes) (hs:aev st.l s=some (.osl i)) (hx:aev st.l x=some (.sl t ys)) (hH:st.H.get i=.sl E t xs) (hb:apOk bytes (xs.length+ys.length)=true) (hB:Nat.ble 1 bytes=true)
  (k:K (st.app d i (.sl E t (xs++ys)))) (hN:Nat.blt d N.n=true:=by rfl) :
  AOp P N X ⟨some d,.call ⟨.builtin .append,cl,ts⟩,U,pos,aft,g⟩ K st :=
 zBH fun Q fr w m ρ φ hc K' hK=>by
  subst hcl hts
  obtain ⟨v,h1,h2⟩:=hc.ev hs
  obtain ⟨u,h3,h4⟩:=hc.ev hx
  simp only [RepA] at h2 h4
  obtain ⟨f,hf,ho,hw⟩:=hc.obj h2.1
  rw [hH] at ho
  obtain ⟨vs,hown,hrow,hfs⟩:=owns_of ho hw
  have hlen : xs.length+ys.length≤zC8:=by
   have h5:=Nat.le_of_ble_eq_true hb
   have h6:=Nat.le_of_ble_eq_true hB
   exact Nat.le_trans (Nat.le_mul_of_pos_right _ h6) h5
  obtain ⟨v',w',us,hr,g1,g2,g3,g4⟩:=run_append (ty:=U) hT hc.sh hown h4 hb hlen
  have hfr:=hc.front hf
  obtain ⟨f',g5,g6⟩:=hfr.grown hfs g3 g2 g4
  have hone : v'.oneCell'=true:=by
   rcases g6 with ⟨rfl,_⟩ | ⟨_,_,_,rfl,_⟩ <;> rfl
  refine zAo (v:=v') (w':=w') rfl hN (fun a ha=>?_) ?_ (dk_grown hown g3)
  ·simp [execOp,resolve,invoke,builtin,ha.eval h1,ha.eval h3,hr]
  ·refine hK _ _ _ _ _ _ (hc.swap (h:=v') (d:=d) (av:=.osl st.n) (v:=v') h2.1 hf (Mem.le_refl _) g5 ?_ ?_) k
   ·have hl : (xs++ys).length=xs.length+ys.length:=by simp
    refine ⟨by rw [hl]; exact hlen,?_⟩
    rcases g6 with ⟨rfl,h7,rfl⟩ | ⟨q,cap,cur,rfl,rfl,h8,h9,h10,h11⟩
    ·left
     have hx0 : xs=[]:=List.eq_nil_of_length_eq_zero (by omega)
     have hy0 : ys=[]:=List.eq_nil_of_length_eq_zero (by omega)
     subst hx0 hy0
     exact ⟨rfl,rfl,rfl⟩
    ·right
     exact ⟨q,cap,cur,vs++us,by rw [hl],rfl,by rw [hl]; exact h8,h9,h10,hrow.app g1,by rw [hl]; exact h11⟩
   ·simp only [RepA]
    exact ⟨by rw [← hc.nρ]; simp,hone⟩
theorem zDM {s:Operand}{E bytes:Nat}{t:Ty}{ys:List t.den}{cl:Array Operand}{ts:Array TypeId}{K:AS→Prop}(hcl:cl=#[s,x]) (hts:ts=#[T,T]) (hT:AppT P T E t.cells bytes) (hs:aev st.l s=some .nils) (hx:aev st.l x=some (.sl t ys)) (hb:apOk bytes ys.length=true) (hB:Nat.ble 1 bytes=true)
  (k:K (st.new d (.osl st.n) (.sl E t ys))) (hN:Nat.blt d N.n=true:=by rfl) :
  AOp P N X ⟨some d,.call ⟨.builtin .append,cl,ts⟩,U,pos,aft,g⟩ K st :=
 zBH fun Q fr w m ρ φ hc K' hK=>by
  subst hcl hts
  obtain ⟨v,h1,h2⟩:=hc.ev hs
  obtain ⟨u,h3,h4⟩:=hc.ev hx
  simp only [RepA] at h2 h4
  subst h2
  have hlen : 0+ys.length≤zC8:=by
   have h5:=Nat.le_of_ble_eq_true hb
   have h6:=Nat.le_of_ble_eq_true hB
   rw [Nat.zero_add]
   exact Nat.le_trans (Nat.le_mul_of_pos_right _ h6) h5
  obtain ⟨v',w',us,hr,g1,g2,g3,g4⟩:=run_append (ty:=U) (n:=0) hT hc.sh (World.ownsRow_nil w 0 E t.cells) h4 (by rw [Nat.zero_add]; exact hb) hlen
  obtain ⟨f',g5,g6⟩:=SH.grown (f:=[]) (r:=φ.flatten++X.F) (by simpa using hc.sh) (.inl ⟨rfl,rfl⟩) g3 g2 g4
  have hone : v'.oneCell'=true:=by
   rcases g6 with ⟨rfl,_⟩ | ⟨_,_,_,rfl,_⟩ <;> rfl
  simp only [Nat.zero_add,List.nil_append] at g2 g6 hlen
  refine zAo (v:=v') (w':=w') rfl hN (fun a ha=>?_) ?_ (dk_grown (World.ownsRow_nil w 0 E t.cells) g3)
  ·simp [execOp,resolve,invoke,builtin,ha.eval h1,ha.eval h3,hr]
  ·refine hK _ _ _ _ _ _ (hc.newObj (h:=v') (d:=d) (av:=.osl st.n) (v:=v') (Mem.le_refl _) g5 ?_ ?_) k
   ·refine ⟨hlen,?_⟩
    rcases g6 with ⟨rfl,h7,rfl⟩ | ⟨q,cap,cur,rfl,rfl,h8,h9,h10,h11⟩
    ·left
     have hy0 : ys=[]:=List.eq_nil_of_length_eq_zero (by omega)
     subst hy0
     exact ⟨rfl,rfl,rfl⟩
    ·exact .inr ⟨q,cap,cur,us,rfl,rfl,h8,h9,h10,g1,h11⟩
   ·simp only [RepA]
    exact ⟨by rw [← hc.nρ]; simp,hone⟩

def zeroV : Ty→List Value
 | .int k=>[.int k 0]
 | .bool=>[.bool false]
 | .str=>[.string (bstr [])]
 | .unit=>[]
 | .pair a b=>zeroV a++zeroV b
 | .st a=>zeroV a
 | .slice _=>[.slice none 0 0]
 | .arr n e=>(List.replicate n (zeroV e)).flatten
 | .raw z=>[z.1]
 | .map _ _=>[.map none]
 | .ptr _=>[.pointer none]
theorem rc_zero (m:Mem) : ∀ (t:Ty),RC m t t.dflt (zeroV t):=by
 intro t
 induction t with
 | int k=>rfl
 | bool=>rfl
 | str=>rfl
 | unit=>rfl
 | pair a b iha ihb=>exact ⟨_,_,rfl,iha,ihb⟩
 | st a ih=>exact ih
 | slice e ih=>exact ⟨none,0,0,rfl,rfl,Nat.le_refl _,Nat.zero_le _,0,0,fun h=>absurd h (by omega),fun i y hy=>by simp [Ty.dflt] at hy⟩
 | arr n e ih =>
  refine ⟨by simp [Ty.dflt],_,by simp,rfl,fun i y u hy hu=>?_⟩
  have h1:=List.mem_of_getElem? hy
  have h2:=List.mem_of_getElem? hu
  simp only [Ty.dflt] at h1
  rw [List.eq_of_mem_replicate h1,List.eq_of_mem_replicate h2]
  exact ih
 | raw z=>rfl
 | map k v ihk ihv=>exact .inl ⟨rfl,rfl⟩
 | ptr t ih=>exact .inl ⟨rfl,rfl⟩
theorem made_rows {z:Array Value}{zs:List Value}(hz:z.toList=zs) (n:Nat) : (madeCells z (n * z.size)).toList=(List.replicate n zs).flatten:=by
 subst hz
 apply List.ext_getElem?
 intro j
 rcases Nat.lt_or_ge j (n * z.size) with hj | hj
 ·have hpos : 0 < z.size:=Nat.pos_of_ne_zero (fun h=>by rw [h] at hj; omega)
  have hl : (List.replicate n z.toList).flatten.length=n * z.size:=by rw [zCf (k:=z.size) (by simp:(List.replicate n z.toList).length=n)]; intro u hu; rw [List.eq_of_mem_replicate hu]; simp
  obtain ⟨v,hv⟩ : ∃ v,(List.replicate n z.toList).flatten[j]?=some v:=⟨_,List.getElem?_eq_getElem (by rw [hl]; exact hj)⟩
  rw [hv]
  obtain ⟨q,r,u,h1,h2,h3⟩:=flatten_at (c:=z.size) (fun u hu=>by rw [List.eq_of_mem_replicate hu]; simp) hv
  have hu:=List.eq_of_mem_replicate (List.mem_of_getElem? h2)
  subst hu
  have hr:=(List.getElem?_eq_some_iff.1 h3).1
  simp at hr
  have hmod : j % z.size=r:=by rw [h1,Nat.add_comm,Nat.add_mul_mod_self_right,Nat.mod_eq_of_lt hr]
  simp only [madeCells,Array.toList_map,Array.toList_range,List.getElem?_map,List.getElem?_range hj,Option.map_some,hmod]
  have h4 : z[r]?=some v:=by simpa using h3
  rw [getElem!_def,h4]
 ·rw [List.getElem?_eq_none,List.getElem?_eq_none]
  ·rw [zCf (k:=z.size) (by simp:(List.replicate n z.toList).length=n)]
   ·exact hj
   ·intro u hu; rw [List.eq_of_mem_replicate hu]; simp
  ·simp [madeCells]; exact hj
end
end Go.Ab
namespace Go.Ab
open Go.RowKit Go.Shelf Go.Proofs Go.Eng

theorem over_cons {α:Type}(d:α) : ∀ (ds cs:List α) (o:Nat),over cs o (d::ds)=over (cs.set o d) (o+1) ds:=fun _ _ _=>rfl
theorem fold_over : ∀ (vs:List Value) (cs:Array Value) (off k:Nat),((vs.zipIdx k).foldl (fun cs (p:Value×Nat)=>cs.setIfInBounds (off+p.2) p.1) cs).toList=over cs.toList (off+k) vs:=by
 intro vs
 induction vs with
 | nil=>intro cs off k; rfl
 | cons v vs ih=>intro cs off k; rw [List.zipIdx_cons,List.foldl_cons,ih,over_cons]; simp [Nat.add_assoc]
theorem zip_arr (a:Array Value) (f:Array Value→Value×Nat→Array Value) (z:Array Value) : a.zipIdx.foldl f z=(a.toList.zipIdx).foldl f z:=by
 rw [← Array.foldl_toList,Array.toList_zipIdx]

def layA (place:Nat→Option (Nat×Nat)) : List AV→List (Nat×List AV)→Option (List AV)
 | cs,[]=>some cs
 | cs,(i,ds)::r=>match place i with
  | none=>none
  | some (off,size)=>bif Nat.beq ds.length size&&Nat.ble (off+ds.length) cs.length then layA place (over cs off ds) r else none

theorem lay_fill {m:Mem}{ρ:List Value}{place:Nat→Option (Nat×Nat)} : ∀ {ps:List (Nat×List AV)}{vs:List (Nat×Value)}{cs cs':List AV}{us:Array Value},
  layA place cs ps=some cs'→vs.map (·.1)=ps.map (·.1)→(∀ (i:Nat) (p:Nat×List AV) (v:Nat×Value),ps[i]?=some p→vs[i]?=some v→RepL m ρ p.2 v.2.cells.toList∧∀ u∈v.2.cells.toList,u.oneCell'=true)→RepL m ρ cs us.toList→(∀ u∈us.toList,u.oneCell'=true) →
  ∃ us',Instr.fill place us vs=some us'∧RepL m ρ cs' us'.toList∧∀ u∈us'.toList,u.oneCell'=true:=by
 intro ps
 induction ps with
 | nil =>
  intro vs cs cs' us h hv _ hc h1
  cases vs with
  | nil=>simp only [layA,Option.some.injEq] at h; subst h; exact ⟨us,rfl,hc,h1⟩
  | cons=>simp at hv
 | cons p ps ih =>
  intro vs cs cs' us h hv hr hc h1
  cases vs with
  | nil=>simp at hv
  | cons v vs =>
   obtain ⟨i,ds⟩:=p
   obtain ⟨j,v⟩:=v
   simp only [List.map_cons,List.cons.injEq] at hv
   obtain ⟨rfl,hv⟩:=hv
   simp only [layA] at h
   split at h
   ·cases h
   ·rename_i off size hp
    cases hb : (Nat.beq ds.length size&&Nat.ble (off+ds.length) cs.length)
    ·rw [hb] at h; cases h
    ·rw [hb] at h
     simp only [cond_true] at h
     simp only [Bool.and_eq_true] at hb
     have hb1:=Nat.eq_of_beq_eq_true hb.1
     have hb2:=Nat.le_of_ble_eq_true hb.2
     obtain ⟨h2,h3⟩:=hr 0 (j,ds) (j,v) rfl rfl
     have hvl : v.cells.size=ds.length:=by simpa using h2.len
     have hul:=hc.len
     have hus : us.toList.length=us.size:=by simp
     simp only [Instr.fill,hp]
     rw [if_neg (by simp; omega)]
     refine ih h hv (fun i p u hp hu=>hr (i+1) p u (by simpa using hp) (by simpa using hu)) ?_ ?_
     ·rw [zip_arr,fold_over,Nat.add_zero]; exact hc.over h2
     ·rw [zip_arr,fold_over,Nat.add_zero]; exact over_one h1 h3

def evas (l:AFr) (ps:List (Nat×Operand)) : List (Option (Nat×List AV)):=ps.map fun p=>(aev l p.2).bind fun a=>(zBd a).map fun cs=>(p.1,cs)

section
variable {P:Program} {N:Ev} {X:Cx} {Q:zBa} {st:AS}
variable {d:Nat} {T U T':TypeId} {pos:String} {aft:Array Edge} {g:Option (Nat×Bool)} {x y:Operand} {k ky:IntKind} {a b:Int}

theorem Conc.evs {fr:Fr}{w:World}{m:Mem}{ρ:List Value}{φ:List Frag}(hc:Conc X st fr w m ρ φ) : ∀ {ps:List (Nat×Operand)}{qs:List (Nat×List AV)},evas st.l ps=qs.map some →
  ∃ vs,evos fr ps=some vs∧vs.map (·.1)=qs.map (·.1)∧∀ (i:Nat) (p:Nat×List AV) (v:Nat×Value),qs[i]?=some p→vs[i]?=some v→RepL m ρ p.2 v.2.cells.toList∧∀ u∈v.2.cells.toList,u.oneCell'=true:=by
 intro ps
 induction ps with
 | nil=>intro qs h; cases qs with
  | nil=>exact ⟨[],rfl,rfl,fun i p v hp=>by simp at hp⟩
  | cons=>simp [evas] at h
 | cons p ps ih=>intro qs h; cases qs with
  | nil=>simp [evas] at h
  | cons q qs =>
   simp only [evas,List.map_cons,List.cons.injEq] at h
   obtain ⟨h1,h2⟩:=h
   obtain ⟨vs,h3,h4,h5⟩:=ih h2
   obtain ⟨a,ha,hb⟩:=Option.bind_eq_some_iff.1 h1
   obtain ⟨cs,hcs,hq⟩:=Option.map_eq_some_iff.1 hb
   subst hq
   obtain ⟨v,h6,h7⟩:=hc.ev ha
   obtain ⟨i,x⟩:=p
   refine ⟨(i,v)::vs,by simp only [evos]; rw [h6,h3],by simp [h4],fun j p u hp hu=>?_⟩
   cases j with
   | zero=>simp at hp hu; subst hp hu; exact zC0 hcs h7
   | succ j=>exact h5 j p u (by simpa using hp) (by simpa using hu)

def zC4 (P:Program) (T:Nat) (z:Value) (place:Nat→Option (Nat×Nat)) : Prop:=∀ ps w,(Instr.build T ps).run P w=(match Instr.fill place z.cells ps.toList with
 | some cells=>Result.ok (.agg cells) w
 | none=>(Instr.build T ps).run P w)
theorem zAs {z:Value}{zs:List AV}{place:Nat→Option (Nat×Nat)}{ps:List (Nat×Operand)}{qs:List (Nat×List AV)}{cs:List AV}(hT:zC4 P T z place) (hz:zBd (ofV z)=some zs) (hx:evas st.l ps=qs.map some) (hl:layA place zs qs=some cs) (hN:Nat.blt d N.n=true:=by rfl) :
  AOpV P N X ⟨some d,.build T ps.toArray,U,pos,aft,g⟩ (.agg cs) st :=
 zA6 rfl fun Q fr w m ρ φ hc=>by
  obtain ⟨vs,h1,h2,h3⟩:=hc.evs hx
  obtain ⟨h4,h5⟩:=zC0 hz (rep_ofV m ρ z)
  obtain ⟨us,h6,h7,h8⟩:=lay_fill hl h2 h3 h4 h5
  refine ⟨.agg us,?_,fun K hk=>op_build h1 (fun w=>?_) hN hk⟩
  ·simp only [RepA]; exact ⟨us.toList,by simp,h7,h8⟩
  ·rw [hT]; simp [h6]
theorem zBn {z:Value}{fs:Array Field}{pl:List (Nat×Nat)}(hz:Zero P T z) (hu:P.underlying T=some (.struct fs)) (hp:∀ w,(fs.mapM (fun f=>do pure (f.offset,← sizeOf f.type) : Field→Sem (Nat×Nat))).run P w=.ok pl.toArray w) : zC4 P T z (fun i=>pl[i]?):=by
 intro ps w
 split
 ·rename_i cells h
  simp only [Instr.build,Sem.run_bind,hz w,Result.andThen_ok,run_underlying hu,hp w]
  simp [h]
 ·rfl
theorem buildT_array {z:Value}{n e sz:Nat}(hz:Zero P T z) (hu:P.underlying T=some (.array n e)) (hs:Sz P e sz) : zC4 P T z (fun i=>some (i * sz,sz)):=by
 intro ps w
 split
 ·rename_i cells h
  simp only [Instr.build,Sem.run_bind,hz w,Result.andThen_ok,run_underlying hu,hs w]
  simp [h]
 ·rfl

def BuildS (P:Program) (T E:Nat) (t:Ty) : Prop:=P.underlying T=some (.slice E)∧∃ i z,P.info? E=some i∧i.zero=some z∧i.size=t.cells∧z.cells.toList=zeroV t
theorem zeroV_one : ∀ (t:Ty),∀ u∈zeroV t,u.oneCell'=true:=fun t u hu=>(rc_zero (fun _=>none) t).one u hu

theorem zCF {w:World}{E:Nat}{t:Ty}{ps:Array (Nat×Value)}{n:Nat}(hT:BuildS P T E t) (hn:Nat.ble (n * t.cells) 16777216=true){us:Array Value} :
  ∃ zs : Array Value,zs.toList=(List.replicate n (zeroV t)).flatten∧(Instr.fill (fun i=>some (i * t.cells,t.cells)) zs ps.toList=some us→(Instr.buildSlice T n ps).run P w=.ok (.slice (some ⟨w.heap.size,0,none⟩) n n) { w with heap:=w.heap.push (.cells us E) }):=by
 obtain ⟨hu,i,z,hi,hz,hs,hzs⟩:=hT
 have hn':=Nat.le_of_ble_eq_true hn
 have hzsz : z.cells.size=t.cells:=by have:=(rc_zero (fun _=>none) t).len; rw [← hzs] at this; simpa using this
 by_cases h0 : n * t.cells=0
 ·refine ⟨#[],?_,fun h=>?_⟩
  ·have : (List.replicate n (zeroV t)).flatten.length=0:=by
    rw [zCf (k:=t.cells) (by simp:(List.replicate n (zeroV t)).length=n),h0]
    intro u hu; rw [List.eq_of_mem_replicate hu]; exact (rc_zero (fun _=>none) t).len
   exact (List.eq_nil_of_length_eq_zero this).symm
  ·simp [Instr.buildSlice,run_underlying hu,sizeOf,typeInfo,hi,hs,h0,Array.range_zero',h,newRow]
 ·refine ⟨madeCells z.cells (n * t.cells),?_,fun h=>?_⟩
  ·rw [← hzsz]; exact made_rows hzs n
  ·have hno : ¬ (16777216 < n * t.cells):=by omega
   have h' : Instr.fill (fun i=>some (i * t.cells,t.cells)) ((Array.range (n * t.cells)).map (z.cells[· % z.cells.size]!)) ps.toList=some us:=h
   simp [Instr.buildSlice,run_underlying hu,sizeOf,typeInfo,hi,hs,h0,hno,zeroValue,hz,h',newRow]

theorem rows_of_expl {m:Mem}{ρ:List Value}{t:Ty} : ∀ {ys:List t.den}{vs:List Value},(ys.all fun y=>t.fit y)=true→RepL m ρ ((ys.map (expl t)).flatten) vs→zBo m t ys vs:=by
 intro ys
 induction ys with
 | nil=>intro vs _ h; cases vs with
  | nil=>exact zBo.nil
  | cons=>simp [RepL] at h
 | cons y ys ih =>
  intro vs hno h
  simp only [List.all_cons,Bool.and_eq_true] at hno
  simp only [List.map_cons,List.flatten_cons] at h
  obtain ⟨u1,u2,rfl,g1,g2⟩:=RepL.split h
  refine zBo.app (x:=[y]) ⟨[u1],rfl,by simp,fun i e u he hu=>?_⟩ (ih hno.2 g2)
  cases i with
  | zero=>simp at he hu; subst he hu; exact zCY hno.1 g1
  | succ i=>simp at he
theorem zAM {E n:Nat}{t:Ty}{ps:List (Nat×Operand)}{qs:List (Nat×List AV)}{zs cs:List AV}{ys:List t.den}(hT:BuildS P T E t) (hx:evas st.l ps=qs.map some) (hz:((List.replicate n (zeroV t)).flatten).map ofV1=zs) (hl:layA (fun i=>some (i * t.cells,t.cells)) zs qs=some cs) (hy:(ys.map (expl t)).flatten=cs) (hn:Nat.beq ys.length n=true) (hc:Nat.ble (n * t.cells) 16777216=true) (hc1:Nat.ble n 16777216=true) (hno:(ys.all fun y=>t.fit y)=true) (hN:Nat.blt d N.n=true:=by rfl) :
  AOpV P N X ⟨some d,.buildSlice T n ps.toArray,U,pos,aft,g⟩ (.sl t ys) st:=by
 intro Q fr w m ρ φ hcc
 obtain ⟨vs,h1,h2,h3⟩:=hcc.evs hx
 have hzl:=zCF (w:=w) (ps:=vs.toArray) hT hc (us:=#[])
 have hz' : ∀ (l:List Value),RepL m ρ (l.map ofV1) l:=by
  intro l
  induction l with
  | nil=>simp [RepL]
  | cons v l ih=>simp only [List.map_cons,RepL]; exact ⟨rep_ofV1 m ρ v,ih⟩
 obtain ⟨zz,hzz,_⟩:=hzl
 obtain ⟨us,h6,h7,h8⟩:=lay_fill (us:=zz) hl h2 h3 (by rw [← hz,hzz]; exact hz' _) (by
  rw [hzz]; intro u hu
  obtain ⟨r,hr,hur⟩:=List.mem_flatten.1 hu
  rw [List.eq_of_mem_replicate hr] at hur
  exact zeroV_one t u hur)
 obtain ⟨zz',hzz',hrun⟩:=zCF (w:=w) (ps:=vs.toArray) hT hc (us:=us)
 have hzeq : zz'=zz:=Array.toList_inj.1 (hzz'.trans hzz.symm)
 subst hzeq
 have hr:=hrun (by simpa using h6)
 have hn':=Nat.eq_of_beq_eq_true hn
 refine zAo (v:=.slice (some ⟨w.heap.size,0,none⟩) n n) rfl hN (fun s hs=>?_) ?_ (dk_new (zBh w (.cells us E)))
 ·have e:=evos_eval hs h1
  simp only [execOp,List.map_toArray,Sem.run_bind]
  rw [show (List.map (fun (x:Nat×Operand)=>match x with | (i,x)=>(i,s.eval x)) ps)=vs from e,hr]
  rfl
 ·have hs:=hcc.sh.alloc (zBh w (.cells us E)) rfl
  refine ⟨d,_,rfl,rfl,(zBh w _).ext,m.add [(w.heap.size,.cells us E)],Mem.le_add _ _,SH.frz (g:=[(w.heap.size,.cells us E)]) (by simpa using hs),?_⟩
  simp only [RepA]
  have hmem : m.add [(w.heap.size,.cells us E)] w.heap.size=some (.cells us E):=add_get (by simp) (by simp) (by have:=hs.dis (w.heap.size,.cells us E) (by simp); exact this) rfl
  have hrows : zBo m t ys us.toList:=by rw [← hy] at h7; exact rows_of_expl hno h7
  have h47 : zC8=140737488355328:=rfl
  have hc1':=Nat.le_of_ble_eq_true hc1
  have:=zCy (c:=n) hmem (zBo.mono (Mem.le_add m [(w.heap.size,.cells us E)]) hrows) (by rw [← hrows.len,List.take_length]) (by omega) (by omega)
  rw [hn'] at this; exact this

theorem zBB {s:Str}{c:UInt8}(hU:Und P T .string) (hx:aev st.l x=some (.str s)) (hy:aev st.l y=some (.int k a)) (he:ix s a=some c) (hN:Nat.blt d N.n=true:=by rfl) : AOpV P N X ⟨some d,.index T x y,U,pos,aft,g⟩ (.int .u8 (c.toNat : Int)) st :=
 zA6 rfl fun Q fr w m ρ φ hc=>⟨_,zBK,fun K hk=>op_index (hc.str hx) (hc.int hy) (fun w=>by
  obtain ⟨h1,h2,h3⟩:=ix_some he
  have h4 : (bstr s)[a.toNat]?=some c:=by
   have hsz : a.toNat < (bstr s).size:=by rw [zDb]; exact h2
   rw [getElem?_pos (bstr s) a.toNat hsz]
   have:=(List.getElem?_eq_some_iff.1 h3).2
   rw [← this]; rfl
  simp [Instr.index,run_underlying hU,asIntOf,h1,h4]) hN hk⟩
theorem bstr_ext (s:Str) (l h:Nat) : (bstr s).extract l h=bstr ((s.take h).drop l):=by
 have : ((bstr s).extract l h).data=(bstr ((s.take h).drop l)).data:=by
  simp [bstr,ByteArray.data_extract,List.extract_eq_take_drop,List.drop_take]
 cases hh : (bstr s).extract l h; rw [hh] at this; simp only at this; subst this; rfl
def slOk (lo hi:Int) (n:Nat) : Bool:=decide (0≤lo)&&decide (lo≤hi)&&decide (hi≤n)
def osI (st:AS) (o:Option Operand) (dflt:Int) (z:Int) : Prop:=match o with
 | none=>z=dflt
 | some x=>∃ k,aev st.l x=some (.int k z)
theorem run_bounds {isS:Bool}{len cap:Nat}{lo hi:Option Value}{l h:Int}(hl:match lo with | none=>l=0 | some v=>∃ k,v=.int k l) (hh:match hi with | none=>h=len | some v=>∃ k,v=.int k h) (h0:0≤l) (h1:l≤h) (h2:h≤cap) (w:World) :
  (Instr.sliceBounds isS len cap lo hi none).run P w=.ok (l.toNat,h.toNat,cap) w:=by
 cases lo with
 | none =>
  simp only at hl; subst hl
  cases hi with
  | none=>simp only at hh; subst hh; simp [Instr.sliceBounds]
  | some v=>obtain ⟨k,rfl⟩:=hh; simp [Instr.sliceBounds,Instr.sliceBound,asIntOf,h2,show (0:Int)≤h by omega]
 | some u =>
  obtain ⟨k',rfl⟩:=hl
  cases hi with
  | none=>simp only at hh; subst hh; simp [Instr.sliceBounds,Instr.sliceBound,asIntOf,h0,h1]
  | some v =>
   obtain ⟨k,rfl⟩:=hh
   have h3 : (0:Int)≤h:=by omega
   have h4 : l≤((h.toNat : Nat) : Int):=by omega
   simp [Instr.sliceBounds,Instr.sliceBound,asIntOf,h2,h3,h0,h4]
   intro h5; omega
theorem osI_val {fr:Fr}{w:World}{m:Mem}{ρ:List Value}{φ:List Frag}(hc:Conc X st fr w m ρ φ){o:Option Operand}{df z:Int}(h:osI st o df z){s:Act}(hs:Holds N fr s) : match o.map s.eval with | none=>z=df | some v=>∃ k,v=.int k z:=by
 cases o with
 | none=>exact h
 | some x=>obtain ⟨k,hk⟩:=h; exact ⟨k,hs.eval (hc.int hk)⟩
theorem av_slice_str {s:Str}{lo hi:Option Operand}{l h:Int}(hU:Und P T .string) (hx:aev st.l x=some (.str s)) (hl:osI st lo 0 l) (hh:osI st hi (s.length : Int) h) (hb:slOk l h s.length=true) (hN:Nat.blt d N.n=true:=by rfl) : AOpV P N X ⟨some d,.slice T x lo hi none,U,pos,aft,g⟩ (.str ((s.take h.toNat).drop l.toNat)) st :=
 zA6 rfl fun Q fr w m ρ φ hc=>⟨_,rep_str,fun K hk=>zAo rfl hN (fun ac ha=>by
  simp only [slOk,Bool.and_eq_true,decide_eq_true_eq] at hb
  have e1:=osI_val hc hl ha
  have e2:=osI_val hc hh ha
  have hr:=run_bounds (P:=P) (isS:=false) (len:=(bstr s).size) (cap:=(bstr s).size) (lo:=lo.map ac.eval) (hi:=hi.map ac.eval) e1 (by rw [zDb]; exact e2) hb.1.1 hb.1.2 (by rw [zDb]; exact hb.2) w
  simp [execOp,Instr.sliceAt,Instr.slice,ha.eval (hc.str hx),run_underlying hU,hr,bstr_ext]) hk⟩

theorem zBo.sub {m:Mem}{t:Ty}{x:List t.den}{b o:Nat}(h:∀ (i:Nat) (y:t.den),x[i]?=some y→∃ us,RC m t y us∧zCQ m b (o+i * t.cells) us) (l r:Nat) : ∀ (i:Nat) (y:t.den),((x.take r).drop l)[i]?=some y→∃ us,RC m t y us∧zCQ m b (o+l * t.cells+i * t.cells) us:=by
 intro i y hy
 rw [List.getElem?_drop,List.getElem?_take] at hy
 split at hy
 ·obtain ⟨us,h1,h2⟩:=h _ y hy
  exact ⟨us,h1,by rw [Nat.add_mul,← Nat.add_assoc] at h2; exact h2⟩
 ·cases hy
theorem zDD {t:Ty}{xs:List t.den}{E:Nat}{lo hi:Option Operand}{l h:Int}(hU:Und P T (.slice E)) (hS:Sz P E t.cells) (hx:aev st.l x=some (.sl t xs)) (hl:osI st lo 0 l) (hh:osI st hi (xs.length : Int) h) (hb:slOk l h xs.length=true) (hN:Nat.blt d N.n=true:=by rfl) : AOpV P N X ⟨some d,.slice T x lo hi none,U,pos,aft,g⟩ (.sl t ((xs.take h.toNat).drop l.toNat)) st :=
 zA6 rfl fun Q fr w m ρ φ hc=>by
  simp only [slOk,Bool.and_eq_true,decide_eq_true_eq] at hb
  obtain ⟨⟨h0,h1⟩,h2⟩:=hb
  obtain ⟨v,g1,g2⟩:=hc.ev hx
  simp only [RepA,RC] at g2
  obtain ⟨A,n,c,g3,g4,g5,g6,b,o,g7,g8⟩:=g2
  cases g3
  subst g4
  refine ⟨.slice (if c=l.toNat then A else A.map (·.add (l.toNat * t.cells))) (h.toNat - l.toNat) (c - l.toNat),?_,fun K hk=>zAo rfl hN (fun ac ha=>?_) hk⟩
  ·simp only [RepA,RC]
   refine ⟨_,_,_,rfl,by simp; omega,by omega,by omega,b,o+l.toNat * t.cells,fun hp=>?_,zBo.sub g8 _ _⟩
   rw [if_neg (by omega),g7 (by omega)]
   simp [zCu]
  ·have e1:=osI_val hc hl ha
   have e2:=osI_val hc hh ha
   have hr:=run_bounds (P:=P) (isS:=true) (len:=xs.length) (cap:=c) (lo:=lo.map ac.eval) (hi:=hi.map ac.eval) e1 e2 h0 h1 (by omega) w
   simp [execOp,Instr.sliceAt,Instr.slice,ha.eval g1,run_underlying hU,hr,hS w]
end
end Go.Ab
namespace Go.Ab
open Go.RowKit Go.Shelf Go.Proofs Go.Eng

def posN : List Nat→Nat→Option Nat
 | [],_=>none
 | j::r,i=>bif Nat.beq j i then some 0 else (posN r i).map (·+1)
theorem posN_get : ∀ {σ:List Nat}{i j:Nat},posN σ i=some j→σ[j]?=some i:=by
 intro σ
 induction σ with
 | nil=>intro i j h; simp [posN] at h
 | cons a σ ih =>
  intro i j h
  simp only [posN] at h
  cases hb : Nat.beq a i
  ·rw [hb] at h
   simp only [cond_false] at h
   obtain ⟨j',h1,rfl⟩:=Option.map_eq_some_iff.1 h
   simpa using ih h1
  ·rw [hb] at h
   simp only [cond_true,Option.some.injEq] at h
   subst h
   simp [Nat.eq_of_beq_eq_true hb]
theorem posN_none : ∀ {σ:List Nat}{i:Nat},posN σ i=none→i∉σ:=by
 intro σ
 induction σ with
 | nil=>intro i _; simp
 | cons a σ ih =>
  intro i h
  simp only [posN] at h
  cases hb : Nat.beq a i
  ·rw [hb] at h
   simp only [cond_false,Option.map_eq_none_iff] at h
   simp only [List.mem_cons,not_or]
   refine ⟨fun e=>?_,ih h⟩
   subst e; simp at hb
  ·rw [hb] at h; simp at h

theorem mpt_rc {m m':Mem}{ρ:List Value}(hm:m.le m'){k k2 t:Ty}{x:List (k.den×List (k2.den×t.den))}{h:Value}{f:Frag}(H:ORep m ρ (.mpt k (.mp k2 (.dat t)) x []) h f) (hf:∀ p∈f,ctl p.2=false→m' p.1=some p.2) : RC m' (.map k (.map k2 t)) x [h]:=by
 obtain ⟨_,_,x',hp,b,es,cl,fs,rfl,rfl,h1,h2,h3,h4⟩:=H
 refine .inr ⟨x',hp,b,es,cl,rfl,hf (b,_) (by simp) rfl,h1,h3.1,h3.2,fun i p e a1 a2=>?_⟩
 have hl:=(List.getElem?_eq_some_iff.1 a1).1
 have a3 : fs[i]?=some (fs[i]'(by omega)):=List.getElem?_eq_getElem _
 have hE:=h4 i p e _ a1 a2 a3
 refine ⟨RV.mono hm hE.1.1,?_⟩
 have hO:=hE.2.2 fun n hn=>by simp at hn
 obtain ⟨y',hq,b2,es2,cl2,fs2,e1,e2,e3,e4,e5,e6⟩:=hO
 simp only [Ty.agg,Bool.false_eq_true,if_false]
 refine .inr ⟨y',hq,b2,es2,cl2,e1,hf (b2,_) ?_ rfl,e3,e5.1,e5.2,fun j p2 e7 c1 c2=>?_⟩
 ·refine List.mem_cons.2 (.inr (List.mem_flatten.2 ⟨_,List.mem_of_getElem? a3,?_⟩))
  rw [e2]; simp
 ·have hl2:=(List.getElem?_eq_some_iff.1 c1).1
  have c3 : fs2[j]?=some (fs2[j]'(by omega)):=List.getElem?_eq_getElem _
  obtain ⟨g1,us,g2,g3⟩:=e6 j p2 e7 _ c1 c2 c3
  refine ⟨RV.mono hm g1,?_⟩
  cases ha : t.agg with
  | true=>rw [if_pos rfl]; rw [if_pos (show (OT.dat t).aggB=true from ha)] at g2; exact ⟨us,g2,g3.1.mono hm⟩
  | false =>
   rw [if_neg (by simp)]
   rw [if_neg (show ¬ (OT.dat t).aggB=true from by simp [OT.aggB,ha])] at g2
   rw [← g2]; exact g3.1.mono hm
def zBI (H:AH) (σ:List Nat) : Nat→AV→AV
 | _,.osl i=>match posN σ i with
  | some j=>.osl j
  | none=>match H.get i with
   | .sl _ t x=>.sl t x
   | _=>.any
 | _,.map i=>match posN σ i with
  | some j=>.map j
  | none=>match H.get i with
   | .map tk tv x=>.dm tk tv x
   | .mpt k (.mp k2 (.dat t)) x []=>.dm k (.map k2 t) x
   | _=>.any
 | _,.ep i sz z o=>match posN σ i with
  | some j=>.ep j sz z o
  | none=>.any
 | 0,.ptr i o=>match posN σ i with
  | some j=>.ptr j o
  | none=>.any
 | d+1,.ptr i o=>match posN σ i with
  | some j=>.ptr j o
  | none=>match H.get i with
   | .var _ cs=>.rp ((cs.drop o).map (zBI H σ d))
   | _=>.any
 | 0,.rp _=>.any
 | 0,.agg _=>.any
 | 0,.tup _=>.any
 | 0,.fn _ _ _=>.any
 | d+1,.rp cs=>.rp (cs.map (zBI H σ d))
 | d+1,.agg cs=>.agg (cs.map (zBI H σ d))
 | d+1,.tup cs=>.tup (cs.map (zBI H σ d))
 | d+1,.fn f a b=>.fn f (a.map (zBI H σ d)) (b.map (zBI H σ d))
 | _,.sog i=>match posN σ i with
  | some j=>.sog j
  | none=>match H.get i with
   | .slo _ _ t x=>.sl (.slice t) x
   | _=>.any
 | _,.epg i k=>match posN σ i with
  | some j=>.epg j k
  | none=>.any
 | _,.row i k=>match posN σ i with
  | some j=>.row j k
  | none=>.any
 | _,.epr i k sz z o=>match posN σ i with
  | some j=>.epr j k sz z o
  | none=>.any
 | _,a=>a

def cv (a' a:AV) : Prop:=a'=a∨a'=.any∨(a=.nils∧∃ t,a'=.sl t [])∨(a'=.clo a∧renA [] a=a)∨(∃ t,a=.nilp∧a'=.pd t none)∨(∃ (t:Ty) (y:t.den),a=.rp (expl t y)∧a'=.pd t (some y)∧t.fit y=true)∨(∃ i,a=.ptr i 0∧a'=.map i)∨(∃ tk tv,a=.nilm∧a'=.dm tk tv [])
theorem cv0 {a:AV} : cv a a:=.inl rfl
theorem cv2 {t:Ty} : cv (.sl t []) .nils:=.inr (.inr (.inl ⟨rfl,t,rfl⟩))
theorem cv3 {a:AV}(h:renA [] a=a) : cv (.clo a) a:=.inr (.inr (.inr (.inl ⟨rfl,h⟩)))
theorem cv4 {t:Ty} : cv (.pd t none) .nilp:=.inr (.inr (.inr (.inr (.inl ⟨t,rfl,rfl⟩))))
theorem cv5 {t:Ty}{y:t.den}{cs:List AV}(h:t.fit y=true) (hc:cs=expl t y) : cv (.pd t (some y)) (.rp cs):=.inr (.inr (.inr (.inr (.inr (.inl ⟨t,y,by rw [hc],rfl,h⟩)))))
theorem cv7 {tk tv:Ty} : cv (.dm tk tv []) .nilm:=.inr (.inr (.inr (.inr (.inr (.inr (.inr ⟨tk,tv,rfl,rfl⟩))))))
theorem cv_rep {m:Mem}{ρ:List Value}{a' a:AV}{v:Value}(h:cv a' a) (hr:RepA m ρ a v) : RepA m ρ a' v:=by
 rcases h with rfl | rfl | ⟨rfl,t,rfl⟩ | ⟨rfl,h⟩ | ⟨t,rfl,rfl⟩ | ⟨t,y,rfl,rfl,hf⟩ | ⟨i,rfl,rfl⟩ | ⟨tk,tv,rfl,rfl⟩
 rotate_left 4
 ·simp only [RepA] at hr ⊢; subst hr; exact .inl ⟨rfl,rfl⟩
 ·simp only [RepA] at hr ⊢
  obtain ⟨b,o,us,rfl,h2,h3,h4⟩:=hr
  exact .inr ⟨y,b,o,us,rfl,rfl,zCY hf h2,h3⟩
 ·simp only [RepA] at hr ⊢
  obtain ⟨b,h1,rfl⟩:=hr
  exact ⟨h1,rfl⟩
 ·simp only [RepA] at hr ⊢; subst hr; exact .inl ⟨rfl,rfl⟩
 rotate_left 3
 ·simp only [RepA]
  refine ren_fwd (σ:=[]) (ρ:=ρ) (fun i j u hi _=>by simp at hi) a ?_
  rw [h]; exact hr
 ·exact hr
 ·simp only [RepA]
 ·simp only [RepA] at hr
  subst hr
  simp only [RepA,RC]
  exact ⟨none,0,0,rfl,rfl,Nat.le_refl _,Nat.zero_le _,0,0,fun h=>absurd h (by omega),fun i y hy=>by simp at hy⟩
def cvL : List AV→List AV→Prop
 | [],[]=>True
 | a'::r,a::s=>cv a' a∧cvL r s
 | _,_=>False
theorem cvL_rep {m:Mem}{ρ:List Value} : ∀ {as' bs:List AV}{vs:List Value},cvL as' bs→RepL m ρ bs vs→RepL m ρ as' vs:=by
 intro as'
 induction as' with
 | nil=>intro bs vs h hr; cases bs with
  | nil=>exact hr
  | cons=>exact h.elim
 | cons a as' ih=>intro bs vs h hr; cases bs with
  | nil=>exact h.elim
  | cons b bs=>cases vs with
   | nil=>simp [RepL] at hr
   | cons v vs=>simp only [RepL] at hr ⊢; exact ⟨cv_rep h.1 hr.1,ih h.2 hr.2⟩

def coeO (H:AH) (σ:List Nat) (d:Nat) : AO→AO
 | .var T cs=>.var T (cs.map (zBI H σ d))
 | .mpt k v x hs=>if hs.all (fun q=>(posN σ q.2).isSome) then .mpt k v x (hs.map fun q=>(q.1,(posN σ q.2).getD 0)) else .guest fun _ _=>True
 | .mapr tk tv x left cur j=>match posN σ j with
  | some j'=>.mapr tk tv x left cur j'
  | none=>.guest fun _ _=>True
 | .sloh ..=>.guest fun _ _=>True
 | o=>o
def cvO (o' o:AO) : Prop:=o'=o∨∃ T cs' cs,o'=.var T cs'∧o=.var T cs∧cvL cs' cs
theorem zAL {o:AO} : cvO o o:=.inl rfl
def Wk (X:Cx) (st st':AS) : Prop:=∀ fr w m ρ φ,Conc X st fr w m ρ φ→∃ m' ρ' φ',Conc X st' fr w m' ρ' φ'
theorem Wk.refl {X:Cx}{st:AS} : Wk X st st:=fun fr w m ρ φ h=>⟨m,ρ,φ,h⟩
theorem Wk.trans {X:Cx}{a b c:AS}(h:Wk X a b) (k:Wk X b c) : Wk X a c:=fun fr w m ρ φ hc=>let ⟨_,_,_,h1⟩:=h fr w m ρ φ hc; k _ _ _ _ _ h1

def wkS (l:AFr) (H:AH) (σ:List Nat) (d:Nat) : AFr→Prop
 | []=>True
 | (t,a')::r=>(∃ a,(l.look t).map (zBI H σ d)=some a∧cv a' a)∧wkS l H σ d r
def wkO (H:AH) (σ:List Nat) (d:Nat) (H':AH) : Nat→List Nat→Prop
 | _,[]=>True
 | j,i::r=>cvO (H'.get j) (coeO H σ d (H.get i))∧wkO H σ d H' (j+1) r
def wkB (k n:Nat) (σ:List Nat) : Bool:=zCn σ&&(σ.all fun i=>Nat.blt i n)&&Nat.ble k σ.length&&((List.range k).all fun i=>match σ[i]? with
 | some j=>Nat.beq i j
 | none=>false)

theorem wkS_get {l:AFr}{H:AH}{σ:List Nat}{d:Nat} : ∀ {l':AFr},wkS l H σ d l'→∀ t a',l'.look t=some a'→∃ a,l.look t=some a∧cv a' (zBI H σ d a):=by
 intro l'
 induction l' with
 | nil=>intro _ t a' h; simp [AFr.look] at h
 | cons p r ih =>
  intro h t a' ht
  obtain ⟨q,b⟩:=p
  simp only [wkS] at h
  rw [AFr.look_cons] at ht
  split at ht
  ·rename_i e; subst e; cases ht
   obtain ⟨a,h1,h2⟩:=h.1
   obtain ⟨a0,h3,rfl⟩:=Option.map_eq_some_iff.1 h1
   exact ⟨a0,h3,h2⟩
  ·exact ih h.2 t a' ht
theorem wkO_get {H:AH}{σ0:List Nat}{d:Nat}{H':AH} : ∀ {σ:List Nat}{j:Nat},wkO H σ0 d H' j σ→∀ p i,σ[p]?=some i→cvO (H'.get (j+p)) (coeO H σ0 d (H.get i)):=by
 intro σ
 induction σ with
 | nil=>intro j _ p i h; simp at h
 | cons a r ih =>
  intro j h p i hi
  simp only [wkO] at h
  cases p with
  | zero=>simp at hi; subst hi; exact h.1
  | succ p=>rw [show j+(p+1)=(j+1)+p by omega]; exact ih h.2 p i (by simpa using hi)

theorem flatMap_getD (φ:List Frag) (σ:List Nat) : (σ.map fun i=>φ.getD i []).flatten=σ.flatMap fun i=>φ.getD i []:=by
 rw [List.flatMap_def]

theorem slrep_rc {m m':Mem}(hm:m.le m'){T:TypeId}{t:Ty}{x:List t.den}{v:Value}{f:Frag}(h:SlRep m T t x v f) (hf:∀ p∈f,ctl p.2=false→m' p.1=some p.2) : RC m' (.slice t) x [v]:=by
 obtain ⟨h0,⟨rfl,rfl,rfl⟩ | ⟨b,c,cs,vs,rfl,rfl,q1,q2,q3,q4,q5⟩⟩:=h
 ·simp only [RC]; exact ⟨none,0,0,rfl,rfl,Nat.le_refl _,Nat.zero_le _,0,0,fun h=>absurd h (by omega),fun i y hy=>by simp at hy⟩
 ·exact zCy (hf (b,_) (List.mem_singleton.2 rfl) rfl) (q4.mono hm) q5 q1 h0
theorem RowsO.at {m:Mem}{T:TypeId}{t:Ty} : ∀ {x:List (List t.den)}{rs:List Value}{fs:List Frag},RowsO m T t x rs fs→rs.length=x.length∧fs.length=x.length∧∀ (i:Nat) (y:List t.den),x[i]?=some y→∃ r f,rs[i]?=some r∧fs[i]?=some f∧SlRep m T t y r f:=by
 intro x
 induction x with
 | nil=>intro rs fs h; cases rs with
  | nil=>cases fs with
   | nil=>exact ⟨rfl,rfl,fun i y hy=>by simp at hy⟩
   | cons=>exact h.elim
  | cons=>exact h.elim
 | cons z x ih=>intro rs fs h; cases rs with
  | nil=>exact h.elim
  | cons r rs=>cases fs with
   | nil=>exact h.elim
   | cons f fs =>
    obtain ⟨h1,h2,h3⟩:=ih h.2
    refine ⟨by simp [h1],by simp [h2],fun i y hy=>?_⟩
    cases i with
    | zero=>simp at hy; subst hy; exact ⟨r,f,rfl,rfl,h.1⟩
    | succ i=>simpa using h3 i y (by simpa using hy)
theorem slo_rc {m m':Mem}(hm:m.le m'){ρ:List Value}{T T':TypeId}{t:Ty}{x:List (List t.den)}{v:Value}{rs:List Value}{f:Frag}(h:ORep m ρ (.slo T T' t x) (.tuple (v::rs).toArray) f) (hf:∀ p∈f,ctl p.2=false→m' p.1=some p.2) : RC m' (.slice (.slice t)) x [v]:=by
 obtain ⟨rs',fs,f0,b,c,cs,h1,rfl,rfl,h4,h5,h6,h7,h8,h9⟩:=h
 simp only [Value.tuple.injEq,List.toArray_inj,List.cons.injEq] at h1
 obtain ⟨rfl,rfl⟩:=h1
 obtain ⟨l1,l2,l3⟩:=h9.at
 refine ⟨_,_,c,rfl,rfl,h5,h4,b,0,fun _=>rfl,fun i y hy=>?_⟩
 obtain ⟨r,g,k1,k2,k3⟩:=l3 i y hy
 refine ⟨[r],slrep_rc hm k3 (fun p hp hpc=>hf p ?_ hpc),?_⟩
 ·rw [List.mem_append]; right
  exact List.mem_flatten.2 ⟨g,List.mem_of_getElem? k2,hp⟩
 ·intro j u hj
  cases j with
  | succ j=>simp at hj
  | zero =>
   simp at hj; subst hj
   refine ⟨cs,T,(0,0),hf (b,_) (by simp) rfl,?_⟩
   rw [← h8,List.getElem?_take] at k1
   split at k1
   ·simpa [Ty.cells] using k1
   ·cases k1

theorem coe_rep {m m':Mem}{ρ ρ':List Value}{φ:List Frag}{H:AH}{σ:List Nat}(hm:m.le m') (hσ:∀ i j h,posN σ i=some j→ρ[i]?=some h→ρ'[j]?=some h) (hfz:∀ i h,posN σ i=none→ρ[i]?=some h→∃ f,ORep m ρ (H.get i) h f∧∀ p∈f,ctl p.2=false→m' p.1=some p.2) :
  ∀ (d:Nat) {a:AV} {v:Value},RepA m ρ a v→RepA m' ρ' (zBI H σ d a) v:=by
 intro d
 induction d with
 | zero =>
  intro a v h
  cases a with
  | osl i =>
   simp only [zBI]
   simp only [RepA] at h
   cases hp : posN σ i with
   | some j=>simp only [RepA]; exact ⟨hσ i j v hp h.1,h.2⟩
   | none =>
    obtain ⟨f,h1,h2⟩:=hfz i v hp h.1
    cases ho : H.get i with
    | sl T t x =>
     rw [ho] at h1
     simp only [RepA]
     obtain ⟨h0,⟨rfl,rfl,rfl⟩ | ⟨b,c,cs,vs,rfl,rfl,q1,q2,q3,q4,q5⟩⟩:=h1
     ·simp only [RC]; exact ⟨none,0,0,rfl,rfl,Nat.le_refl _,Nat.zero_le _,0,0,fun h=>absurd h (by omega),fun i y hy=>by simp at hy⟩
     ·exact zCy (h2 (b,_) (List.mem_singleton.2 rfl) rfl) (q4.mono hm) q5 q1 h0
    | _=>simp only [RepA]
  | map i =>
   simp only [zBI]
   simp only [RepA] at h
   cases hp : posN σ i with
   | some j=>simp only [RepA]; exact ⟨hσ i j v hp h.1,h.2⟩
   | none =>
    obtain ⟨f,h1,h2⟩:=hfz i v hp h.1
    cases ho : H.get i with
    | map tk tv x =>
     rw [ho] at h1
     obtain ⟨x',hp',b,es,cl,rfl,rfl,h3⟩:=h1
     simp only [RepA]
     exact .inr ⟨x',hp',b,es,cl,rfl,h2 (b,_) (List.mem_singleton.2 rfl) rfl,EntM.mono hm (x:=x') h3⟩
    | mpt k v x hs =>
     rw [ho] at h1
     cases v with
     | mp k2 v =>
      cases v with
      | dat t =>
       cases hs with
       | nil=>simp only [RepA]; exact mpt_rc hm h1 h2
       | cons=>simp only [RepA]
      | _=>simp only [RepA]
     | _=>simp only [RepA]
    | _=>simp only [RepA]
  | ep i sz z o =>
   simp only [zBI]
   simp only [RepA] at h
   obtain ⟨b,n,c,h1,h2⟩:=h
   cases hp : posN σ i with
   | some j=>simp only [RepA]; exact ⟨b,n,c,hσ i j _ hp h1,h2⟩
   | none=>simp only [RepA]
  | ptr i o =>
   simp only [zBI]
   simp only [RepA] at h
   obtain ⟨b,h1,h2⟩:=h
   cases hp : posN σ i with
   | some j=>simp only [RepA]; exact ⟨b,hσ i j _ hp h1,h2⟩
   | none=>simp only [RepA]
  | sog i =>
   simp only [zBI]
   simp only [RepA] at h
   obtain ⟨rs,g1,g2⟩:=h
   cases hp : posN σ i with
   | some j=>simp only [RepA]; exact ⟨rs,hσ i j _ hp g1,g2⟩
   | none =>
    obtain ⟨f,h1,h2⟩:=hfz i _ hp g1
    cases ho : H.get i with
    | slo T T' t x =>
     rw [ho] at h1
     simp only [RepA]
     exact slo_rc hm h1 h2
    | _=>simp only [RepA]
  | epg i k =>
   simp only [zBI]
   simp only [RepA] at h
   obtain ⟨b,n,c,rs,h1,h2⟩:=h
   cases hp : posN σ i with
   | some j=>simp only [RepA]; exact ⟨b,n,c,rs,hσ i j _ hp h1,h2⟩
   | none=>simp only [RepA]
  | row i k =>
   simp only [zBI]
   simp only [RepA] at h
   obtain ⟨hd,rs,h1,h2⟩:=h
   cases hp : posN σ i with
   | some j=>simp only [RepA]; exact ⟨hd,rs,hσ i j _ hp h1,h2⟩
   | none=>simp only [RepA]
  | epr i k sz z o =>
   simp only [zBI]
   simp only [RepA] at h
   obtain ⟨hd,rs,b,n,c,h1,h2⟩:=h
   cases hp : posN σ i with
   | some j=>simp only [RepA]; exact ⟨hd,rs,b,n,c,hσ i j _ hp h1,h2⟩
   | none=>simp only [RepA]
  | clo a=>simp only [zBI,RepA] at h ⊢; exact RepA.mono hm (fun _ _ h=>h) a h
  | rp cs=>simp only [zBI,RepA]
  | agg cs=>simp only [zBI,RepA]
  | tup cs=>simp only [zBI,RepA]
  | fn f a b=>simp only [zBI,RepA]
  | sl t x=>simp only [zBI,RepA] at h ⊢; exact h.mono hm
  | dm tk tv x=>simp only [zBI,RepA] at h ⊢; exact h.mono hm
  | pd t x=>simp only [zBI,RepA] at h ⊢; exact h.mono hm
  | bad=>simp only [RepA] at h
  | any=>simp only [zBI,RepA]
  | _=>simpa only [zBI,RepA] using h
 | succ d ih =>
  have ihL : ∀ {as':List AV} {vs:List Value},RepL m ρ as' vs→RepL m' ρ' (as'.map (zBI H σ d)) vs:=by
   intro as'
   induction as' with
   | nil=>intro vs h; cases vs with
    | nil=>simp [RepL]
    | cons=>simp [RepL] at h
   | cons a as' ih2=>intro vs h; cases vs with
    | nil=>simp [RepL] at h
    | cons v vs=>simp only [List.map_cons,RepL] at h ⊢; exact ⟨ih h.1,ih2 h.2⟩
  intro a v h
  cases a with
  | osl i =>
   simp only [zBI]
   simp only [RepA] at h
   cases hp : posN σ i with
   | some j=>simp only [RepA]; exact ⟨hσ i j v hp h.1,h.2⟩
   | none =>
    obtain ⟨f,h1,h2⟩:=hfz i v hp h.1
    cases ho : H.get i with
    | sl T t x =>
     rw [ho] at h1
     simp only [RepA]
     obtain ⟨h0,⟨rfl,rfl,rfl⟩ | ⟨b,c,cs,vs,rfl,rfl,q1,q2,q3,q4,q5⟩⟩:=h1
     ·simp only [RC]; exact ⟨none,0,0,rfl,rfl,Nat.le_refl _,Nat.zero_le _,0,0,fun h=>absurd h (by omega),fun i y hy=>by simp at hy⟩
     ·exact zCy (h2 (b,_) (List.mem_singleton.2 rfl) rfl) (q4.mono hm) q5 q1 h0
    | _=>simp only [RepA]
  | map i =>
   simp only [zBI]
   simp only [RepA] at h
   cases hp : posN σ i with
   | some j=>simp only [RepA]; exact ⟨hσ i j v hp h.1,h.2⟩
   | none =>
    obtain ⟨f,h1,h2⟩:=hfz i v hp h.1
    cases ho : H.get i with
    | map tk tv x =>
     rw [ho] at h1
     obtain ⟨x',hp',b,es,cl,rfl,rfl,h3⟩:=h1
     simp only [RepA]
     exact .inr ⟨x',hp',b,es,cl,rfl,h2 (b,_) (List.mem_singleton.2 rfl) rfl,EntM.mono hm (x:=x') h3⟩
    | mpt k v x hs =>
     rw [ho] at h1
     cases v with
     | mp k2 v =>
      cases v with
      | dat t =>
       cases hs with
       | nil=>simp only [RepA]; exact mpt_rc hm h1 h2
       | cons=>simp only [RepA]
      | _=>simp only [RepA]
     | _=>simp only [RepA]
    | _=>simp only [RepA]
  | ep i sz z o =>
   simp only [zBI]
   simp only [RepA] at h
   obtain ⟨b,n,c,h1,h2⟩:=h
   cases hp : posN σ i with
   | some j=>simp only [RepA]; exact ⟨b,n,c,hσ i j _ hp h1,h2⟩
   | none=>simp only [RepA]
  | ptr i o =>
   simp only [zBI]
   simp only [RepA] at h
   obtain ⟨b,h1,rfl⟩:=h
   cases hp : posN σ i with
   | some j=>simp only [RepA]; exact ⟨b,hσ i j _ hp h1,rfl⟩
   | none =>
    obtain ⟨f,h3,h4⟩:=hfz i _ hp h1
    cases ho : H.get i with
    | var T cs =>
     rw [ho] at h3
     obtain ⟨b',us,q1,rfl,q3,q4⟩:=h3
     cases q1
     simp only [RepA]
     refine ⟨b,o,us.drop o,rfl,ihL (q3.drop o),?_,fun u hu=>q4 u (List.mem_of_mem_drop hu)⟩
     intro j u hj
     rw [List.getElem?_drop] at hj
     exact ⟨_,_,_,h4 (b,_) (List.mem_singleton.2 rfl) rfl,by simpa using hj⟩
    | _=>simp only [RepA]
  | sog i =>
   simp only [zBI]
   simp only [RepA] at h
   obtain ⟨rs,g1,g2⟩:=h
   cases hp : posN σ i with
   | some j=>simp only [RepA]; exact ⟨rs,hσ i j _ hp g1,g2⟩
   | none =>
    obtain ⟨f,h1,h2⟩:=hfz i _ hp g1
    cases ho : H.get i with
    | slo T T' t x =>
     rw [ho] at h1
     simp only [RepA]
     exact slo_rc hm h1 h2
    | _=>simp only [RepA]
  | epg i k =>
   simp only [zBI]
   simp only [RepA] at h
   obtain ⟨b,n,c,rs,h1,h2⟩:=h
   cases hp : posN σ i with
   | some j=>simp only [RepA]; exact ⟨b,n,c,rs,hσ i j _ hp h1,h2⟩
   | none=>simp only [RepA]
  | row i k =>
   simp only [zBI]
   simp only [RepA] at h
   obtain ⟨hd,rs,h1,h2⟩:=h
   cases hp : posN σ i with
   | some j=>simp only [RepA]; exact ⟨hd,rs,hσ i j _ hp h1,h2⟩
   | none=>simp only [RepA]
  | epr i k sz z o =>
   simp only [zBI]
   simp only [RepA] at h
   obtain ⟨hd,rs,b,n,c,h1,h2⟩:=h
   cases hp : posN σ i with
   | some j=>simp only [RepA]; exact ⟨hd,rs,b,n,c,hσ i j _ hp h1,h2⟩
   | none=>simp only [RepA]
  | clo a=>simp only [zBI,RepA] at h ⊢; exact RepA.mono hm (fun _ _ h=>h) a h
  | rp cs =>
   simp only [zBI,RepA] at h ⊢
   obtain ⟨b,o,us,h1,h2,h3,h4⟩:=h
   exact ⟨b,o,us,h1,ihL h2,h3.mono hm,h4⟩
  | agg cs =>
   simp only [zBI,RepA] at h ⊢
   obtain ⟨us,h1,h2,h3⟩:=h
   exact ⟨us,h1,ihL h2,h3⟩
  | tup cs =>
   simp only [zBI,RepA] at h ⊢
   obtain ⟨us,h1,h2⟩:=h
   exact ⟨us,h1,ihL h2⟩
  | fn f a b =>
   simp only [zBI,RepA] at h ⊢
   obtain ⟨us,ws,h1,h2,h3⟩:=h
   exact ⟨us,ws,h1,ihL h2,ihL h3⟩
  | sl t x=>simp only [zBI,RepA] at h ⊢; exact h.mono hm
  | dm tk tv x=>simp only [zBI,RepA] at h ⊢; exact h.mono hm
  | pd t x=>simp only [zBI,RepA] at h ⊢; exact h.mono hm
  | bad=>simp only [RepA] at h
  | any=>simp only [zBI,RepA]
  | _=>simpa only [zBI,RepA] using h

theorem zAA {X:Cx}{k:Nat}(hX:X.ρ.length=k){st st':AS}(σ:List Nat) (d:Nat) (hn:Nat.beq st'.n σ.length=true) (hB:wkB k st.n σ=true) (hs:wkS st.l st.H σ d st'.l) (ho:wkO st.H σ d st'.H 0 σ) : Wk X st st':=by
 intro fr w m ρ φ hc
 have hn:=Nat.eq_of_beq_eq_true hn
 simp only [wkB,Bool.and_eq_true] at hB
 obtain ⟨⟨⟨hB1,hB2⟩,hB3⟩,hB4⟩:=hB
 have hnd:=zCS hB1
 have hlt : ∀ i∈σ,i < st.n:=by
  intro i hi
  rw [List.all_eq_true] at hB2
  simpa using hB2 i hi
 have hk:=Nat.le_of_ble_eq_true hB3
 have hpre : ∀ i,i < k→σ[i]?=some i:=by
  intro i hi
  rw [List.all_eq_true] at hB4
  have:=hB4 i (List.mem_range.2 hi)
  split at this
  ·rename_i j hj; rw [hj,Nat.eq_of_beq_eq_true this]
  ·cases this
 -- what goes
 let G : Frag:=((List.range st.n).filter fun i=>!σ.contains i).flatMap fun i=>φ.getD i []
 let φ' : List Frag:=σ.map fun i=>φ.getD i []
 let ρ' : List Value:=σ.map fun i=>ρ.getD i undef
 have hperm : (φ.flatten++X.F).Perm (G++(φ'.flatten++X.F)):=by
  rw [← List.append_assoc]
  refine List.Perm.append_right _ ?_
  rw [zCT,hc.nφ]
  refine ((range_split hnd hlt).flatMap_right _).trans ?_
  rw [List.flatMap_append]
  refine List.perm_append_comm.trans ?_
  show (G++_).Perm (G++φ'.flatten)
  rw [show φ'.flatten=σ.flatMap fun i=>φ.getD i [] from flatMap_getD φ σ]
 have hsh:=hc.sh.perm hperm
 have hnodG:=hsh.nd
 have hmem : ∀ p∈G,ctl p.2=false→(m.add G) p.1=some p.2:=by
  intro p hp hpc
  rw [List.map_append,List.nodup_append] at hnodG
  exact add_get hnodG.1 hp (hsh.dis p (by simp [hp])) hpc
 have hle:=Mem.le_add m G
 have hgetρ : ∀ i h,ρ[i]?=some h→ρ.getD i undef=h:=fun i h hi=>by rw [List.getD_eq_getElem?_getD,hi]; rfl
 have hgetφ : ∀ i f,φ[i]?=some f→φ.getD i []=f:=fun i f hi=>by rw [List.getD_eq_getElem?_getD,hi]; rfl
 have hσ : ∀ i j h,posN σ i=some j→ρ[i]?=some h→ρ'[j]?=some h:=by
  intro i j h hp hi
  have:=posN_get hp
  simp only [ρ',List.getElem?_map,this,Option.map_some,hgetρ i h hi]
 have hfz : ∀ i h,posN σ i=none→ρ[i]?=some h→∃ f,ORep m ρ (st.H.get i) h f∧∀ p∈f,ctl p.2=false→(m.add G) p.1=some p.2:=by
  intro i h hp hi
  obtain ⟨f,hf,h1,_⟩:=hc.obj hi
  refine ⟨f,h1,fun p hpf hpc=>hmem p ?_ hpc⟩
  simp only [G,List.mem_flatMap,List.mem_filter,List.mem_range,Bool.not_eq_true',List.contains_eq_mem,decide_eq_false_iff_not]
  exact ⟨i,⟨by rw [← hc.nρ]; exact (List.getElem?_eq_some_iff.1 hi).1,posN_none hp⟩,by rw [hgetφ i f hf]; exact hpf⟩
 have hcoe : ∀ {a:AV} {v:Value},RepA m ρ a v→RepA (m.add G) ρ' (zBI st.H σ d a) v:=fun h=>coe_rep (φ:=φ) hle hσ hfz d h
 have hcoeL : ∀ {as':List AV} {vs:List Value},RepL m ρ as' vs→RepL (m.add G) ρ' (as'.map (zBI st.H σ d)) vs:=by
  intro as'
  induction as' with
  | nil=>intro vs h; cases vs with
   | nil=>simp [RepL]
   | cons=>simp [RepL] at h
  | cons a as' ih2=>intro vs h; cases vs with
   | nil=>simp [RepL] at h
   | cons v vs=>simp only [List.map_cons,RepL] at h ⊢; exact ⟨hcoe h.1,ih2 h.2⟩
 refine ⟨m.add G,ρ',φ',hc.mle.trans hle,?_,by simp [ρ',hn],by simp [φ',hn],?_,?_,hsh.frz⟩
 ·intro i h hi
  have h1:=(List.getElem?_eq_some_iff.1 hi).1
  have h2:=hpre i (by omega)
  simp only [ρ',List.getElem?_map,h2,Option.map_some,hgetρ i h (hc.pre i h hi)]
 ·intro t a' ht
  obtain ⟨a,h1,h2⟩:=wkS_get hs t a' ht
  obtain ⟨v,h3,h4⟩:=hc.slots t a h1
  exact ⟨v,h3,cv_rep h2 (hcoe h4)⟩
 ·intro j h f hj hf
  simp only [ρ',List.getElem?_map,Option.map_eq_some_iff] at hj
  simp only [φ',List.getElem?_map,Option.map_eq_some_iff] at hf
  obtain ⟨i,hi,rfl⟩:=hj
  obtain ⟨i',hi',rfl⟩:=hf
  rw [hi] at hi'; cases hi'
  have hin:=hlt i (List.mem_of_getElem? hi)
  obtain ⟨u,hu⟩ : ∃ u,ρ[i]?=some u:=⟨_,List.getElem?_eq_getElem (by rw [hc.nρ]; exact hin)⟩
  obtain ⟨f,hf,h1,_⟩:=hc.obj hu
  rw [hgetρ i u hu,hgetφ i f hf]
  have h2:=wkO_get ho j i hi
  rw [Nat.zero_add] at h2
  have h3 : ORep (m.add G) ρ' (coeO st.H σ d (st.H.get i)) u f:=by
   cases hoi : st.H.get i with
   | var T cs =>
    rw [hoi] at h1
    obtain ⟨b,us,q1,q2,q3,q4⟩:=h1
    exact ⟨b,us,q1,q2,hcoeL q3,q4⟩
   | dead=>rw [hoi] at h1; exact h1
   | sl T t x =>
    rw [hoi] at h1
    obtain ⟨h0,q | ⟨b,c,cs,vs,q1,q2,q3,q4,q5,q6,q7⟩⟩:=h1
    ·exact ⟨h0,.inl q⟩
    ·exact ⟨h0,.inr ⟨b,c,cs,vs,q1,q2,q3,q4,q5,q6.mono hle,q7⟩⟩
   | map tk tv x =>
    rw [hoi] at h1
    have h5 : ORep (m.add G) ρ (.map tk tv x) u f:=ORep.mono hle (fun _ _ h=>h) h1
    exact h5
   | slo T T' t x =>
    rw [hoi] at h1
    have h5 : ORep (m.add G) ρ (.slo T T' t x) u f:=ORep.mono hle (fun _ _ h=>h) h1
    exact h5
   | guest p =>
    rw [hoi] at h1
    have h5 : ORep (m.add G) ρ (.guest p) u f:=ORep.mono hle (fun _ _ h=>h) h1
    exact h5
   | bld T E s=>rw [hoi] at h1; exact h1
   | tr o x =>
    rw [hoi] at h1
    have h5 : ORep (m.add G) ρ (.tr o x) u f:=ORep.mono hle (fun _ _ h=>h) h1
    exact h5
   | sloh=>exact ⟨_,hle,trivial⟩
   | mit tk tv left cur =>
    rw [hoi] at h1
    have h5 : ORep (m.add G) ρ (.mit tk tv left cur) u f:=ORep.mono hle (fun _ _ h=>h) h1
    exact h5
   | mapr tk tv x left cur j =>
    rw [hoi] at h1
    have h5 : ORep (m.add G) ρ (.mapr tk tv x left cur j) u f:=ORep.mono hle (fun _ _ h=>h) h1
    simp only [coeO]
    split
    ·rename_i j' hj'
     obtain ⟨x',hp',b,es,cl,r,since,c0,seen,q1,q2,q3,q4⟩:=h5
     exact ⟨x',hp',b,es,cl,r,since,c0,seen,q1,q2,hσ _ _ _ hj' q3,q4⟩
    ·exact ⟨_,hle,trivial⟩
   | mpt k v x hs =>
    rw [hoi] at h1
    have h5 : ORep (m.add G) ρ (.mpt k v x hs) u f:=ORep.mono hle (fun _ _ h=>h) h1
    simp only [coeO]
    split
    ·rename_i hall
     rw [List.all_eq_true] at hall
     obtain ⟨h0,h00,x',hp',b,es,cl,fs,q1,q2,q3,q4,q5,q6⟩:=h5
     have key : ∀ (z:k.den) (j:Nat),(z,j)∈hs.map (fun q=>(q.1,(posN σ q.2).getD 0))→∃ n,(z,n)∈hs∧∀ u,ρ[n]?=some u→ρ'[j]?=some u:=by
      intro z j hz
      obtain ⟨q,hq,he⟩:=List.mem_map.1 hz
      rw [Prod.mk.injEq] at he
      refine ⟨q.2,by rw [← he.1]; exact hq,fun u hu=>?_⟩
      obtain ⟨j',hj⟩:=Option.isSome_iff_exists.1 (hall _ hq)
      have:=he.2
      rw [hj,Option.getD_some] at this
      rw [← this]; exact hσ _ _ _ hj hu
     refine ⟨h0,fun q hq=>?_,x',hp',b,es,cl,fs,q1,q2,q3,q4,q5,fun i p e g a1 a2 a3=>?_⟩
     ·obtain ⟨n,hn,hr⟩:=key q.1 q.2 hq
      exact (h00 _ hn).tr hr
     ·obtain ⟨b1,b2,b3⟩:=q6 i p e g a1 a2 a3
      refine ⟨b1,fun j hj=>?_,fun hn=>b3 fun n hm=>?_⟩
      ·obtain ⟨n,hn,hr⟩:=key _ _ hj
       exact ⟨(b2 n hn).1,hr _ (b2 n hn).2⟩
      ·exact hn _ (List.mem_map.2 ⟨(p.1,n),hm,rfl⟩)
    ·exact ⟨_,hle,trivial⟩
  rcases h2 with h2 | ⟨T,cs',cs,h4,h5,h6⟩
  ·rw [h2]; exact h3
  ·rw [h4]
   rw [h5] at h3
   obtain ⟨b,us,q1,q2,q3,q4⟩:=h3
   exact ⟨b,us,q1,q2,cvL_rep h6 q3,q4⟩

section
variable {P:Program} {N:Ev} {X:Cx} {Q:zBa} {st:AS}
theorem zAY {c:Code}{st':AS}(h:Wk X st st') (k:AWC P N X c Q st') : AWC P N X c Q st:=fun fr w m ρ φ hc=>let ⟨_,_,_,h1⟩:=h fr w m ρ φ hc; k _ _ _ _ _ h1
theorem zAG {ops:Array Oper}{rest:List Oper}{st':AS}(h:Wk X st st') (k:AWL P N X ops Q rest st') : AWL P N X ops Q rest st:=fun fr w m ρ φ hc=>let ⟨_,_,_,h1⟩:=h fr w m ρ φ hc; k _ _ _ _ _ h1

theorem zAt {t:Nat}(E:TypeId) (ty:Ty) (hx:st.l.look t=some .nils) : Wk X st (st.new t (.osl st.n) (.sl E ty [])):=by
 intro fr w m ρ φ hc
 obtain ⟨v,h1,h2⟩:=hc.slots t _ hx
 simp only [RepA] at h2
 subst h2
 have h3:=hc.newObj (d:=t) (av:=.osl st.n) (v:=.slice none 0 0) (h:=.slice none 0 0) (o:=.sl E ty []) (f:=[]) (Mem.le_refl _) (by simpa using hc.sh) ⟨by simp,.inl ⟨rfl,rfl,rfl⟩⟩ (by simp only [RepA]; exact ⟨by rw [← hc.nρ]; simp,rfl⟩)
 refine ⟨m,_,_,h3.mle,h3.pre,h3.nρ,h3.nφ,?_,h3.objs,h3.sh⟩
 intro q a hq
 obtain ⟨v,h4,h5⟩:=h3.slots q a hq
 rw [Fr.look_cons] at h4
 split at h4
 ·rename_i e; subst e; cases h4; exact ⟨_,h1,h5⟩
 ·exact ⟨v,h4,h5⟩

def lrun {S R:Type}(b:S→Option (S ⊕ R)) : Nat→S→Option R
 | 0,_=>none
 | k+1,s=>(b s).bind fun o=>match o with
  | .inl s'=>lrun b k s'
  | .inr r=>some r
def loopQ {S R:Type}(X:Cx) (Inv:S→AS) (Qx:R→zBa) : S ⊕ R→zBa
 | .inl s',.normal,st=>Wk X st (Inv s')
 | .inl _,_,_=>False
 | .inr _,.normal,_=>False
 | .inr r,e,st=>Qx r e st
theorem awc_loop {S R:Type}{c:Code}(Inv:S→AS) (b:S→Option (S ⊕ R)) (Qx:R→zBa){k:Nat}{s:S}{r:R}(hr:lrun b k s=some r) (hi:Wk X st (Inv s)) (hQ:∀ e st,Qx r e st→Q e st)
  (body:∀ s o,b s=some o→AWC P N X c (loopQ X Inv Qx o) (Inv s)) : AWC P N X (.loop c) Q st:=by
 intro fr w m ρ φ hc
 obtain ⟨m1,ρ1,φ1,h1⟩:=hi fr w m ρ φ hc
 intro a ha hg
 refine wpIn_loopG (fun (x:S×Nat) a w=>∃ fr,lrun b x.2 x.1=some r∧(∃ m ρ φ,Conc X (Inv x.1) fr w m ρ φ)∧Holds N fr a∧Eng.Good N a w) (fun x=>x.2) (s,k) ⟨fr,hr,⟨_,_,_,h1⟩,ha,hg⟩ ?_
 rintro ⟨s,k⟩ a w ⟨fr,hr,⟨m,ρ,φ,hc⟩,ha,hg⟩
 cases k with
 | zero=>simp [lrun] at hr
 | succ k =>
  simp only [lrun] at hr
  obtain ⟨o,ho,hr⟩:=Option.bind_eq_some_iff.1 hr
  refine wpIn_mono (body s o ho fr w m ρ φ hc a ha hg) ?_
  rintro e a' w' ⟨l',hl',g',st',m',ρ',φ',h2,h3⟩
  cases o with
  | inl s' =>
   cases e with
   | normal =>
    obtain ⟨m2,ρ2,φ2,h4⟩:=h3 _ _ _ _ _ h2
    exact ⟨(s',k),⟨l',hr,⟨m2,ρ2,φ2,h4⟩,hl',g'⟩,Nat.lt_succ_self k⟩
   | _=>exact h3.elim
  | inr r' =>
   simp only [Option.some.injEq] at hr
   subst hr
   cases e with
   | normal=>exact h3.elim
   | _=>exact ⟨l',hl',g',st',m',ρ',φ',h2,hQ _ _ h3⟩
end
end Go.Ab
namespace Go.Ab
open Go.RowKit Go.Shelf Go.Proofs Go.Eng

def retW (P:Program) (X:Cx) (rs:List ResultVar) (k:Nat) (R:List AV→List AO→Prop) : zBa
 | .normal,st | .ret,st=>∃ st',Wk X st st'∧aretQ P rs k R .normal st'
 | _,_=>False
theorem zAW {P:Program}{f:FuncId}{fn:Func}{c:Code}{n:Nat}{args:List AV}{H:List AO}{R:List AV→List AO→Prop}{rs:List ResultVar}(hf:P.funcs[f]?=some fn) (hN:fn.ntmps=n) (hb:fn.body=some c) (hr:fn.results=rs.toArray) (hle:Nat.ble args.length n=true)
  (h:∀ (w0:World) (X:Cx),X.ρ.length=H.length→AWC P ⟨n,none,w0,nox,false⟩ X c (retW P X rs H.length R) ⟨argA 0 args,zipH 0 H,H.length⟩) : Runs P f args H R:=by
 refine runs_of hf hN hb hr hle fun w0 X hX fr w m ρ φ hc=>WC.mono ?_ (h w0 X hX fr w m ρ φ hc)
 rintro e l w ⟨st,m,ρ,φ,h1,h2⟩
 cases e with
 | normal=>obtain ⟨st',h3,h4⟩:=h2; obtain ⟨m',ρ',φ',h5⟩:=h3 _ _ _ _ _ h1; exact ⟨st',m',ρ',φ',h5,h4⟩
 | ret=>obtain ⟨st',h3,h4⟩:=h2; obtain ⟨m',ρ',φ',h5⟩:=h3 _ _ _ _ _ h1; exact ⟨st',m',ρ',φ',h5,h4⟩
 | _=>exact h2.elim
theorem zAk {P:Program}{X:Cx}{rs:List ResultVar}{st:AS}{as' r:List AV}{l':AFr}(h:Wk X st ⟨l',[],0⟩) (hr:as'=r) (ho:AOuts P l' rs as') : retW P X rs 0 (fun q H'=>q=r∧H'=[]) .ret st :=
 ⟨⟨l',[],0⟩,h,as',_,ho,rfl,rfl,hr,rfl⟩
theorem zCz {P:Program}{X:Cx}{rs:List ResultVar}{k:Nat}{R:List AV→List AO→Prop}{st:AS}(h:retW P X rs k R .ret st) : retW P X rs k R .normal st:=h

abbrev TT:=Bool×AV
def phi (e:World) (m:Mem) (ρ:List Value) (f:Frag) (T:TT) : VP:=fun v W=>(T.1=true→∃ m',m.le m'∧SH e W m' f∧RepA m' ρ T.2 v)∧(T.1=false→v=undef)
def zBm (ops:List Oper) (j:Nat) : Nat:=match ops[j]? with
 | some o=>o.dst.getD 0
 | none=>0
def zBL (Ts:List TT) (j:Nat) : TT:=match Ts[j]? with
 | some T=>T
 | none=>(false,.bad)
def allT (Ts:List TT) : List Nat→Prop
 | []=>True
 | j::r=>(zBL Ts j).1=true∧allT Ts r
theorem zAD {Ts:List TT} : ∀ {js:List Nat},allT Ts js→∀ j∈js,(zBL Ts j).1=true:=by
 intro js
 induction js with
 | nil=>intro _ j h; simp at h
 | cons a r ih =>
  intro h j hj
  rcases List.mem_cons.1 hj with rfl | hj
  ·exact h.1
  ·exact ih h.2 j hj
def zBR (ops:List Oper) (Ts:List TT) : List Nat→AFr→AFr
 | [],l=>l
 | j::r,l=>zBR ops Ts r ((zBm ops j,(zBL Ts j).2)::l)
def zBJ (l:AFr) : List Nat→AFr
 | []=>[]
 | t::r=>(t,match l.look t with
  | some a=>a
  | none=>.bad)::zBJ l r

inductive DF (ops:List Oper) (Φ:Nat→VP) (W:World) : List Nat→Fr→Fr→Prop
 | nil {l:Fr} : DF ops Φ W [] l l
 | cons {j:Nat} {r:List Nat} {l l':Fr} {v:Value} : Φ j v W→DF ops Φ W r ((zBm ops j,v)::l) l'→DF ops Φ W (j::r) l l'

theorem zC3 {ops:List Oper}{Φs:List VP}{Φ:Nat→VP}{W:World}{K:Fr→Prop}(hΦ:∀ j o,ops[j]?=some o→Φs[j]?=some (Φ j)) : ∀ {js:List Nat}{l:Fr},(js.all fun j=>match ops[j]? with
  | some o=>o.dst.isSome
  | none=>false)=true→(∀ l',DF ops Φ W js l l'→K l')→zBp (depAt ops Φs js) l W K:=by
 intro js
 induction js with
 | nil=>intro l _ h; exact h l .nil
 | cons j r ih =>
  intro l hd h
  simp only [List.all_cons,Bool.and_eq_true] at hd
  obtain ⟨hd1,hd2⟩:=hd
  split at hd1
  ·rename_i o ho
   obtain ⟨d,hd⟩:=Option.isSome_iff_exists.1 hd1
   have e1 : (ops[j]?).bind (·.dst)=some d:=by rw [ho]; exact hd
   have e2 : (Φs[j]?).getD (fun _ _=>True)=Φ j:=by rw [hΦ j o ho]; rfl
   have e3 : zBm ops j=d:=by simp [zBm,ho,hd]
   simp only [depAt,List.map_cons,e1,e2]
   intro v hv
   refine ih hd2 fun l' hl=>h l' (.cons hv ?_)
   rw [e3]; exact hl
  ·cases hd1

theorem DF.keep {ops:List Oper}{Φ:Nat→VP}{W:World}{js:List Nat}{l l':Fr}(h:DF ops Φ W js l l') : ∀ {t:Nat}{v:Value},l.look t=some v→(∀ j∈js,zBm ops j≠t)→l'.look t=some v:=by
 induction h with
 | nil=>intro t v h _; exact h
 | cons hv _ ih =>
  intro t v h hn
  refine ih ?_ (fun j hj=>hn j (by simp [hj]))
  rw [Fr.look_cons,if_neg (hn _ (by simp))]; exact h
theorem DF.look {ops:List Oper}{Φ:Nat→VP}{W:World}{js:List Nat}{l l':Fr}(h:DF ops Φ W js l l') : (js.map (zBm ops)).Nodup→∀ {j:Nat},j∈js→∃ v,l'.look (zBm ops j)=some v∧Φ j v W:=by
 induction h with
 | nil=>intro _ j hj; simp at hj
 | @cons i r l l' v hv hr ih =>
  intro hn j hj
  rw [List.map_cons,List.nodup_cons] at hn
  by_cases e : j∈r
  ·exact ih hn.2 e
  ·have : j=i:=by rcases List.mem_cons.1 hj with h | h; exact h; exact absurd h e
   subst this
   refine ⟨v,hr.keep (by rw [Fr.look_cons,if_pos rfl]) ?_,hv⟩
   intro q hq e'
   exact hn.1 (e' ▸ List.mem_map.2 ⟨q,hq,rfl⟩)

def Mem.sup (a b:Mem) : Mem:=fun k=>match a k with
 | some o=>some o
 | none=>b k
theorem sup_sh {e W:World}{a b:Mem}{f:Frag}(h:SH e W a f) (k:SH e W b f) : SH e W (a.sup b) f∧a.le (a.sup b)∧b.le (a.sup b):=by
 refine ⟨⟨h.os,h.tape,h.output,?_,h.own,h.nd,?_,h.noctl,?_,h.esz⟩,fun x o hx=>by simp [Mem.sup,hx],?_⟩
 ·intro x o hx
  unfold Mem.sup at hx
  split at hx
  ·rename_i o' ho; cases hx; exact h.fz _ _ ho
  ·exact k.fz _ _ hx
 ·intro p hp
  unfold Mem.sup
  rw [h.dis p hp]; exact k.dis p hp
 ·intro x o hx
  unfold Mem.sup at hx
  split at hx
  ·rename_i o' ho; cases hx; exact h.mctl _ _ ho
  ·exact k.mctl _ _ hx
 ·intro x o hx
  unfold Mem.sup
  cases ha : a x with
  | none=>exact hx
  | some o' =>
   have h1:=h.fz _ _ ha
   have h2:=k.fz _ _ hx
   rw [h1] at h2; exact h2

section
variable {P:Program} {N:Ev} {X:Cx} {Q:zBa} {st:AS}

theorem conc_df {ops:List Oper}{Ts:List TT}{W:World}{m:Mem}{ρ:List Value}{φ:List Frag}{H:AH}{n:Nat}{js:List Nat}{l l':Fr}(h:DF ops (fun j=>phi X.e m ρ (φ.flatten++X.F) (zBL Ts j)) W js l l') : ∀ {lA:AFr}{m1:Mem},m.le m1→Conc X ⟨lA,H,n⟩ l W m1 ρ φ→(∀ j∈js,(zBL Ts j).1=true)→∃ m',m.le m'∧Conc X ⟨zBR ops Ts js lA,H,n⟩ l' W m' ρ φ:=by
 induction h with
 | nil=>intro lA m1 hm hc _; exact ⟨m1,hm,hc⟩
 | @cons j r l l' v hv _ ih =>
  intro lA m1 hm hc ht
  obtain ⟨m2,h2,h3,h4⟩:=hv.1 (ht j (by simp))
  obtain ⟨h5,h6,h7⟩:=sup_sh hc.sh h3
  have hc' : Conc X (AS.put ⟨lA,H,n⟩ (zBm ops j) (zBL Ts j).2) ((zBm ops j,v)::l) W (m1.sup m2) ρ φ:=(hc.grow h6 h5).put (RepA.mono h7 (fun _ _ h=>h) _ h4)
  exact ih (hm.trans h6) hc' (fun q hq=>ht q (by simp [hq]))

def AOb (P:Program) (N:Ev) (X:Cx) (ops:List Oper) (Ts:List TT) (lA:AFr) (H:AH) (n:Nat) (o:Oper) (T:TT) (js:List Nat) : Prop :=
 ∀ (Q:Post) lb W m0 m ρ φ,m0.le m→Conc X ⟨lA,H,n⟩ lb W m ρ φ→∀ l',DF ops (fun j=>phi X.e m0 ρ (φ.flatten++X.F) (zBL Ts j)) W js lb l' →
  OpG P N (fun w W=>Below w.heap.size w W) ops o (phi X.e m0 ρ (φ.flatten++X.F) T) Q l' W

def guardOk (ops:List Oper) (Ts:List TT) (o:Oper) (T:TT) (js:List Nat) : Prop:=match o.guard with
 | none=>T.1=true
 | some (j,b)=>memB j js=true∧zCn (js.map (zBm ops))=true∧(match ops[j]? with
  | some o=>o.dst.isSome
  | none=>false)=true∧∃ c,(zBL Ts j).2=.bool c∧T.1=((zBL Ts j).1&&(bif b then c else !c))

theorem opg_of {ops:List Oper}{Ts:List TT}{lA:AFr}{H:AH}{n:Nat}{o:Oper}{T:TT}{js:List Nat}(hg:guardOk ops Ts o T js)
  (h:T.1=true→∀ (Q:Post) lb W m0 m ρ φ,m0.le m→Conc X ⟨lA,H,n⟩ lb W m ρ φ→∀ l',DF ops (fun j=>phi X.e m0 ρ (φ.flatten++X.F) (zBL Ts j)) W js lb l' →
   OpW P N o (fun l'' W'=>toldL o (phi X.e m0 ρ (φ.flatten++X.F) T) l'' W'∧Below W.heap.size W W') Q l' W) : AOb P N X ops Ts lA H n o T js:=by
 intro Q lb W m0 m ρ φ hm hc l' hd
 unfold OpG
 unfold guardOk at hg
 cases ho : o.guard with
 | none=>rw [ho] at hg; exact h hg Q lb W m0 m ρ φ hm hc l' hd
 | some p =>
  obtain ⟨j,b⟩:=p
  rw [ho] at hg
  simp only at hg
  obtain ⟨h1,h2,h3,c,h4,h5⟩:=hg
  obtain ⟨v,hv,hφ⟩:=hd.look (zCS h2) (memB_iff.1 h1)
  split at h3
  ·rename_i o' ho'
   obtain ⟨d,hdd⟩:=Option.isSome_iff_exists.1 h3
   have e3 : zBm ops j=d:=by simp [zBm,ho',hdd]
   rw [e3] at hv
   refine ⟨v,by rw [ho']; simp [hdd,hv],fun hvb=>h ?_ Q lb W m0 m ρ φ hm hc l' hd,fun hvb=>⟨fun hT=>absurd ?_ hvb,fun _=>rfl⟩⟩
   ·rw [h5]
    cases hg : (zBL Ts j).1 with
    | false=>have:=hφ.2 hg; rw [hvb] at this; exact absurd this.symm undef_ne
    | true =>
     obtain ⟨m',_,_,hr⟩:=hφ.1 hg
     rw [h4] at hr
     simp only [RepA] at hr
     rw [hvb] at hr
     cases hr
     cases b <;> rfl
   ·rw [h5,Bool.and_eq_true] at hT
    obtain ⟨m',_,_,hr⟩:=hφ.1 hT.1
    rw [h4] at hr
    simp only [RepA] at hr
    have:=hT.2
    cases b <;> simp at this <;> subst this <;> exact hr
  ·cases h3

theorem zAr {ops:List Oper}{Ts:List TT}{lA:AFr}{H:AH}{n:Nat}{o:Oper}{T:TT}{js:List Nat}(hg:guardOk ops Ts o T js) (hall:T.1=true→∀ j∈js,(zBL Ts j).1=true)
  (h:T.1=true→AOpV P N X o T.2 ⟨zBR ops Ts js lA,H,n⟩) : AOb P N X ops Ts lA H n o T js:=by
 refine opg_of hg fun hT Q lb W m0 m ρ φ hm hc l' hd=>?_
 obtain ⟨m',h1,h2⟩:=conc_df hd hm hc (hall hT)
 intro a ha hgd
 refine Oper.wpIn_mono ?_ (h hT Q l' W m' ρ φ h2 a ha hgd)
 rintro a w' ⟨l'',hl'',g'',⟨d,v,hdd,rfl,hb,m'',hm'',hs,hr⟩⟩
 refine ⟨_,hl'',g'',told hdd (by rw [Fr.look_cons,if_pos rfl]) ⟨fun _=>⟨m'',h1.trans hm'',hs,hr⟩,fun hf=>?_⟩,hb⟩
 rw [hT] at hf; cases hf

theorem zBC {ops:List Oper}{Ts:List TT}{lA:AFr}{H:AH}{n:Nat}{d U:Nat}{pos:String}{aft:Array Edge}{g:Option (Nat×Bool)}{c x y:Operand}{T:TT}{js js':List Nat}{jq:Nat}{p q b:Bool}
  (hg:guardOk ops Ts ⟨some d,.pick c x y,U,pos,aft,g⟩ T js) (hjs:js=jq::js') (hnd:zCn (js.map (zBm ops))=true) (hall:T.1=true→∀ j∈js',(zBL Ts j).1=true)
  (hT2:T.2=.bool (bif b then p&&q else p||q)) (hc:aev (zBR ops Ts js' ((zBm ops jq,.any)::lA)) c=some (.bool p)) (hq:zBL Ts jq=(T.1&&(bif b then p else !p),.bool q)) (hx:(bif b then x else y)=.tmp (zBm ops jq)) (hy:(bif b then y else x)=.const (.bool (!b))) (hN:Nat.blt d N.n=true:=by rfl) :
  AOb P N X ops Ts lA H n ⟨some d,.pick c x y,U,pos,aft,g⟩ T js:=by
 refine opg_of hg fun hT Q lb W m0 m ρ φ hm hcc l' hd=>?_
 subst hjs
 obtain ⟨v,hv,hφ⟩:=hd.look (zCS hnd) (j:=jq) (by simp)
 cases hd with
 | @cons _ _ _ _ v' hv' hr' =>
 have h1 : Conc X (AS.put ⟨lA,H,n⟩ (zBm ops jq) .any) ((zBm ops jq,v')::lb) W m ρ φ:=hcc.put (by simp only [RepA])
 obtain ⟨m',h2,h3⟩:=conc_df hr' hm h1 (hall hT)
 have h4:=h3.bool hc
 have hvq : (bif b then p else !p)=true→v=.bool q:=by
  intro hb
  have e1 : (zBL Ts jq).1=true:=by rw [hq]; simp only; rw [hT,hb]; rfl
  obtain ⟨_,_,_,hr⟩:=hφ.1 e1
  rw [hq] at hr
  simpa only [RepA] using hr
 have hres : toldL (⟨some d,.pick c x y,U,pos,aft,g⟩ : Oper) (phi X.e m0 ρ (φ.flatten++X.F) T) ((d,.bool (bif b then p&&q else p||q))::l') W∧Below W.heap.size W W:=by
  refine ⟨told rfl (by rw [Fr.look_cons,if_pos rfl]) ⟨fun _=>⟨m',h2,h3.sh,by rw [hT2]; simp only [RepA]⟩,fun hf=>?_⟩,Below.refl _ _⟩
  rw [hT] at hf; cases hf
 refine op_pick (v:=.bool (bif b then p&&q else p||q)) h4 (fun hp=>?_) (fun hp=>?_) hN hres
 ·subst hp
  cases b with
  | true =>
   simp only [cond_true] at hx ⊢
   rw [hx]
   show l'.look _=_
   rw [hv,hvq rfl]; simp
  | false =>
   simp only [cond_false] at hy ⊢
   rw [hy]; simp [evo]
 ·subst hp
  cases b with
  | true =>
   simp only [cond_true] at hy ⊢
   rw [hy]; simp [evo]
  | false =>
   simp only [cond_false] at hx ⊢
   rw [hx]
   show l'.look _=_
   rw [hv,hvq rfl]; simp

def AObs (P:Program) (N:Ev) (X:Cx) (ops:List Oper) (Ts:List TT) (lA:AFr) (H:AH) (n:Nat) : List Oper→List TT→List (List Nat)→Prop
 | o::os,T::r,js::jss=>AOb P N X ops Ts lA H n o T js∧AObs P N X ops Ts lA H n os r jss
 | [],[],[]=>True
 | _,_,_=>False

def drawOkK (N:Nat) (ops:List Oper) (dep:List (List Nat)) (ks:List Nat) : Bool :=
 (ops.all fun o=>o.dst.isNone||(Nat.blt (dstOf o) N&&!memB (dstOf o) ks)) &&
 ((ops.zipIdx).all fun (o,i)=>(ops.zipIdx).all fun (o',i')=>Nat.beq i i'||(o.dst.isNone||(o'.dst.isNone||!Nat.beq (dstOf o) (dstOf o'))))&&Nat.beq dep.length ops.length &&
 ((ops.zip dep).all fun (o,js)=>js.all fun j=>o.after.toList.any fun e=>Region.binds .any e&&Nat.beq e.on j) &&
 ((ops.zipIdx).all fun (o,i)=>o.after.toList.all fun e=>!Region.binds .any e||Nat.blt e.on i)
theorem look_keys : ∀ {l:Fr}{d:Nat},(l.look d).isNone=!memB d (l.map (·.1)):=by
 intro l
 induction l with
 | nil=>intro d; rfl
 | cons p l ih =>
  intro d
  obtain ⟨t,v⟩:=p
  rw [Fr.look_cons]
  simp only [List.map_cons,memB]
  by_cases h : t=d
  ·subst h; simp
  ·rw [if_neg h]
   have : Nat.beq d t=false:=by rw [Bool.eq_false_iff]; intro hc; exact h (Nat.eq_of_beq_eq_true hc).symm
   rw [this,Bool.false_or]; exact ih
theorem draw_keys {N:Nat}{ops:List Oper}{dep:List (List Nat)}{l:Fr}(h:drawOkK N ops dep (l.map (·.1))=true) : zCO N ops dep l=true:=by
 unfold drawOkK at h
 unfold zCO
 simp only [look_keys]
 exact h

theorem zC2 {fr:Fr}{w:World}{m:Mem}{ρ:List Value}{φ:List Frag}(hc:Conc X st fr w m ρ φ) : ∀ {ks:List Nat},(ks.all fun t=>(st.l.look t).isSome)=true→∃ lb : Fr,lb.map (·.1)=ks∧Sub lb fr∧Conc X ⟨zBJ st.l ks,st.H,st.n⟩ lb w m ρ φ:=by
 intro ks
 induction ks with
 | nil=>intro _; exact ⟨[],rfl,trivial,hc.mle,hc.pre,hc.nρ,hc.nφ,fun t a h=>by simp [zBJ,AFr.look] at h,hc.objs,hc.sh⟩
 | cons t r ih =>
  intro h
  simp only [List.all_cons,Bool.and_eq_true] at h
  obtain ⟨lb,h1,h2,h3⟩:=ih h.2
  obtain ⟨a,ha⟩:=Option.isSome_iff_exists.1 h.1
  obtain ⟨v,h4,h5⟩:=hc.slots t a ha
  refine ⟨(t,v)::lb,by simp [h1],⟨h4,h2⟩,?_⟩
  have : zBJ st.l (t::r)=(t,a)::zBJ st.l r:=by simp only [zBJ,ha]
  rw [this]
  exact h3.put (st:=⟨zBJ st.l r,st.H,st.n⟩) h5

theorem phi_mono {e:World}{m:Mem}{ρ:List Value}{f:Frag}{T:TT} : Mono (fun w W=>Below w.heap.size w W) (phi e m ρ f T):=by
 intro v W W' hb h
 exact ⟨fun hT=>let ⟨m',h1,h2,h3⟩:=h.1 hT; ⟨m',h1,h2.ext hb,h3⟩,h.2⟩
theorem monos_phi {e:World}{m:Mem}{ρ:List Value}{f:Frag} : ∀ (Ts:List TT),Monos (fun w W=>Below w.heap.size w W) (Ts.map (phi e m ρ f)):=by
 intro Ts
 induction Ts with
 | nil=>trivial
 | cons T r ih=>exact ⟨phi_mono,ih⟩
theorem phi_at {e:World}{m:Mem}{ρ:List Value}{f:Frag}{Ts:List TT}{ops:List Oper}(hl:Ts.length=ops.length) : ∀ (j:Nat) (o:Oper),ops[j]?=some o→(Ts.map (phi e m ρ f))[j]?=some (phi e m ρ f (zBL Ts j)):=by
 intro j o hj
 have hlt:=(List.getElem?_eq_some_iff.1 hj).1
 have h1 : Ts[j]?=some (Ts[j]'(by omega)):=List.getElem?_eq_getElem (by omega)
 rw [List.getElem?_map,h1]
 simp [zBL,h1]

def depsOk (ops:List Oper) (dep:List (List Nat)) : Bool:=dep.all fun js=>js.all fun j=>match ops[j]? with
 | some o=>o.dst.isSome
 | none=>false
theorem obs_of {ops:List Oper}{Ts:List TT}{lA:AFr}{H:AH}{n:Nat}{lb:Fr}{w:World}{m:Mem}{ρ:List Value}{φ:List Frag}{Q':Post}(hl:Ts.length=ops.length) (hc:Conc X ⟨lA,H,n⟩ lb w m ρ φ) : ∀ {os:List Oper}{r:List TT}{jss:List (List Nat)},depsOk ops jss=true→AObs P N X ops Ts lA H n os r jss →
  Obs P N (fun w W=>Below w.heap.size w W) ops (Ts.map (phi X.e m ρ (φ.flatten++X.F))) Q' lb w os (r.map (phi X.e m ρ (φ.flatten++X.F))) jss:=by
 intro os
 induction os with
 | nil=>intro r jss _ h; unfold Obs; trivial
 | cons o os ih =>
  intro r jss hd h
  cases r with
  | nil=>cases jss <;> trivial
  | cons T r=>cases jss with
   | nil=>trivial
   | cons js jss =>
    simp only [depsOk,List.all_cons,Bool.and_eq_true] at hd
    refine ⟨fun W hW=>?_,ih hd.2 h.2⟩
    exact zC3 (phi_at hl) hd.1 fun l' hl'=>h.1 Q' lb W m m ρ φ (Mem.le_refl _) (hc.grow (Mem.le_refl _) (hc.sh.ext hW)) l' hl'

theorem zBE {id:Nat}{ops:List Oper}(hm:P.follows .mixedOrders=true) (ks:List Nat) (Ts:List TT) (dep:List (List Nat)) (live:List Nat) (hks:(ks.all fun t=>(st.l.look t).isSome)=true) (hok:drawOkK N.n ops dep ks=true) (hTs:Nat.beq Ts.length ops.length=true) (hlv:(live.all fun i=>Nat.blt i ops.length)=true) (hdp:depsOk ops (live::dep)=true)
  (hob:AObs P N X ops Ts (zBJ st.l ks) st.H st.n ops Ts dep) (hall:∀ j∈live,(zBL Ts j).1=true) (k:Q .normal ⟨zBR ops Ts live (zBJ st.l ks),st.H,st.n⟩) : AWC P N X (.region id ops.toArray true) Q st:=by
 intro fr w m ρ φ hc
 obtain ⟨lb,h1,h2,h3⟩:=zC2 hc hks
 have hl:=Nat.eq_of_beq_eq_true hTs
 simp only [depsOk,List.all_cons,Bool.and_eq_true] at hdp
 refine wc_draw hm lb h2 (Ts.map (phi X.e m ρ (φ.flatten++X.F))) dep live (draw_keys (by rw [h1]; exact hok)) (by rw [List.length_map]; exact hTs) hlv (monos_phi Ts) (obs_of hl h3 hdp.2 hob) ?_
 intro W hW
 refine zC3 (phi_at hl) hdp.1 fun l' hl'=>?_
 obtain ⟨m',h4,h5⟩:=conc_df hl' (Mem.le_refl _) (h3.grow (Mem.le_refl _) (h3.sh.ext hW)) hall
 exact ⟨_,m',ρ,φ,h5,k⟩
theorem zAa {id:Nat}{ops:List Oper}(ks:List Nat) (Ts:List TT) (dep:List (List Nat)) (live:List Nat) (hks:(ks.all fun t=>(st.l.look t).isSome)=true) (hok:drawOkK N.n ops dep ks=true) (hTs:Nat.beq Ts.length ops.length=true) (hlv:(live.all fun i=>Nat.blt i ops.length)=true) (hdp:depsOk ops (live::dep)=true)
  (hob:AObs P N X ops Ts (zBJ st.l ks) st.H st.n ops Ts dep) (hall:∀ j∈live,(zBL Ts j).1=true) (k:Q .normal ⟨zBR ops Ts live (zBJ st.l ks),st.H,st.n⟩) : AWC P N X (.region id ops.toArray false) Q st:=by
 intro fr w m ρ φ hc
 obtain ⟨lb,h1,h2,h3⟩:=zC2 hc hks
 have hl:=Nat.eq_of_beq_eq_true hTs
 simp only [depsOk,List.all_cons,Bool.and_eq_true] at hdp
 refine wc_text lb h2 (Ts.map (phi X.e m ρ (φ.flatten++X.F))) dep live (draw_keys (by rw [h1]; exact hok)) (by rw [List.length_map]; exact hTs) hlv (monos_phi Ts) (obs_of hl h3 hdp.2 hob) ?_
 intro W hW
 refine zC3 (phi_at hl) hdp.1 fun l' hl'=>?_
 obtain ⟨m',h4,h5⟩:=conc_df hl' (Mem.le_refl _) (h3.grow (Mem.le_refl _) (h3.sh.ext hW)) hall
 exact ⟨_,m',ρ,φ,h5,k⟩
end
end Go.Ab
