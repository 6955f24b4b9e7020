/- Towards the laws of this seat. Gathered by a program (pack.py) out of smaller texts. -/
import Derived.Deep.Quiet
import Derived.Laws.AppendOwn
import Derived.Laws.Slices
import Derived.Laws.Strings
import Derived.Laws.IdiomCopy
import Derived.Tactics
import Derived.KernelRfl
import Derived.Orders
import Derived.Maps.Own
import Derived.Test.YtnbakpoahcndpaaGreatDoorProg
set_option linter.unusedSectionVars false
set_option linter.unusedVariables false
set_option linter.unusedSimpArgs false
set_option maxHeartbeats 2000000
set_option maxRecDepth 20000
namespace Go.Proofs.YtnbakpoahcndpaaGreatDoor
namespace Wk
abbrev iv:Int->Value:=Value.int .i64
abbrev Env:=List (Nat×Value)
def look:Env->Nat->Option Value
 |[],_=>none
 |(t,v)::e,s=>cond (Nat.beq t s) (some v) (look e s)
def ev (e:Env):Operand->Option Value
 | .tmp t=>look e t
 | .const v=>some v
 | .global g=>some (.pointer (some ⟨g,0,none⟩))
 | .func f=>some (.func (.func f) #[] #[])
structure Ok (n:Nat) (e:Env) (a:Act):Prop where
 size:a.tmps.size=n
 defers:a.defers=[]
 look:∀t v,look e t=some v->a.tmps[t]? =some v
theorem Ok.ev {n:Nat} {e:Env} {a:Act} (h:Ok n e a) {x:Operand} {v:Value} (hx:ev e x=some v):a.eval x=v:=by
 cases x with
 |tmp t=>
  have:=h.look t v hx
  simp[Act.eval,this]
 |const c=>simpa [Wk.ev,Act.eval] using hx
 |global g=>simpa [Wk.ev,Act.eval] using hx
 |func f=>simpa [Wk.ev,Act.eval] using hx
theorem Ok.put {n:Nat} {e:Env} {a:Act} (h:Ok n e a) {d:Nat} (hd:Nat.blt d n=true) (v:Value):Ok n ((d,v)::e) (a.put (some d) v):=by
 have hd':d<a.tmps.size:=by rw[h.size];exact Nat.blt_eq.mp hd
 refine⟨by simp[Act.put,h.size],by simp[Act.put,h.defers],fun t u ht=> ?_⟩
 simp only[Wk.look] at ht
 by_cases hdt:d=t
 ·subst hdt
  have hb:Nat.beq d d=true:=Nat.beq_refl d
  rw[hb] at ht
  simp only[cond_true,Option.some.injEq] at ht
  subst ht
  simp[Act.put,hd']
 ·have hb:Nat.beq d t=false:=by
   cases hq:Nat.beq d t with
   |false=>rfl
   |true=>exact absurd (Nat.eq_of_beq_eq_true hq) hdt
  rw[hb] at ht
  simp only[cond_false] at ht
  simp only[Act.put]
  rw[Array.getElem?_setIfInBounds_ne hdt]
  exact h.look t u ht
theorem Ok.aFl {n:Nat} {e:Env} {a:Act} (h:Ok n e a) (v:Value):Ok n e (a.put none v):=h
def sub (e' e:Env):Prop:=∀p∈e',look e p.1=some p.2
theorem sub.nil {e:Env}:sub [] e:=fun _ h=>by cases h
theorem sub.cons {e' e:Env} {t:Nat} {v:Value} (h:look e t=some v) (k:sub e' e):sub ((t,v)::e') e:=fun p hp=>by
 rcases List.mem_cons.1 hp with rfl|hp
 ·exact h
 ·exact k p hp
theorem aJs {e:Env} {t:Nat} {v:Value} (h:look e t=some v):(t,v)∈e:=by
 induction e with
 |nil=>cases h
 |cons p e ih=>
  obtain⟨s,u⟩:=p
  simp only[look] at h
  cases hb:Nat.beq s t with
  |true=>
   rw[hb] at h
   simp only[cond_true,Option.some.injEq] at h
   have:=Nat.eq_of_beq_eq_true hb
   subst this;subst h
   exact List.mem_cons_self ..
  |false=>
   rw[hb] at h
   exact List.mem_cons_of_mem _ (ih h)
theorem Ok.weaken {n:Nat} {e e':Env} {a:Act} (h:Ok n e a) (k:sub e' e):Ok n e' a:=
 ⟨h.size,h.defers,fun t v ht=>h.look t v (k (t,v) (aJs ht))⟩
def SL (P:Program) (ops:Array Oper) (Q:Exit->Act->World->Prop) (l:List Oper) (n:Nat) (e:Env) (w:World):Prop:=∀a,Ok n e a->wpList P ops Q l a w
def CW (P:Program) (c:Code) (Q:Exit->Act->World->Prop) (n:Nat) (e:Env) (w:World):Prop:=∀a,Ok n e a->c.wp P Q a w
def NX (Q:Exit->Act->World->Prop) (x:Exit) (n:Nat) (e:Env) (w:World):Prop:=∀a,Ok n e a->Q x a w
section
variable {P:Program} {ops:Array Oper} {Q:Exit->Act->World->Prop} {n:Nat} {e:Env} {w:World} {rest:List Oper}
theorem aH (h:NX Q .normal n e w):SL P ops Q [] n e w:=fun a ha=>wpList_nil (h a ha)
theorem aQv {c:Code} {e':Env} (k:sub e' e) (h:CW P c Q n e' w):CW P c Q n e w:=fun a ha=>h a (ha.weaken k)
theorem bT {f:FuncId} {fn:Func} {c:Code} {args:Array Value} {R:Ending->World->Prop} (hf:P.funcs[f]? =some fn) (hb:fn.body=some c)
  (e:Env) (N:Nat) (hN:fn.ntmps=N) (hs:(Nat.ble args.size N)=true) (he:∀p∈e,args[p.1]? =some p.2)
  (h:CW P c (bodyPost P fn R) N e w):Calls P f args w R:=by
 have hs':args.size<=N:=Nat.ble_eq.mp hs
 refine calls_of_wp hf hb (h _ ⟨by simp[hN];omega,rfl,fun t v ht=> ?_⟩)
 have h1:=he (t,v) (aJs ht)
 have h2:t<args.size:=(Array.getElem?_eq_some_iff.1 h1).1
 simp only[Array.getElem?_append,h2,if_true]
 exact h1
theorem aG {x y:Code} (h:CW P x (Exit.then (y.wp P Q) Q) n e w):CW P (Code.seq x y) Q n e w:=fun a ha=>wp_seq (h a ha)
theorem fA {x y:Code} (R:Act->World->Prop) (hy:∀a w,R a w->y.wp P Q a w) (h:CW P x (Exit.then R Q) n e w):CW P (Code.seq x y) Q n e w:=fun a ha=>
 wp_seq (wp_mono (h a ha) fun x a w hx=>by cases x<;>first|exact hx|exact hy a w hx)
theorem aP7 {y:Code} {Q':Exit->Act->World->Prop} (h:CW P y Q n e w):NX (Exit.then (y.wp P Q) Q') .normal n e w:=h
theorem bD {R:Act->World->Prop} (h:∀a,Ok n e a->R a w):NX (Exit.then R Q) .normal n e w:=h
theorem bZ {id:Nat} (h:NX Q .normal n e w):NX (Exit.inBlock id Q) .normal n e w:=h
theorem aT {id:Nat} {R:Act->World->Prop} (h:NX Q (.exit id) n e w):NX (Exit.then R Q) (.exit id) n e w:=h
theorem bQ {id:Nat} (h:NX Q .normal n e w):NX (Exit.inBlock id Q) (.exit id) n e w:=fun a ha=>by
 have:=h a ha
 simpa [Exit.inBlock] using this
theorem aHq {id id':Nat} (hne:Nat.beq id' id=false) (h:NX Q (.exit id') n e w):NX (Exit.inBlock id Q) (.exit id') n e w:=fun a ha=>by
 have h1:=h a ha
 have hne':id'≠id:=fun h=>by subst h;simp at hne
 simpa [Exit.inBlock,hne'] using h1
theorem aQ {R:Act->World->Prop} (h:NX Q .ret n e w):NX (Exit.then R Q) .ret n e w:=h
theorem bF {id:Nat} (h:NX Q .ret n e w):NX (Exit.inBlock id Q) .ret n e w:=h
theorem aY {id:Nat} {c:Code} (h:CW P c (Exit.inBlock id Q) n e w):CW P (Code.block id c) Q n e w:=fun a ha=>wp_block (h a ha)
theorem aX (h:NX Q .normal n e w):CW P Code.skip Q n e w:=fun a ha=>wp_skip (h a ha)
theorem eU {id:Nat} (h:NX Q (.exit id) n e w):CW P (Code.exit id) Q n e w:=fun a ha=>wp_exit (h a ha)
theorem bK (h:NX Q .ret n e w):CW P Code.ret Q n e w:=fun a ha=>wp_ret (h a ha)
theorem eG {c:Operand} {x y:Code} {b:Bool} (hc:ev e c=some (.bool b)) (ht:b=true->CW P x Q n e w) (hf:b=false->CW P y Q n e w):CW P (Code.cond c x y) Q n e w:=fun a ha=>
 wp_cond_split (ha.ev hc) (fun h=>ht h a ha) (fun h=>hf h a ha)
theorem bC {c:Operand} {x y:Code} {p:Prop} [Decidable p] (hc:ev e c=some (.bool (decide p))) (ht:p->CW P x Q n e w) (hf:¬p->CW P y Q n e w):CW P (Code.cond c x y) Q n e w:=
 eG hc (fun h=>ht (of_decide_eq_true h)) (fun h=>hf (of_decide_eq_false h))
theorem aF {id:Nat} {l:List Oper} (h:SL P l.toArray Q l n e w):CW P (Code.region id l.toArray false) Q n e w:=fun a ha=>wp_region_lit (h a ha)
theorem fK {c:Code} (I:Nat->Act->World->Prop) (h0:∀a,Ok n e a->∃m,I m a w)
  (round:∀m a w,I m a w->c.wp P (Exit.then (fun a' w'=>∃m',m'<m/\I m' a' w') Q) a w):CW P (Code.loop c) Q n e w:=by
 intro a ha
 obtain⟨m,hm⟩:=h0 a ha
 clear h0 ha
 intro b k cs
 have key:∀m a w,I m a w->∃x a' w',Q x a' w'/\Arrives P (lone (b.at a (.code c:: .inLoop c::k)) cs w) b k cs x a' w':=by
  intro m
  induction m using Nat.strongRecOn with
  |_ m ih=>
   intro a w hI
   obtain⟨x,a1,w1,hq,harr⟩:=round m a w hI b (.inLoop c::k) cs
   cases x with
   |normal=>
    obtain⟨m',hlt,hI1⟩:=hq
    obtain⟨x2,a2,w2,hq2,harr2⟩:=ih m' hlt a1 w1 hI1
    exact⟨x2,a2,w2,hq2,.of_steps (Steps.trans harr (.one step_inLoop)) harr2⟩
   |exit id=>exact⟨_,a1,w1,hq,.pass (x:= .inLoop c) rfl (fun _ _=> .inl (by simp)) harr⟩
   |goto l=>exact⟨_,a1,w1,hq,.pass (x:= .inLoop c) rfl (fun _ _=> .inl (by simp)) harr⟩
   |ret=>exact⟨_,a1,w1,hq,.pass (x:= .inLoop c) rfl (fun _ _=> .inl (by simp)) harr⟩
   |panic ch=>exact⟨_,a1,w1,hq,.pass (x:= .inLoop c) rfl (fun _ _=> .inl (by simp)) harr⟩
   |outgrown=>exact⟨_,a1,w1,hq,.pass (x:= .inLoop c) rfl (fun _ _=> .inl (by simp)) harr⟩
 obtain⟨x,a',w',hq,harr⟩:=key m a w hm
 exact⟨x,a',w',hq,.of_steps (.one step_loop) harr⟩
def cO (K:Value->World->Prop):Ending->World->Prop:=fun x w=>∃v,x= .returned v/\K v w
theorem cO.mono {f:FuncId} {args:Array Value} {K K':Value->World->Prop} (h:Calls P f args w (cO K)) (k:∀v w',K v w'->K' v w'):Calls P f args w (cO K'):=
 h.mono fun _ _ ⟨v,hv,hk⟩=>⟨v,hv,k v _ hk⟩
theorem aN {fn:Func} {R:Ending->World->Prop} {v:Value} (hr:∀a,Ok n e a->(results fn a.tmps).run P w= .ok v w) (hR:R (.returned v) w):NX (bodyPost P fn R) .ret n e w:=
 fun a ha=>⟨ha.defers,v,hr a ha,hR⟩
theorem pR {fn:Func} {R:Ending->World->Prop} {v:Value} (hr:∀a,Ok n e a->(results fn a.tmps).run P w= .ok v w) (hR:R (.returned v) w):NX (bodyPost P fn R) .normal n e w:=
 fun a ha=>⟨ha.defers,v,hr a ha,hR⟩
theorem Ok.getD {a:Act} (h:Ok n e a) {t:Nat} {v:Value} (ht:Wk.look e t=some v):a.tmps.getD t undef=v:=by
 have:=h.look t v ht
 simp[this]
theorem res0 {fn:Func} (hf:fn.results= #[]):∀a:Act,Ok n e a->(results fn a.tmps).run P w= .ok (.tuple #[]) w:=fun a _=>by simp[results,hf]
theorem res1 {fn:Func} {t:Nat} (hf:fn.results= #[.tmp t]) {v:Value} (ht:look e t=some v):∀a,Ok n e a->(results fn a.tmps).run P w= .ok v w:=fun a ha=>by
 have h:=ha.getD ht
 simp only[results,hf]
 simpa using h
theorem Jk {fn:Func} {t u:Nat} (hf:fn.results= #[.tmp t,.tmp u]) {v x:Value} (ht:look e t=some v) (hu:look e u=some x):∀a,Ok n e a->(results fn a.tmps).run P w= .ok (.tuple #[v,x]) w:=fun a ha=>by
 have h:=ha.getD ht
 have k:=ha.getD hu
 simp only[results,hf]
 simp at h k
 simp[h,k]
theorem aH3 {o:Oper} (hw:∀a,Ok n e a->Region.wanted o (yielded ops a.tmps)=true) (h:∀a,Ok n e a->o.wp P a w (wpList P ops Q rest) Q):SL P ops Q (o::rest) n e w:=fun a ha=>by
 unfold wpList
 rw[if_pos (hw a ha)]
 exact .inl (h a ha)
theorem aI {o:Oper} (hg:o.guard=none):∀a,Ok n e a->Region.wanted o (yielded ops a.tmps)=true:=fun a _=>by simp[Region.wanted,hg]
theorem aF0 {j s:Nat} {b:Bool} (hs:(ops[j]?).bind (·.dst)=some s) (hb:look e s=some (.bool b)):∀a,Ok n e a->yielded ops a.tmps j=some b:=fun a ha=>by
 have:=ha.look s _ hb
 simp[yielded,hs,this]
theorem dW {o:Oper} {j s:Nat} {b:Bool} (hg:o.guard=some (j,b)) (hs:(ops[j]?).bind (·.dst)=some s) (hb:look e s=some (.bool b)):∀a,Ok n e a->Region.wanted o (yielded ops a.tmps)=true:=fun a ha=>by
 simp[Region.wanted,hg,aF0 hs hb a ha]
theorem En {o:Oper} {j s:Nat} {b b':Bool} (hg:o.guard=some (j,b)) (hs:(ops[j]?).bind (·.dst)=some s) (hb:look e s=some (.bool b')) (hne:b'= !b):∀a,Ok n e a->Region.wanted o (yielded ops a.tmps)=false:=fun a ha=>by
 subst hne
 cases b<;>simp[Region.wanted,hg,aF0 hs hb a ha]
theorem iE {o:Oper} {d:Nat} (hd:o.dst=some d) (hlt:Nat.blt d n=true) (hw:∀a,Ok n e a->Region.wanted o (yielded ops a.tmps)=false) (h:SL P ops Q rest n ((d,undef)::e) w):SL P ops Q (o::rest) n e w:=fun a ha=>by
 unfold wpList
 rw[if_neg (by rw[hw a ha];simp),hd]
 exact h _ (ha.put hlt _)
theorem Uz {o:Oper} {d:Nat} {v:Value} {w':World} (hd:o.dst=some d) (hlt:Nat.blt d n=true) (hw:∀a,Ok n e a->Region.wanted o (yielded ops a.tmps)=true)
  (hr:∀a,Ok n e a->(execOp a.eval o).run P w= .ok (.value v) w') (h:SL P ops Q rest n ((d,v)::e) w'):SL P ops Q (o::rest) n e w:=
 aH3 hw fun a ha=>by
  unfold Oper.wp
  rw[hr a ha,Oper.upon_value,hd]
  exact h _ (ha.put hlt v)
theorem aL7 {o:Oper} {w':World} (hd:o.dst=none) (hw:∀a,Ok n e a->Region.wanted o (yielded ops a.tmps)=true)
  (hr:∀a,Ok n e a->(execOp a.eval o).run P w= .ok .skip w') (h:SL P ops Q rest n e w'):SL P ops Q (o::rest) n e w:=
 aH3 hw fun a ha=>by
  unfold Oper.wp
  rw[hr a ha,Oper.upon_skip,hd]
  exact h _ (ha.aFl _)
theorem Eu {o:Oper} {d:Nat} {f:FuncId} {args:Array Value} {K:Value->World->Prop} (hd:o.dst=some d) (hlt:Nat.blt d n=true) (hw:∀a,Ok n e a->Region.wanted o (yielded ops a.tmps)=true)
  (hr:∀a,Ok n e a->(execOp a.eval o).run P w= .ok (.enter f args) w) (hc:Calls P f args w (cO K)) (h:∀v w',K v w'->SL P ops Q rest n ((d,v)::e) w'):SL P ops Q (o::rest) n e w:=
 aH3 hw fun a ha=>by
  unfold Oper.wp
  rw[hr a ha,Oper.upon_enter,hd]
  refine hc.mono fun x w' hx=> ?_
  obtain⟨v,rfl,hk⟩:=hx
  exact h v w' hk _ (ha.put hlt v)
end
def bG (w:World) (p:Addr) (vs:List Value):Prop:=∀j v,vs[j]? =some v->w.cell? (p.add j)=some v
def oH (w:World) (p:Addr) (k:Nat):Prop:=∀j,j<k->(w.cell? (p.add j)).isSome=true/\w.frozen? (p.add j)=false
def dL (w:World) (p:Addr):Nat->List Value->World
 |_,[]=>w
 |i,v::vs=>dL (w.setCell (p.add i) v) p (i+1) vs
def cZ (w:World) (p:Addr) (vs:List Value):World:=dL w p 0 vs
def Gw (P:Program) (t:TypeId):Option Bool:=(P.underlying t).map fun| .struct _| .array _ _=>true|_=>false
def wO (P:Program) (t:TypeId):Option Nat:=(P.info? t).map (·.size)
def callable (P:Program) (f:FuncId):Bool:=match P.funcs[f]? with|some fn=>fn.name != "runtime.NumGoroutine" &&fn.body.isSome|none=>false
def evs (e:Env):List Operand->Option (List Value)
 |[]=>some []
 |x::xs=>match ev e x,evs e xs with|some v,some vs=>some (v::vs)|_,_=>none
theorem Ok.evs {n:Nat} {e:Env} {a:Act} (h:Ok n e a):∀{xs:List Operand} {vs:List Value},evs e xs=some vs->xs.map a.eval=vs
 |[],vs,hx=>by simp only[Wk.evs,Option.some.injEq] at hx;subst hx;rfl
 |x::xs,vs,hx=>by
  simp only[Wk.evs] at hx
  split at hx
  ·rename_i v us h1 h2
   simp only[Option.some.injEq] at hx
   subst hx
   simp[h.ev h1,h.evs h2]
  ·cases hx
section
variable {P:Program} {w w':World} {ρ:Operand->Value} {d:Option Tmp} {ty:TypeId} {pos:String} {af:Array Edge} {g:Option (Nat×Bool)} {u v:Value} {x y z:Operand}
theorem iC (hx:ρ x=v):(execOp ρ ⟨d,.move x,ty,pos,af,g⟩).run P w= .ok (.value v) w:=by simp[execOp,hx]
theorem aGd (hx:ρ x=v):(execOp ρ ⟨d,.assign x,ty,pos,af,g⟩).run P w= .ok (.value v) w:=by simp[execOp,hx]
theorem aMs {b:Bool} (hc:ρ x= .bool b) (hv:(if b then ρ y else ρ z)=v):(execOp ρ ⟨d,.pick x y z,ty,pos,af,g⟩).run P w= .ok (.value v) w:=by
 simp only[execOp,hc,asBool]
 simp only[Sem.run_bind,Sem.run_pure,Result.andThen_ok,hv]
theorem aCt (hc:ρ x= .bool true) (hv:ρ y=v):(execOp ρ ⟨d,.pick x y z,ty,pos,af,g⟩).run P w= .ok (.value v) w:=aMs hc (by simpa using hv)
theorem aC7 (hc:ρ x= .bool false) (hv:ρ z=v):(execOp ρ ⟨d,.pick x y z,ty,pos,af,g⟩).run P w= .ok (.value v) w:=aMs hc (by simpa using hv)
theorem mV {t:TypeId} (hs:(Instr.alloc t true (.tuple #[])).run P w= .ok u w'):(execOp ρ ⟨d,.alloc t,ty,pos,af,g⟩).run P w= .ok (.value u) w':=by simp[execOp,hs]
theorem uM {t:TypeId} (hx:ρ x=v) (hs:(Instr.box t v).run P w= .ok u w'):(execOp ρ ⟨d,.box t x,ty,pos,af,g⟩).run P w= .ok (.value u) w':=by simp[execOp,hx,hs]
theorem aO4 {t:TypeId} {ps:List (Nat×Operand)} {qs:List (Nat×Value)} (hx:ps.map (fun p=>(p.1,ρ p.2))=qs) (hs:(Instr.build t qs.toArray).run P w= .ok u w'):(execOp ρ ⟨d,.build t ps.toArray,ty,pos,af,g⟩).run P w= .ok (.value u) w':=by
 have:(ps.toArray.map fun x=>(x.fst,ρ x.snd))=qs.toArray:=by rw[<-hx];simp
 simp[execOp,this,hs]
theorem aIh {t:TypeId} {l:Nat} {ps:List (Nat×Operand)} {qs:List (Nat×Value)} (hx:ps.map (fun p=>(p.1,ρ p.2))=qs) (hs:(Instr.buildSlice t l qs.toArray).run P w= .ok u w'):(execOp ρ ⟨d,.buildSlice t l ps.toArray,ty,pos,af,g⟩).run P w= .ok (.value u) w':=by
 have:(ps.toArray.map fun x=>(x.fst,ρ x.snd))=qs.toArray:=by rw[<-hx];simp
 simp[execOp,this,hs]
theorem nT {t:TypeId} (hx:ρ x=v) (hs:(Instr.loadAt t v).run P w= .ok u w'):(execOp ρ ⟨d,.load t x,ty,pos,af,g⟩).run P w= .ok (.value u) w':=by simp[execOp,hx,hs]
theorem aOs {t:TypeId} (hx:ρ x=v) (hy:ρ y=u) (hs:(Instr.storeAt t v u).run P w= .ok () w'):(execOp ρ ⟨d,.store t x y,ty,pos,af,g⟩).run P w= .ok .skip w':=by simp[execOp,hx,hy,hs]
theorem dH {p:Addr} (hx:ρ x= .pointer (some p)):(execOp ρ ⟨d,.nilCheck x,ty,pos,af,g⟩).run P w= .ok (.value (.pointer (some p))) w:=by simp[execOp,hx]
theorem fZ {op:BinOp} {t t':TypeId} {a b:Value} (hx:ρ x=a) (hy:ρ y=b) (hs:(do eqGuard op t x y a b;binOp op t a b:Sem Value).run P w= .ok u w'):(execOp ρ ⟨d,.binOp op t x y t',ty,pos,af,g⟩).run P w= .ok (.value u) w':=by
 simp only[execOp,hx,hy,Sem.run_bind] at*
 rw[hs]
 simp
theorem aHw {op:UnOp} {t:TypeId} (hx:ρ x=v) (hs:(Op.unary op v).run P w= .ok u w'):(execOp ρ ⟨d,.unOp op t x,ty,pos,af,g⟩).run P w= .ok (.value u) w':=by simp[execOp,hx,hs]
theorem aMb {s t:TypeId} (hx:ρ x=v) (hs:(convert s t v).run P w= .ok u w'):(execOp ρ ⟨d,.convert s t x,ty,pos,af,g⟩).run P w= .ok (.value u) w':=by simp[execOp,hx,hs]
theorem Oe {fn:Fn} {fs cs:List Operand} {us vs:List Value} (hf:fs.map ρ=us) (hc:cs.map ρ=vs):(execOp ρ ⟨d,.makeFunc fn fs.toArray cs.toArray,ty,pos,af,g⟩).run P w= .ok (.value (.func fn us.toArray vs.toArray)) w:=by
 subst hf;subst hc
 simp[execOp,Instr.makeFunc]
theorem Ew {t:TypeId} (hs:(Instr.makeMap t none).run P w= .ok u w'):(execOp ρ ⟨d,.makeMap t none,ty,pos,af,g⟩).run P w= .ok (.value u) w':=by simp[execOp,hs]
theorem pW {t:TypeId} {a b:Value} (hx:ρ x=a) (hy:ρ y=b) (hs:(Instr.makeSlice t a b).run P w= .ok u w'):(execOp ρ ⟨d,.makeSlice t x y,ty,pos,af,g⟩).run P w= .ok (.value u) w':=by simp[execOp,hx,hy,hs]
theorem Ad {t:TypeId} {lo hi mx:Option Operand} {l h m:Option Value} (hx:ρ x=v) (hl:lo.map ρ=l) (hh:hi.map ρ=h) (hm:mx.map ρ=m) (hs:(Instr.sliceAt t v l h m).run P w= .ok u w'):
  (execOp ρ ⟨d,.slice t x lo hi mx,ty,pos,af,g⟩).run P w= .ok (.value u) w':=by subst hl;subst hh;subst hm;simp[execOp,hx,hs]
theorem Pe {t:TypeId} {f:Nat} (hx:ρ x=v) (hs:(Instr.fieldAt t v f).run P w= .ok u w'):(execOp ρ ⟨d,.fieldAddr t x f,ty,pos,af,g⟩).run P w= .ok (.value u) w':=by simp[execOp,hx,hs]
theorem Jb {t:TypeId} {a b:Value} (hx:ρ x=a) (hy:ρ y=b) (hs:(Instr.indexAt t a b).run P w= .ok u w'):(execOp ρ ⟨d,.indexAddr t x y,ty,pos,af,g⟩).run P w= .ok (.value u) w':=by simp[execOp,hx,hy,hs]
theorem aF4 {t:TypeId} {a b:Value} {ok:Bool} (hx:ρ x=a) (hy:ρ y=b) (hs:(Instr.lookup t a b ok).run P w= .ok u w'):(execOp ρ ⟨d,.lookup t x y ok,ty,pos,af,g⟩).run P w= .ok (.value u) w':=by simp[execOp,hx,hy,hs]
theorem aAh {t:TypeId} {a b c:Value} (hx:ρ x=a) (hy:ρ y=b) (hz:ρ z=c) (hs:(Instr.mapUpdate t a b c).run P w= .ok () w'):(execOp ρ ⟨d,.mapUpdate t x y z,ty,pos,af,g⟩).run P w= .ok .skip w':=by simp[execOp,hx,hy,hz,hs]
theorem aJc {t:TypeId} {a b c:Value} (hx:ρ x=a) (hy:ρ y=b) (hz:ρ z=c) (hs:(Instr.mapUpdate t a b c).run P w= .ok () w'):(execOp ρ ⟨d,.insert t x y z,ty,pos,af,g⟩).run P w= .ok .skip w':=by simp[execOp,hx,hy,hz,hs]
theorem aOq {t:TypeId} (hx:ρ x=v) (hs:(Instr.range t v).run P w= .ok u w'):(execOp ρ ⟨d,.range t x,ty,pos,af,g⟩).run P w= .ok (.value u) w':=by simp[execOp,hx,hs]
theorem aRb {b:Bool} (hx:ρ x=v) (hs:(Instr.next v b ty).run P w= .ok u w'):(execOp ρ ⟨d,.next x b,ty,pos,af,g⟩).run P w= .ok (.value u) w':=by simp[execOp,hx,hs]
theorem aPg (hx:ρ x=v) (hs:(Instr.entry v).run P w= .ok u w'):(execOp ρ ⟨d,.entry x,ty,pos,af,g⟩).run P w= .ok (.value u) w':=by simp[execOp,hx,hs]
theorem aD6 {i:Nat} {vs:List Value} (hx:ρ x= .tuple vs.toArray) (hi:vs[i]? =some u):(execOp ρ ⟨d,.extract x i,ty,pos,af,g⟩).run P w= .ok (.value u) w:=by
 simp[execOp,hx,Instr.extract,hi]
theorem aNk {f:FuncId} {xs:List Operand} {ts:Array TypeId} {vs:List Value} {fs cs:Array Value} (hf:ρ x= .func (.func f) fs cs) (ha:xs.map ρ=vs) (hc:callable P f=true):
  (execOp ρ ⟨d,.call ⟨.value x,xs.toArray,ts⟩,ty,pos,af,g⟩).run P w= .ok (.enter f (fs++vs.toArray++cs)) w:=by
 have hm:xs.toArray.map ρ=vs.toArray:=by rw[<-ha];simp
 unfold callable at hc
 split at hc
 ·rename_i fn hfn
  simp only[Bool.and_eq_true,bne_iff_ne,ne_eq] at hc
  obtain⟨b,hb⟩:=Option.isSome_iff_exists.1 hc.2
  simp[execOp,resolve,hf,Deferred.ofValue,invoke,callFunc,hfn,hc.1,hb,hm]
 ·cases hc
theorem kQ {b:Builtin} {xs:List Operand} {ts:Array TypeId} {vs:List Value} (ha:xs.map ρ=vs) (hs:∀cs,(builtin b ts ty cs vs.toArray).run P w= .ok (.value u) w'):
  (execOp ρ ⟨d,.call ⟨.builtin b,xs.toArray,ts⟩,ty,pos,af,g⟩).run P w= .ok (.value u) w':=by
 have hm:xs.toArray.map ρ=vs.toArray:=by rw[<-ha];simp
 simp[execOp,resolve,invoke,hm,hs]
theorem aRe {t:TypeId} (h:Gw P t=some false):(isAgg t).run P w= .ok false w:=by
 unfold Gw at h
 cases hu:P.underlying t with
 |none=>simp[hu] at h
 |some k=>cases k<;>simp_all[isAgg,underlying]
theorem aP0 {t:TypeId} (h:Gw P t=some true):(isAgg t).run P w= .ok true w:=by
 unfold Gw at h
 cases hu:P.underlying t with
 |none=>simp[hu] at h
 |some k=>cases k<;>simp_all[isAgg,underlying]
theorem Xg {t:TypeId} {k:Nat} (h:wO P t=some k):(sizeOf t).run P w= .ok k w:=by
 unfold wO at h
 cases hi:P.info? t with
 |none=>simp[hi] at h
 |some i=>
  simp[hi] at h
  simp[sizeOf,typeInfo,hi,h]
theorem aJ {t:TypeId} {p:Addr} (ht:Gw P t=some false) (hc:w.cell? p=some v):(Instr.loadAt t (.pointer (some p))).run P w= .ok v w:=by
 simp[Instr.loadAt,Instr.sureAddr,loadVar,aRe ht,hc]
theorem loadCellsFrom_ok (p:Addr):∀(vs:List Value) (i:Nat) (acc:Array Value),(∀j v,vs[j]? =some v->w.cell? (p.add (i+j))=some v)->(loadCellsFrom p i vs.length acc).run P w= .ok (acc++vs.toArray) w
 |[],i,acc,_=>by simp[loadCellsFrom]
 |v::vs,i,acc,h=>by
  have h0:=h 0 v (by simp)
  have ih:=loadCellsFrom_ok p vs (i+1) (acc.push v) fun j u hu=>by
   have:=h (j+1) u (by simpa using hu)
   rwa [show i+1+j=i+(j+1) by omega]
  simp only[Nat.add_zero] at h0
  simp[loadCellsFrom,h0,ih]
theorem gW {t:TypeId} {p:Addr} {vs:List Value} (ht:Gw P t=some true) (hn:wO P t=some vs.length) (hc:bG w p vs):(Instr.loadAt t (.pointer (some p))).run P w= .ok (.agg vs.toArray) w:=by
 have:=loadCellsFrom_ok (P:=P) (w:=w) p vs 0 #[] (fun j v h=>by simpa using hc j v h)
 simp[Instr.loadAt,Instr.sureAddr,loadVar,aP0 ht,Xg hn,loadCells,this]
theorem aBk (p:Addr):∀(vs:List Value) (i:Nat) (w:World),(∀j,j<vs.length->(w.cell? (p.add (i+j))).isSome=true/\w.frozen? (p.add (i+j))=false)->(∀v∈vs,v.oneCell'=true)->
  (storeCells p vs i).run P w= .ok () (dL w p i vs)
 |[],i,w,_,_=>by simp[storeCells,dL]
 |v::vs,i,w,h,h1=>by
  have h0:=h 0 (by simp)
  simp only[Nat.add_zero] at h0
  obtain⟨u,hu⟩:=Option.isSome_iff_exists.1 h0.1
  have hs:(store (p.add i) v .plain).run P w= .ok () (w.setCell (p.add i) v):=by
   rw[run_store P w _ v .plain (h1 v (by simp)),hu]
   simp[h0.2]
  have ih:=aBk p vs (i+1) (w.setCell (p.add i) v) (fun j hj=>by
   have:=h (j+1) (by simp;omega)
   rw[show i+1+j=i+(j+1) by omega]
   refine⟨?_,by simpa [World.frozen?_setCell] using this.2⟩
   obtain⟨u',hu'⟩:=Option.isSome_iff_exists.1 this.1
   by_cases he:p.add i=p.add (i+(j+1))
   ·rw[<-he,World.cell?_setCell_same w _ v hu];rfl
   ·rw[World.cell?_setCell_other w _ _ v he,hu'];rfl) (fun v hv=>h1 v (by simp[hv]))
  simp[storeCells,dL,hs,ih]
theorem dM {t:TypeId} {p:Addr} (hn:wO P t=some 1) (h1:v.oneCell'=true) (hv:v.cells= #[v]) (hc:w.cell? p=some u) (hf:w.frozen? p=false):(Instr.storeAt t (.pointer (some p)) v).run P w= .ok () (w.setCell p v):=by
 have hs:(store p v .plain).run P w= .ok () (w.setCell p v):=by
  rw[run_store P w _ v .plain h1,hc]
  simp[hf]
 simp[Instr.storeAt,Instr.sureAddr,storeVar,Xg hn,hv,storeCells,Addr.add,hs]
theorem kN {t:TypeId} {p:Addr} {vs:List Value} (hn:wO P t=some vs.length) (h1:∀v∈vs,v.oneCell'=true) (hc:oH w p vs.length):(Instr.storeAt t (.pointer (some p)) (.agg vs.toArray)).run P w= .ok () (cZ w p vs):=by
 have:=aBk (P:=P) p vs 0 w (fun j hj=>by simpa using hc j hj) h1
 simp[Instr.storeAt,Instr.sureAddr,storeVar,Xg hn,Value.cells,this,cZ]
theorem uO {t:TypeId}:(Instr.box t v).run P w= .ok (.pointer (some ⟨w.heap.size,0,none⟩)) (w.alloc (.cells v.cells t)):=by
 simp[Instr.box,newVar,newRow]
def zeroOf (P:Program) (t:TypeId):Option Value:=(P.info? t).bind (·.zero)
theorem aM2 {t:TypeId} (h:zeroOf P t=some v):(zeroValue t).run P w= .ok v w:=by
 unfold zeroOf at h
 cases hi:P.info? t with
 |none=>simp[hi] at h
 |some i=>
  simp[hi] at h
  simp[zeroValue,typeInfo,hi,h]
theorem nC {t:TypeId} (h:zeroOf P t=some v):(Instr.alloc t true (.tuple #[])).run P w= .ok (.pointer (some ⟨w.heap.size,0,none⟩)) (w.alloc (.cells v.cells t)):=by
 simp[Instr.alloc,aM2 h,newVar,newRow]
def iV (P:Program) (t:TypeId):Option TypeId:=match P.underlying t with|some (.slice e)=>some e|_=>none
theorem lW {t e:TypeId} (h:iV P t=some e):P.underlying t=some (.slice e):=by
 unfold iV at h
 split at h
 ·rename_i e' he;simp at h;subst h;exact he
 ·cases h
theorem aU {t e:TypeId} {k:IntKind} {i:Int} {n c s:Nat} {ad:Addr} {A:Option Addr} (ht:iV P t=some e) (hs:wO P e=some s) (hA:A=some ad) (h0:0<=i) (h1:i<n):
  (Instr.indexAt t (.slice A n c) (.int k i)).run P w= .ok (.pointer (some (ad.add (i.toNat*s)))) w:=by
 subst hA
 simp[Instr.indexAt,asIntOf,underlying,lW ht,Xg hs,h0,h1]
def Jl (A:Option Addr) (cap l s:Nat):Option Addr:=if cap=l then A else A.map (·.add (l*s))
theorem aLq {t e:TypeId} {A:Option Addr} {n c s:Nat} {lo hi:Option Value} {l h:Nat} (ht:iV P t=some e) (hs:wO P e=some s)
  (hb:(Instr.sliceBounds true n c lo hi none).run P w= .ok (l,h,c) w):(Instr.sliceAt t (.slice A n c) lo hi none).run P w= .ok (.slice (Jl A c l s) (h-l) (c-l)) w:=by
 simp[Instr.sliceAt,Instr.slice,underlying,lW ht,Xg hs,hb,Jl]
theorem aE6 {k:IntKind} {i:Int} {y:Nat} {code:BoundsCode} (h0:0<=i) (h1:i<=y):(Instr.sliceBound (.int k i) y code).run P w= .ok i.toNat w:=by
 simp[Instr.sliceBound,asIntOf,h0,h1]
theorem aR8 {n c:Nat} {k:IntKind} {h:Int} (h0:0<=h) (h1:h<=c):(Instr.sliceBounds true n c none (some (.int k h)) none).run P w= .ok (0,h.toNat,c) w:=by
 simp[Instr.sliceBounds,aE6 (P:=P) (w:=w) h0 h1]
theorem aSh {n c:Nat} {k:IntKind} {l:Int} (h0:0<=l) (h1:l<=n):(Instr.sliceBounds true n c (some (.int k l)) none none).run P w= .ok (l.toNat,n,c) w:=by
 simp[Instr.sliceBounds,aE6 (P:=P) (w:=w) h0 h1]
theorem eqg {op:BinOp} {t:TypeId} {a b:Value} {s:Sem Value} (h:(eqGuard op t x y a b).run P w= .ok () w) (hs:s.run P w= .ok u w'):(do eqGuard op t x y a b;s:Sem Value).run P w= .ok u w':=by
 simp[h,hs]
theorem aEn {op:BinOp} {t:TypeId} {k k':IntKind} {a b:Int}:(eqGuard op t x y (.int k a) (.int k' b)).run P w= .ok () w:=by
 unfold eqGuard;cases op<;>simp
theorem aMy {op:BinOp} {t:TypeId} {a b:Bool}:(eqGuard op t x y (.bool a) (.bool b)).run P w= .ok () w:=by
 unfold eqGuard;cases op<;>simp
theorem aRo {op:BinOp} {t:TypeId} {a b:Option Addr}:(eqGuard op t x y (.pointer a) (.pointer b)).run P w= .ok () w:=by
 unfold eqGuard;cases op<;>simp
theorem aOw {op:BinOp} {t:TypeId} {a b:Option Addr} {n c m f:Nat}:(eqGuard op t x y (.slice a n c) (.slice b m f)).run P w= .ok () w:=by
 unfold eqGuard;cases op<;>simp
variable {k:IntKind} {i j:Int} {t:TypeId}
theorem kC:(do eqGuard .add t x y (.int k i) (.int k j);binOp .add t (.int k i) (.int k j):Sem Value).run P w= .ok (.int k (k.wrap (i+j))) w:=eqg aEn (by simp[binOp,Op.intArith])
theorem Pn:(do eqGuard .sub t x y (.int k i) (.int k j);binOp .sub t (.int k i) (.int k j):Sem Value).run P w= .ok (.int k (k.wrap (i-j))) w:=eqg aEn (by simp[binOp,Op.intArith])
theorem iR:(do eqGuard .eql t x y (.int k i) (.int k j);binOp .eql t (.int k i) (.int k j):Sem Value).run P w= .ok (.bool (decide (i=j))) w:=eqg aEn (by simp[binOp,Op.intCmp];rfl)
theorem qR:(do eqGuard .neq t x y (.int k i) (.int k j);binOp .neq t (.int k i) (.int k j):Sem Value).run P w= .ok (.bool (decide (i≠j))) w:=eqg aEn (by simp[binOp,Op.intCmp,bne,Bool.beq_eq_decide_eq])
theorem iY:(do eqGuard .lss t x y (.int k i) (.int k j);binOp .lss t (.int k i) (.int k j):Sem Value).run P w= .ok (.bool (decide (i<j))) w:=eqg aEn (by simp[binOp,Op.intCmp])
theorem aIt:(do eqGuard .leq t x y (.int k i) (.int k j);binOp .leq t (.int k i) (.int k j):Sem Value).run P w= .ok (.bool (decide (i<=j))) w:=eqg aEn (by simp[binOp,Op.intCmp])
theorem aBu:(do eqGuard .gtr t x y (.int k i) (.int k j);binOp .gtr t (.int k i) (.int k j):Sem Value).run P w= .ok (.bool (decide (j<i))) w:=eqg aEn (by simp[binOp,Op.intCmp])
theorem Kq:(do eqGuard .geq t x y (.int k i) (.int k j);binOp .geq t (.int k i) (.int k j):Sem Value).run P w= .ok (.bool (decide (j<=i))) w:=eqg aEn (by simp[binOp,Op.intCmp])
theorem sK {b:Bool}:(Op.unary .not (.bool b)).run P w= .ok (.bool (!b)) w:=by simp[Op.unary]
theorem bW {A:Option Addr} {n c:Nat} {cs:Array Bool} (ht:(iV P t).isSome=true):(builtin .len #[t] ty cs #[.slice A n c]).run P w= .ok (.value (iv n)) w:=by
 obtain⟨e,he⟩:=Option.isSome_iff_exists.1 ht
 simp[builtin,Builtin.len_,underlying,lW he,goInt]
end
structure aO (w w':World):Prop where
 heap:w'.heap=w.heap
 os:w'.os=w.os
 tape:w'.tape=w.tape
 output:w'.output=w.output
theorem aO.refl (w:World):aO w w:=⟨rfl,rfl,rfl,rfl⟩
theorem aO.trans {a b c:World} (h:aO a b) (k:aO b c):aO a c:=⟨k.heap.trans h.heap,k.os.trans h.os,k.tape.trans h.tape,k.output.trans h.output⟩
theorem aO.drew (w:World):aO w w.drew:=⟨rfl,rfl,rfl,rfl⟩
theorem aO.cell {w w':World} (h:aO w w') (p:Addr):w'.cell? p=w.cell? p:=by simp[World.cell?,h.heap]
theorem aO.frozen {w w':World} (h:aO w w') (p:Addr):w'.frozen? p=w.frozen? p:=by simp[World.frozen?,h.heap]
def anc (ops:Array Oper):Nat->Nat->Nat->Bool
 |0,_,_=>false
 |f+1,i,j=>match ops[j]? with
  |none=>false
  |some o=>o.after.any fun e=>Region.binds .any e&&(Nat.beq e.on i||anc ops f i e.on)
def needs (ops:Array Oper) (pu rd:List Nat) (j:Nat):Bool:= !pu.contains j&&rd.any fun r=> !anc ops ops.size r j
def aDi (ops:Array Oper) (l:Array Bool):Bool:=(List.range ops.size).all fun j=> !l.getD j false||((ops[j]?).map fun o=>o.after.all fun e=> !Region.binds .any e||l.getD e.on false).getD true
theorem aC8 {ops:Array Oper} {l:Array Bool} (h:aDi ops l=true) {j:Nat} {o:Oper} (hj:ops[j]? =some o) (hl:l.getD j false=true):∀e∈o.after,Region.binds .any e=true->l.getD e.on false=true:=by
 have h1:=List.all_eq_true.1 h j (List.mem_range.2 (Array.getElem?_eq_some_iff.1 hj).1)
 simp only[hl,hj,Bool.not_true,Bool.false_or,Option.map_some,Option.getD_some] at h1
 intro e he hb
 have:=Array.all_eq_true'.1 h1 e he
 simpa [hb] using this
theorem aB1 {ops:Array Oper} {l:Array Bool} (h:∀j o,ops[j]? =some o->l.getD j false=true->∀e∈o.after,Region.binds .any e=true->l.getD e.on false=true):
  ∀(f i j:Nat) (o:Oper),ops[j]? =some o->(∀e∈o.after,Region.binds .any e=true->l.getD e.on false=true)->anc ops f i j=true->l.getD i false=true
 |0,_,_,_,_,_,ha=>by cases ha
 |f+1,i,j,o,hj,hd,ha=>by
  simp only[anc,hj] at ha
  obtain⟨e,he,hb⟩:=Array.any_eq_true'.1 ha
  simp only[Bool.and_eq_true,Bool.or_eq_true] at hb
  have hl:=hd e he hb.1
  rcases hb.2 with hb2|hb2
  ·rw[<-Nat.eq_of_beq_eq_true hb2];exact hl
  ·cases hj':ops[e.on]? with
   |none=>cases f<;>simp[anc,hj'] at hb2
   |some o'=>exact aB1 h f i e.on o' hj' (h e.on o' hj' hl) hb2
section
variable {P:Program} {ops:Array Oper} {Q:Exit->Act->World->Prop} {pu rd:List Nat} {H:World->Prop} {D:World->World->Prop}
def aD0 (P:Program) (ops:Array Oper) (Q:Exit->Act->World->Prop) (pu rd:List Nat) (H:World->Prop) (D:World->World->Prop):Nat->Array Bool->Act->World->Prop
 |0,l,a,w=>Region.ready .any ops l=[]/\Q .normal a w
 |f+1,l,a,w=>(Region.ready .any ops l=[]->Q .normal a w)/\
  ∀i∈Region.ready .any ops l,wpOp P ops Q i (fun a' w'=>(pu.contains i=true->D w w')/\∀w'',D w' w''->(needs ops pu rd i=true->H w'')/\aD0 P ops Q pu rd H D f (l.setIfInBounds i true) a' w'') a w
theorem aGh (hD:∀w,D w w):∀(f:Nat) (l:Array Bool) (a:Act) (w:World),aD0 P ops Q pu rd H D f l a w->wpAny P .any ops Q f l a w
 |0,_,_,_,h=>h
 |f+1,_,_,_,h=>⟨h.1,fun i hi=>wpOp_mono (fun a' w' h'=>aGh hD f _ a' w' (h'.2 w' (hD w')).2) (h.2 i hi)⟩
def Reads (P:Program) (ops:Array Oper) (H:World->Prop) (D:World->World->Prop) (o:Oper) (v:Value) (a:Act):Prop:=
 (Region.wanted o (yielded ops a.tmps)=true/\∀w,H w->o.quietAt P a (D w) w v)\/(Region.wanted o (yielded ops a.tmps)=false/\v=undef)
theorem Reads.same {o:Oper} {v:Value} {a a':Act} (hy:Reads P ops H D o v a) (he:execOp a'.eval o=execOp a.eval o)
  (hw:Region.wanted o (yielded ops a'.tmps)=Region.wanted o (yielded ops a.tmps)):Reads P ops H D o v a':=by
 unfold Reads Oper.quietAt at*
 rw[he,hw]
 exact hy
theorem Reads.wpOp {i:Nat} {o:Oper} {v:Value} {a:Act} {w:World} (hi:ops[i]? =some o) (hy:Reads P ops H D o v a) (hH:H w) (hD:∀w,D w w)
  {K:Act->World->Prop} (h:∀w',D w w'->K (a.put o.dst v) w'):Go.wpOp P ops Q i K a w:=by
 unfold Go.wpOp
 simp only[hi]
 rcases hy with⟨hw,hv⟩|⟨hw,rfl⟩
 ·simp only[hw,if_true]
  refine .inl ?_
  have h3:=hv w hH
  unfold Oper.quietAt at h3
  unfold Oper.wp
  generalize (execOp a.eval o).run P w=r at*
  cases r with
  |halt x w'=>simp only[Oper.quietUpon] at h3
  |ok n w'=>
   cases n<;>simp only[Oper.quietUpon] at h3<;>simp only[Oper.upon]
   case value u=>obtain⟨rfl,rfl⟩:=h3;exact h _ (hD _)
   case skip=>obtain⟨rfl,rfl⟩:=h3;exact h _ (hD _)
   case enter f args=>
    obtain⟨rfl,hc⟩:=h3
    exact hc.mono fun x w'' ⟨hx,hd⟩=>by subst hx;exact h _ hd
 ·simp only[hw,Bool.false_eq_true,if_false];exact h _ (hD _)
theorem swap {j:Nat} {oi oj:Oper} {v:Value} (hj:ops[j]? =some oj) (hap:oi.apart ops oj=true)
  (hsi:∀cs b,oi.op≠.select cs b) (hsj:∀cs b,oj.op≠.select cs b) (hQ:∀c a w,Q (.panic c) (a.put oi.dst v) w->Q (.panic c) a w)
  {K:Act->World->Prop} {a:Act} {w:World} (hy:Reads P ops H D oi v a) (h:wpOp P ops Q j K (a.put oi.dst v) w):
  wpOp P ops Q j (fun a' w'=>Reads P ops H D oi v a'/\K (a'.put oi.dst v) w') a w:=by
 obtain⟨h1,h2,h3⟩:=Oper.apart_spec hap
 have keep:∀b:Act,Reads P ops H D oi v b->∀u,Reads P ops H D oi v (b.put oj.dst u):=fun b hb u=>
  hb.same (execOp_put oi hsi b oj.dst u h3) (wanted_put oi b oj.dst u h3)
 unfold wpOp at*
 simp only[hj] at*
 rw[wanted_put oj a oi.dst v h1] at h
 by_cases hw:Region.wanted oj (yielded ops a.tmps)=true
 ·simp only[hw,if_true] at h⊢
  rcases h with h|⟨hasks,hlets⟩
  ·refine .inl ?_
   unfold Oper.wp at*
   rw[execOp_put oj hsj a oi.dst v h1] at h
   generalize (execOp a.eval oj).run P w=r at*
   cases r with
   |ok n w'=>
    cases n<;>simp only[Oper.upon] at h⊢
    case value u=>exact⟨keep a hy u,by rw[<-Act.put_comm a v u h2];exact h⟩
    case skip=>exact⟨keep a hy _,by rw[<-Act.put_comm a v undef h2];exact h⟩
    case defer d=>
     refine⟨keep {a with defers:=d::a.defers} (hy.same rfl rfl) _,?_⟩
     rw[<-Act.put_comm _ v undef h2,<-Act.put_defers]
     exact h
    case enter f args=>
     refine Calls.mono h fun x w'' he=> ?_
     cases x with
     |returned u=>exact⟨keep a hy u,by rw[<-Act.put_comm a v u h2];exact he⟩
     |panicked c=>exact hQ _ _ _ he
     |outgrown=>exact he
    case row row args=>exact Rows.mono h fun u w'' he=>⟨keep a hy u,by rw[<-Act.put_comm a v u h2];exact he⟩
   |halt x w'=>
    cases x<;>simp only[Oper.upon] at h⊢
    case panic u=>exact hQ _ _ _ h
  ·refine .inr ⟨?_,hlets⟩
   unfold Oper.asks at*
   rw[execOp_put oj hsj a oi.dst v h1] at hasks
   exact hasks
 ·simp only[hw] at h⊢
  exact⟨keep a hy _,by rw[<-Act.put_comm a v undef h2];exact h⟩
theorem take {i:Nat} {oi:Oper} {v:Value} (hi:ops[i]? =some oi) (hrd:i∈rd) (hDr:∀w,D w w) (hDt:∀a b c,D a b->D b c->D a c) (hHD:∀w w',H w->D w w'->H w')
  (hsel:∀(j:Nat) (o:Oper) cs b,ops[j]? =some o->o.op≠.select cs b) (hQ:∀c a w,Q (.panic c) (a.put oi.dst v) w->Q (.panic c) a w):
  ∀(f:Nat) (l:Array Bool) (a:Act) (w:World),
   (∀j o,ops[j]? =some o->l.getD j false=true->∀e∈o.after,Region.binds .any e=true->l.getD e.on false=true)->l.size=ops.size->
   (∀j oj,ops[j]? =some oj->j≠i->l.getD j true=false->(∀e∈oj.after,Region.binds .any e=true->e.on≠i)->oi.apart ops oj=true)->
   i∈Region.ready .any ops l->Reads P ops H D oi v a->H w->
   (∀w',D w w'->aD0 P ops Q pu rd H D f (l.setIfInBounds i true) (a.put oi.dst v) w')->aD0 P ops Q pu rd H D (f+1) l a w:=by
 intro f
 induction f with
 |zero=>
  intro l a w _ _ _ hr hy hH h
  refine⟨fun h0=>(by rw[h0] at hr;cases hr),fun j hj=> ?_⟩
  by_cases hji:j=i
  ·subst hji
   exact hy.wpOp hi hH hDr fun w' hw'=>⟨fun _=>hw',fun w'' hw''=>⟨fun _=>hHD _ _ hH (hDt _ _ _ hw' hw''),h _ (hDt _ _ _ hw' hw'')⟩⟩
  ·have:=ready_mono hj hji
   rw[(h w (hDr w)).1] at this
   cases this
 |succ f ih=>
  intro l a w hcl hsz hfree hr hy hH h
  refine⟨fun h0=>(by rw[h0] at hr;cases hr),fun j hj=> ?_⟩
  by_cases hji:j=i
  ·subst hji
   exact hy.wpOp hi hH hDr fun w' hw'=>⟨fun _=>hw',fun w'' hw''=>⟨fun _=>hHD _ _ hH (hDt _ _ _ hw' hw''),h _ (hDt _ _ _ hw' hw'')⟩⟩
  ·have h1:=(h w (hDr w)).2 j (ready_mono hj hji)
   have hun:l.getD i true=false:=(mem_ready.1 hr).1
   have hun':l.getD i false=false:=by
    rcases Nat.lt_or_ge i l.size with h'|h'
    ·simp[h'] at hun⊢;exact hun
    ·simp[Array.getElem?_eq_none h']
   obtain⟨hjun,oj,hoj,hall⟩:=mem_ready.1 hj
   have hanc:anc ops ops.size i j=false:=by
    cases hq:anc ops ops.size i j with
    |false=>rfl
    |true=>rw[aB1 hcl _ _ _ _ hoj hall hq] at hun';cases hun'
   have hneed:pu.contains j=false->needs ops pu rd j=true:=fun hp=>by
    unfold needs
    rw[hp]
    exact List.any_eq_true.2 ⟨i,hrd,by rw[hanc];rfl⟩
   have hnot:∀e∈oj.after,Region.binds .any e=true->e.on≠i:=fun e he hb heq=>by
    have h1:=hall e he hb
    rw[heq,hun'] at h1
    cases h1
   have h2:=swap hoj (hfree j oj hoj hji hjun hnot) (fun cs b=>hsel i oi cs b hi) (fun cs b=>hsel j oj cs b hoj) hQ hy h1
   have hfree':∀k ok,ops[k]? =some ok->k≠i->(l.setIfInBounds j true).getD k true=false->(∀e∈ok.after,Region.binds .any e=true->e.on≠i)->oi.apart ops ok=true:=fun k ok hk hki hkun hno=>by
    refine hfree k ok hk hki ?_ hno
    by_cases hjk:j=k
    ·subst hjk;exact hjun
    ·rw[getD_set_ne true hjk] at hkun;exact hkun
   have hcl':∀k o,ops[k]? =some o->(l.setIfInBounds j true).getD k false=true->∀e∈o.after,Region.binds .any e=true->(l.setIfInBounds j true).getD e.on false=true:=fun k o hk hkl e he hb=>by
    by_cases hjk:j=k
    ·subst hjk
     have:o=oj:=Option.some.inj (hk.symm.trans hoj)
     subst this
     exact getD_set_true (hall e he hb)
    ·rw[getD_set_ne false hjk] at hkl
     exact getD_set_true (hcl k o hk hkl e he hb)
   refine wpOp_mono (fun a' w' h3=> ?_) h2
   obtain⟨hy',hpd,h4⟩:=h3
   refine⟨hpd,fun w'' hw''=> ?_⟩
   have hH'':H w'':=by
    cases hp:pu.contains j with
    |true=>exact hHD _ _ hH (hDt _ _ _ (hpd hp) hw'')
    |false=>exact(h4 w'' hw'').1 (hneed hp)
   refine⟨fun _=>hH'',ih (l.setIfInBounds j true) a' w'' hcl' (by simp[hsz]) hfree' (ready_mono hr (Ne.symm hji)) hy' hH'' fun w3 hw3=> ?_⟩
   rw[Array.setIfInBounds_comm _ _ hji]
   exact(h4 w3 (hDt _ _ _ hw'' hw3)).2
theorem aQe {i:Nat} {oi:Oper} {v:Value} (hi:ops[i]? =some oi) (hpu:pu.contains i=true) (hDr:∀w,D w w) (hDt:∀a b c,D a b->D b c->D a c)
  (hsel:∀(j:Nat) (o:Oper) cs b,ops[j]? =some o->o.op≠.select cs b) (hQ:∀c a w,Q (.panic c) (a.put oi.dst v) w->Q (.panic c) a w):
  ∀(f:Nat) (l:Array Bool) (a:Act) (w:World),l.size=ops.size->
   (∀j oj,ops[j]? =some oj->j≠i->l.getD j true=false->(∀e∈oj.after,Region.binds .any e=true->e.on≠i)->oi.apart ops oj=true)->
   i∈Region.ready .any ops l->Reads P ops (fun _=>True) D oi v a->
   (∀w',D w w'->aD0 P ops Q pu rd H D f (l.setIfInBounds i true) (a.put oi.dst v) w')->aD0 P ops Q pu rd H D (f+1) l a w:=by
 have hnn:needs ops pu rd i=true->False:=fun h=>by unfold needs at h;rw[hpu] at h;cases h
 intro f
 induction f with
 |zero=>
  intro l a w hsz _ hr hy h
  refine⟨fun h0=>(by rw[h0] at hr;cases hr),fun j hj=> ?_⟩
  by_cases hji:j=i
  ·subst hji
   exact hy.wpOp hi trivial hDr fun w' hw'=>⟨fun _=>hw',fun w'' hw''=>⟨fun hq=>(hnn hq).elim,h _ (hDt _ _ _ hw' hw'')⟩⟩
  ·have:=ready_mono hj hji
   rw[(h w (hDr w)).1] at this
   cases this
 |succ f ih=>
  intro l a w hsz hfree hr hy h
  refine⟨fun h0=>(by rw[h0] at hr;cases hr),fun j hj=> ?_⟩
  by_cases hji:j=i
  ·subst hji
   exact hy.wpOp hi trivial hDr fun w' hw'=>⟨fun _=>hw',fun w'' hw''=>⟨fun hq=>(hnn hq).elim,h _ (hDt _ _ _ hw' hw'')⟩⟩
  ·have h1:=(h w (hDr w)).2 j (ready_mono hj hji)
   have hun:l.getD i true=false:=(mem_ready.1 hr).1
   have hun':l.getD i false=false:=by
    rcases Nat.lt_or_ge i l.size with h'|h'
    ·simp[h'] at hun⊢;exact hun
    ·simp[Array.getElem?_eq_none h']
   obtain⟨hjun,oj,hoj,hall⟩:=mem_ready.1 hj
   have hnot:∀e∈oj.after,Region.binds .any e=true->e.on≠i:=fun e he hb heq=>by
    have h1:=hall e he hb
    rw[heq,hun'] at h1
    cases h1
   have h2:=swap hoj (hfree j oj hoj hji hjun hnot) (fun cs b=>hsel i oi cs b hi) (fun cs b=>hsel j oj cs b hoj) hQ hy h1
   have hfree':∀k ok,ops[k]? =some ok->k≠i->(l.setIfInBounds j true).getD k true=false->(∀e∈ok.after,Region.binds .any e=true->e.on≠i)->oi.apart ops ok=true:=fun k ok hk hki hkun hno=>by
    refine hfree k ok hk hki ?_ hno
    by_cases hjk:j=k
    ·subst hjk;exact hjun
    ·rw[getD_set_ne true hjk] at hkun;exact hkun
   refine wpOp_mono (fun a' w' h3=> ?_) h2
   obtain⟨hy',hpd,h4⟩:=h3
   refine⟨hpd,fun w'' hw''=>⟨(h4 w'' hw'').1,ih (l.setIfInBounds j true) a' w'' (by simp[hsz]) hfree' (ready_mono hr (Ne.symm hji)) hy' fun w3 hw3=> ?_⟩⟩
   rw[Array.setIfInBounds_comm _ _ hji]
   exact(h4 w3 (hDt _ _ _ hw'' hw3)).2
theorem aRz {E:World->Prop} {i:Nat} {oi:Oper} {v:Value} (hi:ops[i]? =some oi) (hpu:pu.contains i=true) (hDr:∀w,D w w) (hDt:∀a b c,D a b->D b c->D a c) (hE:∀w w',E w->D w w'->E w')
  (hearly:∀j,j<ops.size->pu.contains j=false->anc ops ops.size i j=true)
  (hsel:∀(j:Nat) (o:Oper) cs b,ops[j]? =some o->o.op≠.select cs b) (hQ:∀c a w,Q (.panic c) (a.put oi.dst v) w->Q (.panic c) a w):
  ∀(f:Nat) (l:Array Bool) (a:Act) (w:World),
   (∀j o,ops[j]? =some o->l.getD j false=true->∀e∈o.after,Region.binds .any e=true->l.getD e.on false=true)->l.size=ops.size->
   (∀j oj,ops[j]? =some oj->j≠i->l.getD j true=false->(∀e∈oj.after,Region.binds .any e=true->e.on≠i)->oi.apart ops oj=true)->
   i∈Region.ready .any ops l->Reads P ops E D oi v a->E w->
   (∀w',D w w'->aD0 P ops Q pu rd H D f (l.setIfInBounds i true) (a.put oi.dst v) w')->aD0 P ops Q pu rd H D (f+1) l a w:=by
 have hnn:needs ops pu rd i=true->False:=fun h=>by unfold needs at h;rw[hpu] at h;cases h
 intro f
 induction f with
 |zero=>
  intro l a w _ hsz _ hr hy hEw h
  refine⟨fun h0=>(by rw[h0] at hr;cases hr),fun j hj=> ?_⟩
  by_cases hji:j=i
  ·subst hji
   exact hy.wpOp hi hEw hDr fun w' hw'=>⟨fun _=>hw',fun w'' hw''=>⟨fun hq=>(hnn hq).elim,h _ (hDt _ _ _ hw' hw'')⟩⟩
  ·have:=ready_mono hj hji
   rw[(h w (hDr w)).1] at this
   cases this
 |succ f ih=>
  intro l a w hcl hsz hfree hr hy hEw h
  refine⟨fun h0=>(by rw[h0] at hr;cases hr),fun j hj=> ?_⟩
  by_cases hji:j=i
  ·subst hji
   exact hy.wpOp hi hEw hDr fun w' hw'=>⟨fun _=>hw',fun w'' hw''=>⟨fun hq=>(hnn hq).elim,h _ (hDt _ _ _ hw' hw'')⟩⟩
  ·have h1:=(h w (hDr w)).2 j (ready_mono hj hji)
   have hun:l.getD i true=false:=(mem_ready.1 hr).1
   have hun':l.getD i false=false:=by
    rcases Nat.lt_or_ge i l.size with h'|h'
    ·simp[h'] at hun⊢;exact hun
    ·simp[Array.getElem?_eq_none h']
   obtain⟨hjun,oj,hoj,hall⟩:=mem_ready.1 hj
   have hpj:pu.contains j=true:=by
    cases hq:pu.contains j with
    |true=>rfl
    |false=>
     have:=aB1 hcl _ _ _ _ hoj hall (hearly j (Array.getElem?_eq_some_iff.1 hoj).1 hq)
     rw[this] at hun';cases hun'
   have hnot:∀e∈oj.after,Region.binds .any e=true->e.on≠i:=fun e he hb heq=>by
    have h1:=hall e he hb
    rw[heq,hun'] at h1
    cases h1
   have h2:=swap hoj (hfree j oj hoj hji hjun hnot) (fun cs b=>hsel i oi cs b hi) (fun cs b=>hsel j oj cs b hoj) hQ hy h1
   have hfree':∀k ok,ops[k]? =some ok->k≠i->(l.setIfInBounds j true).getD k true=false->(∀e∈ok.after,Region.binds .any e=true->e.on≠i)->oi.apart ops ok=true:=fun k ok hk hki hkun hno=>by
    refine hfree k ok hk hki ?_ hno
    by_cases hjk:j=k
    ·subst hjk;exact hjun
    ·rw[getD_set_ne true hjk] at hkun;exact hkun
   have hcl':∀k o,ops[k]? =some o->(l.setIfInBounds j true).getD k false=true->∀e∈o.after,Region.binds .any e=true->(l.setIfInBounds j true).getD e.on false=true:=fun k o hk hkl e he hb=>by
    by_cases hjk:j=k
    ·subst hjk
     have:o=oj:=Option.some.inj (hk.symm.trans hoj)
     subst this
     exact getD_set_true (hall e he hb)
    ·rw[getD_set_ne false hjk] at hkl
     exact getD_set_true (hcl k o hk hkl e he hb)
   refine wpOp_mono (fun a' w' h3=> ?_) h2
   obtain⟨hy',hpd,h4⟩:=h3
   refine⟨hpd,fun w'' hw''=>⟨(h4 w'' hw'').1,ih (l.setIfInBounds j true) a' w'' hcl' (by simp[hsz]) hfree' (ready_mono hr (Ne.symm hji)) hy' (hE _ _ hEw (hDt _ _ _ (hpd hpj) hw'')) fun w3 hw3=> ?_⟩⟩
   rw[Array.setIfInBounds_comm _ _ hji]
   exact(h4 w3 (hDt _ _ _ hw'' hw3)).2
def AN (P:Program) (ops:Array Oper) (Q:Exit->Act->World->Prop) (pu rd:List Nat) (H:World->Prop) (D:World->World->Prop) (f:Nat) (l:Array Bool) (n:Nat) (e:Env) (w:World):Prop:=∀a,Ok n e a->aD0 P ops Q pu rd H D f l a w
variable {n:Nat} {e:Env} {w:World} {f:Nat} {l l':Array Bool}
theorem aMr {id:Nat} (hm:P.follows .mixedOrders=true) (pu rd:List Nat) (H:World->Prop) (D:World->World->Prop) (hD:∀w,D w w) (sz:Nat) (hs:ops.size=sz) (hl:Array.replicate sz false=l)
  (h:AN P ops Q pu rd H D sz l n e w.drew):CW P (Code.region id ops true) Q n e w:=fun a ha=>by
 subst hs;subst hl
 exact wp_region_any hm (aGh hD _ _ _ _ (h a ha))
theorem aO1 (hr:Region.ready .any ops l=[]) (h:NX Q .normal n e w):AN P ops Q pu rd H D f l n e w:=fun a ha=>by
 cases f with
 |zero=>exact⟨hr,h a ha⟩
 |succ f=>exact⟨fun _=>h a ha,by rw[hr];simp⟩
structure Calm (P:Program) (ops:Array Oper) (Q:Exit->Act->World->Prop) (H:World->Prop) (D:World->World->Prop):Prop where
 sel:Region.noSelect ops=true
 panic:∀c a d v w,Q (.panic c) (Act.put a d v) w->Q (.panic c) a w
 drefl:∀w,D w w
 dtrans:∀a b c,D a b->D b c->D a c
 held:∀w w',H w->D w w'->H w'
theorem aKv {i:Nat} {oi:Oper} {v:Value} (cm:Calm P ops Q H D) (hi:ops[i]? =some oi) (hrd:(rd.contains i)=true) (hf:Region.free .any ops l i=true) (hr:(Region.ready .any ops l).contains i=true)
  (hcl:aDi ops l=true) (hsz:Nat.beq l.size ops.size=true) (hH:H w) (hy:∀a,Ok n e a->Reads P ops H D oi v a) (hl:l.setIfInBounds i true=l')
  (h:∀w',D w w'->∀a,Ok n e a->aD0 P ops Q pu rd H D f l' (a.put oi.dst v) w'):AN P ops Q pu rd H D (f+1) l n e w:=fun a ha=>by
 subst hl
 exact take hi (by simpa using hrd) cm.drefl cm.dtrans cm.held (Region.noSelect_spec cm.sel) (fun c a w=>cm.panic c a _ _ w) f l a w (fun j o hj hl=>aC8 hcl hj hl) (Nat.eq_of_beq_eq_true hsz) (Region.free_spec hi hf) (by simpa using hr) (hy a ha) hH
  fun w' hw'=>h w' hw' a ha
def takeB (ops:Array Oper) (rd:List Nat) (l:Array Bool) (i:Nat):Bool:=rd.contains i&&Region.free .any ops l i&&(Region.ready .any ops l).contains i&&aDi ops l&&Nat.beq l.size ops.size
theorem aFu {ops:Array Oper} {rd:List Nat} {l:Array Bool} {i:Nat} (h:takeB ops rd l i=true):rd.contains i=true/\Region.free .any ops l i=true/\(Region.ready .any ops l).contains i=true/\aDi ops l=true/\Nat.beq l.size ops.size=true:=by
 simp only[takeB,Bool.and_eq_true] at h
 exact⟨h.1.1.1.1,h.1.1.1.2,h.1.1.2,h.1.2,h.2⟩
theorem aQr {i d:Nat} {oi:Oper} {v:Value} (cm:Calm P ops Q H D) (hi:ops[i]? =some oi) (hb:takeB ops rd l i=true) (hH:H w) (hd:oi.dst=some d) (hlt:Nat.blt d n=true)
  (hw:∀a,Ok n e a->Region.wanted oi (yielded ops a.tmps)=true) (hy:∀w',H w'->∀a,Ok n e a->(execOp a.eval oi).run P w'= .ok (.value v) w') (hl:l.setIfInBounds i true=l')
  (h:∀w',D w w'->H w'->AN P ops Q pu rd H D f l' n ((d,v)::e) w'):AN P ops Q pu rd H D (f+1) l n e w:=
 have hb:=aFu hb
 aKv cm hi hb.1 hb.2.1 hb.2.2.1 hb.2.2.2.1 hb.2.2.2.2 hH (fun a ha=> .inl ⟨hw a ha,fun w' hw'=>by unfold Oper.quietAt;rw[hy w' hw' a ha];exact⟨rfl,rfl⟩⟩) hl fun w' hw' a ha=>by
  rw[hd];exact h w' hw' (cm.held _ _ hH hw') _ (ha.put hlt v)
theorem Ql {i d:Nat} {oi:Oper} {v:Value} {g:FuncId} {args:Array Value} (cm:Calm P ops Q H D) (hi:ops[i]? =some oi) (hb:takeB ops rd l i=true) (hH:H w) (hd:oi.dst=some d) (hlt:Nat.blt d n=true)
  (hw:∀a,Ok n e a->Region.wanted oi (yielded ops a.tmps)=true) (hy:∀w',H w'->∀a,Ok n e a->(execOp a.eval oi).run P w'= .ok (.enter g args) w')
  (hc:∀w',H w'->Calls P g args w' fun x w''=>x= .returned v/\D w' w'') (hl:l.setIfInBounds i true=l')
  (h:∀w',D w w'->H w'->AN P ops Q pu rd H D f l' n ((d,v)::e) w'):AN P ops Q pu rd H D (f+1) l n e w:=
 have hb:=aFu hb
 aKv cm hi hb.1 hb.2.1 hb.2.2.1 hb.2.2.2.1 hb.2.2.2.2 hH (fun a ha=> .inl ⟨hw a ha,fun w' hw'=>by unfold Oper.quietAt;rw[hy w' hw' a ha];exact⟨rfl,hc w' hw'⟩⟩) hl fun w' hw' a ha=>by
  rw[hd];exact h w' hw' (cm.held _ _ hH hw') _ (ha.put hlt v)
def qX (ops:Array Oper) (pu:List Nat) (l:Array Bool) (i:Nat):Bool:=pu.contains i&&Region.free .any ops l i&&(Region.ready .any ops l).contains i&&Nat.beq l.size ops.size
theorem Ue {i d:Nat} {oi:Oper} {v:Value} (cm:Calm P ops Q H D) (hi:ops[i]? =some oi) (hb:qX ops pu l i=true) (hd:oi.dst=some d) (hlt:Nat.blt d n=true)
  (hw:∀a,Ok n e a->Region.wanted oi (yielded ops a.tmps)=true) (hy:∀w' a,Ok n e a->(execOp a.eval oi).run P w'= .ok (.value v) w') (hl:l.setIfInBounds i true=l')
  (h:∀w',D w w'->AN P ops Q pu rd H D f l' n ((d,v)::e) w'):AN P ops Q pu rd H D (f+1) l n e w:=fun a ha=>by
 subst hl
 simp only[qX,Bool.and_eq_true] at hb
 refine aQe hi hb.1.1.1 cm.drefl cm.dtrans (Region.noSelect_spec cm.sel) (fun c a w=>cm.panic c a _ _ w) f l a w (Nat.eq_of_beq_eq_true hb.2) (Region.free_spec hi hb.1.1.2) (by simpa using hb.1.2) (.inl ⟨hw a ha,fun w' _=>by unfold Oper.quietAt;rw[hy w' a ha];exact⟨rfl,rfl⟩⟩) fun w' hw'=> ?_
 rw[hd];exact h w' hw' _ (ha.put hlt v)
theorem aJt {i d:Nat} {oi:Oper} (cm:Calm P ops Q H D) (hi:ops[i]? =some oi) (hb:qX ops pu l i=true) (hd:oi.dst=some d) (hlt:Nat.blt d n=true)
  (hw:∀a,Ok n e a->Region.wanted oi (yielded ops a.tmps)=false) (hl:l.setIfInBounds i true=l')
  (h:∀w',D w w'->AN P ops Q pu rd H D f l' n ((d,undef)::e) w'):AN P ops Q pu rd H D (f+1) l n e w:=fun a ha=>by
 subst hl
 simp only[qX,Bool.and_eq_true] at hb
 refine aQe hi hb.1.1.1 cm.drefl cm.dtrans (Region.noSelect_spec cm.sel) (fun c a w=>cm.panic c a _ _ w) f l a w (Nat.eq_of_beq_eq_true hb.2) (Region.free_spec hi hb.1.1.2) (by simpa using hb.1.2) (.inr ⟨hw a ha,rfl⟩) fun w' hw'=> ?_
 rw[hd];exact h w' hw' _ (ha.put hlt undef)
def aJ0 (ops:Array Oper) (pu:List Nat) (l:Array Bool) (i:Nat):Bool:=pu.contains i&&Region.free .any ops l i&&(Region.ready .any ops l).contains i&&aDi ops l&&Nat.beq l.size ops.size&&(List.range ops.size).all fun j=>pu.contains j||anc ops ops.size i j
theorem aM9 {E:World->Prop} {i:Nat} {oi:Oper} {v:Value} (cm:Calm P ops Q H D) (hE:∀w w',E w->D w w'->E w') (hi:ops[i]? =some oi) (hb:aJ0 ops pu l i=true) (hEw:E w) (hy:∀a,Ok n e a->Reads P ops E D oi v a) (hl:l.setIfInBounds i true=l')
  (h:∀w',D w w'->∀a,Ok n e a->aD0 P ops Q pu rd H D f l' (a.put oi.dst v) w'):AN P ops Q pu rd H D (f+1) l n e w:=fun a ha=>by
 subst hl
 simp only[aJ0,Bool.and_eq_true] at hb
 refine aRz hi hb.1.1.1.1.1 cm.drefl cm.dtrans hE (fun j hj hp=> ?_) (Region.noSelect_spec cm.sel) (fun c a w=>cm.panic c a _ _ w) f l a w (fun j o hj hl=>aC8 hb.1.1.2 hj hl) (Nat.eq_of_beq_eq_true hb.1.2) (Region.free_spec hi hb.1.1.1.1.2) (by simpa using hb.1.1.1.2) (hy a ha) hEw
  fun w' hw'=>h w' hw' a ha
 have:=List.all_eq_true.1 hb.2 j (List.mem_range.2 hj)
 rw[hp,Bool.false_or] at this
 exact this
theorem Qg {E:World->Prop} {i d:Nat} {oi:Oper} {v:Value} (cm:Calm P ops Q H D) (hE:∀w w',E w->D w w'->E w') (hi:ops[i]? =some oi) (hb:aJ0 ops pu l i=true) (hEw:E w) (hd:oi.dst=some d) (hlt:Nat.blt d n=true)
  (hw:∀a,Ok n e a->Region.wanted oi (yielded ops a.tmps)=true) (hy:∀w',E w'->∀a,Ok n e a->(execOp a.eval oi).run P w'= .ok (.value v) w') (hl:l.setIfInBounds i true=l')
  (h:∀w',D w w'->AN P ops Q pu rd H D f l' n ((d,v)::e) w'):AN P ops Q pu rd H D (f+1) l n e w:=
 aM9 cm hE hi hb hEw (fun a ha=> .inl ⟨hw a ha,fun w' hw'=>by unfold Oper.quietAt;rw[hy w' hw' a ha];exact⟨rfl,rfl⟩⟩) hl fun w' hw' a ha=>by
  rw[hd];exact h w' hw' _ (ha.put hlt v)
def AW (P:Program) (ops:Array Oper) (Q:Exit->Act->World->Prop) (pu rd:List Nat) (H:World->Prop) (D:World->World->Prop) (f:Nat) (l:Array Bool) (n:Nat) (e:Env) (w:World) (i:Nat):Prop:=
 ∀a,Ok n e a->wpOp P ops Q i (fun a' w'=>(pu.contains i=true->D w w')/\∀w'',D w' w''->(needs ops pu rd i=true->H w'')/\aD0 P ops Q pu rd H D f (l.setIfInBounds i true) a' w'') a w
theorem Hr {rs:List Nat} (hr:Region.ready .any ops l=rs) (hne:rs.isEmpty=false) (h:∀i∈rs,AW P ops Q pu rd H D f l n e w i):AN P ops Q pu rd H D (f+1) l n e w:=fun a ha=>
 ⟨fun h0=>(by rw[hr] at h0;rw[h0] at hne;cases hne),fun i hi=>h i (hr▸hi) a ha⟩
theorem Vp:∀i∈([]:List Nat),AW P ops Q pu rd H D f l n e w i:=fun i h=>by cases h
theorem tY {i:Nat} {rs:List Nat} (h:AW P ops Q pu rd H D f l n e w i) (k:∀i∈rs,AW P ops Q pu rd H D f l n e w i):∀j∈i::rs,AW P ops Q pu rd H D f l n e w j:=fun j hj=>by
 rcases List.mem_cons.1 hj with rfl|hj
 ·exact h
 ·exact k j hj
def awB (ops:Array Oper) (pu rd:List Nat) (i:Nat) (b:Bool):Bool:= !pu.contains i&&(needs ops pu rd i==b)
theorem aE1 {i:Nat} {oi:Oper} {b:Bool} (hi:ops[i]? =some oi) (hw:∀a,Ok n e a->Region.wanted oi (yielded ops a.tmps)=true) (hl:l.setIfInBounds i true=l') (hn:awB ops pu rd i b=true)
  (h:∀a,Ok n e a->oi.wp P a w (fun a' w'=>∀w'',D w' w''->(b=true->H w'')/\aD0 P ops Q pu rd H D f l' a' w'') Q):AW P ops Q pu rd H D f l n e w i:=fun a ha=>by
 subst hl
 simp only[awB,Bool.and_eq_true,Bool.not_eq_true',beq_iff_eq] at hn
 unfold wpOp
 simp only[hi]
 rw[if_pos (hw a ha)]
 refine .inl (Oper.wp_mono (fun a' w' h'=>⟨fun hp=>(by rw[hn.1] at hp;cases hp),fun w'' hw''=>⟨fun hq=>(h' w'' hw'').1 (by rw[<-hn.2];exact hq),(h' w'' hw'').2⟩⟩) (h a ha))
theorem Ap {i d:Nat} {oi:Oper} {v:Value} {w1:World} (hi:ops[i]? =some oi) (hd:oi.dst=some d) (hlt:Nat.blt d n=true) (hw:∀a,Ok n e a->Region.wanted oi (yielded ops a.tmps)=true)
  (hy:∀a,Ok n e a->(execOp a.eval oi).run P w= .ok (.value v) w1) (hl:l.setIfInBounds i true=l') (b:Bool) (hn:awB ops pu rd i b=true)
  (h:∀w',D w1 w'->(b=true->H w')/\AN P ops Q pu rd H D f l' n ((d,v)::e) w'):AW P ops Q pu rd H D f l n e w i:=
 aE1 hi hw hl hn fun a ha=>by
  unfold Oper.wp
  rw[hy a ha,Oper.upon_value,hd]
  exact fun w' hw'=>⟨(h w' hw').1,(h w' hw').2 _ (ha.put hlt v)⟩
theorem aRu {i:Nat} {oi:Oper} {v:Value} {w1:World} (hi:ops[i]? =some oi) (hd:oi.dst=none) (hw:∀a,Ok n e a->Region.wanted oi (yielded ops a.tmps)=true)
  (hy:∀a,Ok n e a->(execOp a.eval oi).run P w= .ok (.value v) w1) (hl:l.setIfInBounds i true=l') (b:Bool) (hn:awB ops pu rd i b=true)
  (h:∀w',D w1 w'->(b=true->H w')/\AN P ops Q pu rd H D f l' n e w'):AW P ops Q pu rd H D f l n e w i:=
 aE1 hi hw hl hn fun a ha=>by
  unfold Oper.wp
  rw[hy a ha,Oper.upon_value,hd]
  exact fun w' hw'=>⟨(h w' hw').1,(h w' hw').2 _ (ha.aFl v)⟩
theorem aSj {i:Nat} {oi:Oper} {w1:World} (hi:ops[i]? =some oi) (hd:oi.dst=none) (hw:∀a,Ok n e a->Region.wanted oi (yielded ops a.tmps)=true)
  (hy:∀a,Ok n e a->(execOp a.eval oi).run P w= .ok .skip w1) (hl:l.setIfInBounds i true=l') (b:Bool) (hn:awB ops pu rd i b=true)
  (h:∀w',D w1 w'->(b=true->H w')/\AN P ops Q pu rd H D f l' n e w'):AW P ops Q pu rd H D f l n e w i:=
 aE1 hi hw hl hn fun a ha=>by
  unfold Oper.wp
  rw[hy a ha,Oper.upon_skip,hd]
  exact fun w' hw'=>⟨(h w' hw').1,(h w' hw').2 _ (ha.aFl _)⟩
theorem Vx {i d:Nat} {oi:Oper} {g:FuncId} {args:Array Value} {K:Value->World->Prop} (hi:ops[i]? =some oi) (hd:oi.dst=some d) (hlt:Nat.blt d n=true) (hw:∀a,Ok n e a->Region.wanted oi (yielded ops a.tmps)=true)
  (hy:∀a,Ok n e a->(execOp a.eval oi).run P w= .ok (.enter g args) w) (hl:l.setIfInBounds i true=l') (b:Bool) (hn:awB ops pu rd i b=true)
  (hc:Calls P g args w (cO K)) (h:∀v w1,K v w1->∀w',D w1 w'->(b=true->H w')/\AN P ops Q pu rd H D f l' n ((d,v)::e) w'):AW P ops Q pu rd H D f l n e w i:=
 aE1 hi hw hl hn fun a ha=>by
  unfold Oper.wp
  rw[hy a ha,Oper.upon_enter,hd]
  refine hc.mono fun x w1 ⟨v,hx,hk⟩=> ?_
  subst hx
  exact fun w' hw'=>⟨(h v w1 hk w' hw').1,(h v w1 hk w' hw').2 _ (ha.put hlt v)⟩
theorem aCr {i d:Nat} {oi:Oper} (hi:ops[i]? =some oi) (hd:oi.dst=some d) (hlt:Nat.blt d n=true) (hw:∀a,Ok n e a->Region.wanted oi (yielded ops a.tmps)=false) (hl:l.setIfInBounds i true=l') (b:Bool) (hn:awB ops pu rd i b=true)
  (h:∀w',D w w'->(b=true->H w')/\AN P ops Q pu rd H D f l' n ((d,undef)::e) w'):AW P ops Q pu rd H D f l n e w i:=fun a ha=>by
 subst hl
 simp only[awB,Bool.and_eq_true,Bool.not_eq_true',beq_iff_eq] at hn
 unfold wpOp
 simp only[hi]
 rw[if_neg (by rw[hw a ha];simp),hd]
 exact⟨fun hp=>(by rw[hn.1] at hp;cases hp),fun w' hw'=>⟨fun hq=>(h w' hw').1 (by rw[<-hn.2];exact hq),(h w' hw').2 _ (ha.put hlt undef)⟩⟩
end
structure New (w:World) (o:Obj) (p:Addr) (w':World):Prop where
 at_:p=⟨w.heap.size,0,none⟩
 is:w'=w.alloc o
structure aAe (w:World) (m:Nat) (w':World):Prop where
 at_:m=w.heap.size
 is:w'=w.alloc (.map #[] 0)
theorem aO.cells {w w':World} (h:aO w w') {p:Addr} {vs:List Value} (k:bG w p vs):bG w' p vs:=fun j v hv=>(h.cell _).trans (k j v hv)
structure Keep (X:Nat->Prop) (w w':World):Prop where
 size:w.heap.size<=w'.heap.size
 os:w'.os=w.os
 tape:w'.tape=w.tape
 output:w'.output=w.output
 block:∀b,b<w.heap.size->¬X b->w'.heap[b]? =w.heap[b]?
theorem Keep.refl (X:Nat->Prop) (w:World):Keep X w w:=⟨Nat.le_refl _,rfl,rfl,rfl,fun _ _ _=>rfl⟩
theorem Keep.trans {X:Nat->Prop} {a b c:World} (h:Keep X a b) (k:Keep X b c):Keep X a c:=
 ⟨Nat.le_trans h.size k.size,k.os.trans h.os,k.tape.trans h.tape,k.output.trans h.output,fun i hi hx=>(k.block i (Nat.lt_of_lt_of_le hi h.size) hx).trans (h.block i hi hx)⟩
theorem Keep.drawn {X:Nat->Prop} {a b c:World} (h:Keep X a b) (k:aO b c):Keep X a c:=
 ⟨by rw[k.heap];exact h.size,k.os.trans h.os,k.tape.trans h.tape,k.output.trans h.output,fun i hi hx=>by rw[k.heap];exact h.block i hi hx⟩
theorem Keep.mono {X Y:Nat->Prop} {a b:World} (h:Keep X a b) (k:∀i,i<a.heap.size->X i->Y i):Keep Y a b:=
 ⟨h.size,h.os,h.tape,h.output,fun i hi hy=>h.block i hi fun hx=>hy (k i hi hx)⟩
theorem Keep.cell {X:Nat->Prop} {w w':World} (h:Keep X w w') {p:Addr} {v:Value} (k:w.cell? p=some v/\¬X p.block):w'.cell? p=some v:=
 (World.cell?_of_block (h.block p.block (World.block_lt_of_cell? w p k.1) k.2)).trans k.1
theorem Keep.cells {X:Nat->Prop} {w w':World} (h:Keep X w w') {p:Addr} {vs:List Value} (k:bG w p vs/\¬X p.block):bG w' p vs:=fun j v hv=>
 h.cell ⟨k.1 j v hv,by
  have:(p.add j).block=p.block:=by(unfold Addr.add;split<;>rfl)
  rw[this];exact k.2⟩
theorem Keep.alloc {X:Nat->Prop} {a b:World} (h:Keep X a b) (o:Obj):Keep X a (b.alloc o):=
 h.trans ⟨by simp,rfl,rfl,rfl,fun i hi _=>heap_alloc_old b o i hi⟩
theorem Keep.new {X:Nat->Prop} {a b c:World} {o:Obj} {p:Addr} (h:Keep X a b) (k:New b o p c):Keep X a c:=by rw[k.is];exact h.alloc o
theorem Keep.aO0 {X:Nat->Prop} {a b c:World} {m:Nat} (h:Keep X a b) (k:aAe b m c):Keep X a c:=by rw[k.is];exact h.alloc _
theorem Keep.aK {X:Nat->Prop} {a b:World} (h:aO a b):Keep X a b:=Keep.drawn (Keep.refl X a) h
theorem tf (b:Bool):b=true\/b=false:=by cases b<;>simp
section
variable {P:Program} {w w':World} {ρ:Operand->Value} {d:Option Tmp} {ty:TypeId} {pos:String} {af:Array Edge} {g:Option (Nat×Bool)} {u v:Value} {x y z:Operand} {o:Oper}
theorem o_t {p:Prop} [Decidable p] (hr:(execOp ρ o).run P w= .ok (.value (.bool (decide p))) w') (h:p):(execOp ρ o).run P w= .ok (.value (.bool true)) w':=by rw[hr,decide_eq_true h]
theorem o_f {p:Prop} [Decidable p] (hr:(execOp ρ o).run P w= .ok (.value (.bool (decide p))) w') (h:¬p):(execOp ρ o).run P w= .ok (.value (.bool false)) w':=by rw[hr,decide_eq_false h]
theorem aGb {b:Bool} (hr:(execOp ρ o).run P w= .ok (.value (.bool b)) w') (h:b=true):(execOp ρ o).run P w= .ok (.value (.bool true)) w':=by rw[hr,h]
theorem aGk {b:Bool} (hr:(execOp ρ o).run P w= .ok (.value (.bool b)) w') (h:b=false):(execOp ρ o).run P w= .ok (.value (.bool false)) w':=by rw[hr,h]
theorem nD {f:FuncId} {xs:List Operand} {ts:Array TypeId} {vs:List Value} (hf:ρ x= .func (.func f) #[] #[]) (ha:xs.map ρ=vs) (hc:callable P f=true):
  (execOp ρ ⟨d,.call ⟨.value x,xs.toArray,ts⟩,ty,pos,af,g⟩).run P w= .ok (.enter f vs.toArray) w:=by
 have:=aNk (P:=P) (w:=w) (d:=d) (ty:=ty) (pos:=pos) (af:=af) (g:=g) (ts:=ts) hf ha hc
 simpa using this
theorem aOu {f:FuncId} {xs:List Operand} {ts:Array TypeId} {vs cs xs':List Value} (hf:ρ x= .func (.func f) #[] cs.toArray) (ha:xs.map ρ=vs) (he:vs++cs=xs') (hc:callable P f=true):
  (execOp ρ ⟨d,.call ⟨.value x,xs.toArray,ts⟩,ty,pos,af,g⟩).run P w= .ok (.enter f xs'.toArray) w:=by
 have:=aNk (P:=P) (w:=w) (d:=d) (ty:=ty) (pos:=pos) (af:=af) (g:=g) (ts:=ts) hf ha hc
 rw[this,<-he]
 simp
theorem aFa {f:FuncId} {xs:List Operand} {ts:Array TypeId} {vs cs:List Value} (hf:ρ x= .func (.func f) #[] cs.toArray) (ha:xs.map ρ=vs) (hc:callable P f=true):
  (execOp ρ ⟨d,.call ⟨.value x,xs.toArray,ts⟩,ty,pos,af,g⟩).run P w= .ok (.enter f (vs++cs).toArray) w:=aOu hf ha rfl hc
theorem yP {a:Operand} {v:Value} (h:ρ a=v):Option.map ρ (some a)=some v:=by simp[h]
theorem dY {ts:Array TypeId} {vs:Array Value} {cs:Array Bool} (h:(Builtin.append_ ts ty vs).run P w= .ok u w'):(builtin .append ts ty cs vs).run P w= .ok (.value u) w':=by simp[builtin,h]
theorem aMk {ts:Array TypeId} {vs:Array Value} {cs:Array Bool} (h:(Builtin.delete_ ts ty vs).run P w= .ok u w'):(builtin .delete ts ty cs vs).run P w= .ok (.value u) w':=by simp[builtin,h]
theorem Fa {t:TypeId}:(Instr.makeMap t none).run P w= .ok (.map (some w.heap.size)) (w.alloc (.map #[] 0)):=by simp[Instr.makeMap]
variable {A:Option Addr} {n c s:Nat} {t e:TypeId} {i j:Int} {k k':IntKind}
theorem xI (ht:iV P t=some e) (hs:wO P e=some s) (h0:0<=i) (h1:i<=c):(Instr.sliceAt t (.slice A n c) none (some (.int k i)) none).run P w= .ok (.slice A i.toNat c) w:=by
 have:=aLq (P:=P) (w:=w) (A:=A) ht hs (aR8 (P:=P) (w:=w) (n:=n) (k:=k) h0 h1)
 have e1:Jl A c 0 s=A:=by unfold Jl;split<;>simp[Addr.add]
 simpa [e1] using this
theorem aG3 (ht:iV P t=some e) (hs:wO P e=some s) (h0:0<=i) (h1:i<=n):(Instr.sliceAt t (.slice A n c) (some (.int k i)) none none).run P w= .ok (.slice (Jl A c i.toNat s) (n-i.toNat) (c-i.toNat)) w:=
 aLq ht hs (aSh h0 h1)
theorem aNe {m:Int} {k'':IntKind} (ht:iV P t=some e) (hs:wO P e=some s) (h0:0<=i) (h1:i<=m) (h2:m<=c):(Instr.sliceAt t (.slice A n c) none (some (.int k i)) (some (.int k'' m))).run P w= .ok (.slice (Jl A m.toNat 0 s) i.toNat m.toNat) w:=by
 have hb:(Instr.sliceBounds true n c none (some (.int k i)) (some (.int k'' m))).run P w= .ok (0,i.toNat,m.toNat) w:=by
  simp[Instr.sliceBounds,aE6 (P:=P) (w:=w) (show 0<=m by omega) h2,aE6 (P:=P) (w:=w) h0 (show i<=(m.toNat:Int) by omega)]
 simp[Instr.sliceAt,Instr.slice,underlying,lW ht,Xg hs,hb,Jl]
theorem aR3 {ts:Array TypeId} {cs:Array Bool}:(builtin .min ts ty cs #[.int k i,.int k j]).run P w= .ok (.value (.int k (if j<i then j else i))) w:=by
 simp[builtin,Builtin.min_,Builtin.min2]
theorem aGy {a b:Bool} (m:Nat) (ht:P.underlying t=some .bool):(Op.equalIn (m+1) t (.bool a) (.bool b)).run P w= .ok (a==b) w:=by simp[Op.equalIn,underlying,ht]
theorem aOh {p:Option Addr} (m:Nat) (ht:∃e,P.underlying t=some (.pointer e)):(Op.equalIn (m+1) t (.pointer p) (.pointer none)).run P w= .ok p.isNone w:=by
 obtain⟨e,ht⟩:=ht
 cases p<;>simp[Op.equalIn,underlying,ht]
theorem aKi (m:Nat) (ht:iV P t=some e):(Op.equalIn (m+1) t (.slice A n c) (.slice none 0 0)).run P w= .ok A.isNone w:=by
 cases A<;>simp[Op.equalIn,underlying,lW ht]
theorem aKb {a b:Value} {r:Bool} (hb:binOp .eql t a b=do pure (.bool (<-Op.equal t a b))) (h:∀m,(Op.equalIn (m+1) t a b).run P w= .ok r w) (hg:(eqGuard .eql t x y a b).run P w= .ok () w):
  (do eqGuard .eql t x y a b;binOp .eql t a b:Sem Value).run P w= .ok (.bool r) w:=eqg hg (by
 rw[hb,Sem.run_bind]
 show((Op.equalIn (9999+1) t a b).run P w).andThen _=_
 rw[h];rfl)
theorem aRc {a b:Value} {r:Bool} (hb:binOp .neq t a b=do pure (.bool (!(<-Op.equal t a b)))) (h:∀m,(Op.equalIn (m+1) t a b).run P w= .ok r w) (hg:(eqGuard .neq t x y a b).run P w= .ok () w):
  (do eqGuard .neq t x y a b;binOp .neq t a b:Sem Value).run P w= .ok (.bool (!r)) w:=eqg hg (by
 rw[hb,Sem.run_bind]
 show((Op.equalIn (9999+1) t a b).run P w).andThen _=_
 rw[h];rfl)
theorem aCc {a b:Bool} (ht:P.underlying t=some .bool):(do eqGuard .eql t x y (.bool a) (.bool b);binOp .eql t (.bool a) (.bool b):Sem Value).run P w= .ok (.bool (decide (a=b))) w:=by
 rw[aKb rfl (fun m=>aGy m ht) aMy];cases a<;>cases b<;>rfl
theorem aFo {a b:Bool} (ht:P.underlying t=some .bool):(do eqGuard .neq t x y (.bool a) (.bool b);binOp .neq t (.bool a) (.bool b):Sem Value).run P w= .ok (.bool (decide (a≠b))) w:=by
 rw[aRc rfl (fun m=>aGy m ht) aMy];cases a<;>cases b<;>rfl
theorem Wv {p:Option Addr} (ht:∃e,P.underlying t=some (.pointer e)):(do eqGuard .eql t x y (.pointer p) (.pointer none);binOp .eql t (.pointer p) (.pointer none):Sem Value).run P w= .ok (.bool (decide (p=none))) w:=by
 rw[aKb rfl (fun m=>aOh m ht) aRo];cases p<;>rfl
theorem aIp (ht:iV P t=some e):(do eqGuard .eql t x y (.slice A n c) (.slice none 0 0);binOp .eql t (.slice A n c) (.slice none 0 0):Sem Value).run P w= .ok (.bool (decide (A=none))) w:=by
 rw[aKb rfl (fun m=>aKi m ht) aOw];cases A<;>rfl
end
section
variable {P:Program} {ops:Array Oper} {Q:Exit->Act->World->Prop} {n:Nat} {e:Env} {w:World}
theorem dI {o:Oper} {j s:Nat} {b:Bool} (hg:o.guard=some (j,b)) (hs:(ops[j]?).bind (·.dst)=some s) (hb:look e s=some undef):∀a,Ok n e a->Region.wanted o (yielded ops a.tmps)=false:=fun a ha=>by
 have:=ha.look s _ hb
 simp[Region.wanted,hg,yielded,hs,this,undef]
theorem oO {rest:List Oper} {o:Oper} {w':World} (hd:o.dst=none) (hw:∀a,Ok n e a->Region.wanted o (yielded ops a.tmps)=true)
  (hr:∀a,Ok n e a->(execOp a.eval o).run P w= .ok .skip w') (h:∀w2,w2=w'->SL P ops Q rest n e w2):SL P ops Q (o::rest) n e w:=aL7 hd hw hr (h _ rfl)
theorem mY {pu rd:List Nat} {H:World->Prop} {D:World->World->Prop} {fu:Nat} {l l':Array Bool} {i:Nat} {oi:Oper} {w1:World} (hi:ops[i]? =some oi) (hd:oi.dst=none) (hw:∀a,Ok n e a->Region.wanted oi (yielded ops a.tmps)=true)
  (hy:∀a,Ok n e a->(execOp a.eval oi).run P w= .ok .skip w1) (hl:l.setIfInBounds i true=l') (b:Bool) (hn:awB ops pu rd i b=true)
  (h:∀w2,w2=w1->∀w',D w2 w'->(b=true->H w')/\AN P ops Q pu rd H D fu l' n e w'):AW P ops Q pu rd H D fu l n e w i:=aSj hi hd hw hy hl b hn (h _ rfl)
theorem dJ {pu rd:List Nat} {H:World->Prop} {D:World->World->Prop} {fu:Nat} {l:Array Bool} {w0:World} (hr:Region.ready .any ops l=[]) (hW:aO w0 w) (h:∀w2,aO w0 w2->NX Q .normal n e w2):AN P ops Q pu rd H D fu l n e w:=aO1 hr (h _ hW)
theorem fM {x y:Code} (R:Act->Prop) (hy:∀a,R a->y.wp P Q a w) (h:CW P x (Exit.then (fun a w'=>R a/\w'=w) Q) n e w):CW P (Code.seq x y) Q n e w:=
 fA (fun a w'=>R a/\w'=w) (fun a w' ⟨hR,hw⟩=>by subst hw;exact hy a hR) h
theorem iP {rest:List Oper} {o:Oper} {d:Nat} {f:Addr->Value} {ob:Obj} (hd:o.dst=some d) (hlt:Nat.blt d n=true) (hw:∀a,Ok n e a->Region.wanted o (yielded ops a.tmps)=true)
  (hr:∀a,Ok n e a->(execOp a.eval o).run P w= .ok (.value (f ⟨w.heap.size,0,none⟩)) (w.alloc ob)) (h:∀p w',New w ob p w'->SL P ops Q rest n ((d,f p)::e) w'):SL P ops Q (o::rest) n e w:=
 Uz hd hlt hw hr (h _ _ ⟨rfl,rfl⟩)
theorem aE0 {rest:List Oper} {o:Oper} {d:Nat} (hd:o.dst=some d) (hlt:Nat.blt d n=true) (hw:∀a,Ok n e a->Region.wanted o (yielded ops a.tmps)=true)
  (hr:∀a,Ok n e a->(execOp a.eval o).run P w= .ok (.value (.map (some w.heap.size))) (w.alloc (.map #[] 0))) (h:∀p w',aAe w p w'->SL P ops Q rest n ((d,.map (some p))::e) w'):SL P ops Q (o::rest) n e w:=
 Uz hd hlt hw hr (h _ _ ⟨rfl,rfl⟩)
theorem lS {pu rd:List Nat} {H:World->Prop} {D:World->World->Prop} {fu:Nat} {l l':Array Bool} {i d:Nat} {oi:Oper} {f:Addr->Value} {ob:Obj} (hi:ops[i]? =some oi) (hd:oi.dst=some d) (hlt:Nat.blt d n=true) (hw:∀a,Ok n e a->Region.wanted oi (yielded ops a.tmps)=true)
  (hy:∀a,Ok n e a->(execOp a.eval oi).run P w= .ok (.value (f ⟨w.heap.size,0,none⟩)) (w.alloc ob)) (hl:l.setIfInBounds i true=l') (b:Bool) (hn:awB ops pu rd i b=true)
  (h:∀p w1,New w ob p w1->∀w',D w1 w'->(b=true->H w')/\AN P ops Q pu rd H D fu l' n ((d,f p)::e) w'):AW P ops Q pu rd H D fu l n e w i:=
 Ap hi hd hlt hw hy hl b hn (h _ _ ⟨rfl,rfl⟩)
theorem aC1 {pu rd:List Nat} {H:World->Prop} {D:World->World->Prop} {fu:Nat} {l l':Array Bool} {i d:Nat} {oi:Oper} (hi:ops[i]? =some oi) (hd:oi.dst=some d) (hlt:Nat.blt d n=true) (hw:∀a,Ok n e a->Region.wanted oi (yielded ops a.tmps)=true)
  (hy:∀a,Ok n e a->(execOp a.eval oi).run P w= .ok (.value (.map (some w.heap.size))) (w.alloc (.map #[] 0))) (hl:l.setIfInBounds i true=l') (b:Bool) (hn:awB ops pu rd i b=true)
  (h:∀p w1,aAe w p w1->∀w',D w1 w'->(b=true->H w')/\AN P ops Q pu rd H D fu l' n ((d,.map (some p))::e) w'):AW P ops Q pu rd H D fu l n e w i:=
 Ap hi hd hlt hw hy hl b hn (h _ _ ⟨rfl,rfl⟩)
theorem Au {c:Code} (I:Nat->Act->Prop) (h0:∀a,Ok n e a->∃m,I m a)
  (round:∀m a,I m a->c.wp P (Exit.then (fun a' w'=>∃m',m'<m/\I m' a'/\w'=w) Q) a w):CW P (Code.loop c) Q n e w:=
 fK (fun m a w'=>I m a/\w'=w) (fun a ha=>let ⟨m,hm⟩:=h0 a ha;⟨m,hm,rfl⟩) fun m a w' ⟨hI,hw⟩=>by
  subst hw
  exact round m a hI
theorem bU {id:Nat} {l:Array Bool} (hm:P.follows .mixedOrders=true) (pu rd:List Nat) (sz:Nat) (hs:ops.size=sz) (hl:Array.replicate sz false=l) (hsel:Region.noSelect ops=true)
  (hQ:∀c a d v w,Q (.panic c) (Act.put a d v) w->Q (.panic c) a w)
  (h:Calm P ops Q (aO w) aO->aO w w.drew->aO w w.drew->AN P ops Q pu rd (aO w) aO sz l n e w.drew):CW P (Code.region id ops true) Q n e w:=
 aMr hm pu rd (aO w) aO aO.refl sz hs hl (h ⟨hsel,hQ,aO.refl,fun _ _ _=>aO.trans,fun _ _=>aO.trans⟩ (aO.drew w) (aO.drew w))
theorem iM {id:Nat} {l:Array Bool} (hm:P.follows .mixedOrders=true) (X:Nat->Prop) (pu rd:List Nat) (sz:Nat) (hs:ops.size=sz) (hl:Array.replicate sz false=l) (hsel:Region.noSelect ops=true)
  (hQ:∀c a d v w,Q (.panic c) (Act.put a d v) w->Q (.panic c) a w)
  (h:Calm P ops Q (Keep X w) aO->Keep X w w.drew->aO w w.drew->AN P ops Q pu rd (Keep X w) aO sz l n e w.drew):CW P (Code.region id ops true) Q n e w:=
 aMr hm pu rd (Keep X w) aO aO.refl sz hs hl (h ⟨hsel,hQ,aO.refl,fun _ _ _=>aO.trans,fun _ _=>Keep.drawn⟩ (Keep.drawn (Keep.refl X w) (aO.drew w)) (aO.drew w))
end
end Wk
open Wk
abbrev Ext (w w':World):Prop:=Keep (fun _=>False) w w'
theorem Ext.refl (w:World):Ext w w:=Keep.refl _ w
theorem Ext.cell {w w':World} (h:Ext w w') {p:Addr} {v:Value} (k:w.cell? p=some v):w'.cell? p=some v:=Keep.cell h ⟨k,fun h=>h⟩
theorem Ext.cells {w w':World} (h:Ext w w') {p:Addr} {vs:List Value} (k:bG w p vs):bG w' p vs:=Keep.cells h ⟨k,fun h=>h⟩
theorem Ext.aK {w w':World} (h:aO w w'):Ext w w':=Keep.aK h
theorem Ext.eY {w w':World} {o:Obj} {p:Addr} (h:New w o p w'):Ext w w':=(Keep.refl _ w).new h
theorem Wk.bG.at {w:World} {p:Addr} {vs:List Value} (h:bG w p vs) (j:Nat) {v:Value} (hv:vs[j]? =some v):w.cell? (p.add j)=some v:=h j v hv
theorem Addr.add_add (a:Addr) (i j:Nat):(a.add i).add j=a.add (i+j):=by
 unfold Addr.add
 by_cases hi:i=0<;>by_cases hj:j=0<;>simp[hi,hj,Nat.add_assoc]
theorem Addr.add_zero (a:Addr):a.add 0=a:=by simp[Addr.add]
theorem Addr.add_block (a:Addr) (i:Nat):(a.add i).block=a.block:=by unfold Addr.add;split<;>rfl
theorem Wk.bG.nil {w:World} {p:Addr}:bG w p []:=fun j v h=>by simp at h
section
variable {w w' w'':World} {p:Addr} {cs:Array Value} {T:TypeId}
theorem Wk.New.heap (h:New w (.cells cs T) p w'):w'.heap[p.block]? =some (.cells cs T (0,0)):=by
 rw[h.is,h.at_];exact heap_alloc_new w _
theorem Wk.New.block (h:New w (.cells cs T) p w'):p.block=w.heap.size:=by rw[h.at_]
theorem Wk.New.spot (h:New w (.cells cs T) p w'):p=⟨p.block,0,none⟩:=by rw[h.at_]
theorem Wk.New.size (h:New w (.cells cs T) p w'):w'.heap.size=w.heap.size+1:=by rw[h.is];simp
theorem Wk.New.lt (h:New w (.cells cs T) p w'):p.block<w'.heap.size:=by rw[h.size,h.block];omega
theorem Wk.New.cells (h:New w (.cells cs T) p w') {vs:List Value} (hv:cs.toList=vs):bG w' p vs:=fun j v hj=>by
 have e:p.add j=⟨p.block,j,none⟩:=by rw[h.at_];unfold Addr.add;split<;>simp_all
 rw[e]
 simp only[World.cell?,h.heap]
 subst hv
 simpa using hj
theorem Wk.New.soft (h:New w (.cells cs T) p w') {k:Nat} (hk:cs.size=k):oH w' p k:=fun j hj=>by
 have e:p.add j=⟨p.block,j,none⟩:=by rw[h.at_];unfold Addr.add;split<;>simp_all
 rw[e]
 refine⟨?_,?_⟩
 ·simp only[World.cell?,h.heap]
  have:j<cs.size:=by omega
  simp[this]
 ·simp[World.frozen?,h.heap]
theorem Ll (b:Nat) (T:TypeId) (fz:Nat×Nat):∀(vs:List Value) (i:Nat) (w:World) (cs:Array Value),w.heap[b]? =some (.cells cs T fz)->i+vs.length<=cs.size->
  (dL w ⟨b,0,none⟩ i vs).heap[b]? =some (.cells ((cs.toList.take i++vs++cs.toList.drop (i+vs.length)).toArray) T fz)/\
  ∀k,k≠b->(dL w ⟨b,0,none⟩ i vs).heap[k]? =w.heap[k]?
 |[],i,w,cs,h,hl=>by simp[dL,h]
 |v::vs,i,w,cs,h,hl=>by
  have e:(⟨b,0,none⟩:Addr).add i=⟨b,i,none⟩:=by unfold Addr.add;split<;>simp_all
  have hi:i<cs.size:=by simp at hl;omega
  have h1:(w.setCell ⟨b,i,none⟩ v).heap[b]? =some (.cells (cs.setIfInBounds i v) T fz):=by
   simp[World.setCell,Array.getElem?_modify,h]
  obtain⟨h2,h3⟩:=Ll b T fz vs (i+1) (w.setCell ⟨b,i,none⟩ v) (cs.setIfInBounds i v) h1 (by simp at hl⊢;omega)
  refine⟨?_,fun k hk=> ?_⟩
  ·simp only[dL,e,h2]
   refine congrArg (fun l=>some (Obj.cells (List.toArray l) T fz)) ?_
   apply List.ext_getElem?
   intro j
   simp only[Array.toList_setIfInBounds,List.getElem?_append,List.length_append,List.length_take,List.length_set,List.getElem?_take,List.getElem?_drop,List.length_cons,List.getElem?_set,List.getElem?_cons,Array.length_toList]
   rcases Nat.lt_trichotomy j i with h4|h4|h4
   ·simp[show j<min (i+1) cs.size+vs.length by omega,show j<min (i+1) cs.size by omega,show j<i+1 by omega,show i≠j by omega,show j<min i cs.size+(vs.length+1) by omega,show j<min i cs.size by omega,h4]
   ·subst h4
    simp[show j<min (j+1) cs.size+vs.length by omega,show j<min (j+1) cs.size by omega,show j<min j cs.size+(vs.length+1) by omega,show¬j<min j cs.size by omega,show j-min j cs.size=0 by omega,hi]
   ·rcases Nat.lt_or_ge j (i+1+vs.length) with h5|h5
    ·simp[show j<min (i+1) cs.size+vs.length by omega,show¬j<min (i+1) cs.size by omega,show j<min i cs.size+(vs.length+1) by omega,show¬j<min i cs.size by omega,show j-min i cs.size≠0 by omega,show j-min (i+1) cs.size=j-min i cs.size-1 by omega]
    ·simp[show¬j<min (i+1) cs.size+vs.length by omega,show¬j<min i cs.size+(vs.length+1) by omega,show i≠i+1+vs.length+(j-(min (i+1) cs.size+vs.length)) by omega,show i+1+vs.length+(j-(min (i+1) cs.size+vs.length))=i+(vs.length+1)+(j-(min i cs.size+(vs.length+1))) by omega]
     intro h6;omega
  ·simp only[dL,e]
   rw[h3 k hk]
   simp only[World.setCell,Array.getElem?_modify]
   rw[if_neg (by simpa using fun h=>hk h.symm)]
theorem Le (p:Addr):∀(vs:List Value) (i:Nat) (w:World),(dL w p i vs).os=w.os/\(dL w p i vs).tape=w.tape/\(dL w p i vs).output=w.output/\(dL w p i vs).drawn=w.drawn/\(dL w p i vs).heap.size=w.heap.size
 |[],i,w=>⟨rfl,rfl,rfl,rfl,rfl⟩
 |v::vs,i,w=>by
  obtain⟨h1,h2,h3,h4,h5⟩:=Le p vs (i+1) (w.setCell (p.add i) v)
  exact⟨h1,h2,h3,h4,by simp only[dL];rw[h5];simp[World.setCell]⟩
theorem Wk.New.store (h:New w (.cells cs T) p w') {vs:List Value} (hw:w''=cZ w' p vs) (hl:cs.size=vs.length):New w (.cells vs.toArray T) p w'':=by
 refine⟨h.at_,?_⟩
 subst hw
 have hp:=h.spot
 obtain⟨h1,h2⟩:=Ll p.block T (0,0) vs 0 w' cs h.heap (by omega)
 obtain⟨r1,r2,r3,r4,r5⟩:=Le p vs 0 w'
 have hb:=h.block
 have e:cZ w' p vs=dL w' ⟨p.block,0,none⟩ 0 vs:=by unfold cZ;rw[<-hp]
 have hh:(cZ w' p vs).heap=(w.alloc (.cells vs.toArray T)).heap:=by
  apply Array.ext_getElem?
  intro k
  rw[e]
  by_cases hk:k=p.block
  ·subst hk
   rw[h1,hb,heap_alloc_new]
   simp[hl,show∀(l:List Value),l.length=vs.length->l.drop vs.length=[] from fun l hl=>List.drop_eq_nil_of_le (by omega)]
  ·rw[h2 k hk,h.is]
   simp only[World.alloc,Array.getElem?_push]
   rw[if_neg (by omega),if_neg (by omega)]
 have e1:(cZ w' p vs).os=w.os:=by show(dL w' p 0 vs).os=_;rw[r1,h.is];rfl
 have e2:(cZ w' p vs).tape=w.tape:=by show(dL w' p 0 vs).tape=_;rw[r2,h.is];rfl
 have e3:(cZ w' p vs).output=w.output:=by show(dL w' p 0 vs).output=_;rw[r3,h.is];rfl
 have e4:(cZ w' p vs).drawn=w.drawn:=by show(dL w' p 0 vs).drawn=_;rw[r4,h.is];rfl
 generalize cZ w' p vs=z at*
 cases z;cases w
 simp only[World.alloc] at*
 simp_all
end
theorem iQ {w w':World} {p:Addr} {vs:List Value} (hw:w'=cZ w p vs):Keep (fun b=>b=p.block) w w':=by
 subst hw
 obtain⟨r1,r2,r3,r4,r5⟩:=Le p vs 0 w
 refine⟨Nat.le_of_eq r5.symm,r1,r2,r3,fun b hb hne=> ?_⟩
 have:∀(vs:List Value) (i:Nat) (w:World),(dL w p i vs).heap[b]? =w.heap[b]? :=by
  intro vs
  induction vs with
  |nil=>intro i w;rfl
  |cons v vs ih=>
   intro i w
   simp only[dL]
   rw[ih]
   simp only[World.setCell,Array.getElem?_modify]
   rw[if_neg (by rw[Addr.add_block];exact fun h=>hne h.symm)]
 exact this vs 0 w
theorem Wk.Keep.set {X:Nat->Prop} {a b c:World} {p:Addr} {vs:List Value} (h:Keep X a b) (hw:c=cZ b p vs) (hp:a.heap.size<=p.block\/X p.block):Keep X a c:=by
 have k:=iQ hw
 refine⟨Nat.le_trans h.size k.size,k.os.trans h.os,k.tape.trans h.tape,k.output.trans h.output,fun i hi hx=> ?_⟩
 refine(k.block i (Nat.lt_of_lt_of_le hi h.size) fun e=> ?_).trans (h.block i hi hx)
 subst e
 rcases hp with hp|hp
 ·omega
 ·exact hx hp
theorem jE {w w':World} {p:Addr} {v:Value} (hw:w'=w.setCell p v):Keep (fun b=>b=p.block) w w':=by
 subst hw
 refine⟨by simp[World.setCell],rfl,rfl,rfl,fun b hb hne=> ?_⟩
 simp only[World.setCell,Array.getElem?_modify]
 rw[if_neg (fun h=>hne h.symm)]
theorem Wk.Keep.set1 {X:Nat->Prop} {a b c:World} {p:Addr} {v:Value} (h:Keep X a b) (hw:c=b.setCell p v) (hp:a.heap.size<=p.block\/X p.block):Keep X a c:=by
 have k:=jE hw
 refine⟨Nat.le_trans h.size k.size,k.os.trans h.os,k.tape.trans h.tape,k.output.trans h.output,fun i hi hx=> ?_⟩
 refine(k.block i (Nat.lt_of_lt_of_le hi h.size) fun e=> ?_).trans (h.block i hi hx)
 subst e
 rcases hp with hp|hp
 ·omega
 ·exact hx hp
theorem aO6 {w:World} {p:Addr} {k:Nat} (h:oH w p k) (hk:0<k):p.block<w.heap.size:=by
 obtain⟨u,hu⟩:=Option.isSome_iff_exists.1 (h 0 hk).1
 rw[Addr.add_zero] at hu
 exact World.block_lt_of_cell? w p hu
theorem zF {w w':World} {p:Addr} {vs:List Value} (hw:w'=cZ w p vs) (hs:oH w p vs.length):bG w' p vs:=by
 subst hw
 have key:∀(vs:List Value) (i:Nat) (w:World),(∀j,j<vs.length->(w.cell? (p.add (i+j))).isSome=true)->
   (∀j v,vs[j]? =some v->(dL w p i vs).cell? (p.add (i+j))=some v)/\∀q,(∀j,j<vs.length->p.add (i+j)≠q)->(dL w p i vs).cell? q=w.cell? q:=by
  intro vs
  induction vs with
  |nil=>intro i w _;exact⟨fun j v h=>by simp at h,fun q _=>rfl⟩
  |cons v vs ih=>
   intro i w hs
   have h0:=hs 0 (by simp)
   simp only[Nat.add_zero] at h0
   obtain⟨u,hu⟩:=Option.isSome_iff_exists.1 h0
   have inj:∀j k,j<(v::vs).length->k<(v::vs).length->p.add (i+j)=p.add (i+k)->j=k:=by
    intro j k hj hk he
    obtain⟨x,hx⟩:=Option.isSome_iff_exists.1 (hs j hj)
    obtain⟨y,hy⟩:=Option.isSome_iff_exists.1 (hs k hk)
    have off:∀n,(p.add n).off=p.off+n:=fun n=>by
     unfold Addr.add
     split
     ·rename_i h0;rw[h0,Nat.add_zero]
     ·rfl
    have hpx:(p.add (i+j)).off=(p.add (i+k)).off:=by rw[he]
    rw[off,off] at hpx
    omega
   obtain⟨h1,h2⟩:=ih (i+1) (w.setCell (p.add i) v) (fun j hj=>by
    have h3:=hs (j+1) (by simp;omega)
    rw[show i+1+j=i+(j+1) by omega]
    by_cases he:p.add i=p.add (i+(j+1))
    ·rw[<-he,World.cell?_setCell_same w _ v hu];rfl
    ·rw[World.cell?_setCell_other w _ _ v he];exact h3)
   refine⟨fun j x hx=> ?_,fun q hq=> ?_⟩
   ·cases j with
    |zero=>
     simp at hx;subst hx
     simp only[dL,Nat.add_zero]
     rw[h2 (p.add i) (fun j hj he=>by have:=inj (j+1) 0 (by simp;omega) (by simp) (by rw[show i+(j+1)=i+1+j by omega];simpa using he);omega)]
     exact World.cell?_setCell_same w _ v hu
    |succ j=>
     have:=h1 j x (by simpa using hx)
     rwa [show i+1+j=i+(j+1) by omega] at this
   ·simp only[dL]
    rw[h2 q (fun j hj=>by have:=hq (j+1) (by simp;omega);rwa [show i+(j+1)=i+1+j by omega] at this)]
    exact World.cell?_setCell_other w _ _ v (by have:=hq 0 (by simp);simpa using this)
 intro j v hv
 have:=(key vs 0 w (fun j hj=>by simpa using (hs j hj).1)).1 j v hv
 simpa [cZ] using this
theorem Wk.Keep.soft {X:Nat->Prop} {w w':World} (h:Keep X w w') {p:Addr} {k:Nat} (hs:oH w p k) (hp:¬X p.block):oH w' p k:=fun j hj=>by
 obtain⟨h1,h2⟩:=hs j hj
 obtain⟨u,hu⟩:=Option.isSome_iff_exists.1 h1
 have hb:=h.block (p.add j).block (World.block_lt_of_cell? w _ hu) (by rw[Addr.add_block];exact hp)
 exact⟨by rw[World.cell?_of_block hb];exact h1,(World.frozen?_of_block hb).trans h2⟩
theorem Wk.Keep.own {X:Nat->Prop} {w w':World} (h:Keep X w w') {p:Addr} {vs:List Value} (k:bG w p vs) (hp:¬X p.block):bG w' p vs:=h.cells ⟨k,hp⟩
theorem aKw {wa wb wc wd we wf:World} {T S:TypeId} {cs ds:Array Value} {p q:Addr} (h1:aO wa wb) (h2:New wb (.cells cs T) p wc) (h3:aO wc wd) (h4:New wd (.cells ds S) q we) (h5:aO we wf):
  Ext wa wf/\oH wf p cs.size/\oH wf q ds.size/\p.block≠q.block/\wa.heap.size<=p.block/\wa.heap.size<=q.block:=by
 have e1:=h2.block
 have e2:=h4.block
 have e3:=h2.lt
 have e4:wd.heap.size=wc.heap.size:=by rw[h3.heap]
 have e5:wb.heap.size=wa.heap.size:=by rw[h1.heap]
 refine⟨((((Ext.aK h1).new h2).drawn h3).new h4).drawn h5,?_,?_,by omega,by omega,by omega⟩
 ·exact(((Ext.aK h3).new h4).drawn h5).soft (h2.soft rfl) (fun h=>h)
 ·exact(Ext.aK h5).soft (h4.soft rfl) (fun h=>h)
theorem aK6 {wa wf wg wh:World} {p q:Addr} {us vs:List Value} (hE:Ext wa wf) (hp:oH wf p us.length) (hq:oH wf q vs.length) (hne:p.block≠q.block) (p0:wa.heap.size<=p.block) (q0:wa.heap.size<=q.block)
  (h1:wg=cZ wf p us) (h2:aO wg wh):Ext wa wg/\oH wh q vs.length/\∀wi,wi=cZ wh q vs->∀wj,aO wi wj->Ext wa wj/\bG wj p us/\bG wj q vs:=by
 have k1:=iQ h1
 have E1:Ext wa wg:=hE.set h1 (.inl p0)
 have s1:oH wh q vs.length:=(k1.drawn h2).soft hq (fun h=>hne h.symm)
 refine⟨E1,s1,fun wi h3 wj h4=> ?_⟩
 have k2:=iQ h3
 refine⟨((E1.drawn h2).set h3 (.inl q0)).drawn h4,?_,?_⟩
 ·exact(Ext.aK h4).cells (k2.own ((Ext.aK h2).cells (zF h1 hp)) hne)
 ·exact(Ext.aK h4).cells (zF h3 s1)
noncomputable def dec (p:Prop):Bool:= @decide p (Classical.propDecidable p)
theorem aE3 {p:Prop}:dec p=true↔p:=by unfold dec;exact @decide_eq_true_iff p (Classical.propDecidable p)
theorem aM4 {b:Bool} {p:Prop} (h:b=true↔p):b=dec p:=by
 cases hb:dec p with
 |true=>exact h.2 (aE3.1 hb)
 |false=>cases b with
  |false=>rfl
  |true=>rw[aE3.2 (h.1 rfl)] at hb;cases hb
def Quiet (P:Program) (f:FuncId) (args:Array Value) (w:World) (v:Value):Prop:=Calls P f args w fun x w'=>x= .returned v/\aO w w'
theorem Quiet.of {P:Program} {f:FuncId} {args:Array Value} {w:World} {v:Value} (h:Calls P f args w (cO fun u w'=>u=v/\aO w w')):Quiet P f args w v:=
 h.mono fun x w' ⟨u,hx,hu,hd⟩=>⟨by rw[hx,hu],hd⟩
theorem Quiet.use {P:Program} {f:FuncId} {args:Array Value} {w:World} {v:Value} {K:Value->World->Prop} (h:Quiet P f args w v) (k:∀w',aO w w'->K v w'):Calls P f args w (cO K):=
 h.mono fun x w' ⟨hx,hd⟩=>⟨v,hx,k w' hd⟩
structure Cod (α:Type) where
 size:Nat
 rd:World->List Value->α->Prop
 keep:∀{w w':World} {vs:List Value} {x:α},(∀p v,w.cell? p=some v->w'.cell? p=some v)->rd w vs x->rd w' vs x
def Sl {α:Type} (c:Cod α) (w:World) (A:Option Addr) (n:Nat) (xs:List α):Prop:=
 xs.length=n/\∀i x,xs[i]? =some x->∃ad vs,A=some ad/\vs.length=c.size/\bG w (ad.add (i*c.size)) vs/\c.rd w vs x
theorem Sl.keep {α:Type} {c:Cod α} {w w':World} {A:Option Addr} {n:Nat} {xs:List α} (h:Sl c w A n xs) (k:∀p v,w.cell? p=some v->w'.cell? p=some v):Sl c w' A n xs:=
 ⟨h.1,fun i x hx=>let ⟨ad,vs,h1,h2,h3,h4⟩:=h.2 i x hx;⟨ad,vs,h1,h2,fun j v hv=>k _ _ (h3 j v hv),c.keep k h4⟩⟩
theorem Sl.ext {α:Type} {c:Cod α} {w w':World} {A:Option Addr} {n:Nat} {xs:List α} (h:Sl c w A n xs) (k:Ext w w'):Sl c w' A n xs:=h.keep fun _ _=>k.cell
theorem Sl.at {α:Type} {c:Cod α} {w:World} {A:Option Addr} {n:Nat} {xs:List α} (h:Sl c w A n xs) {i:Int} (h0:0<=i) (h1:i<n):
  ∃x ad vs,xs[i.toNat]? =some x/\A=some ad/\vs.length=c.size/\bG w (ad.add (i.toNat*c.size)) vs/\c.rd w vs x:=by
 have hi:i.toNat<xs.length:=by rw[h.1];omega
 obtain⟨ad,vs,h2⟩:=h.2 i.toNat xs[i.toNat] (List.getElem?_eq_getElem hi)
 exact⟨_,ad,vs,List.getElem?_eq_getElem hi,h2⟩
theorem Sl.nil {α:Type} (c:Cod α) (w:World) (A:Option Addr):Sl c w A 0 []:=⟨rfl,fun i x hx=>by simp at hx⟩
theorem Sl.take {α:Type} {c:Cod α} {w:World} {A:Option Addr} {n:Nat} {xs:List α} (h:Sl c w A n xs) {k:Nat} (hk:k<=n):Sl c w A k (xs.take k):=
 ⟨by rw[List.length_take,h.1];omega,fun i x hx=>h.2 i x (by rw[List.getElem?_take] at hx;split at hx;exact hx;cases hx)⟩
def aEq (k:IntKind):Cod Int:=⟨1,fun _ vs x=>vs=[.int k x],fun _ h=>h⟩
abbrev Ints:=Sl (aEq .i64)
theorem Sl.int {k:IntKind} {w:World} {A:Option Addr} {n:Nat} {xs:List Int} (h:Sl (aEq k) w A n xs) {i:Int} (h0:0<=i) (h1:i<n):
  ∃x ad,xs[i.toNat]? =some x/\A=some ad/\w.cell? (ad.add (i.toNat*1))=some (.int k x):=by
 obtain⟨x,ad,vs,hx,hA,hl,hc,hr⟩:=h.at h0 h1
 have:vs=[.int k x]:=hr
 subst this
 exact⟨x,ad,hx,hA,by simpa [aEq,Addr.add_zero] using hc 0 _ rfl⟩
theorem wrap_small {i:Int} (h0: -9223372036854775808<=i) (h1:i<=9223372036854775807):IntKind.wrap .i64 i=i:=by
 simp only[IntKind.wrap,IntKind.bits,IntKind.signed]
 simp
 omega
theorem Wk.Keep.over {X Y:Nat->Prop} {a b c:World} (h:Keep X a b) (k:Keep Y b c) (hY:∀i,i<a.heap.size->Y i->X i):Keep X a c:=
 ⟨Nat.le_trans h.size k.size,k.os.trans h.os,k.tape.trans h.tape,k.output.trans h.output,fun i hi hx=>(k.block i (Nat.lt_of_lt_of_le hi h.size) (fun hy=>hx (hY i hi hy))).trans (h.block i hi hx)⟩
def wP (P:Program) (t:TypeId):Option (Nat×Nat×Nat):=(P.info? t).bind fun i=>i.zero.map fun z=>(i.size,i.bytes,z.cells.size)
def Own (w:World) (base:Nat) (e:TypeId) (s:Nat) (A:Option Addr) (n c:Nat) (vs:List Value):Prop:=w.ownsRow base e s (.slice A n c) n vs
def At (A:Option Addr) (b:Nat):Prop:=∃a,A=some a/\a.block=b
theorem Own.nil (w:World) (base:Nat) (e:TypeId) (s:Nat):Own w base e s none 0 0 []:=World.ownsRow_nil w base e s
theorem Own.at {w:World} {base:Nat} {e:TypeId} {s:Nat} {A:Option Addr} {n c:Nat} {vs:List Value} (h:Own w base e s A n c vs) {b:Nat} (hb:At A b):base<=b/\b<w.heap.size:=by
 obtain⟨a,rfl,rfl⟩:=hb
 exact World.ownsRow.lt h _ rfl
theorem Own.keep {X:Nat->Prop} {w w':World} {base:Nat} {e:TypeId} {s:Nat} {A:Option Addr} {n c:Nat} {vs:List Value} (h:Own w base e s A n c vs) (k:Keep X w w') (hx:∀b,At A b->¬X b):Own w' base e s A n c vs:=by
 refine⟨h.1,?_⟩
 rcases h.2 with hn|⟨g,cap,cur,hv,hb,hg,hr⟩
 ·exact .inl hn
 ·refine .inr ⟨g,cap,cur,hv,hb,?_,hr⟩
  have hA:At A g:=by
   injection hv with h1 _ _
   exact⟨_,h1,rfl⟩
  rw[k.block g (Own.at h hA).2 (hx g hA),hg]
theorem Own.cells {w:World} {base:Nat} {e:TypeId} {s:Nat} {A:Option Addr} {n c:Nat} {vs:List Value} (h:Own w base e s A n c vs):vs=[]\/∃a,A=some a/\bG w a vs:=by
 rcases h.2 with hn|⟨g,cap,cur,hv,hb,hg,hr⟩
 ·left
  have:=h.1
  rw[hn.2] at this
  exact List.length_eq_zero_iff.1 (by simpa using this)
 ·right
  injection hv with h1 _ _
  subst h1
  exact⟨_,rfl,fun j v hj=>World.ownsRow.cells h rfl j v hj⟩
theorem Own.aHm {P:Program} {w:World} {base:Nat} {t ty e:TypeId} {s by_:Nat} {A:Option Addr} {n c m c2:Nat} {vs news:List Value} {a:Addr} (h:Own w base e s A n c vs) (ht:iV P t=some e) (hi:wP P e=some (s,by_,s)) (hs:0<s)
  (hl:news.length=m*s) (hc:bG w a news) (h1:∀u∈news,u.oneCell'=true) (hby:(n+m)*by_<=140737488355328) (hn:n+m<=140737488355328) (hb:base<=w.heap.size):
  ∃A' c' w',(Builtin.append_ #[t,t] ty #[.slice A n c,.slice (some a) m c2]).run P w= .ok (.slice A' (n+m) c') w'/\Own w' base e s A' (n+m) c' (vs++news)/\Keep (At A) w w'/\∀b,At A' b->At A b\/w.heap.size<=b:=by
 unfold wP at hi
 obtain⟨i,hi1,hi2⟩:=Option.bind_eq_some_iff.1 hi
 obtain⟨z,hz,hq⟩:=Option.map_eq_some_iff.1 hi2
 injection hq with q1 q2
 injection q2 with q2 q3
 obtain⟨v',w',hr,ho,hg,_⟩:=run_append_own (P:=P) w base t ty e i z s by_ (lW ht) hi1 hz q1 q2 q3 hs (.slice A n c) n vs h a m c2 news hl hc h1 (by simp only[maxLen];omega) hby hb
 have hv:∃A' c',v'= .slice A' (n+m) c':=by
  rcases ho.2 with⟨rfl,h0⟩|⟨g,cap,cur,rfl,_⟩
  ·exact⟨none,0,by rw[h0]⟩
  ·exact⟨_,_,rfl⟩
 obtain⟨A',c',rfl⟩:=hv
 refine⟨A',c',w',hr,ho,⟨hg.size,hg.os,hg.tape,hg.output,fun b hb hx=>hg.block b hb fun he=>hx ?_⟩,?_⟩
 ·cases A with
  |none=>simp[Value.ownBlock] at he
  |some a=>simp[Value.ownBlock] at he;exact⟨a,rfl,he.symm⟩
 ·rintro b ⟨a',rfl,rfl⟩
  have eqn:∀{x:Addr} {k l:Nat} {w2:World},(Builtin.append_ #[t,t] ty #[.slice A n c,.slice (some a) m c2]).run P w= .ok (.slice (some x) k l) w2->a'=x:=fun {x k l w2} hh=>by
   rw[hr] at hh
   injection hh with hh _
   injection hh with hh _ _
   injection hh
  rcases h.2 with⟨hn0,h0⟩|⟨g,cap,cur,hv,hbg,hgg,hnc,hcm,hcs,htk⟩
  ·injection hn0 with e1 e2 e3
   subst e1 e2 e3
   rcases Nat.eq_zero_or_pos m with hm|hm
   ·exfalso
    rcases ho.2 with⟨hq,_⟩|⟨g,cap,cur,hq,hbg,hgg,_⟩
    ·cases hq
    ·subst hm
     have hn':news=[]:=List.eq_nil_of_length_eq_zero (by simpa using hl)
     subst hn'
     have:(Builtin.append_ #[t,t] ty #[.slice none 0 0,.slice (some a) 0 c2]).run P w= .ok (.slice none 0 0) w:=by
      simp[Builtin.append_,run_underlying (lW ht),sizeOf,typeInfo,hi1,Builtin.lenOf,Builtin.firstCells,loadCells,loadCellsFrom]
     rw[hr] at this
     injection this with this _
     injection this with this _ _
     cases this
   ·have:=eqn (run_append_nil (P:=P) w t ty e i z (lW ht) hi1 hz a m c2 news (by rw[q1];exact hl) hc hm (by omega) (by rw[q2];simp only[Nat.zero_add] at hby;omega))
    subst this
    exact .inr (Nat.le_refl _)
  ·injection hv with e1 e2 e3
   subst e1 e3
   by_cases hroom:n+m<=c
   ·have:=eqn (run_append_room (P:=P) w t ty e i (lW ht) hi1 g n c cur hgg a m c2 news (by rw[q1];exact hl) hc h1 hroom (by rw[q1,hl,hcs,<-Nat.add_mul];exact Nat.mul_le_mul_right _ hroom))
    subst this
    exact .inl ⟨_,rfl,rfl⟩
   ·have:=eqn (run_append_grow (P:=P) w t ty e i z (lW ht) hi1 hz ⟨g,0,none⟩ n c vs (by rw[q1];exact h.1) (World.ownsRow.cells h rfl) a m c2 news (by rw[q1];exact hl) hc (by omega) (by omega) (growslice_fits (by omega) (by rw[q2];exact hby)))
    subst this
    exact .inr (Nat.le_refl _)
theorem Own.append {P:Program} {w:World} {base:Nat} {t ty e:TypeId} {s by_:Nat} {A:Option Addr} {n c m c2:Nat} {vs news:List Value} {a:Addr} (h:Own w base e s A n c vs) (ht:iV P t=some e) (hi:wP P e=some (s,by_,s)) (hs:0<s) (hs2:s<=64) (hb2:by_<=64)
  (hl:news.length=m*s) (hc:bG w a news) (h1:∀u∈news,u.oneCell'=true) (hn:n+m<=2199023255552) (hb:base<=w.heap.size):
  ∃A' c' w',(Builtin.append_ #[t,t] ty #[.slice A n c,.slice (some a) m c2]).run P w= .ok (.slice A' (n+m) c') w'/\Own w' base e s A' (n+m) c' (vs++news)/\Keep (At A) w w'/\∀b,At A' b->At A b\/w.heap.size<=b:=
 h.aHm ht hi hs hl hc h1 (Nat.le_trans (Nat.mul_le_mul hn hb2) (by decide)) (by omega) hb
theorem Own.ints {w:World} {base:Nat} {e:TypeId} {A:Option Addr} {n c:Nat} {xs:List Int} (h:Own w base e 1 A n c (xs.map (.int .i64))):Ints w A n xs:=by
 refine⟨by have:=h.1;simpa using this,fun i x hx=> ?_⟩
 rcases h.cells with h0|⟨a,ha,hc⟩
 ·simp at h0;subst h0;simp at hx
 ·refine⟨a,[iv x],ha,rfl,fun j v hj=> ?_,rfl⟩
  cases j with
  |zero=>
   simp at hj
   subst hj
   rw[Addr.add_zero]
   have:=hc i (iv x) (by simp[hx])
   simpa [aEq] using this
  |succ j=>simp at hj
def St (H:Nat->Prop) (w:World) (φ:World->Prop):Prop:=∀w',Keep H w w'->φ w'
structure dU (H:Nat->Prop) (w:World) (H':Nat->Prop) (w':World):Prop where
 keep:Keep H w w'
 grow:∀i,i<w.heap.size->H' i->H i
section
variable {H H' H'':Nat->Prop} {w w' w'':World} {φ ψ:World->Prop}
theorem dU.refl (H:Nat->Prop) (w:World):dU H w H w:=⟨Keep.refl H w,fun _ _ h=>h⟩
theorem dU.trans (h:dU H w H' w') (k:dU H' w' H'' w''):dU H w H'' w'':=
 ⟨h.keep.over k.keep h.grow,fun i hi h2=>h.grow i hi (k.grow i (Nat.lt_of_lt_of_le hi h.keep.size) h2)⟩
theorem dU.iL (h:Ext w w'):dU H w H w':=⟨h.mono (fun _ _ k=>k.elim),fun _ _ h=>h⟩
theorem dU.less (h:∀i,i<w.heap.size->H' i->H i):dU H w H' w:=⟨Keep.refl H w,h⟩
theorem dU.wide {Z:Nat->Prop} (h:dU H w H' w') (hz:∀i,i<w.heap.size->H i->Z i):dU Z w (fun i=>Z i\/H' i) w':=⟨h.keep.mono hz,fun i hi k=>k.elim id fun k=>hz i hi (h.grow i hi k)⟩
theorem dU.aHy {X:Nat->Prop} (h:Keep X w w') (hx:∀i,i<w.heap.size->X i->H i):dU H w H w':=⟨h.mono hx,fun _ _ k=>k⟩
theorem dU.eY {o:Obj} {p:Addr} (h:New w o p w'):dU H w H w':=dU.iL (Ext.eY h)
theorem dU.aK (h:aO w w'):dU H w H w':=dU.iL (Ext.aK h)
theorem St.now (h:St H w φ):φ w:=h w (Keep.refl H w)
theorem St.iI (h:St H w φ) (k:dU H w H' w'):St H' w' φ:=fun w2 h2=>h w2 (k.keep.over h2 k.grow)
theorem St.imp (h:St H w φ) (k:∀w',φ w'->ψ w'):St H w ψ:=fun w' hw=>k w' (h w' hw)
theorem St.and (h:St H w φ) (k:St H w ψ):St H w fun w=>φ w/\ψ w:=fun w' hw=>⟨h w' hw,k w' hw⟩
theorem St.of (h:∀w',Ext w w'->φ w') (hH:∀i,i<w.heap.size->¬H i):St H w φ:=fun w' hw=>h w' (hw.mono fun i hi hx=>hH i hi hx)
theorem St.cells {p:Addr} {vs:List Value} (h:bG w p vs) (hp:¬H p.block):St H w fun w=>bG w p vs:=fun w' hw=>hw.own h hp
theorem St.cell {p:Addr} {v:Value} (h:w.cell? p=some v) (hp:¬H p.block):St H w fun w=>w.cell? p=some v:=fun w' hw=>hw.cell ⟨h,hp⟩
theorem Own.iI {base:Nat} {e:TypeId} {s:Nat} {A:Option Addr} {n c:Nat} {vs:List Value} (h:Own w base e s A n c vs) (hA:∀b,At A b->¬H b) (k:dU H w H' w'):Own w' base e s A n c vs/\∀b,At A b->¬H' b:=
 ⟨h.keep k.keep hA,fun b hb h'=>hA b hb (k.grow b (h.at hb).2 h')⟩
theorem dU.lt {b:Nat} (k:dU H w H' w') (hb:b<w.heap.size) (h:¬H b):b<w'.heap.size/\¬H' b:=⟨Nat.lt_of_lt_of_le hb k.keep.size,fun h'=>h (k.grow b hb h')⟩
end
def HX (R:Nat) (p:Addr) (A:Nat->Option Addr) (b:Nat):Prop:=b=p.block\/∃k,k<R/\At (A k) b
structure Rws (R:Nat) (ty:Nat->TypeId) (W0 w:World) (p:Addr) (A:Nat->Option Addr) (n c:Nat->Nat) (vs:Nat->List Value):Prop where
 cell:∀k,k<R->w.cell? (p.add k)=some (.slice (A k) (n k) (c k))
 soft:oH w p R
 own:∀k,k<R->Own w W0.heap.size (ty k) 1 (A k) (n k) (c k) (vs k)
 sep:∀j k,j<R->k<R->j≠k->∀b,At (A j) b->¬At (A k) b
 sepp:∀k,k<R->¬At (A k) p.block
 pnew:W0.heap.size<=p.block
 ext:Ext W0 w
section
variable {R:Nat} {ty:Nat->TypeId} {W0 w w':World} {p:Addr} {A:Nat->Option Addr} {n c:Nat->Nat} {vs:Nat->List Value}
theorem Keep.eY {X:Nat->Prop} {o:Obj} {p:Addr} {w w':World} (h:New w o p w'):Keep X w w':=(Keep.refl X w).new h
theorem Rws.plt (h:Rws R ty W0 w p A n c vs) (hR:0<R):p.block<w.heap.size:=aO6 h.soft hR
theorem Rws.hx (h:Rws R ty W0 w p A n c vs) (hR:0<R):∀i,HX R p A i->W0.heap.size<=i/\i<w.heap.size:=by
 rintro i (rfl|⟨k,hk,hA⟩)
 ·exact⟨h.pnew,h.plt hR⟩
 ·exact(h.own k hk).at hA
theorem Rws.old (h:Rws R ty W0 w p A n c vs) (hR:0<R) {φ:World->Prop} (hφ:∀w',Ext W0 w'->φ w'):St (HX R p A) w φ:=fun w' hw=>
 hφ w' (h.ext.over hw fun i hi hx=>by have:=(h.hx hR i hx).1;omega)
theorem Rws.stay (h:Rws R ty W0 w p A n c vs) (hR:0<R) (k:Ext w w'):Rws R ty W0 w' p A n c vs:=
 ⟨fun j hj=>k.cell (h.cell j hj),k.soft h.soft (fun h=>h),fun j hj=>(h.own j hj).keep k (fun _ _ h=>h),h.sep,h.sepp,h.pnew,h.ext.trans k⟩
theorem Rws.keep {X:Nat->Prop} (h:Rws R ty W0 w p A n c vs) (hR:0<R) (k:Keep X w w') (hX:∀i,HX R p A i->¬X i) (h0:∀i,i<W0.heap.size->¬X i):Rws R ty W0 w' p A n c vs:=
 ⟨fun j hj=>k.cell ⟨h.cell j hj,by rw[Addr.add_block];exact hX _ (.inl rfl)⟩,k.soft h.soft (hX _ (.inl rfl)),fun j hj=>(h.own j hj).keep k fun b hb=>hX b (.inr ⟨j,hj,hb⟩),h.sep,h.sepp,h.pnew,h.ext.over k fun i hi hx=>absurd hx (h0 i hi)⟩
def upd {α:Type} (f:Nat->α) (k:Nat) (x:α):Nat->α:=fun j=>if j=k then x else f j
theorem upd_same {α:Type} (f:Nat->α) (k:Nat) (x:α):upd f k x k=x:=by simp[upd]
theorem upd_ne {α:Type} (f:Nat->α) {j k:Nat} (x:α) (h:j≠k):upd f k x j=f j:=by simp[upd,h]
theorem Et {a:Addr} {i j:Nat} (h:a.add i=a.add j):i=j:=by
 have off:∀n,(a.add n).off=a.off+n:=fun n=>by
  unfold Addr.add
  split
  ·rename_i h0;rw[h0,Nat.add_zero]
  ·rfl
 have:(a.add i).off=(a.add j).off:=by rw[h]
 rw[off,off] at this
 omega
theorem Rws.push {P:Program} (h:Rws R ty W0 w p A n c vs) {k:Nat} (hk:k<R) {t:TypeId} (ht:iV P t=some (ty k)) {by_:Nat} (hinf:wP P (ty k)=some (1,by_,1)) (hb64:by_<=64) {v:Value} (hv:v.oneCell'=true) (hn:n k<=1099511627776)
  {T:TypeId} {p5:Addr} {w7:World} (hN:New w (.cells #[v] T) p5 w7) {c2:Nat}:
  ∃A' c' w8,(Builtin.append_ #[t,t] t #[.slice (A k) (n k) (c k),.slice (some p5) 1 c2]).run P w7= .ok (.slice A' (n k+1) c') w8/\(∃u,w8.cell? (p.add k)=some u)/\w8.frozen? (p.add k)=false/\
   ∀w9,w9=w8.setCell (p.add k) (.slice A' (n k+1) c')->Rws R ty W0 w9 p (upd A k A') (upd n k (n k+1)) (upd c k c') (upd vs k (vs k++[v]))/\dU (HX R p A) w (HX R p (upd A k A')) w9:=by
 have hR:0<R:=by omega
 have h7:=h.stay hR (Ext.eY hN)
 obtain⟨A',c',w8,hr,hO,hK,hA'⟩:=(h7.own k hk).append (m:=1) (c2:=c2) (ty:=t) ht hinf (by decide) (by decide) hb64 (news:=[v]) rfl (hN.cells rfl) (by intro u hu;simp at hu;subst hu;exact hv) (by omega) h7.ext.size
 have e7:w7.heap.size=w.heap.size+1:=hN.size
 have pk:¬At (A k) p.block:=h.sepp k hk
 have hp:=h.plt hR
 have hc8:w8.cell? (p.add k)=some (.slice (A k) (n k) (c k)):=hK.cell ⟨h7.cell k hk,by rw[Addr.add_block];exact pk⟩
 have hs8:oH w8 p R:=hK.soft h7.soft pk
 have pA':¬At A' p.block:=fun k=>by
  rcases hA' _ k with k|k
  ·exact pk k
  ·omega
 refine⟨A',c',w8,hr,⟨_,hc8⟩,(hs8 k hk).2,?_⟩
 intro w9 hw9
 have hK9:=jE hw9
 rw[Addr.add_block] at hK9
 have hK79:Keep (HX R p A) w7 w9:=(hK.mono (fun i _ hi=> .inr ⟨k,hk,hi⟩)).over hK9 fun i _ hi=> .inl hi
 have hadv:dU (HX R p A) w (HX R p (upd A k A')) w9:=by
  refine⟨(Keep.eY hN).over hK79 (fun i _ hi=>hi),?_⟩
  rintro i hi (rfl|⟨j,hj,hj2⟩)
  ·exact .inl rfl
  ·by_cases hjk:j=k
   ·subst hjk
    rw[upd_same] at hj2
    rcases hA' i hj2 with q|q
    ·exact .inr ⟨j,hj,q⟩
    ·omega
   ·rw[upd_ne _ _ hjk] at hj2
    exact .inr ⟨j,hj,hj2⟩
 have alen:∀j,(p.add j).block=p.block:=fun j=>Addr.add_block p j
 refine⟨⟨fun j hj=> ?_,?_,fun j hj=> ?_,fun i j hi hj hij b hb=> ?_,fun j hj=> ?_,h.pnew,?_⟩,hadv⟩
 ·by_cases hjk:j=k
  ·subst hjk
   rw[hw9,upd_same,upd_same,upd_same,World.cell?_setCell_same w8 _ _ hc8]
  ·rw[hw9,upd_ne _ _ hjk,upd_ne _ _ hjk,upd_ne _ _ hjk,World.cell?_setCell_other w8 _ _ _ (fun q=>hjk (Et q).symm)]
   exact hK.cell ⟨h7.cell j hj,by rw[alen];exact pk⟩
 ·intro j hj
  obtain⟨g1,g2⟩:=hs8 j hj
  rw[hw9]
  refine⟨?_,?_⟩
  ·by_cases hjk:p.add k=p.add j
   ·rw[<-hjk,World.cell?_setCell_same w8 _ _ hc8];rfl
   ·rw[World.cell?_setCell_other w8 _ _ _ hjk];exact g1
  ·rw[World.frozen?_setCell];exact g2
 ·by_cases hjk:j=k
  ·subst hjk
   rw[upd_same,upd_same,upd_same,upd_same]
   exact hO.keep hK9 fun b hb hb2=>by subst hb2;exact pA' hb
  ·rw[upd_ne _ _ hjk,upd_ne _ _ hjk,upd_ne _ _ hjk,upd_ne _ _ hjk]
   exact((h7.own j hj).keep hK fun b hb=>h.sep j k hj hk hjk b hb).keep hK9 fun b hb hb2=>by subst hb2;exact h.sepp j hj hb
 ·have key:∀j,j<R->j≠k->∀b,At (A j) b->¬At A' b:=by
   intro j hj hjk b hb hb2
   rcases hA' b hb2 with q|q
   ·exact h.sep j k hj hk hjk b hb q
   ·have:=(h.own j hj).at hb;omega
  by_cases hik:i=k
  ·subst hik
   rw[upd_same] at hb
   rw[upd_ne _ _ (fun q=>hij q.symm)]
   exact fun q=>key j hj (fun q=>hij q.symm) b q hb
  ·rw[upd_ne _ _ hik] at hb
   by_cases hjk:j=k
   ·subst hjk
    rw[upd_same]
    exact key i hi hik b hb
   ·rw[upd_ne _ _ hjk]
    exact h.sep i j hi hj hij b hb
 ·by_cases hjk:j=k
  ·subst hjk;rw[upd_same];exact pA'
  ·rw[upd_ne _ _ hjk];exact h.sepp j hj
 ·exact h.ext.over hadv.keep fun i hi hx=>by have:=(h.hx hR i hx).1;omega
end
def Yi {α:Type} (c:Cod α) (w:World) (vs:List Value) (xs:List α):Prop:=vs.length=xs.length*c.size/\∀i x,xs[i]? =some x->c.rd w ((vs.drop (i*c.size)).take c.size) x
theorem Yi.nil {α:Type} (c:Cod α) (w:World):Yi c w [] []:=⟨by simp,fun i x h=>by simp at h⟩
theorem Yi.keep {α:Type} {c:Cod α} {w w':World} {vs:List Value} {xs:List α} (h:Yi c w vs xs) (k:∀p v,w.cell? p=some v->w'.cell? p=some v):Yi c w' vs xs:=⟨h.1,fun i x hx=>c.keep k (h.2 i x hx)⟩
theorem Yi.snoc {α:Type} {c:Cod α} {w:World} {vs us:List Value} {xs:List α} {x:α} (h:Yi c w vs xs) (hu:us.length=c.size) (hr:c.rd w us x):Yi c w (vs++us) (xs++[x]):=by
 refine⟨by simp[h.1,hu,Nat.add_mul],fun i y hy=> ?_⟩
 rcases Nat.lt_or_ge i xs.length with hi|hi
 ·rw[List.getElem?_append_left hi] at hy
  have hle:i*c.size+c.size<=vs.length:=by rw[h.1,<-Nat.succ_mul];exact Nat.mul_le_mul_right _ hi
  rw[List.drop_append_of_le_length (by omega),List.take_append_of_le_length (by rw[List.length_drop];omega)]
  exact h.2 i y hy
 ·rw[List.getElem?_append_right hi] at hy
  have h0:i-xs.length=0:=by
   rcases Nat.eq_zero_or_pos (i-xs.length) with k|k
   ·exact k
   ·rw[List.getElem?_eq_none_iff.2 (by simp;omega)] at hy;cases hy
  rw[h0] at hy
  simp at hy
  subst hy
  have hi':i=xs.length:=by omega
  subst hi'
  rw[<-h.1,List.drop_left,List.take_of_length_le (by omega)]
  exact hr
theorem Yi.app {α:Type} {c:Cod α} {w:World} {xs:List α} {vs:List Value} (h:Yi c w vs xs):∀{ys:List α} {us:List Value},Yi c w us ys->Yi c w (vs++us) (xs++ys):=by
 intro ys us k
 refine⟨by simp[h.1,k.1,Nat.add_mul],fun i y hy=> ?_⟩
 rcases Nat.lt_or_ge i xs.length with hi|hi
 ·rw[List.getElem?_append_left hi] at hy
  have hle:i*c.size+c.size<=vs.length:=by rw[h.1,<-Nat.succ_mul];exact Nat.mul_le_mul_right _ hi
  rw[List.drop_append_of_le_length (by omega),List.take_append_of_le_length (by rw[List.length_drop];omega)]
  exact h.2 i y hy
 ·rw[List.getElem?_append_right hi] at hy
  have:=k.2 _ y hy
  rwa [show i*c.size=vs.length+(i-xs.length)*c.size by rw[h.1,<-Nat.add_mul];congr 1;omega,<-List.drop_drop,List.drop_left]
theorem Own.sl {α:Type} {c:Cod α} {w:World} {base:Nat} {e:TypeId} {A:Option Addr} {n cp:Nat} {vs:List Value} {xs:List α} (h:Own w base e c.size A n cp vs) (k:Yi c w vs xs) (hs:0<c.size):Sl c w A n xs:=by
 have hlen:xs.length=n:=by
  have h1:=h.1
  have h2:=k.1
  rw[h1] at h2
  exact(Nat.eq_of_mul_eq_mul_right hs h2).symm
 refine⟨hlen,fun i x hx=> ?_⟩
 have hi:=(List.getElem?_eq_some_iff.1 hx).1
 have hle:i*c.size+c.size<=vs.length:=by rw[k.1,<-Nat.succ_mul];exact Nat.mul_le_mul_right _ hi
 rcases h.cells with h0|⟨a,ha,hc⟩
 ·rw[h0] at hle
  simp at hle
  omega
 ·refine⟨a,_,ha,by rw[List.length_take,List.length_drop];omega,fun j v hj=> ?_,k.2 i x hx⟩
  rw[List.getElem?_take] at hj
  split at hj
  ·rw[List.getElem?_drop] at hj
   rw[Addr.add_add]
   exact hc _ v hj
  ·cases hj
theorem Own.st {α:Type} {c:Cod α} {w:World} {H:Nat->Prop} {base:Nat} {e:TypeId} {A:Option Addr} {n cp:Nat} {vs:List Value} {xs:List α} (h:Own w base e c.size A n cp vs) (hA:∀b,At A b->¬H b) (k:St H w fun w=>Yi c w vs xs) (hs:0<c.size):St H w fun w=>Sl c w A n xs:=fun w' hw=>
 (h.keep hw hA).sl (k w' hw) hs
theorem aOc {k:IntKind} (w:World) (xs:List Int):Yi (aEq k) w (xs.map (.int k)) xs:=by
 refine⟨by simp[aEq],fun i x hx=> ?_⟩
 show _=[Value.int k x]
 have hi:=(List.getElem?_eq_some_iff.1 hx).1
 simp only[aEq,Nat.mul_one]
 apply List.ext_getElem?
 intro j
 rw[List.getElem?_take,List.getElem?_drop]
 cases j with
 |zero=>simp[hx]
 |succ j=>simp
theorem Own.cap {w:World} {base:Nat} {e:TypeId} {s:Nat} {A:Option Addr} {n c:Nat} {vs:List Value} (h:Own w base e s A n c vs):n<=c:=by
 rcases h.2 with⟨h0,_⟩|⟨g,cap,cur,hv,_,_,hl,_⟩
 ·injection h0;omega
 ·injection hv;omega
theorem Own.len {w:World} {base:Nat} {e:TypeId} {s:Nat} {A:Option Addr} {n c:Nat} {vs:List Value} (h:Own w base e s A n c vs):vs.length=n*s:=h.1
theorem Own.new {w w':World} {p:Addr} {e:TypeId} {s:Nat} (h:New w (.cells #[] e) p w'):Own w' w.heap.size e s (some p) 0 0 []:=by
 have:=h.at_
 subst this
 rw[h.is]
 exact World.ownsRow_made w #[] 0 (Nat.le_refl _) (by decide) (by simp)
theorem Own.xE {w:World} {b b':Nat} {e:TypeId} {s:Nat} {A:Option Addr} {n c:Nat} {vs:List Value} (h:Own w b e s A n c vs) (hb:b'<=b):Own w b' e s A n c vs:=by
 refine⟨h.1,?_⟩
 rcases h.2 with h0|⟨g,cap,cur,hv,hg,hr⟩
 ·exact .inl h0
 ·exact .inr ⟨g,cap,cur,hv,by omega,hr⟩
theorem Tf (g o k:Nat):(⟨g,o,none⟩:Addr).add k=⟨g,o+k,none⟩:=by
 unfold Addr.add
 split
 ·rename_i h;subst h;simp
 ·rfl
def Row (w:World) (base:Nat) (e:TypeId) (s:Nat) (A:Option Addr) (n c:Nat) (vs:List Value):Prop:=
 vs.length=n*s/\((A=none/\n=0/\c=0)\/∃g o cur,A=some ⟨g,o,none⟩/\base<=g/\w.heap[g]? =some (.cells cur e (0,0))/\n<=c/\o+c*s<=cur.size/\(cur.toList.drop o).take (n*s)=vs)
section
variable {w w':World} {base:Nat} {e:TypeId} {s:Nat} {A:Option Addr} {n c:Nat} {vs:List Value}
theorem Row.nil (w:World) (base:Nat) (e:TypeId) (s:Nat):Row w base e s none 0 0 []:=⟨by simp,.inl ⟨rfl,rfl,rfl⟩⟩
theorem Row.at (h:Row w base e s A n c vs) {b:Nat} (hb:At A b):base<=b/\b<w.heap.size:=by
 obtain⟨a,rfl,rfl⟩:=hb
 rcases h.2 with⟨h0,_⟩|⟨g,o,cur,hA,hg,hc,_⟩
 ·cases h0
 ·cases hA
  exact⟨hg,(Array.getElem?_eq_some_iff.1 hc).1⟩
theorem Row.keep {X:Nat->Prop} (h:Row w base e s A n c vs) (k:Keep X w w') (hx:∀b,At A b->¬X b):Row w' base e s A n c vs:=by
 refine⟨h.1,?_⟩
 rcases h.2 with h0|⟨g,o,cur,hA,hg,hc,hr⟩
 ·exact .inl h0
 ·refine .inr ⟨g,o,cur,hA,hg,?_,hr⟩
  have hAt:At A g:=⟨_,hA,rfl⟩
  rw[k.block g (h.at hAt).2 (hx g hAt),hc]
theorem Row.le (h:Row w base e s A n c vs):n<=c:=by
 rcases h.2 with⟨_,h1,h2⟩|⟨_,_,_,_,_,_,h,_⟩<;>omega
theorem Row.cells (h:Row w base e s A n c vs):vs=[]\/∃a,A=some a/\bG w a vs:=by
 rcases h.2 with⟨_,h0,_⟩|⟨g,o,cur,hA,hg,hc,hn,hl,ht⟩
 ·left
  have:=h.1
  rw[h0,Nat.zero_mul] at this
  exact List.length_eq_zero_iff.1 this
 ·right
  refine⟨_,hA,fun j v hj=> ?_⟩
  rw[Tf]
  simp only[World.cell?,hc]
  rw[<-ht,List.getElem?_take] at hj
  split at hj
  ·rw[List.getElem?_drop] at hj
   simpa using hj
  ·cases hj
theorem Row.soft (h:Row w base e s A n c vs) {a:Addr} (hA:A=some a):oH w a (n*s):=by
 intro j hj
 rcases h.2 with⟨h0,_⟩|⟨g,o,cur,hA',hg,hc,hn,hl,ht⟩
 ·rw[h0] at hA;cases hA
 ·rw[hA] at hA'
  cases hA'
  rw[Tf]
  refine⟨?_,by simp[World.frozen?,hc]⟩
  have:o+j<cur.size:=by
   have:=Nat.mul_le_mul_right s hn
   omega
  simp[World.cell?,hc,this]
theorem Row.elem (h:Row w base e s A n c vs) {i:Int} (h0:0<=i) (h1:i<n) (hs:0<s):∃a us,A=some a/\us=(vs.drop (i.toNat*s)).take s/\us.length=s/\bG w (a.add (i.toNat*s)) us/\oH w (a.add (i.toNat*s)) s:=by
 have hle:i.toNat*s+s<=n*s:=by rw[<-Nat.succ_mul];exact Nat.mul_le_mul_right _ (by omega)
 have hl:=h.1
 rcases h.cells with h0|⟨a,ha,hc⟩
 ·rw[h0] at hl
  simp at hl
  omega
 ·refine⟨a,_,ha,rfl,by rw[List.length_take,List.length_drop];omega,fun j v hj=> ?_,fun j hj=> ?_⟩
  ·rw[List.getElem?_take] at hj
   split at hj
   ·rw[List.getElem?_drop] at hj
    rw[Addr.add_add]
    exact hc _ v hj
   ·cases hj
  ·rw[Addr.add_add]
   exact h.soft ha _ (by omega)
theorem Row.get (h:Row w base e 1 A n c vs) {i:Int} (h0:0<=i) (h1:i<n):∃a v,A=some a/\vs[i.toNat]? =some v/\w.cell? (a.add (i.toNat*1))=some v/\w.frozen? (a.add (i.toNat*1))=false:=by
 obtain⟨a,us,hA,hu,hl,hc,hso⟩:=h.elem h0 h1 (by decide)
 have hlen:=h.1
 have hi:i.toNat<vs.length:=by omega
 refine⟨a,vs[i.toNat],hA,List.getElem?_eq_getElem hi,?_,?_⟩
 ·have:=hc 0 vs[i.toNat] (by rw[hu,Nat.mul_one,List.getElem?_take,List.getElem?_drop];simp)
  rwa [Addr.add_zero] at this
 ·have:=(hso 0 (by decide)).2
  rwa [Addr.add_zero] at this
theorem Row.xE (h:Row w base e s A n c vs) {b':Nat} (hb:b'<=base):Row w b' e s A n c vs:=by
 refine⟨h.1,?_⟩
 rcases h.2 with h0|⟨g,o,cur,hA,hg,hr⟩
 ·exact .inl h0
 ·exact .inr ⟨g,o,cur,hA,by omega,hr⟩
theorem Own.row (h:Own w base e s A n c vs):Row w base e s A n c vs:=by
 refine⟨h.1,?_⟩
 rcases h.2 with⟨hv,h0⟩|⟨g,cap,cur,hv,hb,hg,hn,hm,hs,ht⟩
 ·injection hv with e1 e2 e3
  exact .inl ⟨e1,h0,e3⟩
 ·injection hv with e1 e2 e3
  subst e3
  exact .inr ⟨g,0,cur,e1,hb,hg,hn,by omega,by simpa using ht⟩
theorem Row.new {cs:Array Value} {p:Addr} (h:New w (.cells cs e) p w') {n:Nat} (hn:cs.size=n*s) {vs:List Value} (hv:cs.toList=vs):Row w' w.heap.size e s (some p) n n vs:=by
 have hh:=h.heap
 have hb:=h.block
 have hs:=h.spot
 subst hv
 refine⟨by simpa using hn,.inr ⟨p.block,0,cs,by rw[<-hs],by omega,hh,Nat.le_refl _,by omega,?_⟩⟩
 rw[<-hn]
 simp[List.take_of_length_le]
theorem Xk (g:Nat):∀(us:List Value) (q i:Nat) (w:World),dL w ⟨g,q,none⟩ i us=dL w ⟨g,0,none⟩ (q+i) us
 |[],q,i,w=>rfl
 |u::us,q,i,w=>by
  simp only[dL,Tf,Nat.zero_add]
  rw[Xk g us q (i+1)]
  rfl
theorem Row.put (h:Row w base e s A n c vs) {a:Addr} (hA:A=some a) {j:Nat} {us:List Value} (hj:j+us.length<=n*s) (hw:w'=cZ w (a.add j) us):Row w' base e s A n c (vs.take j++us++vs.drop (j+us.length))/\Keep (At A) w w':=by
 have k:=iQ hw
 have hAt:Keep (At A) w w':=k.mono fun i _ hi=>⟨a,hA,by rw[hi,Addr.add_block]⟩
 refine⟨?_,hAt⟩
 rcases h.2 with⟨h0,_⟩|⟨g,o,cur,hA',hg,hc,hn,hl,ht⟩
 ·rw[h0] at hA;cases hA
 rw[hA] at hA'
 cases hA'
 have hlen:=h.1
 have hns:=Nat.mul_le_mul_right s hn
 refine⟨by simp;omega,.inr ⟨g,o,(cur.toList.take (o+j+0)++us++cur.toList.drop (o+j+0+us.length)).toArray,hA,hg,?_,hn,?_,?_⟩⟩
 ·subst hw
  rw[Tf]
  unfold cZ
  rw[Xk]
  exact(Ll g e (0,0) us (o+j+0) w cur hc (by omega)).1
 ·simp
  omega
 ·rw[<-ht]
  apply List.ext_getElem?
  intro i
  have hcs:cur.toList.length=cur.size:=Array.length_toList
  simp only[Nat.add_zero,List.getElem?_take,List.getElem?_drop,List.getElem?_append,List.length_append,List.length_take,List.length_drop,hcs]
  rcases Nat.lt_or_ge i (n*s) with h1|h1
  ·rcases Nat.lt_or_ge i j with h2|h2
   ·simp[show o+i<min (o+j) cur.size+us.length by omega,show o+i<min (o+j) cur.size by omega,show o+i<o+j by omega,h1,h2,show i<min j (min (n*s) (cur.size-o))+us.length by omega,show i<j by omega,show i<min (n*s) (cur.size-o) by omega]
    intro hh
    omega
   ·rcases Nat.lt_or_ge i (j+us.length) with h3|h3
    ·simp[show o+i<min (o+j) cur.size+us.length by omega,show¬o+i<min (o+j) cur.size by omega,h1,show i<min j (min (n*s) (cur.size-o))+us.length by omega,show¬i<min j (min (n*s) (cur.size-o)) by omega,show o+i-min (o+j) cur.size=i-min j (min (n*s) (cur.size-o)) by omega]
    ·simp[show¬o+i<min (o+j) cur.size+us.length by omega,h1,show¬i<min j (min (n*s) (cur.size-o))+us.length by omega,show o+j+us.length+(o+i-(min (o+j) cur.size+us.length))=o+i by omega,show j+us.length+(i-(min j (min (n*s) (cur.size-o))+us.length))=i by omega]
  ·simp[show¬i<n*s by omega]
   split
   ·omega
   ·split
    ·omega
    ·rfl
theorem Own.set1 (h:Own w base e 1 A n c vs) {a:Addr} (hA:A=some a) {j:Nat} (hj:j<n) {u:Value} (hw:w'=w.setCell (a.add j) u):Own w' base e 1 A n c (vs.set j u):=by
 have hl:=h.1
 refine⟨by simpa using hl,?_⟩
 rcases h.2 with⟨hv,h0⟩|⟨g,cap,cur,hv,hb,hg,hn,hm,hs,ht⟩
 ·omega
 ·injection hv with e1 e2 e3
  rw[hA] at e1
  cases e1
  have hjc:j<cur.size:=by omega
  refine .inr ⟨g,cap,cur.setIfInBounds j u,by rw[hA,e3],hb,?_,hn,hm,by simpa using hs,?_⟩
  ·rw[hw,Tf]
   simp[World.setCell,Array.getElem?_modify,hg]
  ·rw[Array.toList_setIfInBounds,<-ht,List.take_set]
theorem Row.cut (h:Row w base e s A n c vs) {m d:Nat} (hm:m<=n) (hd:m<=d) (hc:d<=c):Row w base e s A m d (vs.take (m*s)):=by
 have hms:=Nat.mul_le_mul_right s hm
 have hdc:=Nat.mul_le_mul_right s hc
 refine⟨by rw[List.length_take,h.1];omega,?_⟩
 rcases h.2 with⟨h0,h1,h2⟩|⟨g,o,cur,hA,hg,hcc,hn,hl,ht⟩
 ·exact .inl ⟨h0,by omega,by omega⟩
 ·refine .inr ⟨g,o,cur,hA,hg,hcc,hd,by omega,?_⟩
  rw[<-ht,List.take_take,Nat.min_eq_left hms]
theorem Row.tail (h:Row w base e s A n c vs) {i:Nat} (hi:i<=n):Row w base e s (Jl A c i s) (n-i) (c-i) (vs.drop (i*s)):=by
 have his:=Nat.mul_le_mul_right s hi
 refine⟨by rw[List.length_drop,h.1,Nat.sub_mul],?_⟩
 rcases h.2 with⟨h0,h1,h2⟩|⟨g,o,cur,hA,hg,hcc,hn,hl,ht⟩
 ·refine .inl ⟨?_,by omega,by omega⟩
  unfold Jl
  split<;>simp[h0]
 ·unfold Jl
  split
  ·rename_i hci
   refine .inr ⟨g,o,cur,hA,hg,hcc,by omega,?_,?_⟩
   ·have:c-i=0:=by omega
    rw[this]
    omega
   ·have:n-i=0:=by omega
    rw[this,Nat.zero_mul,List.take_zero,List.drop_of_length_le]
    rw[h.1]
    have:n=i:=by omega
    rw[this]
    exact Nat.le_refl _
  ·refine .inr ⟨g,o+i*s,cur,by rw[hA];simp[Tf],hg,hcc,by omega,?_,?_⟩
   ·have hic:i<=c:=Nat.le_trans hi hn
    have h5:=Nat.sub_mul c i s
    have h6:=Nat.mul_le_mul_right s hic
    omega
   ·rw[<-ht,List.drop_take,List.drop_drop,Nat.sub_mul]
theorem Row.append {P:Program} {t ty:TypeId} {by_ m c2:Nat} {news:List Value} {a:Addr} (h:Row w base e s A n c vs) (ht:iV P t=some e) (hi:wP P e=some (s,by_,s)) (hs:0<s)
  (hl:news.length=m*s) (hc:bG w a news) (h1:∀u∈news,u.oneCell'=true) (hby:(n+m)*by_<=140737488355328) (hn:n+m<=140737488355328) (hb:base<=w.heap.size):
  ∃A' c' w',(Builtin.append_ #[t,t] ty #[.slice A n c,.slice (some a) m c2]).run P w= .ok (.slice A' (n+m) c') w'/\Row w' base e s A' (n+m) c' (vs++news)/\Keep (At A) w w'/\∀b,At A' b->At A b\/w.heap.size<=b:=by
 have hi0:=hi
 unfold wP at hi
 obtain⟨i,hi1,hi2⟩:=Option.bind_eq_some_iff.1 hi
 obtain⟨z,hz,hq⟩:=Option.map_eq_some_iff.1 hi2
 injection hq with q1 q2
 injection q2 with q2 q3
 rcases h.2 with⟨rfl,rfl,rfl⟩|⟨g,o,cur,rfl,hg,hcc,hnc,hcs,htk⟩
 ·have hv:vs=[]:=List.length_eq_zero_iff.1 (by simpa using h.1)
  subst hv
  obtain⟨A',c',w',hr,hO,hK,hA⟩:=(Own.nil w base e s).aHm (m:=m) (c2:=c2) (ty:=ty) ht hi0 hs hl hc h1 hby hn hb
  exact⟨A',c',w',hr,hO.row,hK,hA⟩
 ·by_cases hroom:n+m<=c
  ·have hns:n*s+m*s<=c*s:=by rw[<-Nat.add_mul];exact Nat.mul_le_mul_right _ hroom
   have hf:=run_firstCells_some (P:=P) w i.size m a m c2 news (by rw[q1];exact hl) hc
   have hst:=run_storeCells_at P g (o+n*i.size) e news 0 cur w hcc (by rw[q1];omega) h1
   simp only[Nat.add_zero] at hst
   have hrun:(Builtin.append_ #[t,t] ty #[.slice (some ⟨g,o,none⟩) n c,.slice (some a) m c2]).run P w=
     .ok (.slice (some ⟨g,o,none⟩) (n+m) c) (w.setRow g (cur.toList.take (o+n*i.size)++news++cur.toList.drop (o+n*i.size+news.length)).toArray):=by
    simp[Builtin.append_,run_underlying (lW ht),sizeOf,typeInfo,hi1,Builtin.lenOf,hroom,hf,Tf,hst]
   rw[q1] at hrun
   refine⟨_,c,_,hrun,⟨by simp[h.1,hl,Nat.add_mul],.inr ⟨g,o,_,rfl,hg,setRow_heap w g cur _ e _ hcc,hroom,?_,?_⟩⟩,⟨by simp[World.setRow],rfl,rfl,rfl,fun b hb hx=>setRow_other w g b _ fun hh=>hx ⟨_,rfl,hh.symm⟩⟩,fun b hb=> .inl hb⟩
   ·simp
    omega
   ·have hlen:=h.1
    rw[List.append_assoc,List.drop_append_of_le_length (by simp;omega),List.drop_take,show o+n*s-o=n*s by omega,htk]
    rw[<-List.append_assoc,show(n+m)*s=(vs++news).length by rw[List.length_append,hlen,hl,Nat.add_mul]]
    exact List.take_left
  ·have hr:=run_append_grow (P:=P) (ty:=ty) w t e i z (lW ht) hi1 hz ⟨g,o,none⟩ n c vs (by rw[q1];exact h.1) (fun j v hj=>by
     rcases h.cells with h0|⟨a',ha',hc'⟩
     ·rw[h0] at hj;simp at hj
     ·cases ha';exact hc' j v hj) a m c2 news (by rw[q1];exact hl) hc (by omega) (by omega) (growslice_fits (by omega) (by rw[q2];exact hby))
   refine⟨_,_,_,hr,⟨by simp[h.1,hl,Nat.add_mul],.inr ⟨w.heap.size,0,_,rfl,hb,heap_alloc_new w.drew _,grownCap_ge w (n+m) c e,?_,?_⟩⟩,⟨by simp,rfl,rfl,rfl,fun b hb hx=>heap_alloc_old w.drew _ b hb⟩,fun b hb=> .inr ?_⟩
   ·have hge:=grownCap_ge w (n+m) c e
    simp only[Array.size_append,List.size_toArray,size_zeroCells,q3,h.1,hl,<-Nat.add_mul,Nat.zero_add]
    exact Nat.mul_le_mul_right _ (by omega)
   ·simp only[Array.toList_append,List.drop_zero,List.append_assoc]
    rw[<-List.append_assoc,Nat.add_mul,<-h.1,<-hl,<-List.length_append]
    exact List.take_left
   ·obtain⟨a',ha',rfl⟩:=hb
    cases ha'
    exact Nat.le_refl _
theorem aEg {P:Program} {t ty e:TypeId} {by_ s:Nat} (h:Row w base e s A n c vs) (ht:iV P t=some e) (hi:wP P e=some (s,by_,s)):
  (Builtin.append_ #[t,t] ty #[.slice A n c,.slice none 0 0]).run P w= .ok (.slice A n c) w:=by
 unfold wP at hi
 obtain⟨i,hi1,hi2⟩:=Option.bind_eq_some_iff.1 hi
 rcases h.2 with⟨rfl,rfl,rfl⟩|⟨g,o,cur,rfl,hg,hcc,hnc,hcs,htk⟩
 ·simp[Builtin.append_,run_underlying (lW ht),sizeOf,typeInfo,hi1,Builtin.lenOf,Builtin.firstCells,loadCells,loadCellsFrom]
 ·simp[Builtin.append_,run_underlying (lW ht),sizeOf,typeInfo,hi1,Builtin.lenOf,Builtin.firstCells,loadCells,loadCellsFrom,hnc,storeCells]
end
structure Lay where
 K:Nat
 ty:Nat->TypeId
 sz:Nat->Nat
 hdr:Nat->Addr
 HB:Nat->Prop
def FX (L:Lay) (A:Nat->Option Addr) (b:Nat):Prop:=L.HB b\/∃k,k<L.K/\At (A k) b
structure Vz (L:Lay) (B0:Nat) (w:World) (A:Nat->Option Addr) (n c:Nat->Nat) (vs:Nat->List Value):Prop where
 cell:∀k,k<L.K->w.cell? (L.hdr k)=some (.slice (A k) (n k) (c k))
 froz:∀k,k<L.K->w.frozen? (L.hdr k)=false
 row:∀k,k<L.K->Row w B0 (L.ty k) (L.sz k) (A k) (n k) (c k) (vs k)
 sep:∀j k,j<L.K->k<L.K->j≠k->∀b,At (A j) b->¬At (A k) b
 seph:∀k,k<L.K->∀b,At (A k) b->¬L.HB b
 inj:∀j k,j<L.K->k<L.K->L.hdr j=L.hdr k->j=k
 hb:∀k,k<L.K->L.HB (L.hdr k).block
 hlt:∀b,L.HB b->B0<=b/\b<w.heap.size
section
variable {L:Lay} {B0:Nat} {w w':World} {A:Nat->Option Addr} {n c:Nat->Nat} {vs:Nat->List Value}
theorem Vz.fx (h:Vz L B0 w A n c vs) {b:Nat} (hb:FX L A b):B0<=b/\b<w.heap.size:=by
 rcases hb with hb|⟨k,hk,hb⟩
 ·exact h.hlt b hb
 ·exact(h.row k hk).at hb
theorem Vz.keep {X:Nat->Prop} (h:Vz L B0 w A n c vs) (k:Keep X w w') (hX:∀b,FX L A b->¬X b):Vz L B0 w' A n c vs:=
 ⟨fun j hj=>k.cell ⟨h.cell j hj,hX _ (.inl (h.hb j hj))⟩,fun j hj=>by
  have hlt:=(h.hlt _ (h.hb j hj)).2
  exact(World.frozen?_of_block (k.block _ hlt (hX _ (.inl (h.hb j hj))))).trans (h.froz j hj),fun j hj=>(h.row j hj).keep k fun b hb=>hX b (.inr ⟨j,hj,hb⟩),h.sep,h.seph,h.inj,h.hb,fun b hb=>⟨(h.hlt b hb).1,Nat.lt_of_lt_of_le (h.hlt b hb).2 k.size⟩⟩
theorem Vz.stay (h:Vz L B0 w A n c vs) (k:Ext w w'):Vz L B0 w' A n c vs:=h.keep k fun _ _ h=>h
theorem Vz.congr {vs':Nat->List Value} (h:Vz L B0 w A n c vs) (k:∀j,j<L.K->vs j=vs' j):Vz L B0 w A n c vs':=
 ⟨h.cell,h.froz,fun j hj=>by rw[<-k j hj];exact h.row j hj,h.sep,h.seph,h.inj,h.hb,h.hlt⟩
theorem Vz.put (h:Vz L B0 w A n c vs) {k:Nat} (hk:k<L.K) {a:Addr} (hA:A k=some a) {j:Nat} {us:List Value} (hj:j+us.length<=n k*L.sz k) (hw:w'=cZ w (a.add j) us):
  Vz L B0 w' A n c (upd vs k ((vs k).take j++us++(vs k).drop (j+us.length)))/\Keep (At (A k)) w w':=by
 obtain⟨hr,hK⟩:=(h.row k hk).put hA hj hw
 refine⟨⟨fun i hi=>hK.cell ⟨h.cell i hi,fun hh=>h.seph k hk _ hh (h.hb i hi)⟩,fun i hi=> ?_,fun i hi=> ?_,h.sep,h.seph,h.inj,h.hb,fun b hb=>⟨(h.hlt b hb).1,Nat.lt_of_lt_of_le (h.hlt b hb).2 hK.size⟩⟩,hK⟩
 ·exact(World.frozen?_of_block (hK.block _ (h.hlt _ (h.hb i hi)).2 (fun hh=>h.seph k hk _ hh (h.hb i hi)))).trans (h.froz i hi)
 ·by_cases hik:i=k
  ·subst hik;rw[upd_same];exact hr
  ·rw[upd_ne _ _ hik];exact(h.row i hi).keep hK fun b hb=>h.sep i k hi hk hik b hb
theorem Vz.aPy (h:Vz L B0 w A n c vs) {k:Nat} (hk:k<L.K) {a:Addr} (hA:A k=some a) {j:Nat} {u:Value} (hj:j<n k*L.sz k) (hw:w'=w.setCell (a.add j) u):
  Vz L B0 w' A n c (upd vs k ((vs k).set j u))/\Keep (At (A k)) w w':=by
 have hl:=(h.row k hk).1
 have e:(vs k).set j u=(vs k).take j++[u]++(vs k).drop (j+1):=by
  rw[List.set_eq_take_append_cons_drop,if_pos (by omega)]
  simp
 rw[e]
 refine h.put hk hA (us:=[u]) (by simp;omega) ?_
 rw[hw]
 simp[cZ,dL,Addr.add_zero]
theorem Vz.head (h:Vz L B0 w A n c vs) {k:Nat} (hk:k<L.K) {A':Option Addr} {m d:Nat} {us:List Value} (hr:Row w B0 (L.ty k) (L.sz k) A' m d us) (hnew:∀b,At A' b->At (A k) b\/¬FX L A b) (hw:w'=w.setCell (L.hdr k) (.slice A' m d)):
  Vz L B0 w' (upd A k A') (upd n k m) (upd c k d) (upd vs k us)/\Keep (fun b=>b=(L.hdr k).block) w w':=by
 have hK:=jE hw
 have nohb:∀i,i<L.K->∀b,At (A i) b->¬b=(L.hdr k).block:=fun i hi b hb hh=>h.seph i hi b hb (by rw[hh];exact h.hb k hk)
 have nohb':∀b,At A' b->¬L.HB b:=fun b hb hh=>by
  rcases hnew b hb with q|q
  ·exact h.seph k hk b q hh
  ·exact q (.inl hh)
 refine⟨⟨fun i hi=> ?_,fun i hi=>by rw[hw,World.frozen?_setCell];exact h.froz i hi,fun i hi=> ?_,fun i j hi hj hij b hb=> ?_,fun i hi b hb=> ?_,h.inj,h.hb,fun b hb=>⟨(h.hlt b hb).1,Nat.lt_of_lt_of_le (h.hlt b hb).2 hK.size⟩⟩,hK⟩
 ·by_cases hik:i=k
  ·subst hik
   rw[upd_same,upd_same,upd_same,hw]
   exact World.cell?_setCell_same w _ _ (h.cell i hi)
  ·rw[upd_ne _ _ hik,upd_ne _ _ hik,upd_ne _ _ hik,hw,World.cell?_setCell_other w _ _ _ (fun q=>hik (h.inj i k hi hk q.symm))]
   exact h.cell i hi
 ·by_cases hik:i=k
  ·subst hik
   rw[upd_same,upd_same,upd_same,upd_same]
   exact hr.keep hK fun b hb hh=>nohb' b hb (by rw[hh];exact h.hb i hi)
  ·rw[upd_ne _ _ hik,upd_ne _ _ hik,upd_ne _ _ hik,upd_ne _ _ hik]
   exact(h.row i hi).keep hK (nohb i hi)
 ·have key:∀i,i<L.K->i≠k->∀b,At (A i) b->¬At A' b:=fun i hi hik b hb hb2=>by
   rcases hnew b hb2 with q|q
   ·exact h.sep i k hi hk hik b hb q
   ·exact q (.inr ⟨i,hi,hb⟩)
  by_cases hik:i=k
  ·subst hik
   rw[upd_same] at hb
   rw[upd_ne _ _ (fun q=>hij q.symm)]
   exact fun q=>key j hj (fun q=>hij q.symm) b q hb
  ·rw[upd_ne _ _ hik] at hb
   by_cases hjk:j=k
   ·subst hjk;rw[upd_same];exact key i hi hik b hb
   ·rw[upd_ne _ _ hjk];exact h.sep i j hi hj hij b hb
 ·by_cases hik:i=k
  ·subst hik;rw[upd_same] at hb;exact nohb' b hb
  ·rw[upd_ne _ _ hik] at hb;exact h.seph i hi b hb
theorem Vz.cut (h:Vz L B0 w A n c vs) {k:Nat} (hk:k<L.K) {m d:Nat} (hm:m<=n k) (hd:m<=d) (hc:d<=c k) (hw:w'=w.setCell (L.hdr k) (.slice (A k) m d)):
  Vz L B0 w' (upd A k (A k)) (upd n k m) (upd c k d) (upd vs k ((vs k).take (m*L.sz k)))/\Keep (fun b=>b=(L.hdr k).block) w w':=
 h.head hk ((h.row k hk).cut hm hd hc) (fun b hb=> .inl hb) hw
theorem Qp {α:Type} (f:Nat->α) (k:Nat):upd f k (f k)=f:=by funext j;unfold upd;split<;>simp_all
theorem Vz.append {P:Program} (h:Vz L B0 w A n c vs) {k:Nat} (hk:k<L.K) {t:TypeId} {by_ m c2:Nat} {news:List Value} {a:Addr} (ht:iV P t=some (L.ty k)) (hinf:wP P (L.ty k)=some (L.sz k,by_,L.sz k)) (hs:0<L.sz k)
  (hl:news.length=m*L.sz k) (hc:bG w a news) (h1:∀u∈news,u.oneCell'=true) (hby:(n k+m)*by_<=140737488355328) (hn:n k+m<=140737488355328) (hB:B0<=w.heap.size):
  ∃A' c' w',(Builtin.append_ #[t,t] t #[.slice (A k) (n k) (c k),.slice (some a) m c2]).run P w= .ok (.slice A' (n k+m) c') w'/\Keep (At (A k)) w w'/\(∀b,At A' b->At (A k) b\/w.heap.size<=b)/\
   ∀w8,Ext w' w8->(∃u,w8.cell? (L.hdr k)=some u)/\w8.frozen? (L.hdr k)=false/\(∀i,i<L.K->i≠k->w8.cell? (L.hdr i)=some (.slice (A i) (n i) (c i))/\Row w8 B0 (L.ty i) (L.sz i) (A i) (n i) (c i) (vs i))/\
   ∀w9,w9=w8.setCell (L.hdr k) (.slice A' (n k+m) c')->Vz L B0 w9 (upd A k A') (upd n k (n k+m)) (upd c k c') (upd vs k (vs k++news))/\Keep (fun b=>At (A k) b\/b=(L.hdr k).block) w w9/\(∀b,b<w.heap.size->FX L (upd A k A') b->FX L A b):=by
 obtain⟨A',c',w',hr,hR,hK,hA'⟩:=(h.row k hk).append (c2:=c2) (ty:=t) ht hinf hs hl hc h1 hby hn hB
 refine⟨A',c',w',hr,hK,hA',fun w8 hw8=> ?_⟩
 have nohk:∀i,i<L.K->¬At (A k) (L.hdr i).block:=fun i hi hh=>h.seph k hk _ hh (h.hb i hi)
 have hc8:∀i,i<L.K->w8.cell? (L.hdr i)=some (.slice (A i) (n i) (c i)):=fun i hi=>hw8.cell (hK.cell ⟨h.cell i hi,nohk i hi⟩)
 have hf8:∀i,i<L.K->w8.frozen? (L.hdr i)=false:=fun i hi=>by
  have h1:=(World.frozen?_of_block (hK.block _ (h.hlt _ (h.hb i hi)).2 (nohk i hi))).trans (h.froz i hi)
  exact(World.frozen?_of_block (hw8.block _ (Nat.lt_of_lt_of_le (h.hlt _ (h.hb i hi)).2 hK.size) (fun h=>h))).trans h1
 have hr8:∀i,i<L.K->i≠k->Row w8 B0 (L.ty i) (L.sz i) (A i) (n i) (c i) (vs i):=fun i hi hik=>((h.row i hi).keep hK fun b hb=>h.sep i k hi hk hik b hb).keep hw8 (fun _ _ h=>h)
 refine⟨⟨_,hc8 k hk⟩,hf8 k hk,fun i hi hik=>⟨hc8 i hi,hr8 i hi hik⟩,fun w9 hw9=> ?_⟩
 have hK9:=jE hw9
 have hR8:=hR.keep hw8 (fun _ _ h=>h)
 have nohb':∀b,At A' b->¬L.HB b:=fun b hb hh=>by
  rcases hA' b hb with q|q
  ·exact h.seph k hk b q hh
  ·have:=(h.hlt b hh).2
   omega
 refine⟨⟨fun i hi=> ?_,fun i hi=>by rw[hw9,World.frozen?_setCell];exact hf8 i hi,fun i hi=> ?_,fun i j hi hj hij b hb=> ?_,fun i hi b hb=> ?_,h.inj,h.hb,fun b hb=>⟨(h.hlt b hb).1,?_⟩⟩,?_,?_⟩
 ·by_cases hik:i=k
  ·subst hik
   rw[upd_same,upd_same,upd_same,hw9]
   exact World.cell?_setCell_same w8 _ _ (hc8 i hi)
  ·rw[upd_ne _ _ hik,upd_ne _ _ hik,upd_ne _ _ hik,hw9,World.cell?_setCell_other w8 _ _ _ (fun q=>hik (h.inj i k hi hk q.symm))]
   exact hc8 i hi
 ·by_cases hik:i=k
  ·subst hik
   rw[upd_same,upd_same,upd_same,upd_same]
   exact hR8.keep hK9 fun b hb hh=>nohb' b hb (by rw[hh];exact h.hb i hi)
  ·rw[upd_ne _ _ hik,upd_ne _ _ hik,upd_ne _ _ hik,upd_ne _ _ hik]
   exact(hr8 i hi hik).keep hK9 fun b hb hh=>h.seph i hi b hb (by rw[hh];exact h.hb k hk)
 ·have key:∀i,i<L.K->i≠k->∀b,At (A i) b->¬At A' b:=fun i hi hik b hb hb2=>by
   rcases hA' b hb2 with q|q
   ·exact h.sep i k hi hk hik b hb q
   ·have:=((h.row i hi).at hb).2
    omega
  by_cases hik:i=k
  ·subst hik
   rw[upd_same] at hb
   rw[upd_ne _ _ (fun q=>hij q.symm)]
   exact fun q=>key j hj (fun q=>hij q.symm) b q hb
  ·rw[upd_ne _ _ hik] at hb
   by_cases hjk:j=k
   ·subst hjk;rw[upd_same];exact key i hi hik b hb
   ·rw[upd_ne _ _ hjk];exact h.sep i j hi hj hij b hb
 ·by_cases hik:i=k
  ·subst hik;rw[upd_same] at hb;exact nohb' b hb
  ·rw[upd_ne _ _ hik] at hb;exact h.seph i hi b hb
 ·have:=(h.hlt b hb).2
  have:=hK.size
  have:=hw8.size
  have:=hK9.size
  omega
 ·refine(hK.mono fun i _ hi=> .inl hi).over ((hw8.mono (fun i _ hh=>hh.elim)).trans (hK9.mono fun i _ hi=>hi)) fun i hi hh=> .inr hh
 ·intro b hb hh
  rcases hh with hh|⟨i,hi,hh⟩
  ·exact .inl hh
  ·by_cases hik:i=k
   ·subst hik
    rw[upd_same] at hh
    rcases hA' b hh with q|q
    ·exact .inr ⟨i,hi,q⟩
    ·omega
   ·rw[upd_ne _ _ hik] at hh
    exact .inr ⟨i,hi,hh⟩
end
set_option linter.unusedSectionVars false
structure aAl {α:Type} [DecidableEq α] (P:Program) (kt:TypeId) (kind:TypeDesc) (mk:α->Value):Prop where
 under:P.underlying kt=some kind
 same:∀a b,Instr.sameNow kind (mk a) (mk b)=some (decide (a=b))
 check:∀a w b,(Instr.checkKey b 10000 kt (mk a)).run P w= .ok () w
 bits:∀a,Instr.sameBits 10000 (mk a) (mk a)=true
theorem Zo {P:Program} {kt:TypeId} {v:Value} (m:Nat) (b:Bool) (w:World) (h:P.underlying kt=some .string\/∃k,P.underlying kt=some (.int k)):(Instr.checkKey b (m+1) kt v).run P w= .ok () w:=by
 rcases h with h|⟨k,h⟩
 ·simp[Instr.checkKey,underlying,h]
 ·simp[Instr.checkKey,underlying,h]
theorem aHc (a b:ByteArray):(a==b)=decide (a=b):=by
 have:(a==b)=(a.data==b.data):=rfl
 rw[this]
 by_cases h:a=b
 ·subst h;simp
 ·have:¬a.data=b.data:=fun q=>h (by cases a;cases b;simp at q;subst q;rfl)
  simp[h,this]
theorem aH1 {P:Program} {kt:TypeId} (h:P.underlying kt=some .string):aAl P kt .string Value.string:=by
 refine⟨h,fun a b=> ?_,fun a w b=>Zo 9999 b w (.inl h),fun a=> ?_⟩
 ·simp only[Instr.sameNow]
  rw[aHc]
 ·simp only[Instr.sameBits]
  rw[aHc]
  simp
theorem aLv {P:Program} {kt:TypeId} {k:IntKind} (h:P.underlying kt=some (.int k)):aAl P kt (.int k) (Value.int k):=by
 refine⟨h,fun a b=> ?_,fun a w b=>Zo 9999 b w (.inr ⟨k,h⟩),fun a=> ?_⟩
 ·simp only[Instr.sameNow,if_true]
  congr 1
 ·simp[Instr.sameBits]
def rQ {α β:Type} (mk:α->Value) (mv:β->Value) (w:World) (M:Nat) (l:List (α×β)):Prop:=
 ∃es clock,w.heap[M]? =some (.map es clock)/\es.toList.map (fun e=>(e.key,e.val))=l.map (fun x=>(mk x.1,mv x.2))/\(l.map (·.1)).Nodup/\(es.toList.map (·.born)).Nodup/\∀x∈es.toList,x.born<clock
section
variable {α β:Type} [DecidableEq α] {mk:α->Value} {mv:β->Value} {P:Program} {kt:TypeId} {kind:TypeDesc} {w w':World} {M:Nat} {l:List (α×β)}
def fQ (l:List (α×β)) (k:α):Option β:=(l.find? fun x=>decide (x.1=k)).map (·.2)
def Dj:List (α×β)->α->β->List (α×β)
 |[],k,v=>[(k,v)]
 |x::l,k,v=>if x.1=k then(k,v)::l else x::Dj l k v
def aEx:List (α×β)->α->List (α×β)
 |[],k=>[]
 |x::l,k=>if x.1=k then l else x::aEx l k
theorem rQ.keep {X:Nat->Prop} (h:rQ mk mv w M l) (k:Keep X w w') (hx:¬X M):rQ mk mv w' M l:=by
 obtain⟨es,clock,h1,h2⟩:=h
 exact⟨es,clock,(k.block M (Array.getElem?_eq_some_iff.1 h1).1 hx).trans h1,h2⟩
theorem rQ.lt (h:rQ mk mv w M l):M<w.heap.size:=by
 obtain⟨es,clock,h1,_⟩:=h
 exact(Array.getElem?_eq_some_iff.1 h1).1
theorem rQ.new {M:Nat} (h:aAe w M w'):rQ mk mv w' M ([]:List (α×β)):=⟨#[],0,by rw[h.is,h.at_];exact heap_alloc_new w _,by simp,by simp,by simp,by simp⟩
theorem findNow_spec (K:aAl P kt kind mk) (k:α):∀(es:List MapEntry) (l:List (α×β)) (i:Nat),es.map (fun e=>(e.key,e.val))=l.map (fun x=>(mk x.1,mv x.2))->
  (fQ l k=none/\Instr.findNow kind (mk k) es i=some none/\(∀v,Dj l k v=l++[(k,v)])/\aEx l k=l)\/
  (∃j v,l[j]? =some (k,v)/\fQ l k=some v/\Instr.findNow kind (mk k) es i=some (some (i+j,mv v))/\(∀u,Dj l k u=l.set j (k,u))/\aEx l k=l.eraseIdx j)
 |[],[],i,_=> .inl ⟨rfl,rfl,fun v=>rfl,rfl⟩
 |[],x::l,i,h=>by simp at h
 |e::es,[],i,h=>by simp at h
 |e::es,x::l,i,h=>by
  simp only[List.map_cons,List.cons.injEq,Prod.mk.injEq] at h
  obtain⟨⟨h1,h2⟩,h3⟩:=h
  by_cases hk:x.1=k
  ·refine .inr ⟨0,x.2,by simp[<-hk],by simp[fQ,hk],?_,fun u=>by simp[Dj,hk],by simp[aEx,hk]⟩
   simp only[Instr.findNow,h1,K.same,hk,decide_true,h2,Nat.add_zero]
  ·have hk':¬k=x.1:=fun q=>hk q.symm
   have hf:Instr.findNow kind (mk k) (e::es) i=Instr.findNow kind (mk k) es (i+1):=by
    simp only[Instr.findNow,h1,K.same,hk',decide_false]
   rcases findNow_spec K k es l (i+1) h3 with⟨g1,g2,g3,g4⟩|⟨j,v,g1,g2,g3,g4,g5⟩
   ·exact .inl ⟨by simpa [fQ,hk] using g1,by rw[hf,g2],fun v=>by simp[Dj,hk,g3],by simp[aEx,hk,g4]⟩
   ·refine .inr ⟨j+1,v,by simpa using g1,by simpa [fQ,hk] using g2,by rw[hf,g3];congr 3;omega,fun u=>by simp[Dj,hk,g4],by simp[aEx,hk,g5]⟩
theorem zO (K:aAl P kt kind mk) {k:α} {es:List MapEntry} {r:Option (Nat×Value)} (h:Instr.findNow kind (mk k) es 0=some r):(Instr.findKey kt (mk k) es).run P w= .ok r w:=by
 simp[Instr.findKey,underlying,K.under,h]
theorem rQ.aG9 {t e:TypeId} (h:rQ mk mv w M l) (K:aAl P kt kind mk) (ht:P.underlying t=some (.map kt e)) {z:Value} (hz:(zeroValue e).run P w= .ok z w) (k:α):
  (Instr.lookup t (.map (some M)) (mk k) true).run P w= .ok (.tuple (match fQ l k with|some v=> #[mv v,.bool true]|none=> #[z,.bool false])) w:=by
 obtain⟨es,clock,h1,h2,h3⟩:=h
 have hg:=MapKept.run_getObj_map (P:=P) h1
 rcases findNow_spec K k es.toList l 0 h2 with⟨g1,g2,_⟩|⟨j,v,g0,g1,g2,_⟩
 ·simp[Instr.lookup,run_underlying ht,hg,K.check,zO K g2,hz,g1,Result.andThen]
 ·simp[Instr.lookup,run_underlying ht,hg,K.check,zO K g2,g1,Result.andThen]
theorem Rz {α β:Type} (f:α->β):∀(l:List α) (j:Nat),(l.eraseIdx j).map f=(l.map f).eraseIdx j
 |[],_=>by simp
 |x::l,0=>by simp
 |x::l,j+1=>by simp[Rz f l j]
theorem getD_modify {es:Array MapEntry} {j:Nat} {e:MapEntry} (h:es[j]? =some e) (d:Value):(((es[j]?).map (·.key)).getD d)=e.key:=by rw[h];rfl
theorem aNs (K:aAl P kt kind mk) (k:α):(Instr.keyThatStays (mk k) (mk k)).run P w= .ok (mk k) w:=by
 simp[Instr.keyThatStays,K.bits]
theorem aL5 (l:List (α×β)) (k:α) (v:β):((fQ l k).isSome=true->(Dj l k v).map (·.1)=l.map (·.1)):=by
 induction l with
 |nil=>intro h;simp[fQ] at h
 |cons x l ih=>
  intro h
  by_cases hk:x.1=k
  ·simp[Dj,hk]
  ·simp only[Dj,hk,if_false,List.map_cons]
   rw[ih]
   simpa [fQ,hk] using h
theorem aIs {l:List (α×β)} {k:α} (h:k∈l.map (·.1)):(fQ l k).isSome=true:=by
 induction l with
 |nil=>simp at h
 |cons x l ih=>
  by_cases hk:x.1=k
  ·simp[fQ,hk]
  ·simp only[List.map_cons,List.mem_cons] at h
   rcases h with h|h
   ·exact absurd h.symm hk
   ·simpa [fQ,hk] using ih h
theorem rQ.update {t e:TypeId} (h:rQ mk mv w M l) (K:aAl P kt kind mk) (ht:P.underlying t=some (.map kt e)) (k:α) (v:β):
  ∃w',(Instr.mapUpdate t (.map (some M)) (mk k) (mv v)).run P w= .ok () w'/\rQ mk mv w' M (Dj l k v)/\Keep (fun b=>b=M) w w':=by
 obtain⟨es,clock,h1,h2,h3⟩:=h
 have hg:=MapKept.run_getObj_map (P:=P) h1
 have hM:=(Array.getElem?_eq_some_iff.1 h1).1
 have setIs:∀o,(w.heap.setIfInBounds M o)[M]? =some o:=fun o=>by simp[hM]
 have keepS:∀o,Keep (fun b=>b=M) w {w with heap:=w.heap.setIfInBounds M o}:=fun o=>⟨by simp,rfl,rfl,rfl,fun b hb hx=>by simp[Array.getElem?_setIfInBounds,Ne.symm hx]⟩
 rcases findNow_spec K k es.toList l 0 h2 with⟨g1,g2,g3,_⟩|⟨j,u,g0,g1,g2,g3,_⟩
 ·refine⟨{w with heap:=w.heap.setIfInBounds M (.map (es.push {key:=mk k,val:=mv v,born:=clock}) (clock+1))},?_,⟨_,_,setIs _,?_,?_⟩,keepS _⟩
  ·simp[Instr.mapUpdate,run_underlying ht,hg,K.check,zO K g2,MapKept.run_setObj_map _ h1,Result.andThen]
  ·rw[g3]
   simp[h2]
  ·refine⟨?_,?_,?_⟩
   ·rw[g3,List.map_append,List.nodup_append]
    refine⟨h3.1,by simp,?_⟩
    intro a ha b hb hab
    simp at hb
    subst hb
    subst hab
    have:=aIs ha
    rw[g1] at this
    cases this
   ·rw[Array.toList_push,List.map_append,List.nodup_append]
    refine⟨h3.2.1,by simp,?_⟩
    intro a ha b hb hab
    obtain⟨x,hx,rfl⟩:=List.mem_map.1 ha
    have:=h3.2.2 x hx
    simp at hb
    omega
   ·intro x hx
    rw[Array.toList_push] at hx
    rcases List.mem_append.1 hx with hx|hx
    ·have:=h3.2.2 x hx;omega
    ·simp at hx;subst hx;simp
 ·have hj:j<es.toList.length:=by
   have:=congrArg List.length h2
   simp only[List.length_map] at this
   have:=(List.getElem?_eq_some_iff.1 g0).1
   omega
  obtain⟨en,hen⟩:∃en,es[j]? =some en:=⟨_,Array.getElem?_eq_getElem (by simpa using hj)⟩
  have hek:en.key=mk k/\en.val=mv u:=by
   have:=congrArg (fun l=>l[j]?) h2
   simp only[List.getElem?_map,g0,Option.map_some,Array.getElem?_toList,hen] at this
   simp only[Option.some.injEq,Prod.mk.injEq] at this
   exact this
  refine⟨{w with heap:=w.heap.setIfInBounds M (.map (es.modify j fun e=>{e with key:=mk k,val:=mv v}) clock)},?_,⟨_,_,setIs _,?_,?_⟩,keepS _⟩
  ·simp only[Nat.zero_add] at g2
   have hq:=getD_modify hen (mk k)
   simp[Instr.mapUpdate,run_underlying ht,hg,K.check,zO K g2,MapKept.run_setObj_map _ h1,Result.andThen,hen,hek.1,aNs K]
  ·rw[g3]
   apply List.ext_getElem?
   intro i
   have hi:=congrArg (fun l=>l[i]?) h2
   simp only[List.getElem?_map,Array.getElem?_toList] at hi⊢
   rw[Array.getElem?_modify,List.getElem?_set]
   by_cases hij:j=i
   ·subst hij
    simp[hen,(List.getElem?_eq_some_iff.1 g0).1]
   ·simp only[hij,if_false]
    exact hi
  ·have hb:(es.modify j fun e=>{e with key:=mk k,val:=mv v}).toList.map (·.born)=es.toList.map (·.born):=by
    apply List.ext_getElem?
    intro i
    simp only[List.getElem?_map,Array.getElem?_toList]
    rw[Array.getElem?_modify]
    by_cases hij:j=i
    ·subst hij
     simp only[if_true,Option.map_map]
     rfl
    ·simp only[hij,if_false]
   refine⟨?_,by rw[hb];exact h3.2.1,?_⟩
   ·rw[aL5 l k v (by rw[g1];rfl)]
    exact h3.1
   ·intro x hx
    have:x.born∈es.toList.map (·.born):=by rw[<-hb];exact List.mem_map.2 ⟨x,hx,rfl⟩
    obtain⟨y,hy,e⟩:=List.mem_map.1 this
    have:=h3.2.2 y hy
    omega
theorem rQ.delete {t e ty:TypeId} (h:rQ mk mv w M l) (K:aAl P kt kind mk) (ht:P.underlying t=some (.map kt e)) (k:α):
  ∃w',(Builtin.delete_ #[t,kt] ty #[.map (some M),mk k]).run P w= .ok (.tuple #[]) w'/\rQ mk mv w' M (aEx l k)/\Keep (fun b=>b=M) w w':=by
 obtain⟨es,clock,h1,h2,h3⟩:=h
 have hg:=MapKept.run_getObj_map (P:=P) h1
 have hM:=(Array.getElem?_eq_some_iff.1 h1).1
 have setIs:∀o,(w.heap.setIfInBounds M o)[M]? =some o:=fun o=>by simp[hM]
 have keepS:∀o,Keep (fun b=>b=M) w {w with heap:=w.heap.setIfInBounds M o}:=fun o=>⟨by simp,rfl,rfl,rfl,fun b hb hx=>by simp[Array.getElem?_setIfInBounds,Ne.symm hx]⟩
 rcases findNow_spec K k es.toList l 0 h2 with⟨g1,g2,_,g4⟩|⟨j,u,g0,g1,g2,_,g5⟩
 ·refine⟨{w with heap:=w.heap.setIfInBounds M (.map es clock)},?_,⟨_,_,setIs _,?_,?_⟩,keepS _⟩
  ·simp[Builtin.delete_,run_underlying ht,hg,K.check,zO K g2,MapKept.run_setObj_map _ h1,Result.andThen]
  ·rw[g4];exact h2
  ·rw[g4];exact h3
 ·refine⟨{w with heap:=w.heap.setIfInBounds M (.map (es.eraseIdxIfInBounds j) clock)},?_,⟨_,_,setIs _,?_,?_⟩,keepS _⟩
  ·simp only[Nat.zero_add] at g2
   simp[Builtin.delete_,run_underlying ht,hg,K.check,zO K g2,MapKept.run_setObj_map _ h1,Result.andThen]
  ·rw[g5,Array.toList_eraseIdxIfInBounds,Rz,h2,Rz]
  ·refine⟨?_,?_,?_⟩
   ·rw[g5,Rz]
    exact h3.1.sublist (List.eraseIdx_sublist _ _)
   ·rw[Array.toList_eraseIdxIfInBounds,Rz]
    exact h3.2.1.sublist (List.eraseIdx_sublist _ _)
   ·intro x hx
    rw[Array.toList_eraseIdxIfInBounds] at hx
    exact h3.2.2 x (List.mem_of_mem_eraseIdx hx)
end
noncomputable abbrev P:Program:=Tryz.prog
theorem follows:P.follows .mixedOrders=true:=by kernel_rfl
abbrev F.Nq:FuncId:=3
abbrev F.Pg:FuncId:=4
abbrev F.Lu:FuncId:=5
abbrev F.Nl:FuncId:=6
abbrev F.qQ:FuncId:=7
abbrev F.sS:FuncId:=8
abbrev F.Vb:FuncId:=9
abbrev F.zK:FuncId:=10
abbrev F.jT:FuncId:=11
abbrev F.mG:FuncId:=12
abbrev F.uH:FuncId:=13
abbrev F.uU:FuncId:=14
abbrev F.aAz:FuncId:=15
abbrev F.kD:FuncId:=16
abbrev F.bV:FuncId:=17
abbrev F.uK:FuncId:=18
abbrev F.xM:FuncId:=19
abbrev F.vX:FuncId:=20
abbrev F.lF:FuncId:=21
abbrev F.Ci:FuncId:=22
abbrev F.zQ:FuncId:=23
abbrev F.Df:FuncId:=24
abbrev F.yO:FuncId:=25
abbrev F.Bc:FuncId:=26
abbrev F.Ky:FuncId:=27
abbrev F.Cf:FuncId:=28
abbrev F.rD:FuncId:=29
abbrev F.mM:FuncId:=30
abbrev F.oV:FuncId:=31
abbrev F.wH:FuncId:=32
abbrev F.pV:FuncId:=33
abbrev F.yD:FuncId:=34
abbrev F.qK:FuncId:=35
abbrev F.Ak:FuncId:=36
abbrev F.sG:FuncId:=37
abbrev F.Em:FuncId:=38
abbrev F.pX:FuncId:=39
abbrev F.Aj:FuncId:=40
abbrev F.nZ:FuncId:=41
abbrev F.xK:FuncId:=42
abbrev F.nY:FuncId:=43
abbrev F.Hl:FuncId:=44
abbrev F.qM:FuncId:=45
abbrev F.vV:FuncId:=46
abbrev F.qE:FuncId:=47
abbrev F.vW:FuncId:=48
abbrev F.qC:FuncId:=49
abbrev F.uI:FuncId:=50
abbrev F.Am:FuncId:=51
abbrev F.Ac:FuncId:=52
abbrev F.sH:FuncId:=53
abbrev F.xR:FuncId:=54
abbrev F.vM:FuncId:=55
abbrev F.Gm:FuncId:=56
abbrev F.lX:FuncId:=57
abbrev F.fP:FuncId:=58
abbrev F.Kz:FuncId:=59
abbrev F.wJ:FuncId:=60
abbrev F.iO:FuncId:=61
abbrev F.vK:FuncId:=62
abbrev F.xZ:FuncId:=63
abbrev F.vU:FuncId:=64
abbrev F.zA:FuncId:=65
abbrev F.Yu:FuncId:=66
abbrev F.Oy:FuncId:=67
abbrev F.Qe:FuncId:=68
abbrev F.pI:FuncId:=69
abbrev F.Ed:FuncId:=70
abbrev F.xQ:FuncId:=71
abbrev F.Eo:FuncId:=73
abbrev F.Om:FuncId:=74
abbrev F.xU:FuncId:=75
abbrev F.uZ:FuncId:=76
abbrev F.yM:FuncId:=77
abbrev F.zU:FuncId:=78
abbrev F.iG:FuncId:=79
abbrev F.Af:FuncId:=80
abbrev F.yQ:FuncId:=81
abbrev F.xY:FuncId:=82
abbrev F.qI:FuncId:=83
abbrev F.sD:FuncId:=84
abbrev F.Md:FuncId:=85
abbrev F.Dp:FuncId:=86
abbrev F.yT:FuncId:=87
abbrev F.vI:FuncId:=88
abbrev F.Ag:FuncId:=89
abbrev F.rP:FuncId:=90
abbrev F.uD:FuncId:=91
abbrev F.Ib:FuncId:=93
abbrev F.vO:FuncId:=94
abbrev F.Dz:FuncId:=95
abbrev F.qG:FuncId:=98
abbrev F.uG:FuncId:=114
abbrev T.t:TypeId:=0
abbrev T.int:TypeId:=3
abbrev T.bool:TypeId:=4
abbrev T.uint8:TypeId:=5
abbrev T.string:TypeId:=9
abbrev T.fB:TypeId:=22
abbrev T.vT:TypeId:=23
abbrev T.nO:TypeId:=27
abbrev T.lN:TypeId:=28
abbrev T.Uk:TypeId:=29
abbrev T.nG:TypeId:=31
abbrev T.Vk:TypeId:=33
abbrev T.Zt:TypeId:=37
abbrev T.fO:TypeId:=43
abbrev T.bH:TypeId:=45
abbrev T.fJ:TypeId:=47
abbrev T.Ec:TypeId:=50
abbrev T.jR:TypeId:=51
abbrev T.Vh:TypeId:=53
abbrev T.mZ:TypeId:=54
abbrev T.kH:TypeId:=55
abbrev T.zN:TypeId:=56
abbrev T.rO:TypeId:=58
abbrev T.jG:TypeId:=60
abbrev T.fU:TypeId:=65
abbrev T.wK:TypeId:=67
abbrev T.kK:TypeId:=69
abbrev T.iT:TypeId:=71
abbrev T.Vu:TypeId:=72
abbrev T.kS:TypeId:=75
abbrev T.Pj:TypeId:=97
abbrev T.qW:TypeId:=102
abbrev T.eH:TypeId:=105
abbrev T.Dt:TypeId:=107
abbrev T.rC:TypeId:=110
abbrev T.aAw:TypeId:=117
abbrev T.aE8:TypeId:=126
abbrev T.uQ:TypeId:=128
abbrev T.mQ:TypeId:=129
abbrev T.uint64:TypeId:=139
abbrev T.Zv:TypeId:=162
theorem FF.yH:Wk.callable P F.mG=true:=by kernel_rfl
theorem FF.Me:Wk.callable P F.uU=true:=by kernel_rfl
theorem FF.Jw:Wk.callable P F.sS=true:=by kernel_rfl
theorem FF.gY:Wk.callable P F.jT=true:=by kernel_rfl
theorem FF.Qq:Wk.callable P F.yO=true:=by kernel_rfl
theorem FF.mJ:Wk.callable P F.lF=true:=by kernel_rfl
theorem FF.Ul:Wk.callable P F.Ci=true:=by kernel_rfl
theorem FF.Dq:Wk.callable P F.uH=true:=by kernel_rfl
theorem FF.Qz:Wk.callable P F.zQ=true:=by kernel_rfl
theorem FF.qO:Wk.callable P F.qQ=true:=by kernel_rfl
theorem FF.Ui:Wk.callable P F.Df=true:=by kernel_rfl
theorem FF.Cm:Wk.callable P F.vO=true:=by kernel_rfl
theorem FF.Qy:Wk.callable P F.Ac=true:=by kernel_rfl
theorem FF.Dc:Wk.callable P F.wJ=true:=by kernel_rfl
theorem FF.Pq:Wk.callable P F.xQ=true:=by kernel_rfl
theorem FF.wU:Wk.callable P F.nZ=true:=by kernel_rfl
theorem FF.wQ:Wk.callable P F.nY=true:=by kernel_rfl
theorem FF.Lm:Wk.callable P F.uI=true:=by kernel_rfl
theorem FF.Jh:Wk.callable P F.sH=true:=by kernel_rfl
theorem FF.iZ:Wk.callable P F.iO=true:=by kernel_rfl
theorem FF.xN:Wk.callable P F.pI=true:=by kernel_rfl
theorem FF.Na:Wk.callable P F.qK=true:=by kernel_rfl
theorem FF.Ku:Wk.callable P F.pV=true:=by kernel_rfl
theorem FF.Jm:Wk.callable P F.sG=true:=by kernel_rfl
theorem FF.xX:Wk.callable P F.pX=true:=by kernel_rfl
theorem FF.yI:Wk.callable P F.mM=true:=by kernel_rfl
theorem FF.yJ:Wk.callable P F.qM=true:=by kernel_rfl
theorem FF.Gj:Wk.callable P F.qE=true:=by kernel_rfl
theorem FF.Gp:Wk.callable P F.qC=true:=by kernel_rfl
theorem FF.iF:Wk.callable P F.fP=true:=by kernel_rfl
theorem FF.Fq:Wk.callable P F.zK=true:=by kernel_rfl
theorem FF.Cj:Wk.callable P F.vX=true:=by kernel_rfl
theorem FF.Ru:Wk.callable P F.zU=true:=by kernel_rfl
theorem FF.Lc:Wk.callable P F.uD=true:=by kernel_rfl
theorem FF.Nb:Wk.callable P F.uZ=true:=by kernel_rfl
theorem FF.Qx:Wk.callable P F.Ag=true:=by kernel_rfl
theorem FF.Dy:Wk.callable P F.xU=true:=by kernel_rfl
theorem FF.rG:Wk.callable P F.rP=true:=by kernel_rfl
theorem FF.Qm:Wk.callable P F.yM=true:=by kernel_rfl
theorem FF.Vm:Wk.callable P F.Aj=true:=by kernel_rfl
theorem FF.Ht:Wk.callable P F.xK=true:=by kernel_rfl
theorem FF.Fv:Wk.callable P F.oV=true:=by kernel_rfl
theorem FF.Hf:Wk.callable P F.rD=true:=by kernel_rfl
theorem FF.Yg:Wk.callable P F.yD=true:=by kernel_rfl
theorem FF.Vt:Wk.callable P F.Am=true:=by kernel_rfl
theorem FF.Wu:Wk.callable P F.wH=true:=by kernel_rfl
theorem FF.Vs:Wk.callable P F.Ak=true:=by kernel_rfl
theorem FF.Xf:Wk.callable P F.Em=true:=by kernel_rfl
theorem FF.Ye:Wk.callable P F.Hl=true:=by kernel_rfl
theorem FF.Ro:Wk.callable P F.vV=true:=by kernel_rfl
theorem FF.Rh:Wk.callable P F.vW=true:=by kernel_rfl
theorem FF.zG:Wk.callable P F.zA=true:=by kernel_rfl
theorem FF.Dw:Wk.callable P F.xY=true:=by kernel_rfl
theorem FF.Ea:Wk.callable P F.xZ=true:=by kernel_rfl
theorem FF.Xz:Wk.callable P F.Om=true:=by kernel_rfl
theorem FF.Gz:Wk.callable P F.uK=true:=by kernel_rfl
theorem FF.Hq:Wk.callable P F.xM=true:=by kernel_rfl
theorem FF.wV:Wk.callable P F.vK=true:=by kernel_rfl
theorem FF.Iz:Wk.callable P F.Dz=true:=by kernel_rfl
theorem FF.Xt:Wk.callable P F.Bc=true:=by kernel_rfl
theorem FF.tK:Wk.callable P F.vU=true:=by kernel_rfl
theorem FF.jL:Wk.callable P F.lX=true:=by kernel_rfl
theorem FF.Xo:Wk.callable P F.Ky=true:=by kernel_rfl
theorem FF.Wp:Wk.callable P F.Kz=true:=by kernel_rfl
theorem FF.Xc:Wk.callable P F.Md=true:=by kernel_rfl
theorem FF.Ob:Wk.callable P F.Vb=true:=by kernel_rfl
theorem FF.Fj:Wk.callable P F.vM=true:=by kernel_rfl
theorem FF.bJ:Wk.callable P F.bV=true:=by kernel_rfl
theorem FF.Us:Wk.callable P F.Eo=true:=by kernel_rfl
theorem FF.Tz:Wk.callable P F.Cf=true:=by kernel_rfl
theorem FF.qP:Wk.callable P F.vI=true:=by kernel_rfl
theorem FF.Ja:Wk.callable P F.Dp=true:=by kernel_rfl
theorem FF.Jc:Wk.callable P F.Ed=true:=by kernel_rfl
theorem FF.Fh:Wk.callable P F.yT=true:=by kernel_rfl
theorem FF.aB2:Wk.callable P F.aAz=true:=by kernel_rfl
theorem FF.qV:Wk.callable P F.kD=true:=by kernel_rfl
theorem FF.He:Wk.callable P F.qG=true:=by kernel_rfl
theorem FF.Jj:Wk.callable P F.sD=true:=by kernel_rfl
theorem FF.oD:Wk.callable P F.iG=true:=by kernel_rfl
theorem FF.Kv:Wk.callable P F.uG=true:=by kernel_rfl
theorem FF.Nc:Wk.callable P F.qI=true:=by kernel_rfl
theorem FF.Ee:Wk.callable P F.xR=true:=by kernel_rfl
theorem TF.aH8:Wk.Gw P T.uQ=some true:=by kernel_rfl
theorem TF.oK:Wk.Gw P T.fJ=some true:=by kernel_rfl
theorem TF.Ey:Wk.Gw P T.iT=some true:=by kernel_rfl
theorem TF.mP:Wk.Gw P T.fO=some true:=by kernel_rfl
theorem TF.Nh:Wk.Gw P T.eH=some true:=by kernel_rfl
theorem TF.Ah:Wk.Gw P T.bool=some false:=by kernel_rfl
theorem TF.aFy:Wk.Gw P T.kS=some true:=by kernel_rfl
theorem TF.uY:Wk.Gw P T.jG=some true:=by kernel_rfl
theorem TF.aH4:Wk.Gw P T.Dt=some true:=by kernel_rfl
theorem TF.Rt:Wk.Gw P T.qW=some true:=by kernel_rfl
theorem TF.aP:Wk.Gw P T.int=some false:=by kernel_rfl
theorem TF.Yt:Wk.Gw P T.rC=some false:=by kernel_rfl
theorem TF.Iq:Wk.Gw P T.Ec=some false:=by kernel_rfl
theorem TF.jU:Wk.Gw P T.Vk=some false:=by kernel_rfl
theorem TF.eP:Wk.Gw P T.Vu=some false:=by kernel_rfl
theorem TF.fD:Wk.Gw P T.fB=some false:=by kernel_rfl
theorem TF.lZ:Wk.Gw P T.kK=some false:=by kernel_rfl
theorem TF.fE:Wk.Gw P T.fU=some false:=by kernel_rfl
theorem TF.qY:Wk.Gw P T.kH=some false:=by kernel_rfl
theorem TF.jW:Wk.Gw P T.jR=some false:=by kernel_rfl
theorem TF.xJ:Wk.Gw P T.zN=some false:=by kernel_rfl
theorem TF.oJ:Wk.Gw P T.mZ=some false:=by kernel_rfl
theorem TF.bM:Wk.Gw P T.bH=some false:=by kernel_rfl
theorem TF.oU:Wk.Gw P T.lN=some false:=by kernel_rfl
theorem TF.zT:Wk.Gw P T.Uk=some false:=by kernel_rfl
theorem TF.jK:Wk.Gw P T.nO=some false:=by kernel_rfl
theorem TF.aKk:Wk.Gw P T.string=some false:=by kernel_rfl
theorem TF.Wh:P.underlying T.bool=some .bool:=by kernel_rfl
theorem TF.Xp:Wk.iV P T.mQ=some T.uQ:=by kernel_rfl
theorem TF.dN:Wk.iV P T.fB=some T.fJ:=by kernel_rfl
theorem TF.eX:Wk.iV P T.kK=some T.iT:=by kernel_rfl
theorem TF.Xl:Wk.iV P T.vT=some T.fO:=by kernel_rfl
theorem TF.dZ:Wk.iV P T.fU=some T.eH:=by kernel_rfl
theorem TF.aC9:Wk.iV P T.aE8=some T.bool:=by kernel_rfl
theorem TF.Uj:Wk.iV P T.kH=some T.kS:=by kernel_rfl
theorem TF.iD:Wk.iV P T.jR=some T.jG:=by kernel_rfl
theorem TF.Xd:Wk.iV P T.zN=some T.Dt:=by kernel_rfl
theorem TF.zC:Wk.iV P T.mZ=some T.qW:=by kernel_rfl
theorem TF.aV:Wk.iV P T.bH=some T.int:=by kernel_rfl
theorem TF.yL:Wk.iV P T.lN=some T.fB:=by kernel_rfl
theorem TF.Gu:Wk.iV P T.Uk=some T.kK:=by kernel_rfl
theorem TF.kY:Wk.iV P T.nO=some T.bH:=by kernel_rfl
theorem TF.aFz (p:Addr) (w:World):(Instr.fieldAt T.uQ (.pointer (some p)) 0).run P w= .ok (.pointer (some (p.add 0))) w:=by kernel_rfl
theorem TF.aFv (p:Addr) (w:World):(Instr.fieldAt T.uQ (.pointer (some p)) 1).run P w= .ok (.pointer (some (p.add 1))) w:=by kernel_rfl
theorem TF.kU (p:Addr) (w:World):(Instr.fieldAt T.fJ (.pointer (some p)) 0).run P w= .ok (.pointer (some (p.add 0))) w:=by kernel_rfl
theorem TF.fF (p:Addr) (w:World):(Instr.fieldAt T.fJ (.pointer (some p)) 1).run P w= .ok (.pointer (some (p.add 1))) w:=by kernel_rfl
theorem TF.wI (p:Addr) (w:World):(Instr.fieldAt T.iT (.pointer (some p)) 0).run P w= .ok (.pointer (some (p.add 0))) w:=by kernel_rfl
theorem TF.jH (p:Addr) (w:World):(Instr.fieldAt T.iT (.pointer (some p)) 1).run P w= .ok (.pointer (some (p.add 1))) w:=by kernel_rfl
theorem TF.jI (p:Addr) (w:World):(Instr.fieldAt T.iT (.pointer (some p)) 2).run P w= .ok (.pointer (some (p.add 2))) w:=by kernel_rfl
theorem TF.Eg (p:Addr) (w:World):(Instr.fieldAt T.iT (.pointer (some p)) 3).run P w= .ok (.pointer (some (p.add 3))) w:=by kernel_rfl
theorem TF.jZ (p:Addr) (w:World):(Instr.fieldAt T.iT (.pointer (some p)) 4).run P w= .ok (.pointer (some (p.add 4))) w:=by kernel_rfl
theorem TF.sW (p:Addr) (w:World):(Instr.fieldAt T.nG (.pointer (some p)) 0).run P w= .ok (.pointer (some (p.add 0))) w:=by kernel_rfl
theorem TF.tH (p:Addr) (w:World):(Instr.fieldAt T.nG (.pointer (some p)) 1).run P w= .ok (.pointer (some (p.add 1))) w:=by kernel_rfl
theorem TF.sV (p:Addr) (w:World):(Instr.fieldAt T.nG (.pointer (some p)) 2).run P w= .ok (.pointer (some (p.add 2))) w:=by kernel_rfl
theorem TF.qA (p:Addr) (w:World):(Instr.fieldAt T.nG (.pointer (some p)) 3).run P w= .ok (.pointer (some (p.add 3))) w:=by kernel_rfl
theorem TF.Je (p:Addr) (w:World):(Instr.fieldAt T.nG (.pointer (some p)) 4).run P w= .ok (.pointer (some (p.add 4))) w:=by kernel_rfl
theorem TF.Jd (p:Addr) (w:World):(Instr.fieldAt T.nG (.pointer (some p)) 5).run P w= .ok (.pointer (some (p.add 5))) w:=by kernel_rfl
theorem TF.fV (p:Addr) (w:World):(Instr.fieldAt T.fO (.pointer (some p)) 0).run P w= .ok (.pointer (some (p.add 0))) w:=by kernel_rfl
theorem TF.Zj (p:Addr) (w:World):(Instr.fieldAt T.fO (.pointer (some p)) 1).run P w= .ok (.pointer (some (p.add 1))) w:=by kernel_rfl
theorem TF.dO (p:Addr) (w:World):(Instr.fieldAt T.fO (.pointer (some p)) 2).run P w= .ok (.pointer (some (p.add 2))) w:=by kernel_rfl
theorem TF.dX (p:Addr) (w:World):(Instr.fieldAt T.fO (.pointer (some p)) 3).run P w= .ok (.pointer (some (p.add 3))) w:=by kernel_rfl
theorem TF.wM (p:Addr) (w:World):(Instr.fieldAt T.fO (.pointer (some p)) 4).run P w= .ok (.pointer (some (p.add 4))) w:=by kernel_rfl
theorem TF.kZ (p:Addr) (w:World):(Instr.fieldAt T.wK (.pointer (some p)) 0).run P w= .ok (.pointer (some (p.add 0))) w:=by kernel_rfl
theorem TF.dV (p:Addr) (w:World):(Instr.fieldAt T.wK (.pointer (some p)) 1).run P w= .ok (.pointer (some (p.add 1))) w:=by kernel_rfl
theorem TF.jM (p:Addr) (w:World):(Instr.fieldAt T.wK (.pointer (some p)) 2).run P w= .ok (.pointer (some (p.add 2))) w:=by kernel_rfl
theorem TF.sZ (p:Addr) (w:World):(Instr.fieldAt T.eH (.pointer (some p)) 0).run P w= .ok (.pointer (some (p.add 0))) w:=by kernel_rfl
theorem TF.tN (p:Addr) (w:World):(Instr.fieldAt T.eH (.pointer (some p)) 1).run P w= .ok (.pointer (some (p.add 1))) w:=by kernel_rfl
theorem TF.uJ (p:Addr) (w:World):(Instr.fieldAt T.eH (.pointer (some p)) 2).run P w= .ok (.pointer (some (p.add 2))) w:=by kernel_rfl
theorem TF.Iw (p:Addr) (w:World):(Instr.fieldAt T.eH (.pointer (some p)) 3).run P w= .ok (.pointer (some (p.add 3))) w:=by kernel_rfl
theorem TF.bI (p:Addr) (w:World):(Instr.fieldAt T.rO (.pointer (some p)) 0).run P w= .ok (.pointer (some (p.add 0))) w:=by kernel_rfl
theorem TF.jB (p:Addr) (w:World):(Instr.fieldAt T.rO (.pointer (some p)) 1).run P w= .ok (.pointer (some (p.add 4))) w:=by kernel_rfl
theorem TF.oN (p:Addr) (w:World):(Instr.fieldAt T.rO (.pointer (some p)) 2).run P w= .ok (.pointer (some (p.add 5))) w:=by kernel_rfl
theorem TF.Qk (p:Addr) (w:World):(Instr.fieldAt T.rO (.pointer (some p)) 3).run P w= .ok (.pointer (some (p.add 6))) w:=by kernel_rfl
theorem TF.jX (p:Addr) (w:World):(Instr.fieldAt T.rO (.pointer (some p)) 4).run P w= .ok (.pointer (some (p.add 7))) w:=by kernel_rfl
theorem TF.jV (p:Addr) (w:World):(Instr.fieldAt T.rO (.pointer (some p)) 5).run P w= .ok (.pointer (some (p.add 8))) w:=by kernel_rfl
theorem TF.kT (p:Addr) (w:World):(Instr.fieldAt T.rO (.pointer (some p)) 6).run P w= .ok (.pointer (some (p.add 9))) w:=by kernel_rfl
theorem TF.rF (p:Addr) (w:World):(Instr.fieldAt T.rO (.pointer (some p)) 7).run P w= .ok (.pointer (some (p.add 10))) w:=by kernel_rfl
theorem TF.aDw (p:Addr) (w:World):(Instr.fieldAt T.kS (.pointer (some p)) 0).run P w= .ok (.pointer (some (p.add 0))) w:=by kernel_rfl
theorem TF.aD9 (p:Addr) (w:World):(Instr.fieldAt T.kS (.pointer (some p)) 1).run P w= .ok (.pointer (some (p.add 1))) w:=by kernel_rfl
theorem TF.aD1 (p:Addr) (w:World):(Instr.fieldAt T.kS (.pointer (some p)) 2).run P w= .ok (.pointer (some (p.add 2))) w:=by kernel_rfl
theorem TF.Oh (p:Addr) (w:World):(Instr.fieldAt T.kS (.pointer (some p)) 3).run P w= .ok (.pointer (some (p.add 3))) w:=by kernel_rfl
theorem TF.aDr (p:Addr) (w:World):(Instr.fieldAt T.kS (.pointer (some p)) 4).run P w= .ok (.pointer (some (p.add 4))) w:=by kernel_rfl
theorem TF.aDu (p:Addr) (w:World):(Instr.fieldAt T.kS (.pointer (some p)) 5).run P w= .ok (.pointer (some (p.add 5))) w:=by kernel_rfl
theorem TF.aDl (p:Addr) (w:World):(Instr.fieldAt T.kS (.pointer (some p)) 6).run P w= .ok (.pointer (some (p.add 6))) w:=by kernel_rfl
theorem TF.Xb (p:Addr) (w:World):(Instr.fieldAt T.kS (.pointer (some p)) 7).run P w= .ok (.pointer (some (p.add 7))) w:=by kernel_rfl
theorem TF.qF (p:Addr) (w:World):(Instr.fieldAt T.Vh (.pointer (some p)) 0).run P w= .ok (.pointer (some (p.add 0))) w:=by kernel_rfl
theorem TF.gU (p:Addr) (w:World):(Instr.fieldAt T.Vh (.pointer (some p)) 1).run P w= .ok (.pointer (some (p.add 1))) w:=by kernel_rfl
theorem TF.kJ (p:Addr) (w:World):(Instr.fieldAt T.Vh (.pointer (some p)) 2).run P w= .ok (.pointer (some (p.add 2))) w:=by kernel_rfl
theorem TF.kG (p:Addr) (w:World):(Instr.fieldAt T.Vh (.pointer (some p)) 3).run P w= .ok (.pointer (some (p.add 3))) w:=by kernel_rfl
theorem TF.nX (p:Addr) (w:World):(Instr.fieldAt T.jG (.pointer (some p)) 0).run P w= .ok (.pointer (some (p.add 0))) w:=by kernel_rfl
theorem TF.aAd (p:Addr) (w:World):(Instr.fieldAt T.jG (.pointer (some p)) 1).run P w= .ok (.pointer (some (p.add 1))) w:=by kernel_rfl
theorem TF.yV (p:Addr) (w:World):(Instr.fieldAt T.jG (.pointer (some p)) 2).run P w= .ok (.pointer (some (p.add 2))) w:=by kernel_rfl
theorem TF.Eb (p:Addr) (w:World):(Instr.fieldAt T.jG (.pointer (some p)) 3).run P w= .ok (.pointer (some (p.add 3))) w:=by kernel_rfl
theorem TF.Zn (p:Addr) (w:World):(Instr.fieldAt T.jG (.pointer (some p)) 4).run P w= .ok (.pointer (some (p.add 4))) w:=by kernel_rfl
theorem TF.aGm (p:Addr) (w:World):(Instr.fieldAt T.Dt (.pointer (some p)) 0).run P w= .ok (.pointer (some (p.add 0))) w:=by kernel_rfl
theorem TF.aFk (p:Addr) (w:World):(Instr.fieldAt T.Dt (.pointer (some p)) 1).run P w= .ok (.pointer (some (p.add 1))) w:=by kernel_rfl
theorem TF.Hy (p:Addr) (w:World):(Instr.fieldAt T.aAw (.pointer (some p)) 0).run P w= .ok (.pointer (some (p.add 0))) w:=by kernel_rfl
theorem TF.rE (p:Addr) (w:World):(Instr.fieldAt T.aAw (.pointer (some p)) 1).run P w= .ok (.pointer (some (p.add 1))) w:=by kernel_rfl
theorem TF.Yw (p:Addr) (w:World):(Instr.fieldAt T.aAw (.pointer (some p)) 2).run P w= .ok (.pointer (some (p.add 2))) w:=by kernel_rfl
theorem TF.qN (p:Addr) (w:World):(Instr.fieldAt T.qW (.pointer (some p)) 0).run P w= .ok (.pointer (some (p.add 0))) w:=by kernel_rfl
theorem TF.sJ (p:Addr) (w:World):(Instr.fieldAt T.qW (.pointer (some p)) 1).run P w= .ok (.pointer (some (p.add 1))) w:=by kernel_rfl
theorem TF.Dx (p:Addr) (w:World):(Instr.fieldAt T.qW (.pointer (some p)) 2).run P w= .ok (.pointer (some (p.add 2))) w:=by kernel_rfl
theorem TF.Rx (p:Addr) (w:World):(Instr.fieldAt T.qW (.pointer (some p)) 3).run P w= .ok (.pointer (some (p.add 3))) w:=by kernel_rfl
theorem TF.Gn:(Wk.iV P T.mQ).isSome=true:=by kernel_rfl
theorem TF.dS:(Wk.iV P T.fB).isSome=true:=by kernel_rfl
theorem TF.lD:(Wk.iV P T.kK).isSome=true:=by kernel_rfl
theorem TF.Sj:(Wk.iV P T.vT).isSome=true:=by kernel_rfl
theorem TF.jC:(Wk.iV P T.fU).isSome=true:=by kernel_rfl
theorem TF.Bf:(Wk.iV P T.kH).isSome=true:=by kernel_rfl
theorem TF.aBj:(Wk.iV P T.jR).isSome=true:=by kernel_rfl
theorem TF.Gf:(Wk.iV P T.zN).isSome=true:=by kernel_rfl
theorem TF.Gg:(Wk.iV P T.mZ).isSome=true:=by kernel_rfl
theorem TF.bP:(Wk.iV P T.bH).isSome=true:=by kernel_rfl
theorem TF.Yl:(Wk.iV P T.lN).isSome=true:=by kernel_rfl
theorem TF.Xu:(Wk.iV P T.Uk).isSome=true:=by kernel_rfl
theorem TF.aCi:(Wk.iV P T.nO).isSome=true:=by kernel_rfl
theorem TF.yB:∃e,P.underlying T.Zt=some (.pointer e):=⟨67,by kernel_rfl⟩
theorem TF.Yv:∃e,P.underlying T.Vk=some (.pointer e):=⟨58,by kernel_rfl⟩
theorem TF.Ox:Wk.wO P T.uQ=some 2:=by kernel_rfl
theorem TF.bY:Wk.wO P T.fJ=some 2:=by kernel_rfl
theorem TF.dP:Wk.wO P T.iT=some 5:=by kernel_rfl
theorem TF.jD:Wk.wO P T.fO=some 5:=by kernel_rfl
theorem TF.dR:Wk.wO P T.eH=some 4:=by kernel_rfl
theorem TF.size_bool:Wk.wO P T.bool=some 1:=by kernel_rfl
theorem TF.Hw:Wk.wO P T.kS=some 8:=by kernel_rfl
theorem TF.dQ:Wk.wO P T.jG=some 5:=by kernel_rfl
theorem TF.Ot:Wk.wO P T.Dt=some 2:=by kernel_rfl
theorem TF.mD:Wk.wO P T.qW=some 4:=by kernel_rfl
theorem TF.size_int:Wk.wO P T.int=some 1:=by kernel_rfl
theorem TF.vJ:Wk.wO P T.fB=some 1:=by kernel_rfl
theorem TF.Ez:Wk.wO P T.kK=some 1:=by kernel_rfl
theorem TF.Ff:Wk.wO P T.fU=some 1:=by kernel_rfl
theorem TF.zS:Wk.wO P T.kH=some 1:=by kernel_rfl
theorem TF.Wn:Wk.wO P T.zN=some 1:=by kernel_rfl
theorem TF.Oi:Wk.wO P T.mZ=some 1:=by kernel_rfl
theorem TF.fH:Wk.wO P T.bH=some 1:=by kernel_rfl
theorem TF.Qs:Wk.wO P T.lN=some 1:=by kernel_rfl
theorem TF.Zp:Wk.wO P T.nO=some 1:=by kernel_rfl
theorem TF.aGu:Wk.zeroOf P T.uQ=some (.agg #[iv 0,iv 0]):=by kernel_rfl
theorem TF.Ar:Wk.zeroOf P T.fJ=some (.agg #[iv 0,.slice none 0 0]):=by kernel_rfl
theorem TF.Ol:Wk.zeroOf P T.iT=some (.agg #[iv 0,iv 0,iv 0,iv 0,.slice none 0 0]):=by kernel_rfl
theorem TF.aAj:Wk.zeroOf P T.fO=some (.agg #[iv 0,.bool false,iv 0,iv 0,iv 0]):=by kernel_rfl
theorem TF.Yh:Wk.zeroOf P T.eH=some (.agg #[.bool false,iv 0,iv 0,iv 0]):=by kernel_rfl
theorem TF.aEy:Wk.zeroOf P T.kS=some (.agg #[.string .empty,.bool false,iv 0,iv 0,iv 0,iv 0,iv 0,iv 0]):=by kernel_rfl
theorem TF.Oo:Wk.zeroOf P T.jG=some (.agg #[iv 0,.bool false,iv 0,iv 0,iv 0]):=by kernel_rfl
theorem TF.aGr:Wk.zeroOf P T.Dt=some (.agg #[iv 0,iv 0]):=by kernel_rfl
theorem TF.Vy:Wk.zeroOf P T.qW=some (.agg #[iv 0,iv 0,iv 0,.bool false]):=by kernel_rfl
theorem TF.aCx:Wk.zeroOf P T.int=some (iv 0):=by kernel_rfl
namespace Wk
section
variable {P:Program} {ops:Array Oper} {Q:Exit->Act->World->Prop} {n f:Nat} {e e':Env} {w w' w0:World} {rest:List Oper} {ty t t':TypeId} {pos:String} {af:Array Edge} {d j s:Nat} {b b':Bool} {u v v2:Value} {x y z:Operand} {op:BinOp} {p:Addr}
theorem sv {o:Oper} (hd:o.dst=some d) (hg:o.guard=none) (hr:∀a,Ok n e a->(execOp a.eval o).run P w= .ok (.value v) w') (h:SL P ops Q rest n ((d,v)::e) w') (hlt:Nat.blt d n=true:=by rfl):SL P ops Q (o::rest) n e w:=Uz hd hlt (aI hg) hr h
theorem svg {o:Oper} (hd:o.dst=some d) (hg:o.guard=some (j,b)) (hs:(ops[j]?).bind (·.dst)=some s) (hb:look e s=some (.bool b)) (hr:∀a,Ok n e a->(execOp a.eval o).run P w= .ok (.value v) w') (h:SL P ops Q rest n ((d,v)::e) w') (hlt:Nat.blt d n=true:=by rfl):SL P ops Q (o::rest) n e w:=Uz hd hlt (dW hg hs hb) hr h
theorem mv (hx:ev e x=some v) (h:SL P ops Q rest n ((d,v)::e) w) (hlt:Nat.blt d n=true:=by rfl):SL P ops Q (⟨some d,.move x,ty,pos,af,none⟩::rest) n e w:=Uz rfl hlt (aI rfl) (fun a ha=>iC (ha.ev hx)) h
theorem Bv (hs:(ops[j]?).bind (·.dst)=some s) (hb:look e s=some (.bool b)) (hx:ev e x=some v) (h:SL P ops Q rest n ((d,v)::e) w) (hlt:Nat.blt d n=true:=by rfl):SL P ops Q (⟨some d,.move x,ty,pos,af,some (j,b)⟩::rest) n e w:=Uz rfl hlt (dW rfl hs hb) (fun a ha=>iC (ha.ev hx)) h
theorem ag (hx:ev e x=some v) (h:SL P ops Q rest n ((d,v)::e) w) (hlt:Nat.blt d n=true:=by rfl):SL P ops Q (⟨some d,.assign x,ty,pos,af,none⟩::rest) n e w:=Uz rfl hlt (aI rfl) (fun a ha=>aGd (ha.ev hx)) h
theorem agg (hs:(ops[j]?).bind (·.dst)=some s) (hb:look e s=some (.bool b)) (hx:ev e x=some v) (h:SL P ops Q rest n ((d,v)::e) w) (hlt:Nat.blt d n=true:=by rfl):SL P ops Q (⟨some d,.assign x,ty,pos,af,some (j,b)⟩::rest) n e w:=Uz rfl hlt (dW rfl hs hb) (fun a ha=>aGd (ha.ev hx)) h
theorem nk (hx:ev e x=some (.pointer (some p))) (h:SL P ops Q rest n ((d,.pointer (some p))::e) w) (hlt:Nat.blt d n=true:=by rfl):SL P ops Q (⟨some d,.nilCheck x,ty,pos,af,none⟩::rest) n e w:=Uz rfl hlt (aI rfl) (fun a ha=>dH (ha.ev hx)) h
theorem nkg (hs:(ops[j]?).bind (·.dst)=some s) (hb:look e s=some (.bool b)) (hx:ev e x=some (.pointer (some p))) (h:SL P ops Q rest n ((d,.pointer (some p))::e) w) (hlt:Nat.blt d n=true:=by rfl):SL P ops Q (⟨some d,.nilCheck x,ty,pos,af,some (j,b)⟩::rest) n e w:=Uz rfl hlt (dW rfl hs hb) (fun a ha=>dH (ha.ev hx)) h
theorem fa (hx:ev e x=some v) (hf:(Instr.fieldAt t v f).run P w= .ok u w) (h:SL P ops Q rest n ((d,u)::e) w) (hlt:Nat.blt d n=true:=by rfl):SL P ops Q (⟨some d,.fieldAddr t x f,ty,pos,af,none⟩::rest) n e w:=Uz rfl hlt (aI rfl) (fun a ha=>Pe (ha.ev hx) hf) h
theorem Zu (hs:(ops[j]?).bind (·.dst)=some s) (hb:look e s=some (.bool b)) (hx:ev e x=some v) (hf:(Instr.fieldAt t v f).run P w= .ok u w) (h:SL P ops Q rest n ((d,u)::e) w) (hlt:Nat.blt d n=true:=by rfl):SL P ops Q (⟨some d,.fieldAddr t x f,ty,pos,af,some (j,b)⟩::rest) n e w:=Uz rfl hlt (dW rfl hs hb) (fun a ha=>Pe (ha.ev hx) hf) h
theorem ld (hx:ev e x=some v) (hf:(Instr.loadAt t v).run P w= .ok u w) (h:SL P ops Q rest n ((d,u)::e) w) (hlt:Nat.blt d n=true:=by rfl):SL P ops Q (⟨some d,.load t x,ty,pos,af,none⟩::rest) n e w:=Uz rfl hlt (aI rfl) (fun a ha=>nT (ha.ev hx) hf) h
theorem Qo (hs:(ops[j]?).bind (·.dst)=some s) (hb:look e s=some (.bool b)) (hx:ev e x=some v) (hf:(Instr.loadAt t v).run P w= .ok u w) (h:SL P ops Q rest n ((d,u)::e) w) (hlt:Nat.blt d n=true:=by rfl):SL P ops Q (⟨some d,.load t x,ty,pos,af,some (j,b)⟩::rest) n e w:=Uz rfl hlt (dW rfl hs hb) (fun a ha=>nT (ha.ev hx) hf) h
theorem ix (hx:ev e x=some v) (hy:ev e y=some v2) (hf:(Instr.indexAt t v v2).run P w= .ok u w) (h:SL P ops Q rest n ((d,u)::e) w) (hlt:Nat.blt d n=true:=by rfl):SL P ops Q (⟨some d,.indexAddr t x y,ty,pos,af,none⟩::rest) n e w:=Uz rfl hlt (aI rfl) (fun a ha=>Jb (ha.ev hx) (ha.ev hy) hf) h
theorem ixg (hs:(ops[j]?).bind (·.dst)=some s) (hb:look e s=some (.bool b)) (hx:ev e x=some v) (hy:ev e y=some v2) (hf:(Instr.indexAt t v v2).run P w= .ok u w) (h:SL P ops Q rest n ((d,u)::e) w) (hlt:Nat.blt d n=true:=by rfl):SL P ops Q (⟨some d,.indexAddr t x y,ty,pos,af,some (j,b)⟩::rest) n e w:=Uz rfl hlt (dW rfl hs hb) (fun a ha=>Jb (ha.ev hx) (ha.ev hy) hf) h
theorem bo (hx:ev e x=some v) (hy:ev e y=some v2) (hf:(do eqGuard op t x y v v2;binOp op t v v2:Sem Value).run P w= .ok u w) (h:SL P ops Q rest n ((d,u)::e) w) (hlt:Nat.blt d n=true:=by rfl):SL P ops Q (⟨some d,.binOp op t x y t',ty,pos,af,none⟩::rest) n e w:=Uz rfl hlt (aI rfl) (fun a ha=>fZ (ha.ev hx) (ha.ev hy) hf) h
theorem Qh (hs:(ops[j]?).bind (·.dst)=some s) (hb:look e s=some (.bool b)) (hx:ev e x=some v) (hy:ev e y=some v2) (hf:(do eqGuard op t x y v v2;binOp op t v v2:Sem Value).run P w= .ok u w) (h:SL P ops Q rest n ((d,u)::e) w) (hlt:Nat.blt d n=true:=by rfl):SL P ops Q (⟨some d,.binOp op t x y t',ty,pos,af,some (j,b)⟩::rest) n e w:=Uz rfl hlt (dW rfl hs hb) (fun a ha=>fZ (ha.ev hx) (ha.ev hy) hf) h
theorem pt (hx:ev e x=some (.bool true)) (hy:ev e y=some v) (h:SL P ops Q rest n ((d,v)::e) w) (hlt:Nat.blt d n=true:=by rfl):SL P ops Q (⟨some d,.pick x y z,ty,pos,af,none⟩::rest) n e w:=Uz rfl hlt (aI rfl) (fun a ha=>aCt (ha.ev hx) (ha.ev hy)) h
theorem ptg (hs:(ops[j]?).bind (·.dst)=some s) (hb:look e s=some (.bool b)) (hx:ev e x=some (.bool true)) (hy:ev e y=some v) (h:SL P ops Q rest n ((d,v)::e) w) (hlt:Nat.blt d n=true:=by rfl):SL P ops Q (⟨some d,.pick x y z,ty,pos,af,some (j,b)⟩::rest) n e w:=Uz rfl hlt (dW rfl hs hb) (fun a ha=>aCt (ha.ev hx) (ha.ev hy)) h
theorem pf (hx:ev e x=some (.bool false)) (hy:ev e z=some v) (h:SL P ops Q rest n ((d,v)::e) w) (hlt:Nat.blt d n=true:=by rfl):SL P ops Q (⟨some d,.pick x y z,ty,pos,af,none⟩::rest) n e w:=Uz rfl hlt (aI rfl) (fun a ha=>aC7 (ha.ev hx) (ha.ev hy)) h
theorem pfg (hs:(ops[j]?).bind (·.dst)=some s) (hb:look e s=some (.bool b)) (hx:ev e x=some (.bool false)) (hy:ev e z=some v) (h:SL P ops Q rest n ((d,v)::e) w) (hlt:Nat.blt d n=true:=by rfl):SL P ops Q (⟨some d,.pick x y z,ty,pos,af,some (j,b)⟩::rest) n e w:=Uz rfl hlt (dW rfl hs hb) (fun a ha=>aC7 (ha.ev hx) (ha.ev hy)) h
theorem sk {o:Oper} (hd:o.dst=some d) (hg:o.guard=some (j,b)) (hs:(ops[j]?).bind (·.dst)=some s) (hb:look e s=some (.bool b')) (h:SL P ops Q rest n ((d,undef)::e) w) (hlt:Nat.blt d n=true:=by rfl) (hne:b'= !b:=by rfl):SL P ops Q (o::rest) n e w:=iE hd hlt (En hg hs hb hne) h
variable {pu rd:List Nat} {H:World->Prop} {D:World->World->Prop} {fu:Nat} {l:Array Bool}
theorem pv {oi:Oper} (i:Nat) (cm:Calm P ops Q H D) (hi:ops[i]? =some oi) (hd:oi.dst=some d) (hg:oi.guard=none) (hy:∀w' a,Ok n e a->(execOp a.eval oi).run P w'= .ok (.value v) w') (hD:D w0 w) (hW:H w) (h:∀w',D w0 w'->H w'->AN P ops Q pu rd H D fu (l.setIfInBounds i true) n ((d,v)::e) w') (hp:qX ops pu l i=true:=by kernel_rfl) (hlt:Nat.blt d n=true:=by rfl):AN P ops Q pu rd H D (fu+1) l n e w:=Ue cm hi hp hd hlt (aI hg) hy rfl fun w' q=>h w' (cm.dtrans _ _ _ hD q) (cm.held _ _ hW q)
theorem pvg {oi:Oper} (i:Nat) (cm:Calm P ops Q H D) (hi:ops[i]? =some oi) (hd:oi.dst=some d) (hg:oi.guard=some (j,b)) (hs:(ops[j]?).bind (·.dst)=some s) (hb:look e s=some (.bool b)) (hy:∀w' a,Ok n e a->(execOp a.eval oi).run P w'= .ok (.value v) w') (hD:D w0 w) (hW:H w) (h:∀w',D w0 w'->H w'->AN P ops Q pu rd H D fu (l.setIfInBounds i true) n ((d,v)::e) w') (hp:qX ops pu l i=true:=by kernel_rfl) (hlt:Nat.blt d n=true:=by rfl):AN P ops Q pu rd H D (fu+1) l n e w:=Ue cm hi hp hd hlt (dW hg hs hb) hy rfl fun w' q=>h w' (cm.dtrans _ _ _ hD q) (cm.held _ _ hW q)
theorem ps {oi:Oper} (i:Nat) (cm:Calm P ops Q H D) (hi:ops[i]? =some oi) (hd:oi.dst=some d) (hg:oi.guard=some (j,b)) (hs:(ops[j]?).bind (·.dst)=some s) (hb:look e s=some (.bool b')) (hD:D w0 w) (hW:H w) (h:∀w',D w0 w'->H w'->AN P ops Q pu rd H D fu (l.setIfInBounds i true) n ((d,undef)::e) w') (hp:qX ops pu l i=true:=by kernel_rfl) (hlt:Nat.blt d n=true:=by rfl) (hne:b'= !b:=by rfl):AN P ops Q pu rd H D (fu+1) l n e w:=aJt cm hi hp hd hlt (En hg hs hb hne) rfl fun w' q=>h w' (cm.dtrans _ _ _ hD q) (cm.held _ _ hW q)
theorem gZ (i:Nat) (cm:Calm P ops Q H D) (hi:ops[i]? =some ⟨some d,.move x,ty,pos,af,none⟩) (hx:ev e x=some v) (hD:D w0 w) (hW:H w) (h:∀w',D w0 w'->H w'->AN P ops Q pu rd H D fu (l.setIfInBounds i true) n ((d,v)::e) w') (hp:qX ops pu l i=true:=by kernel_rfl) (hlt:Nat.blt d n=true:=by rfl):AN P ops Q pu rd H D (fu+1) l n e w:=Ue cm hi hp rfl hlt (aI rfl) (fun w' a ha=>iC (ha.ev hx)) rfl fun w' q=>h w' (cm.dtrans _ _ _ hD q) (cm.held _ _ hW q)
theorem zX (i:Nat) (cm:Calm P ops Q H D) (hi:ops[i]? =some ⟨some d,.move x,ty,pos,af,some (j,b)⟩) (hs:(ops[j]?).bind (·.dst)=some s) (hb:look e s=some (.bool b)) (hx:ev e x=some v) (hD:D w0 w) (hW:H w) (h:∀w',D w0 w'->H w'->AN P ops Q pu rd H D fu (l.setIfInBounds i true) n ((d,v)::e) w') (hp:qX ops pu l i=true:=by kernel_rfl) (hlt:Nat.blt d n=true:=by rfl):AN P ops Q pu rd H D (fu+1) l n e w:=Ue cm hi hp rfl hlt (dW rfl hs hb) (fun w' a ha=>iC (ha.ev hx)) rfl fun w' q=>h w' (cm.dtrans _ _ _ hD q) (cm.held _ _ hW q)
theorem Gh (i:Nat) (cm:Calm P ops Q H D) (hi:ops[i]? =some ⟨some d,.nilCheck x,ty,pos,af,none⟩) (hx:ev e x=some (.pointer (some p))) (hD:D w0 w) (hW:H w) (h:∀w',D w0 w'->H w'->AN P ops Q pu rd H D fu (l.setIfInBounds i true) n ((d,.pointer (some p))::e) w') (hp:qX ops pu l i=true:=by kernel_rfl) (hlt:Nat.blt d n=true:=by rfl):AN P ops Q pu rd H D (fu+1) l n e w:=Ue cm hi hp rfl hlt (aI rfl) (fun w' a ha=>dH (ha.ev hx)) rfl fun w' q=>h w' (cm.dtrans _ _ _ hD q) (cm.held _ _ hW q)
theorem aPk (i:Nat) (cm:Calm P ops Q H D) (hi:ops[i]? =some ⟨some d,.nilCheck x,ty,pos,af,some (j,b)⟩) (hs:(ops[j]?).bind (·.dst)=some s) (hb:look e s=some (.bool b)) (hx:ev e x=some (.pointer (some p))) (hD:D w0 w) (hW:H w) (h:∀w',D w0 w'->H w'->AN P ops Q pu rd H D fu (l.setIfInBounds i true) n ((d,.pointer (some p))::e) w') (hp:qX ops pu l i=true:=by kernel_rfl) (hlt:Nat.blt d n=true:=by rfl):AN P ops Q pu rd H D (fu+1) l n e w:=Ue cm hi hp rfl hlt (dW rfl hs hb) (fun w' a ha=>dH (ha.ev hx)) rfl fun w' q=>h w' (cm.dtrans _ _ _ hD q) (cm.held _ _ hW q)
theorem lH (i:Nat) (cm:Calm P ops Q H D) (hi:ops[i]? =some ⟨some d,.fieldAddr t x f,ty,pos,af,none⟩) (hx:ev e x=some v) (hf:∀{w'},(Instr.fieldAt t v f).run P w'= .ok u w') (hD:D w0 w) (hW:H w) (h:∀w',D w0 w'->H w'->AN P ops Q pu rd H D fu (l.setIfInBounds i true) n ((d,u)::e) w') (hp:qX ops pu l i=true:=by kernel_rfl) (hlt:Nat.blt d n=true:=by rfl):AN P ops Q pu rd H D (fu+1) l n e w:=Ue cm hi hp rfl hlt (aI rfl) (fun w' a ha=>Pe (ha.ev hx) hf) rfl fun w' q=>h w' (cm.dtrans _ _ _ hD q) (cm.held _ _ hW q)
theorem Ti (i:Nat) (cm:Calm P ops Q H D) (hi:ops[i]? =some ⟨some d,.fieldAddr t x f,ty,pos,af,some (j,b)⟩) (hs:(ops[j]?).bind (·.dst)=some s) (hb:look e s=some (.bool b)) (hx:ev e x=some v) (hf:∀{w'},(Instr.fieldAt t v f).run P w'= .ok u w') (hD:D w0 w) (hW:H w) (h:∀w',D w0 w'->H w'->AN P ops Q pu rd H D fu (l.setIfInBounds i true) n ((d,u)::e) w') (hp:qX ops pu l i=true:=by kernel_rfl) (hlt:Nat.blt d n=true:=by rfl):AN P ops Q pu rd H D (fu+1) l n e w:=Ue cm hi hp rfl hlt (dW rfl hs hb) (fun w' a ha=>Pe (ha.ev hx) hf) rfl fun w' q=>h w' (cm.dtrans _ _ _ hD q) (cm.held _ _ hW q)
theorem Ie (i:Nat) (cm:Calm P ops Q H D) (hi:ops[i]? =some ⟨some d,.indexAddr t x y,ty,pos,af,none⟩) (hx:ev e x=some v) (hy:ev e y=some v2) (hf:∀{w'},(Instr.indexAt t v v2).run P w'= .ok u w') (hD:D w0 w) (hW:H w) (h:∀w',D w0 w'->H w'->AN P ops Q pu rd H D fu (l.setIfInBounds i true) n ((d,u)::e) w') (hp:qX ops pu l i=true:=by kernel_rfl) (hlt:Nat.blt d n=true:=by rfl):AN P ops Q pu rd H D (fu+1) l n e w:=Ue cm hi hp rfl hlt (aI rfl) (fun w' a ha=>Jb (ha.ev hx) (ha.ev hy) hf) rfl fun w' q=>h w' (cm.dtrans _ _ _ hD q) (cm.held _ _ hW q)
theorem Zk (i:Nat) (cm:Calm P ops Q H D) (hi:ops[i]? =some ⟨some d,.indexAddr t x y,ty,pos,af,some (j,b)⟩) (hs:(ops[j]?).bind (·.dst)=some s) (hb:look e s=some (.bool b)) (hx:ev e x=some v) (hy:ev e y=some v2) (hf:∀{w'},(Instr.indexAt t v v2).run P w'= .ok u w') (hD:D w0 w) (hW:H w) (h:∀w',D w0 w'->H w'->AN P ops Q pu rd H D fu (l.setIfInBounds i true) n ((d,u)::e) w') (hp:qX ops pu l i=true:=by kernel_rfl) (hlt:Nat.blt d n=true:=by rfl):AN P ops Q pu rd H D (fu+1) l n e w:=Ue cm hi hp rfl hlt (dW rfl hs hb) (fun w' a ha=>Jb (ha.ev hx) (ha.ev hy) hf) rfl fun w' q=>h w' (cm.dtrans _ _ _ hD q) (cm.held _ _ hW q)
theorem ppt (i:Nat) (cm:Calm P ops Q H D) (hi:ops[i]? =some ⟨some d,.pick x y z,ty,pos,af,none⟩) (hx:ev e x=some (.bool true)) (hy:ev e y=some v) (hD:D w0 w) (hW:H w) (h:∀w',D w0 w'->H w'->AN P ops Q pu rd H D fu (l.setIfInBounds i true) n ((d,v)::e) w') (hp:qX ops pu l i=true:=by kernel_rfl) (hlt:Nat.blt d n=true:=by rfl):AN P ops Q pu rd H D (fu+1) l n e w:=Ue cm hi hp rfl hlt (aI rfl) (fun w' a ha=>aCt (ha.ev hx) (ha.ev hy)) rfl fun w' q=>h w' (cm.dtrans _ _ _ hD q) (cm.held _ _ hW q)
theorem ppf (i:Nat) (cm:Calm P ops Q H D) (hi:ops[i]? =some ⟨some d,.pick x y z,ty,pos,af,none⟩) (hx:ev e x=some (.bool false)) (hy:ev e z=some v) (hD:D w0 w) (hW:H w) (h:∀w',D w0 w'->H w'->AN P ops Q pu rd H D fu (l.setIfInBounds i true) n ((d,v)::e) w') (hp:qX ops pu l i=true:=by kernel_rfl) (hlt:Nat.blt d n=true:=by rfl):AN P ops Q pu rd H D (fu+1) l n e w:=Ue cm hi hp rfl hlt (aI rfl) (fun w' a ha=>aC7 (ha.ev hx) (ha.ev hy)) rfl fun w' q=>h w' (cm.dtrans _ _ _ hD q) (cm.held _ _ hW q)
theorem Qj {oi:Oper} (i:Nat) (cm:Calm P ops Q H D) (hi:ops[i]? =some oi) (hd:oi.dst=some d) (hg:oi.guard=none) (hy:∀w' a,Ok n e a->(execOp a.eval oi).run P w'= .ok (.value v) w') (hD:D w0 w) (h:∀w',D w0 w'->AN P ops Q pu rd H D fu (l.setIfInBounds i true) n ((d,v)::e) w') (hp:qX ops pu l i=true:=by kernel_rfl) (hlt:Nat.blt d n=true:=by rfl):AN P ops Q pu rd H D (fu+1) l n e w:=Ue cm hi hp hd hlt (aI hg) hy rfl fun w' q=>h w' (cm.dtrans _ _ _ hD q)
theorem aGj {oi:Oper} (i:Nat) (cm:Calm P ops Q H D) (hi:ops[i]? =some oi) (hd:oi.dst=some d) (hg:oi.guard=some (j,b)) (hs:(ops[j]?).bind (·.dst)=some s) (hb:look e s=some (.bool b)) (hy:∀w' a,Ok n e a->(execOp a.eval oi).run P w'= .ok (.value v) w') (hD:D w0 w) (h:∀w',D w0 w'->AN P ops Q pu rd H D fu (l.setIfInBounds i true) n ((d,v)::e) w') (hp:qX ops pu l i=true:=by kernel_rfl) (hlt:Nat.blt d n=true:=by rfl):AN P ops Q pu rd H D (fu+1) l n e w:=Ue cm hi hp hd hlt (dW hg hs hb) hy rfl fun w' q=>h w' (cm.dtrans _ _ _ hD q)
theorem psd {oi:Oper} (i:Nat) (cm:Calm P ops Q H D) (hi:ops[i]? =some oi) (hd:oi.dst=some d) (hg:oi.guard=some (j,b)) (hs:(ops[j]?).bind (·.dst)=some s) (hb:look e s=some (.bool b')) (hD:D w0 w) (h:∀w',D w0 w'->AN P ops Q pu rd H D fu (l.setIfInBounds i true) n ((d,undef)::e) w') (hp:qX ops pu l i=true:=by kernel_rfl) (hlt:Nat.blt d n=true:=by rfl) (hne:b'= !b:=by rfl):AN P ops Q pu rd H D (fu+1) l n e w:=aJt cm hi hp hd hlt (En hg hs hb hne) rfl fun w' q=>h w' (cm.dtrans _ _ _ hD q)
theorem aBv (i:Nat) (cm:Calm P ops Q H D) (hi:ops[i]? =some ⟨some d,.move x,ty,pos,af,none⟩) (hx:ev e x=some v) (hD:D w0 w) (h:∀w',D w0 w'->AN P ops Q pu rd H D fu (l.setIfInBounds i true) n ((d,v)::e) w') (hp:qX ops pu l i=true:=by kernel_rfl) (hlt:Nat.blt d n=true:=by rfl):AN P ops Q pu rd H D (fu+1) l n e w:=Ue cm hi hp rfl hlt (aI rfl) (fun w' a ha=>iC (ha.ev hx)) rfl fun w' q=>h w' (cm.dtrans _ _ _ hD q)
theorem aLm (i:Nat) (cm:Calm P ops Q H D) (hi:ops[i]? =some ⟨some d,.move x,ty,pos,af,some (j,b)⟩) (hs:(ops[j]?).bind (·.dst)=some s) (hb:look e s=some (.bool b)) (hx:ev e x=some v) (hD:D w0 w) (h:∀w',D w0 w'->AN P ops Q pu rd H D fu (l.setIfInBounds i true) n ((d,v)::e) w') (hp:qX ops pu l i=true:=by kernel_rfl) (hlt:Nat.blt d n=true:=by rfl):AN P ops Q pu rd H D (fu+1) l n e w:=Ue cm hi hp rfl hlt (dW rfl hs hb) (fun w' a ha=>iC (ha.ev hx)) rfl fun w' q=>h w' (cm.dtrans _ _ _ hD q)
theorem Bo (i:Nat) (cm:Calm P ops Q H D) (hi:ops[i]? =some ⟨some d,.assign x,ty,pos,af,none⟩) (hx:ev e x=some v) (hD:D w0 w) (h:∀w',D w0 w'->AN P ops Q pu rd H D fu (l.setIfInBounds i true) n ((d,v)::e) w') (hp:qX ops pu l i=true:=by kernel_rfl) (hlt:Nat.blt d n=true:=by rfl):AN P ops Q pu rd H D (fu+1) l n e w:=Ue cm hi hp rfl hlt (aI rfl) (fun w' a ha=>aGd (ha.ev hx)) rfl fun w' q=>h w' (cm.dtrans _ _ _ hD q)
theorem Ut (i:Nat) (cm:Calm P ops Q H D) (hi:ops[i]? =some ⟨some d,.nilCheck x,ty,pos,af,none⟩) (hx:ev e x=some (.pointer (some p))) (hD:D w0 w) (h:∀w',D w0 w'->AN P ops Q pu rd H D fu (l.setIfInBounds i true) n ((d,.pointer (some p))::e) w') (hp:qX ops pu l i=true:=by kernel_rfl) (hlt:Nat.blt d n=true:=by rfl):AN P ops Q pu rd H D (fu+1) l n e w:=Ue cm hi hp rfl hlt (aI rfl) (fun w' a ha=>dH (ha.ev hx)) rfl fun w' q=>h w' (cm.dtrans _ _ _ hD q)
theorem Fb (i:Nat) (cm:Calm P ops Q H D) (hi:ops[i]? =some ⟨some d,.fieldAddr t x f,ty,pos,af,none⟩) (hx:ev e x=some v) (hf:∀{w'},(Instr.fieldAt t v f).run P w'= .ok u w') (hD:D w0 w) (h:∀w',D w0 w'->AN P ops Q pu rd H D fu (l.setIfInBounds i true) n ((d,u)::e) w') (hp:qX ops pu l i=true:=by kernel_rfl) (hlt:Nat.blt d n=true:=by rfl):AN P ops Q pu rd H D (fu+1) l n e w:=Ue cm hi hp rfl hlt (aI rfl) (fun w' a ha=>Pe (ha.ev hx) hf) rfl fun w' q=>h w' (cm.dtrans _ _ _ hD q)
theorem aCh (i:Nat) (cm:Calm P ops Q H D) (hi:ops[i]? =some ⟨some d,.indexAddr t x y,ty,pos,af,none⟩) (hx:ev e x=some v) (hy:ev e y=some v2) (hf:∀{w'},(Instr.indexAt t v v2).run P w'= .ok u w') (hD:D w0 w) (h:∀w',D w0 w'->AN P ops Q pu rd H D fu (l.setIfInBounds i true) n ((d,u)::e) w') (hp:qX ops pu l i=true:=by kernel_rfl) (hlt:Nat.blt d n=true:=by rfl):AN P ops Q pu rd H D (fu+1) l n e w:=Ue cm hi hp rfl hlt (aI rfl) (fun w' a ha=>Jb (ha.ev hx) (ha.ev hy) hf) rfl fun w' q=>h w' (cm.dtrans _ _ _ hD q)
theorem aQd (i:Nat) (cm:Calm P ops Q H D) (hi:ops[i]? =some ⟨some d,.indexAddr t x y,ty,pos,af,some (j,b)⟩) (hs:(ops[j]?).bind (·.dst)=some s) (hb:look e s=some (.bool b)) (hx:ev e x=some v) (hy:ev e y=some v2) (hf:∀{w'},(Instr.indexAt t v v2).run P w'= .ok u w') (hD:D w0 w) (h:∀w',D w0 w'->AN P ops Q pu rd H D fu (l.setIfInBounds i true) n ((d,u)::e) w') (hp:qX ops pu l i=true:=by kernel_rfl) (hlt:Nat.blt d n=true:=by rfl):AN P ops Q pu rd H D (fu+1) l n e w:=Ue cm hi hp rfl hlt (dW rfl hs hb) (fun w' a ha=>Jb (ha.ev hx) (ha.ev hy) hf) rfl fun w' q=>h w' (cm.dtrans _ _ _ hD q)
theorem aDp (i:Nat) (cm:Calm P ops Q H D) (hi:ops[i]? =some ⟨some d,.pick x y z,ty,pos,af,none⟩) (hx:ev e x=some (.bool true)) (hy:ev e y=some v) (hD:D w0 w) (h:∀w',D w0 w'->AN P ops Q pu rd H D fu (l.setIfInBounds i true) n ((d,v)::e) w') (hp:qX ops pu l i=true:=by kernel_rfl) (hlt:Nat.blt d n=true:=by rfl):AN P ops Q pu rd H D (fu+1) l n e w:=Ue cm hi hp rfl hlt (aI rfl) (fun w' a ha=>aCt (ha.ev hx) (ha.ev hy)) rfl fun w' q=>h w' (cm.dtrans _ _ _ hD q)
theorem aCs (i:Nat) (cm:Calm P ops Q H D) (hi:ops[i]? =some ⟨some d,.pick x y z,ty,pos,af,none⟩) (hx:ev e x=some (.bool false)) (hy:ev e z=some v) (hD:D w0 w) (h:∀w',D w0 w'->AN P ops Q pu rd H D fu (l.setIfInBounds i true) n ((d,v)::e) w') (hp:qX ops pu l i=true:=by kernel_rfl) (hlt:Nat.blt d n=true:=by rfl):AN P ops Q pu rd H D (fu+1) l n e w:=Ue cm hi hp rfl hlt (aI rfl) (fun w' a ha=>aC7 (ha.ev hx) (ha.ev hy)) rfl fun w' q=>h w' (cm.dtrans _ _ _ hD q)
theorem vv {oi:Oper} (i:Nat) (cm:Calm P ops Q H D) (hi:ops[i]? =some oi) (hd:oi.dst=some d) (hg:oi.guard=none) (hy:∀w',H w'->∀a,Ok n e a->(execOp a.eval oi).run P w'= .ok (.value v) w') (hD:D w0 w) (hW:H w) (h:∀w',D w0 w'->H w'->AN P ops Q pu rd H D fu (l.setIfInBounds i true) n ((d,v)::e) w') (hp:takeB ops rd l i=true:=by kernel_rfl) (hlt:Nat.blt d n=true:=by rfl):AN P ops Q pu rd H D (fu+1) l n e w:=aQr cm hi hp hW hd hlt (aI hg) hy rfl fun w' q hW=>h w' (cm.dtrans _ _ _ hD q) hW
theorem vl (i:Nat) (cm:Calm P ops Q H D) (hi:ops[i]? =some ⟨some d,.load t x,ty,pos,af,none⟩) (hx:ev e x=some v) (hf:∀{w'},H w'->(Instr.loadAt t v).run P w'= .ok u w') (hD:D w0 w) (hW:H w) (h:∀w',D w0 w'->H w'->AN P ops Q pu rd H D fu (l.setIfInBounds i true) n ((d,u)::e) w') (hp:takeB ops rd l i=true:=by kernel_rfl) (hlt:Nat.blt d n=true:=by rfl):AN P ops Q pu rd H D (fu+1) l n e w:=aQr cm hi hp hW rfl hlt (aI rfl) (fun w' hw a ha=>nT (ha.ev hx) (hf hw)) rfl fun w' q hW=>h w' (cm.dtrans _ _ _ hD q) hW
theorem vlg (i:Nat) (cm:Calm P ops Q H D) (hi:ops[i]? =some ⟨some d,.load t x,ty,pos,af,some (j,b)⟩) (hs:(ops[j]?).bind (·.dst)=some s) (hb:look e s=some (.bool b)) (hx:ev e x=some v) (hf:∀{w'},H w'->(Instr.loadAt t v).run P w'= .ok u w') (hD:D w0 w) (hW:H w) (h:∀w',D w0 w'->H w'->AN P ops Q pu rd H D fu (l.setIfInBounds i true) n ((d,u)::e) w') (hp:takeB ops rd l i=true:=by kernel_rfl) (hlt:Nat.blt d n=true:=by rfl):AN P ops Q pu rd H D (fu+1) l n e w:=aQr cm hi hp hW rfl hlt (dW rfl hs hb) (fun w' hw a ha=>nT (ha.ev hx) (hf hw)) rfl fun w' q hW=>h w' (cm.dtrans _ _ _ hD q) hW
theorem ar (i:Nat) (h:AW P ops Q pu rd H D fu l n e w i) (hr:Region.ready .any ops l=[i]:=by kernel_rfl):AN P ops Q pu rd H D (fu+1) l n e w:=Hr hr rfl (tY h Vp)
theorem nc {y:Code} {Q':Exit->Act->World->Prop} (k:sub e' e) (h:CW P y Q n e' w):NX (Exit.then (y.wp P Q) Q') .normal n e w:=aP7 (aQv k h)
theorem zz:sub [] e:=sub.nil
theorem kp (t:Nat) (h:look e t=some v) (k:sub e' e):sub ((t,v)::e') e:=sub.cons h k
theorem cn {t:Nat} (h:look e t=some v) (k:sub e' e):sub ((t,v)::e') e:=sub.cons h k
theorem az {args:Array Value}:∀p∈([]:Env),args[p.1]? =some p.2:=fun _ h=>by cases h
theorem aa {args:Array Value} {t:Nat} (h:args[t]? =some v) (k:∀p∈e,args[p.1]? =some p.2):∀p∈(t,v)::e,args[p.1]? =some p.2:=fun p hp=>by
 rcases List.mem_cons.1 hp with e|hp
 ·rw[e];exact h
 ·exact k p hp
end
section
variable {P:Program} {ops:Array Oper} {Q:Exit->Act->World->Prop} {n:Nat} {e e':Env} {w w':World} {rest:List Oper} {ty:TypeId} {pos:String} {af:Array Edge} {d d0:Nat} {od:Option Nat} {og:Option (Nat×Bool)} {u v v2:Value} {x y:Operand}
theorem cs (h:(e'.map fun p=>look e p.1)=e'.map fun p=>some p.2:=by kernel_rfl):sub e' e:=by
 induction e' with
 |nil=>exact sub.nil
 |cons q e' ih=>
  simp only[List.map_cons,List.cons.injEq] at h
  exact sub.cons h.1 (ih h.2)
theorem cu {c:Code} {a:Act} (ha:Ok n e a) (h:CW P c Q n e w):c.wp P Q a w:=h a ha
def aFi (e:Env):List (Nat×Operand)->Option (List (Nat×Value))
 |[]=>some []
 |x::xs=>match ev e x.2,aFi e xs with|some v,some vs=>some ((x.1,v)::vs)|_,_=>none
theorem Ok.aFi {a:Act} (h:Ok n e a):∀{xs:List (Nat×Operand)} {vs:List (Nat×Value)},aFi e xs=some vs->xs.map (fun p=>(p.1,a.eval p.2))=vs
 |[],vs,hx=>by simp only[Wk.aFi,Option.some.injEq] at hx;subst hx;rfl
 |x::xs,vs,hx=>by
  simp only[Wk.aFi] at hx
  cases h1:Wk.ev e x.2 with
  |none=>rw[h1] at hx;cases hx
  |some v=>
   cases h2:Wk.aFi e xs with
   |none=>rw[h1,h2] at hx;cases hx
   |some us=>
    rw[h1,h2] at hx
    simp only[Option.some.injEq] at hx
    subst hx
    simp[h.ev h1,h.aFi h2]
theorem y2 (t0 t1:Nat) {v0 v1:Value} (h:(look e t0,look e t1)=(some v0,some v1)):sub [(t0,v0),(t1,v1)] e:=by
 simp only[Prod.mk.injEq] at h
 exact sub.cons h.1 (sub.cons h.2 (sub.nil))
theorem y3 (t0 t1 t2:Nat) {v0 v1 v2:Value} (h:(look e t0,look e t1,look e t2)=(some v0,some v1,some v2)):sub [(t0,v0),(t1,v1),(t2,v2)] e:=by
 simp only[Prod.mk.injEq] at h
 exact sub.cons h.1 (sub.cons h.2.1 (sub.cons h.2.2 (sub.nil)))
theorem y4 (t0 t1 t2 t3:Nat) {v0 v1 v2 v3:Value} (h:(look e t0,look e t1,look e t2,look e t3)=(some v0,some v1,some v2,some v3)):sub [(t0,v0),(t1,v1),(t2,v2),(t3,v3)] e:=by
 simp only[Prod.mk.injEq] at h
 exact sub.cons h.1 (sub.cons h.2.1 (sub.cons h.2.2.1 (sub.cons h.2.2.2 (sub.nil))))
theorem y5 (t0 t1 t2 t3 t4:Nat) {v0 v1 v2 v3 v4:Value} (h:(look e t0,look e t1,look e t2,look e t3,look e t4)=(some v0,some v1,some v2,some v3,some v4)):sub [(t0,v0),(t1,v1),(t2,v2),(t3,v3),(t4,v4)] e:=by
 simp only[Prod.mk.injEq] at h
 exact sub.cons h.1 (sub.cons h.2.1 (sub.cons h.2.2.1 (sub.cons h.2.2.2.1 (sub.cons h.2.2.2.2 (sub.nil)))))
theorem y6 (t0 t1 t2 t3 t4 t5:Nat) {v0 v1 v2 v3 v4 v5:Value} (h:(look e t0,look e t1,look e t2,look e t3,look e t4,look e t5)=(some v0,some v1,some v2,some v3,some v4,some v5)):sub [(t0,v0),(t1,v1),(t2,v2),(t3,v3),(t4,v4),(t5,v5)] e:=by
 simp only[Prod.mk.injEq] at h
 exact sub.cons h.1 (sub.cons h.2.1 (sub.cons h.2.2.1 (sub.cons h.2.2.2.1 (sub.cons h.2.2.2.2.1 (sub.cons h.2.2.2.2.2 (sub.nil))))))
theorem y7 (t0 t1 t2 t3 t4 t5 t6:Nat) {v0 v1 v2 v3 v4 v5 v6:Value} (h:(look e t0,look e t1,look e t2,look e t3,look e t4,look e t5,look e t6)=(some v0,some v1,some v2,some v3,some v4,some v5,some v6)):sub [(t0,v0),(t1,v1),(t2,v2),(t3,v3),(t4,v4),(t5,v5),(t6,v6)] e:=by
 simp only[Prod.mk.injEq] at h
 exact sub.cons h.1 (sub.cons h.2.1 (sub.cons h.2.2.1 (sub.cons h.2.2.2.1 (sub.cons h.2.2.2.2.1 (sub.cons h.2.2.2.2.2.1 (sub.cons h.2.2.2.2.2.2 (sub.nil)))))))
theorem y8 (t0 t1 t2 t3 t4 t5 t6 t7:Nat) {v0 v1 v2 v3 v4 v5 v6 v7:Value} (h:(look e t0,look e t1,look e t2,look e t3,look e t4,look e t5,look e t6,look e t7)=(some v0,some v1,some v2,some v3,some v4,some v5,some v6,some v7)):sub [(t0,v0),(t1,v1),(t2,v2),(t3,v3),(t4,v4),(t5,v5),(t6,v6),(t7,v7)] e:=by
 simp only[Prod.mk.injEq] at h
 exact sub.cons h.1 (sub.cons h.2.1 (sub.cons h.2.2.1 (sub.cons h.2.2.2.1 (sub.cons h.2.2.2.2.1 (sub.cons h.2.2.2.2.2.1 (sub.cons h.2.2.2.2.2.2.1 (sub.cons h.2.2.2.2.2.2.2 (sub.nil))))))))
theorem y9 (t0 t1 t2 t3 t4 t5 t6 t7 t8:Nat) {v0 v1 v2 v3 v4 v5 v6 v7 v8:Value} (h:(look e t0,look e t1,look e t2,look e t3,look e t4,look e t5,look e t6,look e t7,look e t8)=(some v0,some v1,some v2,some v3,some v4,some v5,some v6,some v7,some v8)):sub [(t0,v0),(t1,v1),(t2,v2),(t3,v3),(t4,v4),(t5,v5),(t6,v6),(t7,v7),(t8,v8)] e:=by
 simp only[Prod.mk.injEq] at h
 exact sub.cons h.1 (sub.cons h.2.1 (sub.cons h.2.2.1 (sub.cons h.2.2.2.1 (sub.cons h.2.2.2.2.1 (sub.cons h.2.2.2.2.2.1 (sub.cons h.2.2.2.2.2.2.1 (sub.cons h.2.2.2.2.2.2.2.1 (sub.cons h.2.2.2.2.2.2.2.2 (sub.nil)))))))))
theorem y10 (t0 t1 t2 t3 t4 t5 t6 t7 t8 t9:Nat) {v0 v1 v2 v3 v4 v5 v6 v7 v8 v9:Value} (h:(look e t0,look e t1,look e t2,look e t3,look e t4,look e t5,look e t6,look e t7,look e t8,look e t9)=(some v0,some v1,some v2,some v3,some v4,some v5,some v6,some v7,some v8,some v9)):sub [(t0,v0),(t1,v1),(t2,v2),(t3,v3),(t4,v4),(t5,v5),(t6,v6),(t7,v7),(t8,v8),(t9,v9)] e:=by
 simp only[Prod.mk.injEq] at h
 exact sub.cons h.1 (sub.cons h.2.1 (sub.cons h.2.2.1 (sub.cons h.2.2.2.1 (sub.cons h.2.2.2.2.1 (sub.cons h.2.2.2.2.2.1 (sub.cons h.2.2.2.2.2.2.1 (sub.cons h.2.2.2.2.2.2.2.1 (sub.cons h.2.2.2.2.2.2.2.2.1 (sub.cons h.2.2.2.2.2.2.2.2.2 (sub.nil))))))))))
theorem y11 (t0 t1 t2 t3 t4 t5 t6 t7 t8 t9 t10:Nat) {v0 v1 v2 v3 v4 v5 v6 v7 v8 v9 v10:Value} (h:(look e t0,look e t1,look e t2,look e t3,look e t4,look e t5,look e t6,look e t7,look e t8,look e t9,look e t10)=(some v0,some v1,some v2,some v3,some v4,some v5,some v6,some v7,some v8,some v9,some v10)):sub [(t0,v0),(t1,v1),(t2,v2),(t3,v3),(t4,v4),(t5,v5),(t6,v6),(t7,v7),(t8,v8),(t9,v9),(t10,v10)] e:=by
 simp only[Prod.mk.injEq] at h
 exact sub.cons h.1 (sub.cons h.2.1 (sub.cons h.2.2.1 (sub.cons h.2.2.2.1 (sub.cons h.2.2.2.2.1 (sub.cons h.2.2.2.2.2.1 (sub.cons h.2.2.2.2.2.2.1 (sub.cons h.2.2.2.2.2.2.2.1 (sub.cons h.2.2.2.2.2.2.2.2.1 (sub.cons h.2.2.2.2.2.2.2.2.2.1 (sub.cons h.2.2.2.2.2.2.2.2.2.2 (sub.nil)))))))))))
theorem y12 (t0 t1 t2 t3 t4 t5 t6 t7 t8 t9 t10 t11:Nat) {v0 v1 v2 v3 v4 v5 v6 v7 v8 v9 v10 v11:Value} (h:(look e t0,look e t1,look e t2,look e t3,look e t4,look e t5,look e t6,look e t7,look e t8,look e t9,look e t10,look e t11)=(some v0,some v1,some v2,some v3,some v4,some v5,some v6,some v7,some v8,some v9,some v10,some v11)):sub [(t0,v0),(t1,v1),(t2,v2),(t3,v3),(t4,v4),(t5,v5),(t6,v6),(t7,v7),(t8,v8),(t9,v9),(t10,v10),(t11,v11)] e:=by
 simp only[Prod.mk.injEq] at h
 exact sub.cons h.1 (sub.cons h.2.1 (sub.cons h.2.2.1 (sub.cons h.2.2.2.1 (sub.cons h.2.2.2.2.1 (sub.cons h.2.2.2.2.2.1 (sub.cons h.2.2.2.2.2.2.1 (sub.cons h.2.2.2.2.2.2.2.1 (sub.cons h.2.2.2.2.2.2.2.2.1 (sub.cons h.2.2.2.2.2.2.2.2.2.1 (sub.cons h.2.2.2.2.2.2.2.2.2.2.1 (sub.cons h.2.2.2.2.2.2.2.2.2.2.2 (sub.nil))))))))))))
theorem y13 (t0 t1 t2 t3 t4 t5 t6 t7 t8 t9 t10 t11 t12:Nat) {v0 v1 v2 v3 v4 v5 v6 v7 v8 v9 v10 v11 v12:Value} (h:(look e t0,look e t1,look e t2,look e t3,look e t4,look e t5,look e t6,look e t7,look e t8,look e t9,look e t10,look e t11,look e t12)=(some v0,some v1,some v2,some v3,some v4,some v5,some v6,some v7,some v8,some v9,some v10,some v11,some v12)):sub [(t0,v0),(t1,v1),(t2,v2),(t3,v3),(t4,v4),(t5,v5),(t6,v6),(t7,v7),(t8,v8),(t9,v9),(t10,v10),(t11,v11),(t12,v12)] e:=by
 simp only[Prod.mk.injEq] at h
 exact sub.cons h.1 (sub.cons h.2.1 (sub.cons h.2.2.1 (sub.cons h.2.2.2.1 (sub.cons h.2.2.2.2.1 (sub.cons h.2.2.2.2.2.1 (sub.cons h.2.2.2.2.2.2.1 (sub.cons h.2.2.2.2.2.2.2.1 (sub.cons h.2.2.2.2.2.2.2.2.1 (sub.cons h.2.2.2.2.2.2.2.2.2.1 (sub.cons h.2.2.2.2.2.2.2.2.2.2.1 (sub.cons h.2.2.2.2.2.2.2.2.2.2.2.1 (sub.cons h.2.2.2.2.2.2.2.2.2.2.2.2 (sub.nil)))))))))))))
theorem xc {f:FuncId} {xs:List Operand} {ts:Array TypeId} {vs:List Value} (hf:ev e x=some (.func (.func f) #[] #[])) (hs:evs e xs=some vs) (hc:callable P f=true):∀a,Ok n e a->(execOp a.eval ⟨od,.call ⟨.value x,xs.toArray,ts⟩,ty,pos,af,og⟩).run P w= .ok (.enter f vs.toArray) w:=fun a ha=>nD (ha.ev hf) (ha.evs hs) hc
theorem sc {f:FuncId} {xs:List Operand} {ts:Array TypeId} {vs:List Value} {K:Value->World->Prop} (hf:ev e x=some (.func (.func f) #[] #[])) (hs:evs e xs=some vs) (hc:callable P f=true) (H:Calls P f vs.toArray w (cO K)) (h:∀v w',K v w'->SL P ops Q rest n ((d,v)::e) w') (hlt:Nat.blt d n=true:=by rfl):SL P ops Q (⟨some d,.call ⟨.value x,xs.toArray,ts⟩,ty,pos,af,none⟩::rest) n e w:=Eu rfl hlt (aI rfl) (xc hf hs hc) H h
theorem xb {b:Builtin} {xs:List Operand} {ts:Array TypeId} {vs:List Value} (hx:evs e xs=some vs) (hs:∀cs,(builtin b ts ty cs vs.toArray).run P w= .ok (.value u) w'):∀a,Ok n e a->(execOp a.eval ⟨od,.call ⟨.builtin b,xs.toArray,ts⟩,ty,pos,af,og⟩).run P w= .ok (.value u) w':=fun a ha=>kQ (ha.evs hx) hs
theorem xe {i:Nat} {vs:List Value} (hx:ev e x=some (.tuple vs.toArray)) (hi:vs[i]? =some u):∀a,Ok n e a->(execOp a.eval ⟨od,.extract x i,ty,pos,af,og⟩).run P w= .ok (.value u) w:=fun a ha=>aD6 (ha.ev hx) hi
theorem xs {t:TypeId} (hx:ev e x=some v) (hy:ev e y=some u) (hs:(Instr.storeAt t v u).run P w= .ok () w'):∀a,Ok n e a->(execOp a.eval ⟨od,.store t x y,ty,pos,af,og⟩).run P w= .ok .skip w':=fun a ha=>aOs (ha.ev hx) (ha.ev hy) hs
theorem xt {p:Prop} [Decidable p] (hx:ev e x=some (.bool (decide p))) (h:p):∀a,Ok n e a->(execOp a.eval ⟨od,.move x,ty,pos,af,og⟩).run P w= .ok (.value (.bool true)) w:=fun a ha=>o_t (iC (ha.ev hx)) h
theorem xf {p:Prop} [Decidable p] (hx:ev e x=some (.bool (decide p))) (h:¬p):∀a,Ok n e a->(execOp a.eval ⟨od,.move x,ty,pos,af,og⟩).run P w= .ok (.value (.bool false)) w:=fun a ha=>o_f (iC (ha.ev hx)) h
theorem xu {op:UnOp} {t:TypeId} (hx:ev e x=some v) (hs:(Op.unary op v).run P w= .ok u w):∀a,Ok n e a->(execOp a.eval ⟨od,.unOp op t x,ty,pos,af,og⟩).run P w= .ok (.value u) w:=fun a ha=>aHw (ha.ev hx) hs
theorem xp {t:TypeId} {ps:List (Nat×Operand)} {qs:List (Nat×Value)} (u:Value) (hx:aFi e ps=some qs) (hs:(Instr.build t qs.toArray).run P w= .ok u w:=by kernel_rfl):∀a,Ok n e a->(execOp a.eval ⟨od,.build t ps.toArray,ty,pos,af,og⟩).run P w= .ok (.value u) w:=fun a ha=>aO4 (ha.aFi hx) hs
theorem xl {t:TypeId} {l:Nat} {ps:List (Nat×Operand)} {qs:List (Nat×Value)} (k c:Nat) (ob:Obj) (hx:aFi e ps=some qs) (hs:(Instr.buildSlice t l qs.toArray).run P w= .ok (.slice (some ⟨w.heap.size,0,none⟩) k c) (w.alloc ob):=by kernel_rfl):∀a,Ok n e a->(execOp a.eval ⟨od,.buildSlice t l ps.toArray,ty,pos,af,og⟩).run P w= .ok (.value (.slice (some ⟨w.heap.size,0,none⟩) k c)) (w.alloc ob):=fun a ha=>aIh (ha.aFi hx) hs
theorem sz {oi:Oper} {k c:Nat} {ob:Obj} (hd:oi.dst=some d) (hg:oi.guard=none) (hr:∀a,Ok n e a->(execOp a.eval oi).run P w= .ok (.value (.slice (some ⟨w.heap.size,0,none⟩) k c)) (w.alloc ob)) (h:∀p w',New w ob p w'->SL P ops Q rest n ((d,.slice (some p) k c)::e) w') (hlt:Nat.blt d n=true:=by rfl):SL P ops Q (oi::rest) n e w:=iP (f:=fun p=> .slice (some p) k c) hd hlt (aI hg) hr h
end
end Wk
open Wk
def Ai (K:Bool->World->Prop) (w3:World) (k2:Nat) (I2:Nat->Int->Prop) (x3:Int) (b2:Bool):Prop:=
 (b2=true->(K false w3))/\(b2=false->(∃k3,k3<k2/\I2 k3 (IntKind.wrap .i64 (x3+1))))
def Ym (A1:Option Addr) (n1 c1:Nat) (K:Bool->World->Prop) (w:World):Prop:=
 ∃I1:Nat->Int->World->Prop,(∃k1,I1 k1 0 w)/\∀k1 (x1:Int) (w1:World),I1 k1 x1 w1->((x1<(n1:Int)->(0<=x1/\x1<(n1:Int)/\∃a1,A1=some a1/\∃x2,∃A2 n2 c2,bG w1 (a1.add (x1.toNat*2)) [iv x2,.slice A2 n2 c2]/\∀(p1:Addr) (w2:World),New w1 (.cells #[iv 0,.slice none 0 0] T.fJ) p1 w2->(oH w2 p1 2/\∀w3,w3=cZ w2 p1 [iv x2,.slice A2 n2 c2]->(∃A3 n3 c3,w3.cell? (p1.add 1)=some (.slice A3 n3 c3)/\∃I2:Nat->Int->Prop,(∃k2,I2 k2 0)/\∀k2 (x3:Int),I2 k2 x3->((x3<(n3:Int)->(0<=x3/\x3<(n3:Int)/\∃a2,A3=some a2/\∃x4,w3.cell? (a2.add (x3.toNat*1))=some (iv x4)/\(x4<0->((Ai K w3 k2 I2 x3) true))/\(¬(x4<0)->((Ai K w3 k2 I2 x3) (decide (x1<=x4))))))/\(¬(x3<(n3:Int))->(∃k4,k4<k1/\I1 k4 (IntKind.wrap .i64 (x1+1)) w3)))))))/\(¬(x1<(n1:Int))->(K true w1)))
theorem aHo (A1:Option Addr) (n1 c1:Nat) (K:Bool->World->Prop) (w:World) (H:Ym A1 n1 c1 K w):Calls P F.aAz #[.slice A1 n1 c1] w (cO fun v w'=>∃b1,v=(.bool b1)/\K b1 w'):=by
 unfold Ym at H;refine bT (P:=P) Tryz.func15 rfl [(0,.slice A1 n1 c1)] 30 rfl rfl (fun p hp=>by rcases List.mem_singleton.1 hp with rfl;rfl) (aG (aF (ag rfl (aH (nc (kp 0 rfl zz) (aG (aG (aF (mv rfl (sv rfl rfl (xb rfl (fun _=>bW TF.dS)) (mv rfl (aH (nc (y3 7 8 9 rfl) (aY ?_))))))))))))));obtain⟨I1,⟨k1,hi⟩,H⟩:=H;refine fK (fun k1 a w'=>∃x1,Ok 30 [(7,.slice A1 n1 c1),(8,iv (n1:Int)),(9,iv x1)] a/\I1 k1 x1 w') (fun a ha=>⟨k1,0,ha.weaken cs,hi⟩) ?_;rintro k1 a w1 ⟨x1,ha,hI⟩;replace H:=H k1 x1 w1 hI;refine cu ha ?_;refine aG (aF (bo rfl rfl iY (aH (nc (y4 7 8 9 10 rfl) (aG ?_)))));refine bC rfl (fun hb=> ?_) (fun hb=> ?_)
 ·replace H:=H.1 hb;refine aX (nc (y3 7 8 9 rfl) (aG (aY (aG (aF (mv rfl ?_))))));obtain⟨h1,h2,a1,e1,H⟩:=H;refine ix rfl rfl (aU TF.dN TF.bY e1 h1 h2) ?_;obtain⟨x2,A2,n2,c2,h3,H⟩:=H;refine ld rfl (gW (vs:=[iv x2,.slice A2 n2 c2]) TF.oK TF.bY h3) (iP (f:=(fun p=> .pointer (some p))) rfl rfl (aI rfl) (fun a ha=>mV (nC TF.Ar)) ?_);intro p1 w2 hN;replace H:=H _ _ hN;refine ag rfl ?_;obtain⟨h5,H⟩:=H;refine oO rfl (aI rfl) (xs rfl rfl (kN TF.bY (by simp[Value.oneCell']) h5)) ?_;intro w3 hw;replace H:=H _ hw;clear hw;refine aH (nc (y5 3 4 7 8 9 rfl) (aG (aF (fa rfl (TF.fF _ _) ?_))));obtain⟨A3,n3,c3,h6,H⟩:=H;refine ld rfl (aJ TF.bM h6) (sv rfl rfl (xb rfl (fun _=>bW TF.bP)) (mv rfl (aH (nc (y7 3 7 8 9 15 16 17 rfl) (aY ?_)))));obtain⟨I2,⟨k2,hi⟩,H⟩:=H;refine Au (fun k2 a=>∃x3,Ok 30 [(3,iv x1),(7,.slice A1 n1 c1),(8,iv (n1:Int)),(9,iv x1),(15,.slice A3 n3 c3),(16,iv (n3:Int)),(17,iv x3)] a/\I2 k2 x3) (fun a ha=>⟨k2,0,ha.weaken cs,hi⟩) ?_;rintro k2 a ⟨x3,ha,hI⟩;replace H:=H k2 x3 hI;refine cu ha ?_;refine aG (aF (bo rfl rfl iY (aH (nc (y8 3 7 8 9 15 16 17 18 rfl) (aG ?_)))));refine bC rfl (fun hb=> ?_) (fun hb=> ?_)
  ·replace H:=H.1 hb;refine aX (nc (y7 3 7 8 9 15 16 17 rfl) (aG (aY (aG (aF ?_)))));obtain⟨h7,h8,a2,e2,H⟩:=H;refine ix rfl rfl (aU TF.aV TF.size_int e2 h7 h8) ?_;obtain⟨x4,h9,H⟩:=H;refine ld rfl (aJ TF.aP h9) (ag rfl (aH (nc (y8 3 6 7 8 9 15 16 17 rfl) ?_)));refine fM (fun a=>∃b2,Ok 30 [(3,iv x1),(7,.slice A1 n1 c1),(8,iv (n1:Int)),(9,iv x1),(15,.slice A3 n3 c3),(16,iv (n3:Int)),(17,iv x3),(27,.bool b2)] a/\Ai K w3 k2 I2 x3 b2) ?_ ?_
   ·rintro a ⟨b2,ha,H⟩;unfold Ai at H;refine cu ha ?_;refine eG rfl (fun hb=> ?_) (fun hb=> ?_)
    ·replace H:=H.1 hb;exact aG (aF (ag rfl (aH (nc (kp 2 rfl zz) (bK (bF (aQ (aQ (bF (bF (aQ (aQ (bF (aQ (aN (res1 rfl rfl) ⟨_,rfl,_,rfl,H⟩)))))))))))))))
    ·replace H:=H.2 hb;refine aX (bZ (nc (y7 3 7 8 9 15 16 17 rfl) (aF (bo rfl rfl kC (mv rfl (aH ?_))))));obtain⟨k3,hk,H⟩:=H;exact bD fun a ha=>⟨k3,hk,⟨IntKind.wrap .i64 (x3+1),ha.weaken cs,H⟩,rfl⟩
   ·refine aF (mv rfl (bo rfl rfl iY ?_));rcases Classical.em (x4<0) with hb|hb
    ·replace H:=H.1 hb;exact sv rfl rfl (xt rfl hb) (sk rfl rfl rfl rfl (sk rfl rfl rfl rfl (sk rfl rfl rfl rfl (pt rfl rfl (aH (bD fun a ha=>⟨⟨true,ha.weaken cs,H⟩,rfl⟩))))))
    ·replace H:=H.2 hb;exact sv rfl rfl (xf rfl hb) (Bv rfl rfl rfl (Bv rfl rfl rfl (Qh rfl rfl rfl rfl Kq (pf rfl rfl (aH (bD fun a ha=>⟨⟨(decide (x1<=x4)),ha.weaken cs,H⟩,rfl⟩))))))
  ·replace H:=H.2 hb;refine eU (aT (aT (bQ (bZ (nc (y3 7 8 9 rfl) (aF (bo rfl rfl kC (mv rfl (aH ?_)))))))));obtain⟨k4,hk,H⟩:=H;exact bD fun a ha=>⟨k4,hk,IntKind.wrap .i64 (x1+1),ha.weaken cs,H⟩
 ·replace H:=H.2 hb;exact eU (aT (aT (bQ (nc zz (aG (aF (ag rfl (aH (nc (kp 2 rfl zz) (bK (aN (res1 rfl rfl) ⟨_,rfl,_,rfl,H⟩)))))))))))
abbrev Sm (n:Nat):Prop:=n<=1099511627776
structure Flat where
 fn:Int
 args:List Int
structure Dk where
 kind:Int
 a:Int
 b:Int
 tag:Int
 kids:List Int
def mO:Cod Flat:=⟨2,fun w vs x=>∃A n c,vs=[iv x.fn,.slice A n c]/\Sm n/\Ints w A n x.args,fun k ⟨A,n,c,hv,hs,h⟩=>⟨A,n,c,hv,hs,h.keep k⟩⟩
def Ef:Cod Dk:=⟨5,fun w vs x=>∃A n c,vs=[iv x.kind,iv x.a,iv x.b,iv x.tag,.slice A n c]/\Sm n/\Ints w A n x.kids,fun k ⟨A,n,c,hv,hs,h⟩=>⟨A,n,c,hv,hs,h.keep k⟩⟩
theorem Sl.flat {w:World} {A:Option Addr} {n:Nat} {xs:List Flat} (h:Sl mO w A n xs) {i:Int} (h0:0<=i) (h1:i<n):
  ∃x ad B m c,xs[i.toNat]? =some x/\A=some ad/\bG w (ad.add (i.toNat*2)) [iv x.fn,.slice B m c]/\Sm m/\Ints w B m x.args:=by
 obtain⟨x,ad,vs,hx,hA,hl,hc,B,m,c,hv,hs,hr⟩:=h.at h0 h1
 subst hv
 exact⟨x,ad,B,m,c,hx,hA,hc,hs,hr⟩
theorem Sl.link {w:World} {A:Option Addr} {n:Nat} {xs:List Dk} (h:Sl Ef w A n xs) {i:Int} (h0:0<=i) (h1:i<n):
  ∃x ad B m c,xs[i.toNat]? =some x/\A=some ad/\bG w (ad.add (i.toNat*5)) [iv x.kind,iv x.a,iv x.b,iv x.tag,.slice B m c]/\Sm m/\Ints w B m x.kids:=by
 obtain⟨x,ad,vs,hx,hA,hl,hc,B,m,c,hv,hs,hr⟩:=h.at h0 h1
 subst hv
 exact⟨x,ad,B,m,c,hx,hA,hc,hs,hr⟩
def Sound (fs:List Flat):Prop:=∀(i:Nat) x,fs[i]? =some x->∀(j:Nat) a,x.args[j]? =some a->0<=a/\a<(i:Int)
theorem gI {i:Int} {n:Nat} (h0:0<=i) (h1:i<n) (hn:Sm n):IntKind.wrap .i64 (i+1)=i+1:=wrap_small (by omega) (by unfold Sm at hn;omega)
theorem aIf {w:World} {A:Option Addr} {n:Nat} (c:Nat) {fs:List Flat} (h:Sl mO w A n fs) (hn:Sm n):
  Calls P F.aAz #[.slice A n c] w (cO fun v w'=>∃b,v= .bool b/\(b=true↔Sound fs)/\Ext w w'):=by
 refine aHo A n c (fun b w'=>(b=true↔Sound fs)/\Ext w w') w ?_
 unfold Ym
 refine⟨fun m i w'=>m=n-i.toNat/\0<=i/\i<=n/\(∀(k:Nat),(k:Int)<i->∀x,fs[k]? =some x->∀(j:Nat) a,x.args[j]? =some a->0<=a/\a<(k:Int))/\Ext w w',⟨n,by omega,by omega,by omega,fun k hk=>by omega,Ext.refl w⟩,?_⟩
 rintro m i w1 ⟨rfl,h0,h1,hall,hE⟩
 refine⟨fun hlt=> ?_,fun hge=> ?_⟩
 ·obtain⟨x,ad,B,k,cc,hx,hA,hc,hk,hr⟩:=h.flat h0 hlt
  refine⟨h0,hlt,ad,hA,_,_,_,_,hE.cells hc,?_⟩
  intro p w2 hN
  refine⟨hN.soft rfl,?_⟩
  intro w3 hw3
  have hN:=hN.store hw3 rfl
  have hE3:Ext w w3:=hE.new hN
  refine⟨B,k,cc,hN.cells rfl 1 _ rfl,?_⟩
  refine⟨fun m j=>m=k-j.toNat/\0<=j/\j<=k/\∀(q:Nat),(q:Int)<j->∀a,x.args[q]? =some a->0<=a/\a<i,⟨k,by omega,by omega,by omega,fun q hq=>by omega⟩,?_⟩
  rintro m j ⟨rfl,j0,j1,jall⟩
  refine⟨fun jlt=> ?_,fun jge=> ?_⟩
  ·obtain⟨y,ad',hy,hB,hcell⟩:=hr.int j0 jlt
   refine⟨j0,jlt,ad',hB,y,hE3.cell hcell,?_⟩
   have key:∀b:Bool,(b=true↔¬(0<=y/\y<i))->Ai (fun b w'=>(b=true↔Sound fs)/\Ext w w') w3 (k-j.toNat) (fun m j=>m=k-j.toNat/\0<=j/\j<=k/\∀(q:Nat),(q:Int)<j->∀a,x.args[q]? =some a->0<=a/\a<i) j b:=by
    intro b hb
    refine⟨fun hbt=>⟨?_,hE3⟩,fun hbf=> ?_⟩
    ·refine⟨fun h=>(by cases h),fun hs=> ?_⟩
     have:=hs i.toNat x hx j.toNat y hy
     rw[show((i.toNat:Nat):Int)=i by omega] at this
     exact absurd this (hb.1 hbt)
    ·have hb':0<=y/\y<i:=by
      rcases Classical.em (0<=y/\y<i) with h|h
      ·exact h
      ·rw[hb.2 h] at hbf;cases hbf
     rw[gI j0 jlt hk]
     refine⟨k-(j+1).toNat,by omega,rfl,by omega,by omega,fun q hq a ha=> ?_⟩
     rcases Int.lt_or_eq_of_le (show(q:Int)<=j by omega) with hq|hq
     ·exact jall q hq a ha
     ·rw[show q=j.toNat by omega,hy] at ha
      cases ha
      exact hb'
   refine⟨fun hneg=>key true ⟨fun _=>by omega,fun _=>rfl⟩,fun hneg=>key _ ⟨fun hd=>by have:=of_decide_eq_true hd;omega,fun hd=>decide_eq_true (by omega)⟩⟩
  ·rw[gI h0 hlt hn]
   refine⟨n-(i+1).toNat,by omega,rfl,by omega,by omega,fun q hq z hz j' a ha=> ?_,hE3⟩
   rcases Int.lt_or_eq_of_le (show(q:Int)<=i by omega) with hq|hq
   ·exact hall q hq z hz j' a ha
   ·rw[show q=i.toNat by omega,hx] at hz
    cases hz
    rw[hq]
    refine jall j' ?_ a ha
    have:=(List.getElem?_eq_some_iff.1 ha).1
    have:=hr.1
    omega
 ·refine⟨⟨fun _=>fun k x hx j a ha=> ?_,fun _=>rfl⟩,hE⟩
  refine hall k ?_ x hx j a ha
  have:=(List.getElem?_eq_some_iff.1 hx).1
  have:=h.1
  omega
end Go.Proofs.YtnbakpoahcndpaaGreatDoor
