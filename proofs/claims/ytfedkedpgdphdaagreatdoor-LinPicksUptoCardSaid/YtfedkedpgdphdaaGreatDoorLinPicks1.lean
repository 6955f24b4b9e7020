/- Towards: The law LinPicks answers true at every input whose reading is of bulk at most 1048576, and the input reads as it did; the tables that it reads are tied to the program's text. Gathered by a program (pack.py) out of smaller texts. -/
import Derived.Deep.Quiet
import Derived.Laws.AppendOwn
import Derived.Laws.Slices
import Derived.Laws.Strings
import Derived.Laws.IdiomCopy
import Derived.Tactics
import Derived.KernelRfl
import Derived.Orders
import Derived.Laws.StructEq
import Derived.Test.YtfedkedpgdphdaaGreatDoorProg
import Derived.Laws.OwnMore
set_option linter.unusedSectionVars false
set_option linter.unusedVariables false
set_option linter.unusedSimpArgs false
set_option linter.deprecated false
set_option linter.unnecessarySimpa false
set_option maxHeartbeats 2000000
set_option maxRecDepth 20000
namespace Go.Proofs.YtfedkedpgdphdaaGreatDoor
namespace Wk
abbrev Env:=List (Nat×Value)
def look:Env->Nat->Option Value
 |[],_=>none
 |(t,v)::e,s=>cond (Nat.beq t s) (some v) (look e s)
def ev (e:Env):Operand->Option Value
 | .tmp t=>look e t
 | .const v=>some v
 | .global g=>some (.pointer (some ⟨g,0,none⟩))
 | .func f=>some (.func (.func f) #[] #[])
structure Ok (n:Nat) (e:Env) (a:Act):Prop where
 size:a.tmps.size=n
 defers:a.defers=[]
 look:∀t v,look e t=some v->a.tmps[t]? =some v
theorem Ok.ev {n:Nat} {e:Env} {a:Act} (h:Ok n e a) {x:Operand} {v:Value} (hx:ev e x=some v):a.eval x=v:=by
 cases x with
 |tmp t=>
  have:=h.look t v hx
  simp[Act.eval,this]
 |const c=>simpa [Wk.ev,Act.eval] using hx
 |global g=>simpa [Wk.ev,Act.eval] using hx
 |func f=>simpa [Wk.ev,Act.eval] using hx
theorem Ok.put {n:Nat} {e:Env} {a:Act} (h:Ok n e a) {d:Nat} (hd:Nat.blt d n=true) (v:Value):Ok n ((d,v)::e) (a.put (some d) v):=by
 have hd':d<a.tmps.size:=by rw[h.size];exact Nat.blt_eq.mp hd
 refine⟨by simp[Act.put,h.size],by simp[Act.put,h.defers],fun t u ht=> ?_⟩
 simp only[Wk.look] at ht
 by_cases hdt:d=t
 ·subst hdt
  have hb:Nat.beq d d=true:=Nat.beq_refl d
  rw[hb] at ht
  simp only[cond_true,Option.some.injEq] at ht
  subst ht
  simp[Act.put,hd']
 ·have hb:Nat.beq d t=false:=by
   cases hq:Nat.beq d t with
   |false=>rfl
   |true=>exact absurd (Nat.eq_of_beq_eq_true hq) hdt
  rw[hb] at ht
  simp only[cond_false] at ht
  simp only[Act.put]
  rw[Array.getElem?_setIfInBounds_ne hdt]
  exact h.look t u ht
theorem Ok.aDx {n:Nat} {e:Env} {a:Act} (h:Ok n e a) (v:Value):Ok n e (a.put none v):=h
def sub (e' e:Env):Prop:=∀p∈e',look e p.1=some p.2
theorem sub.nil {e:Env}:sub [] e:=fun _ h=>by cases h
theorem sub.cons {e' e:Env} {t:Nat} {v:Value} (h:look e t=some v) (k:sub e' e):sub ((t,v)::e') e:=fun p hp=>by
 rcases List.mem_cons.1 hp with rfl|hp
 ·exact h
 ·exact k p hp
theorem aD1 {e:Env} {t:Nat} {v:Value} (h:look e t=some v):(t,v)∈e:=by
 induction e with
 |nil=>cases h
 |cons p e ih=>
  obtain⟨s,u⟩:=p
  simp only[look] at h
  cases hb:Nat.beq s t with
  |true=>
   rw[hb] at h
   simp only[cond_true,Option.some.injEq] at h
   have:=Nat.eq_of_beq_eq_true hb
   subst this;subst h
   exact List.mem_cons_self ..
  |false=>
   rw[hb] at h
   exact List.mem_cons_of_mem _ (ih h)
theorem Ok.weaken {n:Nat} {e e':Env} {a:Act} (h:Ok n e a) (k:sub e' e):Ok n e' a:=
 ⟨h.size,h.defers,fun t v ht=>h.look t v (k (t,v) (aD1 ht))⟩
def SL (P:Program) (ops:Array Oper) (Q:Exit->Act->World->Prop) (l:List Oper) (n:Nat) (e:Env) (w:World):Prop:=∀a,Ok n e a->wpList P ops Q l a w
def CW (P:Program) (c:Code) (Q:Exit->Act->World->Prop) (n:Nat) (e:Env) (w:World):Prop:=∀a,Ok n e a->c.wp P Q a w
def NX (Q:Exit->Act->World->Prop) (x:Exit) (n:Nat) (e:Env) (w:World):Prop:=∀a,Ok n e a->Q x a w
section
variable {P:Program} {ops:Array Oper} {Q:Exit->Act->World->Prop} {n:Nat} {e:Env} {w:World} {rest:List Oper}
theorem aC (h:NX Q .normal n e w):SL P ops Q [] n e w:=fun a ha=>wpList_nil (h a ha)
theorem Ou {c:Code} {e':Env} (k:sub e' e) (h:CW P c Q n e' w):CW P c Q n e w:=fun a ha=>h a (ha.weaken k)
theorem aY {f:FuncId} {fn:Func} {c:Code} {args:Array Value} {R:Ending->World->Prop} (hf:P.funcs[f]? =some fn) (hb:fn.body=some c)
  (e:Env) (N:Nat) (hN:fn.ntmps=N) (hs:(Nat.ble args.size N)=true) (he:∀p∈e,args[p.1]? =some p.2)
  (h:CW P c (bodyPost P fn R) N e w):Calls P f args w R:=by
 have hs':args.size<=N:=Nat.ble_eq.mp hs
 refine calls_of_wp hf hb (h _ ⟨by simp[hN];omega,rfl,fun t v ht=> ?_⟩)
 have h1:=he (t,v) (aD1 ht)
 have h2:t<args.size:=(Array.getElem?_eq_some_iff.1 h1).1
 simp only[Array.getElem?_append,h2,if_true]
 exact h1
theorem aB {x y:Code} (h:CW P x (Exit.then (y.wp P Q) Q) n e w):CW P (Code.seq x y) Q n e w:=fun a ha=>wp_seq (h a ha)
theorem dI {x y:Code} (R:Act->World->Prop) (hy:∀a w,R a w->y.wp P Q a w) (h:CW P x (Exit.then R Q) n e w):CW P (Code.seq x y) Q n e w:=fun a ha=>
 wp_seq (wp_mono (h a ha) fun x a w hx=>by cases x<;>first|exact hx|exact hy a w hx)
theorem Gy {y:Code} {Q':Exit->Act->World->Prop} (h:CW P y Q n e w):NX (Exit.then (y.wp P Q) Q') .normal n e w:=h
theorem aT {R:Act->World->Prop} (h:∀a,Ok n e a->R a w):NX (Exit.then R Q) .normal n e w:=h
theorem bQ {id:Nat} (h:NX Q .normal n e w):NX (Exit.inBlock id Q) .normal n e w:=h
theorem aH {id:Nat} {R:Act->World->Prop} (h:NX Q (.exit id) n e w):NX (Exit.then R Q) (.exit id) n e w:=h
theorem aZ {id:Nat} (h:NX Q .normal n e w):NX (Exit.inBlock id Q) (.exit id) n e w:=fun a ha=>by
 have:=h a ha
 simpa [Exit.inBlock] using this
theorem Qb {id id':Nat} (hne:Nat.beq id' id=false) (h:NX Q (.exit id') n e w):NX (Exit.inBlock id Q) (.exit id') n e w:=fun a ha=>by
 have h1:=h a ha
 have hne':id'≠id:=fun h=>by subst h;simp at hne
 simpa [Exit.inBlock,hne'] using h1
theorem aI {R:Act->World->Prop} (h:NX Q .ret n e w):NX (Exit.then R Q) .ret n e w:=h
theorem bF {id:Nat} (h:NX Q .ret n e w):NX (Exit.inBlock id Q) .ret n e w:=h
theorem aV {id:Nat} {c:Code} (h:CW P c (Exit.inBlock id Q) n e w):CW P (Code.block id c) Q n e w:=fun a ha=>wp_block (h a ha)
theorem aN (h:NX Q .normal n e w):CW P Code.skip Q n e w:=fun a ha=>wp_skip (h a ha)
theorem bW {id:Nat} (h:NX Q (.exit id) n e w):CW P (Code.exit id) Q n e w:=fun a ha=>wp_exit (h a ha)
theorem aW (h:NX Q .ret n e w):CW P Code.ret Q n e w:=fun a ha=>wp_ret (h a ha)
theorem dG {c:Operand} {x y:Code} {b:Bool} (hc:ev e c=some (.bool b)) (ht:b=true->CW P x Q n e w) (hf:b=false->CW P y Q n e w):CW P (Code.cond c x y) Q n e w:=fun a ha=>
 wp_cond_split (ha.ev hc) (fun h=>ht h a ha) (fun h=>hf h a ha)
theorem aK {c:Operand} {x y:Code} {p:Prop} [Decidable p] (hc:ev e c=some (.bool (decide p))) (ht:p->CW P x Q n e w) (hf:¬p->CW P y Q n e w):CW P (Code.cond c x y) Q n e w:=
 dG hc (fun h=>ht (of_decide_eq_true h)) (fun h=>hf (of_decide_eq_false h))
theorem aA {id:Nat} {l:List Oper} (h:SL P l.toArray Q l n e w):CW P (Code.region id l.toArray false) Q n e w:=fun a ha=>wp_region_lit (h a ha)
theorem dM {c:Code} (I:Nat->Act->World->Prop) (h0:∀a,Ok n e a->∃m,I m a w)
  (round:∀m a w,I m a w->c.wp P (Exit.then (fun a' w'=>∃m',m'<m/\I m' a' w') Q) a w):CW P (Code.loop c) Q n e w:=by
 intro a ha
 obtain⟨m,hm⟩:=h0 a ha
 clear h0 ha
 intro b k cs
 have key:∀m a w,I m a w->∃x a' w',Q x a' w'/\Arrives P (lone (b.at a (.code c:: .inLoop c::k)) cs w) b k cs x a' w':=by
  intro m
  induction m using Nat.strongRecOn with
  |_ m ih=>
   intro a w hI
   obtain⟨x,a1,w1,hq,harr⟩:=round m a w hI b (.inLoop c::k) cs
   cases x with
   |normal=>
    obtain⟨m',hlt,hI1⟩:=hq
    obtain⟨x2,a2,w2,hq2,harr2⟩:=ih m' hlt a1 w1 hI1
    exact⟨x2,a2,w2,hq2,.of_steps (Steps.trans harr (.one step_inLoop)) harr2⟩
   |exit id=>exact⟨_,a1,w1,hq,.pass (x:= .inLoop c) rfl (fun _ _=> .inl (by simp)) harr⟩
   |goto l=>exact⟨_,a1,w1,hq,.pass (x:= .inLoop c) rfl (fun _ _=> .inl (by simp)) harr⟩
   |ret=>exact⟨_,a1,w1,hq,.pass (x:= .inLoop c) rfl (fun _ _=> .inl (by simp)) harr⟩
   |panic ch=>exact⟨_,a1,w1,hq,.pass (x:= .inLoop c) rfl (fun _ _=> .inl (by simp)) harr⟩
   |outgrown=>exact⟨_,a1,w1,hq,.pass (x:= .inLoop c) rfl (fun _ _=> .inl (by simp)) harr⟩
 obtain⟨x,a',w',hq,harr⟩:=key m a w hm
 exact⟨x,a',w',hq,.of_steps (.one step_loop) harr⟩
def aS (K:Value->World->Prop):Ending->World->Prop:=fun x w=>∃v,x= .returned v/\K v w
theorem aS.mono {f:FuncId} {args:Array Value} {K K':Value->World->Prop} (h:Calls P f args w (aS K)) (k:∀v w',K v w'->K' v w'):Calls P f args w (aS K'):=
 h.mono fun _ _ ⟨v,hv,hk⟩=>⟨v,hv,k v _ hk⟩
theorem aG {fn:Func} {R:Ending->World->Prop} {v:Value} (hr:∀a,Ok n e a->(results fn a.tmps).run P w= .ok v w) (hR:R (.returned v) w):NX (bodyPost P fn R) .ret n e w:=
 fun a ha=>⟨ha.defers,v,hr a ha,hR⟩
theorem Js {fn:Func} {R:Ending->World->Prop} {v:Value} (hr:∀a,Ok n e a->(results fn a.tmps).run P w= .ok v w) (hR:R (.returned v) w):NX (bodyPost P fn R) .normal n e w:=
 fun a ha=>⟨ha.defers,v,hr a ha,hR⟩
theorem Ok.getD {a:Act} (h:Ok n e a) {t:Nat} {v:Value} (ht:Wk.look e t=some v):a.tmps.getD t undef=v:=by
 have:=h.look t v ht
 simp[this]
theorem res0 {fn:Func} (hf:fn.results= #[]):∀a:Act,Ok n e a->(results fn a.tmps).run P w= .ok (.tuple #[]) w:=fun a _=>by simp[results,hf]
theorem res1 {fn:Func} {t:Nat} (hf:fn.results= #[.tmp t]) {v:Value} (ht:look e t=some v):∀a,Ok n e a->(results fn a.tmps).run P w= .ok v w:=fun a ha=>by
 have h:=ha.getD ht
 simp only[results,hf]
 simpa using h
theorem wF {fn:Func} {t u:Nat} (hf:fn.results= #[.tmp t,.tmp u]) {v x:Value} (ht:look e t=some v) (hu:look e u=some x):∀a,Ok n e a->(results fn a.tmps).run P w= .ok (.tuple #[v,x]) w:=fun a ha=>by
 have h:=ha.getD ht
 have k:=ha.getD hu
 simp only[results,hf]
 simp at h k
 simp[h,k]
theorem aH0 {fn:Func} {t u s:Nat} (hf:fn.results= #[.tmp t,.tmp u,.tmp s]) {v x y:Value} (ht:look e t=some v) (hu:look e u=some x) (hs:look e s=some y):∀a,Ok n e a->(results fn a.tmps).run P w= .ok (.tuple #[v,x,y]) w:=fun a ha=>by
 have h:=ha.getD ht
 have k:=ha.getD hu
 have l:=ha.getD hs
 simp only[results,hf]
 simp at h k l
 simp[h,k,l]
theorem aDr {o:Oper} (hw:∀a,Ok n e a->Region.wanted o (yielded ops a.tmps)=true) (h:∀a,Ok n e a->o.wp P a w (wpList P ops Q rest) Q):SL P ops Q (o::rest) n e w:=fun a ha=>by
 unfold wpList
 rw[if_pos (hw a ha)]
 exact .inl (h a ha)
theorem aF {o:Oper} (hg:o.guard=none):∀a,Ok n e a->Region.wanted o (yielded ops a.tmps)=true:=fun a _=>by simp[Region.wanted,hg]
theorem aBs {j s:Nat} {b:Bool} (hs:(ops[j]?).bind (·.dst)=some s) (hb:look e s=some (.bool b)):∀a,Ok n e a->yielded ops a.tmps j=some b:=fun a ha=>by
 have:=ha.look s _ hb
 simp[yielded,hs,this]
theorem cZ {o:Oper} {j s:Nat} {b:Bool} (hg:o.guard=some (j,b)) (hs:(ops[j]?).bind (·.dst)=some s) (hb:look e s=some (.bool b)):∀a,Ok n e a->Region.wanted o (yielded ops a.tmps)=true:=fun a ha=>by
 simp[Region.wanted,hg,aBs hs hb a ha]
theorem tC {o:Oper} {j s:Nat} {b b':Bool} (hg:o.guard=some (j,b)) (hs:(ops[j]?).bind (·.dst)=some s) (hb:look e s=some (.bool b')) (hne:b'= !b):∀a,Ok n e a->Region.wanted o (yielded ops a.tmps)=false:=fun a ha=>by
 subst hne
 cases b<;>simp[Region.wanted,hg,aBs hs hb a ha]
theorem Dj {o:Oper} {d:Nat} (hd:o.dst=some d) (hlt:Nat.blt d n=true) (hw:∀a,Ok n e a->Region.wanted o (yielded ops a.tmps)=false) (h:SL P ops Q rest n ((d,undef)::e) w):SL P ops Q (o::rest) n e w:=fun a ha=>by
 unfold wpList
 rw[if_neg (by rw[hw a ha];simp),hd]
 exact h _ (ha.put hlt _)
theorem qH {o:Oper} {d:Nat} {v:Value} {w':World} (hd:o.dst=some d) (hlt:Nat.blt d n=true) (hw:∀a,Ok n e a->Region.wanted o (yielded ops a.tmps)=true)
  (hr:∀a,Ok n e a->(execOp a.eval o).run P w= .ok (.value v) w') (h:SL P ops Q rest n ((d,v)::e) w'):SL P ops Q (o::rest) n e w:=
 aDr hw fun a ha=>by
  unfold Oper.wp
  rw[hr a ha,Oper.upon_value,hd]
  exact h _ (ha.put hlt v)
theorem aLm {o:Oper} {w':World} (hd:o.dst=none) (hw:∀a,Ok n e a->Region.wanted o (yielded ops a.tmps)=true)
  (hr:∀a,Ok n e a->(execOp a.eval o).run P w= .ok .skip w') (h:SL P ops Q rest n e w'):SL P ops Q (o::rest) n e w:=
 aDr hw fun a ha=>by
  unfold Oper.wp
  rw[hr a ha,Oper.upon_skip,hd]
  exact h _ (ha.aDx _)
theorem uU {o:Oper} {d:Nat} {f:FuncId} {args:Array Value} {K:Value->World->Prop} (hd:o.dst=some d) (hlt:Nat.blt d n=true) (hw:∀a,Ok n e a->Region.wanted o (yielded ops a.tmps)=true)
  (hr:∀a,Ok n e a->(execOp a.eval o).run P w= .ok (.enter f args) w) (hc:Calls P f args w (aS K)) (h:∀v w',K v w'->SL P ops Q rest n ((d,v)::e) w'):SL P ops Q (o::rest) n e w:=
 aDr hw fun a ha=>by
  unfold Oper.wp
  rw[hr a ha,Oper.upon_enter,hd]
  refine hc.mono fun x w' hx=> ?_
  obtain⟨v,rfl,hk⟩:=hx
  exact h v w' hk _ (ha.put hlt v)
end
end Wk
abbrev BB:Nat:=1000000000
def nv:List Nat->Nat
 |[]=>0
 |x::l=>x+BB*nv l
def Lo (l:List Nat):Prop:=∀x∈l,x<BB
structure Pm (l:List Nat):Prop where
 lo:Lo l
 top:∀x,l.getLast? =some x->x≠0
theorem Lo.nil:Lo []:=fun x h=>by cases h
theorem Lo.cons {x:Nat} {l:List Nat} (h:x<BB) (k:Lo l):Lo (x::l):=fun y hy=>by
 rcases List.mem_cons.1 hy with rfl|hy
 ·exact h
 ·exact k y hy
theorem Lo.tail {x:Nat} {l:List Nat} (h:Lo (x::l)):Lo l:=fun y hy=>h y (List.mem_cons_of_mem _ hy)
theorem Lo.head {x:Nat} {l:List Nat} (h:Lo (x::l)):x<BB:=h x (by simp)
theorem Lo.append {l m:List Nat} (h:Lo l) (k:Lo m):Lo (l++m):=fun x hx=>(List.mem_append.1 hx).elim (h x) (k x)
theorem Lo.left {l m:List Nat} (h:Lo (l++m)):Lo l:=fun x hx=>h x (List.mem_append.2 (.inl hx))
theorem Lo.right {l m:List Nat} (h:Lo (l++m)):Lo m:=fun x hx=>h x (List.mem_append.2 (.inr hx))
theorem Lo.take {l:List Nat} (h:Lo l) (k:Nat):Lo (l.take k):=fun x hx=>h x (List.mem_of_mem_take hx)
theorem Lo.drop {l:List Nat} (h:Lo l) (k:Nat):Lo (l.drop k):=fun x hx=>h x (List.mem_of_mem_drop hx)
theorem Nk:∀(l m:List Nat),nv (l++m)=nv l+BB^l.length*nv m
 |[],m=>by simp[nv]
 |x::l,m=>by
  simp only[List.cons_append,nv,Nk l m,List.length_cons,Nat.pow_succ]
  rw[Nat.mul_add,<-Nat.add_assoc,<-Nat.mul_assoc,Nat.mul_comm (BB^l.length) BB]
theorem Dh (l:List Nat) (x:Nat):nv (l++[x])=nv l+BB^l.length*x:=by rw[Nk];simp[nv]
theorem xR:∀{l:List Nat},Lo l->nv l<BB^l.length
 |[],_=>by simp[nv]
 |x::l,h=>by
  have h1:=xR h.tail
  have h2:=h.head
  simp only[nv,List.length_cons,Nat.pow_succ]
  have h3:BB*(nv l+1)<=BB*BB^l.length:=Nat.mul_le_mul_left _ h1
  rw[Nat.mul_add] at h3
  rw[Nat.mul_comm (BB^l.length)]
  omega
theorem Pm.nil:Pm []:=⟨Lo.nil,fun x h=>by cases h⟩
theorem bpos (k:Nat):0<BB^k:=Nat.pow_pos (by decide)
theorem Pm.ge {l:List Nat} (h:Pm l) (hl:l≠[]):BB^(l.length-1)<=nv l:=by
 obtain⟨x,hx⟩:∃x,l.getLast? =some x:=by
  cases hq:l.getLast? with
  |none=>exact absurd (List.getLast?_eq_none_iff.1 hq) hl
  |some x=>exact⟨x,rfl⟩
 have hne:=h.top x hx
 obtain⟨m,rfl⟩:∃m,l=m++[x]:=List.getLast?_eq_some_iff.1 hx
 rw[Dh]
 simp only[List.length_append,List.length_singleton,Nat.add_sub_cancel]
 have:BB^m.length*1<=BB^m.length*x:=Nat.mul_le_mul_left _ (by omega)
 omega
theorem Pm.pos {l:List Nat} (h:Pm l) (hl:l≠[]):0<nv l:=Nat.lt_of_lt_of_le (bpos _) (h.ge hl)
theorem Pm.zero {l:List Nat} (h:Pm l):nv l=0↔l=[]:=⟨fun e=>Classical.byContradiction fun hl=>by have:=h.pos hl;omega,fun e=>by rw[e];rfl⟩
theorem Pm.aDe {l m:List Nat} (h:Pm l) (k:Pm m) (hlt:l.length<m.length):nv l<nv m:=by
 have h1:=xR h.lo
 have h2:=k.ge (by intro e;rw[e] at hlt;simp at hlt)
 have h3:BB^l.length<=BB^(m.length-1):=Nat.pow_le_pow_right (by decide) (by omega)
 omega
theorem aJ7 {p q s:List Nat} {x y:Nat} (hp:Lo p) (hq:Lo q) (hl:p.length=q.length) (hxy:x<y):nv (p++x::s)<nv (q++y::s):=by
 rw[Nk,Nk]
 simp only[nv]
 have h1:=xR hp
 rw[hl] at h1⊢
 rw[Nat.mul_add,Nat.mul_add]
 have h2:BB^q.length*(x+1)<=BB^q.length*y:=Nat.mul_le_mul_left _ hxy
 rw[Nat.mul_add,Nat.mul_one] at h2
 omega
theorem aIr:∀{l m:List Nat},Lo l->Lo m->l.length=m.length->nv l=nv m->l=m
 |[],[],_,_,_,_=>rfl
 |[],_::_,_,_,h,_=>by simp at h
 |_::_,[],_,_,h,_=>by simp at h
 |x::l,y::m,h,k,hl,e=>by
  simp only[nv] at e
  have h1:=h.head
  have h2:=k.head
  have e1:x=y:=by
   have a:(x+BB*nv l)%BB=x:=by rw[Nat.add_mul_mod_self_left];exact Nat.mod_eq_of_lt h1
   have b:(y+BB*nv m)%BB=y:=by rw[Nat.add_mul_mod_self_left];exact Nat.mod_eq_of_lt h2
   rw[<-a,e,b]
  subst e1
  have e2:nv l=nv m:=Nat.eq_of_mul_eq_mul_left (by decide:0<BB) (by omega)
  rw[aIr h.tail k.tail (by simpa using hl) e2]
theorem Pm.inj {l m:List Nat} (h:Pm l) (k:Pm m) (e:nv l=nv m):l=m:=by
 rcases Nat.lt_trichotomy l.length m.length with q|q|q
 ·have:=h.aDe k q;omega
 ·exact aIr h.lo k.lo q e
 ·have:=k.aDe h q;omega
def lg (l:List Nat) (i:Nat):Nat:=l.getD i 0
theorem Zu {l:List Nat} {i x:Nat} (h:l[i]? =some x):lg l i=x:=by unfold lg;rw[List.getD_eq_getElem?_getD,h];rfl
theorem aCb {l:List Nat} {i:Nat} (h:i<l.length):l[i]? =some (lg l i):=by rw[Zu (List.getElem?_eq_getElem h)];exact List.getElem?_eq_getElem h
theorem Ox {l:List Nat} {i:Nat} (h:l.length<=i):lg l i=0:=by unfold lg;rw[List.getD_eq_getElem?_getD,List.getElem?_eq_none h];rfl
theorem Lo.lg {l:List Nat} (h:Lo l) (i:Nat):lg l i<BB:=by
 rcases Nat.lt_or_ge i l.length with q|q
 ·exact h _ (List.mem_of_getElem? (aCb q))
 ·rw[Ox q];decide
theorem jX (l:List Nat) (i:Nat):nv (l.take (i+1))=nv (l.take i)+BB^i*lg l i:=by
 rcases Nat.lt_or_ge i l.length with q|q
 ·rw[List.take_add_one,aCb q,Option.toList_some,Dh,List.length_take,Nat.min_eq_left (by omega)]
 ·rw[Ox q,List.take_of_length_le (by omega),List.take_of_length_le q,Nat.mul_zero,Nat.add_zero]
theorem Pq (l:List Nat) (i:Nat) (h:i<l.length):nv (l.drop i)=lg l i+BB*nv (l.drop (i+1)):=by
 rw[List.drop_eq_getElem_cons h]
 simp only[nv]
 rw[Zu (List.getElem?_eq_getElem h)]
theorem xN (l:List Nat) (i:Nat) (h:i<=l.length):nv l=nv (l.take i)+BB^i*nv (l.drop i):=by
 have:=Nk (l.take i) (l.drop i)
 rw[List.take_append_drop,List.length_take,Nat.min_eq_left h] at this
 exact this
theorem aHc {l:List Nat} (h:Lo l) (hge:l=[]\/BB^(l.length-1)<=nv l):Pm l:=by
 refine⟨h,fun x hx e=> ?_⟩
 obtain⟨m,rfl⟩:=List.getLast?_eq_some_iff.1 hx
 rcases hge with q|q
 ·simp at q
 ·rw[Dh,e] at q
  simp only[List.length_append,List.length_singleton,Nat.add_sub_cancel,Nat.mul_zero,Nat.add_zero] at q
  have:=xR (h.left)
  omega
theorem aC6:∀(l:List Nat) (k v:Nat),k<l.length->nv (l.set k v)+BB^k*lg l k=nv l+BB^k*v
 |[],_,_,h=>by simp at h
 |x::l,0,v,_=>by simp[nv,lg];omega
 |x::l,k+1,v,h=>by
  have ih:=aC6 l k v (by simpa using h)
  have e:lg (x::l) (k+1)=lg l k:=by simp[lg]
  rw[e]
  simp only[List.set_cons_succ,nv,Nat.pow_succ]
  have:BB*(nv (l.set k v)+BB^k*lg l k)=BB*(nv l+BB^k*v):=by rw[ih]
  rw[Nat.mul_add,Nat.mul_add,<-Nat.mul_assoc,<-Nat.mul_assoc,Nat.mul_comm BB (BB^k)] at this
  omega
theorem Lo.set {l:List Nat} (h:Lo l) {k v:Nat} (hv:v<BB):Lo (l.set k v):=fun x hx=>by
 rcases List.mem_or_eq_of_mem_set hx with q|q
 ·exact h x q
 ·rw[q];exact hv
theorem Rt {l:List Nat} {k v i:Nat} (hk:k<l.length):lg (l.set k v) i=if i=k then v else lg l i:=by
 unfold lg
 rw[List.getD_eq_getElem?_getD,List.getElem?_set,List.getD_eq_getElem?_getD]
 by_cases h:k=i
 ·subst h;simp[hk]
 ·rw[if_neg h,if_neg (fun q=>h q.symm)]
theorem Jz (i d c:Nat):BB^i*d+BB^(i+1)*c=BB^i*(d+BB*c):=by rw[Nat.mul_add,Nat.pow_succ,Nat.mul_assoc]
theorem aHn {x y o:List Nat} {i c d c':Nat} (ho:o.length=i) (h:nv o+BB^i*c=nv (x.take i)+nv (y.take i)) (hd:d+BB*c'=lg x i+lg y i+c):
  nv (o++[d])+BB^(i+1)*c'=nv (x.take (i+1))+nv (y.take (i+1)):=by
 rw[Dh,ho,Nat.add_assoc,Jz,hd,jX,jX,Nat.mul_add,Nat.mul_add]
 omega
theorem aJo {x y o:List Nat} {c:Nat} (hx:Pm x) (hle:y.length<=x.length) (ho:o.length=x.length) (lo:Lo o) (hc:c<=1) (h:nv o+BB^x.length*c=nv (x.take x.length)+nv (y.take x.length)):
  (c=0->Pm o/\nv o=nv x+nv y)/\(c=1->Pm (o++[1])/\nv (o++[1])=nv x+nv y):=by
 rw[List.take_length,List.take_of_length_le hle] at h
 refine⟨fun e=> ?_,fun e=> ?_⟩
 ·rw[e,Nat.mul_zero,Nat.add_zero] at h
  refine⟨aHc lo ?_,h⟩
  by_cases hn:x=[]
  ·left
   rw[hn] at ho
   exact List.eq_nil_of_length_eq_zero (by simpa using ho)
  ·right
   have:=hx.ge hn
   rw[ho]
   omega
 ·rw[e] at h
  refine⟨⟨lo.append (Lo.cons (by decide) Lo.nil),fun z hz=>by rw[List.getLast?_concat] at hz;cases hz;decide⟩,by rw[Dh,ho];exact h⟩
theorem aEu {x y o:List Nat} {i b d b':Nat} (ho:o.length=x.length) (hi:i<x.length) (h:nv (o.take i)+nv (y.take i)=nv (x.take i)+BB^i*b) (hd:d+lg y i+b=lg x i+BB*b'):
  nv ((o.set i d).take (i+1))+nv (y.take (i+1))=nv (x.take (i+1))+BB^(i+1)*b':=by
 rw[jX,jX y,jX x,Rt (by omega),if_pos rfl]
 have e:(o.set i d).take i=o.take i:=by rw[List.take_set_of_le (by omega)]
 rw[e]
 have:BB^i*(d+lg y i+b)=BB^i*(lg x i+BB*b'):=by rw[hd]
 rw[Nat.mul_add,Nat.mul_add,Nat.mul_add,<-Nat.mul_assoc] at this
 rw[Nat.pow_succ]
 omega
theorem aGp {x y o:List Nat} {b:Nat} (ho:o.length=x.length) (lo:Lo o) (hle:y.length<=x.length) (hv:nv y<=nv x) (h:nv (o.take x.length)+nv (y.take x.length)=nv (x.take x.length)+BB^x.length*b):
  b=0/\nv o=nv x-nv y:=by
 rw[List.take_length,List.take_of_length_le hle,List.take_of_length_le (by omega)] at h
 have h1:=xR lo
 rw[ho] at h1
 have hb:b=0:=by
  rcases Nat.eq_zero_or_pos b with q|q
  ·exact q
  ·have:=Nat.mul_le_mul_left (BB^x.length) q
   omega
 rw[hb] at h
 exact⟨hb,by omega⟩
theorem aAr {x y:List Nat} (hx:Pm x) (hy:Pm y):(x.length<y.length->nv x<nv y)/\(y.length<x.length->nv y<nv x):=⟨hx.aDe hy,hy.aDe hx⟩
theorem Yd {x y:List Nat} {i:Nat} (hx:Lo x) (hy:Lo y) (hl:x.length=y.length) (hi:i<x.length) (h:x.drop (i+1)=y.drop (i+1)) (hlt:lg x i<lg y i):nv x<nv y:=by
 have ex:x=x.take i++lg x i::x.drop (i+1):=by
  conv=>lhs;rw[<-List.take_append_drop i x,List.drop_eq_getElem_cons hi]
  rw[Zu (List.getElem?_eq_getElem hi)]
 have hi':i<y.length:=by omega
 have ey:y=y.take i++lg y i::y.drop (i+1):=by
  conv=>lhs;rw[<-List.take_append_drop i y,List.drop_eq_getElem_cons hi']
  rw[Zu (List.getElem?_eq_getElem hi')]
 rw[ex,ey,<-h]
 exact aJ7 (hx.take i) (hy.take i) (by rw[List.length_take,List.length_take];omega) hlt
theorem aE1 {o y:List Nat} {i j a c d c':Nat} {V:Nat} (hk:i+j<o.length) (h:nv o+BB^(i+j)*c=V+BB^i*(a*nv (y.take j))) (hd:d+BB*c'=a*lg y j+lg o (i+j)+c):
  nv (o.set (i+j) d)+BB^(i+(j+1))*c'=V+BB^i*(a*nv (y.take (j+1))):=by
 have h1:=aC6 o (i+j) d hk
 rw[jX,Nat.mul_add a,Nat.mul_add (BB^i),<-Nat.add_assoc V,<-h]
 have h2:BB^i*(a*(BB^j*lg y j))=BB^(i+j)*(a*lg y j):=by
  rw[Nat.pow_add,Nat.mul_left_comm a,Nat.mul_assoc]
 have h3:BB^(i+j)*d+BB^(i+(j+1))*c'=BB^(i+j)*(a*lg y j+lg o (i+j)+c):=by rw[<-hd,<-Jz,Nat.add_assoc i j 1]
 rw[Nat.mul_add,Nat.mul_add] at h3
 rw[h2]
 omega
theorem aEd {a b o c d c':Nat} (ha:a<BB) (hb:b<BB) (ho:o<BB) (hc:c<BB) (hd:d+BB*c'=a*b+o+c) (hd1:d<BB):c'<BB/\a*b+o+c<BB*BB:=by
 have h1:a*b<=(BB-1)*(BB-1):=Nat.mul_le_mul (by omega) (by omega)
 have h2:a*b+o+c<BB*BB:=by
  have:(BB-1)*(BB-1)+(BB-1)+(BB-1)<BB*BB:=by decide
  omega
 refine⟨?_,h2⟩
 refine Nat.lt_of_mul_lt_mul_left (a:=BB) ?_
 omega
theorem aAx {x o:List Nat} {i r q r' dv:Nat} (ho:o.length=x.length) (hi:i<x.length) (h:nv (x.drop (i+1))=dv*nv (o.drop (i+1))+r) (hq:r*BB+lg x i=dv*q+r'):
  nv (x.drop i)=dv*nv ((o.set i q).drop i)+r':=by
 rw[Pq x i hi,Pq _ i (by rw[List.length_set];omega),Rt (by omega),if_pos rfl,List.drop_set_of_lt (by omega),h]
 have:BB*(dv*nv (o.drop (i+1))+r)=dv*(BB*nv (o.drop (i+1)))+r*BB:=by rw[Nat.mul_add,Nat.mul_left_comm,Nat.mul_comm r]
 rw[this,Nat.mul_add]
 omega
def Dg (c:UInt8):Prop:=48<=c.toNat/\c.toNat<=57
def dg (c:UInt8):Nat:=c.toNat-48
def Ls (l:List UInt8):Prop:=∀c∈l,Dg c
def dv (l:List UInt8):Nat:=l.foldl (fun a c=>a*10+dg c) 0
theorem Dg.lt {c:UInt8} (h:Dg c):dg c<10:=by unfold dg;have:=h.2;omega
theorem Dg.inj {c d:UInt8} (h:Dg c) (k:Dg d) (e:dg c=dg d):c=d:=by
 unfold dg at e
 exact UInt8.toNat_inj.1 (by have:=h.1;have:=k.1;omega)
theorem aJq (l:List UInt8):∀a,l.foldl (fun a c=>a*10+dg c) a=a*10^l.length+dv l:=by
 induction l with
 |nil=>intro a;simp[dv]
 |cons c l ih=>
  intro a
  unfold dv
  simp only[List.foldl_cons,List.length_cons]
  rw[ih,ih (0*10+dg c),Nat.pow_succ,Nat.add_mul,Nat.zero_mul,Nat.zero_add,Nat.mul_assoc,Nat.mul_comm 10,Nat.add_assoc]
theorem Uk (l m:List UInt8):dv (l++m)=dv l*10^m.length+dv m:=by
 unfold dv
 rw[List.foldl_append]
 exact aJq m _
theorem Oo (c:UInt8) (l:List UInt8):dv (c::l)=dg c*10^l.length+dv l:=by
 have:=Uk [c] l
 simpa [dv] using this
theorem aGa (l:List UInt8) (c:UInt8):dv (l++[c])=dv l*10+dg c:=by rw[Uk];simp[dv]
theorem Ls.tail {c:UInt8} {l:List UInt8} (h:Ls (c::l)):Ls l:=fun x hx=>h x (List.mem_cons_of_mem _ hx)
theorem Ls.head {c:UInt8} {l:List UInt8} (h:Ls (c::l)):Dg c:=h c (by simp)
theorem Xp:∀{l:List UInt8},Ls l->dv l<10^l.length
 |[],_=>by simp[dv]
 |c::l,h=>by
  have h1:=Xp h.tail
  have h2:=h.head.lt
  rw[Oo,List.length_cons,Nat.pow_succ]
  have:dg c*10^l.length<=9*10^l.length:=Nat.mul_le_mul_right _ (by omega)
  omega
theorem aIc:∀{l m:List UInt8},Ls l->Ls m->l.length=m.length->dv l=dv m->l=m
 |[],[],_,_,_,_=>rfl
 |[],_::_,_,_,h,_=>by simp at h
 |_::_,[],_,_,h,_=>by simp at h
 |c::l,d::m,h,k,hl,e=>by
  have hl':l.length=m.length:=by simpa using hl
  rw[Oo,Oo,hl'] at e
  have h1:=Xp h.tail
  have k1:=Xp k.tail
  rw[hl'] at h1
  have e1:dg c=dg d:=by
   have a:(dg c*10^m.length+dv l)/10^m.length=dg c:=by rw[Nat.mul_comm,Nat.mul_add_div (Nat.pow_pos (by decide)),Nat.div_eq_of_lt h1,Nat.add_zero]
   have b:(dg d*10^m.length+dv m)/10^m.length=dg d:=by rw[Nat.mul_comm,Nat.mul_add_div (Nat.pow_pos (by decide)),Nat.div_eq_of_lt k1,Nat.add_zero]
   rw[<-a,e,b]
  have e2:dv l=dv m:=by rw[e1] at e;omega
  rw[h.head.inj k.head e1,aIc h.tail k.tail hl' e2]
structure wZ (l:List UInt8) (n:Nat):Prop where
 ne:l≠[]
 ds:Ls l
 hd:l=[48]\/l.head?≠some 48
 val:dv l=n
theorem wZ.pos {l:List UInt8} {n:Nat} (h:wZ l n) (hn:n≠0):10^(l.length-1)<=n:=by
 obtain⟨h1,h2,h3,rfl⟩:=h
 cases l with
 |nil=>exact absurd rfl h1
 |cons c l=>
  rw[Oo]
  simp only[List.length_cons,Nat.add_sub_cancel]
  have hc:dg c≠0:=fun e=>by
   have:c=48:=(h2.head).inj ⟨by decide,by decide⟩ (by rw[e];rfl)
   subst this
   rcases h3 with q|q
   ·simp only[List.cons.injEq,true_and] at q
    subst q
    exact hn rfl
   ·exact q rfl
  have:1*10^l.length<=dg c*10^l.length:=Nat.mul_le_mul_right _ (by omega)
  omega
theorem wZ.zero {l:List UInt8} (h:wZ l 0):l=[48]:=by
 obtain⟨h1,h2,h3,h4⟩:=h
 rcases h3 with q|q
 ·exact q
 ·cases l with
  |nil=>exact absurd rfl h1
  |cons c l=>
   exfalso
   rw[Oo] at h4
   have hc:dg c=0:=by
    rcases Nat.eq_zero_or_pos (dg c) with e|e
    ·exact e
    ·have:0<dg c*10^l.length:=Nat.mul_pos e (Nat.pow_pos (by decide))
     omega
   exact q (by rw[(h2.head).inj (d:=48) ⟨by decide,by decide⟩ (by rw[hc];rfl)];rfl)
theorem wZ.uniq {l m:List UInt8} {n:Nat} (h:wZ l n) (k:wZ m n):l=m:=by
 by_cases hn:n=0
 ·subst hn
  rw[h.zero,k.zero]
 ·have h1:=h.pos hn
  have k1:=k.pos hn
  have h2:=Xp h.ds
  have k2:=Xp k.ds
  rw[h.val] at h2
  rw[k.val] at k2
  have hl:0<l.length:=List.length_pos_iff.2 h.ne
  have kl:0<m.length:=List.length_pos_iff.2 k.ne
  refine aIc h.ds k.ds ?_ (h.val.trans k.val.symm)
  rcases Nat.lt_trichotomy l.length m.length with q|q|q
  ·have:10^l.length<=10^(m.length-1):=Nat.pow_le_pow_right (by decide) (by omega)
   omega
  ·exact q
  ·have:10^m.length<=10^(l.length-1):=Nat.pow_le_pow_right (by decide) (by omega)
   omega
def Vz (q:Rat) (a b:List UInt8):List UInt8:=(if q.num<0 then [45] else [])++a++(if q.den=1 then [] else 47::b)
def jG (l:List UInt8) (q:Rat):Prop:=∃a b,l=Vz q a b/\wZ a q.num.natAbs/\wZ b q.den
theorem jG.uniq {l m:List UInt8} {q:Rat} (h:jG l q) (k:jG m q):l=m:=by
 obtain⟨a,b,rfl,h1,h2⟩:=h
 obtain⟨c,d,rfl,k1,k2⟩:=k
 rw[h1.uniq k1,h2.uniq k2]
theorem aFw {a c:List UInt8} {x y:List UInt8} (ha:Ls a) (hc:Ls c) (hx:∀z,x.head? =some z->¬Dg z) (hy:∀z,y.head? =some z->¬Dg z) (e:a++x=c++y):a=c/\x=y:=by
 induction a generalizing c with
 |nil=>
  cases c with
  |nil=>exact⟨rfl,e⟩
  |cons d c=>
   exfalso
   simp only[List.nil_append] at e
   exact hx d (by rw[e];rfl) (hc.head)
 |cons b a ih=>
  cases c with
  |nil=>
   exfalso
   simp only[List.nil_append] at e
   exact hy b (by rw[<-e];rfl) ha.head
  |cons d c=>
   simp only[List.cons_append,List.cons.injEq] at e
   obtain⟨e1,e2⟩:=ih ha.tail hc.tail e.2
   exact⟨by rw[e.1,e1],e2⟩
theorem aGi {c:UInt8} (h:c=45\/c=47):¬Dg c:=by
 rintro⟨h1,h2⟩
 rcases h with rfl|rfl
 ·exact absurd h1 (by decide)
 ·exact absurd h1 (by decide)
theorem jG.inj {l:List UInt8} {q r:Rat} (h:jG l q) (k:jG l r):q=r:=by
 obtain⟨a,b,rfl,h1,h2⟩:=h
 obtain⟨c,d,e,k1,k2⟩:=k
 unfold Vz at e
 have tl:∀(s:Rat) (b:List UInt8),∀z,(if s.den=1 then [] else 47::b).head? =some z->¬Dg z:=fun s b z hz=>by
  split at hz
  ·cases hz
  ·cases hz;exact aGi (.inr rfl)
 have Ew:(q.num<0↔r.num<0)/\a++(if q.den=1 then [] else 47::b)=c++(if r.den=1 then [] else 47::d):=by
  have hd:∀{x:List UInt8} {n:Nat},wZ x n->∀t u,x++t≠45::u:=fun {x n} hx t u e=>by
   cases x with
   |nil=>exact hx.ne rfl
   |cons y x=>
    simp only[List.cons_append,List.cons.injEq] at e
    exact aGi (.inl e.1) hx.ds.head
  by_cases h0:q.num<0<;>by_cases k0:r.num<0
  ·rw[if_pos h0,if_pos k0] at e
   simp only[List.cons_append,List.nil_append,List.cons.injEq,true_and] at e
   exact⟨⟨fun _=>k0,fun _=>h0⟩,e⟩
  ·rw[if_pos h0,if_neg k0] at e
   simp only[List.cons_append,List.nil_append] at e
   exact absurd e.symm (hd k1 _ _)
  ·rw[if_neg h0,if_pos k0] at e
   simp only[List.cons_append,List.nil_append] at e
   exact absurd e (hd h1 _ _)
  ·rw[if_neg h0,if_neg k0] at e
   simp only[List.nil_append] at e
   exact⟨⟨fun q=>absurd q h0,fun q=>absurd q k0⟩,e⟩
 obtain⟨e1,e2⟩:=aFw h1.ds k1.ds (tl q b) (tl r d) Ew.2
 have en:q.num=r.num:=by
  have:q.num.natAbs=r.num.natAbs:=by rw[<-h1.val,<-k1.val,e1]
  have:=Ew.1
  omega
 have ed:q.den=r.den:=by
  by_cases h0:q.den=1<;>by_cases k0:r.den=1
  ·rw[h0,k0]
  ·rw[if_pos h0,if_neg k0] at e2;cases e2
  ·rw[if_neg h0,if_pos k0] at e2;cases e2
  ·rw[if_neg h0,if_neg k0] at e2
   simp only[List.cons.injEq,true_and] at e2
   rw[<-h2.val,<-k2.val,e2]
 exact Rat.ext en ed
def sg (s:Bool) (n:Nat):Int:=if s then-(n:Int) else n
theorem aBj (n:Nat):sg true n= -(n:Int):=rfl
theorem aAl (n:Nat):sg false n=n:=rfl
theorem La (s:Bool) (n:Nat):(sg s n).natAbs=n:=by cases s<;>simp[sg]
theorem aKt (s:Bool) (n:Nat): -sg s n=sg (!s) n:=by cases s<;>simp[sg]
theorem aCs (s:Bool) (a b:Nat):sg s a+sg s b=sg s (a+b):=by cases s<;>simp[sg]<;>omega
theorem aHp {s t:Bool} (h:s≠t) {a b:Nat} (k:b<=a):sg s a+sg t b=sg s (a-b):=by cases s<;>cases t<;>simp[sg] at h⊢<;>omega
theorem aIg {s t:Bool} (h:s≠t) {a b:Nat} (k:a<=b):sg s a+sg t b=sg t (b-a):=by cases s<;>cases t<;>simp[sg] at h⊢<;>omega
theorem aAs (s:Bool) (a b:Nat):sg s a*(b:Int)=sg s (a*b):=by cases s<;>simp[sg,Int.neg_mul]
theorem aHy (s t:Bool) (a b:Nat):sg s a*sg t b=sg (s !=t) (a*b):=by cases s<;>cases t<;>simp[sg,Int.neg_mul,Int.mul_neg]
theorem aHw (s:Bool) (n g:Nat) (hg:g∣n) (h0:g≠0):sg s n/(g:Int)=sg s (n/g):=by
 obtain⟨k,rfl⟩:=hg
 rw[Nat.mul_div_cancel_left k (Nat.pos_of_ne_zero h0)]
 have h0':(g:Int)≠0:=by omega
 cases s
 ·simp only[aAl,Int.natCast_mul]
  exact Int.mul_ediv_cancel_left _ h0'
 ·simp only[aBj,Int.natCast_mul,<-Int.mul_neg]
  exact Int.mul_ediv_cancel_left _ h0'
structure RQ (s:Bool) (n d:Nat) (q:Rat):Prop where
 num:q.num=sg s n
 den:q.den=d
 neg:s=true->n≠0
section
variable {s t:Bool} {n d m e:Nat} {q r:Rat}
theorem RQ.abs (h:RQ s n d q):q.num.natAbs=n:=by rw[h.num,La]
theorem RQ.d0 (h:RQ s n d q):d≠0:=by rw[<-h.den];exact q.den_nz
theorem RQ.cop (h:RQ s n d q):n.gcd d=1:=by have:=q.reduced;rwa [h.abs,h.den] at this
theorem RQ.lt0 (h:RQ s n d q):q.num<0↔s=true:=by
 rw[h.num]
 have:=h.neg
 cases s
 ·simp[sg]
 ·have:=this rfl
  simp[sg]
  omega
theorem RQ.of (q:Rat):RQ (decide (q.num<0)) q.num.natAbs q.den q:=by
 refine⟨?_,rfl,fun h=> ?_⟩
 ·by_cases h:q.num<0
  ·rw[decide_eq_true h,aBj];omega
  ·rw[decide_eq_false h,aAl];omega
 ·have:=of_decide_eq_true h
  omega
theorem RQ.uniq (h:RQ s n d q) (k:RQ t m e q):s=t/\n=m/\d=e:=by
 refine⟨?_,by rw[<-h.abs,<-k.abs],by rw[<-h.den,<-k.den]⟩
 have:=h.lt0.symm.trans k.lt0
 exact Bool.eq_iff_iff.2 this
theorem RQ.inj (h:RQ s n d q) (k:RQ s n d r):q=r:=Rat.ext (h.num.trans k.num.symm) (h.den.trans k.den.symm)
theorem RQ.aLe (h:RQ s n d q):q=mkRat (sg s n) d:=by rw[<-h.num,<-h.den,Rat.mkRat_self]
theorem RQ.zero:RQ false 0 1 0:=⟨rfl,rfl,fun h=>by cases h⟩
theorem RQ.put (s:Bool) (hn:n≠0) (hd:d≠0):RQ s (n/n.gcd d) (d/n.gcd d) (mkRat (sg s n) d):=by
 have hg:n.gcd d≠0:=fun h=>hn (Nat.gcd_eq_zero_iff.1 h).1
 refine⟨?_,?_,fun _ h=> ?_⟩
 ·rw[Rat.num_mkRat,if_neg hd,La,Nat.gcd_comm]
  exact aHw s n _ (Nat.gcd_dvd_left _ _) hg
 ·rw[Rat.den_mkRat,if_neg hd,La,Nat.gcd_comm]
 ·have:=Nat.div_mul_cancel (Nat.gcd_dvd_left n d)
  rw[h,Nat.zero_mul] at this
  exact hn this.symm
theorem RQ.aLg (hd:d≠0):mkRat (sg s 0) d=0:=by
 have:sg s 0=0:=by cases s<;>rfl
 rw[this,Rat.zero_mkRat]
theorem RQ.is0 (h:RQ s n d q):q=0↔n=0:=by
 rw[<-Rat.num_eq_zero,<-h.abs]
 omega
theorem RQ.aJx (h:RQ s n d q) (k:RQ t m e r):q+r=mkRat (sg s (n*e)+sg t (m*d)) (d*e):=by
 rw[Rat.add_def',h.num,h.den,k.num,k.den,aAs,aAs]
theorem RQ.aLq (h:RQ s n d q) (k:RQ t m e r):q*r=mkRat (sg (s !=t) (n*m)) (d*e):=by
 rw[Rat.mul_def',h.num,h.den,k.num,k.den,aHy]
theorem RQ.opp (h:RQ s n d q):RQ (!s&&decide (n≠0)) n d (-q):=by
 refine⟨?_,by rw[Rat.neg_den];exact h.den,fun hh=> ?_⟩
 ·rw[Rat.neg_num,h.num,aKt]
  by_cases h0:n=0
  ·subst h0
   cases s<;>simp[sg]
  ·simp[h0]
 ·simp at hh
  exact hh.2
theorem RQ.aK6 (h:RQ s n d q):q⁻¹=mkRat (sg s d) n:=by
 rw[Rat.inv_def,h.num,h.den]
 cases s
 ·rw[aAl,aAl,Rat.divInt_ofNat]
 ·rw[aBj,aBj,Rat.divInt_neg',Rat.divInt_ofNat]
theorem RQ.aK1 (h:RQ s n d q) (k:RQ t m e r):q/r=mkRat (sg (s !=t) (n*e)) (d*m):=by
 rw[Rat.div_def,k.aK6,h.aLe,Rat.mkRat_mul_mkRat,aHy]
theorem RQ.lt_ (h:RQ s n d q) (k:RQ t m e r):q<r↔sg s (n*e)<sg t (m*d):=by
 rw[Rat.lt_iff,h.num,h.den,k.num,k.den,aAs,aAs]
def Ew (q:Rat):Int:=if q.num<0 then-1 else if q.num=0 then 0 else 1
theorem RQ.aKm (h:RQ s n d q):Ew q=if s then-1 else if n=0 then 0 else 1:=by
 unfold Ew
 by_cases hs:s=true
 ·rw[if_pos (h.lt0.2 hs),if_pos hs]
 ·rw[if_neg (fun q=>hs (h.lt0.1 q)),if_neg hs]
  have e:q.num=0↔n=0:=by rw[<-h.abs];omega
  by_cases h0:n=0
  ·rw[if_pos (e.2 h0),if_pos h0]
  ·rw[if_neg (fun q=>h0 (e.1 q)),if_neg h0]
theorem aAq {q:Rat}:Ew q= -1↔q<0:=by
 have:q<0↔q.num<0:=by rw[Rat.lt_iff];simp
 rw[this]
 unfold Ew
 split
 ·rename_i h;exact⟨fun _=>h,fun _=>rfl⟩
 ·rename_i h
  split<;>exact⟨fun q=>by omega,fun q=>absurd q h⟩
theorem Uf {q:Rat}:Ew q=0↔q=0:=by
 rw[<-Rat.num_eq_zero]
 unfold Ew
 split
 ·exact⟨fun q=>by omega,fun q=>by omega⟩
 ·split
  ·rename_i h;exact⟨fun _=>h,fun _=>rfl⟩
  ·rename_i h;exact⟨fun q=>by omega,fun q=>absurd q h⟩
theorem aFt (q:Rat): -1<=Ew q/\Ew q<=1:=by
 unfold Ew
 split
 ·omega
 ·split<;>omega
def Vk (q r:Rat):Int:=if q<r then-1 else if r<q then 1 else 0
theorem aHz (q r:Rat):Vk q r=Ew (q-r):=by
 have e1:q<r↔q-r<0:=by
  have:=Rat.lt_iff_sub_pos q r
  rw[this,<-Rat.neg_lt_neg_iff]
  rw[Rat.neg_sub,Rat.neg_zero]
 have e2:q-r=0↔q=r:=⟨fun h=>by rw[<-Rat.sub_add_cancel (a:=q) (b:=r),h,Rat.zero_add],fun h=>by rw[h,Rat.sub_self]⟩
 unfold Vk
 by_cases h:q<r
 ·rw[if_pos h];exact(aAq.2 (e1.1 h)).symm
 ·rw[if_neg h]
  by_cases h2:r<q
  ·rw[if_pos h2]
   have a:=aFt (q-r)
   have b:Ew (q-r)≠-1:=fun k=>h (e1.2 (aAq.1 k))
   have c:Ew (q-r)≠0:=fun k=>by
    have:=e2.1 (Uf.1 k)
    rw[this] at h2
    exact Rat.lt_irrefl h2
   omega
  ·rw[if_neg h2]
   have:q=r:=Rat.le_antisymm (Rat.not_lt.1 h2) (Rat.not_lt.1 h)
   exact(Uf.2 (e2.2 this)).symm
end
def Lb (x k:Nat):Prop:=x<BB^k
theorem Lb.mono {x k j:Nat} (h:Lb x k) (hk:k<=j):Lb x j:=Nat.lt_of_lt_of_le h (Nat.pow_le_pow_right (by decide) hk)
theorem Lb.le {x y k:Nat} (h:Lb y k) (hx:x<=y):Lb x k:=Nat.lt_of_le_of_lt hx h
theorem Lb.zero (k:Nat):Lb 0 k:=bpos k
theorem Lb.one:Lb 1 1:=by unfold Lb;decide
theorem Lb.mul {x y k j:Nat} (h:Lb x k) (hy:Lb y j):Lb (x*y) (k+j):=by
 unfold Lb at*
 rw[Nat.pow_add]
 rcases Nat.eq_zero_or_pos y with e|e
 ·rw[e,Nat.mul_zero];exact Nat.mul_pos (bpos k) (bpos j)
 ·exact Nat.lt_of_lt_of_le (Nat.mul_lt_mul_of_pos_right h e) (Nat.mul_le_mul_left _ (Nat.le_of_lt hy))
theorem Lb.add {x y k:Nat} (h:Lb x k) (hy:Lb y k):Lb (x+y) (k+1):=by
 unfold Lb at*
 rw[Nat.pow_succ]
 have:BB^k*2<=BB^k*BB:=Nat.mul_le_mul_left _ (by decide)
 omega
theorem Lb.len {l:List Nat} {k:Nat} (h:Pm l) (hk:Lb (nv l) k):l.length<=k:=by
 refine Classical.byContradiction fun hn=> ?_
 have hl:l≠[]:=fun e=>by rw[e] at hn;simp at hn
 have h1:=h.ge hl
 have h2:BB^k<=BB^(l.length-1):=Nat.pow_le_pow_right (by decide) (by omega)
 unfold Lb at hk
 omega
theorem Lb.of {l:List Nat} (h:Lo l):Lb (nv l) l.length:=xR h
theorem Lb.dec {l:List UInt8} (h:Ls l):Lb (dv l) l.length:=by
 have h1:=Xp h
 exact Nat.lt_of_lt_of_le h1 (Nat.pow_le_pow_left (by decide) _)
structure mF (q:Rat) (k:Nat):Prop where
 num:Lb q.num.natAbs k
 den:Lb q.den k
section
variable {q r:Rat} {k j:Nat}
theorem mF.mono (h:mF q k) (hk:k<=j):mF q j:=⟨h.num.mono hk,h.den.mono hk⟩
theorem mF.zero:mF 0 1:=⟨Lb.zero 1,Lb.one⟩
theorem mF.neg (h:mF q k):mF (-q) k:=⟨by rw[Rat.neg_num,Int.natAbs_neg];exact h.num,by rw[Rat.neg_den];exact h.den⟩
theorem mF.aG8 {s:Bool} {n d:Nat} (hn:Lb n k) (hd:Lb d k) (h0:d≠0):mF (mkRat (sg s n) d) k:=by
 refine⟨?_,?_⟩
 ·rw[Rat.num_mkRat,if_neg h0,La]
  refine hn.le ?_
  rcases Nat.eq_zero_or_pos n with e|e
  ·have:sg s n=0:=by rw[e];cases s<;>rfl
   rw[this,Int.zero_ediv]
   exact Nat.zero_le _
  ·have hg:d.gcd n≠0:=fun h=>h0 (Nat.gcd_eq_zero_iff.1 h).1
   rw[aHw s n _ (Nat.gcd_dvd_right d n) hg,La]
   exact Nat.div_le_self _ _
 ·rw[Rat.den_mkRat,if_neg h0]
  exact hd.le (Nat.div_le_self _ _)
theorem mF.mul (h:mF q k) (hr:mF r j):mF (q*r) (k+j):=by
 have a:=RQ.of q
 have b:=RQ.of r
 rw[a.aLq b]
 exact .aG8 (h.num.mul hr.num) (h.den.mul hr.den) (Nat.mul_ne_zero q.den_nz r.den_nz)
theorem mF.add (h:mF q k) (hr:mF r j):mF (q+r) (k+j+1):=by
 have a:=RQ.of q
 have b:=RQ.of r
 rw[a.aJx b]
 have n1:Lb (q.num.natAbs*r.den) (k+j):=h.num.mul hr.den
 have n2:Lb (r.num.natAbs*q.den) (k+j):=(hr.num.mul h.den).mono (by omega)
 have d1:Lb (q.den*r.den) (k+j+1):=(h.den.mul hr.den).mono (by omega)
 have d0:=Nat.mul_ne_zero q.den_nz r.den_nz
 generalize decide (q.num<0)=s
 generalize decide (r.num<0)=t
 by_cases hst:s=t
 ·subst hst
  rw[aCs]
  exact .aG8 (n1.add n2) d1 d0
 ·rcases Nat.le_total (r.num.natAbs*q.den) (q.num.natAbs*r.den) with hle|hle
  ·rw[aHp hst hle]
   exact .aG8 ((n1.le (Nat.sub_le _ _)).mono (by omega)) d1 d0
  ·rw[aIg hst hle]
   exact .aG8 ((n2.le (Nat.sub_le _ _)).mono (by omega)) d1 d0
theorem mF.inv (h:mF q k) (h0:q≠0):mF q⁻¹ k:=by
 have a:=RQ.of q
 rw[a.aK6]
 exact .aG8 h.den h.num (fun e=>h0 (Rat.num_eq_zero.1 (by omega)))
theorem mF.div (h:mF q k) (hr:mF r j) (h0:r≠0):mF (q/r) (k+j):=by
 rw[Rat.div_def]
 exact h.mul (hr.inv h0)
end
namespace Wk
def bC (w:World) (p:Addr) (vs:List Value):Prop:=∀j v,vs[j]? =some v->w.cell? (p.add j)=some v
def jR (w:World) (p:Addr) (k:Nat):Prop:=∀j,j<k->(w.cell? (p.add j)).isSome=true/\w.frozen? (p.add j)=false
def bV (w:World) (p:Addr):Nat->List Value->World
 |_,[]=>w
 |i,v::vs=>bV (w.setCell (p.add i) v) p (i+1) vs
def aX (w:World) (p:Addr) (vs:List Value):World:=bV w p 0 vs
def wO (P:Program) (t:TypeId):Option Bool:=(P.underlying t).map fun| .struct _| .array _ _=>true|_=>false
def oN (P:Program) (t:TypeId):Option Nat:=(P.info? t).map (·.size)
def callable (P:Program) (f:FuncId):Bool:=match P.funcs[f]? with|some fn=>fn.name != "runtime.NumGoroutine" &&fn.body.isSome|none=>false
def evs (e:Env):List Operand->Option (List Value)
 |[]=>some []
 |x::xs=>match ev e x,evs e xs with|some v,some vs=>some (v::vs)|_,_=>none
theorem Ok.evs {n:Nat} {e:Env} {a:Act} (h:Ok n e a):∀{xs:List Operand} {vs:List Value},evs e xs=some vs->xs.map a.eval=vs
 |[],vs,hx=>by simp only[Wk.evs,Option.some.injEq] at hx;subst hx;rfl
 |x::xs,vs,hx=>by
  simp only[Wk.evs] at hx
  split at hx
  ·rename_i v us h1 h2
   simp only[Option.some.injEq] at hx
   subst hx
   simp[h.ev h1,h.evs h2]
  ·cases hx
section
variable {P:Program} {w w':World} {ρ:Operand->Value} {d:Option Tmp} {ty:TypeId} {pos:String} {af:Array Edge} {g:Option (Nat×Bool)} {u v:Value} {x y z:Operand}
theorem eU (hx:ρ x=v):(execOp ρ ⟨d,.move x,ty,pos,af,g⟩).run P w= .ok (.value v) w:=by simp[execOp,hx]
theorem jZ (hx:ρ x=v):(execOp ρ ⟨d,.assign x,ty,pos,af,g⟩).run P w= .ok (.value v) w:=by simp[execOp,hx]
theorem aIp {b:Bool} (hc:ρ x= .bool b) (hv:(if b then ρ y else ρ z)=v):(execOp ρ ⟨d,.pick x y z,ty,pos,af,g⟩).run P w= .ok (.value v) w:=by
 simp only[execOp,hc,asBool]
 simp only[Sem.run_bind,Sem.run_pure,Result.andThen_ok,hv]
theorem aBl (hc:ρ x= .bool true) (hv:ρ y=v):(execOp ρ ⟨d,.pick x y z,ty,pos,af,g⟩).run P w= .ok (.value v) w:=aIp hc (by simpa using hv)
theorem aBk (hc:ρ x= .bool false) (hv:ρ z=v):(execOp ρ ⟨d,.pick x y z,ty,pos,af,g⟩).run P w= .ok (.value v) w:=aIp hc (by simpa using hv)
theorem dR {t:TypeId} (hs:(Instr.alloc t true (.tuple #[])).run P w= .ok u w'):(execOp ρ ⟨d,.alloc t,ty,pos,af,g⟩).run P w= .ok (.value u) w':=by simp[execOp,hs]
theorem tN {t:TypeId} (hx:ρ x=v) (hs:(Instr.box t v).run P w= .ok u w'):(execOp ρ ⟨d,.box t x,ty,pos,af,g⟩).run P w= .ok (.value u) w':=by simp[execOp,hx,hs]
theorem aJg {t:TypeId} {ps:List (Nat×Operand)} {qs:List (Nat×Value)} (hx:ps.map (fun p=>(p.1,ρ p.2))=qs) (hs:(Instr.build t qs.toArray).run P w= .ok u w'):(execOp ρ ⟨d,.build t ps.toArray,ty,pos,af,g⟩).run P w= .ok (.value u) w':=by
 have:(ps.toArray.map fun x=>(x.fst,ρ x.snd))=qs.toArray:=by rw[<-hx];simp
 simp[execOp,this,hs]
theorem aCv {t:TypeId} {l:Nat} {ps:List (Nat×Operand)} {qs:List (Nat×Value)} (hx:ps.map (fun p=>(p.1,ρ p.2))=qs) (hs:(Instr.buildSlice t l qs.toArray).run P w= .ok u w'):(execOp ρ ⟨d,.buildSlice t l ps.toArray,ty,pos,af,g⟩).run P w= .ok (.value u) w':=by
 have:(ps.toArray.map fun x=>(x.fst,ρ x.snd))=qs.toArray:=by rw[<-hx];simp
 simp[execOp,this,hs]
theorem Ey {t:TypeId} (hx:ρ x=v) (hs:(Instr.loadAt t v).run P w= .ok u w'):(execOp ρ ⟨d,.load t x,ty,pos,af,g⟩).run P w= .ok (.value u) w':=by simp[execOp,hx,hs]
theorem aJa {t:TypeId} (hx:ρ x=v) (hy:ρ y=u) (hs:(Instr.storeAt t v u).run P w= .ok () w'):(execOp ρ ⟨d,.store t x y,ty,pos,af,g⟩).run P w= .ok .skip w':=by simp[execOp,hx,hy,hs]
theorem fD {p:Addr} (hx:ρ x= .pointer (some p)):(execOp ρ ⟨d,.nilCheck x,ty,pos,af,g⟩).run P w= .ok (.value (.pointer (some p))) w:=by simp[execOp,hx]
theorem dK {op:BinOp} {t t':TypeId} {a b:Value} (hx:ρ x=a) (hy:ρ y=b) (hs:(do eqGuard op t x y a b;binOp op t a b:Sem Value).run P w= .ok u w'):(execOp ρ ⟨d,.binOp op t x y t',ty,pos,af,g⟩).run P w= .ok (.value u) w':=by
 simp only[execOp,hx,hy,Sem.run_bind] at*
 rw[hs]
 simp
theorem aCu {op:UnOp} {t:TypeId} (hx:ρ x=v) (hs:(Op.unary op v).run P w= .ok u w'):(execOp ρ ⟨d,.unOp op t x,ty,pos,af,g⟩).run P w= .ok (.value u) w':=by simp[execOp,hx,hs]
theorem dB {s t:TypeId} (hx:ρ x=v) (hs:(convert s t v).run P w= .ok u w'):(execOp ρ ⟨d,.convert s t x,ty,pos,af,g⟩).run P w= .ok (.value u) w':=by simp[execOp,hx,hs]
theorem gB {t:TypeId} {a b:Value} (hx:ρ x=a) (hy:ρ y=b) (hs:(Instr.makeSlice t a b).run P w= .ok u w'):(execOp ρ ⟨d,.makeSlice t x y,ty,pos,af,g⟩).run P w= .ok (.value u) w':=by simp[execOp,hx,hy,hs]
theorem qR {t:TypeId} {lo hi mx:Option Operand} {l h m:Option Value} (hx:ρ x=v) (hl:lo.map ρ=l) (hh:hi.map ρ=h) (hm:mx.map ρ=m) (hs:(Instr.sliceAt t v l h m).run P w= .ok u w'):
  (execOp ρ ⟨d,.slice t x lo hi mx,ty,pos,af,g⟩).run P w= .ok (.value u) w':=by subst hl;subst hh;subst hm;simp[execOp,hx,hs]
theorem Jw {t:TypeId} {f:Nat} (hx:ρ x=v) (hs:(Instr.fieldAt t v f).run P w= .ok u w'):(execOp ρ ⟨d,.fieldAddr t x f,ty,pos,af,g⟩).run P w= .ok (.value u) w':=by simp[execOp,hx,hs]
theorem Dw {t:TypeId} {a b:Value} (hx:ρ x=a) (hy:ρ y=b) (hs:(Instr.indexAt t a b).run P w= .ok u w'):(execOp ρ ⟨d,.indexAddr t x y,ty,pos,af,g⟩).run P w= .ok (.value u) w':=by simp[execOp,hx,hy,hs]
theorem Om {t:TypeId} {a b:Value} (hx:ρ x=a) (hy:ρ y=b) (hs:(Instr.index t a b).run P w= .ok u w'):(execOp ρ ⟨d,.index t x y,ty,pos,af,g⟩).run P w= .ok (.value u) w':=by simp[execOp,hx,hy,hs]
theorem Hy {i:Nat} {vs:List Value} (hx:ρ x= .tuple vs.toArray) (hi:vs[i]? =some u):(execOp ρ ⟨d,.extract x i,ty,pos,af,g⟩).run P w= .ok (.value u) w:=by
 simp[execOp,hx,Instr.extract,hi]
theorem aKo {f:FuncId} {xs:List Operand} {ts:Array TypeId} {vs:List Value} {fs cs:Array Value} (hf:ρ x= .func (.func f) fs cs) (ha:xs.map ρ=vs) (hc:callable P f=true):
  (execOp ρ ⟨d,.call ⟨.value x,xs.toArray,ts⟩,ty,pos,af,g⟩).run P w= .ok (.enter f (fs++vs.toArray++cs)) w:=by
 have hm:xs.toArray.map ρ=vs.toArray:=by rw[<-ha];simp
 unfold callable at hc
 split at hc
 ·rename_i fn hfn
  simp only[Bool.and_eq_true,bne_iff_ne,ne_eq] at hc
  obtain⟨b,hb⟩:=Option.isSome_iff_exists.1 hc.2
  simp[execOp,resolve,hf,Deferred.ofValue,invoke,callFunc,hfn,hc.1,hb,hm]
 ·cases hc
theorem Zd {b:Builtin} {xs:List Operand} {ts:Array TypeId} {vs:List Value} (ha:xs.map ρ=vs) (hs:∀cs,(builtin b ts ty cs vs.toArray).run P w= .ok (.value u) w'):
  (execOp ρ ⟨d,.call ⟨.builtin b,xs.toArray,ts⟩,ty,pos,af,g⟩).run P w= .ok (.value u) w':=by
 have hm:xs.toArray.map ρ=vs.toArray:=by rw[<-ha];simp
 simp[execOp,resolve,invoke,hm,hs]
theorem aHv {t:TypeId} (h:wO P t=some false):(isAgg t).run P w= .ok false w:=by
 unfold wO at h
 cases hu:P.underlying t with
 |none=>simp[hu] at h
 |some k=>cases k<;>simp_all[isAgg,underlying]
theorem aDo {t:TypeId} (h:wO P t=some true):(isAgg t).run P w= .ok true w:=by
 unfold wO at h
 cases hu:P.underlying t with
 |none=>simp[hu] at h
 |some k=>cases k<;>simp_all[isAgg,underlying]
theorem Iz {t:TypeId} {k:Nat} (h:oN P t=some k):(sizeOf t).run P w= .ok k w:=by
 unfold oN at h
 cases hi:P.info? t with
 |none=>simp[hi] at h
 |some i=>
  simp[hi] at h
  simp[sizeOf,typeInfo,hi,h]
theorem aJ {t:TypeId} {p:Addr} (ht:wO P t=some false) (hc:w.cell? p=some v):(Instr.loadAt t (.pointer (some p))).run P w= .ok v w:=by
 simp[Instr.loadAt,Instr.sureAddr,loadVar,aHv ht,hc]
theorem loadCellsFrom_ok (p:Addr):∀(vs:List Value) (i:Nat) (acc:Array Value),(∀j v,vs[j]? =some v->w.cell? (p.add (i+j))=some v)->(loadCellsFrom p i vs.length acc).run P w= .ok (acc++vs.toArray) w
 |[],i,acc,_=>by simp[loadCellsFrom]
 |v::vs,i,acc,h=>by
  have h0:=h 0 v (by simp)
  have ih:=loadCellsFrom_ok p vs (i+1) (acc.push v) fun j u hu=>by
   have:=h (j+1) u (by simpa using hu)
   rwa [show i+1+j=i+(j+1) by omega]
  simp only[Nat.add_zero] at h0
  simp[loadCellsFrom,h0,ih]
theorem gG {t:TypeId} {p:Addr} {vs:List Value} (ht:wO P t=some true) (hn:oN P t=some vs.length) (hc:bC w p vs):(Instr.loadAt t (.pointer (some p))).run P w= .ok (.agg vs.toArray) w:=by
 have:=loadCellsFrom_ok (P:=P) (w:=w) p vs 0 #[] (fun j v h=>by simpa using hc j v h)
 simp[Instr.loadAt,Instr.sureAddr,loadVar,aDo ht,Iz hn,loadCells,this]
theorem Wi (p:Addr):∀(vs:List Value) (i:Nat) (w:World),(∀j,j<vs.length->(w.cell? (p.add (i+j))).isSome=true/\w.frozen? (p.add (i+j))=false)->(∀v∈vs,v.oneCell'=true)->
  (storeCells p vs i).run P w= .ok () (bV w p i vs)
 |[],i,w,_,_=>by simp[storeCells,bV]
 |v::vs,i,w,h,h1=>by
  have h0:=h 0 (by simp)
  simp only[Nat.add_zero] at h0
  obtain⟨u,hu⟩:=Option.isSome_iff_exists.1 h0.1
  have hs:(store (p.add i) v .plain).run P w= .ok () (w.setCell (p.add i) v):=by
   rw[run_store P w _ v .plain (h1 v (by simp)),hu]
   simp[h0.2]
  have ih:=Wi p vs (i+1) (w.setCell (p.add i) v) (fun j hj=>by
   have:=h (j+1) (by simp;omega)
   rw[show i+1+j=i+(j+1) by omega]
   refine⟨?_,by simpa [World.frozen?_setCell] using this.2⟩
   obtain⟨u',hu'⟩:=Option.isSome_iff_exists.1 this.1
   by_cases he:p.add i=p.add (i+(j+1))
   ·rw[<-he,World.cell?_setCell_same w _ v hu];rfl
   ·rw[World.cell?_setCell_other w _ _ v he,hu'];rfl) (fun v hv=>h1 v (by simp[hv]))
  simp[storeCells,bV,hs,ih]
theorem fE {t:TypeId} {p:Addr} (hn:oN P t=some 1) (h1:v.oneCell'=true) (hv:v.cells= #[v]) (hc:w.cell? p=some u) (hf:w.frozen? p=false):(Instr.storeAt t (.pointer (some p)) v).run P w= .ok () (w.setCell p v):=by
 have hs:(store p v .plain).run P w= .ok () (w.setCell p v):=by
  rw[run_store P w _ v .plain h1,hc]
  simp[hf]
 simp[Instr.storeAt,Instr.sureAddr,storeVar,Iz hn,hv,storeCells,Addr.add,hs]
theorem cO {t:TypeId} {p:Addr} {vs:List Value} (hn:oN P t=some vs.length) (h1:∀v∈vs,v.oneCell'=true) (hc:jR w p vs.length):(Instr.storeAt t (.pointer (some p)) (.agg vs.toArray)).run P w= .ok () (aX w p vs):=by
 have:=Wi (P:=P) p vs 0 w (fun j hj=>by simpa using hc j hj) h1
 simp[Instr.storeAt,Instr.sureAddr,storeVar,Iz hn,Value.cells,this,aX]
theorem uD {t:TypeId}:(Instr.box t v).run P w= .ok (.pointer (some ⟨w.heap.size,0,none⟩)) (w.alloc (.cells v.cells t)):=by
 simp[Instr.box,newVar,newRow]
def zeroOf (P:Program) (t:TypeId):Option Value:=(P.info? t).bind (·.zero)
theorem aIj {t:TypeId} (h:zeroOf P t=some v):(zeroValue t).run P w= .ok v w:=by
 unfold zeroOf at h
 cases hi:P.info? t with
 |none=>simp[hi] at h
 |some i=>
  simp[hi] at h
  simp[zeroValue,typeInfo,hi,h]
theorem dV {t:TypeId} (h:zeroOf P t=some v):(Instr.alloc t true (.tuple #[])).run P w= .ok (.pointer (some ⟨w.heap.size,0,none⟩)) (w.alloc (.cells v.cells t)):=by
 simp[Instr.alloc,aIj h,newVar,newRow]
def jC (P:Program) (t:TypeId):Option TypeId:=match P.underlying t with|some (.slice e)=>some e|_=>none
theorem jD {t e:TypeId} (h:jC P t=some e):P.underlying t=some (.slice e):=by
 unfold jC at h
 split at h
 ·rename_i e' he;simp at h;subst h;exact he
 ·cases h
theorem bG {t e:TypeId} {k:IntKind} {i:Int} {n c s:Nat} {ad:Addr} {A:Option Addr} (ht:jC P t=some e) (hs:oN P e=some s) (hA:A=some ad) (h0:0<=i) (h1:i<n):
  (Instr.indexAt t (.slice A n c) (.int k i)).run P w= .ok (.pointer (some (ad.add (i.toNat*s)))) w:=by
 subst hA
 simp[Instr.indexAt,asIntOf,underlying,jD ht,Iz hs,h0,h1]
def xC (A:Option Addr) (cap l s:Nat):Option Addr:=if cap=l then A else A.map (·.add (l*s))
theorem aGs {t e:TypeId} {A:Option Addr} {n c s:Nat} {lo hi:Option Value} {l h:Nat} (ht:jC P t=some e) (hs:oN P e=some s)
  (hb:(Instr.sliceBounds true n c lo hi none).run P w= .ok (l,h,c) w):(Instr.sliceAt t (.slice A n c) lo hi none).run P w= .ok (.slice (xC A c l s) (h-l) (c-l)) w:=by
 simp[Instr.sliceAt,Instr.slice,underlying,jD ht,Iz hs,hb,xC]
theorem Ur {k:IntKind} {i:Int} {y:Nat} {code:BoundsCode} (h0:0<=i) (h1:i<=y):(Instr.sliceBound (.int k i) y code).run P w= .ok i.toNat w:=by
 simp[Instr.sliceBound,asIntOf,h0,h1]
theorem aLn {n c:Nat} {k:IntKind} {h:Int} (h0:0<=h) (h1:h<=c):(Instr.sliceBounds true n c none (some (.int k h)) none).run P w= .ok (0,h.toNat,c) w:=by
 simp[Instr.sliceBounds,Ur (P:=P) (w:=w) h0 h1]
theorem aLu {n c:Nat} {k:IntKind} {l:Int} (h0:0<=l) (h1:l<=n):(Instr.sliceBounds true n c (some (.int k l)) none none).run P w= .ok (l.toNat,n,c) w:=by
 simp[Instr.sliceBounds,Ur (P:=P) (w:=w) h0 h1]
theorem eqg {op:BinOp} {t:TypeId} {a b:Value} {s:Sem Value} (h:(eqGuard op t x y a b).run P w= .ok () w) (hs:s.run P w= .ok u w'):(do eqGuard op t x y a b;s:Sem Value).run P w= .ok u w':=by
 simp[h,hs]
theorem Ru {op:BinOp} {t:TypeId} {k k':IntKind} {a b:Int}:(eqGuard op t x y (.int k a) (.int k' b)).run P w= .ok () w:=by
 unfold eqGuard;cases op<;>simp
theorem aIi {op:BinOp} {t:TypeId} {a b:ByteArray}:(eqGuard op t x y (.string a) (.string b)).run P w= .ok () w:=by
 unfold eqGuard;cases op<;>simp
theorem aHx {op:BinOp} {t:TypeId} {a b:Bool}:(eqGuard op t x y (.bool a) (.bool b)).run P w= .ok () w:=by
 unfold eqGuard;cases op<;>simp
variable {k:IntKind} {i j:Int} {t:TypeId}
theorem dJ:(do eqGuard .add t x y (.int k i) (.int k j);binOp .add t (.int k i) (.int k j):Sem Value).run P w= .ok (.int k (k.wrap (i+j))) w:=eqg Ru (by simp[binOp,Op.intArith])
theorem jB:(do eqGuard .sub t x y (.int k i) (.int k j);binOp .sub t (.int k i) (.int k j):Sem Value).run P w= .ok (.int k (k.wrap (i-j))) w:=eqg Ru (by simp[binOp,Op.intArith])
theorem Aq:(do eqGuard .mul t x y (.int k i) (.int k j);binOp .mul t (.int k i) (.int k j):Sem Value).run P w= .ok (.int k (k.wrap (i*j))) w:=eqg Ru (by simp[binOp,Op.intArith])
theorem Ai (h:j≠0):(do eqGuard .quo t x y (.int k i) (.int k j);binOp .quo t (.int k i) (.int k j):Sem Value).run P w= .ok (.int k (k.wrap (i.tdiv j))) w:=eqg Ru (by simp[binOp,Op.intDiv,h])
theorem Gt (h:j≠0):(do eqGuard .rem t x y (.int k i) (.int k j);binOp .rem t (.int k i) (.int k j):Sem Value).run P w= .ok (.int k (i.tmod j)) w:=eqg Ru (by simp[binOp,Op.intDiv,h])
theorem nN:(do eqGuard .eql t x y (.int k i) (.int k j);binOp .eql t (.int k i) (.int k j):Sem Value).run P w= .ok (.bool (decide (i=j))) w:=eqg Ru (by simp[binOp,Op.intCmp];rfl)
theorem zC:(do eqGuard .neq t x y (.int k i) (.int k j);binOp .neq t (.int k i) (.int k j):Sem Value).run P w= .ok (.bool (decide (i≠j))) w:=eqg Ru (by simp[binOp,Op.intCmp,bne,Bool.beq_eq_decide_eq])
theorem fO:(do eqGuard .lss t x y (.int k i) (.int k j);binOp .lss t (.int k i) (.int k j):Sem Value).run P w= .ok (.bool (decide (i<j))) w:=eqg Ru (by simp[binOp,Op.intCmp])
theorem aGn:(do eqGuard .leq t x y (.int k i) (.int k j);binOp .leq t (.int k i) (.int k j):Sem Value).run P w= .ok (.bool (decide (i<=j))) w:=eqg Ru (by simp[binOp,Op.intCmp])
theorem kF:(do eqGuard .gtr t x y (.int k i) (.int k j);binOp .gtr t (.int k i) (.int k j):Sem Value).run P w= .ok (.bool (decide (j<i))) w:=eqg Ru (by simp[binOp,Op.intCmp])
theorem Nr:(do eqGuard .geq t x y (.int k i) (.int k j);binOp .geq t (.int k i) (.int k j):Sem Value).run P w= .ok (.bool (decide (j<=i))) w:=eqg Ru (by simp[binOp,Op.intCmp])
theorem Gg {b:Bool}:(Op.unary .not (.bool b)).run P w= .ok (.bool (!b)) w:=by simp[Op.unary]
theorem aB9:(Op.unary .neg (.int k i)).run P w= .ok (.int k (k.wrap (0-i))) w:=by simp[Op.unary,Op.intArith]
theorem bD {A:Option Addr} {n c:Nat} {cs:Array Bool} (ht:(jC P t).isSome=true):(builtin .len #[t] ty cs #[.slice A n c]).run P w= .ok (.value (.int .i64 n)) w:=by
 obtain⟨e,he⟩:=Option.isSome_iff_exists.1 ht
 simp[builtin,Builtin.len_,underlying,jD he,goInt]
end
structure aP (w w':World):Prop where
 heap:w'.heap=w.heap
 os:w'.os=w.os
 tape:w'.tape=w.tape
 output:w'.output=w.output
theorem aP.refl (w:World):aP w w:=⟨rfl,rfl,rfl,rfl⟩
theorem aP.trans {a b c:World} (h:aP a b) (k:aP b c):aP a c:=⟨k.heap.trans h.heap,k.os.trans h.os,k.tape.trans h.tape,k.output.trans h.output⟩
theorem aP.drew (w:World):aP w w.drew:=⟨rfl,rfl,rfl,rfl⟩
theorem aP.cell {w w':World} (h:aP w w') (p:Addr):w'.cell? p=w.cell? p:=by simp[World.cell?,h.heap]
theorem aP.frozen {w w':World} (h:aP w w') (p:Addr):w'.frozen? p=w.frozen? p:=by simp[World.frozen?,h.heap]
def anc (ops:Array Oper):Nat->Nat->Nat->Bool
 |0,_,_=>false
 |f+1,i,j=>match ops[j]? with
  |none=>false
  |some o=>o.after.any fun e=>Region.binds .any e&&(Nat.beq e.on i||anc ops f i e.on)
def needs (ops:Array Oper) (pu rd:List Nat) (j:Nat):Bool:= !pu.contains j&&rd.any fun r=> !anc ops ops.size r j
def Xr (ops:Array Oper) (l:Array Bool):Bool:=(List.range ops.size).all fun j=> !l.getD j false||((ops[j]?).map fun o=>o.after.all fun e=> !Region.binds .any e||l.getD e.on false).getD true
theorem Yg {ops:Array Oper} {l:Array Bool} (h:Xr ops l=true) {j:Nat} {o:Oper} (hj:ops[j]? =some o) (hl:l.getD j false=true):∀e∈o.after,Region.binds .any e=true->l.getD e.on false=true:=by
 have h1:=List.all_eq_true.1 h j (List.mem_range.2 (Array.getElem?_eq_some_iff.1 hj).1)
 simp only[hl,hj,Bool.not_true,Bool.false_or,Option.map_some,Option.getD_some] at h1
 intro e he hb
 have:=Array.all_eq_true'.1 h1 e he
 simpa [hb] using this
theorem Xc {ops:Array Oper} {l:Array Bool} (h:∀j o,ops[j]? =some o->l.getD j false=true->∀e∈o.after,Region.binds .any e=true->l.getD e.on false=true):
  ∀(f i j:Nat) (o:Oper),ops[j]? =some o->(∀e∈o.after,Region.binds .any e=true->l.getD e.on false=true)->anc ops f i j=true->l.getD i false=true
 |0,_,_,_,_,_,ha=>by cases ha
 |f+1,i,j,o,hj,hd,ha=>by
  simp only[anc,hj] at ha
  obtain⟨e,he,hb⟩:=Array.any_eq_true'.1 ha
  simp only[Bool.and_eq_true,Bool.or_eq_true] at hb
  have hl:=hd e he hb.1
  rcases hb.2 with hb2|hb2
  ·rw[<-Nat.eq_of_beq_eq_true hb2];exact hl
  ·cases hj':ops[e.on]? with
   |none=>cases f<;>simp[anc,hj'] at hb2
   |some o'=>exact Xc h f i e.on o' hj' (h e.on o' hj' hl) hb2
section
variable {P:Program} {ops:Array Oper} {Q:Exit->Act->World->Prop} {pu rd:List Nat} {H:World->Prop} {D:World->World->Prop}
def Zo (P:Program) (ops:Array Oper) (Q:Exit->Act->World->Prop) (pu rd:List Nat) (H:World->Prop) (D:World->World->Prop):Nat->Array Bool->Act->World->Prop
 |0,l,a,w=>Region.ready .any ops l=[]/\Q .normal a w
 |f+1,l,a,w=>(Region.ready .any ops l=[]->Q .normal a w)/\
  ∀i∈Region.ready .any ops l,wpOp P ops Q i (fun a' w'=>(pu.contains i=true->D w w')/\∀w'',D w' w''->(needs ops pu rd i=true->H w'')/\Zo P ops Q pu rd H D f (l.setIfInBounds i true) a' w'') a w
theorem aBx (hD:∀w,D w w):∀(f:Nat) (l:Array Bool) (a:Act) (w:World),Zo P ops Q pu rd H D f l a w->wpAny P .any ops Q f l a w
 |0,_,_,_,h=>h
 |f+1,_,_,_,h=>⟨h.1,fun i hi=>wpOp_mono (fun a' w' h'=>aBx hD f _ a' w' (h'.2 w' (hD w')).2) (h.2 i hi)⟩
def Reads (P:Program) (ops:Array Oper) (H:World->Prop) (D:World->World->Prop) (o:Oper) (v:Value) (a:Act):Prop:=
 (Region.wanted o (yielded ops a.tmps)=true/\∀w,H w->o.quietAt P a (D w) w v)\/(Region.wanted o (yielded ops a.tmps)=false/\v=undef)
theorem Reads.same {o:Oper} {v:Value} {a a':Act} (hy:Reads P ops H D o v a) (he:execOp a'.eval o=execOp a.eval o)
  (hw:Region.wanted o (yielded ops a'.tmps)=Region.wanted o (yielded ops a.tmps)):Reads P ops H D o v a':=by
 unfold Reads Oper.quietAt at*
 rw[he,hw]
 exact hy
theorem Reads.wpOp {i:Nat} {o:Oper} {v:Value} {a:Act} {w:World} (hi:ops[i]? =some o) (hy:Reads P ops H D o v a) (hH:H w) (hD:∀w,D w w)
  {K:Act->World->Prop} (h:∀w',D w w'->K (a.put o.dst v) w'):Go.wpOp P ops Q i K a w:=by
 unfold Go.wpOp
 simp only[hi]
 rcases hy with⟨hw,hv⟩|⟨hw,rfl⟩
 ·simp only[hw,if_true]
  refine .inl ?_
  have h3:=hv w hH
  unfold Oper.quietAt at h3
  unfold Oper.wp
  generalize (execOp a.eval o).run P w=r at*
  cases r with
  |halt x w'=>simp only[Oper.quietUpon] at h3
  |ok n w'=>
   cases n<;>simp only[Oper.quietUpon] at h3<;>simp only[Oper.upon]
   case value u=>obtain⟨rfl,rfl⟩:=h3;exact h _ (hD _)
   case skip=>obtain⟨rfl,rfl⟩:=h3;exact h _ (hD _)
   case enter f args=>
    obtain⟨rfl,hc⟩:=h3
    exact hc.mono fun x w'' ⟨hx,hd⟩=>by subst hx;exact h _ hd
 ·simp only[hw,Bool.false_eq_true,if_false];exact h _ (hD _)
theorem swap {j:Nat} {oi oj:Oper} {v:Value} (hj:ops[j]? =some oj) (hap:oi.apart ops oj=true)
  (hsi:∀cs b,oi.op≠.select cs b) (hsj:∀cs b,oj.op≠.select cs b) (hQ:∀c a w,Q (.panic c) (a.put oi.dst v) w->Q (.panic c) a w)
  {K:Act->World->Prop} {a:Act} {w:World} (hy:Reads P ops H D oi v a) (h:wpOp P ops Q j K (a.put oi.dst v) w):
  wpOp P ops Q j (fun a' w'=>Reads P ops H D oi v a'/\K (a'.put oi.dst v) w') a w:=by
 obtain⟨h1,h2,h3⟩:=Oper.apart_spec hap
 have keep:∀b:Act,Reads P ops H D oi v b->∀u,Reads P ops H D oi v (b.put oj.dst u):=fun b hb u=>
  hb.same (execOp_put oi hsi b oj.dst u h3) (wanted_put oi b oj.dst u h3)
 unfold wpOp at*
 simp only[hj] at*
 rw[wanted_put oj a oi.dst v h1] at h
 by_cases hw:Region.wanted oj (yielded ops a.tmps)=true
 ·simp only[hw,if_true] at h⊢
  rcases h with h|⟨hasks,hlets⟩
  ·refine .inl ?_
   unfold Oper.wp at*
   rw[execOp_put oj hsj a oi.dst v h1] at h
   generalize (execOp a.eval oj).run P w=r at*
   cases r with
   |ok n w'=>
    cases n<;>simp only[Oper.upon] at h⊢
    case value u=>exact⟨keep a hy u,by rw[<-Act.put_comm a v u h2];exact h⟩
    case skip=>exact⟨keep a hy _,by rw[<-Act.put_comm a v undef h2];exact h⟩
    case defer d=>
     refine⟨keep {a with defers:=d::a.defers} (hy.same rfl rfl) _,?_⟩
     rw[<-Act.put_comm _ v undef h2,<-Act.put_defers]
     exact h
    case enter f args=>
     refine Calls.mono h fun x w'' he=> ?_
     cases x with
     |returned u=>exact⟨keep a hy u,by rw[<-Act.put_comm a v u h2];exact he⟩
     |panicked c=>exact hQ _ _ _ he
     |outgrown=>exact he
    case row row args=>exact Rows.mono h fun u w'' he=>⟨keep a hy u,by rw[<-Act.put_comm a v u h2];exact he⟩
   |halt x w'=>
    cases x<;>simp only[Oper.upon] at h⊢
    case panic u=>exact hQ _ _ _ h
  ·refine .inr ⟨?_,hlets⟩
   unfold Oper.asks at*
   rw[execOp_put oj hsj a oi.dst v h1] at hasks
   exact hasks
 ·simp only[hw] at h⊢
  exact⟨keep a hy _,by rw[<-Act.put_comm a v undef h2];exact h⟩
theorem take {i:Nat} {oi:Oper} {v:Value} (hi:ops[i]? =some oi) (hrd:i∈rd) (hDr:∀w,D w w) (hDt:∀a b c,D a b->D b c->D a c) (hHD:∀w w',H w->D w w'->H w')
  (hsel:∀(j:Nat) (o:Oper) cs b,ops[j]? =some o->o.op≠.select cs b) (hQ:∀c a w,Q (.panic c) (a.put oi.dst v) w->Q (.panic c) a w):
  ∀(f:Nat) (l:Array Bool) (a:Act) (w:World),
   (∀j o,ops[j]? =some o->l.getD j false=true->∀e∈o.after,Region.binds .any e=true->l.getD e.on false=true)->l.size=ops.size->
   (∀j oj,ops[j]? =some oj->j≠i->l.getD j true=false->(∀e∈oj.after,Region.binds .any e=true->e.on≠i)->oi.apart ops oj=true)->
   i∈Region.ready .any ops l->Reads P ops H D oi v a->H w->
   (∀w',D w w'->Zo P ops Q pu rd H D f (l.setIfInBounds i true) (a.put oi.dst v) w')->Zo P ops Q pu rd H D (f+1) l a w:=by
 intro f
 induction f with
 |zero=>
  intro l a w _ _ _ hr hy hH h
  refine⟨fun h0=>(by rw[h0] at hr;cases hr),fun j hj=> ?_⟩
  by_cases hji:j=i
  ·subst hji
   exact hy.wpOp hi hH hDr fun w' hw'=>⟨fun _=>hw',fun w'' hw''=>⟨fun _=>hHD _ _ hH (hDt _ _ _ hw' hw''),h _ (hDt _ _ _ hw' hw'')⟩⟩
  ·have:=ready_mono hj hji
   rw[(h w (hDr w)).1] at this
   cases this
 |succ f ih=>
  intro l a w hcl hsz hfree hr hy hH h
  refine⟨fun h0=>(by rw[h0] at hr;cases hr),fun j hj=> ?_⟩
  by_cases hji:j=i
  ·subst hji
   exact hy.wpOp hi hH hDr fun w' hw'=>⟨fun _=>hw',fun w'' hw''=>⟨fun _=>hHD _ _ hH (hDt _ _ _ hw' hw''),h _ (hDt _ _ _ hw' hw'')⟩⟩
  ·have h1:=(h w (hDr w)).2 j (ready_mono hj hji)
   have hun:l.getD i true=false:=(mem_ready.1 hr).1
   have hun':l.getD i false=false:=by
    rcases Nat.lt_or_ge i l.size with h'|h'
    ·simp[h'] at hun⊢;exact hun
    ·simp[Array.getElem?_eq_none h']
   obtain⟨hjun,oj,hoj,hall⟩:=mem_ready.1 hj
   have hanc:anc ops ops.size i j=false:=by
    cases hq:anc ops ops.size i j with
    |false=>rfl
    |true=>rw[Xc hcl _ _ _ _ hoj hall hq] at hun';cases hun'
   have hneed:pu.contains j=false->needs ops pu rd j=true:=fun hp=>by
    unfold needs
    rw[hp]
    exact List.any_eq_true.2 ⟨i,hrd,by rw[hanc];rfl⟩
   have hnot:∀e∈oj.after,Region.binds .any e=true->e.on≠i:=fun e he hb heq=>by
    have h1:=hall e he hb
    rw[heq,hun'] at h1
    cases h1
   have h2:=swap hoj (hfree j oj hoj hji hjun hnot) (fun cs b=>hsel i oi cs b hi) (fun cs b=>hsel j oj cs b hoj) hQ hy h1
   have hfree':∀k ok,ops[k]? =some ok->k≠i->(l.setIfInBounds j true).getD k true=false->(∀e∈ok.after,Region.binds .any e=true->e.on≠i)->oi.apart ops ok=true:=fun k ok hk hki hkun hno=>by
    refine hfree k ok hk hki ?_ hno
    by_cases hjk:j=k
    ·subst hjk;exact hjun
    ·rw[getD_set_ne true hjk] at hkun;exact hkun
   have hcl':∀k o,ops[k]? =some o->(l.setIfInBounds j true).getD k false=true->∀e∈o.after,Region.binds .any e=true->(l.setIfInBounds j true).getD e.on false=true:=fun k o hk hkl e he hb=>by
    by_cases hjk:j=k
    ·subst hjk
     have:o=oj:=Option.some.inj (hk.symm.trans hoj)
     subst this
     exact getD_set_true (hall e he hb)
    ·rw[getD_set_ne false hjk] at hkl
     exact getD_set_true (hcl k o hk hkl e he hb)
   refine wpOp_mono (fun a' w' h3=> ?_) h2
   obtain⟨hy',hpd,h4⟩:=h3
   refine⟨hpd,fun w'' hw''=> ?_⟩
   have hH'':H w'':=by
    cases hp:pu.contains j with
    |true=>exact hHD _ _ hH (hDt _ _ _ (hpd hp) hw'')
    |false=>exact(h4 w'' hw'').1 (hneed hp)
   refine⟨fun _=>hH'',ih (l.setIfInBounds j true) a' w'' hcl' (by simp[hsz]) hfree' (ready_mono hr (Ne.symm hji)) hy' hH'' fun w3 hw3=> ?_⟩
   rw[Array.setIfInBounds_comm _ _ hji]
   exact(h4 w3 (hDt _ _ _ hw'' hw3)).2
theorem aJ1 {i:Nat} {oi:Oper} {v:Value} (hi:ops[i]? =some oi) (hpu:pu.contains i=true) (hDr:∀w,D w w) (hDt:∀a b c,D a b->D b c->D a c)
  (hsel:∀(j:Nat) (o:Oper) cs b,ops[j]? =some o->o.op≠.select cs b) (hQ:∀c a w,Q (.panic c) (a.put oi.dst v) w->Q (.panic c) a w):
  ∀(f:Nat) (l:Array Bool) (a:Act) (w:World),l.size=ops.size->
   (∀j oj,ops[j]? =some oj->j≠i->l.getD j true=false->(∀e∈oj.after,Region.binds .any e=true->e.on≠i)->oi.apart ops oj=true)->
   i∈Region.ready .any ops l->Reads P ops (fun _=>True) D oi v a->
   (∀w',D w w'->Zo P ops Q pu rd H D f (l.setIfInBounds i true) (a.put oi.dst v) w')->Zo P ops Q pu rd H D (f+1) l a w:=by
 have hnn:needs ops pu rd i=true->False:=fun h=>by unfold needs at h;rw[hpu] at h;cases h
 intro f
 induction f with
 |zero=>
  intro l a w hsz _ hr hy h
  refine⟨fun h0=>(by rw[h0] at hr;cases hr),fun j hj=> ?_⟩
  by_cases hji:j=i
  ·subst hji
   exact hy.wpOp hi trivial hDr fun w' hw'=>⟨fun _=>hw',fun w'' hw''=>⟨fun hq=>(hnn hq).elim,h _ (hDt _ _ _ hw' hw'')⟩⟩
  ·have:=ready_mono hj hji
   rw[(h w (hDr w)).1] at this
   cases this
 |succ f ih=>
  intro l a w hsz hfree hr hy h
  refine⟨fun h0=>(by rw[h0] at hr;cases hr),fun j hj=> ?_⟩
  by_cases hji:j=i
  ·subst hji
   exact hy.wpOp hi trivial hDr fun w' hw'=>⟨fun _=>hw',fun w'' hw''=>⟨fun hq=>(hnn hq).elim,h _ (hDt _ _ _ hw' hw'')⟩⟩
  ·have h1:=(h w (hDr w)).2 j (ready_mono hj hji)
   have hun:l.getD i true=false:=(mem_ready.1 hr).1
   have hun':l.getD i false=false:=by
    rcases Nat.lt_or_ge i l.size with h'|h'
    ·simp[h'] at hun⊢;exact hun
    ·simp[Array.getElem?_eq_none h']
   obtain⟨hjun,oj,hoj,hall⟩:=mem_ready.1 hj
   have hnot:∀e∈oj.after,Region.binds .any e=true->e.on≠i:=fun e he hb heq=>by
    have h1:=hall e he hb
    rw[heq,hun'] at h1
    cases h1
   have h2:=swap hoj (hfree j oj hoj hji hjun hnot) (fun cs b=>hsel i oi cs b hi) (fun cs b=>hsel j oj cs b hoj) hQ hy h1
   have hfree':∀k ok,ops[k]? =some ok->k≠i->(l.setIfInBounds j true).getD k true=false->(∀e∈ok.after,Region.binds .any e=true->e.on≠i)->oi.apart ops ok=true:=fun k ok hk hki hkun hno=>by
    refine hfree k ok hk hki ?_ hno
    by_cases hjk:j=k
    ·subst hjk;exact hjun
    ·rw[getD_set_ne true hjk] at hkun;exact hkun
   refine wpOp_mono (fun a' w' h3=> ?_) h2
   obtain⟨hy',hpd,h4⟩:=h3
   refine⟨hpd,fun w'' hw''=>⟨(h4 w'' hw'').1,ih (l.setIfInBounds j true) a' w'' (by simp[hsz]) hfree' (ready_mono hr (Ne.symm hji)) hy' fun w3 hw3=> ?_⟩⟩
   rw[Array.setIfInBounds_comm _ _ hji]
   exact(h4 w3 (hDt _ _ _ hw'' hw3)).2
theorem aKx {E:World->Prop} {i:Nat} {oi:Oper} {v:Value} (hi:ops[i]? =some oi) (hpu:pu.contains i=true) (hDr:∀w,D w w) (hDt:∀a b c,D a b->D b c->D a c) (hE:∀w w',E w->D w w'->E w')
  (hearly:∀j,j<ops.size->pu.contains j=false->anc ops ops.size i j=true)
  (hsel:∀(j:Nat) (o:Oper) cs b,ops[j]? =some o->o.op≠.select cs b) (hQ:∀c a w,Q (.panic c) (a.put oi.dst v) w->Q (.panic c) a w):
  ∀(f:Nat) (l:Array Bool) (a:Act) (w:World),
   (∀j o,ops[j]? =some o->l.getD j false=true->∀e∈o.after,Region.binds .any e=true->l.getD e.on false=true)->l.size=ops.size->
   (∀j oj,ops[j]? =some oj->j≠i->l.getD j true=false->(∀e∈oj.after,Region.binds .any e=true->e.on≠i)->oi.apart ops oj=true)->
   i∈Region.ready .any ops l->Reads P ops E D oi v a->E w->
   (∀w',D w w'->Zo P ops Q pu rd H D f (l.setIfInBounds i true) (a.put oi.dst v) w')->Zo P ops Q pu rd H D (f+1) l a w:=by
 have hnn:needs ops pu rd i=true->False:=fun h=>by unfold needs at h;rw[hpu] at h;cases h
 intro f
 induction f with
 |zero=>
  intro l a w _ hsz _ hr hy hEw h
  refine⟨fun h0=>(by rw[h0] at hr;cases hr),fun j hj=> ?_⟩
  by_cases hji:j=i
  ·subst hji
   exact hy.wpOp hi hEw hDr fun w' hw'=>⟨fun _=>hw',fun w'' hw''=>⟨fun hq=>(hnn hq).elim,h _ (hDt _ _ _ hw' hw'')⟩⟩
  ·have:=ready_mono hj hji
   rw[(h w (hDr w)).1] at this
   cases this
 |succ f ih=>
  intro l a w hcl hsz hfree hr hy hEw h
  refine⟨fun h0=>(by rw[h0] at hr;cases hr),fun j hj=> ?_⟩
  by_cases hji:j=i
  ·subst hji
   exact hy.wpOp hi hEw hDr fun w' hw'=>⟨fun _=>hw',fun w'' hw''=>⟨fun hq=>(hnn hq).elim,h _ (hDt _ _ _ hw' hw'')⟩⟩
  ·have h1:=(h w (hDr w)).2 j (ready_mono hj hji)
   have hun:l.getD i true=false:=(mem_ready.1 hr).1
   have hun':l.getD i false=false:=by
    rcases Nat.lt_or_ge i l.size with h'|h'
    ·simp[h'] at hun⊢;exact hun
    ·simp[Array.getElem?_eq_none h']
   obtain⟨hjun,oj,hoj,hall⟩:=mem_ready.1 hj
   have hpj:pu.contains j=true:=by
    cases hq:pu.contains j with
    |true=>rfl
    |false=>
     have:=Xc hcl _ _ _ _ hoj hall (hearly j (Array.getElem?_eq_some_iff.1 hoj).1 hq)
     rw[this] at hun';cases hun'
   have hnot:∀e∈oj.after,Region.binds .any e=true->e.on≠i:=fun e he hb heq=>by
    have h1:=hall e he hb
    rw[heq,hun'] at h1
    cases h1
   have h2:=swap hoj (hfree j oj hoj hji hjun hnot) (fun cs b=>hsel i oi cs b hi) (fun cs b=>hsel j oj cs b hoj) hQ hy h1
   have hfree':∀k ok,ops[k]? =some ok->k≠i->(l.setIfInBounds j true).getD k true=false->(∀e∈ok.after,Region.binds .any e=true->e.on≠i)->oi.apart ops ok=true:=fun k ok hk hki hkun hno=>by
    refine hfree k ok hk hki ?_ hno
    by_cases hjk:j=k
    ·subst hjk;exact hjun
    ·rw[getD_set_ne true hjk] at hkun;exact hkun
   have hcl':∀k o,ops[k]? =some o->(l.setIfInBounds j true).getD k false=true->∀e∈o.after,Region.binds .any e=true->(l.setIfInBounds j true).getD e.on false=true:=fun k o hk hkl e he hb=>by
    by_cases hjk:j=k
    ·subst hjk
     have:o=oj:=Option.some.inj (hk.symm.trans hoj)
     subst this
     exact getD_set_true (hall e he hb)
    ·rw[getD_set_ne false hjk] at hkl
     exact getD_set_true (hcl k o hk hkl e he hb)
   refine wpOp_mono (fun a' w' h3=> ?_) h2
   obtain⟨hy',hpd,h4⟩:=h3
   refine⟨hpd,fun w'' hw''=>⟨(h4 w'' hw'').1,ih (l.setIfInBounds j true) a' w'' hcl' (by simp[hsz]) hfree' (ready_mono hr (Ne.symm hji)) hy' (hE _ _ hEw (hDt _ _ _ (hpd hpj) hw'')) fun w3 hw3=> ?_⟩⟩
   rw[Array.setIfInBounds_comm _ _ hji]
   exact(h4 w3 (hDt _ _ _ hw'' hw3)).2
def AN (P:Program) (ops:Array Oper) (Q:Exit->Act->World->Prop) (pu rd:List Nat) (H:World->Prop) (D:World->World->Prop) (f:Nat) (l:Array Bool) (n:Nat) (e:Env) (w:World):Prop:=∀a,Ok n e a->Zo P ops Q pu rd H D f l a w
variable {n:Nat} {e:Env} {w:World} {f:Nat} {l l':Array Bool}
theorem aH5 {id:Nat} (hm:P.follows .mixedOrders=true) (pu rd:List Nat) (H:World->Prop) (D:World->World->Prop) (hD:∀w,D w w) (sz:Nat) (hs:ops.size=sz) (hl:Array.replicate sz false=l)
  (h:AN P ops Q pu rd H D sz l n e w.drew):CW P (Code.region id ops true) Q n e w:=fun a ha=>by
 subst hs;subst hl
 exact wp_region_any hm (aBx hD _ _ _ _ (h a ha))
theorem aJn (hr:Region.ready .any ops l=[]) (h:NX Q .normal n e w):AN P ops Q pu rd H D f l n e w:=fun a ha=>by
 cases f with
 |zero=>exact⟨hr,h a ha⟩
 |succ f=>exact⟨fun _=>h a ha,by rw[hr];simp⟩
structure Calm (P:Program) (ops:Array Oper) (Q:Exit->Act->World->Prop) (H:World->Prop) (D:World->World->Prop):Prop where
 sel:Region.noSelect ops=true
 panic:∀c a d v w,Q (.panic c) (Act.put a d v) w->Q (.panic c) a w
 drefl:∀w,D w w
 dtrans:∀a b c,D a b->D b c->D a c
 held:∀w w',H w->D w w'->H w'
theorem aJv {i:Nat} {oi:Oper} {v:Value} (cm:Calm P ops Q H D) (hi:ops[i]? =some oi) (hrd:(rd.contains i)=true) (hf:Region.free .any ops l i=true) (hr:(Region.ready .any ops l).contains i=true)
  (hcl:Xr ops l=true) (hsz:Nat.beq l.size ops.size=true) (hH:H w) (hy:∀a,Ok n e a->Reads P ops H D oi v a) (hl:l.setIfInBounds i true=l')
  (h:∀w',D w w'->∀a,Ok n e a->Zo P ops Q pu rd H D f l' (a.put oi.dst v) w'):AN P ops Q pu rd H D (f+1) l n e w:=fun a ha=>by
 subst hl
 exact take hi (by simpa using hrd) cm.drefl cm.dtrans cm.held (Region.noSelect_spec cm.sel) (fun c a w=>cm.panic c a _ _ w) f l a w (fun j o hj hl=>Yg hcl hj hl) (Nat.eq_of_beq_eq_true hsz) (Region.free_spec hi hf) (by simpa using hr) (hy a ha) hH
  fun w' hw'=>h w' hw' a ha
def takeB (ops:Array Oper) (rd:List Nat) (l:Array Bool) (i:Nat):Bool:=rd.contains i&&Region.free .any ops l i&&(Region.ready .any ops l).contains i&&Xr ops l&&Nat.beq l.size ops.size
theorem aFi {ops:Array Oper} {rd:List Nat} {l:Array Bool} {i:Nat} (h:takeB ops rd l i=true):rd.contains i=true/\Region.free .any ops l i=true/\(Region.ready .any ops l).contains i=true/\Xr ops l=true/\Nat.beq l.size ops.size=true:=by
 simp only[takeB,Bool.and_eq_true] at h
 exact⟨h.1.1.1.1,h.1.1.1.2,h.1.1.2,h.1.2,h.2⟩
theorem aK5 {i d:Nat} {oi:Oper} {v:Value} (cm:Calm P ops Q H D) (hi:ops[i]? =some oi) (hb:takeB ops rd l i=true) (hH:H w) (hd:oi.dst=some d) (hlt:Nat.blt d n=true)
  (hw:∀a,Ok n e a->Region.wanted oi (yielded ops a.tmps)=true) (hy:∀w',H w'->∀a,Ok n e a->(execOp a.eval oi).run P w'= .ok (.value v) w') (hl:l.setIfInBounds i true=l')
  (h:∀w',D w w'->H w'->AN P ops Q pu rd H D f l' n ((d,v)::e) w'):AN P ops Q pu rd H D (f+1) l n e w:=
 have hb:=aFi hb
 aJv cm hi hb.1 hb.2.1 hb.2.2.1 hb.2.2.2.1 hb.2.2.2.2 hH (fun a ha=> .inl ⟨hw a ha,fun w' hw'=>by unfold Oper.quietAt;rw[hy w' hw' a ha];exact⟨rfl,rfl⟩⟩) hl fun w' hw' a ha=>by
  rw[hd];exact h w' hw' (cm.held _ _ hH hw') _ (ha.put hlt v)
def nX (ops:Array Oper) (pu:List Nat) (l:Array Bool) (i:Nat):Bool:=pu.contains i&&Region.free .any ops l i&&(Region.ready .any ops l).contains i&&Nat.beq l.size ops.size
theorem zI {i d:Nat} {oi:Oper} {v:Value} (cm:Calm P ops Q H D) (hi:ops[i]? =some oi) (hb:nX ops pu l i=true) (hd:oi.dst=some d) (hlt:Nat.blt d n=true)
  (hw:∀a,Ok n e a->Region.wanted oi (yielded ops a.tmps)=true) (hy:∀w' a,Ok n e a->(execOp a.eval oi).run P w'= .ok (.value v) w') (hl:l.setIfInBounds i true=l')
  (h:∀w',D w w'->AN P ops Q pu rd H D f l' n ((d,v)::e) w'):AN P ops Q pu rd H D (f+1) l n e w:=fun a ha=>by
 subst hl
 simp only[nX,Bool.and_eq_true] at hb
 refine aJ1 hi hb.1.1.1 cm.drefl cm.dtrans (Region.noSelect_spec cm.sel) (fun c a w=>cm.panic c a _ _ w) f l a w (Nat.eq_of_beq_eq_true hb.2) (Region.free_spec hi hb.1.1.2) (by simpa using hb.1.2) (.inl ⟨hw a ha,fun w' _=>by unfold Oper.quietAt;rw[hy w' a ha];exact⟨rfl,rfl⟩⟩) fun w' hw'=> ?_
 rw[hd];exact h w' hw' _ (ha.put hlt v)
theorem aEp {i d:Nat} {oi:Oper} (cm:Calm P ops Q H D) (hi:ops[i]? =some oi) (hb:nX ops pu l i=true) (hd:oi.dst=some d) (hlt:Nat.blt d n=true)
  (hw:∀a,Ok n e a->Region.wanted oi (yielded ops a.tmps)=false) (hl:l.setIfInBounds i true=l')
  (h:∀w',D w w'->AN P ops Q pu rd H D f l' n ((d,undef)::e) w'):AN P ops Q pu rd H D (f+1) l n e w:=fun a ha=>by
 subst hl
 simp only[nX,Bool.and_eq_true] at hb
 refine aJ1 hi hb.1.1.1 cm.drefl cm.dtrans (Region.noSelect_spec cm.sel) (fun c a w=>cm.panic c a _ _ w) f l a w (Nat.eq_of_beq_eq_true hb.2) (Region.free_spec hi hb.1.1.2) (by simpa using hb.1.2) (.inr ⟨hw a ha,rfl⟩) fun w' hw'=> ?_
 rw[hd];exact h w' hw' _ (ha.put hlt undef)
def aFo (ops:Array Oper) (pu:List Nat) (l:Array Bool) (i:Nat):Bool:=pu.contains i&&Region.free .any ops l i&&(Region.ready .any ops l).contains i&&Xr ops l&&Nat.beq l.size ops.size&&(List.range ops.size).all fun j=>pu.contains j||anc ops ops.size i j
theorem aHs {E:World->Prop} {i:Nat} {oi:Oper} {v:Value} (cm:Calm P ops Q H D) (hE:∀w w',E w->D w w'->E w') (hi:ops[i]? =some oi) (hb:aFo ops pu l i=true) (hEw:E w) (hy:∀a,Ok n e a->Reads P ops E D oi v a) (hl:l.setIfInBounds i true=l')
  (h:∀w',D w w'->∀a,Ok n e a->Zo P ops Q pu rd H D f l' (a.put oi.dst v) w'):AN P ops Q pu rd H D (f+1) l n e w:=fun a ha=>by
 subst hl
 simp only[aFo,Bool.and_eq_true] at hb
 refine aKx hi hb.1.1.1.1.1 cm.drefl cm.dtrans hE (fun j hj hp=> ?_) (Region.noSelect_spec cm.sel) (fun c a w=>cm.panic c a _ _ w) f l a w (fun j o hj hl=>Yg hb.1.1.2 hj hl) (Nat.eq_of_beq_eq_true hb.1.2) (Region.free_spec hi hb.1.1.1.1.2) (by simpa using hb.1.1.1.2) (hy a ha) hEw
  fun w' hw'=>h w' hw' a ha
 have:=List.all_eq_true.1 hb.2 j (List.mem_range.2 hj)
 rw[hp,Bool.false_or] at this
 exact this
theorem aJc {E:World->Prop} {i d:Nat} {oi:Oper} {v:Value} (cm:Calm P ops Q H D) (hE:∀w w',E w->D w w'->E w') (hi:ops[i]? =some oi) (hb:aFo ops pu l i=true) (hEw:E w) (hd:oi.dst=some d) (hlt:Nat.blt d n=true)
  (hw:∀a,Ok n e a->Region.wanted oi (yielded ops a.tmps)=true) (hy:∀w',E w'->∀a,Ok n e a->(execOp a.eval oi).run P w'= .ok (.value v) w') (hl:l.setIfInBounds i true=l')
  (h:∀w',D w w'->AN P ops Q pu rd H D f l' n ((d,v)::e) w'):AN P ops Q pu rd H D (f+1) l n e w:=
 aHs cm hE hi hb hEw (fun a ha=> .inl ⟨hw a ha,fun w' hw'=>by unfold Oper.quietAt;rw[hy w' hw' a ha];exact⟨rfl,rfl⟩⟩) hl fun w' hw' a ha=>by
  rw[hd];exact h w' hw' _ (ha.put hlt v)
def AW (P:Program) (ops:Array Oper) (Q:Exit->Act->World->Prop) (pu rd:List Nat) (H:World->Prop) (D:World->World->Prop) (f:Nat) (l:Array Bool) (n:Nat) (e:Env) (w:World) (i:Nat):Prop:=
 ∀a,Ok n e a->wpOp P ops Q i (fun a' w'=>(pu.contains i=true->D w w')/\∀w'',D w' w''->(needs ops pu rd i=true->H w'')/\Zo P ops Q pu rd H D f (l.setIfInBounds i true) a' w'') a w
theorem pW {rs:List Nat} (hr:Region.ready .any ops l=rs) (hne:rs.isEmpty=false) (h:∀i∈rs,AW P ops Q pu rd H D f l n e w i):AN P ops Q pu rd H D (f+1) l n e w:=fun a ha=>
 ⟨fun h0=>(by rw[hr] at h0;rw[h0] at hne;cases hne),fun i hi=>h i (hr▸hi) a ha⟩
theorem Af:∀i∈([]:List Nat),AW P ops Q pu rd H D f l n e w i:=fun i h=>by cases h
theorem iM {i:Nat} {rs:List Nat} (h:AW P ops Q pu rd H D f l n e w i) (k:∀i∈rs,AW P ops Q pu rd H D f l n e w i):∀j∈i::rs,AW P ops Q pu rd H D f l n e w j:=fun j hj=>by
 rcases List.mem_cons.1 hj with rfl|hj
 ·exact h
 ·exact k j hj
def awB (ops:Array Oper) (pu rd:List Nat) (i:Nat) (b:Bool):Bool:= !pu.contains i&&(needs ops pu rd i==b)
theorem aC5 {i:Nat} {oi:Oper} {b:Bool} (hi:ops[i]? =some oi) (hw:∀a,Ok n e a->Region.wanted oi (yielded ops a.tmps)=true) (hl:l.setIfInBounds i true=l') (hn:awB ops pu rd i b=true)
  (h:∀a,Ok n e a->oi.wp P a w (fun a' w'=>∀w'',D w' w''->(b=true->H w'')/\Zo P ops Q pu rd H D f l' a' w'') Q):AW P ops Q pu rd H D f l n e w i:=fun a ha=>by
 subst hl
 simp only[awB,Bool.and_eq_true,Bool.not_eq_true',beq_iff_eq] at hn
 unfold wpOp
 simp only[hi]
 rw[if_pos (hw a ha)]
 refine .inl (Oper.wp_mono (fun a' w' h'=>⟨fun hp=>(by rw[hn.1] at hp;cases hp),fun w'' hw''=>⟨fun hq=>(h' w'' hw'').1 (by rw[<-hn.2];exact hq),(h' w'' hw'').2⟩⟩) (h a ha))
theorem aB0 {i d:Nat} {oi:Oper} {v:Value} {w1:World} (hi:ops[i]? =some oi) (hd:oi.dst=some d) (hlt:Nat.blt d n=true) (hw:∀a,Ok n e a->Region.wanted oi (yielded ops a.tmps)=true)
  (hy:∀a,Ok n e a->(execOp a.eval oi).run P w= .ok (.value v) w1) (hl:l.setIfInBounds i true=l') (b:Bool) (hn:awB ops pu rd i b=true)
  (h:∀w',D w1 w'->(b=true->H w')/\AN P ops Q pu rd H D f l' n ((d,v)::e) w'):AW P ops Q pu rd H D f l n e w i:=
 aC5 hi hw hl hn fun a ha=>by
  unfold Oper.wp
  rw[hy a ha,Oper.upon_value,hd]
  exact fun w' hw'=>⟨(h w' hw').1,(h w' hw').2 _ (ha.put hlt v)⟩
theorem aLp {i:Nat} {oi:Oper} {w1:World} (hi:ops[i]? =some oi) (hd:oi.dst=none) (hw:∀a,Ok n e a->Region.wanted oi (yielded ops a.tmps)=true)
  (hy:∀a,Ok n e a->(execOp a.eval oi).run P w= .ok .skip w1) (hl:l.setIfInBounds i true=l') (b:Bool) (hn:awB ops pu rd i b=true)
  (h:∀w',D w1 w'->(b=true->H w')/\AN P ops Q pu rd H D f l' n e w'):AW P ops Q pu rd H D f l n e w i:=
 aC5 hi hw hl hn fun a ha=>by
  unfold Oper.wp
  rw[hy a ha,Oper.upon_skip,hd]
  exact fun w' hw'=>⟨(h w' hw').1,(h w' hw').2 _ (ha.aDx _)⟩
theorem iZ {i d:Nat} {oi:Oper} {g:FuncId} {args:Array Value} {K:Value->World->Prop} (hi:ops[i]? =some oi) (hd:oi.dst=some d) (hlt:Nat.blt d n=true) (hw:∀a,Ok n e a->Region.wanted oi (yielded ops a.tmps)=true)
  (hy:∀a,Ok n e a->(execOp a.eval oi).run P w= .ok (.enter g args) w) (hl:l.setIfInBounds i true=l') (b:Bool) (hn:awB ops pu rd i b=true)
  (hc:Calls P g args w (aS K)) (h:∀v w1,K v w1->∀w',D w1 w'->(b=true->H w')/\AN P ops Q pu rd H D f l' n ((d,v)::e) w'):AW P ops Q pu rd H D f l n e w i:=
 aC5 hi hw hl hn fun a ha=>by
  unfold Oper.wp
  rw[hy a ha,Oper.upon_enter,hd]
  refine hc.mono fun x w1 ⟨v,hx,hk⟩=> ?_
  subst hx
  exact fun w' hw'=>⟨(h v w1 hk w' hw').1,(h v w1 hk w' hw').2 _ (ha.put hlt v)⟩
theorem Uz {i d:Nat} {oi:Oper} (hi:ops[i]? =some oi) (hd:oi.dst=some d) (hlt:Nat.blt d n=true) (hw:∀a,Ok n e a->Region.wanted oi (yielded ops a.tmps)=false) (hl:l.setIfInBounds i true=l') (b:Bool) (hn:awB ops pu rd i b=true)
  (h:∀w',D w w'->(b=true->H w')/\AN P ops Q pu rd H D f l' n ((d,undef)::e) w'):AW P ops Q pu rd H D f l n e w i:=fun a ha=>by
 subst hl
 simp only[awB,Bool.and_eq_true,Bool.not_eq_true',beq_iff_eq] at hn
 unfold wpOp
 simp only[hi]
 rw[if_neg (by rw[hw a ha];simp),hd]
 exact⟨fun hp=>(by rw[hn.1] at hp;cases hp),fun w' hw'=>⟨fun hq=>(h w' hw').1 (by rw[<-hn.2];exact hq),(h w' hw').2 _ (ha.put hlt undef)⟩⟩
end
structure New (w:World) (o:Obj) (p:Addr) (w':World):Prop where
 at_:p=⟨w.heap.size,0,none⟩
 is:w'=w.alloc o
theorem aP.cells {w w':World} (h:aP w w') {p:Addr} {vs:List Value} (k:bC w p vs):bC w' p vs:=fun j v hv=>(h.cell _).trans (k j v hv)
structure Keep (X:Nat->Prop) (w w':World):Prop where
 size:w.heap.size<=w'.heap.size
 os:w'.os=w.os
 tape:w'.tape=w.tape
 output:w'.output=w.output
 block:∀b,b<w.heap.size->¬X b->w'.heap[b]? =w.heap[b]?
theorem Keep.refl (X:Nat->Prop) (w:World):Keep X w w:=⟨Nat.le_refl _,rfl,rfl,rfl,fun _ _ _=>rfl⟩
theorem Keep.trans {X:Nat->Prop} {a b c:World} (h:Keep X a b) (k:Keep X b c):Keep X a c:=
 ⟨Nat.le_trans h.size k.size,k.os.trans h.os,k.tape.trans h.tape,k.output.trans h.output,fun i hi hx=>(k.block i (Nat.lt_of_lt_of_le hi h.size) hx).trans (h.block i hi hx)⟩
theorem Keep.drawn {X:Nat->Prop} {a b c:World} (h:Keep X a b) (k:aP b c):Keep X a c:=
 ⟨by rw[k.heap];exact h.size,k.os.trans h.os,k.tape.trans h.tape,k.output.trans h.output,fun i hi hx=>by rw[k.heap];exact h.block i hi hx⟩
theorem Keep.mono {X Y:Nat->Prop} {a b:World} (h:Keep X a b) (k:∀i,i<a.heap.size->X i->Y i):Keep Y a b:=
 ⟨h.size,h.os,h.tape,h.output,fun i hi hy=>h.block i hi fun hx=>hy (k i hi hx)⟩
theorem Keep.cell {X:Nat->Prop} {w w':World} (h:Keep X w w') {p:Addr} {v:Value} (k:w.cell? p=some v/\¬X p.block):w'.cell? p=some v:=
 (World.cell?_of_block (h.block p.block (World.block_lt_of_cell? w p k.1) k.2)).trans k.1
theorem Keep.cells {X:Nat->Prop} {w w':World} (h:Keep X w w') {p:Addr} {vs:List Value} (k:bC w p vs/\¬X p.block):bC w' p vs:=fun j v hv=>
 h.cell ⟨k.1 j v hv,by
  have:(p.add j).block=p.block:=by(unfold Addr.add;split<;>rfl)
  rw[this];exact k.2⟩
theorem Keep.alloc {X:Nat->Prop} {a b:World} (h:Keep X a b) (o:Obj):Keep X a (b.alloc o):=
 h.trans ⟨by simp,rfl,rfl,rfl,fun i hi _=>heap_alloc_old b o i hi⟩
theorem Keep.new {X:Nat->Prop} {a b c:World} {o:Obj} {p:Addr} (h:Keep X a b) (k:New b o p c):Keep X a c:=by rw[k.is];exact h.alloc o
theorem Keep.aO {X:Nat->Prop} {a b:World} (h:aP a b):Keep X a b:=Keep.drawn (Keep.refl X a) h
theorem tf (b:Bool):b=true\/b=false:=by cases b<;>simp
section
variable {P:Program} {w w':World} {ρ:Operand->Value} {d:Option Tmp} {ty:TypeId} {pos:String} {af:Array Edge} {g:Option (Nat×Bool)} {u v:Value} {x y z:Operand} {o:Oper}
theorem o_t {p:Prop} [Decidable p] (hr:(execOp ρ o).run P w= .ok (.value (.bool (decide p))) w') (h:p):(execOp ρ o).run P w= .ok (.value (.bool true)) w':=by rw[hr,decide_eq_true h]
theorem o_f {p:Prop} [Decidable p] (hr:(execOp ρ o).run P w= .ok (.value (.bool (decide p))) w') (h:¬p):(execOp ρ o).run P w= .ok (.value (.bool false)) w':=by rw[hr,decide_eq_false h]
theorem Ya {b:Bool} (hr:(execOp ρ o).run P w= .ok (.value (.bool b)) w') (h:b=true):(execOp ρ o).run P w= .ok (.value (.bool true)) w':=by rw[hr,h]
theorem Xq {b:Bool} (hr:(execOp ρ o).run P w= .ok (.value (.bool b)) w') (h:b=false):(execOp ρ o).run P w= .ok (.value (.bool false)) w':=by rw[hr,h]
theorem aDm {f:FuncId} {xs:List Operand} {ts:Array TypeId} {vs:List Value} (hf:ρ x= .func (.func f) #[] #[]) (ha:xs.map ρ=vs) (hc:callable P f=true):
  (execOp ρ ⟨d,.call ⟨.value x,xs.toArray,ts⟩,ty,pos,af,g⟩).run P w= .ok (.enter f vs.toArray) w:=by
 have:=aKo (P:=P) (w:=w) (d:=d) (ty:=ty) (pos:=pos) (af:=af) (g:=g) (ts:=ts) hf ha hc
 simpa using this
theorem qA {a:Operand} {v:Value} (h:ρ a=v):Option.map ρ (some a)=some v:=by simp[h]
theorem kG {ts:Array TypeId} {vs:Array Value} {cs:Array Bool} (h:(Builtin.append_ ts ty vs).run P w= .ok u w'):(builtin .append ts ty cs vs).run P w= .ok (.value u) w':=by simp[builtin,h]
variable {A:Option Addr} {n c s:Nat} {t e:TypeId} {i j:Int} {k k':IntKind}
theorem Ht (ht:jC P t=some e) (hs:oN P e=some s) (h0:0<=i) (h1:i<=c):(Instr.sliceAt t (.slice A n c) none (some (.int k i)) none).run P w= .ok (.slice A i.toNat c) w:=by
 have:=aGs (P:=P) (w:=w) (A:=A) ht hs (aLn (P:=P) (w:=w) (n:=n) (k:=k) h0 h1)
 have e1:xC A c 0 s=A:=by unfold xC;split<;>simp[Addr.add]
 simpa [e1] using this
theorem Uw (ht:jC P t=some e) (hs:oN P e=some s) (h0:0<=i) (h1:i<=n):(Instr.sliceAt t (.slice A n c) (some (.int k i)) none none).run P w= .ok (.slice (xC A c i.toNat s) (n-i.toNat) (c-i.toNat)) w:=
 aGs ht hs (aLu h0 h1)
theorem aK9 {ts:Array TypeId} {cs:Array Bool}:(builtin .max ts ty cs #[.int k i,.int k j]).run P w= .ok (.value (.int k (if i<j then j else i))) w:=by
 simp[builtin,Builtin.max_,Builtin.max2]
theorem iC {a b:TypeId} (ha:P.underlying a=some (.int k)) (hb:P.underlying b=some (.int k')):(convert a b (.int k i)).run P w= .ok (.int k' (k'.wrap i)) w:=by
 simp[convert,underlying,ha,hb,Conv.intToInt]
theorem aCk {a b:Bool} (m:Nat) (ht:P.underlying t=some .bool):(Op.equalIn (m+1) t (.bool a) (.bool b)).run P w= .ok (a==b) w:=by simp[Op.equalIn,underlying,ht]
theorem aKr {a b:Value} {r:Bool} (hb:binOp .eql t a b=do pure (.bool (<-Op.equal t a b))) (h:∀m,(Op.equalIn (m+1) t a b).run P w= .ok r w) (hg:(eqGuard .eql t x y a b).run P w= .ok () w):
  (do eqGuard .eql t x y a b;binOp .eql t a b:Sem Value).run P w= .ok (.bool r) w:=eqg hg (by
 rw[hb,Sem.run_bind]
 show((Op.equalIn (9999+1) t a b).run P w).andThen _=_
 rw[h];rfl)
theorem aKl {a b:Value} {r:Bool} (hb:binOp .neq t a b=do pure (.bool (!(<-Op.equal t a b)))) (h:∀m,(Op.equalIn (m+1) t a b).run P w= .ok r w) (hg:(eqGuard .neq t x y a b).run P w= .ok () w):
  (do eqGuard .neq t x y a b;binOp .neq t a b:Sem Value).run P w= .ok (.bool (!r)) w:=eqg hg (by
 rw[hb,Sem.run_bind]
 show((Op.equalIn (9999+1) t a b).run P w).andThen _=_
 rw[h];rfl)
theorem aBh {a b:Bool} (ht:P.underlying t=some .bool):(do eqGuard .eql t x y (.bool a) (.bool b);binOp .eql t (.bool a) (.bool b):Sem Value).run P w= .ok (.bool (decide (a=b))) w:=by
 rw[aKr rfl (fun m=>aCk m ht) aHx];cases a<;>cases b<;>rfl
theorem Oz {a b:Bool} (ht:P.underlying t=some .bool):(do eqGuard .neq t x y (.bool a) (.bool b);binOp .neq t (.bool a) (.bool b):Sem Value).run P w= .ok (.bool (decide (a≠b))) w:=by
 rw[aKl rfl (fun m=>aCk m ht) aHx];cases a<;>cases b<;>rfl
theorem Nv {s:ByteArray} {cs:Array Bool} (ht:P.underlying t=some .string):(builtin .len #[t] ty cs #[.string s]).run P w= .ok (.value (.int .i64 s.size)) w:=by
 simp[builtin,Builtin.len_,underlying,ht,goInt]
end
section
variable {P:Program} {ops:Array Oper} {Q:Exit->Act->World->Prop} {n:Nat} {e:Env} {w:World}
theorem mW {o:Oper} {j s:Nat} {b:Bool} (hg:o.guard=some (j,b)) (hs:(ops[j]?).bind (·.dst)=some s) (hb:look e s=some undef):∀a,Ok n e a->Region.wanted o (yielded ops a.tmps)=false:=fun a ha=>by
 have:=ha.look s _ hb
 simp[Region.wanted,hg,yielded,hs,this,undef]
theorem gX {rest:List Oper} {o:Oper} {w':World} (hd:o.dst=none) (hw:∀a,Ok n e a->Region.wanted o (yielded ops a.tmps)=true)
  (hr:∀a,Ok n e a->(execOp a.eval o).run P w= .ok .skip w') (h:∀w2,w2=w'->SL P ops Q rest n e w2):SL P ops Q (o::rest) n e w:=aLm hd hw hr (h _ rfl)
theorem oM {pu rd:List Nat} {H:World->Prop} {D:World->World->Prop} {fu:Nat} {l l':Array Bool} {i:Nat} {oi:Oper} {w1:World} (hi:ops[i]? =some oi) (hd:oi.dst=none) (hw:∀a,Ok n e a->Region.wanted oi (yielded ops a.tmps)=true)
  (hy:∀a,Ok n e a->(execOp a.eval oi).run P w= .ok .skip w1) (hl:l.setIfInBounds i true=l') (b:Bool) (hn:awB ops pu rd i b=true)
  (h:∀w2,w2=w1->∀w',D w2 w'->(b=true->H w')/\AN P ops Q pu rd H D fu l' n e w'):AW P ops Q pu rd H D fu l n e w i:=aLp hi hd hw hy hl b hn (h _ rfl)
theorem dU {pu rd:List Nat} {H:World->Prop} {D:World->World->Prop} {fu:Nat} {l:Array Bool} {w0:World} (hr:Region.ready .any ops l=[]) (hW:aP w0 w) (h:∀w2,aP w0 w2->NX Q .normal n e w2):AN P ops Q pu rd H D fu l n e w:=aJn hr (h _ hW)
theorem bK {x y:Code} (R:Act->Prop) (hy:∀a,R a->y.wp P Q a w) (h:CW P x (Exit.then (fun a w'=>R a/\w'=w) Q) n e w):CW P (Code.seq x y) Q n e w:=
 dI (fun a w'=>R a/\w'=w) (fun a w' ⟨hR,hw⟩=>by subst hw;exact hy a hR) h
theorem fM {rest:List Oper} {o:Oper} {d:Nat} {f:Addr->Value} {ob:Obj} (hd:o.dst=some d) (hlt:Nat.blt d n=true) (hw:∀a,Ok n e a->Region.wanted o (yielded ops a.tmps)=true)
  (hr:∀a,Ok n e a->(execOp a.eval o).run P w= .ok (.value (f ⟨w.heap.size,0,none⟩)) (w.alloc ob)) (h:∀p w',New w ob p w'->SL P ops Q rest n ((d,f p)::e) w'):SL P ops Q (o::rest) n e w:=
 qH hd hlt hw hr (h _ _ ⟨rfl,rfl⟩)
theorem kS {pu rd:List Nat} {H:World->Prop} {D:World->World->Prop} {fu:Nat} {l l':Array Bool} {i d:Nat} {oi:Oper} {f:Addr->Value} {ob:Obj} (hi:ops[i]? =some oi) (hd:oi.dst=some d) (hlt:Nat.blt d n=true) (hw:∀a,Ok n e a->Region.wanted oi (yielded ops a.tmps)=true)
  (hy:∀a,Ok n e a->(execOp a.eval oi).run P w= .ok (.value (f ⟨w.heap.size,0,none⟩)) (w.alloc ob)) (hl:l.setIfInBounds i true=l') (b:Bool) (hn:awB ops pu rd i b=true)
  (h:∀p w1,New w ob p w1->∀w',D w1 w'->(b=true->H w')/\AN P ops Q pu rd H D fu l' n ((d,f p)::e) w'):AW P ops Q pu rd H D fu l n e w i:=
 aB0 hi hd hlt hw hy hl b hn (h _ _ ⟨rfl,rfl⟩)
theorem lC {c:Code} (I:Nat->Act->Prop) (h0:∀a,Ok n e a->∃m,I m a)
  (round:∀m a,I m a->c.wp P (Exit.then (fun a' w'=>∃m',m'<m/\I m' a'/\w'=w) Q) a w):CW P (Code.loop c) Q n e w:=
 dM (fun m a w'=>I m a/\w'=w) (fun a ha=>let ⟨m,hm⟩:=h0 a ha;⟨m,hm,rfl⟩) fun m a w' ⟨hI,hw⟩=>by
  subst hw
  exact round m a hI
theorem dW {id:Nat} {l:Array Bool} (hm:P.follows .mixedOrders=true) (pu rd:List Nat) (sz:Nat) (hs:ops.size=sz) (hl:Array.replicate sz false=l) (hsel:Region.noSelect ops=true)
  (hQ:∀c a d v w,Q (.panic c) (Act.put a d v) w->Q (.panic c) a w)
  (h:Calm P ops Q (aP w) aP->aP w w.drew->aP w w.drew->AN P ops Q pu rd (aP w) aP sz l n e w.drew):CW P (Code.region id ops true) Q n e w:=
 aH5 hm pu rd (aP w) aP aP.refl sz hs hl (h ⟨hsel,hQ,aP.refl,fun _ _ _=>aP.trans,fun _ _=>aP.trans⟩ (aP.drew w) (aP.drew w))
theorem iI {id:Nat} {l:Array Bool} (hm:P.follows .mixedOrders=true) (X:Nat->Prop) (pu rd:List Nat) (sz:Nat) (hs:ops.size=sz) (hl:Array.replicate sz false=l) (hsel:Region.noSelect ops=true)
  (hQ:∀c a d v w,Q (.panic c) (Act.put a d v) w->Q (.panic c) a w)
  (h:Calm P ops Q (Keep X w) aP->Keep X w w.drew->aP w w.drew->AN P ops Q pu rd (Keep X w) aP sz l n e w.drew):CW P (Code.region id ops true) Q n e w:=
 aH5 hm pu rd (Keep X w) aP aP.refl sz hs hl (h ⟨hsel,hQ,aP.refl,fun _ _ _=>aP.trans,fun _ _=>Keep.drawn⟩ (Keep.drawn (Keep.refl X w) (aP.drew w)) (aP.drew w))
end
end Wk
open Wk
abbrev Ext (w w':World):Prop:=Keep (fun _=>False) w w'
theorem Ext.refl (w:World):Ext w w:=Keep.refl _ w
theorem Ext.cell {w w':World} (h:Ext w w') {p:Addr} {v:Value} (k:w.cell? p=some v):w'.cell? p=some v:=Keep.cell h ⟨k,fun h=>h⟩
theorem Ext.cells {w w':World} (h:Ext w w') {p:Addr} {vs:List Value} (k:bC w p vs):bC w' p vs:=Keep.cells h ⟨k,fun h=>h⟩
theorem Ext.aO {w w':World} (h:aP w w'):Ext w w':=Keep.aO h
theorem Ext.bI {w w':World} {o:Obj} {p:Addr} (h:New w o p w'):Ext w w':=(Keep.refl _ w).new h
theorem Wk.bC.at {w:World} {p:Addr} {vs:List Value} (h:bC w p vs) (j:Nat) {v:Value} (hv:vs[j]? =some v):w.cell? (p.add j)=some v:=h j v hv
theorem Addr.add_add (a:Addr) (i j:Nat):(a.add i).add j=a.add (i+j):=by
 unfold Addr.add
 by_cases hi:i=0<;>by_cases hj:j=0<;>simp[hi,hj,Nat.add_assoc]
theorem Addr.add_zero (a:Addr):a.add 0=a:=by simp[Addr.add]
theorem Addr.add_block (a:Addr) (i:Nat):(a.add i).block=a.block:=by unfold Addr.add;split<;>rfl
theorem Wk.bC.nil {w:World} {p:Addr}:bC w p []:=fun j v h=>by simp at h
section
variable {w w' w'':World} {p:Addr} {cs:Array Value} {T:TypeId}
theorem Wk.New.heap (h:New w (.cells cs T) p w'):w'.heap[p.block]? =some (.cells cs T (0,0)):=by
 rw[h.is,h.at_];exact heap_alloc_new w _
theorem Wk.New.block (h:New w (.cells cs T) p w'):p.block=w.heap.size:=by rw[h.at_]
theorem Wk.New.spot (h:New w (.cells cs T) p w'):p=⟨p.block,0,none⟩:=by rw[h.at_]
theorem Wk.New.size (h:New w (.cells cs T) p w'):w'.heap.size=w.heap.size+1:=by rw[h.is];simp
theorem Wk.New.lt (h:New w (.cells cs T) p w'):p.block<w'.heap.size:=by rw[h.size,h.block];omega
theorem Wk.New.cells (h:New w (.cells cs T) p w') {vs:List Value} (hv:cs.toList=vs):bC w' p vs:=fun j v hj=>by
 have e:p.add j=⟨p.block,j,none⟩:=by rw[h.at_];unfold Addr.add;split<;>simp_all
 rw[e]
 simp only[World.cell?,h.heap]
 subst hv
 simpa using hj
theorem Wk.New.soft (h:New w (.cells cs T) p w') {k:Nat} (hk:cs.size=k):jR w' p k:=fun j hj=>by
 have e:p.add j=⟨p.block,j,none⟩:=by rw[h.at_];unfold Addr.add;split<;>simp_all
 rw[e]
 refine⟨?_,?_⟩
 ·simp only[World.cell?,h.heap]
  have:j<cs.size:=by omega
  simp[this]
 ·simp[World.frozen?,h.heap]
theorem pK (b:Nat) (T:TypeId) (fz:Nat×Nat):∀(vs:List Value) (i:Nat) (w:World) (cs:Array Value),w.heap[b]? =some (.cells cs T fz)->i+vs.length<=cs.size->
  (bV w ⟨b,0,none⟩ i vs).heap[b]? =some (.cells ((cs.toList.take i++vs++cs.toList.drop (i+vs.length)).toArray) T fz)/\
  ∀k,k≠b->(bV w ⟨b,0,none⟩ i vs).heap[k]? =w.heap[k]?
 |[],i,w,cs,h,hl=>by simp[bV,h]
 |v::vs,i,w,cs,h,hl=>by
  have e:(⟨b,0,none⟩:Addr).add i=⟨b,i,none⟩:=by unfold Addr.add;split<;>simp_all
  have hi:i<cs.size:=by simp at hl;omega
  have h1:(w.setCell ⟨b,i,none⟩ v).heap[b]? =some (.cells (cs.setIfInBounds i v) T fz):=by
   simp[World.setCell,Array.getElem?_modify,h]
  obtain⟨h2,h3⟩:=pK b T fz vs (i+1) (w.setCell ⟨b,i,none⟩ v) (cs.setIfInBounds i v) h1 (by simp at hl⊢;omega)
  refine⟨?_,fun k hk=> ?_⟩
  ·simp only[bV,e,h2]
   refine congrArg (fun l=>some (Obj.cells (List.toArray l) T fz)) ?_
   apply List.ext_getElem?
   intro j
   simp only[Array.toList_setIfInBounds,List.getElem?_append,List.length_append,List.length_take,List.length_set,List.getElem?_take,List.getElem?_drop,List.length_cons,List.getElem?_set,List.getElem?_cons,Array.length_toList]
   rcases Nat.lt_trichotomy j i with h4|h4|h4
   ·simp[show j<min (i+1) cs.size+vs.length by omega,show j<min (i+1) cs.size by omega,show j<i+1 by omega,show i≠j by omega,show j<min i cs.size+(vs.length+1) by omega,show j<min i cs.size by omega,h4]
   ·subst h4
    simp[show j<min (j+1) cs.size+vs.length by omega,show j<min (j+1) cs.size by omega,show j<min j cs.size+(vs.length+1) by omega,show¬j<min j cs.size by omega,show j-min j cs.size=0 by omega,hi]
   ·rcases Nat.lt_or_ge j (i+1+vs.length) with h5|h5
    ·simp[show j<min (i+1) cs.size+vs.length by omega,show¬j<min (i+1) cs.size by omega,show j<min i cs.size+(vs.length+1) by omega,show¬j<min i cs.size by omega,show j-min i cs.size≠0 by omega,show j-min (i+1) cs.size=j-min i cs.size-1 by omega]
    ·simp[show¬j<min (i+1) cs.size+vs.length by omega,show¬j<min i cs.size+(vs.length+1) by omega,show i≠i+1+vs.length+(j-(min (i+1) cs.size+vs.length)) by omega,show i+1+vs.length+(j-(min (i+1) cs.size+vs.length))=i+(vs.length+1)+(j-(min i cs.size+(vs.length+1))) by omega]
     intro h6;omega
  ·simp only[bV,e]
   rw[h3 k hk]
   simp only[World.setCell,Array.getElem?_modify]
   rw[if_neg (by simpa using fun h=>hk h.symm)]
theorem zJ (p:Addr):∀(vs:List Value) (i:Nat) (w:World),(bV w p i vs).os=w.os/\(bV w p i vs).tape=w.tape/\(bV w p i vs).output=w.output/\(bV w p i vs).drawn=w.drawn/\(bV w p i vs).heap.size=w.heap.size
 |[],i,w=>⟨rfl,rfl,rfl,rfl,rfl⟩
 |v::vs,i,w=>by
  obtain⟨h1,h2,h3,h4,h5⟩:=zJ p vs (i+1) (w.setCell (p.add i) v)
  exact⟨h1,h2,h3,h4,by simp only[bV];rw[h5];simp[World.setCell]⟩
theorem Wk.New.store (h:New w (.cells cs T) p w') {vs:List Value} (hw:w''=aX w' p vs) (hl:cs.size=vs.length):New w (.cells vs.toArray T) p w'':=by
 refine⟨h.at_,?_⟩
 subst hw
 have hp:=h.spot
 obtain⟨h1,h2⟩:=pK p.block T (0,0) vs 0 w' cs h.heap (by omega)
 obtain⟨r1,r2,r3,r4,r5⟩:=zJ p vs 0 w'
 have hb:=h.block
 have e:aX w' p vs=bV w' ⟨p.block,0,none⟩ 0 vs:=by unfold aX;rw[<-hp]
 have hh:(aX w' p vs).heap=(w.alloc (.cells vs.toArray T)).heap:=by
  apply Array.ext_getElem?
  intro k
  rw[e]
  by_cases hk:k=p.block
  ·subst hk
   rw[h1,hb,heap_alloc_new]
   simp[hl,show∀(l:List Value),l.length=vs.length->l.drop vs.length=[] from fun l hl=>List.drop_eq_nil_of_le (by omega)]
  ·rw[h2 k hk,h.is]
   simp only[World.alloc,Array.getElem?_push]
   rw[if_neg (by omega),if_neg (by omega)]
 have e1:(aX w' p vs).os=w.os:=by show(bV w' p 0 vs).os=_;rw[r1,h.is];rfl
 have e2:(aX w' p vs).tape=w.tape:=by show(bV w' p 0 vs).tape=_;rw[r2,h.is];rfl
 have e3:(aX w' p vs).output=w.output:=by show(bV w' p 0 vs).output=_;rw[r3,h.is];rfl
 have e4:(aX w' p vs).drawn=w.drawn:=by show(bV w' p 0 vs).drawn=_;rw[r4,h.is];rfl
 generalize aX w' p vs=z at*
 cases z;cases w
 simp only[World.alloc] at*
 simp_all
end
theorem mD {w w':World} {p:Addr} {vs:List Value} (hw:w'=aX w p vs):Keep (fun b=>b=p.block) w w':=by
 subst hw
 obtain⟨r1,r2,r3,r4,r5⟩:=zJ p vs 0 w
 refine⟨Nat.le_of_eq r5.symm,r1,r2,r3,fun b hb hne=> ?_⟩
 have:∀(vs:List Value) (i:Nat) (w:World),(bV w p i vs).heap[b]? =w.heap[b]? :=by
  intro vs
  induction vs with
  |nil=>intro i w;rfl
  |cons v vs ih=>
   intro i w
   simp only[bV]
   rw[ih]
   simp only[World.setCell,Array.getElem?_modify]
   rw[if_neg (by rw[Addr.add_block];exact fun h=>hne h.symm)]
 exact this vs 0 w
theorem Wk.Keep.set {X:Nat->Prop} {a b c:World} {p:Addr} {vs:List Value} (h:Keep X a b) (hw:c=aX b p vs) (hp:a.heap.size<=p.block\/X p.block):Keep X a c:=by
 have k:=mD hw
 refine⟨Nat.le_trans h.size k.size,k.os.trans h.os,k.tape.trans h.tape,k.output.trans h.output,fun i hi hx=> ?_⟩
 refine(k.block i (Nat.lt_of_lt_of_le hi h.size) fun e=> ?_).trans (h.block i hi hx)
 subst e
 rcases hp with hp|hp
 ·omega
 ·exact hx hp
theorem Xk {w w':World} {p:Addr} {v:Value} (hw:w'=w.setCell p v):Keep (fun b=>b=p.block) w w':=by
 subst hw
 refine⟨by simp[World.setCell],rfl,rfl,rfl,fun b hb hne=> ?_⟩
 simp only[World.setCell,Array.getElem?_modify]
 rw[if_neg (fun h=>hne h.symm)]
theorem aI3 {w:World} {p:Addr} {k:Nat} (h:jR w p k) (hk:0<k):p.block<w.heap.size:=by
 obtain⟨u,hu⟩:=Option.isSome_iff_exists.1 (h 0 hk).1
 rw[Addr.add_zero] at hu
 exact World.block_lt_of_cell? w p hu
theorem aG6 {w w':World} {p:Addr} {vs:List Value} (hw:w'=aX w p vs) (hs:jR w p vs.length):bC w' p vs:=by
 subst hw
 have key:∀(vs:List Value) (i:Nat) (w:World),(∀j,j<vs.length->(w.cell? (p.add (i+j))).isSome=true)->
   (∀j v,vs[j]? =some v->(bV w p i vs).cell? (p.add (i+j))=some v)/\∀q,(∀j,j<vs.length->p.add (i+j)≠q)->(bV w p i vs).cell? q=w.cell? q:=by
  intro vs
  induction vs with
  |nil=>intro i w _;exact⟨fun j v h=>by simp at h,fun q _=>rfl⟩
  |cons v vs ih=>
   intro i w hs
   have h0:=hs 0 (by simp)
   simp only[Nat.add_zero] at h0
   obtain⟨u,hu⟩:=Option.isSome_iff_exists.1 h0
   have inj:∀j k,j<(v::vs).length->k<(v::vs).length->p.add (i+j)=p.add (i+k)->j=k:=by
    intro j k hj hk he
    obtain⟨x,hx⟩:=Option.isSome_iff_exists.1 (hs j hj)
    obtain⟨y,hy⟩:=Option.isSome_iff_exists.1 (hs k hk)
    have off:∀n,(p.add n).off=p.off+n:=fun n=>by
     unfold Addr.add
     split
     ·rename_i h0;rw[h0,Nat.add_zero]
     ·rfl
    have hpx:(p.add (i+j)).off=(p.add (i+k)).off:=by rw[he]
    rw[off,off] at hpx
    omega
   obtain⟨h1,h2⟩:=ih (i+1) (w.setCell (p.add i) v) (fun j hj=>by
    have h3:=hs (j+1) (by simp;omega)
    rw[show i+1+j=i+(j+1) by omega]
    by_cases he:p.add i=p.add (i+(j+1))
    ·rw[<-he,World.cell?_setCell_same w _ v hu];rfl
    ·rw[World.cell?_setCell_other w _ _ v he];exact h3)
   refine⟨fun j x hx=> ?_,fun q hq=> ?_⟩
   ·cases j with
    |zero=>
     simp at hx;subst hx
     simp only[bV,Nat.add_zero]
     rw[h2 (p.add i) (fun j hj he=>by have:=inj (j+1) 0 (by simp;omega) (by simp) (by rw[show i+(j+1)=i+1+j by omega];simpa using he);omega)]
     exact World.cell?_setCell_same w _ v hu
    |succ j=>
     have:=h1 j x (by simpa using hx)
     rwa [show i+1+j=i+(j+1) by omega] at this
   ·simp only[bV]
    rw[h2 q (fun j hj=>by have:=hq (j+1) (by simp;omega);rwa [show i+(j+1)=i+1+j by omega] at this)]
    exact World.cell?_setCell_other w _ _ v (by have:=hq 0 (by simp);simpa using this)
 intro j v hv
 have:=(key vs 0 w (fun j hj=>by simpa using (hs j hj).1)).1 j v hv
 simpa [aX] using this
theorem Wk.Keep.soft {X:Nat->Prop} {w w':World} (h:Keep X w w') {p:Addr} {k:Nat} (hs:jR w p k) (hp:¬X p.block):jR w' p k:=fun j hj=>by
 obtain⟨h1,h2⟩:=hs j hj
 obtain⟨u,hu⟩:=Option.isSome_iff_exists.1 h1
 have hb:=h.block (p.add j).block (World.block_lt_of_cell? w _ hu) (by rw[Addr.add_block];exact hp)
 exact⟨by rw[World.cell?_of_block hb];exact h1,(World.frozen?_of_block hb).trans h2⟩
theorem Wk.Keep.own {X:Nat->Prop} {w w':World} (h:Keep X w w') {p:Addr} {vs:List Value} (k:bC w p vs) (hp:¬X p.block):bC w' p vs:=h.cells ⟨k,hp⟩
noncomputable def dec (p:Prop):Bool:= @decide p (Classical.propDecidable p)
theorem Us {p:Prop}:dec p=true↔p:=by unfold dec;exact @decide_eq_true_iff p (Classical.propDecidable p)
theorem aDj {b:Bool} {p:Prop} (h:b=true↔p):b=dec p:=by
 cases hb:dec p with
 |true=>exact h.2 (Us.1 hb)
 |false=>cases b with
  |false=>rfl
  |true=>rw[Us.2 (h.1 rfl)] at hb;cases hb
def Quiet (P:Program) (f:FuncId) (args:Array Value) (w:World) (v:Value):Prop:=Calls P f args w fun x w'=>x= .returned v/\aP w w'
theorem Quiet.of {P:Program} {f:FuncId} {args:Array Value} {w:World} {v:Value} (h:Calls P f args w (aS fun u w'=>u=v/\aP w w')):Quiet P f args w v:=
 h.mono fun x w' ⟨u,hx,hu,hd⟩=>⟨by rw[hx,hu],hd⟩
structure Cod (α:Type) where
 size:Nat
 rd:World->List Value->α->Prop
 keep:∀{w w':World} {vs:List Value} {x:α},(∀p v,w.cell? p=some v->w'.cell? p=some v)->rd w vs x->rd w' vs x
def Sl {α:Type} (c:Cod α) (w:World) (A:Option Addr) (n:Nat) (xs:List α):Prop:=
 xs.length=n/\∀i x,xs[i]? =some x->∃ad vs,A=some ad/\vs.length=c.size/\bC w (ad.add (i*c.size)) vs/\c.rd w vs x
theorem Sl.keep {α:Type} {c:Cod α} {w w':World} {A:Option Addr} {n:Nat} {xs:List α} (h:Sl c w A n xs) (k:∀p v,w.cell? p=some v->w'.cell? p=some v):Sl c w' A n xs:=
 ⟨h.1,fun i x hx=>let ⟨ad,vs,h1,h2,h3,h4⟩:=h.2 i x hx;⟨ad,vs,h1,h2,fun j v hv=>k _ _ (h3 j v hv),c.keep k h4⟩⟩
theorem Sl.ext {α:Type} {c:Cod α} {w w':World} {A:Option Addr} {n:Nat} {xs:List α} (h:Sl c w A n xs) (k:Ext w w'):Sl c w' A n xs:=h.keep fun _ _=>k.cell
theorem Sl.at {α:Type} {c:Cod α} {w:World} {A:Option Addr} {n:Nat} {xs:List α} (h:Sl c w A n xs) {i:Int} (h0:0<=i) (h1:i<n):
  ∃x ad vs,xs[i.toNat]? =some x/\A=some ad/\vs.length=c.size/\bC w (ad.add (i.toNat*c.size)) vs/\c.rd w vs x:=by
 have hi:i.toNat<xs.length:=by rw[h.1];omega
 obtain⟨ad,vs,h2⟩:=h.2 i.toNat xs[i.toNat] (List.getElem?_eq_getElem hi)
 exact⟨_,ad,vs,List.getElem?_eq_getElem hi,h2⟩
theorem Sl.nil {α:Type} (c:Cod α) (w:World) (A:Option Addr):Sl c w A 0 []:=⟨rfl,fun i x hx=>by simp at hx⟩
theorem Sl.take {α:Type} {c:Cod α} {w:World} {A:Option Addr} {n:Nat} {xs:List α} (h:Sl c w A n xs) {k:Nat} (hk:k<=n):Sl c w A k (xs.take k):=
 ⟨by rw[List.length_take,h.1];omega,fun i x hx=>h.2 i x (by rw[List.getElem?_take] at hx;split at hx;exact hx;cases hx)⟩
def aLd (k:IntKind):Cod Int:=⟨1,fun _ vs x=>vs=[.int k x],fun _ h=>h⟩
def cStr:Cod ByteArray:=⟨1,fun _ vs x=>vs=[.string x],fun _ h=>h⟩
theorem Sl.int {k:IntKind} {w:World} {A:Option Addr} {n:Nat} {xs:List Int} (h:Sl (aLd k) w A n xs) {i:Int} (h0:0<=i) (h1:i<n):
  ∃x ad,xs[i.toNat]? =some x/\A=some ad/\w.cell? (ad.add (i.toNat*1))=some (.int k x):=by
 obtain⟨x,ad,vs,hx,hA,hl,hc,hr⟩:=h.at h0 h1
 have:vs=[.int k x]:=hr
 subst this
 exact⟨x,ad,hx,hA,by simpa [aLd,Addr.add_zero] using hc 0 _ rfl⟩
theorem Wk.Keep.over {X Y:Nat->Prop} {a b c:World} (h:Keep X a b) (k:Keep Y b c) (hY:∀i,i<a.heap.size->Y i->X i):Keep X a c:=
 ⟨Nat.le_trans h.size k.size,k.os.trans h.os,k.tape.trans h.tape,k.output.trans h.output,fun i hi hx=>(k.block i (Nat.lt_of_lt_of_le hi h.size) (fun hy=>hx (hY i hi hy))).trans (h.block i hi hx)⟩
def Ih (P:Program) (t:TypeId):Option (Nat×Nat×Nat):=(P.info? t).bind fun i=>i.zero.map fun z=>(i.size,i.bytes,z.cells.size)
def Own (w:World) (base:Nat) (e:TypeId) (s:Nat) (A:Option Addr) (n c:Nat) (vs:List Value):Prop:=w.ownsRow base e s (.slice A n c) n vs
def At (A:Option Addr) (b:Nat):Prop:=∃a,A=some a/\a.block=b
theorem Own.nil (w:World) (base:Nat) (e:TypeId) (s:Nat):Own w base e s none 0 0 []:=World.ownsRow_nil w base e s
theorem Own.at {w:World} {base:Nat} {e:TypeId} {s:Nat} {A:Option Addr} {n c:Nat} {vs:List Value} (h:Own w base e s A n c vs) {b:Nat} (hb:At A b):base<=b/\b<w.heap.size:=by
 obtain⟨a,rfl,rfl⟩:=hb
 exact World.ownsRow.lt h _ rfl
theorem Own.keep {X:Nat->Prop} {w w':World} {base:Nat} {e:TypeId} {s:Nat} {A:Option Addr} {n c:Nat} {vs:List Value} (h:Own w base e s A n c vs) (k:Keep X w w') (hx:∀b,At A b->¬X b):Own w' base e s A n c vs:=by
 refine⟨h.1,?_⟩
 rcases h.2 with hn|⟨g,cap,cur,hv,hb,hg,hr⟩
 ·exact .inl hn
 ·refine .inr ⟨g,cap,cur,hv,hb,?_,hr⟩
  have hA:At A g:=by
   injection hv with h1 _ _
   exact⟨_,h1,rfl⟩
  rw[k.block g (Own.at h hA).2 (hx g hA),hg]
theorem Own.cells {w:World} {base:Nat} {e:TypeId} {s:Nat} {A:Option Addr} {n c:Nat} {vs:List Value} (h:Own w base e s A n c vs):vs=[]\/∃a,A=some a/\bC w a vs:=by
 rcases h.2 with hn|⟨g,cap,cur,hv,hb,hg,hr⟩
 ·left
  have:=h.1
  rw[hn.2] at this
  exact List.length_eq_zero_iff.1 (by simpa using this)
 ·right
  injection hv with h1 _ _
  subst h1
  exact⟨_,rfl,fun j v hj=>World.ownsRow.cells h rfl j v hj⟩
theorem Own.aF4 {P:Program} {w:World} {base:Nat} {t ty e:TypeId} {s by_:Nat} {A:Option Addr} {n c m c2:Nat} {vs news:List Value} {a:Addr} (h:Own w base e s A n c vs) (ht:jC P t=some e) (hi:Ih P e=some (s,by_,s)) (hs:0<s)
  (hl:news.length=m*s) (hc:bC w a news) (h1:∀u∈news,u.oneCell'=true) (hby:(n+m)*by_<=140737488355328) (hn:n+m<=140737488355328) (hb:base<=w.heap.size):
  ∃A' c' w',(Builtin.append_ #[t,t] ty #[.slice A n c,.slice (some a) m c2]).run P w= .ok (.slice A' (n+m) c') w'/\Own w' base e s A' (n+m) c' (vs++news)/\Keep (At A) w w'/\∀b,At A' b->At A b\/w.heap.size<=b:=by
 unfold Ih at hi
 obtain⟨i,hi1,hi2⟩:=Option.bind_eq_some_iff.1 hi
 obtain⟨z,hz,hq⟩:=Option.map_eq_some_iff.1 hi2
 injection hq with q1 q2
 injection q2 with q2 q3
 obtain⟨v',w',hr,ho,hg,_⟩:=run_append_own (P:=P) w base t ty e i z s by_ (jD ht) hi1 hz q1 q2 q3 hs (.slice A n c) n vs h a m c2 news hl hc h1 (by simp only[maxLen];omega) hby hb
 have hv:∃A' c',v'= .slice A' (n+m) c':=by
  rcases ho.2 with⟨rfl,h0⟩|⟨g,cap,cur,rfl,_⟩
  ·exact⟨none,0,by rw[h0]⟩
  ·exact⟨_,_,rfl⟩
 obtain⟨A',c',rfl⟩:=hv
 refine⟨A',c',w',hr,ho,⟨hg.size,hg.os,hg.tape,hg.output,fun b hb hx=>hg.block b hb fun he=>hx ?_⟩,?_⟩
 ·cases A with
  |none=>simp[Value.ownBlock] at he
  |some a=>simp[Value.ownBlock] at he;exact⟨a,rfl,he.symm⟩
 ·rintro b ⟨a',rfl,rfl⟩
  have eqn:∀{x:Addr} {k l:Nat} {w2:World},(Builtin.append_ #[t,t] ty #[.slice A n c,.slice (some a) m c2]).run P w= .ok (.slice (some x) k l) w2->a'=x:=fun {x k l w2} hh=>by
   rw[hr] at hh
   injection hh with hh _
   injection hh with hh _ _
   injection hh
  rcases h.2 with⟨hn0,h0⟩|⟨g,cap,cur,hv,hbg,hgg,hnc,hcm,hcs,htk⟩
  ·injection hn0 with e1 e2 e3
   subst e1 e2 e3
   rcases Nat.eq_zero_or_pos m with hm|hm
   ·exfalso
    rcases ho.2 with⟨hq,_⟩|⟨g,cap,cur,hq,hbg,hgg,_⟩
    ·cases hq
    ·subst hm
     have hn':news=[]:=List.eq_nil_of_length_eq_zero (by simpa using hl)
     subst hn'
     have:(Builtin.append_ #[t,t] ty #[.slice none 0 0,.slice (some a) 0 c2]).run P w= .ok (.slice none 0 0) w:=by
      simp[Builtin.append_,run_underlying (jD ht),sizeOf,typeInfo,hi1,Builtin.lenOf,Builtin.firstCells,loadCells,loadCellsFrom]
     rw[hr] at this
     injection this with this _
     injection this with this _ _
     cases this
   ·have:=eqn (run_append_nil (P:=P) w t ty e i z (jD ht) hi1 hz a m c2 news (by rw[q1];exact hl) hc hm (by omega) (by rw[q2];simp only[Nat.zero_add] at hby;omega))
    subst this
    exact .inr (Nat.le_refl _)
  ·injection hv with e1 e2 e3
   subst e1 e3
   by_cases hroom:n+m<=c
   ·have:=eqn (run_append_room (P:=P) w t ty e i (jD ht) hi1 g n c cur hgg a m c2 news (by rw[q1];exact hl) hc h1 hroom (by rw[q1,hl,hcs,<-Nat.add_mul];exact Nat.mul_le_mul_right _ hroom))
    subst this
    exact .inl ⟨_,rfl,rfl⟩
   ·have:=eqn (run_append_grow (P:=P) w t ty e i z (jD ht) hi1 hz ⟨g,0,none⟩ n c vs (by rw[q1];exact h.1) (World.ownsRow.cells h rfl) a m c2 news (by rw[q1];exact hl) hc (by omega) (by omega) (growslice_fits (by omega) (by rw[q2];exact hby)))
    subst this
    exact .inr (Nat.le_refl _)
theorem Own.append {P:Program} {w:World} {base:Nat} {t ty e:TypeId} {s by_:Nat} {A:Option Addr} {n c m c2:Nat} {vs news:List Value} {a:Addr} (h:Own w base e s A n c vs) (ht:jC P t=some e) (hi:Ih P e=some (s,by_,s)) (hs:0<s) (hs2:s<=64) (hb2:by_<=64)
  (hl:news.length=m*s) (hc:bC w a news) (h1:∀u∈news,u.oneCell'=true) (hn:n+m<=2199023255552) (hb:base<=w.heap.size):
  ∃A' c' w',(Builtin.append_ #[t,t] ty #[.slice A n c,.slice (some a) m c2]).run P w= .ok (.slice A' (n+m) c') w'/\Own w' base e s A' (n+m) c' (vs++news)/\Keep (At A) w w'/\∀b,At A' b->At A b\/w.heap.size<=b:=
 h.aF4 ht hi hs hl hc h1 (Nat.le_trans (Nat.mul_le_mul hn hb2) (by decide)) (by omega) hb
def St (H:Nat->Prop) (w:World) (φ:World->Prop):Prop:=∀w',Keep H w w'->φ w'
structure Yi (H:Nat->Prop) (w:World) (H':Nat->Prop) (w':World):Prop where
 keep:Keep H w w'
 grow:∀i,i<w.heap.size->H' i->H i
section
variable {H H' H'':Nat->Prop} {w w' w'':World} {φ ψ:World->Prop}
theorem Yi.refl (H:Nat->Prop) (w:World):Yi H w H w:=⟨Keep.refl H w,fun _ _ h=>h⟩
theorem Yi.trans (h:Yi H w H' w') (k:Yi H' w' H'' w''):Yi H w H'' w'':=
 ⟨h.keep.over k.keep h.grow,fun i hi h2=>h.grow i hi (k.grow i (Nat.lt_of_lt_of_le hi h.keep.size) h2)⟩
theorem Yi.uP (h:Ext w w'):Yi H w H w':=⟨h.mono (fun _ _ k=>k.elim),fun _ _ h=>h⟩
theorem Yi.wide {Z:Nat->Prop} (h:Yi H w H' w') (hz:∀i,i<w.heap.size->H i->Z i):Yi Z w (fun i=>Z i\/H' i) w':=⟨h.keep.mono hz,fun i hi k=>k.elim id fun k=>hz i hi (h.grow i hi k)⟩
theorem Yi.bI {o:Obj} {p:Addr} (h:New w o p w'):Yi H w H w':=Yi.uP (Ext.bI h)
theorem Yi.aO (h:aP w w'):Yi H w H w':=Yi.uP (Ext.aO h)
theorem St.now (h:St H w φ):φ w:=h w (Keep.refl H w)
theorem St.adv (h:St H w φ) (k:Yi H w H' w'):St H' w' φ:=fun w2 h2=>h w2 (k.keep.over h2 k.grow)
theorem St.imp (h:St H w φ) (k:∀w',φ w'->ψ w'):St H w ψ:=fun w' hw=>k w' (h w' hw)
theorem St.of (h:∀w',Ext w w'->φ w') (hH:∀i,i<w.heap.size->¬H i):St H w φ:=fun w' hw=>h w' (hw.mono fun i hi hx=>hH i hi hx)
theorem St.cells {p:Addr} {vs:List Value} (h:bC w p vs) (hp:¬H p.block):St H w fun w=>bC w p vs:=fun w' hw=>hw.own h hp
theorem St.cell {p:Addr} {v:Value} (h:w.cell? p=some v) (hp:¬H p.block):St H w fun w=>w.cell? p=some v:=fun w' hw=>hw.cell ⟨h,hp⟩
theorem Own.adv {base:Nat} {e:TypeId} {s:Nat} {A:Option Addr} {n c:Nat} {vs:List Value} (h:Own w base e s A n c vs) (hA:∀b,At A b->¬H b) (k:Yi H w H' w'):Own w' base e s A n c vs/\∀b,At A b->¬H' b:=
 ⟨h.keep k.keep hA,fun b hb h'=>hA b hb (k.grow b (h.at hb).2 h')⟩
theorem Yi.lt {b:Nat} (k:Yi H w H' w') (hb:b<w.heap.size) (h:¬H b):b<w'.heap.size/\¬H' b:=⟨Nat.lt_of_lt_of_le hb k.keep.size,fun h'=>h (k.grow b hb h')⟩
end
def HX (R:Nat) (p:Addr) (A:Nat->Option Addr) (b:Nat):Prop:=b=p.block\/∃k,k<R/\At (A k) b
structure Rws (R:Nat) (ty:Nat->TypeId) (W0 w:World) (p:Addr) (A:Nat->Option Addr) (n c:Nat->Nat) (vs:Nat->List Value):Prop where
 cell:∀k,k<R->w.cell? (p.add k)=some (.slice (A k) (n k) (c k))
 soft:jR w p R
 own:∀k,k<R->Own w W0.heap.size (ty k) 1 (A k) (n k) (c k) (vs k)
 sep:∀j k,j<R->k<R->j≠k->∀b,At (A j) b->¬At (A k) b
 sepp:∀k,k<R->¬At (A k) p.block
 pnew:W0.heap.size<=p.block
 ext:Ext W0 w
section
variable {R:Nat} {ty:Nat->TypeId} {W0 w w':World} {p:Addr} {A:Nat->Option Addr} {n c:Nat->Nat} {vs:Nat->List Value}
theorem Keep.bI {X:Nat->Prop} {o:Obj} {p:Addr} {w w':World} (h:New w o p w'):Keep X w w':=(Keep.refl X w).new h
theorem Rws.plt (h:Rws R ty W0 w p A n c vs) (hR:0<R):p.block<w.heap.size:=aI3 h.soft hR
theorem Rws.hx (h:Rws R ty W0 w p A n c vs) (hR:0<R):∀i,HX R p A i->W0.heap.size<=i/\i<w.heap.size:=by
 rintro i (rfl|⟨k,hk,hA⟩)
 ·exact⟨h.pnew,h.plt hR⟩
 ·exact(h.own k hk).at hA
theorem Rws.stay (h:Rws R ty W0 w p A n c vs) (hR:0<R) (k:Ext w w'):Rws R ty W0 w' p A n c vs:=
 ⟨fun j hj=>k.cell (h.cell j hj),k.soft h.soft (fun h=>h),fun j hj=>(h.own j hj).keep k (fun _ _ h=>h),h.sep,h.sepp,h.pnew,h.ext.trans k⟩
theorem Rws.keep {X:Nat->Prop} (h:Rws R ty W0 w p A n c vs) (hR:0<R) (k:Keep X w w') (hX:∀i,HX R p A i->¬X i) (h0:∀i,i<W0.heap.size->¬X i):Rws R ty W0 w' p A n c vs:=
 ⟨fun j hj=>k.cell ⟨h.cell j hj,by rw[Addr.add_block];exact hX _ (.inl rfl)⟩,k.soft h.soft (hX _ (.inl rfl)),fun j hj=>(h.own j hj).keep k fun b hb=>hX b (.inr ⟨j,hj,hb⟩),h.sep,h.sepp,h.pnew,h.ext.over k fun i hi hx=>absurd hx (h0 i hi)⟩
def upd {α:Type} (f:Nat->α) (k:Nat) (x:α):Nat->α:=fun j=>if j=k then x else f j
theorem upd_same {α:Type} (f:Nat->α) (k:Nat) (x:α):upd f k x k=x:=by simp[upd]
theorem upd_ne {α:Type} (f:Nat->α) {j k:Nat} (x:α) (h:j≠k):upd f k x j=f j:=by simp[upd,h]
theorem aJy {a:Addr} {i j:Nat} (h:a.add i=a.add j):i=j:=by
 have off:∀n,(a.add n).off=a.off+n:=fun n=>by
  unfold Addr.add
  split
  ·rename_i h0;rw[h0,Nat.add_zero]
  ·rfl
 have:(a.add i).off=(a.add j).off:=by rw[h]
 rw[off,off] at this
 omega
theorem Rws.push {P:Program} (h:Rws R ty W0 w p A n c vs) {k:Nat} (hk:k<R) {t:TypeId} (ht:jC P t=some (ty k)) {by_:Nat} (hinf:Ih P (ty k)=some (1,by_,1)) (hb64:by_<=64) {v:Value} (hv:v.oneCell'=true) (hn:n k<=1099511627776)
  {T:TypeId} {p5:Addr} {w7:World} (hN:New w (.cells #[v] T) p5 w7) {c2:Nat}:
  ∃A' c' w8,(Builtin.append_ #[t,t] t #[.slice (A k) (n k) (c k),.slice (some p5) 1 c2]).run P w7= .ok (.slice A' (n k+1) c') w8/\(∃u,w8.cell? (p.add k)=some u)/\w8.frozen? (p.add k)=false/\
   ∀w9,w9=w8.setCell (p.add k) (.slice A' (n k+1) c')->Rws R ty W0 w9 p (upd A k A') (upd n k (n k+1)) (upd c k c') (upd vs k (vs k++[v]))/\Yi (HX R p A) w (HX R p (upd A k A')) w9:=by
 have hR:0<R:=by omega
 have h7:=h.stay hR (Ext.bI hN)
 obtain⟨A',c',w8,hr,hO,hK,hA'⟩:=(h7.own k hk).append (m:=1) (c2:=c2) (ty:=t) ht hinf (by decide) (by decide) hb64 (news:=[v]) rfl (hN.cells rfl) (by intro u hu;simp at hu;subst hu;exact hv) (by omega) h7.ext.size
 have e7:w7.heap.size=w.heap.size+1:=hN.size
 have pk:¬At (A k) p.block:=h.sepp k hk
 have hp:=h.plt hR
 have hc8:w8.cell? (p.add k)=some (.slice (A k) (n k) (c k)):=hK.cell ⟨h7.cell k hk,by rw[Addr.add_block];exact pk⟩
 have hs8:jR w8 p R:=hK.soft h7.soft pk
 have pA':¬At A' p.block:=fun k=>by
  rcases hA' _ k with k|k
  ·exact pk k
  ·omega
 refine⟨A',c',w8,hr,⟨_,hc8⟩,(hs8 k hk).2,?_⟩
 intro w9 hw9
 have hK9:=Xk hw9
 rw[Addr.add_block] at hK9
 have hK79:Keep (HX R p A) w7 w9:=(hK.mono (fun i _ hi=> .inr ⟨k,hk,hi⟩)).over hK9 fun i _ hi=> .inl hi
 have hadv:Yi (HX R p A) w (HX R p (upd A k A')) w9:=by
  refine⟨(Keep.bI hN).over hK79 (fun i _ hi=>hi),?_⟩
  rintro i hi (rfl|⟨j,hj,hj2⟩)
  ·exact .inl rfl
  ·by_cases hjk:j=k
   ·subst hjk
    rw[upd_same] at hj2
    rcases hA' i hj2 with q|q
    ·exact .inr ⟨j,hj,q⟩
    ·omega
   ·rw[upd_ne _ _ hjk] at hj2
    exact .inr ⟨j,hj,hj2⟩
 have alen:∀j,(p.add j).block=p.block:=fun j=>Addr.add_block p j
 refine⟨⟨fun j hj=> ?_,?_,fun j hj=> ?_,fun i j hi hj hij b hb=> ?_,fun j hj=> ?_,h.pnew,?_⟩,hadv⟩
 ·by_cases hjk:j=k
  ·subst hjk
   rw[hw9,upd_same,upd_same,upd_same,World.cell?_setCell_same w8 _ _ hc8]
  ·rw[hw9,upd_ne _ _ hjk,upd_ne _ _ hjk,upd_ne _ _ hjk,World.cell?_setCell_other w8 _ _ _ (fun q=>hjk (aJy q).symm)]
   exact hK.cell ⟨h7.cell j hj,by rw[alen];exact pk⟩
 ·intro j hj
  obtain⟨g1,g2⟩:=hs8 j hj
  rw[hw9]
  refine⟨?_,?_⟩
  ·by_cases hjk:p.add k=p.add j
   ·rw[<-hjk,World.cell?_setCell_same w8 _ _ hc8];rfl
   ·rw[World.cell?_setCell_other w8 _ _ _ hjk];exact g1
  ·rw[World.frozen?_setCell];exact g2
 ·by_cases hjk:j=k
  ·subst hjk
   rw[upd_same,upd_same,upd_same,upd_same]
   exact hO.keep hK9 fun b hb hb2=>by subst hb2;exact pA' hb
  ·rw[upd_ne _ _ hjk,upd_ne _ _ hjk,upd_ne _ _ hjk,upd_ne _ _ hjk]
   exact((h7.own j hj).keep hK fun b hb=>h.sep j k hj hk hjk b hb).keep hK9 fun b hb hb2=>by subst hb2;exact h.sepp j hj hb
 ·have key:∀j,j<R->j≠k->∀b,At (A j) b->¬At A' b:=by
   intro j hj hjk b hb hb2
   rcases hA' b hb2 with q|q
   ·exact h.sep j k hj hk hjk b hb q
   ·have:=(h.own j hj).at hb;omega
  by_cases hik:i=k
  ·subst hik
   rw[upd_same] at hb
   rw[upd_ne _ _ (fun q=>hij q.symm)]
   exact fun q=>key j hj (fun q=>hij q.symm) b q hb
  ·rw[upd_ne _ _ hik] at hb
   by_cases hjk:j=k
   ·subst hjk
    rw[upd_same]
    exact key i hi hik b hb
   ·rw[upd_ne _ _ hjk]
    exact h.sep i j hi hj hij b hb
 ·by_cases hjk:j=k
  ·subst hjk;rw[upd_same];exact pA'
  ·rw[upd_ne _ _ hjk];exact h.sepp j hj
 ·exact h.ext.over hadv.keep fun i hi hx=>by have:=(h.hx hR i hx).1;omega
end
def SlV {α:Type} (c:Cod α) (w:World) (vs:List Value) (xs:List α):Prop:=vs.length=xs.length*c.size/\∀i x,xs[i]? =some x->c.rd w ((vs.drop (i*c.size)).take c.size) x
theorem SlV.nil {α:Type} (c:Cod α) (w:World):SlV c w [] []:=⟨by simp,fun i x h=>by simp at h⟩
theorem SlV.keep {α:Type} {c:Cod α} {w w':World} {vs:List Value} {xs:List α} (h:SlV c w vs xs) (k:∀p v,w.cell? p=some v->w'.cell? p=some v):SlV c w' vs xs:=⟨h.1,fun i x hx=>c.keep k (h.2 i x hx)⟩
theorem SlV.snoc {α:Type} {c:Cod α} {w:World} {vs us:List Value} {xs:List α} {x:α} (h:SlV c w vs xs) (hu:us.length=c.size) (hr:c.rd w us x):SlV c w (vs++us) (xs++[x]):=by
 refine⟨by simp[h.1,hu,Nat.add_mul],fun i y hy=> ?_⟩
 rcases Nat.lt_or_ge i xs.length with hi|hi
 ·rw[List.getElem?_append_left hi] at hy
  have hle:i*c.size+c.size<=vs.length:=by rw[h.1,<-Nat.succ_mul];exact Nat.mul_le_mul_right _ hi
  rw[List.drop_append_of_le_length (by omega),List.take_append_of_le_length (by rw[List.length_drop];omega)]
  exact h.2 i y hy
 ·rw[List.getElem?_append_right hi] at hy
  have h0:i-xs.length=0:=by
   rcases Nat.eq_zero_or_pos (i-xs.length) with k|k
   ·exact k
   ·rw[List.getElem?_eq_none_iff.2 (by simp;omega)] at hy;cases hy
  rw[h0] at hy
  simp at hy
  subst hy
  have hi':i=xs.length:=by omega
  subst hi'
  rw[<-h.1,List.drop_left,List.take_of_length_le (by omega)]
  exact hr
theorem Own.sl {α:Type} {c:Cod α} {w:World} {base:Nat} {e:TypeId} {A:Option Addr} {n cp:Nat} {vs:List Value} {xs:List α} (h:Own w base e c.size A n cp vs) (k:SlV c w vs xs) (hs:0<c.size):Sl c w A n xs:=by
 have hlen:xs.length=n:=by
  have h1:=h.1
  have h2:=k.1
  rw[h1] at h2
  exact(Nat.eq_of_mul_eq_mul_right hs h2).symm
 refine⟨hlen,fun i x hx=> ?_⟩
 have hi:=(List.getElem?_eq_some_iff.1 hx).1
 have hle:i*c.size+c.size<=vs.length:=by rw[k.1,<-Nat.succ_mul];exact Nat.mul_le_mul_right _ hi
 rcases h.cells with h0|⟨a,ha,hc⟩
 ·rw[h0] at hle
  simp at hle
  omega
 ·refine⟨a,_,ha,by rw[List.length_take,List.length_drop];omega,fun j v hj=> ?_,k.2 i x hx⟩
  rw[List.getElem?_take] at hj
  split at hj
  ·rw[List.getElem?_drop] at hj
   rw[Addr.add_add]
   exact hc _ v hj
  ·cases hj
theorem Own.st {α:Type} {c:Cod α} {w:World} {H:Nat->Prop} {base:Nat} {e:TypeId} {A:Option Addr} {n cp:Nat} {vs:List Value} {xs:List α} (h:Own w base e c.size A n cp vs) (hA:∀b,At A b->¬H b) (k:St H w fun w=>SlV c w vs xs) (hs:0<c.size):St H w fun w=>Sl c w A n xs:=fun w' hw=>
 (h.keep hw hA).sl (k w' hw) hs
theorem Own.cap {w:World} {base:Nat} {e:TypeId} {s:Nat} {A:Option Addr} {n c:Nat} {vs:List Value} (h:Own w base e s A n c vs):n<=c:=by
 rcases h.2 with⟨h0,_⟩|⟨g,cap,cur,hv,_,_,hl,_⟩
 ·injection h0;omega
 ·injection hv;omega
theorem Own.len {w:World} {base:Nat} {e:TypeId} {s:Nat} {A:Option Addr} {n c:Nat} {vs:List Value} (h:Own w base e s A n c vs):vs.length=n*s:=h.1
theorem Own.new {w w':World} {p:Addr} {e:TypeId} {s:Nat} (h:New w (.cells #[] e) p w'):Own w' w.heap.size e s (some p) 0 0 []:=by
 have:=h.at_
 subst this
 rw[h.is]
 exact World.ownsRow_made w #[] 0 (Nat.le_refl _) (by decide) (by simp)
theorem Own.Xa {w:World} {b b':Nat} {e:TypeId} {s:Nat} {A:Option Addr} {n c:Nat} {vs:List Value} (h:Own w b e s A n c vs) (hb:b'<=b):Own w b' e s A n c vs:=by
 refine⟨h.1,?_⟩
 rcases h.2 with h0|⟨g,cap,cur,hv,hg,hr⟩
 ·exact .inl h0
 ·exact .inr ⟨g,cap,cur,hv,by omega,hr⟩
theorem rJ (g o k:Nat):(⟨g,o,none⟩:Addr).add k=⟨g,o+k,none⟩:=by
 unfold Addr.add
 split
 ·rename_i h;subst h;simp
 ·rfl
def Row (w:World) (base:Nat) (e:TypeId) (s:Nat) (A:Option Addr) (n c:Nat) (vs:List Value):Prop:=
 vs.length=n*s/\((A=none/\n=0/\c=0)\/∃g o cur,A=some ⟨g,o,none⟩/\base<=g/\w.heap[g]? =some (.cells cur e (0,0))/\n<=c/\o+c*s<=cur.size/\(cur.toList.drop o).take (n*s)=vs)
section
variable {w w':World} {base:Nat} {e:TypeId} {s:Nat} {A:Option Addr} {n c:Nat} {vs:List Value}
theorem Row.nil (w:World) (base:Nat) (e:TypeId) (s:Nat):Row w base e s none 0 0 []:=⟨by simp,.inl ⟨rfl,rfl,rfl⟩⟩
theorem Row.at (h:Row w base e s A n c vs) {b:Nat} (hb:At A b):base<=b/\b<w.heap.size:=by
 obtain⟨a,rfl,rfl⟩:=hb
 rcases h.2 with⟨h0,_⟩|⟨g,o,cur,hA,hg,hc,_⟩
 ·cases h0
 ·cases hA
  exact⟨hg,(Array.getElem?_eq_some_iff.1 hc).1⟩
theorem Row.keep {X:Nat->Prop} (h:Row w base e s A n c vs) (k:Keep X w w') (hx:∀b,At A b->¬X b):Row w' base e s A n c vs:=by
 refine⟨h.1,?_⟩
 rcases h.2 with h0|⟨g,o,cur,hA,hg,hc,hr⟩
 ·exact .inl h0
 ·refine .inr ⟨g,o,cur,hA,hg,?_,hr⟩
  have hAt:At A g:=⟨_,hA,rfl⟩
  rw[k.block g (h.at hAt).2 (hx g hAt),hc]
theorem Row.le (h:Row w base e s A n c vs):n<=c:=by
 rcases h.2 with⟨_,h1,h2⟩|⟨_,_,_,_,_,_,h,_⟩<;>omega
theorem Row.cells (h:Row w base e s A n c vs):vs=[]\/∃a,A=some a/\bC w a vs:=by
 rcases h.2 with⟨_,h0,_⟩|⟨g,o,cur,hA,hg,hc,hn,hl,ht⟩
 ·left
  have:=h.1
  rw[h0,Nat.zero_mul] at this
  exact List.length_eq_zero_iff.1 this
 ·right
  refine⟨_,hA,fun j v hj=> ?_⟩
  rw[rJ]
  simp only[World.cell?,hc]
  rw[<-ht,List.getElem?_take] at hj
  split at hj
  ·rw[List.getElem?_drop] at hj
   simpa using hj
  ·cases hj
theorem Row.soft (h:Row w base e s A n c vs) {a:Addr} (hA:A=some a):jR w a (n*s):=by
 intro j hj
 rcases h.2 with⟨h0,_⟩|⟨g,o,cur,hA',hg,hc,hn,hl,ht⟩
 ·rw[h0] at hA;cases hA
 ·rw[hA] at hA'
  cases hA'
  rw[rJ]
  refine⟨?_,by simp[World.frozen?,hc]⟩
  have:o+j<cur.size:=by
   have:=Nat.mul_le_mul_right s hn
   omega
  simp[World.cell?,hc,this]
theorem Row.elem (h:Row w base e s A n c vs) {i:Int} (h0:0<=i) (h1:i<n) (hs:0<s):∃a us,A=some a/\us=(vs.drop (i.toNat*s)).take s/\us.length=s/\bC w (a.add (i.toNat*s)) us/\jR w (a.add (i.toNat*s)) s:=by
 have hle:i.toNat*s+s<=n*s:=by rw[<-Nat.succ_mul];exact Nat.mul_le_mul_right _ (by omega)
 have hl:=h.1
 rcases h.cells with h0|⟨a,ha,hc⟩
 ·rw[h0] at hl
  simp at hl
  omega
 ·refine⟨a,_,ha,rfl,by rw[List.length_take,List.length_drop];omega,fun j v hj=> ?_,fun j hj=> ?_⟩
  ·rw[List.getElem?_take] at hj
   split at hj
   ·rw[List.getElem?_drop] at hj
    rw[Addr.add_add]
    exact hc _ v hj
   ·cases hj
  ·rw[Addr.add_add]
   exact h.soft ha _ (by omega)
theorem Row.get (h:Row w base e 1 A n c vs) {i:Int} (h0:0<=i) (h1:i<n):∃a v,A=some a/\vs[i.toNat]? =some v/\w.cell? (a.add (i.toNat*1))=some v/\w.frozen? (a.add (i.toNat*1))=false:=by
 obtain⟨a,us,hA,hu,hl,hc,hso⟩:=h.elem h0 h1 (by decide)
 have hlen:=h.1
 have hi:i.toNat<vs.length:=by omega
 refine⟨a,vs[i.toNat],hA,List.getElem?_eq_getElem hi,?_,?_⟩
 ·have:=hc 0 vs[i.toNat] (by rw[hu,Nat.mul_one,List.getElem?_take,List.getElem?_drop];simp)
  rwa [Addr.add_zero] at this
 ·have:=(hso 0 (by decide)).2
  rwa [Addr.add_zero] at this
theorem Row.Xa (h:Row w base e s A n c vs) {b':Nat} (hb:b'<=base):Row w b' e s A n c vs:=by
 refine⟨h.1,?_⟩
 rcases h.2 with h0|⟨g,o,cur,hA,hg,hr⟩
 ·exact .inl h0
 ·exact .inr ⟨g,o,cur,hA,by omega,hr⟩
theorem Own.row (h:Own w base e s A n c vs):Row w base e s A n c vs:=by
 refine⟨h.1,?_⟩
 rcases h.2 with⟨hv,h0⟩|⟨g,cap,cur,hv,hb,hg,hn,hm,hs,ht⟩
 ·injection hv with e1 e2 e3
  exact .inl ⟨e1,h0,e3⟩
 ·injection hv with e1 e2 e3
  subst e3
  exact .inr ⟨g,0,cur,e1,hb,hg,hn,by omega,by simpa using ht⟩
theorem Row.new {cs:Array Value} {p:Addr} (h:New w (.cells cs e) p w') {n:Nat} (hn:cs.size=n*s) {vs:List Value} (hv:cs.toList=vs):Row w' w.heap.size e s (some p) n n vs:=by
 have hh:=h.heap
 have hb:=h.block
 have hs:=h.spot
 subst hv
 refine⟨by simpa using hn,.inr ⟨p.block,0,cs,by rw[<-hs],by omega,hh,Nat.le_refl _,by omega,?_⟩⟩
 rw[<-hn]
 simp[List.take_of_length_le]
theorem Mc (g:Nat):∀(us:List Value) (q i:Nat) (w:World),bV w ⟨g,q,none⟩ i us=bV w ⟨g,0,none⟩ (q+i) us
 |[],q,i,w=>rfl
 |u::us,q,i,w=>by
  simp only[bV,rJ,Nat.zero_add]
  rw[Mc g us q (i+1)]
  rfl
theorem Row.put (h:Row w base e s A n c vs) {a:Addr} (hA:A=some a) {j:Nat} {us:List Value} (hj:j+us.length<=n*s) (hw:w'=aX w (a.add j) us):Row w' base e s A n c (vs.take j++us++vs.drop (j+us.length))/\Keep (At A) w w':=by
 have k:=mD hw
 have hAt:Keep (At A) w w':=k.mono fun i _ hi=>⟨a,hA,by rw[hi,Addr.add_block]⟩
 refine⟨?_,hAt⟩
 rcases h.2 with⟨h0,_⟩|⟨g,o,cur,hA',hg,hc,hn,hl,ht⟩
 ·rw[h0] at hA;cases hA
 rw[hA] at hA'
 cases hA'
 have hlen:=h.1
 have hns:=Nat.mul_le_mul_right s hn
 refine⟨by simp;omega,.inr ⟨g,o,(cur.toList.take (o+j+0)++us++cur.toList.drop (o+j+0+us.length)).toArray,hA,hg,?_,hn,?_,?_⟩⟩
 ·subst hw
  rw[rJ]
  unfold aX
  rw[Mc]
  exact(pK g e (0,0) us (o+j+0) w cur hc (by omega)).1
 ·simp
  omega
 ·rw[<-ht]
  apply List.ext_getElem?
  intro i
  have hcs:cur.toList.length=cur.size:=Array.length_toList
  simp only[Nat.add_zero,List.getElem?_take,List.getElem?_drop,List.getElem?_append,List.length_append,List.length_take,List.length_drop,hcs]
  rcases Nat.lt_or_ge i (n*s) with h1|h1
  ·rcases Nat.lt_or_ge i j with h2|h2
   ·simp[show o+i<min (o+j) cur.size+us.length by omega,show o+i<min (o+j) cur.size by omega,show o+i<o+j by omega,h1,h2,show i<min j (min (n*s) (cur.size-o))+us.length by omega,show i<j by omega,show i<min (n*s) (cur.size-o) by omega]
    intro hh
    omega
   ·rcases Nat.lt_or_ge i (j+us.length) with h3|h3
    ·simp[show o+i<min (o+j) cur.size+us.length by omega,show¬o+i<min (o+j) cur.size by omega,h1,show i<min j (min (n*s) (cur.size-o))+us.length by omega,show¬i<min j (min (n*s) (cur.size-o)) by omega,show o+i-min (o+j) cur.size=i-min j (min (n*s) (cur.size-o)) by omega]
    ·simp[show¬o+i<min (o+j) cur.size+us.length by omega,h1,show¬i<min j (min (n*s) (cur.size-o))+us.length by omega,show o+j+us.length+(o+i-(min (o+j) cur.size+us.length))=o+i by omega,show j+us.length+(i-(min j (min (n*s) (cur.size-o))+us.length))=i by omega]
  ·simp[show¬i<n*s by omega]
   split
   ·omega
   ·split
    ·omega
    ·rfl
theorem Row.cut (h:Row w base e s A n c vs) {m d:Nat} (hm:m<=n) (hd:m<=d) (hc:d<=c):Row w base e s A m d (vs.take (m*s)):=by
 have hms:=Nat.mul_le_mul_right s hm
 have hdc:=Nat.mul_le_mul_right s hc
 refine⟨by rw[List.length_take,h.1];omega,?_⟩
 rcases h.2 with⟨h0,h1,h2⟩|⟨g,o,cur,hA,hg,hcc,hn,hl,ht⟩
 ·exact .inl ⟨h0,by omega,by omega⟩
 ·refine .inr ⟨g,o,cur,hA,hg,hcc,hd,by omega,?_⟩
  rw[<-ht,List.take_take,Nat.min_eq_left hms]
theorem Row.tail (h:Row w base e s A n c vs) {i:Nat} (hi:i<=n):Row w base e s (xC A c i s) (n-i) (c-i) (vs.drop (i*s)):=by
 have his:=Nat.mul_le_mul_right s hi
 refine⟨by rw[List.length_drop,h.1,Nat.sub_mul],?_⟩
 rcases h.2 with⟨h0,h1,h2⟩|⟨g,o,cur,hA,hg,hcc,hn,hl,ht⟩
 ·refine .inl ⟨?_,by omega,by omega⟩
  unfold xC
  split<;>simp[h0]
 ·unfold xC
  split
  ·rename_i hci
   refine .inr ⟨g,o,cur,hA,hg,hcc,by omega,?_,?_⟩
   ·have:c-i=0:=by omega
    rw[this]
    omega
   ·have:n-i=0:=by omega
    rw[this,Nat.zero_mul,List.take_zero,List.drop_of_length_le]
    rw[h.1]
    have:n=i:=by omega
    rw[this]
    exact Nat.le_refl _
  ·refine .inr ⟨g,o+i*s,cur,by rw[hA];simp[rJ],hg,hcc,by omega,?_,?_⟩
   ·have hic:i<=c:=Nat.le_trans hi hn
    have h5:=Nat.sub_mul c i s
    have h6:=Nat.mul_le_mul_right s hic
    omega
   ·rw[<-ht,List.drop_take,List.drop_drop,Nat.sub_mul]
theorem Row.append {P:Program} {t ty:TypeId} {by_ m c2:Nat} {news:List Value} {a:Addr} (h:Row w base e s A n c vs) (ht:jC P t=some e) (hi:Ih P e=some (s,by_,s)) (hs:0<s)
  (hl:news.length=m*s) (hc:bC w a news) (h1:∀u∈news,u.oneCell'=true) (hby:(n+m)*by_<=140737488355328) (hn:n+m<=140737488355328) (hb:base<=w.heap.size):
  ∃A' c' w',(Builtin.append_ #[t,t] ty #[.slice A n c,.slice (some a) m c2]).run P w= .ok (.slice A' (n+m) c') w'/\Row w' base e s A' (n+m) c' (vs++news)/\Keep (At A) w w'/\∀b,At A' b->At A b\/w.heap.size<=b:=by
 have hi0:=hi
 unfold Ih at hi
 obtain⟨i,hi1,hi2⟩:=Option.bind_eq_some_iff.1 hi
 obtain⟨z,hz,hq⟩:=Option.map_eq_some_iff.1 hi2
 injection hq with q1 q2
 injection q2 with q2 q3
 rcases h.2 with⟨rfl,rfl,rfl⟩|⟨g,o,cur,rfl,hg,hcc,hnc,hcs,htk⟩
 ·have hv:vs=[]:=List.length_eq_zero_iff.1 (by simpa using h.1)
  subst hv
  obtain⟨A',c',w',hr,hO,hK,hA⟩:=(Own.nil w base e s).aF4 (m:=m) (c2:=c2) (ty:=ty) ht hi0 hs hl hc h1 hby hn hb
  exact⟨A',c',w',hr,hO.row,hK,hA⟩
 ·by_cases hroom:n+m<=c
  ·have hns:n*s+m*s<=c*s:=by rw[<-Nat.add_mul];exact Nat.mul_le_mul_right _ hroom
   have hf:=run_firstCells_some (P:=P) w i.size m a m c2 news (by rw[q1];exact hl) hc
   have hst:=run_storeCells_at P g (o+n*i.size) e news 0 cur w hcc (by rw[q1];omega) h1
   simp only[Nat.add_zero] at hst
   have hrun:(Builtin.append_ #[t,t] ty #[.slice (some ⟨g,o,none⟩) n c,.slice (some a) m c2]).run P w=
     .ok (.slice (some ⟨g,o,none⟩) (n+m) c) (w.setRow g (cur.toList.take (o+n*i.size)++news++cur.toList.drop (o+n*i.size+news.length)).toArray):=by
    simp[Builtin.append_,run_underlying (jD ht),sizeOf,typeInfo,hi1,Builtin.lenOf,hroom,hf,rJ,hst]
   rw[q1] at hrun
   refine⟨_,c,_,hrun,⟨by simp[h.1,hl,Nat.add_mul],.inr ⟨g,o,_,rfl,hg,setRow_heap w g cur _ e _ hcc,hroom,?_,?_⟩⟩,⟨by simp[World.setRow],rfl,rfl,rfl,fun b hb hx=>setRow_other w g b _ fun hh=>hx ⟨_,rfl,hh.symm⟩⟩,fun b hb=> .inl hb⟩
   ·simp
    omega
   ·have hlen:=h.1
    rw[List.append_assoc,List.drop_append_of_le_length (by simp;omega),List.drop_take,show o+n*s-o=n*s by omega,htk]
    rw[<-List.append_assoc,show(n+m)*s=(vs++news).length by rw[List.length_append,hlen,hl,Nat.add_mul]]
    exact List.take_left
  ·have hr:=run_append_grow (P:=P) (ty:=ty) w t e i z (jD ht) hi1 hz ⟨g,o,none⟩ n c vs (by rw[q1];exact h.1) (fun j v hj=>by
     rcases h.cells with h0|⟨a',ha',hc'⟩
     ·rw[h0] at hj;simp at hj
     ·cases ha';exact hc' j v hj) a m c2 news (by rw[q1];exact hl) hc (by omega) (by omega) (growslice_fits (by omega) (by rw[q2];exact hby))
   refine⟨_,_,_,hr,⟨by simp[h.1,hl,Nat.add_mul],.inr ⟨w.heap.size,0,_,rfl,hb,heap_alloc_new w.drew _,grownCap_ge w (n+m) c e,?_,?_⟩⟩,⟨by simp,rfl,rfl,rfl,fun b hb hx=>heap_alloc_old w.drew _ b hb⟩,fun b hb=> .inr ?_⟩
   ·have hge:=grownCap_ge w (n+m) c e
    simp only[Array.size_append,List.size_toArray,size_zeroCells,q3,h.1,hl,<-Nat.add_mul,Nat.zero_add]
    exact Nat.mul_le_mul_right _ (by omega)
   ·simp only[Array.toList_append,List.drop_zero,List.append_assoc]
    rw[<-List.append_assoc,Nat.add_mul,<-h.1,<-hl,<-List.length_append]
    exact List.take_left
   ·obtain⟨a',ha',rfl⟩:=hb
    cases ha'
    exact Nat.le_refl _
end
namespace Wk
variable {P:Program} {n:Nat} {e:List (Nat×Value)} {w:World}
def aDd (tmps:Array Value):ResultVar->Sem Value
 | .tmp t=>pure (tmps.getD t undef)
 | .cell a t=>do loadVar t (<-asAddr (tmps.getD a undef))
def RV (P:Program) (n:Nat) (e:List (Nat×Value)) (w:World) (r:ResultVar) (v:Value):Prop:=∀a,Ok n e a->(aDd a.tmps r).run P w= .ok v w
theorem aFm {t:Nat} {v:Value} (ht:look e t=some v):RV P n e w (.tmp t) v:=fun a ha=>by
 simp only[aDd,ha.getD ht];rfl
theorem mG {t:Nat} {T:TypeId} {p:Addr} {vs:List Value} (ha:look e t=some (.pointer (some p))) (ht:wO P T=some true) (hn:oN P T=some vs.length) (hc:bC w p vs):RV P n e w (.cell t T) (.agg vs.toArray):=fun a ok=>by
 have:=loadCellsFrom_ok (P:=P) (w:=w) p vs 0 #[] (fun j v h=>by simpa using hc j v h)
 simp only[aDd,ok.getD ha]
 simp[asAddr,loadVar,aDo ht,Iz hn,loadCells,this]
theorem aBa (fn:Func) (tmps:Array Value):results fn tmps=(do let vs<-fn.results.mapM (aDd tmps);pure (if h:vs.size=1 then vs[0] else .tuple vs)):=by
 unfold results
 congr 1
theorem Me {fn:Func} {r:ResultVar} {v:Value} (hf:fn.results= #[r]) (h:RV P n e w r v):∀a,Ok n e a->(results fn a.tmps).run P w= .ok v w:=fun a ha=>by
 rw[aBa,hf]
 simp[h a ha]
theorem aH9 {fn:Func} {r r2:ResultVar} {v v2:Value} (hf:fn.results= #[r,r2]) (h:RV P n e w r v) (h2:RV P n e w r2 v2):∀a,Ok n e a->(results fn a.tmps).run P w= .ok (.tuple #[v,v2]) w:=fun a ha=>by
 rw[aBa,hf]
 simp[h a ha,h2 a ha]
section
variable {ρ:Operand->Value} {x y:Operand} {t:TypeId} {a b s:ByteArray} {i j:Int} {k k':IntKind}
def byteAt (s:ByteArray) (i:Int):Int:=((s[i.toNat]?).getD 0).toNat
theorem Xe (ht:P.underlying t=some .string) (h0:0<=i) (h1:i<(s.size:Int)):(Instr.index t (.string s) (.int k i)).run P w= .ok (.int .u8 (byteAt s i)) w:=by
 have h2:i.toNat<s.size:=by omega
 have h3:s[i.toNat]? =some s[i.toNat]:=by simp[h2]
 simp[Instr.index,asIntOf,underlying,ht,h0,h3,byteAt]
theorem str_eq (a b:ByteArray):(a.toList==b.toList)=decide (a=b):=by
 rw[ByteArray.toList_eq,ByteArray.toList_eq,Bool.eq_iff_iff]
 simp only[beq_iff_eq,decide_eq_true_eq]
 constructor
 ·intro h;cases a;cases b;simp at h;simp[h]
 ·rintro rfl;rfl
theorem Bq:(do eqGuard .eql t x y (.string a) (.string b);binOp .eql t (.string a) (.string b):Sem Value).run P w= .ok (.bool (decide (a=b))) w:=eqg aIi (by rw[binOp_string_eql,str_eq];rfl)
theorem rW:(do eqGuard .neq t x y (.string a) (.string b);binOp .neq t (.string a) (.string b):Sem Value).run P w= .ok (.bool (decide (a≠b))) w:=eqg aIi (by rw[binOp_string_neq,str_eq];by_cases h:a=b<;>simp[h])
theorem wH (h:a.size+b.size<=9223372036854775807):(do eqGuard .add t x y (.string a) (.string b);binOp .add t (.string a) (.string b):Sem Value).run P w= .ok (.string (a++b)) w:=eqg aIi (by
 have h0:IntKind.i64.max=9223372036854775807:=by decide
 have h':¬((a.size+b.size:Nat):Int)>IntKind.i64.max:=by omega
 rw[binOp_string_add]
 simp only[Op.stringOp]
 rw[if_neg h'];rfl)
theorem aGh (ht:P.underlying t=some .string) (h0:0<=i) (h1:i<=(s.size:Int)):(Instr.sliceAt t (.string s) none (some (.int k i)) none).run P w= .ok (.string (s.extract 0 i.toNat)) w:=by
 simp[Instr.sliceAt,Instr.slice,Instr.sliceBounds,underlying,ht,Ur (P:=P) (w:=w) h0 h1]
theorem aDs (ht:P.underlying t=some .string) (h0:0<=i) (h1:i<=(s.size:Int)):(Instr.sliceAt t (.string s) (some (.int k i)) none none).run P w= .ok (.string (s.extract i.toNat s.size)) w:=by
 simp[Instr.sliceAt,Instr.slice,Instr.sliceBounds,underlying,ht,Ur (P:=P) (w:=w) h0 h1]
theorem aHm (ht:P.underlying t=some .string) (h0:0<=i) (h1:i<=j) (h2:j<=(s.size:Int)):(Instr.sliceAt t (.string s) (some (.int k i)) (some (.int k' j)) none).run P w= .ok (.string (s.extract i.toNat j.toNat)) w:=by
 have h3:(i:Int)<=(j.toNat:Int):=by omega
 simp[Instr.sliceAt,Instr.slice,Instr.sliceBounds,underlying,ht,Ur (P:=P) (w:=w) (show 0<=j by omega) h2,Ur (P:=P) (w:=w) h0 h3]
end
variable {P:Program}
theorem Eh {t:TypeId} {xs:Array Value} {o:Nat} {v:Value} (h:wO P t=some false) (hv:xs[o]? =some v) (w:World):(part t xs o).run P w= .ok v w:=by
 unfold part
 simp only[Sem.run_bind,aHv h,Result.andThen_ok,Bool.false_eq_true,if_false,hv]
 rfl
theorem Xw {t:TypeId} {xs ys:Array Value} {o n:Nat} (h:wO P t=some true) (hs:oN P t=some n) (he:xs.extract o (o+n)=ys) (w:World):(part t xs o).run P w= .ok (.agg ys) w:=by
 unfold part
 simp only[Sem.run_bind,aDo h,Result.andThen_ok,if_true,Iz hs,he]
 rfl
def EqB (P:Program) (t:TypeId) (u v:Value) (m:Nat) (p:Prop) [Decidable p]:Prop:=∀(d:Nat) (w:World),(Op.equalIn (d+m) t u v).run P w= .ok (decide p) w
theorem aC9 {t:TypeId} (h:P.underlying t=some .string) (a b:ByteArray) (m:Nat):EqB P t (.string a) (.string b) (m+1) (a=b):=fun d w=>by
 rw[<-Nat.add_assoc,run_equalIn_string w (d+m) t a b h,str_eq]
theorem aJd {t:TypeId} {k k':IntKind} (h:P.underlying t=some (.int k')) (a b:Int) (m:Nat):EqB P t (.int k a) (.int k b) (m+1) (a=b):=fun d w=>by
 rw[<-Nat.add_assoc,run_equalIn_int w (d+m) t k k' a b h]
 rfl
def aGd (P:Program) (t:TypeId):Option (List (TypeId×Nat)):=match P.underlying t with
 |some (.struct fs)=>if fs.toList.all (fun f=>f.name != "_") then some (fs.toList.map fun f=>(f.type,f.offset)) else none
 |_=>none
theorem aDk {t t1 t2:TypeId} {o1 o2 m:Nat} {xs ys:Array Value} {a1 b1 a2 b2:Value} {p q:Prop} [Decidable p] [Decidable q] (hf:aGd P t=some [(t1,o1),(t2,o2)]) (hp:P.stoodInHeld t=false)
  (hx1:∀w,(part t1 xs o1).run P w= .ok a1 w) (hy1:∀w,(part t1 ys o1).run P w= .ok b1 w) (hx2:∀w,(part t2 xs o2).run P w= .ok a2 w) (hy2:∀w,(part t2 ys o2).run P w= .ok b2 w)
  (h1:EqB P t1 a1 b1 m p) (h2:EqB P t2 a2 b2 m q):EqB P t (.agg xs) (.agg ys) (m+1) (p/\q):=fun d w=>by
 unfold aGd at hf
 split at hf
 ·rename_i fs hu
  split at hf
  ·rename_i hall
   have hfs:P.fieldsOf t=fs:=by unfold Program.fieldsOf;rw[hu]
   rw[<-Nat.add_assoc,run_equalIn_struct w (d+m) t xs ys (by rw[hfs];exact hu) hp,hfs]
   simp only[Option.some.injEq] at hf
   generalize fs.toList=l at*
   match l,hf,hall with
   |[f,g],hf,hall=>
    simp only[List.map_cons,List.map_nil,List.cons.injEq,Prod.mk.injEq,and_true] at hf
    obtain⟨⟨rfl,rfl⟩,rfl,rfl⟩:=hf
    simp only[List.all_cons,List.all_nil,Bool.and_true,Bool.and_eq_true,bne_iff_ne] at hall
    simp only[Op.eqFields,if_pos hall.1,if_pos hall.2,Sem.run_bind,hx1,hy1,hx2,hy2,Result.andThen_ok,h1 d,h2 d]
    by_cases hp1:p<;>by_cases hq1:q<;>simp[hp1,hq1,h2 d,hx2,hy2,Sem.run_bind]
  ·cases hf
 ·cases hf
variable {w:World} {x y:Operand} {t:TypeId} {xs ys:Array Value} {m:Nat} {p:Prop} [Decidable p]
theorem aFe (h:EqB P t (.agg xs) (.agg ys) m p) (hm:m<=10000):(Op.equalIn 10000 t (.agg xs) (.agg ys)).run P w= .ok (decide p) w:=by
 have:=h (10000-m) w
 rwa [show 10000-m+m=10000 by omega] at this
theorem Zh (h:EqB P t (.agg xs) (.agg ys) m p) (hm:Nat.ble m 10000=true) (hg:P.eqGuardType P.depth t=false):(do eqGuard .neq t x y (.agg xs) (.agg ys);binOp .neq t (.agg xs) (.agg ys):Sem Value).run P w= .ok (.bool (decide (¬p))) w:=eqg (run_eqGuard_agg w .neq t x y xs ys hg) (by
 rw[run_neq_struct,aFe h (Nat.le_of_ble_eq_true hm)]
 by_cases hp:p<;>simp[hp])
end Wk
noncomputable abbrev P:Program:=Tryz.prog
theorem follows:P.follows .mixedOrders=true:=by kernel_rfl
abbrev F.Dq:FuncId:=3
abbrev F.Xt:FuncId:=14
abbrev F.oL:FuncId:=15
abbrev F.wE:FuncId:=16
abbrev F.zK:FuncId:=17
abbrev F.kN:FuncId:=18
abbrev F.qZ:FuncId:=40
abbrev F.qU:FuncId:=49
abbrev F.pU:FuncId:=52
abbrev F.wQ:FuncId:=77
abbrev F.xY:FuncId:=78
abbrev F.aAp:FuncId:=79
abbrev F.tH:FuncId:=80
abbrev F.Df:FuncId:=81
abbrev F.nM:FuncId:=82
abbrev F.mP:FuncId:=83
abbrev F.Jy:FuncId:=84
abbrev F.yM:FuncId:=85
abbrev F.pJ:FuncId:=86
abbrev F.jJ:FuncId:=87
abbrev F.kZ:FuncId:=88
abbrev F.pR:FuncId:=89
abbrev F.rP:FuncId:=90
abbrev F.qG:FuncId:=91
abbrev F.wI:FuncId:=92
abbrev F.nS:FuncId:=93
abbrev F.nH:FuncId:=94
abbrev F.zL:FuncId:=96
abbrev F.Xu:FuncId:=105
abbrev F.kD:FuncId:=111
abbrev F.Oj:FuncId:=127
abbrev F.Hl:FuncId:=146
abbrev F.Ed:FuncId:=147
abbrev F.Hq:FuncId:=148
abbrev F.vZ:FuncId:=149
abbrev F.fH:FuncId:=150
abbrev F.lI:FuncId:=151
abbrev F.yQ:FuncId:=152
abbrev F.zX:FuncId:=153
abbrev F.xP:FuncId:=154
abbrev F.rM:FuncId:=155
abbrev F.nR:FuncId:=156
abbrev F.rF:FuncId:=157
abbrev F.gV:FuncId:=158
abbrev F.nP:FuncId:=159
abbrev F.wP:FuncId:=160
abbrev F.qO:FuncId:=161
abbrev F.Cm:FuncId:=162
abbrev F.pV:FuncId:=165
abbrev F.vC:FuncId:=166
abbrev F.Aa:FuncId:=167
abbrev F.Ho:FuncId:=168
abbrev F.Jd:FuncId:=174
abbrev F.aAu:FuncId:=187
abbrev F.Kr:FuncId:=188
abbrev F.Oh:FuncId:=189
abbrev F.wG:FuncId:=190
abbrev F.Ag:FuncId:=191
abbrev F.Uo:FuncId:=192
abbrev F.rX:FuncId:=193
abbrev F.mO:FuncId:=194
abbrev F.iT:FuncId:=195
abbrev F.dS:FuncId:=196
abbrev F.wJ:FuncId:=197
abbrev F.xX:FuncId:=198
abbrev F.vT:FuncId:=199
abbrev F.uV:FuncId:=200
abbrev F.jF:FuncId:=201
abbrev F.gI:FuncId:=202
abbrev F.Ux:FuncId:=203
abbrev F.strings_TrimPrefix:FuncId:=205
abbrev F.strings_Cut:FuncId:=206
abbrev F.Em:FuncId:=207
abbrev F.Sj:FuncId:=208
abbrev F.rO:FuncId:=209
abbrev F.aCd:FuncId:=214
abbrev F.Gx:FuncId:=215
abbrev F.xJ:FuncId:=216
abbrev F.wL:FuncId:=217
abbrev F.xI:FuncId:=218
abbrev F.Nj:FuncId:=219
abbrev F.qJ:FuncId:=220
abbrev F.rC:FuncId:=221
abbrev F.Ye:FuncId:=222
abbrev F.sU:FuncId:=227
abbrev F.kP:FuncId:=228
abbrev F.nU:FuncId:=229
abbrev F.qB:FuncId:=230
abbrev F.sJ:FuncId:=231
abbrev F.kX:FuncId:=232
abbrev F.iY:FuncId:=233
abbrev F.Du:FuncId:=234
abbrev F.yZ:FuncId:=235
abbrev F.Yc:FuncId:=236
abbrev F.stringslite_Cut:FuncId:=238
abbrev F.Ia:FuncId:=244
abbrev F.Hz:FuncId:=245
abbrev F.Hw:FuncId:=246
abbrev F.jW:FuncId:=250
abbrev F.pO:FuncId:=251
abbrev F.vI:FuncId:=252
abbrev F.Jb:FuncId:=256
abbrev F.stringslite_Index:FuncId:=258
abbrev T.t:TypeId:=0
abbrev T.int64:TypeId:=2
abbrev T.int:TypeId:=3
abbrev T.bool:TypeId:=4
abbrev T.uint8:TypeId:=5
abbrev T.string:TypeId:=9
abbrev T.fC:TypeId:=22
abbrev T.Ik:TypeId:=24
abbrev T.Pz:TypeId:=25
abbrev T.Lm:TypeId:=26
abbrev T.Fb:TypeId:=27
abbrev T.iO:TypeId:=28
abbrev T.fZ:TypeId:=30
abbrev T.yS:TypeId:=40
abbrev T.Uy:TypeId:=42
abbrev T.Hr:TypeId:=43
abbrev T.Qe:TypeId:=49
abbrev T.gK:TypeId:=57
abbrev T.wK:TypeId:=58
abbrev T.aAt:TypeId:=70
abbrev T.Cf:TypeId:=94
abbrev T.Bj:TypeId:=128
abbrev T.iU:TypeId:=130
abbrev T.aHh:TypeId:=133
abbrev T.eH:TypeId:=136
abbrev T.dH:TypeId:=140
abbrev T.lF:TypeId:=142
abbrev T.kT:TypeId:=149
abbrev T.Nh:TypeId:=154
abbrev T.kK:TypeId:=208
abbrev T.bM:TypeId:=210
abbrev T.Hf:TypeId:=226
abbrev T.uint32:TypeId:=244
abbrev T.uint64:TypeId:=248
abbrev T.uF:TypeId:=249
theorem FF.Be:Wk.callable P F.kN=true:=by kernel_rfl
theorem FF.Cb:Wk.callable P F.oL=true:=by kernel_rfl
theorem FF.Am:Wk.callable P F.nH=true:=by kernel_rfl
theorem FF.Na:Wk.callable P F.zK=true:=by kernel_rfl
theorem FF.wU:Wk.callable P F.qZ=true:=by kernel_rfl
theorem FF.Fj:Wk.callable P F.qU=true:=by kernel_rfl
theorem FF.Dt:Wk.callable P F.pU=true:=by kernel_rfl
theorem FF.Iy:Wk.callable P F.vC=true:=by kernel_rfl
theorem FF.Fh:Wk.callable P F.qO=true:=by kernel_rfl
theorem FF.wX:Wk.callable P F.rF=true:=by kernel_rfl
theorem FF.yL:Wk.callable P F.vT=true:=by kernel_rfl
theorem FF.Ky:Wk.callable P F.xX=true:=by kernel_rfl
theorem FF.Jh:Wk.callable P F.wP=true:=by kernel_rfl
theorem FF.Jk:Wk.callable P F.wJ=true:=by kernel_rfl
theorem FF.oU:Wk.callable P F.nP=true:=by kernel_rfl
theorem FF.oQ:Wk.callable P F.nS=true:=by kernel_rfl
theorem FF.Jm:Wk.callable P F.wI=true:=by kernel_rfl
theorem FF.vM:Wk.callable P F.qG=true:=by kernel_rfl
theorem FF.wY:Wk.callable P F.rP=true:=by kernel_rfl
theorem FF.oP:Wk.callable P F.nR=true:=by kernel_rfl
theorem FF.Ip:Wk.callable P F.uV=true:=by kernel_rfl
theorem FF.uX:Wk.callable P F.nU=true:=by kernel_rfl
theorem FF.jA:Wk.callable P F.jW=true:=by kernel_rfl
theorem FF.He:Wk.callable P F.sU=true:=by kernel_rfl
theorem FF.iK:Wk.callable P F.iT=true:=by kernel_rfl
theorem FF.nG:Wk.callable P F.kX=true:=by kernel_rfl
theorem FF.Hg:Wk.callable P F.sJ=true:=by kernel_rfl
theorem FF.dF:Wk.callable P F.dS=true:=by kernel_rfl
theorem FF.fG:Wk.callable P F.gI=true:=by kernel_rfl
theorem FF.vN:Wk.callable P F.qB=true:=by kernel_rfl
theorem FF.nI:Wk.callable P F.kP=true:=by kernel_rfl
theorem FF.uG:Wk.callable P F.mO=true:=by kernel_rfl
theorem FF.iQ:Wk.callable P F.jF=true:=by kernel_rfl
theorem FF.vS:Wk.callable P F.pO=true:=by kernel_rfl
theorem FF.Je:Wk.callable P F.vI=true:=by kernel_rfl
theorem FF.gZ:Wk.callable P F.iY=true:=by kernel_rfl
theorem FF.fP:Wk.callable P F.gV=true:=by kernel_rfl
theorem FF.Dl:Wk.callable P F.pR=true:=by kernel_rfl
theorem FF.oO:Wk.callable P F.jJ=true:=by kernel_rfl
theorem FF.yU:Wk.callable P F.kZ=true:=by kernel_rfl
theorem FF.qN:Wk.callable P F.kD=true:=by kernel_rfl
theorem FF.Jg:Wk.callable P F.wE=true:=by kernel_rfl
theorem FF.Qv:Wk.callable P F.Hq=true:=by kernel_rfl
theorem FF.Nl:Wk.callable P F.zX=true:=by kernel_rfl
theorem FF.Rl:Wk.callable P F.Kr=true:=by kernel_rfl
theorem FF.Gm:Wk.callable P F.Jd=true:=by kernel_rfl
theorem FF.Vp:Wk.callable P F.Oj=true:=by kernel_rfl
theorem FF.vX:Wk.callable P F.yM=true:=by kernel_rfl
theorem FF.Ef:Wk.callable P F.Ed=true:=by kernel_rfl
theorem FF.Sr:Wk.callable P F.Jy=true:=by kernel_rfl
theorem FF.vV:Wk.callable P F.pJ=true:=by kernel_rfl
theorem FF.vW:Wk.callable P F.pV=true:=by kernel_rfl
theorem FF.jH:Wk.callable P F.mP=true:=by kernel_rfl
theorem FF.jT:Wk.callable P F.nM=true:=by kernel_rfl
theorem FF.gY:Wk.callable P F.lI=true:=by kernel_rfl
theorem FF.Qz:Wk.callable P F.Hl=true:=by kernel_rfl
theorem FF.qC:Wk.callable P F.vZ=true:=by kernel_rfl
theorem FF.Rh:Wk.callable P F.Ho=true:=by kernel_rfl
theorem FF.Ap:Wk.callable P F.Aa=true:=by kernel_rfl
theorem FF.zD:Wk.callable P F.xP=true:=by kernel_rfl
theorem FF.Vm:Wk.callable P F.Oh=true:=by kernel_rfl
theorem FF.Es:Wk.callable P F.Em=true:=by kernel_rfl
theorem FF.Xd:Wk.callable P F.Hw=true:=by kernel_rfl
theorem FF.Xg:Wk.callable P F.Ia=true:=by kernel_rfl
theorem FF.Yr:Wk.callable P F.Ye=true:=by kernel_rfl
theorem FF.iW:Wk.callable P F.rO=true:=by kernel_rfl
theorem FF.vJ:Wk.callable P F.yQ=true:=by kernel_rfl
theorem FF.rV:Wk.callable P F.rM=true:=by kernel_rfl
theorem FF.Jo:Wk.callable P F.wL=true:=by kernel_rfl
theorem FF.rE:Wk.callable P F.rC=true:=by kernel_rfl
theorem FF.zA:Wk.callable P F.xJ=true:=by kernel_rfl
theorem FF.uJ:Wk.callable P F.wG=true:=by kernel_rfl
theorem FF.Qr:Wk.callable P F.Gx=true:=by kernel_rfl
theorem FF.mV:Wk.callable P F.qJ=true:=by kernel_rfl
theorem FF.Ae:Wk.callable P F.xI=true:=by kernel_rfl
theorem FF.dD:Wk.callable P F.fH=true:=by kernel_rfl
theorem FF.Bl:Wk.callable P F.Uo=true:=by kernel_rfl
theorem FF.Iu:Wk.callable P F.Nj=true:=by kernel_rfl
theorem FF.Jq:Wk.callable P F.Sj=true:=by kernel_rfl
theorem FF.Zj:Wk.callable P F.aAu=true:=by kernel_rfl
theorem FF.Xh:Wk.callable P F.Hz=true:=by kernel_rfl
theorem FF.lV:Wk.callable P F.Ag=true:=by kernel_rfl
theorem FF.Yp:Wk.callable P F.Xt=true:=by kernel_rfl
theorem FF.Oy:Wk.callable P F.Cm=true:=by kernel_rfl
theorem FF.Px:Wk.callable P F.Df=true:=by kernel_rfl
theorem FF.Jj:Wk.callable P F.wQ=true:=by kernel_rfl
theorem FF.Ld:Wk.callable P F.xY=true:=by kernel_rfl
theorem FF.Nz:Wk.callable P F.zL=true:=by kernel_rfl
theorem FF.eF:Wk.callable P F.tH=true:=by kernel_rfl
theorem FF.Zm:Wk.callable P F.aAp=true:=by kernel_rfl
theorem FF.Nu:Wk.callable P F.Xu=true:=by kernel_rfl
theorem FF.Xf:Wk.callable P F.Ux=true:=by kernel_rfl
theorem FF.En:Wk.callable P F.Du=true:=by kernel_rfl
theorem FF.Ym:Wk.callable P F.Yc=true:=by kernel_rfl
theorem FF.Gu:Wk.callable P F.Jb=true:=by kernel_rfl
theorem FF.Ej:Wk.callable P F.strings_Cut=true:=by kernel_rfl
theorem FF.uM:Wk.callable P F.yZ=true:=by kernel_rfl
theorem FF.oV:Wk.callable P F.rX=true:=by kernel_rfl
theorem FF.vH:Wk.callable P F.strings_TrimPrefix=true:=by kernel_rfl
theorem FF.Kz:Wk.callable P F.stringslite_Cut=true:=by kernel_rfl
theorem FF.Iq:Wk.callable P F.stringslite_Index=true:=by kernel_rfl
theorem TF.Zx:Wk.wO P T.Qe=some true:=by kernel_rfl
theorem TF.fK:Wk.wO P T.gK=some true:=by kernel_rfl
theorem TF.aAb:Wk.wO P T.Uy=some true:=by kernel_rfl
theorem TF.Yj:Wk.wO P T.Nh=some true:=by kernel_rfl
theorem TF.zM:Wk.wO P T.iU=some true:=by kernel_rfl
theorem TF.bP:Wk.wO P T.bM=some true:=by kernel_rfl
theorem TF.fJ:Wk.wO P T.dH=some false:=by kernel_rfl
theorem TF.gU:Wk.wO P T.bool=some false:=by kernel_rfl
theorem TF.kL:Wk.wO P T.int=some false:=by kernel_rfl
theorem TF.Lh:Wk.wO P T.eH=some true:=by kernel_rfl
theorem TF.nO:Wk.wO P T.aHh=some false:=by kernel_rfl
theorem TF.Ic:Wk.wO P T.Cf=some false:=by kernel_rfl
theorem TF.Bh:Wk.wO P T.wK=some false:=by kernel_rfl
theorem TF.kJ:Wk.wO P T.yS=some false:=by kernel_rfl
theorem TF.Fe:Wk.wO P T.fC=some false:=by kernel_rfl
theorem TF.iE:Wk.wO P T.kK=some false:=by kernel_rfl
theorem TF.uQ:Wk.wO P T.Lm=some false:=by kernel_rfl
theorem TF.qV:Wk.wO P T.Fb=some false:=by kernel_rfl
theorem TF.sQ:Wk.wO P T.Ik=some false:=by kernel_rfl
theorem TF.kQ:Wk.wO P T.iO=some false:=by kernel_rfl
theorem TF.wM:Wk.wO P T.Pz=some false:=by kernel_rfl
theorem TF.Ll:Wk.wO P T.Hr=some false:=by kernel_rfl
theorem TF.dN:Wk.wO P T.string=some false:=by kernel_rfl
theorem TF.dA:Wk.wO P T.uint32=some false:=by kernel_rfl
theorem TF.aCg:Wk.wO P T.uint8=some false:=by kernel_rfl
theorem TF.Hu:P.underlying T.bool=some .bool:=by kernel_rfl
theorem TF.bJ:Wk.jC P T.dH=some T.uint32:=by kernel_rfl
theorem TF.tZ:Wk.jC P T.Cf=some T.Qe:=by kernel_rfl
theorem TF.pX:Wk.jC P T.wK=some T.gK:=by kernel_rfl
theorem TF.rH:Wk.jC P T.yS=some T.Nh:=by kernel_rfl
theorem TF.fV:Wk.jC P T.fC=some T.iU:=by kernel_rfl
theorem TF.fU:Wk.jC P T.kK=some T.int:=by kernel_rfl
theorem TF.yJ:Wk.jC P T.Lm=some T.Cf:=by kernel_rfl
theorem TF.vY:Wk.jC P T.Fb=some T.wK:=by kernel_rfl
theorem TF.xE:Wk.jC P T.Ik=some T.yS:=by kernel_rfl
theorem TF.xG:Wk.jC P T.iO=some T.fC:=by kernel_rfl
theorem TF.yY:Wk.jC P T.Pz=some T.Hr:=by kernel_rfl
theorem TF.wB:Wk.jC P T.Hr=some T.string:=by kernel_rfl
theorem TF.xM:Wk.jC P T.uF=some T.uint8:=by kernel_rfl
theorem TF.aB2:P.eqGuardType P.depth T.gK=false:=by kernel_rfl
theorem TF.aCy:P.eqGuardType P.depth T.Nh=false:=by kernel_rfl
theorem TF.aDf:P.eqGuardType P.depth T.iU=false:=by kernel_rfl
theorem TF.Di (p:Addr) (w:World):(Instr.fieldAt T.Qe (.pointer (some p)) 0).run P w= .ok (.pointer (some (p.add 0))) w:=by kernel_rfl
theorem TF.Wh (p:Addr) (w:World):(Instr.fieldAt T.Qe (.pointer (some p)) 1).run P w= .ok (.pointer (some (p.add 1))) w:=by kernel_rfl
theorem TF.iF (p:Addr) (w:World):(Instr.fieldAt T.gK (.pointer (some p)) 0).run P w= .ok (.pointer (some (p.add 0))) w:=by kernel_rfl
theorem TF.lW (p:Addr) (w:World):(Instr.fieldAt T.gK (.pointer (some p)) 1).run P w= .ok (.pointer (some (p.add 1))) w:=by kernel_rfl
theorem TF.xU (p:Addr) (w:World):(Instr.fieldAt T.Uy (.pointer (some p)) 0).run P w= .ok (.pointer (some (p.add 0))) w:=by kernel_rfl
theorem TF.Wu (p:Addr) (w:World):(Instr.fieldAt T.Uy (.pointer (some p)) 1).run P w= .ok (.pointer (some (p.add 1))) w:=by kernel_rfl
theorem TF.Si (p:Addr) (w:World):(Instr.fieldAt T.Nh (.pointer (some p)) 0).run P w= .ok (.pointer (some (p.add 0))) w:=by kernel_rfl
theorem TF.rQ (p:Addr) (w:World):(Instr.fieldAt T.iU (.pointer (some p)) 0).run P w= .ok (.pointer (some (p.add 0))) w:=by kernel_rfl
theorem TF.zG (p:Addr) (w:World):(Instr.fieldAt T.iU (.pointer (some p)) 1).run P w= .ok (.pointer (some (p.add 2))) w:=by kernel_rfl
theorem TF.Ac (p:Addr) (w:World):(Instr.fieldAt T.fZ (.pointer (some p)) 0).run P w= .ok (.pointer (some (p.add 0))) w:=by kernel_rfl
theorem TF.zV (p:Addr) (w:World):(Instr.fieldAt T.fZ (.pointer (some p)) 1).run P w= .ok (.pointer (some (p.add 1))) w:=by kernel_rfl
theorem TF.zS (p:Addr) (w:World):(Instr.fieldAt T.fZ (.pointer (some p)) 2).run P w= .ok (.pointer (some (p.add 2))) w:=by kernel_rfl
theorem TF.zF (p:Addr) (w:World):(Instr.fieldAt T.fZ (.pointer (some p)) 3).run P w= .ok (.pointer (some (p.add 3))) w:=by kernel_rfl
theorem TF.zZ (p:Addr) (w:World):(Instr.fieldAt T.fZ (.pointer (some p)) 4).run P w= .ok (.pointer (some (p.add 4))) w:=by kernel_rfl
theorem TF.yX (p:Addr) (w:World):(Instr.fieldAt T.fZ (.pointer (some p)) 5).run P w= .ok (.pointer (some (p.add 5))) w:=by kernel_rfl
theorem TF.Ak (p:Addr) (w:World):(Instr.fieldAt T.fZ (.pointer (some p)) 6).run P w= .ok (.pointer (some (p.add 6))) w:=by kernel_rfl
theorem TF.zU (p:Addr) (w:World):(Instr.fieldAt T.fZ (.pointer (some p)) 7).run P w= .ok (.pointer (some (p.add 7))) w:=by kernel_rfl
theorem TF.nK (p:Addr) (w:World):(Instr.fieldAt T.fZ (.pointer (some p)) 8).run P w= .ok (.pointer (some (p.add 8))) w:=by kernel_rfl
theorem TF.mY (p:Addr) (w:World):(Instr.fieldAt T.fZ (.pointer (some p)) 9).run P w= .ok (.pointer (some (p.add 9))) w:=by kernel_rfl
theorem TF.fA (p:Addr) (w:World):(Instr.fieldAt T.bM (.pointer (some p)) 0).run P w= .ok (.pointer (some (p.add 0))) w:=by kernel_rfl
theorem TF.fQ (p:Addr) (w:World):(Instr.fieldAt T.bM (.pointer (some p)) 1).run P w= .ok (.pointer (some (p.add 1))) w:=by kernel_rfl
theorem TF.fB (p:Addr) (w:World):(Instr.fieldAt T.bM (.pointer (some p)) 2).run P w= .ok (.pointer (some (p.add 2))) w:=by kernel_rfl
theorem TF.xO (p:Addr) (w:World):(Instr.fieldAt T.kT (.pointer (some p)) 0).run P w= .ok (.pointer (some (p.add 0))) w:=by kernel_rfl
theorem TF.Lj (p:Addr) (w:World):(Instr.fieldAt T.kT (.pointer (some p)) 1).run P w= .ok (.pointer (some (p.add 1))) w:=by kernel_rfl
theorem TF.Ku (p:Addr) (w:World):(Instr.fieldAt T.kT (.pointer (some p)) 2).run P w= .ok (.pointer (some (p.add 2))) w:=by kernel_rfl
theorem TF.uI (p:Addr) (w:World):(Instr.fieldAt T.Hf (.pointer (some p)) 0).run P w= .ok (.pointer (some (p.add 0))) w:=by kernel_rfl
theorem TF.qM (p:Addr) (w:World):(Instr.fieldAt T.Hf (.pointer (some p)) 1).run P w= .ok (.pointer (some (p.add 1))) w:=by kernel_rfl
theorem TF.jY (p:Addr) (w:World):(Instr.fieldAt T.lF (.pointer (some p)) 0).run P w= .ok (.pointer (some (p.add 0))) w:=by kernel_rfl
theorem TF.iH (p:Addr) (w:World):(Instr.fieldAt T.lF (.pointer (some p)) 1).run P w= .ok (.pointer (some (p.add 1))) w:=by kernel_rfl
theorem TF.jM (p:Addr) (w:World):(Instr.fieldAt T.lF (.pointer (some p)) 2).run P w= .ok (.pointer (some (p.add 2))) w:=by kernel_rfl
theorem TF.yA (p:Addr) (w:World):(Instr.fieldAt T.eH (.pointer (some p)) 0).run P w= .ok (.pointer (some (p.add 0))) w:=by kernel_rfl
theorem TF.yC (p:Addr) (w:World):(Instr.fieldAt T.eH (.pointer (some p)) 1).run P w= .ok (.pointer (some (p.add 1))) w:=by kernel_rfl
theorem TF.Qh (p:Addr) (w:World):(Instr.fieldAt T.Bj (.pointer (some p)) 0).run P w= .ok (.pointer (some (p.add 0))) w:=by kernel_rfl
theorem TF.aAj (p:Addr) (w:World):(Instr.fieldAt T.Bj (.pointer (some p)) 1).run P w= .ok (.pointer (some (p.add 1))) w:=by kernel_rfl
theorem TF.aAg (p:Addr) (w:World):(Instr.fieldAt T.Bj (.pointer (some p)) 2).run P w= .ok (.pointer (some (p.add 2))) w:=by kernel_rfl
theorem TF.aAt:P.underlying T.int=some (.int .i64):=by kernel_rfl
theorem TF.wR:P.underlying T.int64=some (.int .i64):=by kernel_rfl
theorem TF.dL:P.underlying T.uint32=some (.int .u32):=by kernel_rfl
theorem TF.dO:P.underlying T.uint64=some (.int .u64):=by kernel_rfl
theorem TF.Va:P.underlying T.uint8=some (.int .u8):=by kernel_rfl
theorem TF.aU:(Wk.jC P T.dH).isSome=true:=by kernel_rfl
theorem TF.sO:(Wk.jC P T.Cf).isSome=true:=by kernel_rfl
theorem TF.Eu:(Wk.jC P T.wK).isSome=true:=by kernel_rfl
theorem TF.qW:(Wk.jC P T.yS).isSome=true:=by kernel_rfl
theorem TF.jE:(Wk.jC P T.fC).isSome=true:=by kernel_rfl
theorem TF.bT:(Wk.jC P T.kK).isSome=true:=by kernel_rfl
theorem TF.Qp:(Wk.jC P T.Lm).isSome=true:=by kernel_rfl
theorem TF.Nb:(Wk.jC P T.Fb).isSome=true:=by kernel_rfl
theorem TF.Qa:(Wk.jC P T.Ik).isSome=true:=by kernel_rfl
theorem TF.Py:(Wk.jC P T.iO).isSome=true:=by kernel_rfl
theorem TF.Ro:(Wk.jC P T.Pz).isSome=true:=by kernel_rfl
theorem TF.Jr:(Wk.jC P T.Hr).isSome=true:=by kernel_rfl
theorem TF.Cj:(Wk.jC P T.uF).isSome=true:=by kernel_rfl
theorem TF.sF:Wk.oN P T.Qe=some 3:=by kernel_rfl
theorem TF.bZ:Wk.oN P T.gK=some 2:=by kernel_rfl
theorem TF.Yx:Wk.oN P T.Uy=some 2:=by kernel_rfl
theorem TF.qK:Wk.oN P T.Nh=some 2:=by kernel_rfl
theorem TF.eG:Wk.oN P T.iU=some 4:=by kernel_rfl
theorem TF.aQ:Wk.oN P T.bM=some 3:=by kernel_rfl
theorem TF.lG:Wk.oN P T.dH=some 1:=by kernel_rfl
theorem TF.size_bool:Wk.oN P T.bool=some 1:=by kernel_rfl
theorem TF.size_int:Wk.oN P T.int=some 1:=by kernel_rfl
theorem TF.bU:Wk.oN P T.eH=some 2:=by kernel_rfl
theorem TF.Ff:Wk.oN P T.Cf=some 1:=by kernel_rfl
theorem TF.zQ:Wk.oN P T.wK=some 1:=by kernel_rfl
theorem TF.Bv:Wk.oN P T.yS=some 1:=by kernel_rfl
theorem TF.Ce:Wk.oN P T.fC=some 1:=by kernel_rfl
theorem TF.Gn:Wk.oN P T.iO=some 1:=by kernel_rfl
theorem TF.Ja:Wk.oN P T.Hr=some 1:=by kernel_rfl
theorem TF.size_string:Wk.oN P T.string=some 1:=by kernel_rfl
theorem TF.bH:Wk.oN P T.uint32=some 1:=by kernel_rfl
theorem TF.yD:Wk.oN P T.uint8=some 1:=by kernel_rfl
theorem TF.dQ:P.underlying T.string=some .string:=by kernel_rfl
theorem TF.Ie:Wk.zeroOf P T.gK=some (.agg #[.string .empty,.string .empty]):=by kernel_rfl
theorem TF.Ws:Wk.zeroOf P T.iU=some (.agg #[.string .empty,.string .empty,.string .empty,.string .empty]):=by kernel_rfl
theorem TF.dY:Wk.zeroOf P T.bM=some (.agg #[.bool false,.slice none 0 0,.slice none 0 0]):=by kernel_rfl
theorem TF.aDq:Wk.zeroOf P T.Hf=some (.agg #[.bool false,.slice none 0 0]):=by kernel_rfl
theorem TF.mX:Wk.zeroOf P T.lF=some (.agg #[.bool false,.slice none 0 0,.slice none 0 0]):=by kernel_rfl
theorem TF.dP:Wk.zeroOf P T.eH=some (.agg #[.pointer none,.pointer none]):=by kernel_rfl
theorem TF.aA6:Wk.zeroOf P T.Bj=some (.agg #[.bool false,.bool false,.bool false]):=by kernel_rfl
theorem TF.Kt (a0:ByteArray) (a1:ByteArray) (b0:ByteArray) (b1:ByteArray):Wk.EqB P T.gK (.agg #[.string a0,.string a1]) (.agg #[.string b0,.string b1]) 2 (a0=b0/\a1=b1):=Wk.aDk (t1:=T.string) (o1:=0) (t2:=T.string) (o2:=1) (by kernel_rfl) (by kernel_rfl) (Wk.Eh TF.dN rfl) (Wk.Eh TF.dN rfl) (Wk.Eh TF.dN rfl) (Wk.Eh TF.dN rfl) (Wk.aC9 TF.dQ _ _ 0) (Wk.aC9 TF.dQ _ _ 0)
theorem TF.aDa (a0:Int) (a1:ByteArray) (b0:Int) (b1:ByteArray):Wk.EqB P T.Nh (.agg #[.int .i64 a0,.string a1]) (.agg #[.int .i64 b0,.string b1]) 2 (a0=b0/\a1=b1):=Wk.aDk (t1:=T.int) (o1:=0) (t2:=T.string) (o2:=1) (by kernel_rfl) (by kernel_rfl) (Wk.Eh TF.kL rfl) (Wk.Eh TF.kL rfl) (Wk.Eh TF.dN rfl) (Wk.Eh TF.dN rfl) (Wk.aJd TF.aAt _ _ 0) (Wk.aC9 TF.dQ _ _ 0)
theorem TF.aC8 (a0:ByteArray) (a1:ByteArray) (a2:ByteArray) (a3:ByteArray) (b0:ByteArray) (b1:ByteArray) (b2:ByteArray) (b3:ByteArray):Wk.EqB P T.iU (.agg #[.string a0,.string a1,.string a2,.string a3]) (.agg #[.string b0,.string b1,.string b2,.string b3]) 3 ((a0=b0/\a1=b1)/\(a2=b2/\a3=b3)):=Wk.aDk (t1:=T.gK) (o1:=0) (t2:=T.gK) (o2:=2) (by kernel_rfl) (by kernel_rfl) (Wk.Xw TF.fK TF.bZ rfl) (Wk.Xw TF.fK TF.bZ rfl) (Wk.Xw TF.fK TF.bZ rfl) (Wk.Xw TF.fK TF.bZ rfl) (TF.Kt a0 a1 b0 b1) (TF.Kt a2 a3 b2 b3)
open Wk
def u32 (x:Nat):Value:= .int .u32 (x:Int)
abbrev LR (w:World) (A:Option Addr) (n c:Nat) (l:List Nat):Prop:=Row w 0 T.uint32 1 A n c (l.map u32)
def NR (w:World) (A:Option Addr) (n c:Nat) (x:Nat):Prop:=∃l:List Nat,LR w A n c l/\Pm l/\nv l=x
section
variable {w w':World} {A:Option Addr} {n c x:Nat} {l:List Nat}
theorem LR.len (h:LR w A n c l):l.length=n:=by have:=h.1;simpa using this
theorem LR.at_ (h:LR w A n c l) {i:Int} (h0:0<=i) (h1:i<n):∃ad,A=some ad/\l[i.toNat]? =some (lg l i.toNat)/\w.cell? (ad.add (i.toNat*1))=some (.int .u32 (lg l i.toNat:Int))/\w.frozen? (ad.add (i.toNat*1))=false:=by
 obtain⟨ad,v,hA,hv,hc,hf⟩:=h.get h0 h1
 rw[List.getElem?_map,Option.map_eq_some_iff] at hv
 obtain⟨y,hy,rfl⟩:=hv
 have:=Zu hy
 subst this
 exact⟨ad,hA,hy,hc,hf⟩
theorem LR.nil (w:World):LR w none 0 0 []:=Row.nil _ _ _ _
theorem LR.ext (h:LR w A n c l) (k:Ext w w'):LR w' A n c l:=h.keep k fun _ _ h=>h
theorem NR.ext (h:NR w A n c x) (k:Ext w w'):NR w' A n c x:=by
 obtain⟨l,h1,h2⟩:=h
 exact⟨l,h1.ext k,h2⟩
theorem NR.nil (w:World):NR w none 0 0 0:=⟨[],LR.nil w,Pm.nil,rfl⟩
theorem NR.zero (h:NR w A n c x):n=0↔x=0:=by
 obtain⟨l,h1,h2,rfl⟩:=h
 rw[h2.zero,<-h1.len]
 exact⟨fun e=>List.eq_nil_of_length_eq_zero e,fun e=>by rw[e];rfl⟩
theorem NR.le (h:NR w A n c x) {k:Nat} (hk:Lb x k):n<=k:=by
 obtain⟨l,h1,h2,rfl⟩:=h
 rw[<-h1.len]
 exact Lb.len h2 hk
theorem NR.lb (h:NR w A n c x):Lb x n:=by
 obtain⟨l,h1,h2,rfl⟩:=h
 rw[<-h1.len]
 exact Lb.of h2.lo
end
namespace Wk
section
variable {P:Program} {ops:Array Oper} {Q:Exit->Act->World->Prop} {n f:Nat} {e e':Env} {w w' w0:World} {rest:List Oper} {ty t t':TypeId} {pos:String} {af:Array Edge} {d j s:Nat} {b b':Bool} {u v v2:Value} {x y z:Operand} {op:BinOp} {p:Addr}
theorem sv {o:Oper} (hd:o.dst=some d) (hg:o.guard=none) (hr:∀a,Ok n e a->(execOp a.eval o).run P w= .ok (.value v) w') (h:SL P ops Q rest n ((d,v)::e) w') (hlt:Nat.blt d n=true:=by rfl):SL P ops Q (o::rest) n e w:=qH hd hlt (aF hg) hr h
theorem svg {o:Oper} (hd:o.dst=some d) (hg:o.guard=some (j,b)) (hs:(ops[j]?).bind (·.dst)=some s) (hb:look e s=some (.bool b)) (hr:∀a,Ok n e a->(execOp a.eval o).run P w= .ok (.value v) w') (h:SL P ops Q rest n ((d,v)::e) w') (hlt:Nat.blt d n=true:=by rfl):SL P ops Q (o::rest) n e w:=qH hd hlt (cZ hg hs hb) hr h
theorem mv (hx:ev e x=some v) (h:SL P ops Q rest n ((d,v)::e) w) (hlt:Nat.blt d n=true:=by rfl):SL P ops Q (⟨some d,.move x,ty,pos,af,none⟩::rest) n e w:=qH rfl hlt (aF rfl) (fun a ha=>eU (ha.ev hx)) h
theorem Kw (hs:(ops[j]?).bind (·.dst)=some s) (hb:look e s=some (.bool b)) (hx:ev e x=some v) (h:SL P ops Q rest n ((d,v)::e) w) (hlt:Nat.blt d n=true:=by rfl):SL P ops Q (⟨some d,.move x,ty,pos,af,some (j,b)⟩::rest) n e w:=qH rfl hlt (cZ rfl hs hb) (fun a ha=>eU (ha.ev hx)) h
theorem ag (hx:ev e x=some v) (h:SL P ops Q rest n ((d,v)::e) w) (hlt:Nat.blt d n=true:=by rfl):SL P ops Q (⟨some d,.assign x,ty,pos,af,none⟩::rest) n e w:=qH rfl hlt (aF rfl) (fun a ha=>jZ (ha.ev hx)) h
theorem agg (hs:(ops[j]?).bind (·.dst)=some s) (hb:look e s=some (.bool b)) (hx:ev e x=some v) (h:SL P ops Q rest n ((d,v)::e) w) (hlt:Nat.blt d n=true:=by rfl):SL P ops Q (⟨some d,.assign x,ty,pos,af,some (j,b)⟩::rest) n e w:=qH rfl hlt (cZ rfl hs hb) (fun a ha=>jZ (ha.ev hx)) h
theorem nk (hx:ev e x=some (.pointer (some p))) (h:SL P ops Q rest n ((d,.pointer (some p))::e) w) (hlt:Nat.blt d n=true:=by rfl):SL P ops Q (⟨some d,.nilCheck x,ty,pos,af,none⟩::rest) n e w:=qH rfl hlt (aF rfl) (fun a ha=>fD (ha.ev hx)) h
theorem nkg (hs:(ops[j]?).bind (·.dst)=some s) (hb:look e s=some (.bool b)) (hx:ev e x=some (.pointer (some p))) (h:SL P ops Q rest n ((d,.pointer (some p))::e) w) (hlt:Nat.blt d n=true:=by rfl):SL P ops Q (⟨some d,.nilCheck x,ty,pos,af,some (j,b)⟩::rest) n e w:=qH rfl hlt (cZ rfl hs hb) (fun a ha=>fD (ha.ev hx)) h
theorem fa (hx:ev e x=some v) (hf:(Instr.fieldAt t v f).run P w= .ok u w) (h:SL P ops Q rest n ((d,u)::e) w) (hlt:Nat.blt d n=true:=by rfl):SL P ops Q (⟨some d,.fieldAddr t x f,ty,pos,af,none⟩::rest) n e w:=qH rfl hlt (aF rfl) (fun a ha=>Jw (ha.ev hx) hf) h
theorem fag (hs:(ops[j]?).bind (·.dst)=some s) (hb:look e s=some (.bool b)) (hx:ev e x=some v) (hf:(Instr.fieldAt t v f).run P w= .ok u w) (h:SL P ops Q rest n ((d,u)::e) w) (hlt:Nat.blt d n=true:=by rfl):SL P ops Q (⟨some d,.fieldAddr t x f,ty,pos,af,some (j,b)⟩::rest) n e w:=qH rfl hlt (cZ rfl hs hb) (fun a ha=>Jw (ha.ev hx) hf) h
theorem ld (hx:ev e x=some v) (hf:(Instr.loadAt t v).run P w= .ok u w) (h:SL P ops Q rest n ((d,u)::e) w) (hlt:Nat.blt d n=true:=by rfl):SL P ops Q (⟨some d,.load t x,ty,pos,af,none⟩::rest) n e w:=qH rfl hlt (aF rfl) (fun a ha=>Ey (ha.ev hx) hf) h
theorem ldg (hs:(ops[j]?).bind (·.dst)=some s) (hb:look e s=some (.bool b)) (hx:ev e x=some v) (hf:(Instr.loadAt t v).run P w= .ok u w) (h:SL P ops Q rest n ((d,u)::e) w) (hlt:Nat.blt d n=true:=by rfl):SL P ops Q (⟨some d,.load t x,ty,pos,af,some (j,b)⟩::rest) n e w:=qH rfl hlt (cZ rfl hs hb) (fun a ha=>Ey (ha.ev hx) hf) h
theorem ix (hx:ev e x=some v) (hy:ev e y=some v2) (hf:(Instr.indexAt t v v2).run P w= .ok u w) (h:SL P ops Q rest n ((d,u)::e) w) (hlt:Nat.blt d n=true:=by rfl):SL P ops Q (⟨some d,.indexAddr t x y,ty,pos,af,none⟩::rest) n e w:=qH rfl hlt (aF rfl) (fun a ha=>Dw (ha.ev hx) (ha.ev hy) hf) h
theorem ixg (hs:(ops[j]?).bind (·.dst)=some s) (hb:look e s=some (.bool b)) (hx:ev e x=some v) (hy:ev e y=some v2) (hf:(Instr.indexAt t v v2).run P w= .ok u w) (h:SL P ops Q rest n ((d,u)::e) w) (hlt:Nat.blt d n=true:=by rfl):SL P ops Q (⟨some d,.indexAddr t x y,ty,pos,af,some (j,b)⟩::rest) n e w:=qH rfl hlt (cZ rfl hs hb) (fun a ha=>Dw (ha.ev hx) (ha.ev hy) hf) h
theorem bo (hx:ev e x=some v) (hy:ev e y=some v2) (hf:(do eqGuard op t x y v v2;binOp op t v v2:Sem Value).run P w= .ok u w) (h:SL P ops Q rest n ((d,u)::e) w) (hlt:Nat.blt d n=true:=by rfl):SL P ops Q (⟨some d,.binOp op t x y t',ty,pos,af,none⟩::rest) n e w:=qH rfl hlt (aF rfl) (fun a ha=>dK (ha.ev hx) (ha.ev hy) hf) h
theorem Uu (hs:(ops[j]?).bind (·.dst)=some s) (hb:look e s=some (.bool b)) (hx:ev e x=some v) (hy:ev e y=some v2) (hf:(do eqGuard op t x y v v2;binOp op t v v2:Sem Value).run P w= .ok u w) (h:SL P ops Q rest n ((d,u)::e) w) (hlt:Nat.blt d n=true:=by rfl):SL P ops Q (⟨some d,.binOp op t x y t',ty,pos,af,some (j,b)⟩::rest) n e w:=qH rfl hlt (cZ rfl hs hb) (fun a ha=>dK (ha.ev hx) (ha.ev hy) hf) h
theorem pt (hx:ev e x=some (.bool true)) (hy:ev e y=some v) (h:SL P ops Q rest n ((d,v)::e) w) (hlt:Nat.blt d n=true:=by rfl):SL P ops Q (⟨some d,.pick x y z,ty,pos,af,none⟩::rest) n e w:=qH rfl hlt (aF rfl) (fun a ha=>aBl (ha.ev hx) (ha.ev hy)) h
theorem ptg (hs:(ops[j]?).bind (·.dst)=some s) (hb:look e s=some (.bool b)) (hx:ev e x=some (.bool true)) (hy:ev e y=some v) (h:SL P ops Q rest n ((d,v)::e) w) (hlt:Nat.blt d n=true:=by rfl):SL P ops Q (⟨some d,.pick x y z,ty,pos,af,some (j,b)⟩::rest) n e w:=qH rfl hlt (cZ rfl hs hb) (fun a ha=>aBl (ha.ev hx) (ha.ev hy)) h
theorem pf (hx:ev e x=some (.bool false)) (hy:ev e z=some v) (h:SL P ops Q rest n ((d,v)::e) w) (hlt:Nat.blt d n=true:=by rfl):SL P ops Q (⟨some d,.pick x y z,ty,pos,af,none⟩::rest) n e w:=qH rfl hlt (aF rfl) (fun a ha=>aBk (ha.ev hx) (ha.ev hy)) h
theorem pfg (hs:(ops[j]?).bind (·.dst)=some s) (hb:look e s=some (.bool b)) (hx:ev e x=some (.bool false)) (hy:ev e z=some v) (h:SL P ops Q rest n ((d,v)::e) w) (hlt:Nat.blt d n=true:=by rfl):SL P ops Q (⟨some d,.pick x y z,ty,pos,af,some (j,b)⟩::rest) n e w:=qH rfl hlt (cZ rfl hs hb) (fun a ha=>aBk (ha.ev hx) (ha.ev hy)) h
theorem sk {o:Oper} (hd:o.dst=some d) (hg:o.guard=some (j,b)) (hs:(ops[j]?).bind (·.dst)=some s) (hb:look e s=some (.bool b')) (h:SL P ops Q rest n ((d,undef)::e) w) (hlt:Nat.blt d n=true:=by rfl) (hne:b'= !b:=by rfl):SL P ops Q (o::rest) n e w:=Dj hd hlt (tC hg hs hb hne) h
variable {pu rd:List Nat} {H:World->Prop} {D:World->World->Prop} {fu:Nat} {l:Array Bool}
theorem pv {oi:Oper} (i:Nat) (cm:Calm P ops Q H D) (hi:ops[i]? =some oi) (hd:oi.dst=some d) (hg:oi.guard=none) (hy:∀w' a,Ok n e a->(execOp a.eval oi).run P w'= .ok (.value v) w') (hD:D w0 w) (hW:H w) (h:∀w',D w0 w'->H w'->AN P ops Q pu rd H D fu (l.setIfInBounds i true) n ((d,v)::e) w') (hp:nX ops pu l i=true:=by kernel_rfl) (hlt:Nat.blt d n=true:=by rfl):AN P ops Q pu rd H D (fu+1) l n e w:=zI cm hi hp hd hlt (aF hg) hy rfl fun w' q=>h w' (cm.dtrans _ _ _ hD q) (cm.held _ _ hW q)
theorem pvg {oi:Oper} (i:Nat) (cm:Calm P ops Q H D) (hi:ops[i]? =some oi) (hd:oi.dst=some d) (hg:oi.guard=some (j,b)) (hs:(ops[j]?).bind (·.dst)=some s) (hb:look e s=some (.bool b)) (hy:∀w' a,Ok n e a->(execOp a.eval oi).run P w'= .ok (.value v) w') (hD:D w0 w) (hW:H w) (h:∀w',D w0 w'->H w'->AN P ops Q pu rd H D fu (l.setIfInBounds i true) n ((d,v)::e) w') (hp:nX ops pu l i=true:=by kernel_rfl) (hlt:Nat.blt d n=true:=by rfl):AN P ops Q pu rd H D (fu+1) l n e w:=zI cm hi hp hd hlt (cZ hg hs hb) hy rfl fun w' q=>h w' (cm.dtrans _ _ _ hD q) (cm.held _ _ hW q)
theorem ps {oi:Oper} (i:Nat) (cm:Calm P ops Q H D) (hi:ops[i]? =some oi) (hd:oi.dst=some d) (hg:oi.guard=some (j,b)) (hs:(ops[j]?).bind (·.dst)=some s) (hb:look e s=some (.bool b')) (hD:D w0 w) (hW:H w) (h:∀w',D w0 w'->H w'->AN P ops Q pu rd H D fu (l.setIfInBounds i true) n ((d,undef)::e) w') (hp:nX ops pu l i=true:=by kernel_rfl) (hlt:Nat.blt d n=true:=by rfl) (hne:b'= !b:=by rfl):AN P ops Q pu rd H D (fu+1) l n e w:=aEp cm hi hp hd hlt (tC hg hs hb hne) rfl fun w' q=>h w' (cm.dtrans _ _ _ hD q) (cm.held _ _ hW q)
theorem lU (i:Nat) (cm:Calm P ops Q H D) (hi:ops[i]? =some ⟨some d,.move x,ty,pos,af,none⟩) (hx:ev e x=some v) (hD:D w0 w) (hW:H w) (h:∀w',D w0 w'->H w'->AN P ops Q pu rd H D fu (l.setIfInBounds i true) n ((d,v)::e) w') (hp:nX ops pu l i=true:=by kernel_rfl) (hlt:Nat.blt d n=true:=by rfl):AN P ops Q pu rd H D (fu+1) l n e w:=zI cm hi hp rfl hlt (aF rfl) (fun w' a ha=>eU (ha.ev hx)) rfl fun w' q=>h w' (cm.dtrans _ _ _ hD q) (cm.held _ _ hW q)
theorem aGu (i:Nat) (cm:Calm P ops Q H D) (hi:ops[i]? =some ⟨some d,.move x,ty,pos,af,some (j,b)⟩) (hs:(ops[j]?).bind (·.dst)=some s) (hb:look e s=some (.bool b)) (hx:ev e x=some v) (hD:D w0 w) (hW:H w) (h:∀w',D w0 w'->H w'->AN P ops Q pu rd H D fu (l.setIfInBounds i true) n ((d,v)::e) w') (hp:nX ops pu l i=true:=by kernel_rfl) (hlt:Nat.blt d n=true:=by rfl):AN P ops Q pu rd H D (fu+1) l n e w:=zI cm hi hp rfl hlt (cZ rfl hs hb) (fun w' a ha=>eU (ha.ev hx)) rfl fun w' q=>h w' (cm.dtrans _ _ _ hD q) (cm.held _ _ hW q)
theorem pnk (i:Nat) (cm:Calm P ops Q H D) (hi:ops[i]? =some ⟨some d,.nilCheck x,ty,pos,af,none⟩) (hx:ev e x=some (.pointer (some p))) (hD:D w0 w) (hW:H w) (h:∀w',D w0 w'->H w'->AN P ops Q pu rd H D fu (l.setIfInBounds i true) n ((d,.pointer (some p))::e) w') (hp:nX ops pu l i=true:=by kernel_rfl) (hlt:Nat.blt d n=true:=by rfl):AN P ops Q pu rd H D (fu+1) l n e w:=zI cm hi hp rfl hlt (aF rfl) (fun w' a ha=>fD (ha.ev hx)) rfl fun w' q=>h w' (cm.dtrans _ _ _ hD q) (cm.held _ _ hW q)
theorem Nw (i:Nat) (cm:Calm P ops Q H D) (hi:ops[i]? =some ⟨some d,.fieldAddr t x f,ty,pos,af,none⟩) (hx:ev e x=some v) (hf:∀{w'},(Instr.fieldAt t v f).run P w'= .ok u w') (hD:D w0 w) (hW:H w) (h:∀w',D w0 w'->H w'->AN P ops Q pu rd H D fu (l.setIfInBounds i true) n ((d,u)::e) w') (hp:nX ops pu l i=true:=by kernel_rfl) (hlt:Nat.blt d n=true:=by rfl):AN P ops Q pu rd H D (fu+1) l n e w:=zI cm hi hp rfl hlt (aF rfl) (fun w' a ha=>Jw (ha.ev hx) hf) rfl fun w' q=>h w' (cm.dtrans _ _ _ hD q) (cm.held _ _ hW q)
theorem Vu (i:Nat) (cm:Calm P ops Q H D) (hi:ops[i]? =some ⟨some d,.indexAddr t x y,ty,pos,af,none⟩) (hx:ev e x=some v) (hy:ev e y=some v2) (hf:∀{w'},(Instr.indexAt t v v2).run P w'= .ok u w') (hD:D w0 w) (hW:H w) (h:∀w',D w0 w'->H w'->AN P ops Q pu rd H D fu (l.setIfInBounds i true) n ((d,u)::e) w') (hp:nX ops pu l i=true:=by kernel_rfl) (hlt:Nat.blt d n=true:=by rfl):AN P ops Q pu rd H D (fu+1) l n e w:=zI cm hi hp rfl hlt (aF rfl) (fun w' a ha=>Dw (ha.ev hx) (ha.ev hy) hf) rfl fun w' q=>h w' (cm.dtrans _ _ _ hD q) (cm.held _ _ hW q)
theorem aKy (i:Nat) (cm:Calm P ops Q H D) (hi:ops[i]? =some ⟨some d,.indexAddr t x y,ty,pos,af,some (j,b)⟩) (hs:(ops[j]?).bind (·.dst)=some s) (hb:look e s=some (.bool b)) (hx:ev e x=some v) (hy:ev e y=some v2) (hf:∀{w'},(Instr.indexAt t v v2).run P w'= .ok u w') (hD:D w0 w) (hW:H w) (h:∀w',D w0 w'->H w'->AN P ops Q pu rd H D fu (l.setIfInBounds i true) n ((d,u)::e) w') (hp:nX ops pu l i=true:=by kernel_rfl) (hlt:Nat.blt d n=true:=by rfl):AN P ops Q pu rd H D (fu+1) l n e w:=zI cm hi hp rfl hlt (cZ rfl hs hb) (fun w' a ha=>Dw (ha.ev hx) (ha.ev hy) hf) rfl fun w' q=>h w' (cm.dtrans _ _ _ hD q) (cm.held _ _ hW q)
theorem Ji {oi:Oper} (i:Nat) (cm:Calm P ops Q H D) (hi:ops[i]? =some oi) (hd:oi.dst=some d) (hg:oi.guard=none) (hy:∀w' a,Ok n e a->(execOp a.eval oi).run P w'= .ok (.value v) w') (hD:D w0 w) (h:∀w',D w0 w'->AN P ops Q pu rd H D fu (l.setIfInBounds i true) n ((d,v)::e) w') (hp:nX ops pu l i=true:=by kernel_rfl) (hlt:Nat.blt d n=true:=by rfl):AN P ops Q pu rd H D (fu+1) l n e w:=zI cm hi hp hd hlt (aF hg) hy rfl fun w' q=>h w' (cm.dtrans _ _ _ hD q)
theorem aDg {oi:Oper} (i:Nat) (cm:Calm P ops Q H D) (hi:ops[i]? =some oi) (hd:oi.dst=some d) (hg:oi.guard=some (j,b)) (hs:(ops[j]?).bind (·.dst)=some s) (hb:look e s=some (.bool b)) (hy:∀w' a,Ok n e a->(execOp a.eval oi).run P w'= .ok (.value v) w') (hD:D w0 w) (h:∀w',D w0 w'->AN P ops Q pu rd H D fu (l.setIfInBounds i true) n ((d,v)::e) w') (hp:nX ops pu l i=true:=by kernel_rfl) (hlt:Nat.blt d n=true:=by rfl):AN P ops Q pu rd H D (fu+1) l n e w:=zI cm hi hp hd hlt (cZ hg hs hb) hy rfl fun w' q=>h w' (cm.dtrans _ _ _ hD q)
theorem Qx {oi:Oper} (i:Nat) (cm:Calm P ops Q H D) (hi:ops[i]? =some oi) (hd:oi.dst=some d) (hg:oi.guard=some (j,b)) (hs:(ops[j]?).bind (·.dst)=some s) (hb:look e s=some (.bool b')) (hD:D w0 w) (h:∀w',D w0 w'->AN P ops Q pu rd H D fu (l.setIfInBounds i true) n ((d,undef)::e) w') (hp:nX ops pu l i=true:=by kernel_rfl) (hlt:Nat.blt d n=true:=by rfl) (hne:b'= !b:=by rfl):AN P ops Q pu rd H D (fu+1) l n e w:=aEp cm hi hp hd hlt (tC hg hs hb hne) rfl fun w' q=>h w' (cm.dtrans _ _ _ hD q)
theorem Ez (i:Nat) (cm:Calm P ops Q H D) (hi:ops[i]? =some ⟨some d,.move x,ty,pos,af,none⟩) (hx:ev e x=some v) (hD:D w0 w) (h:∀w',D w0 w'->AN P ops Q pu rd H D fu (l.setIfInBounds i true) n ((d,v)::e) w') (hp:nX ops pu l i=true:=by kernel_rfl) (hlt:Nat.blt d n=true:=by rfl):AN P ops Q pu rd H D (fu+1) l n e w:=zI cm hi hp rfl hlt (aF rfl) (fun w' a ha=>eU (ha.ev hx)) rfl fun w' q=>h w' (cm.dtrans _ _ _ hD q)
theorem Zz (i:Nat) (cm:Calm P ops Q H D) (hi:ops[i]? =some ⟨some d,.move x,ty,pos,af,some (j,b)⟩) (hs:(ops[j]?).bind (·.dst)=some s) (hb:look e s=some (.bool b)) (hx:ev e x=some v) (hD:D w0 w) (h:∀w',D w0 w'->AN P ops Q pu rd H D fu (l.setIfInBounds i true) n ((d,v)::e) w') (hp:nX ops pu l i=true:=by kernel_rfl) (hlt:Nat.blt d n=true:=by rfl):AN P ops Q pu rd H D (fu+1) l n e w:=zI cm hi hp rfl hlt (cZ rfl hs hb) (fun w' a ha=>eU (ha.ev hx)) rfl fun w' q=>h w' (cm.dtrans _ _ _ hD q)
theorem vP (i:Nat) (cm:Calm P ops Q H D) (hi:ops[i]? =some ⟨some d,.assign x,ty,pos,af,none⟩) (hx:ev e x=some v) (hD:D w0 w) (h:∀w',D w0 w'->AN P ops Q pu rd H D fu (l.setIfInBounds i true) n ((d,v)::e) w') (hp:nX ops pu l i=true:=by kernel_rfl) (hlt:Nat.blt d n=true:=by rfl):AN P ops Q pu rd H D (fu+1) l n e w:=zI cm hi hp rfl hlt (aF rfl) (fun w' a ha=>jZ (ha.ev hx)) rfl fun w' q=>h w' (cm.dtrans _ _ _ hD q)
theorem aGf (i:Nat) (cm:Calm P ops Q H D) (hi:ops[i]? =some ⟨some d,.fieldAddr t x f,ty,pos,af,some (j,b)⟩) (hs:(ops[j]?).bind (·.dst)=some s) (hb:look e s=some (.bool b)) (hx:ev e x=some v) (hf:∀{w'},(Instr.fieldAt t v f).run P w'= .ok u w') (hD:D w0 w) (h:∀w',D w0 w'->AN P ops Q pu rd H D fu (l.setIfInBounds i true) n ((d,u)::e) w') (hp:nX ops pu l i=true:=by kernel_rfl) (hlt:Nat.blt d n=true:=by rfl):AN P ops Q pu rd H D (fu+1) l n e w:=zI cm hi hp rfl hlt (cZ rfl hs hb) (fun w' a ha=>Jw (ha.ev hx) hf) rfl fun w' q=>h w' (cm.dtrans _ _ _ hD q)
theorem aGq (i:Nat) (cm:Calm P ops Q H D) (hi:ops[i]? =some ⟨some d,.indexAddr t x y,ty,pos,af,some (j,b)⟩) (hs:(ops[j]?).bind (·.dst)=some s) (hb:look e s=some (.bool b)) (hx:ev e x=some v) (hy:ev e y=some v2) (hf:∀{w'},(Instr.indexAt t v v2).run P w'= .ok u w') (hD:D w0 w) (h:∀w',D w0 w'->AN P ops Q pu rd H D fu (l.setIfInBounds i true) n ((d,u)::e) w') (hp:nX ops pu l i=true:=by kernel_rfl) (hlt:Nat.blt d n=true:=by rfl):AN P ops Q pu rd H D (fu+1) l n e w:=zI cm hi hp rfl hlt (cZ rfl hs hb) (fun w' a ha=>Dw (ha.ev hx) (ha.ev hy) hf) rfl fun w' q=>h w' (cm.dtrans _ _ _ hD q)
theorem aFj (i:Nat) (cm:Calm P ops Q H D) (hi:ops[i]? =some ⟨some d,.pick x y z,ty,pos,af,none⟩) (hx:ev e x=some (.bool true)) (hy:ev e y=some v) (hD:D w0 w) (h:∀w',D w0 w'->AN P ops Q pu rd H D fu (l.setIfInBounds i true) n ((d,v)::e) w') (hp:nX ops pu l i=true:=by kernel_rfl) (hlt:Nat.blt d n=true:=by rfl):AN P ops Q pu rd H D (fu+1) l n e w:=zI cm hi hp rfl hlt (aF rfl) (fun w' a ha=>aBl (ha.ev hx) (ha.ev hy)) rfl fun w' q=>h w' (cm.dtrans _ _ _ hD q)
theorem aIm (i:Nat) (cm:Calm P ops Q H D) (hi:ops[i]? =some ⟨some d,.pick x y z,ty,pos,af,none⟩) (hx:ev e x=some (.bool false)) (hy:ev e z=some v) (hD:D w0 w) (h:∀w',D w0 w'->AN P ops Q pu rd H D fu (l.setIfInBounds i true) n ((d,v)::e) w') (hp:nX ops pu l i=true:=by kernel_rfl) (hlt:Nat.blt d n=true:=by rfl):AN P ops Q pu rd H D (fu+1) l n e w:=zI cm hi hp rfl hlt (aF rfl) (fun w' a ha=>aBk (ha.ev hx) (ha.ev hy)) rfl fun w' q=>h w' (cm.dtrans _ _ _ hD q)
theorem vl (i:Nat) (cm:Calm P ops Q H D) (hi:ops[i]? =some ⟨some d,.load t x,ty,pos,af,none⟩) (hx:ev e x=some v) (hf:∀{w'},H w'->(Instr.loadAt t v).run P w'= .ok u w') (hD:D w0 w) (hW:H w) (h:∀w',D w0 w'->H w'->AN P ops Q pu rd H D fu (l.setIfInBounds i true) n ((d,u)::e) w') (hp:takeB ops rd l i=true:=by kernel_rfl) (hlt:Nat.blt d n=true:=by rfl):AN P ops Q pu rd H D (fu+1) l n e w:=aK5 cm hi hp hW rfl hlt (aF rfl) (fun w' hw a ha=>Ey (ha.ev hx) (hf hw)) rfl fun w' q hW=>h w' (cm.dtrans _ _ _ hD q) hW
theorem vlg (i:Nat) (cm:Calm P ops Q H D) (hi:ops[i]? =some ⟨some d,.load t x,ty,pos,af,some (j,b)⟩) (hs:(ops[j]?).bind (·.dst)=some s) (hb:look e s=some (.bool b)) (hx:ev e x=some v) (hf:∀{w'},H w'->(Instr.loadAt t v).run P w'= .ok u w') (hD:D w0 w) (hW:H w) (h:∀w',D w0 w'->H w'->AN P ops Q pu rd H D fu (l.setIfInBounds i true) n ((d,u)::e) w') (hp:takeB ops rd l i=true:=by kernel_rfl) (hlt:Nat.blt d n=true:=by rfl):AN P ops Q pu rd H D (fu+1) l n e w:=aK5 cm hi hp hW rfl hlt (cZ rfl hs hb) (fun w' hw a ha=>Ey (ha.ev hx) (hf hw)) rfl fun w' q hW=>h w' (cm.dtrans _ _ _ hD q) hW
theorem ar (i:Nat) (h:AW P ops Q pu rd H D fu l n e w i) (hr:Region.ready .any ops l=[i]:=by kernel_rfl):AN P ops Q pu rd H D (fu+1) l n e w:=pW hr rfl (iM h Af)
theorem nc {y:Code} {Q':Exit->Act->World->Prop} (k:sub e' e) (h:CW P y Q n e' w):NX (Exit.then (y.wp P Q) Q') .normal n e w:=Gy (Ou k h)
theorem zz:sub [] e:=sub.nil
theorem kp (t:Nat) (h:look e t=some v) (k:sub e' e):sub ((t,v)::e') e:=sub.cons h k
theorem cn {t:Nat} (h:look e t=some v) (k:sub e' e):sub ((t,v)::e') e:=sub.cons h k
theorem az {args:Array Value}:∀p∈([]:Env),args[p.1]? =some p.2:=fun _ h=>by cases h
theorem aa {args:Array Value} {t:Nat} (h:args[t]? =some v) (k:∀p∈e,args[p.1]? =some p.2):∀p∈(t,v)::e,args[p.1]? =some p.2:=fun p hp=>by
 rcases List.mem_cons.1 hp with e|hp
 ·rw[e];exact h
 ·exact k p hp
end
section
variable {P:Program} {ops:Array Oper} {Q:Exit->Act->World->Prop} {n:Nat} {e e':Env} {w w':World} {rest:List Oper} {ty:TypeId} {pos:String} {af:Array Edge} {d d0:Nat} {od:Option Nat} {og:Option (Nat×Bool)} {u v v2:Value} {x y:Operand}
theorem cs (h:(e'.map fun p=>look e p.1)=e'.map fun p=>some p.2:=by kernel_rfl):sub e' e:=by
 induction e' with
 |nil=>exact sub.nil
 |cons q e' ih=>
  simp only[List.map_cons,List.cons.injEq] at h
  exact sub.cons h.1 (ih h.2)
theorem cu {c:Code} {a:Act} (ha:Ok n e a) (h:CW P c Q n e w):c.wp P Q a w:=h a ha
def aA3 (e:Env):List (Nat×Operand)->Option (List (Nat×Value))
 |[]=>some []
 |x::xs=>match ev e x.2,aA3 e xs with|some v,some vs=>some ((x.1,v)::vs)|_,_=>none
theorem Ok.aA3 {a:Act} (h:Ok n e a):∀{xs:List (Nat×Operand)} {vs:List (Nat×Value)},aA3 e xs=some vs->xs.map (fun p=>(p.1,a.eval p.2))=vs
 |[],vs,hx=>by simp only[Wk.aA3,Option.some.injEq] at hx;subst hx;rfl
 |x::xs,vs,hx=>by
  simp only[Wk.aA3] at hx
  cases h1:Wk.ev e x.2 with
  |none=>rw[h1] at hx;cases hx
  |some v=>
   cases h2:Wk.aA3 e xs with
   |none=>rw[h1,h2] at hx;cases hx
   |some us=>
    rw[h1,h2] at hx
    simp only[Option.some.injEq] at hx
    subst hx
    simp[h.ev h1,h.aA3 h2]
theorem y2 (t0 t1:Nat) {v0 v1:Value} (h:(look e t0,look e t1)=(some v0,some v1)):sub [(t0,v0),(t1,v1)] e:=by
 simp only[Prod.mk.injEq] at h
 exact sub.cons h.1 (sub.cons h.2 (sub.nil))
theorem y3 (t0 t1 t2:Nat) {v0 v1 v2:Value} (h:(look e t0,look e t1,look e t2)=(some v0,some v1,some v2)):sub [(t0,v0),(t1,v1),(t2,v2)] e:=by
 simp only[Prod.mk.injEq] at h
 exact sub.cons h.1 (sub.cons h.2.1 (sub.cons h.2.2 (sub.nil)))
theorem y4 (t0 t1 t2 t3:Nat) {v0 v1 v2 v3:Value} (h:(look e t0,look e t1,look e t2,look e t3)=(some v0,some v1,some v2,some v3)):sub [(t0,v0),(t1,v1),(t2,v2),(t3,v3)] e:=by
 simp only[Prod.mk.injEq] at h
 exact sub.cons h.1 (sub.cons h.2.1 (sub.cons h.2.2.1 (sub.cons h.2.2.2 (sub.nil))))
theorem y5 (t0 t1 t2 t3 t4:Nat) {v0 v1 v2 v3 v4:Value} (h:(look e t0,look e t1,look e t2,look e t3,look e t4)=(some v0,some v1,some v2,some v3,some v4)):sub [(t0,v0),(t1,v1),(t2,v2),(t3,v3),(t4,v4)] e:=by
 simp only[Prod.mk.injEq] at h
 exact sub.cons h.1 (sub.cons h.2.1 (sub.cons h.2.2.1 (sub.cons h.2.2.2.1 (sub.cons h.2.2.2.2 (sub.nil)))))
theorem y6 (t0 t1 t2 t3 t4 t5:Nat) {v0 v1 v2 v3 v4 v5:Value} (h:(look e t0,look e t1,look e t2,look e t3,look e t4,look e t5)=(some v0,some v1,some v2,some v3,some v4,some v5)):sub [(t0,v0),(t1,v1),(t2,v2),(t3,v3),(t4,v4),(t5,v5)] e:=by
 simp only[Prod.mk.injEq] at h
 exact sub.cons h.1 (sub.cons h.2.1 (sub.cons h.2.2.1 (sub.cons h.2.2.2.1 (sub.cons h.2.2.2.2.1 (sub.cons h.2.2.2.2.2 (sub.nil))))))
theorem y7 (t0 t1 t2 t3 t4 t5 t6:Nat) {v0 v1 v2 v3 v4 v5 v6:Value} (h:(look e t0,look e t1,look e t2,look e t3,look e t4,look e t5,look e t6)=(some v0,some v1,some v2,some v3,some v4,some v5,some v6)):sub [(t0,v0),(t1,v1),(t2,v2),(t3,v3),(t4,v4),(t5,v5),(t6,v6)] e:=by
 simp only[Prod.mk.injEq] at h
 exact sub.cons h.1 (sub.cons h.2.1 (sub.cons h.2.2.1 (sub.cons h.2.2.2.1 (sub.cons h.2.2.2.2.1 (sub.cons h.2.2.2.2.2.1 (sub.cons h.2.2.2.2.2.2 (sub.nil)))))))
theorem y8 (t0 t1 t2 t3 t4 t5 t6 t7:Nat) {v0 v1 v2 v3 v4 v5 v6 v7:Value} (h:(look e t0,look e t1,look e t2,look e t3,look e t4,look e t5,look e t6,look e t7)=(some v0,some v1,some v2,some v3,some v4,some v5,some v6,some v7)):sub [(t0,v0),(t1,v1),(t2,v2),(t3,v3),(t4,v4),(t5,v5),(t6,v6),(t7,v7)] e:=by
 simp only[Prod.mk.injEq] at h
 exact sub.cons h.1 (sub.cons h.2.1 (sub.cons h.2.2.1 (sub.cons h.2.2.2.1 (sub.cons h.2.2.2.2.1 (sub.cons h.2.2.2.2.2.1 (sub.cons h.2.2.2.2.2.2.1 (sub.cons h.2.2.2.2.2.2.2 (sub.nil))))))))
theorem y9 (t0 t1 t2 t3 t4 t5 t6 t7 t8:Nat) {v0 v1 v2 v3 v4 v5 v6 v7 v8:Value} (h:(look e t0,look e t1,look e t2,look e t3,look e t4,look e t5,look e t6,look e t7,look e t8)=(some v0,some v1,some v2,some v3,some v4,some v5,some v6,some v7,some v8)):sub [(t0,v0),(t1,v1),(t2,v2),(t3,v3),(t4,v4),(t5,v5),(t6,v6),(t7,v7),(t8,v8)] e:=by
 simp only[Prod.mk.injEq] at h
 exact sub.cons h.1 (sub.cons h.2.1 (sub.cons h.2.2.1 (sub.cons h.2.2.2.1 (sub.cons h.2.2.2.2.1 (sub.cons h.2.2.2.2.2.1 (sub.cons h.2.2.2.2.2.2.1 (sub.cons h.2.2.2.2.2.2.2.1 (sub.cons h.2.2.2.2.2.2.2.2 (sub.nil)))))))))
theorem y10 (t0 t1 t2 t3 t4 t5 t6 t7 t8 t9:Nat) {v0 v1 v2 v3 v4 v5 v6 v7 v8 v9:Value} (h:(look e t0,look e t1,look e t2,look e t3,look e t4,look e t5,look e t6,look e t7,look e t8,look e t9)=(some v0,some v1,some v2,some v3,some v4,some v5,some v6,some v7,some v8,some v9)):sub [(t0,v0),(t1,v1),(t2,v2),(t3,v3),(t4,v4),(t5,v5),(t6,v6),(t7,v7),(t8,v8),(t9,v9)] e:=by
 simp only[Prod.mk.injEq] at h
 exact sub.cons h.1 (sub.cons h.2.1 (sub.cons h.2.2.1 (sub.cons h.2.2.2.1 (sub.cons h.2.2.2.2.1 (sub.cons h.2.2.2.2.2.1 (sub.cons h.2.2.2.2.2.2.1 (sub.cons h.2.2.2.2.2.2.2.1 (sub.cons h.2.2.2.2.2.2.2.2.1 (sub.cons h.2.2.2.2.2.2.2.2.2 (sub.nil))))))))))
theorem y11 (t0 t1 t2 t3 t4 t5 t6 t7 t8 t9 t10:Nat) {v0 v1 v2 v3 v4 v5 v6 v7 v8 v9 v10:Value} (h:(look e t0,look e t1,look e t2,look e t3,look e t4,look e t5,look e t6,look e t7,look e t8,look e t9,look e t10)=(some v0,some v1,some v2,some v3,some v4,some v5,some v6,some v7,some v8,some v9,some v10)):sub [(t0,v0),(t1,v1),(t2,v2),(t3,v3),(t4,v4),(t5,v5),(t6,v6),(t7,v7),(t8,v8),(t9,v9),(t10,v10)] e:=by
 simp only[Prod.mk.injEq] at h
 exact sub.cons h.1 (sub.cons h.2.1 (sub.cons h.2.2.1 (sub.cons h.2.2.2.1 (sub.cons h.2.2.2.2.1 (sub.cons h.2.2.2.2.2.1 (sub.cons h.2.2.2.2.2.2.1 (sub.cons h.2.2.2.2.2.2.2.1 (sub.cons h.2.2.2.2.2.2.2.2.1 (sub.cons h.2.2.2.2.2.2.2.2.2.1 (sub.cons h.2.2.2.2.2.2.2.2.2.2 (sub.nil)))))))))))
theorem y12 (t0 t1 t2 t3 t4 t5 t6 t7 t8 t9 t10 t11:Nat) {v0 v1 v2 v3 v4 v5 v6 v7 v8 v9 v10 v11:Value} (h:(look e t0,look e t1,look e t2,look e t3,look e t4,look e t5,look e t6,look e t7,look e t8,look e t9,look e t10,look e t11)=(some v0,some v1,some v2,some v3,some v4,some v5,some v6,some v7,some v8,some v9,some v10,some v11)):sub [(t0,v0),(t1,v1),(t2,v2),(t3,v3),(t4,v4),(t5,v5),(t6,v6),(t7,v7),(t8,v8),(t9,v9),(t10,v10),(t11,v11)] e:=by
 simp only[Prod.mk.injEq] at h
 exact sub.cons h.1 (sub.cons h.2.1 (sub.cons h.2.2.1 (sub.cons h.2.2.2.1 (sub.cons h.2.2.2.2.1 (sub.cons h.2.2.2.2.2.1 (sub.cons h.2.2.2.2.2.2.1 (sub.cons h.2.2.2.2.2.2.2.1 (sub.cons h.2.2.2.2.2.2.2.2.1 (sub.cons h.2.2.2.2.2.2.2.2.2.1 (sub.cons h.2.2.2.2.2.2.2.2.2.2.1 (sub.cons h.2.2.2.2.2.2.2.2.2.2.2 (sub.nil))))))))))))
theorem y13 (t0 t1 t2 t3 t4 t5 t6 t7 t8 t9 t10 t11 t12:Nat) {v0 v1 v2 v3 v4 v5 v6 v7 v8 v9 v10 v11 v12:Value} (h:(look e t0,look e t1,look e t2,look e t3,look e t4,look e t5,look e t6,look e t7,look e t8,look e t9,look e t10,look e t11,look e t12)=(some v0,some v1,some v2,some v3,some v4,some v5,some v6,some v7,some v8,some v9,some v10,some v11,some v12)):sub [(t0,v0),(t1,v1),(t2,v2),(t3,v3),(t4,v4),(t5,v5),(t6,v6),(t7,v7),(t8,v8),(t9,v9),(t10,v10),(t11,v11),(t12,v12)] e:=by
 simp only[Prod.mk.injEq] at h
 exact sub.cons h.1 (sub.cons h.2.1 (sub.cons h.2.2.1 (sub.cons h.2.2.2.1 (sub.cons h.2.2.2.2.1 (sub.cons h.2.2.2.2.2.1 (sub.cons h.2.2.2.2.2.2.1 (sub.cons h.2.2.2.2.2.2.2.1 (sub.cons h.2.2.2.2.2.2.2.2.1 (sub.cons h.2.2.2.2.2.2.2.2.2.1 (sub.cons h.2.2.2.2.2.2.2.2.2.2.1 (sub.cons h.2.2.2.2.2.2.2.2.2.2.2.1 (sub.cons h.2.2.2.2.2.2.2.2.2.2.2.2 (sub.nil)))))))))))))
theorem xc {f:FuncId} {xs:List Operand} {ts:Array TypeId} {vs:List Value} (hf:ev e x=some (.func (.func f) #[] #[])) (hs:evs e xs=some vs) (hc:callable P f=true):∀a,Ok n e a->(execOp a.eval ⟨od,.call ⟨.value x,xs.toArray,ts⟩,ty,pos,af,og⟩).run P w= .ok (.enter f vs.toArray) w:=fun a ha=>aDm (ha.ev hf) (ha.evs hs) hc
theorem sc {f:FuncId} {xs:List Operand} {ts:Array TypeId} {vs:List Value} {K:Value->World->Prop} (hf:ev e x=some (.func (.func f) #[] #[])) (hs:evs e xs=some vs) (hc:callable P f=true) (H:Calls P f vs.toArray w (aS K)) (h:∀v w',K v w'->SL P ops Q rest n ((d,v)::e) w') (hlt:Nat.blt d n=true:=by rfl):SL P ops Q (⟨some d,.call ⟨.value x,xs.toArray,ts⟩,ty,pos,af,none⟩::rest) n e w:=uU rfl hlt (aF rfl) (xc hf hs hc) H h
theorem xb {b:Builtin} {xs:List Operand} {ts:Array TypeId} {vs:List Value} (hx:evs e xs=some vs) (hs:∀cs,(builtin b ts ty cs vs.toArray).run P w= .ok (.value u) w'):∀a,Ok n e a->(execOp a.eval ⟨od,.call ⟨.builtin b,xs.toArray,ts⟩,ty,pos,af,og⟩).run P w= .ok (.value u) w':=fun a ha=>Zd (ha.evs hx) hs
theorem xe {i:Nat} {vs:List Value} (hx:ev e x=some (.tuple vs.toArray)) (hi:vs[i]? =some u):∀a,Ok n e a->(execOp a.eval ⟨od,.extract x i,ty,pos,af,og⟩).run P w= .ok (.value u) w:=fun a ha=>Hy (ha.ev hx) hi
theorem xs {t:TypeId} (hx:ev e x=some v) (hy:ev e y=some u) (hs:(Instr.storeAt t v u).run P w= .ok () w'):∀a,Ok n e a->(execOp a.eval ⟨od,.store t x y,ty,pos,af,og⟩).run P w= .ok .skip w':=fun a ha=>aJa (ha.ev hx) (ha.ev hy) hs
theorem xt {p:Prop} [Decidable p] (hx:ev e x=some (.bool (decide p))) (h:p):∀a,Ok n e a->(execOp a.eval ⟨od,.move x,ty,pos,af,og⟩).run P w= .ok (.value (.bool true)) w:=fun a ha=>o_t (eU (ha.ev hx)) h
theorem xf {p:Prop} [Decidable p] (hx:ev e x=some (.bool (decide p))) (h:¬p):∀a,Ok n e a->(execOp a.eval ⟨od,.move x,ty,pos,af,og⟩).run P w= .ok (.value (.bool false)) w:=fun a ha=>o_f (eU (ha.ev hx)) h
theorem xu {op:UnOp} {t:TypeId} (hx:ev e x=some v) (hs:(Op.unary op v).run P w= .ok u w):∀a,Ok n e a->(execOp a.eval ⟨od,.unOp op t x,ty,pos,af,og⟩).run P w= .ok (.value u) w:=fun a ha=>aCu (ha.ev hx) hs
theorem xp {t:TypeId} {ps:List (Nat×Operand)} {qs:List (Nat×Value)} (u:Value) (hx:aA3 e ps=some qs) (hs:(Instr.build t qs.toArray).run P w= .ok u w:=by kernel_rfl):∀a,Ok n e a->(execOp a.eval ⟨od,.build t ps.toArray,ty,pos,af,og⟩).run P w= .ok (.value u) w:=fun a ha=>aJg (ha.aA3 hx) hs
theorem xl {t:TypeId} {l:Nat} {ps:List (Nat×Operand)} {qs:List (Nat×Value)} (k c:Nat) (ob:Obj) (hx:aA3 e ps=some qs) (hs:(Instr.buildSlice t l qs.toArray).run P w= .ok (.slice (some ⟨w.heap.size,0,none⟩) k c) (w.alloc ob):=by kernel_rfl):∀a,Ok n e a->(execOp a.eval ⟨od,.buildSlice t l ps.toArray,ty,pos,af,og⟩).run P w= .ok (.value (.slice (some ⟨w.heap.size,0,none⟩) k c)) (w.alloc ob):=fun a ha=>aCv (ha.aA3 hx) hs
theorem sz {oi:Oper} {k c:Nat} {ob:Obj} (hd:oi.dst=some d) (hg:oi.guard=none) (hr:∀a,Ok n e a->(execOp a.eval oi).run P w= .ok (.value (.slice (some ⟨w.heap.size,0,none⟩) k c)) (w.alloc ob)) (h:∀p w',New w ob p w'->SL P ops Q rest n ((d,.slice (some p) k c)::e) w') (hlt:Nat.blt d n=true:=by rfl):SL P ops Q (oi::rest) n e w:=fM (f:=fun p=> .slice (some p) k c) hd hlt (aF hg) hr h
end
end Wk
open Wk
def zH (k1:Nat) (I1:Nat->Int->Prop) (x1:Int) (c1:Nat) (K:Option Addr->Nat->Nat->World->Prop) (A1:Option Addr) (w:World) (b1:Bool):Prop:=
 (b1=true->(∃k2,k2<k1/\I1 k2 (IntKind.wrap .i64 (x1-1))))/\(b1=false->(0<=x1/\x1<=(c1:Int)/\K A1 x1.toNat c1 w))
def Sz (A1:Option Addr) (n1 c1:Nat) (K:Option Addr->Nat->Nat->World->Prop) (w:World):Prop:=
 ∃I1:Nat->Int->Prop,(∃k1,I1 k1 (n1:Int))/\∀k1 (x1:Int),I1 k1 x1->((0<x1->(0<=IntKind.wrap .i64 (x1-1)/\IntKind.wrap .i64 (x1-1)<(n1:Int)/\∃a1,A1=some a1/\∃x2,w.cell? (a1.add ((IntKind.wrap .i64 (x1-1)).toNat*1))=some (.int .u32 x2)/\(zH k1 I1 x1 c1 K A1 w) (decide (x2=0))))/\(¬(0<x1)->((zH k1 I1 x1 c1 K A1 w) false)))
theorem aEe (A1:Option Addr) (n1 c1:Nat) (K:Option Addr->Nat->Nat->World->Prop) (w:World) (H:Sz A1 n1 c1 K w):Calls P F.Ag #[.slice A1 n1 c1] w (aS fun v w'=>∃A2 n2 c2,v=(.slice A2 n2 c2)/\K A2 n2 c2 w'):=by
 unfold Sz at H;refine aY (P:=P) Tryz.func191 rfl [(0,.slice A1 n1 c1)] 21 rfl rfl (fun p hp=>by rcases List.mem_singleton.1 hp with rfl;rfl) (aB (aA (ag rfl (aC (nc (kp 0 rfl zz) (aB (aA (mv rfl (sv rfl rfl (xb rfl (fun _=>bD TF.aU)) (ag rfl (aC (nc (y2 0 3 rfl) (aB (aV ?_))))))))))))));obtain⟨I1,⟨k1,hi⟩,H⟩:=H;refine lC (fun k1 a=>∃x1,Ok 21 [(0,.slice A1 n1 c1),(3,.int .i64 x1)] a/\I1 k1 x1) (fun a ha=>⟨k1,(n1:Int),ha.weaken cs,hi⟩) ?_;rintro k1 a ⟨x1,ha,hI⟩;replace H:=H k1 x1 hI;refine cu ha ?_;refine aB ?_;refine bK (fun a=>∃b1,Ok 21 [(0,.slice A1 n1 c1),(3,.int .i64 x1),(15,.bool b1)] a/\zH k1 I1 x1 c1 K A1 w b1) ?_ ?_
 ·rintro a ⟨b1,ha,H⟩;unfold zH at H;refine cu ha ?_;refine dG rfl (fun hb=> ?_) (fun hb=> ?_)
  ·replace H:=H.1 hb;refine aN (nc (y2 0 3 rfl) (aV (aA (mv rfl (bo rfl rfl jB (ag rfl (aC (bQ ?_))))))));obtain⟨k2,hk,H⟩:=H;exact aT fun a ha=>⟨k2,hk,⟨IntKind.wrap .i64 (x1-1),ha.weaken cs,H⟩,rfl⟩
  ·replace H:=H.2 hb;refine bW (aH (aH (aZ (nc (y2 0 3 rfl) (aB (aA (mv rfl (mv rfl ?_))))))));obtain⟨h4,h5,H⟩:=H;exact sv rfl rfl (fun a ha=>qR (ha.ev rfl) rfl (qA (ha.ev rfl)) rfl (Ht TF.bJ TF.bH h4 h5)) (ag rfl (aC (nc (kp 2 rfl zz) (aW (aG (res1 rfl rfl) ⟨_,rfl,_,_,_,rfl,H⟩)))))
 ·refine aA (mv rfl (bo rfl rfl kF ?_));rcases Classical.em (0<x1) with hb|hb
  ·replace H:=H.1 hb;refine sv rfl rfl (xt rfl hb) (Kw rfl rfl rfl (Kw rfl rfl rfl (Uu rfl rfl rfl rfl jB ?_)));obtain⟨h1,h2,a1,e1,H⟩:=H;refine ixg rfl rfl rfl rfl (bG TF.bJ TF.bH e1 h1 h2) ?_;obtain⟨x2,h3,H⟩:=H;exact ldg rfl rfl rfl (aJ TF.dA h3) (Uu rfl rfl rfl rfl nN (pt rfl rfl (aC (aT fun a ha=>⟨⟨(decide (x2=0)),ha.weaken cs,H⟩,rfl⟩))))
  ·replace H:=H.2 hb;exact sv rfl rfl (xf rfl hb) (sk rfl rfl rfl rfl (sk rfl rfl rfl rfl (sk rfl rfl rfl rfl (sk rfl rfl rfl rfl (sk rfl rfl rfl rfl (sk rfl rfl rfl rfl (pf rfl rfl (aC (aT fun a ha=>⟨⟨false,ha.weaken cs,H⟩,rfl⟩)))))))))
def aA5 (K:Option Addr->Nat->Nat->World->Prop) (w:World):Prop:=
 ∀(p1:Addr) (w1:World),New w (.cells #[.int .u32 1] T.uint32) p1 w1->(K (some p1) 1 1 w1)
theorem aFa (K:Option Addr->Nat->Nat->World->Prop) (w:World) (H:aA5 K w):Calls P F.Uo #[] w (aS fun v w'=>∃A1 n1 c1,v=(.slice A1 n1 c1)/\K A1 n1 c1 w'):=by
 unfold aA5 at H;refine aY (P:=P) Tryz.func192 rfl [] 2 rfl rfl (fun p hp=>by cases hp) (aB (aA (ag rfl (aC (nc zz (aB (aA (sz rfl rfl (xl 1 1 (.cells #[.int .u32 1] T.uint32) rfl) ?_))))))));intro p1 w1 hN;replace H:=H _ _ hN;exact ag rfl (aC (nc (kp 0 rfl zz) (aW (aG (res1 rfl rfl) ⟨_,rfl,_,_,_,rfl,H⟩))))
def Oi (x1:Int) (K:Option Addr->Nat->Nat->World->Prop) (w:World):Prop:=
 ∃I1:Nat->Int->Option Addr->Nat->Nat->World->Prop,(∃k1,I1 k1 x1 none 0 0 w)/\∀k1 (x2:Int) (A2:Option Addr) (n2 c2:Nat) (w1:World),I1 k1 x2 A2 n2 c2 w1->((0<x2->(∀(p1:Addr) (w2:World),New w1 (.cells #[.int .u32 (IntKind.wrap .u32 (Int.tmod x2 1000000000))] T.uint32) p1 w2->(∃(A3:Option Addr) (n3 c3:Nat) (w3:World),(Builtin.append_ #[T.dH,T.dH] T.dH #[.slice A2 n2 c2,.slice (some p1) 1 1]).run P w2= .ok (.slice A3 n3 c3) w3/\(∃k2,k2<k1/\I1 k2 (IntKind.wrap .u64 (Int.tdiv x2 1000000000)) A3 n3 c3 w3))))/\(¬(0<x2)->(K A2 n2 c2 w1)))
theorem aC2 (x1:Int) (K:Option Addr->Nat->Nat->World->Prop) (w:World) (H:Oi x1 K w):Calls P F.rO #[.int .u64 x1] w (aS fun v w'=>∃A1 n1 c1,v=(.slice A1 n1 c1)/\K A1 n1 c1 w'):=by
 unfold Oi at H;refine aY (P:=P) Tryz.func209 rfl [(0,.int .u64 x1)] 15 rfl rfl (fun p hp=>by rcases List.mem_singleton.1 hp with rfl;rfl) (aB (aA (ag rfl (aC (nc (kp 0 rfl zz) (aB (aA (ag rfl (aC (nc (y2 0 3 rfl) (aB (aV ?_))))))))))));obtain⟨I1,⟨k1,hi⟩,H⟩:=H;refine dM (fun k1 a w'=>∃x2,∃A2 n2 c2,Ok 15 [(0,.int .u64 x2),(3,.slice A2 n2 c2)] a/\I1 k1 x2 A2 n2 c2 w') (fun a ha=>⟨k1,x1,none,0,0,ha.weaken cs,hi⟩) ?_;rintro k1 a w1 ⟨x2,A2,n2,c2,ha,hI⟩;replace H:=H k1 x2 A2 n2 c2 w1 hI;refine cu ha ?_;refine aB (aB (aA (mv rfl (bo rfl rfl kF (aC (nc (y3 0 3 5 rfl) ?_))))));refine aK rfl (fun hb=> ?_) (fun hb=> ?_)
 ·replace H:=H.1 hb;refine aN (nc (y2 0 3 rfl) (aB (aV (aA (mv rfl (mv rfl (bo rfl rfl (Gt (by decide)) (sv rfl rfl (fun a ha=>dB (ha.ev rfl) (iC TF.dO TF.dL)) (sz rfl rfl (xl 1 1 (.cells #[.int .u32 (IntKind.wrap .u32 (Int.tmod x2 1000000000))] T.uint32) rfl) ?_)))))))));intro p1 w2 hN;obtain⟨A3,n3,c3,w3,h1,H⟩:=H _ _ hN;refine sv rfl rfl (xb rfl (fun _=>kG h1)) (ag rfl (aC (bQ (nc (y2 0 3 rfl) (aA (mv rfl (bo rfl rfl (Ai (by decide)) (ag rfl (aC ?_)))))))));obtain⟨k2,hk,H⟩:=H;exact aT fun a ha=>⟨k2,hk,IntKind.wrap .u64 (Int.tdiv x2 1000000000),A3,n3,c3,ha.weaken cs,H⟩
 ·replace H:=H.2 hb;exact bW (aH (aH (aZ (nc (kp 3 rfl zz) (aB (aA (mv rfl (ag rfl (aC (nc (kp 2 rfl zz) (aW (aG (res1 rfl rfl) ⟨_,rfl,_,_,_,rfl,H⟩))))))))))))
def Bz (A1:Option Addr) (n1 c1:Nat) (K:Int->Bool->World->Prop) (w:World):Prop:=
 ((n1:Int)=0->(K 0 true w))/\(¬((n1:Int)=0)->(((n1:Int)=1->(0<=(0:Int)/\(0:Int)<(n1:Int)/\∃a1,A1=some a1/\∃x2,w.cell? (a1.add ((0:Int).toNat*1))=some (.int .u32 x2)/\K (IntKind.wrap .u64 x2) true w))/\(¬((n1:Int)=1)->(((n1:Int)=2->(0<=(1:Int)/\(1:Int)<(n1:Int)/\∃a2,A1=some a2/\∃x3,w.cell? (a2.add ((1:Int).toNat*1))=some (.int .u32 x3)/\0<=(0:Int)/\(0:Int)<(n1:Int)/\∃a3,A1=some a3/\∃x4,w.cell? (a3.add ((0:Int).toNat*1))=some (.int .u32 x4)/\∀w1,aP w w1->(K (IntKind.wrap .u64 ((IntKind.wrap .u64 ((IntKind.wrap .u64 x3)*1000000000))+(IntKind.wrap .u64 x4))) true w1)))/\(¬((n1:Int)=2)->(K 0 false w))))))
theorem Zt (A1:Option Addr) (n1 c1:Nat) (K:Int->Bool->World->Prop) (w:World) (H:Bz A1 n1 c1 K w):Calls P F.qJ #[.slice A1 n1 c1] w (aS fun v w'=>∃x1,∃b1,v=(.tuple #[.int .u64 x1,.bool b1])/\K x1 b1 w'):=by
 unfold Bz at H;refine aY (P:=P) Tryz.func220 rfl [(0,.slice A1 n1 c1)] 26 rfl rfl (fun p hp=>by rcases List.mem_singleton.1 hp with rfl;rfl) (aB (aA (ag rfl (ag rfl (aC (nc (kp 0 rfl zz) (aB (aB (aA (mv rfl (sv rfl rfl (xb rfl (fun _=>bD TF.aU)) (aC (nc (y2 0 5 rfl) (aV (aB (aA (bo rfl rfl nN (ag rfl (aC (nc (y3 0 5 6 rfl) ?_))))))))))))))))))));refine aK rfl (fun hb=> ?_) (fun hb=> ?_)
 ·replace H:=H.1 hb;exact aB (aA (ag rfl (ag rfl (aC (nc (y2 2 3 rfl) (aW (bF (aI (aG (wF rfl rfl rfl) ⟨_,rfl,_,_,rfl,H⟩)))))))))
 ·replace H:=H.2 hb;refine aB (aA (bo rfl rfl nN (ag rfl (aC (nc (y3 0 5 8 rfl) ?_)))));refine aK rfl (fun hb=> ?_) (fun hb=> ?_)
  ·replace H:=H.1 hb;refine aB (aA (mv rfl ?_));obtain⟨h1,h2,a1,e1,H⟩:=H;refine ix rfl rfl (bG TF.bJ TF.bH e1 h1 h2) ?_;obtain⟨x2,h3,H⟩:=H;exact ld rfl (aJ TF.dA h3) (sv rfl rfl (fun a ha=>dB (ha.ev rfl) (iC TF.dL TF.dO)) (ag rfl (ag rfl (aC (nc (y2 2 3 rfl) (aW (bF (aI (aG (wF rfl rfl rfl) ⟨_,rfl,_,_,rfl,H⟩)))))))))
  ·replace H:=H.2 hb;refine aB (aA (bo rfl rfl nN (ag rfl (aC (nc (y2 0 14 rfl) ?_)))));refine aK rfl (fun hb=> ?_) (fun hb=> ?_)
   ·replace H:=H.1 hb;refine aB ?_;refine dW follows [0,1,2,3,4,5,6,7,8,9,10,11] [2,7] 12 rfl rfl (by kernel_rfl) (fun _ _ d _ _ h=>by cases d<;>exact h) (fun cm W D=> ?_);refine lU 0 cm rfl rfl D W fun _ D W=> ?_;obtain⟨h4,h5,a2,e2,H⟩:=H;refine Vu 1 cm rfl rfl rfl (bG TF.bJ TF.bH e2 h4 h5) D W fun _ D W=> ?_;obtain⟨x3,h6,H⟩:=H;refine vl 2 cm rfl rfl (fun hw=>(aJ TF.dA ((hw.cell _).trans h6))) D W fun _ D W=>(pv 3 cm rfl rfl rfl (fun w' a ha=>dB (ha.ev rfl) (iC TF.dL TF.dO)) D W fun _ D W=>(pv 4 cm rfl rfl rfl (fun w' a ha=>dK (ha.ev rfl) (ha.ev rfl) Aq) D W fun _ D W=>(lU 5 cm rfl rfl D W fun _ D W=> ?_)));obtain⟨h7,h8,a3,e3,H⟩:=H;refine Vu 6 cm rfl rfl rfl (bG TF.bJ TF.bH e3 h7 h8) D W fun _ D W=> ?_;obtain⟨x4,h9,H⟩:=H;refine vl 7 cm rfl rfl (fun hw=>(aJ TF.dA ((hw.cell _).trans h9))) D W fun _ D W=>(Ji 8 cm rfl rfl rfl (fun w' a ha=>dB (ha.ev rfl) (iC TF.dL TF.dO)) D fun _ D=>(Ji 9 cm rfl rfl rfl (fun w' a ha=>dK (ha.ev rfl) (ha.ev rfl) dJ) D fun _ D=>(vP 10 cm rfl rfl D fun _ D=>(vP 11 cm rfl rfl D fun _ D=>(dU (by kernel_rfl) D ?_)))));intro w1 D;replace H:=H _ D;clear D cm;exact nc (y2 2 3 rfl) (aW (bF (aI (aG (wF rfl rfl rfl) ⟨_,rfl,_,_,rfl,H⟩))))
   ·replace H:=H.2 hb;exact aN (bQ (nc zz (aB (aA (ag rfl (ag rfl (aC (nc (y2 2 3 rfl) (aW (aG (wF rfl rfl rfl) ⟨_,rfl,_,_,rfl,H⟩))))))))))
def Iw (A1:Option Addr) (n1 c1:Nat) (A2:Option Addr) (n2 c2:Nat) (K:Int->World->Prop) (w:World):Prop:=
 ((n1:Int)≠(n2:Int)->(((n1:Int)<(n2:Int)->(K (-1) w))/\(¬((n1:Int)<(n2:Int))->(K 1 w))))/\(¬((n1:Int)≠(n2:Int))->(∃I1:Nat->Int->World->Prop,(∃k1,I1 k1 (IntKind.wrap .i64 ((n1:Int)-1)) w)/\∀k1 (x2:Int) (w1:World),I1 k1 x2 w1->((0<=x2->(0<=x2/\x2<(n1:Int)/\∃a1,A1=some a1/\∃x3,w1.cell? (a1.add (x2.toNat*1))=some (.int .u32 x3)/\0<=x2/\x2<(n2:Int)/\∃a2,A2=some a2/\∃x4,w1.cell? (a2.add (x2.toNat*1))=some (.int .u32 x4)/\∀w2,aP w1 w2->((x3<x4->(K (-1) w2))/\(¬(x3<x4)->(0<=x2/\x2<(n1:Int)/\∃a3,A1=some a3/\∃x5,w2.cell? (a3.add (x2.toNat*1))=some (.int .u32 x5)/\0<=x2/\x2<(n2:Int)/\∃a4,A2=some a4/\∃x6,w2.cell? (a4.add (x2.toNat*1))=some (.int .u32 x6)/\∀w3,aP w2 w3->((x6<x5->(K 1 w3))/\(¬(x6<x5)->(∃k2,k2<k1/\I1 k2 (IntKind.wrap .i64 (x2-1)) w3))))))))/\(¬(0<=x2)->(K 0 w1)))))
theorem aBy (A1:Option Addr) (n1 c1:Nat) (A2:Option Addr) (n2 c2:Nat) (K:Int->World->Prop) (w:World) (H:Iw A1 n1 c1 A2 n2 c2 K w):Calls P F.yQ #[.slice A1 n1 c1,.slice A2 n2 c2] w (aS fun v w'=>∃x1,v=(.int .i64 x1)/\K x1 w'):=by
 unfold Iw at H;refine aY (P:=P) Tryz.func152 rfl [(0,.slice A1 n1 c1),(1,.slice A2 n2 c2)] 43 rfl rfl (aa rfl (aa rfl az)) (aB (aA (ag rfl (aC (nc (y2 0 1 rfl) (aB (aB (aA (mv rfl (sv rfl rfl (xb rfl (fun _=>bD TF.aU)) (mv rfl (sv rfl rfl (xb rfl (fun _=>bD TF.aU)) (bo rfl rfl zC (aC (nc (y3 0 1 10 rfl) ?_)))))))))))))));refine aK rfl (fun hb=> ?_) (fun hb=> ?_)
 ·replace H:=H.1 hb;refine aB (aB (aA (mv rfl (sv rfl rfl (xb rfl (fun _=>bD TF.aU)) (mv rfl (sv rfl rfl (xb rfl (fun _=>bD TF.aU)) (bo rfl rfl fO (aC (nc (kp 15 rfl zz) ?_)))))))));refine aK rfl (fun hb=> ?_) (fun hb=> ?_)
  ·replace H:=H.1 hb;exact aB (aA (ag rfl (aC (nc (kp 4 rfl zz) (aW (aI (aI (aG (res1 rfl rfl) ⟨_,rfl,_,rfl,H⟩))))))))
  ·replace H:=H.2 hb;exact aN (nc zz (aB (aA (ag rfl (aC (nc (kp 4 rfl zz) (aW (aI (aG (res1 rfl rfl) ⟨_,rfl,_,rfl,H⟩)))))))))
 ·replace H:=H.2 hb;refine aN (nc (y2 0 1 rfl) (aB (aB (aA (mv rfl (sv rfl rfl (xb rfl (fun _=>bD TF.aU)) (bo rfl rfl jB (ag rfl (aC (nc (y3 0 1 5 rfl) (aV ?_)))))))))));obtain⟨I1,⟨k1,hi⟩,H⟩:=H;refine dM (fun k1 a w'=>∃x2,Ok 43 [(0,.slice A1 n1 c1),(1,.slice A2 n2 c2),(5,.int .i64 x2)] a/\I1 k1 x2 w') (fun a ha=>⟨k1,IntKind.wrap .i64 ((n1:Int)-1),ha.weaken cs,hi⟩) ?_;rintro k1 a w1 ⟨x2,ha,hI⟩;replace H:=H k1 x2 w1 hI;refine cu ha ?_;refine aB (aB (aA (mv rfl (bo rfl rfl Nr (aC (nc (y4 0 1 5 20 rfl) ?_))))));refine aK rfl (fun hb=> ?_) (fun hb=> ?_)
  ·replace H:=H.1 hb;refine aN (nc (y3 0 1 5 rfl) (aB (aV (aV (aB ?_)))));refine dW follows [0,1,2,3,4,5,6,7,8,9] [3,7] 10 rfl rfl (by kernel_rfl) (fun _ _ d _ _ h=>by cases d<;>exact h) (fun cm W D=> ?_);refine lU 0 cm rfl rfl D W fun _ D W=>(lU 1 cm rfl rfl D W fun _ D W=> ?_);obtain⟨h1,h2,a1,e1,H⟩:=H;refine Vu 2 cm rfl rfl rfl (bG TF.bJ TF.bH e1 h1 h2) D W fun _ D W=> ?_;obtain⟨x3,h3,H⟩:=H;refine vl 3 cm rfl rfl (fun hw=>(aJ TF.dA ((hw.cell _).trans h3))) D W fun _ D W=>(lU 4 cm rfl rfl D W fun _ D W=>(lU 5 cm rfl rfl D W fun _ D W=> ?_));obtain⟨h4,h5,a2,e2,H⟩:=H;refine Vu 6 cm rfl rfl rfl (bG TF.bJ TF.bH e2 h4 h5) D W fun _ D W=> ?_;obtain⟨x4,h6,H⟩:=H;refine vl 7 cm rfl rfl (fun hw=>(aJ TF.dA ((hw.cell _).trans h6))) D W fun _ D W=>(Ji 8 cm rfl rfl rfl (fun w' a ha=>dK (ha.ev rfl) (ha.ev rfl) fO) D fun _ D=>(vP 9 cm rfl rfl D fun _ D=>(dU (by kernel_rfl) D ?_)));intro w2 D;replace H:=H _ D;clear D cm;refine nc (y4 0 1 5 23 rfl) ?_;refine aK rfl (fun hb=> ?_) (fun hb=> ?_)
   ·replace H:=H.1 hb;exact aB (aA (ag rfl (aC (nc (kp 4 rfl zz) (aW (bF (bF (aI (aI (bF (aI (aG (res1 rfl rfl) ⟨_,rfl,_,rfl,H⟩))))))))))))
   ·replace H:=H.2 hb;refine aB ?_;refine dW follows [0,1,2,3,4,5,6,7,8,9] [3,7] 10 rfl rfl (by kernel_rfl) (fun _ _ d _ _ h=>by cases d<;>exact h) (fun cm W D=> ?_);refine lU 0 cm rfl rfl D W fun _ D W=>(lU 1 cm rfl rfl D W fun _ D W=> ?_);obtain⟨h7,h8,a3,e3,H⟩:=H;refine Vu 2 cm rfl rfl rfl (bG TF.bJ TF.bH e3 h7 h8) D W fun _ D W=> ?_;obtain⟨x5,h9,H⟩:=H;refine vl 3 cm rfl rfl (fun hw=>(aJ TF.dA ((hw.cell _).trans h9))) D W fun _ D W=>(lU 4 cm rfl rfl D W fun _ D W=>(lU 5 cm rfl rfl D W fun _ D W=> ?_));obtain⟨h10,h11,a4,e4,H⟩:=H;refine Vu 6 cm rfl rfl rfl (bG TF.bJ TF.bH e4 h10 h11) D W fun _ D W=> ?_;obtain⟨x6,h12,H⟩:=H;refine vl 7 cm rfl rfl (fun hw=>(aJ TF.dA ((hw.cell _).trans h12))) D W fun _ D W=>(Ji 8 cm rfl rfl rfl (fun w' a ha=>dK (ha.ev rfl) (ha.ev rfl) kF) D fun _ D=>(vP 9 cm rfl rfl D fun _ D=>(dU (by kernel_rfl) D ?_)));intro w3 D;replace H:=H _ D;clear D cm;refine nc (y4 0 1 5 33 rfl) ?_;refine aK rfl (fun hb=> ?_) (fun hb=> ?_)
    ·replace H:=H.1 hb;exact aB (aA (ag rfl (aC (nc (kp 4 rfl zz) (aW (bF (bF (aI (aI (bF (aI (aG (res1 rfl rfl) ⟨_,rfl,_,rfl,H⟩))))))))))))
    ·replace H:=H.2 hb;refine aN (bQ (bQ (nc (y3 0 1 5 rfl) (aA (mv rfl (bo rfl rfl jB (ag rfl (aC ?_))))))));obtain⟨k2,hk,H⟩:=H;exact aT fun a ha=>⟨k2,hk,IntKind.wrap .i64 (x2-1),ha.weaken cs,H⟩
  ·replace H:=H.2 hb;exact bW (aH (aH (aZ (nc zz (aB (aA (ag rfl (aC (nc (kp 4 rfl zz) (aW (aG (res1 rfl rfl) ⟨_,rfl,_,rfl,H⟩)))))))))))
def nZ (w2:World) (A7:Option Addr) (n7 c7:Nat) (k1:Nat) (I1:Nat->Option Addr->Nat->Nat->Int->Int->World->Prop) (x2:Int) (x6:Int) (x7:Int):Prop:=
 ∀(p1:Addr) (w3:World),New w2 (.cells #[.int .u32 x7] T.uint32) p1 w3->(∃(A8:Option Addr) (n8 c8:Nat) (w4:World),(Builtin.append_ #[T.dH,T.dH] T.dH #[.slice A7 n7 c7,.slice (some p1) 1 1]).run P w3= .ok (.slice A8 n8 c8) w4/\(∃k2,k2<k1/\I1 k2 A8 n8 c8 x6 (IntKind.wrap .i64 (x2+1)) w4))
def oD (w2:World) (A7:Option Addr) (n7 c7:Nat) (k1:Nat) (I1:Nat->Option Addr->Nat->Nat->Int->Int->World->Prop) (x2:Int) (x5:Int):Prop:=
 (1000000000<=x5->((nZ w2 A7 n7 c7 k1 I1 x2) 1 (IntKind.wrap .u32 (x5-1000000000))))/\(¬(1000000000<=x5)->((nZ w2 A7 n7 c7 k1 I1 x2) 0 x5))
def sG (K:Option Addr->Nat->Nat->World->Prop) (A10:Option Addr) (n10 c10:Nat) (w7:World):Prop:=
 K A10 n10 c10 w7
def kR (w:World) (K:Option Addr->Nat->Nat->World->Prop) (A4:Option Addr) (n4 c4:Nat) (A5:Option Addr) (n5 c5:Nat):Prop:=
 ∃(A6:Option Addr) (n6 c6:Nat) (w1:World),(Instr.makeSlice T.dH (.int .i64 0) (.int .i64 (IntKind.wrap .i64 ((n4:Int)+1)))).run P w= .ok (.slice A6 n6 c6) w1/\(∃I1:Nat->Option Addr->Nat->Nat->Int->Int->World->Prop,(∃k1,I1 k1 A6 n6 c6 0 0 w1)/\∀k1 (A7:Option Addr) (n7 c7:Nat) (x1:Int) (x2:Int) (w2:World),I1 k1 A7 n7 c7 x1 x2 w2->((x2<(n4:Int)->(0<=x2/\x2<(n4:Int)/\∃a1,A4=some a1/\∃x3,w2.cell? (a1.add (x2.toNat*1))=some (.int .u32 x3)/\(x2<(n5:Int)->(0<=x2/\x2<(n5:Int)/\∃a2,A5=some a2/\∃x4,w2.cell? (a2.add (x2.toNat*1))=some (.int .u32 x4)/\(oD w2 A7 n7 c7 k1 I1 x2) (IntKind.wrap .u32 ((IntKind.wrap .u32 (x3+x1))+x4))))/\(¬(x2<(n5:Int))->((oD w2 A7 n7 c7 k1 I1 x2) (IntKind.wrap .u32 (x3+x1))))))/\(¬(x2<(n4:Int))->((0<x1->(∀(p2:Addr) (w5:World),New w2 (.cells #[.int .u32 x1] T.uint32) p2 w5->(∃(A9:Option Addr) (n9 c9:Nat) (w6:World),(Builtin.append_ #[T.dH,T.dH] T.dH #[.slice A7 n7 c7,.slice (some p2) 1 1]).run P w5= .ok (.slice A9 n9 c9) w6/\((sG K) A9 n9 c9 w6))))/\(¬(0<x1)->((sG K) A7 n7 c7 w2))))))
def Qg (A1:Option Addr) (n1 c1:Nat) (A2:Option Addr) (n2 c2:Nat) (K:Option Addr->Nat->Nat->World->Prop) (w:World):Prop:=
 ((n1:Int)<(n2:Int)->((kR w K) A2 n2 c2 A1 n1 c1))/\(¬((n1:Int)<(n2:Int))->((kR w K) A1 n1 c1 A2 n2 c2))
theorem aAi (A1:Option Addr) (n1 c1:Nat) (A2:Option Addr) (n2 c2:Nat) (K:Option Addr->Nat->Nat->World->Prop) (w:World) (H:Qg A1 n1 c1 A2 n2 c2 K w):Calls P F.Gx #[.slice A1 n1 c1,.slice A2 n2 c2] w (aS fun v w'=>∃A3 n3 c3,v=(.slice A3 n3 c3)/\K A3 n3 c3 w'):=by
 unfold Qg at H;refine aY (P:=P) Tryz.func215 rfl [(0,.slice A1 n1 c1),(1,.slice A2 n2 c2)] 56 rfl rfl (aa rfl (aa rfl az)) (aB (aA (ag rfl (aC (nc (y2 0 1 rfl) ?_)))));refine bK (fun a=>∃A4 n4 c4,∃A5 n5 c5,Ok 56 [(0,.slice A4 n4 c4),(1,.slice A5 n5 c5)] a/\kR w K A4 n4 c4 A5 n5 c5) ?_ ?_
 ·rintro a ⟨A4,n4,c4,A5,n5,c5,ha,H⟩;unfold kR at H;refine cu ha ?_;refine aB (aA (mv rfl (sv rfl rfl (xb rfl (fun _=>bD TF.aU)) (bo rfl rfl dJ ?_))));obtain⟨A6,n6,c6,w1,h1,H⟩:=H;refine sv rfl rfl (fun a ha=>gB (ha.ev rfl) (ha.ev rfl) h1) (ag rfl (aC (nc (y3 0 1 5 rfl) (aB (aA (ag rfl (aC (nc (y4 0 1 5 6 rfl) (aB (aB (aA (mv rfl (sv rfl rfl (xb rfl (fun _=>bD TF.aU)) (mv rfl (aC (nc (y6 1 5 6 20 21 22 rfl) (aV ?_)))))))))))))))));obtain⟨I1,⟨k1,hi⟩,H⟩:=H;refine dM (fun k1 a w'=>∃A7 n7 c7,∃x1,∃x2,Ok 56 [(1,.slice A5 n5 c5),(5,.slice A7 n7 c7),(6,.int .u32 x1),(20,.slice A4 n4 c4),(21,.int .i64 (n4:Int)),(22,.int .i64 x2)] a/\I1 k1 A7 n7 c7 x1 x2 w') (fun a ha=>⟨k1,A6,n6,c6,0,0,ha.weaken cs,hi⟩) ?_;rintro k1 a w2 ⟨A7,n7,c7,x1,x2,ha,hI⟩;replace H:=H k1 A7 n7 c7 x1 x2 w2 hI;refine cu ha ?_;refine aB (aA (bo rfl rfl fO (aC (nc (y7 1 5 6 20 21 22 23 rfl) (aB ?_)))));refine aK rfl (fun hb=> ?_) (fun hb=> ?_)
  ·replace H:=H.1 hb;refine aN (nc (y6 1 5 6 20 21 22 rfl) (aB (aV (aB (aA (mv rfl ?_))))));obtain⟨h2,h3,a1,e1,H⟩:=H;refine ix rfl rfl (bG TF.bJ TF.bH e1 h2 h3) ?_;obtain⟨x3,h4,H⟩:=H;refine ld rfl (aJ TF.dA h4) (ag rfl (ag rfl (aC (nc (y8 1 5 6 7 8 20 21 22 rfl) (aB (aA (mv rfl (mv rfl (bo rfl rfl dJ (ag rfl (aC (nc (y7 1 5 7 8 20 21 22 rfl) ?_))))))))))));refine bK (fun a=>∃x5,Ok 56 [(1,.slice A5 n5 c5),(5,.slice A7 n7 c7),(8,.int .u32 x5),(20,.slice A4 n4 c4),(21,.int .i64 (n4:Int)),(22,.int .i64 x2)] a/\oD w2 A7 n7 c7 k1 I1 x2 x5) ?_ ?_
   ·rintro a ⟨x5,ha,H⟩;unfold oD at H;refine cu ha ?_;refine aB (aA (ag rfl (aC (nc (y7 1 5 6 8 20 21 22 rfl) ?_))));refine bK (fun a=>∃x6,∃x7,Ok 56 [(1,.slice A5 n5 c5),(5,.slice A7 n7 c7),(6,.int .u32 x6),(8,.int .u32 x7),(20,.slice A4 n4 c4),(21,.int .i64 (n4:Int)),(22,.int .i64 x2)] a/\nZ w2 A7 n7 c7 k1 I1 x2 x6 x7) ?_ ?_
    ·rintro a ⟨x6,x7,ha,H⟩;unfold nZ at H;refine cu ha ?_;refine aA (mv rfl (mv rfl (sz rfl rfl (xl 1 1 (.cells #[.int .u32 x7] T.uint32) rfl) ?_)));intro p1 w3 hN;obtain⟨A8,n8,c8,w4,h8,H⟩:=H _ _ hN;refine sv rfl rfl (xb rfl (fun _=>kG h8)) (ag rfl (aC (bQ (nc (y6 1 5 6 20 21 22 rfl) (aA (bo rfl rfl dJ (mv rfl (aC ?_))))))));obtain⟨k2,hk,H⟩:=H;exact aT fun a ha=>⟨k2,hk,A8,n8,c8,x6,IntKind.wrap .i64 (x2+1),ha.weaken cs,H⟩
    ·refine aB (aA (mv rfl (bo rfl rfl Nr (aC (nc (y8 1 5 6 8 20 21 22 41 rfl) ?_)))));refine aK rfl (fun hb=> ?_) (fun hb=> ?_)
     ·replace H:=H.1 hb;exact aB (aA (mv rfl (bo rfl rfl jB (ag rfl (aC (nc (y6 1 5 8 20 21 22 rfl) (aA (ag rfl (aC (aT fun a ha=>⟨⟨1,IntKind.wrap .u32 (x5-1000000000),ha.weaken cs,H⟩,rfl⟩))))))))))
     ·replace H:=H.2 hb;exact aN (aT fun a ha=>⟨⟨0,x5,ha.weaken cs,H⟩,rfl⟩)
   ·refine aB (aA (mv rfl (mv rfl (sv rfl rfl (xb rfl (fun _=>bD TF.aU)) (bo rfl rfl fO (aC (nc (y8 1 5 7 8 20 21 22 33 rfl) ?_)))))));refine aK rfl (fun hb=> ?_) (fun hb=> ?_)
    ·replace H:=H.1 hb;refine aA (mv rfl (mv rfl (mv rfl ?_)));obtain⟨h5,h6,a2,e2,H⟩:=H;refine ix rfl rfl (bG TF.bJ TF.bH e2 h5 h6) ?_;obtain⟨x4,h7,H⟩:=H;exact ld rfl (aJ TF.dA h7) (bo rfl rfl dJ (ag rfl (aC (aT fun a ha=>⟨⟨IntKind.wrap .u32 ((IntKind.wrap .u32 (x3+x1))+x4),ha.weaken cs,H⟩,rfl⟩))))
    ·replace H:=H.2 hb;exact aN (aT fun a ha=>⟨⟨IntKind.wrap .u32 (x3+x1),ha.weaken cs,H⟩,rfl⟩)
  ·replace H:=H.2 hb;refine bW (aH (aH (aZ (nc (y2 5 6 rfl) ?_))));refine dI (fun a w=>∃A10 n10 c10,Ok 56 [(5,.slice A10 n10 c10)] a/\sG K A10 n10 c10 w) ?_ ?_
   ·rintro a w7 ⟨A10,n10,c10,ha,H⟩;unfold sG at H;refine cu ha ?_;exact aB (aA (mv rfl (ag rfl (aC (nc (kp 4 rfl zz) (aW (aG (res1 rfl rfl) ⟨_,rfl,_,_,_,rfl,H⟩)))))))
   ·refine aB (aA (mv rfl (bo rfl rfl kF (aC (nc (y3 5 6 50 rfl) ?_)))));refine aK rfl (fun hb=> ?_) (fun hb=> ?_)
    ·replace H:=H.1 hb;refine aA (mv rfl (mv rfl (sz rfl rfl (xl 1 1 (.cells #[.int .u32 x1] T.uint32) rfl) ?_)));intro p2 w5 hN;obtain⟨A9,n9,c9,w6,h9,H⟩:=H _ _ hN;exact sv rfl rfl (xb rfl (fun _=>kG h9)) (ag rfl (aC (aT fun a ha=>⟨A9,n9,c9,ha.weaken cs,H⟩)))
    ·replace H:=H.2 hb;exact aN (aT fun a ha=>⟨A7,n7,c7,ha.weaken cs,H⟩)
 ·refine aB (aA (mv rfl (sv rfl rfl (xb rfl (fun _=>bD TF.aU)) (mv rfl (sv rfl rfl (xb rfl (fun _=>bD TF.aU)) (bo rfl rfl fO (aC (nc (y3 0 1 13 rfl) ?_))))))));refine aK rfl (fun hb=> ?_) (fun hb=> ?_)
  ·replace H:=H.1 hb;exact aA (mv rfl (mv rfl (ag rfl (ag rfl (aC (aT fun a ha=>⟨⟨A2,n2,c2,A1,n1,c1,ha.weaken cs,H⟩,rfl⟩))))))
  ·replace H:=H.2 hb;exact aN (aT fun a ha=>⟨⟨A1,n1,c1,A2,n2,c2,ha.weaken cs,H⟩,rfl⟩)
def qP (x2:Int) (n4:Nat) (A4:Option Addr) (w2:World) (x5:Int) (k1:Nat) (I1:Nat->Int->Int->World->Prop) (x6:Int) (x7:Int):Prop:=
 0<=x2/\x2<(n4:Int)/\∃a3,A4=some a3/\(∃u1,w2.cell? (a3.add (x2.toNat*1))=some u1)/\w2.frozen? (a3.add (x2.toNat*1))=false/\∀w3,w3=w2.setCell (a3.add (x2.toNat*1)) (.int .u32 (IntKind.wrap .u32 (x7-x5)))->(∃k2,k2<k1/\I1 k2 x6 (IntKind.wrap .i64 (x2+1)) w3)
def mM (x3:Int) (x2:Int) (n4:Nat) (A4:Option Addr) (w2:World) (k1:Nat) (I1:Nat->Int->Int->World->Prop) (x5:Int):Prop:=
 (x3<x5->((qP x2 n4 A4 w2 x5 k1 I1) 1 (IntKind.wrap .u32 (x3+1000000000))))/\(¬(x3<x5)->((qP x2 n4 A4 w2 x5 k1 I1) 0 x3))
def Bo (A1:Option Addr) (n1 c1:Nat) (A2:Option Addr) (n2 c2:Nat) (K:Option Addr->Nat->Nat->World->Prop) (w:World):Prop:=
 ∃(A4:Option Addr) (n4 c4:Nat) (w1:World),(Instr.makeSlice T.dH (.int .i64 (n1:Int)) (.int .i64 (n1:Int))).run P w= .ok (.slice A4 n4 c4) w1/\(∃I1:Nat->Int->Int->World->Prop,(∃k1,I1 k1 0 0 w1)/\∀k1 (x1:Int) (x2:Int) (w2:World),I1 k1 x1 x2 w2->((x2<(n1:Int)->(0<=x2/\x2<(n1:Int)/\∃a1,A1=some a1/\∃x3,w2.cell? (a1.add (x2.toNat*1))=some (.int .u32 x3)/\(x2<(n2:Int)->(0<=x2/\x2<(n2:Int)/\∃a2,A2=some a2/\∃x4,w2.cell? (a2.add (x2.toNat*1))=some (.int .u32 x4)/\(mM x3 x2 n4 A4 w2 k1 I1) (IntKind.wrap .u32 (x1+x4))))/\(¬(x2<(n2:Int))->((mM x3 x2 n4 A4 w2 k1 I1) x1))))/\(¬(x2<(n1:Int))->(Calls P F.Ag #[.slice A4 n4 c4] w2 (aS fun v1 w4=>∃A5 n5 c5,v1=(.slice A5 n5 c5)/\K A5 n5 c5 w4)))))
theorem Zp (A1:Option Addr) (n1 c1:Nat) (A2:Option Addr) (n2 c2:Nat) (K:Option Addr->Nat->Nat->World->Prop) (w:World) (H:Bo A1 n1 c1 A2 n2 c2 K w):Calls P F.xJ #[.slice A1 n1 c1,.slice A2 n2 c2] w (aS fun v w'=>∃A3 n3 c3,v=(.slice A3 n3 c3)/\K A3 n3 c3 w'):=by
 unfold Bo at H;refine aY (P:=P) Tryz.func216 rfl [(0,.slice A1 n1 c1),(1,.slice A2 n2 c2)] 45 rfl rfl (aa rfl (aa rfl az)) (aB (aA (ag rfl (aC (nc (y2 0 1 rfl) (aB (aA (mv rfl (sv rfl rfl (xb rfl (fun _=>bD TF.aU)) ?_)))))))));obtain⟨A4,n4,c4,w1,h1,H⟩:=H;refine sv rfl rfl (fun a ha=>gB (ha.ev rfl) (ha.ev rfl) h1) (ag rfl (aC (nc (y3 0 1 5 rfl) (aB (aA (ag rfl (aC (nc (y4 0 1 5 6 rfl) (aB (aB (aA (mv rfl (sv rfl rfl (xb rfl (fun _=>bD TF.aU)) (mv rfl (aC (nc (y6 1 5 6 13 14 15 rfl) (aV ?_)))))))))))))))));obtain⟨I1,⟨k1,hi⟩,H⟩:=H;refine dM (fun k1 a w'=>∃x1,∃x2,Ok 45 [(1,.slice A2 n2 c2),(5,.slice A4 n4 c4),(6,.int .u32 x1),(13,.slice A1 n1 c1),(14,.int .i64 (n1:Int)),(15,.int .i64 x2)] a/\I1 k1 x1 x2 w') (fun a ha=>⟨k1,0,0,ha.weaken cs,hi⟩) ?_;rintro k1 a w2 ⟨x1,x2,ha,hI⟩;replace H:=H k1 x1 x2 w2 hI;refine cu ha ?_;refine aB (aA (bo rfl rfl fO (aC (nc (y7 1 5 6 13 14 15 16 rfl) (aB ?_)))));refine aK rfl (fun hb=> ?_) (fun hb=> ?_)
 ·replace H:=H.1 hb;refine aN (nc (y6 1 5 6 13 14 15 rfl) (aB (aV (aB (aA (mv rfl ?_))))));obtain⟨h2,h3,a1,e1,H⟩:=H;refine ix rfl rfl (bG TF.bJ TF.bH e1 h2 h3) ?_;obtain⟨x3,h4,H⟩:=H;refine ld rfl (aJ TF.dA h4) (ag rfl (ag rfl (aC (nc (y8 1 5 6 7 8 13 14 15 rfl) (aB (aA (mv rfl (ag rfl (aC (nc (y8 1 5 7 8 9 13 14 15 rfl) ?_))))))))));refine bK (fun a=>∃x5,Ok 45 [(1,.slice A2 n2 c2),(5,.slice A4 n4 c4),(7,.int .i64 x2),(8,.int .u32 x3),(9,.int .u32 x5),(13,.slice A1 n1 c1),(14,.int .i64 (n1:Int)),(15,.int .i64 x2)] a/\mM x3 x2 n4 A4 w2 k1 I1 x5) ?_ ?_
  ·rintro a ⟨x5,ha,H⟩;unfold mM at H;refine cu ha ?_;refine aB (aA (ag rfl (aC (nc (y9 1 5 6 7 8 9 13 14 15 rfl) ?_))));refine bK (fun a=>∃x6,∃x7,Ok 45 [(1,.slice A2 n2 c2),(5,.slice A4 n4 c4),(6,.int .u32 x6),(7,.int .i64 x2),(8,.int .u32 x7),(9,.int .u32 x5),(13,.slice A1 n1 c1),(14,.int .i64 (n1:Int)),(15,.int .i64 x2)] a/\qP x2 n4 A4 w2 x5 k1 I1 x6 x7) ?_ ?_
   ·rintro a ⟨x6,x7,ha,H⟩;unfold qP at H;refine cu ha ?_;refine aA (mv rfl (mv rfl (mv rfl (mv rfl (bo rfl rfl jB ?_)))));obtain⟨h8,h9,a3,e3,H⟩:=H;refine ix rfl rfl (bG TF.bJ TF.bH e3 h8 h9) ?_;obtain⟨⟨u1,h10⟩,h11,H⟩:=H;refine gX rfl (aF rfl) (xs rfl rfl (fE TF.bH rfl rfl h10 h11)) ?_;intro w3 hw;replace H:=H _ hw;clear hw;refine aC (bQ (nc (y6 1 5 6 13 14 15 rfl) (aA (bo rfl rfl dJ (mv rfl (aC ?_))))));obtain⟨k2,hk,H⟩:=H;exact aT fun a ha=>⟨k2,hk,x6,IntKind.wrap .i64 (x2+1),ha.weaken cs,H⟩
   ·refine aB (aA (mv rfl (mv rfl (bo rfl rfl fO (aC (nc (y10 1 5 6 7 8 9 13 14 15 33 rfl) ?_))))));refine aK rfl (fun hb=> ?_) (fun hb=> ?_)
    ·replace H:=H.1 hb;exact aB (aA (mv rfl (bo rfl rfl dJ (ag rfl (aC (nc (y8 1 5 7 8 9 13 14 15 rfl) (aA (ag rfl (aC (aT fun a ha=>⟨⟨1,IntKind.wrap .u32 (x3+1000000000),ha.weaken cs,H⟩,rfl⟩))))))))))
    ·replace H:=H.2 hb;exact aN (aT fun a ha=>⟨⟨0,x3,ha.weaken cs,H⟩,rfl⟩)
  ·refine aB (aA (mv rfl (mv rfl (sv rfl rfl (xb rfl (fun _=>bD TF.aU)) (bo rfl rfl fO (aC (nc (y9 1 5 7 8 9 13 14 15 24 rfl) ?_)))))));refine aK rfl (fun hb=> ?_) (fun hb=> ?_)
   ·replace H:=H.1 hb;refine aA (mv rfl (mv rfl (mv rfl ?_)));obtain⟨h5,h6,a2,e2,H⟩:=H;refine ix rfl rfl (bG TF.bJ TF.bH e2 h5 h6) ?_;obtain⟨x4,h7,H⟩:=H;exact ld rfl (aJ TF.dA h7) (bo rfl rfl dJ (ag rfl (aC (aT fun a ha=>⟨⟨IntKind.wrap .u32 (x1+x4),ha.weaken cs,H⟩,rfl⟩))))
   ·replace H:=H.2 hb;exact aN (aT fun a ha=>⟨⟨x1,ha.weaken cs,H⟩,rfl⟩)
 ·replace H:=H.2 hb;refine bW (aH (aH (aZ (nc (kp 5 rfl zz) (aB (aA (mv rfl (sc rfl rfl FF.lV H ?_))))))));rintro _ w4 ⟨A5,n5,c5,rfl,H⟩;exact ag rfl (aC (nc (kp 4 rfl zz) (aW (aG (res1 rfl rfl) ⟨_,rfl,_,_,_,rfl,H⟩))))
def qQ (k1:Nat) (I1:Nat->Int->World->Prop) (x1:Int) (w3:World):Prop:=
 ∃k4,k4<k1/\I1 k4 (IntKind.wrap .i64 (x1+1)) w3
def mJ (K:Option Addr->Nat->Nat->World->Prop) (w:World) (n1:Nat) (n2:Nat) (A1:Option Addr) (A2:Option Addr) (b1:Bool):Prop:=
 (b1=true->(K none 0 0 w))/\(b1=false->(∃(A4:Option Addr) (n4 c4:Nat) (w1:World),(Instr.makeSlice T.dH (.int .i64 (IntKind.wrap .i64 ((n1:Int)+(n2:Int)))) (.int .i64 (IntKind.wrap .i64 ((n1:Int)+(n2:Int))))).run P w= .ok (.slice A4 n4 c4) w1/\(∃I1:Nat->Int->World->Prop,(∃k1,I1 k1 0 w1)/\∀k1 (x1:Int) (w2:World),I1 k1 x1 w2->((x1<(n1:Int)->(0<=x1/\x1<(n1:Int)/\∃a1,A1=some a1/\∃x2,w2.cell? (a1.add (x1.toNat*1))=some (.int .u32 x2)/\(x2=0->((qQ k1 I1 x1) w2))/\(¬(x2=0)->(∃I2:Nat->Int->Int->World->Prop,(∃k2,I2 k2 0 0 w2)/\∀k2 (x3:Int) (x4:Int) (w4:World),I2 k2 x3 x4 w4->((x4<(n2:Int)->(0<=x4/\x4<(n2:Int)/\∃a2,A2=some a2/\∃x5,w4.cell? (a2.add (x4.toNat*1))=some (.int .u32 x5)/\0<=IntKind.wrap .i64 (x1+x4)/\IntKind.wrap .i64 (x1+x4)<(n4:Int)/\∃a3,A4=some a3/\∃x6,w4.cell? (a3.add ((IntKind.wrap .i64 (x1+x4)).toNat*1))=some (.int .u32 x6)/\0<=IntKind.wrap .i64 (x1+x4)/\IntKind.wrap .i64 (x1+x4)<(n4:Int)/\∃a4,A4=some a4/\(∃u1,w4.cell? (a4.add ((IntKind.wrap .i64 (x1+x4)).toNat*1))=some u1)/\w4.frozen? (a4.add ((IntKind.wrap .i64 (x1+x4)).toNat*1))=false/\∀w5,w5=w4.setCell (a4.add ((IntKind.wrap .i64 (x1+x4)).toNat*1)) (.int .u32 (IntKind.wrap .u32 (Int.tmod (IntKind.wrap .u64 ((IntKind.wrap .u64 ((IntKind.wrap .u64 ((IntKind.wrap .u64 x2)*(IntKind.wrap .u64 x5)))+(IntKind.wrap .u64 x6)))+x3)) 1000000000)))->(∃k3,k3<k2/\I2 k3 (IntKind.wrap .u64 (Int.tdiv (IntKind.wrap .u64 ((IntKind.wrap .u64 ((IntKind.wrap .u64 ((IntKind.wrap .u64 x2)*(IntKind.wrap .u64 x5)))+(IntKind.wrap .u64 x6)))+x3)) 1000000000)) (IntKind.wrap .i64 (x4+1)) w5)))/\(¬(x4<(n2:Int))->(0<=IntKind.wrap .i64 (x1+(n2:Int))/\IntKind.wrap .i64 (x1+(n2:Int))<(n4:Int)/\∃a5,A4=some a5/\(∃u2,w4.cell? (a5.add ((IntKind.wrap .i64 (x1+(n2:Int))).toNat*1))=some u2)/\w4.frozen? (a5.add ((IntKind.wrap .i64 (x1+(n2:Int))).toNat*1))=false/\∀w6,w6=w4.setCell (a5.add ((IntKind.wrap .i64 (x1+(n2:Int))).toNat*1)) (.int .u32 (IntKind.wrap .u32 x3))->((qQ k1 I1 x1) w6))))))))/\(¬(x1<(n1:Int))->(Calls P F.Ag #[.slice A4 n4 c4] w2 (aS fun v1 w7=>∃A5 n5 c5,v1=(.slice A5 n5 c5)/\K A5 n5 c5 w7)))))))
def Oa (A1:Option Addr) (n1 c1:Nat) (A2:Option Addr) (n2 c2:Nat) (K:Option Addr->Nat->Nat->World->Prop) (w:World):Prop:=
 ((n1:Int)=0->((mJ K w n1 n2 A1 A2) true))/\(¬((n1:Int)=0)->((mJ K w n1 n2 A1 A2) (decide ((n2:Int)=0))))
theorem Zf (A1:Option Addr) (n1 c1:Nat) (A2:Option Addr) (n2 c2:Nat) (K:Option Addr->Nat->Nat->World->Prop) (w:World) (H:Oa A1 n1 c1 A2 n2 c2 K w):Calls P F.fH #[.slice A1 n1 c1,.slice A2 n2 c2] w (aS fun v w'=>∃A3 n3 c3,v=(.slice A3 n3 c3)/\K A3 n3 c3 w'):=by
 unfold Oa at H;refine aY (P:=P) Tryz.func150 rfl [(0,.slice A1 n1 c1),(1,.slice A2 n2 c2)] 79 rfl rfl (aa rfl (aa rfl az)) (aB (aA (ag rfl (aC (nc (y2 0 1 rfl) (aB ?_))))));refine bK (fun a=>∃b1,Ok 79 [(0,.slice A1 n1 c1),(1,.slice A2 n2 c2),(19,.bool b1)] a/\mJ K w n1 n2 A1 A2 b1) ?_ ?_
 ·rintro a ⟨b1,ha,H⟩;unfold mJ at H;refine cu ha ?_;refine dG rfl (fun hb=> ?_) (fun hb=> ?_)
  ·replace H:=H.1 hb;exact aB (aA (ag rfl (aC (nc (kp 4 rfl zz) (aW (aI (aG (res1 rfl rfl) ⟨_,rfl,_,_,_,rfl,H⟩)))))))
  ·replace H:=H.2 hb;refine aN (nc (y2 0 1 rfl) (aB (aA (mv rfl (sv rfl rfl (xb rfl (fun _=>bD TF.aU)) (mv rfl (sv rfl rfl (xb rfl (fun _=>bD TF.aU)) (bo rfl rfl dJ ?_))))))));obtain⟨A4,n4,c4,w1,h1,H⟩:=H;refine sv rfl rfl (fun a ha=>gB (ha.ev rfl) (ha.ev rfl) h1) (ag rfl (aC (nc (y3 0 1 5 rfl) (aB (aB (aA (mv rfl (sv rfl rfl (xb rfl (fun _=>bD TF.aU)) (mv rfl (aC (nc (y5 1 5 26 27 28 rfl) (aV ?_))))))))))));obtain⟨I1,⟨k1,hi⟩,H⟩:=H;refine dM (fun k1 a w'=>∃x1,Ok 79 [(1,.slice A2 n2 c2),(5,.slice A4 n4 c4),(26,.slice A1 n1 c1),(27,.int .i64 (n1:Int)),(28,.int .i64 x1)] a/\I1 k1 x1 w') (fun a ha=>⟨k1,0,ha.weaken cs,hi⟩) ?_;rintro k1 a w2 ⟨x1,ha,hI⟩;replace H:=H k1 x1 w2 hI;refine cu ha ?_;refine aB (aA (bo rfl rfl fO (aC (nc (y6 1 5 26 27 28 29 rfl) (aB ?_)))));refine aK rfl (fun hb=> ?_) (fun hb=> ?_)
   ·replace H:=H.1 hb;refine aN (nc (y5 1 5 26 27 28 rfl) ?_);refine dI (fun a w=>Ok 79 [(1,.slice A2 n2 c2),(5,.slice A4 n4 c4),(26,.slice A1 n1 c1),(27,.int .i64 (n1:Int)),(28,.int .i64 x1)] a/\qQ k1 I1 x1 w) ?_ ?_
    ·rintro a w3 ⟨ha,H⟩;unfold qQ at H;refine cu ha ?_;refine aA (bo rfl rfl dJ (mv rfl (aC ?_)));obtain⟨k4,hk,H⟩:=H;exact aT fun a ha=>⟨k4,hk,IntKind.wrap .i64 (x1+1),ha.weaken cs,H⟩
    ·refine aV (aB (aA (mv rfl ?_)));obtain⟨h2,h3,a1,e1,H⟩:=H;refine ix rfl rfl (bG TF.bJ TF.bH e1 h2 h3) ?_;obtain⟨x2,h4,H⟩:=H;refine ld rfl (aJ TF.dA h4) (ag rfl (ag rfl (aC (nc (y7 1 5 6 7 26 27 28 rfl) (aB (aB (aA (mv rfl (bo rfl rfl nN (aC (nc (y8 1 5 6 7 26 27 28 34 rfl) ?_)))))))))));refine aK rfl (fun hb=> ?_) (fun hb=> ?_)
     ·replace H:=H.1 hb;exact bW (aH (aZ (aT fun a ha=>⟨ha.weaken cs,H⟩)))
     ·replace H:=H.2 hb;refine aN (nc (y7 1 5 6 7 26 27 28 rfl) (aB (aA (ag rfl (aC (nc (y8 1 5 6 7 8 26 27 28 rfl) (aB (aB (aA (mv rfl (sv rfl rfl (xb rfl (fun _=>bD TF.aU)) (mv rfl (aC (nc (y11 1 5 6 7 8 26 27 28 35 36 37 rfl) (aV ?_)))))))))))))));obtain⟨I2,⟨k2,hi⟩,H⟩:=H;refine dM (fun k2 a w'=>∃x3,∃x4,Ok 79 [(1,.slice A2 n2 c2),(5,.slice A4 n4 c4),(6,.int .i64 x1),(7,.int .u32 x2),(8,.int .u64 x3),(26,.slice A1 n1 c1),(27,.int .i64 (n1:Int)),(28,.int .i64 x1),(35,.slice A2 n2 c2),(36,.int .i64 (n2:Int)),(37,.int .i64 x4)] a/\I2 k2 x3 x4 w') (fun a ha=>⟨k2,0,0,ha.weaken cs,hi⟩) ?_;rintro k2 a w4 ⟨x3,x4,ha,hI⟩;replace H:=H k2 x3 x4 w4 hI;refine cu ha ?_;refine aB (aA (bo rfl rfl fO (aC (nc (y12 1 5 6 7 8 26 27 28 35 36 37 38 rfl) (aB ?_)))));refine aK rfl (fun hb=> ?_) (fun hb=> ?_)
      ·replace H:=H.1 hb;refine aN (nc (y11 1 5 6 7 8 26 27 28 35 36 37 rfl) (aB (aV (aB (aA (mv rfl ?_))))));obtain⟨h5,h6,a2,e2,H⟩:=H;refine ix rfl rfl (bG TF.bJ TF.bH e2 h5 h6) ?_;obtain⟨x5,h7,H⟩:=H;refine ld rfl (aJ TF.dA h7) (ag rfl (ag rfl (aC (nc (y13 1 5 6 7 8 9 10 26 27 28 35 36 37 rfl) (aB (aA (mv rfl (sv rfl rfl (fun a ha=>dB (ha.ev rfl) (iC TF.dL TF.dO)) (mv rfl (sv rfl rfl (fun a ha=>dB (ha.ev rfl) (iC TF.dL TF.dO)) (bo rfl rfl Aq (mv rfl (mv rfl (mv rfl (bo rfl rfl dJ ?_)))))))))))))));obtain⟨h8,h9,a3,e3,H⟩:=H;refine ix rfl rfl (bG TF.bJ TF.bH e3 h8 h9) ?_;obtain⟨x6,h10,H⟩:=H;refine ld rfl (aJ TF.dA h10) (sv rfl rfl (fun a ha=>dB (ha.ev rfl) (iC TF.dL TF.dO)) (bo rfl rfl dJ (mv rfl (bo rfl rfl dJ (ag rfl (aC (nc (y12 1 5 6 7 9 11 26 27 28 35 36 37 rfl) (aB (aA (mv rfl (mv rfl (mv rfl (bo rfl rfl dJ (mv rfl (bo rfl rfl (Gt (by decide)) (sv rfl rfl (fun a ha=>dB (ha.ev rfl) (iC TF.dO TF.dL)) ?_))))))))))))))));obtain⟨h11,h12,a4,e4,H⟩:=H;refine ix rfl rfl (bG TF.bJ TF.bH e4 h11 h12) ?_;obtain⟨⟨u1,h13⟩,h14,H⟩:=H;refine gX rfl (aF rfl) (xs rfl rfl (fE TF.bH rfl rfl h13 h14)) ?_;intro w5 hw;replace H:=H _ hw;clear hw;refine aC (nc (y11 1 5 6 7 11 26 27 28 35 36 37 rfl) (aA (mv rfl (bo rfl rfl (Ai (by decide)) (ag rfl (aC (bQ (nc (y11 1 5 6 7 8 26 27 28 35 36 37 rfl) (aA (bo rfl rfl dJ (mv rfl (aC ?_))))))))))));obtain⟨k3,hk,H⟩:=H;exact aT fun a ha=>⟨k3,hk,IntKind.wrap .u64 (Int.tdiv (IntKind.wrap .u64 ((IntKind.wrap .u64 ((IntKind.wrap .u64 ((IntKind.wrap .u64 x2)*(IntKind.wrap .u64 x5)))+(IntKind.wrap .u64 x6)))+x3)) 1000000000),IntKind.wrap .i64 (x4+1),ha.weaken cs,H⟩
      ·replace H:=H.2 hb;refine bW (aH (aH (aZ (nc (y7 1 5 6 8 26 27 28 rfl) (aA (mv rfl (mv rfl (mv rfl (sv rfl rfl (xb rfl (fun _=>bD TF.aU)) (bo rfl rfl dJ (mv rfl (sv rfl rfl (fun a ha=>dB (ha.ev rfl) (iC TF.dO TF.dL)) ?_))))))))))));obtain⟨h15,h16,a5,e5,H⟩:=H;refine ix rfl rfl (bG TF.bJ TF.bH e5 h15 h16) ?_;obtain⟨⟨u2,h17⟩,h18,H⟩:=H;refine gX rfl (aF rfl) (xs rfl rfl (fE TF.bH rfl rfl h17 h18)) ?_;intro w6 hw;replace H:=H _ hw;clear hw;exact aC (bQ (aT fun a ha=>⟨ha.weaken cs,H⟩))
   ·replace H:=H.2 hb;refine bW (aH (aH (aZ (nc (kp 5 rfl zz) (aB (aA (mv rfl (sc rfl rfl FF.lV H ?_))))))));rintro _ w7 ⟨A5,n5,c5,rfl,H⟩;exact ag rfl (aC (nc (kp 4 rfl zz) (aW (aG (res1 rfl rfl) ⟨_,rfl,_,_,_,rfl,H⟩))))
 ·refine aA (mv rfl (sv rfl rfl (xb rfl (fun _=>bD TF.aU)) (bo rfl rfl nN ?_)));rcases Classical.em ((n1:Int)=0) with hb|hb
  ·replace H:=H.1 hb;exact sv rfl rfl (xt rfl hb) (sk rfl rfl rfl rfl (sk rfl rfl rfl rfl (sk rfl rfl rfl rfl (pt rfl rfl (aC (aT fun a ha=>⟨⟨true,ha.weaken cs,H⟩,rfl⟩))))))
  ·replace H:=H.2 hb;exact sv rfl rfl (xf rfl hb) (Kw rfl rfl rfl (svg rfl rfl rfl rfl (xb rfl (fun _=>bD TF.aU)) (Uu rfl rfl rfl rfl nN (pf rfl rfl (aC (aT fun a ha=>⟨⟨(decide ((n2:Int)=0)),ha.weaken cs,H⟩,rfl⟩))))))
def zW (A1:Option Addr) (n1 c1:Nat) (x1:Int) (K:Option Addr->Nat->Nat->Int->World->Prop) (w:World):Prop:=
 ∃(A3:Option Addr) (n3 c3:Nat) (w1:World),(Instr.makeSlice T.dH (.int .i64 (n1:Int)) (.int .i64 (n1:Int))).run P w= .ok (.slice A3 n3 c3) w1/\(∃I1:Nat->Int->Int->World->Prop,(∃k1,I1 k1 0 (IntKind.wrap .i64 ((n1:Int)-1)) w1)/\∀k1 (x3:Int) (x4:Int) (w2:World),I1 k1 x3 x4 w2->((0<=x4->(0<=x4/\x4<(n1:Int)/\∃a1,A1=some a1/\∃x5,w2.cell? (a1.add (x4.toNat*1))=some (.int .u32 x5)/\(IntKind.wrap .u64 x1)≠0/\0<=x4/\x4<(n3:Int)/\∃a2,A3=some a2/\(∃u1,w2.cell? (a2.add (x4.toNat*1))=some u1)/\w2.frozen? (a2.add (x4.toNat*1))=false/\∀w3,w3=w2.setCell (a2.add (x4.toNat*1)) (.int .u32 (IntKind.wrap .u32 (IntKind.wrap .u64 (Int.tdiv (IntKind.wrap .u64 ((IntKind.wrap .u64 (x3*1000000000))+(IntKind.wrap .u64 x5))) (IntKind.wrap .u64 x1)))))->((IntKind.wrap .u64 x1)≠0/\∃k2,k2<k1/\I1 k2 (Int.tmod (IntKind.wrap .u64 ((IntKind.wrap .u64 (x3*1000000000))+(IntKind.wrap .u64 x5))) (IntKind.wrap .u64 x1)) (IntKind.wrap .i64 (x4-1)) w3)))/\(¬(0<=x4)->(Calls P F.Ag #[.slice A3 n3 c3] w2 (aS fun v1 w4=>∃A4 n4 c4,v1=(.slice A4 n4 c4)/\K A4 n4 c4 (IntKind.wrap .u32 x3) w4)))))
theorem Yf (A1:Option Addr) (n1 c1:Nat) (x1:Int) (K:Option Addr->Nat->Nat->Int->World->Prop) (w:World) (H:zW A1 n1 c1 x1 K w):Calls P F.rC #[.slice A1 n1 c1,.int .u32 x1] w (aS fun v w'=>∃A2 n2 c2,∃x2,v=(.tuple #[.slice A2 n2 c2,.int .u32 x2])/\K A2 n2 c2 x2 w'):=by
 unfold zW at H;refine aY (P:=P) Tryz.func221 rfl [(0,.slice A1 n1 c1),(1,.int .u32 x1)] 43 rfl rfl (aa rfl (aa rfl az)) (aB (aA (ag rfl (ag rfl (aC (nc (y2 0 1 rfl) (aB (aA (mv rfl (sv rfl rfl (xb rfl (fun _=>bD TF.aU)) ?_))))))))));obtain⟨A3,n3,c3,w1,h1,H⟩:=H;refine sv rfl rfl (fun a ha=>gB (ha.ev rfl) (ha.ev rfl) h1) (ag rfl (aC (nc (y3 0 1 6 rfl) (aB (aA (ag rfl (aC (nc (y4 0 1 6 7 rfl) (aB (aB (aA (mv rfl (sv rfl rfl (xb rfl (fun _=>bD TF.aU)) (bo rfl rfl jB (ag rfl (aC (nc (y5 0 1 6 7 8 rfl) (aV ?_))))))))))))))))));obtain⟨I1,⟨k1,hi⟩,H⟩:=H;refine dM (fun k1 a w'=>∃x3,∃x4,Ok 43 [(0,.slice A1 n1 c1),(1,.int .u32 x1),(6,.slice A3 n3 c3),(7,.int .u64 x3),(8,.int .i64 x4)] a/\I1 k1 x3 x4 w') (fun a ha=>⟨k1,0,IntKind.wrap .i64 ((n1:Int)-1),ha.weaken cs,hi⟩) ?_;rintro k1 a w2 ⟨x3,x4,ha,hI⟩;replace H:=H k1 x3 x4 w2 hI;refine cu ha ?_;refine aB (aB (aA (mv rfl (bo rfl rfl Nr (aC (nc (y6 0 1 6 7 8 16 rfl) ?_))))));refine aK rfl (fun hb=> ?_) (fun hb=> ?_)
 ·replace H:=H.1 hb;refine aN (nc (y5 0 1 6 7 8 rfl) (aB (aV (aB (aA (mv rfl (bo rfl rfl Aq (mv rfl (mv rfl ?_)))))))));obtain⟨h2,h3,a1,e1,H⟩:=H;refine ix rfl rfl (bG TF.bJ TF.bH e1 h2 h3) ?_;obtain⟨x5,h4,H⟩:=H;refine ld rfl (aJ TF.dA h4) (sv rfl rfl (fun a ha=>dB (ha.ev rfl) (iC TF.dL TF.dO)) (bo rfl rfl dJ (ag rfl (aC (nc (y5 0 1 6 7 8 rfl) (aB (aA (mv rfl (mv rfl (mv rfl (mv rfl (sv rfl rfl (fun a ha=>dB (ha.ev rfl) (iC TF.dL TF.dO)) ?_))))))))))));obtain⟨h5,H⟩:=H;refine bo rfl rfl (Ai h5) (sv rfl rfl (fun a ha=>dB (ha.ev rfl) (iC TF.dO TF.dL)) ?_);obtain⟨h6,h7,a2,e2,H⟩:=H;refine ix rfl rfl (bG TF.bJ TF.bH e2 h6 h7) ?_;obtain⟨⟨u1,h8⟩,h9,H⟩:=H;refine gX rfl (aF rfl) (xs rfl rfl (fE TF.bH rfl rfl h8 h9)) ?_;intro w3 hw;replace H:=H _ hw;clear hw;refine aC (nc (y5 0 1 6 7 8 rfl) (aA (mv rfl (mv rfl (sv rfl rfl (fun a ha=>dB (ha.ev rfl) (iC TF.dL TF.dO)) ?_)))));obtain⟨h10,H⟩:=H;refine bo rfl rfl (Gt h10) (ag rfl (aC (bQ (nc (y5 0 1 6 7 8 rfl) (aA (mv rfl (bo rfl rfl jB (ag rfl (aC ?_)))))))));obtain⟨k2,hk,H⟩:=H;exact aT fun a ha=>⟨k2,hk,Int.tmod (IntKind.wrap .u64 ((IntKind.wrap .u64 (x3*1000000000))+(IntKind.wrap .u64 x5))) (IntKind.wrap .u64 x1),IntKind.wrap .i64 (x4-1),ha.weaken cs,H⟩
 ·replace H:=H.2 hb;refine bW (aH (aH (aZ (nc (y2 6 7 rfl) (aB (aA (mv rfl (sc rfl rfl FF.lV H ?_))))))));rintro _ w4 ⟨A4,n4,c4,rfl,H⟩;exact mv rfl (sv rfl rfl (fun a ha=>dB (ha.ev rfl) (iC TF.dO TF.dL)) (ag rfl (ag rfl (aC (nc (y2 4 5 rfl) (aW (aG (wF rfl rfl rfl) ⟨_,rfl,_,_,_,_,rfl,H⟩)))))))
def yH (K:Option Addr->Nat->Nat->Option Addr->Nat->Nat->World->Prop) (A9:Option Addr) (n9 c9:Nat) (A10:Option Addr) (n10 c10:Nat) (w13:World):Prop:=
 K A9 n9 c9 A10 n10 c10 w13
def Fg (A1:Option Addr) (n1 c1:Nat) (A2:Option Addr) (n2 c2:Nat) (K:Option Addr->Nat->Nat->Option Addr->Nat->Nat->World->Prop) (w:World):Prop:=
 Calls P F.yQ #[.slice A1 n1 c1,.slice A2 n2 c2] w (aS fun v1 w1=>∃x1,v1=(.int .i64 x1)/\(x1<0->(K none 0 0 A1 n1 c1 w1))/\(¬(x1<0)->(((n2:Int)=1->(0<=(0:Int)/\(0:Int)<(n2:Int)/\∃a1,A2=some a1/\∃x2,w1.cell? (a1.add ((0:Int).toNat*1))=some (.int .u32 x2)/\Calls P F.rC #[.slice A1 n1 c1,.int .u32 x2] w1 (aS fun v2 w2=>∃A5 n5 c5,∃x3,v2=(.tuple #[.slice A5 n5 c5,.int .u32 x3])/\Calls P F.rO #[.int .u64 (IntKind.wrap .u64 x3)] w2 (aS fun v3 w3=>∃A6 n6 c6,v3=(.slice A6 n6 c6)/\K A5 n5 c5 A6 n6 c6 w3))))/\(¬((n2:Int)=1)->(Calls P F.qJ #[.slice A1 n1 c1] w1 (aS fun v4 w4=>∃x4,∃b1,v4=(.tuple #[.int .u64 x4,.bool b1])/\(b1=true->(Calls P F.qJ #[.slice A2 n2 c2] w4 (aS fun v5 w5=>∃x5,∃b2,v5=(.tuple #[.int .u64 x5,.bool b2])/\x5≠0/\x5≠0/\∀w7,aP w5 w7->Calls P F.rO #[.int .u64 (IntKind.wrap .u64 (Int.tdiv x4 x5))] w7 (aS fun v6 w6=>∃A7 n7 c7,v6=(.slice A7 n7 c7)/\∀w10,aP w6 w10->Calls P F.rO #[.int .u64 (Int.tmod x4 x5)] w10 (aS fun v7 w9=>∃A8 n8 c8,v7=(.slice A8 n8 c8)/\∀w12,aP w9 w12->((yH K) A7 n7 c7 A8 n8 c8 w12))))))/\(b1=false->(Calls P F.Ye #[.slice A1 n1 c1,.slice A2 n2 c2] w4 (aS fun v8 w14=>∃A11 n11 c11,∃A12 n12 c12,v8=(.tuple #[.slice A11 n11 c11,.slice A12 n12 c12])/\K A11 n11 c11 A12 n12 c12 w14)))))))))
theorem aAf (A1:Option Addr) (n1 c1:Nat) (A2:Option Addr) (n2 c2:Nat) (K:Option Addr->Nat->Nat->Option Addr->Nat->Nat->World->Prop) (w:World) (H:Fg A1 n1 c1 A2 n2 c2 K w):Calls P F.wG #[.slice A1 n1 c1,.slice A2 n2 c2] w (aS fun v w'=>∃A3 n3 c3,∃A4 n4 c4,v=(.tuple #[.slice A3 n3 c3,.slice A4 n4 c4])/\K A3 n3 c3 A4 n4 c4 w'):=by
 unfold Fg at H;refine aY (P:=P) Tryz.func190 rfl [(0,.slice A1 n1 c1),(1,.slice A2 n2 c2)] 56 rfl rfl (aa rfl (aa rfl az)) (aB (aA (ag rfl (ag rfl (aC (nc (y2 0 1 rfl) (aB (aB (aA (mv rfl (mv rfl (sc rfl rfl FF.vJ H ?_))))))))))));rintro _ w1 ⟨x1,rfl,H⟩;refine bo rfl rfl fO (aC (nc (y3 0 1 15 rfl) ?_));refine aK rfl (fun hb=> ?_) (fun hb=> ?_)
 ·replace H:=H.1 hb;exact aB (aA (mv rfl (ag rfl (ag rfl (aC (nc (y2 4 5 rfl) (aW (aI (aG (wF rfl rfl rfl) ⟨_,rfl,_,_,_,_,_,_,rfl,H⟩)))))))))
 ·replace H:=H.2 hb;refine aN (nc (y2 0 1 rfl) (aB (aB (aA (mv rfl (sv rfl rfl (xb rfl (fun _=>bD TF.aU)) (bo rfl rfl nN (aC (nc (y3 0 1 19 rfl) ?_)))))))));refine aK rfl (fun hb=> ?_) (fun hb=> ?_)
  ·replace H:=H.1 hb;refine aB (aA (mv rfl (mv rfl ?_)));obtain⟨h1,h2,a1,e1,H⟩:=H;refine ix rfl rfl (bG TF.bJ TF.bH e1 h1 h2) ?_;obtain⟨x2,h3,H⟩:=H;refine ld rfl (aJ TF.dA h3) (sc rfl rfl FF.rE H ?_);rintro _ w2 ⟨A5,n5,c5,x3,rfl,H⟩;refine mv rfl (sv rfl rfl (xe rfl rfl) (sv rfl rfl (xe rfl rfl) (ag rfl (ag rfl (aC (nc (y2 6 7 rfl) (aB (aA (mv rfl (mv rfl (sv rfl rfl (fun a ha=>dB (ha.ev rfl) (iC TF.dL TF.dO)) (sc rfl rfl FF.iW H ?_))))))))))));rintro _ w3 ⟨A6,n6,c6,rfl,H⟩;exact ag rfl (ag rfl (aC (nc (y2 4 5 rfl) (aW (aI (aG (wF rfl rfl rfl) ⟨_,rfl,_,_,_,_,_,_,rfl,H⟩))))))
  ·replace H:=H.2 hb;refine aN (nc (y2 0 1 rfl) (aB (aB (aA (mv rfl (sc rfl rfl FF.mV H ?_))))));rintro _ w4 ⟨x4,b1,rfl,H⟩;refine mv rfl (sv rfl rfl (xe rfl rfl) (sv rfl rfl (xe rfl rfl) (ag rfl (ag rfl (aC (nc (y4 0 1 8 9 rfl) (aB (aA (mv rfl (aC (nc (y4 0 1 8 37 rfl) ?_)))))))))));refine dG rfl (fun hb=> ?_) (fun hb=> ?_)
   ·replace H:=H.1 hb;refine aB (aA (mv rfl (sc rfl rfl FF.mV H ?_)));rintro _ w5 ⟨x5,b2,rfl,H⟩;refine mv rfl (sv rfl rfl (xe rfl rfl) (sv rfl rfl (xe rfl rfl) (ag rfl (ag rfl (aC (nc (y2 8 10 rfl) ?_))))));refine dI (fun a w=>∃A9 n9 c9,∃A10 n10 c10,Ok 56 [(4,.slice A9 n9 c9),(5,.slice A10 n10 c10)] a/\yH K A9 n9 c9 A10 n10 c10 w) ?_ ?_
    ·rintro a w13 ⟨A9,n9,c9,A10,n10,c10,ha,H⟩;unfold yH at H;refine cu ha ?_;exact aW (aI (aG (wF rfl rfl rfl) ⟨_,rfl,_,_,_,_,_,_,rfl,H⟩))
    ·refine dW follows [0,1,2,4,5,6,8,9] [] 10 rfl rfl (by kernel_rfl) (fun _ _ d _ _ h=>by cases d<;>exact h) (fun cm W D=> ?_);refine Ez 0 cm rfl rfl D fun _ D=>(Ez 1 cm rfl rfl D fun _ D=> ?_);obtain⟨h4,H⟩:=H;refine Ji 2 cm rfl rfl rfl (fun w' a ha=>dK (ha.ev rfl) (ha.ev rfl) (Ai h4)) D fun _ D=>(Ez 4 cm rfl rfl D fun _ D=>(Ez 5 cm rfl rfl D fun _ D=> ?_));obtain⟨h5,H⟩:=H;refine Ji 6 cm rfl rfl rfl (fun w' a ha=>dK (ha.ev rfl) (ha.ev rfl) (Gt h5)) D fun _ D=>(ar 3 ?_);replace H:=H _ D;refine iZ rfl rfl rfl (aF rfl) (xc rfl rfl FF.iW) rfl false (by kernel_rfl) H ?_;rintro _ w6 ⟨A7,n7,c7,rfl,H⟩ _ D;refine⟨fun h=>(by cases h),?_⟩;refine ar 7 ?_;replace H:=H _ D;refine iZ rfl rfl rfl (aF rfl) (xc rfl rfl FF.iW) rfl false (by kernel_rfl) H ?_;rintro _ w9 ⟨A8,n8,c8,rfl,H⟩ _ D;refine⟨fun h=>(by cases h),?_⟩;refine vP 8 cm rfl rfl D fun _ D=>(vP 9 cm rfl rfl D fun _ D=>(dU (by kernel_rfl) D ?_));intro w12 D;replace H:=H _ D;clear D cm;exact aT fun a ha=>⟨A7,n7,c7,A8,n8,c8,ha.weaken cs,H⟩
   ·replace H:=H.2 hb;refine aN (nc (y2 0 1 rfl) (aB (aA (mv rfl (mv rfl (sc rfl rfl FF.Yr H ?_))))));rintro _ w14 ⟨A11,n11,c11,A12,n12,c12,rfl,H⟩;exact sv rfl rfl (xe rfl rfl) (sv rfl rfl (xe rfl rfl) (ag rfl (ag rfl (aC (nc (y2 4 5 rfl) (aW (aG (wF rfl rfl rfl) ⟨_,rfl,_,_,_,_,_,_,rfl,H⟩)))))))
theorem wrap_i64 {i:Int} (h0: -9223372036854775808<=i) (h1:i<=9223372036854775807):IntKind.wrap .i64 i=i:=by
 simp only[IntKind.wrap,IntKind.bits,IntKind.signed]
 simp
 omega
theorem wrap_u32 {i:Int} (h0:0<=i) (h1:i<4294967296):IntKind.wrap .u32 i=i:=by
 simp only[IntKind.wrap,IntKind.bits,IntKind.signed]
 simp
 omega
theorem wrap_u64 {i:Int} (h0:0<=i) (h1:i<18446744073709551616):IntKind.wrap .u64 i=i:=by
 simp only[IntKind.wrap,IntKind.bits,IntKind.signed]
 simp
 omega
abbrev Sn (n:Nat):Prop:=n<=1099511627776
theorem Ns:∀{l:List Nat},(∀x∈l,x=0)->nv l=0
 |[],_=>rfl
 |x::l,h=>by
  have h1:=h x (by simp)
  have h2:=Ns (l:=l) fun y hy=>h y (List.mem_cons_of_mem _ hy)
  simp[nv,h1,h2]
section
variable {w w':World} {A B:Option Addr} {n c m d x y:Nat} {l:List Nat}
theorem Ut (h:LR w A n c l) (lo:Lo l) (hn:Sn n):Calls P F.Ag #[.slice A n c] w (aS fun v w'=>w'=w/\∃m,v= .slice A m c/\m<=n/\NR w A m c (nv l)):=by
 refine aS.mono (aEe A n c (fun B m d w'=>w'=w/\B=A/\d=c/\m<=n/\NR w A m c (nv l)) w ?_) (by rintro _ w' ⟨B,m,d,rfl,rfl,rfl,rfl,h1,h2⟩;exact⟨rfl,m,rfl,h1,h2⟩)
 unfold Sz
 unfold Sn at hn
 have hl:=h.len
 have hle:=h.le
 have fin:∀j:Nat,j<=n->(∀x∈l.drop j,x=0)->(j=0\/lg l (j-1)≠0)->NR w A j c (nv l):=fun j hj hz ht=>by
  refine⟨l.take j,?_,⟨lo.take j,fun x hx=> ?_⟩,?_⟩
  ·have:=Row.cut h (m:=j) (d:=c) hj (Nat.le_trans hj hle) (Nat.le_refl _)
   rwa [Nat.mul_one,<-List.map_take] at this
  ·rcases ht with rfl|ht
   ·simp at hx
   ·rw[List.getLast?_take] at hx
    have hj0:j≠0:=by rintro rfl;simp at hx
    rw[if_neg hj0,aCb (by omega:j-1<l.length)] at hx
    simp at hx
    subst hx
    exact ht
  ·rw[xN l j (by omega),Ns hz];simp
 refine⟨fun q i=>q=i.toNat/\0<=i/\i<=n/\∀x∈l.drop i.toNat,x=0,⟨n,by simp,by omega,by omega,fun x hx=> ?_⟩,?_⟩
 ·rw[List.drop_eq_nil_of_le (by simp;omega)] at hx;cases hx
 rintro q i ⟨rfl,i0,i1,hz⟩
 refine⟨fun hpos=> ?_,fun hn0=> ?_⟩
 ·rw[wrap_i64 (by omega) (by omega)]
  obtain⟨ad,hA,hv,hc,_⟩:=h.at_ (i:=i-1) (by omega) (by omega)
  refine⟨by omega,by omega,ad,hA,_,hc,?_,?_⟩
  ·intro hb
   rw[decide_eq_true_iff] at hb
   have ew:=wrap_i64 (i:=i-1) (by omega) (by omega)
   refine⟨(i-1).toNat,by omega,by rw[ew],by rw[ew];omega,by rw[ew];omega,fun x hx=> ?_⟩
   rw[ew] at hx
   rw[List.drop_eq_getElem_cons (by omega)] at hx
   rcases List.mem_cons.1 hx with rfl|hx
   ·have:=Zu (List.getElem?_eq_getElem (l:=l) (i:=(i-1).toNat) (by omega))
    omega
   ·rw[show(i-1).toNat+1=i.toNat by omega] at hx
    exact hz x hx
  ·intro hb
   rw[decide_eq_false_iff_not] at hb
   refine⟨by omega,by omega,rfl,rfl,rfl,by omega,fin _ (by omega) hz (.inr ?_)⟩
   rw[show i.toNat-1=(i-1).toNat by omega]
   intro e
   exact hb (by rw[e];rfl)
 ·refine⟨fun hb=>(by cases hb),fun _=>⟨i0,by omega,rfl,rfl,rfl,by omega,fin _ (by omega) hz (.inl (by omega))⟩⟩
theorem aFy:Calls P F.Uo #[] w (aS fun v w'=>Ext w w'/\∃A,v= .slice A 1 1/\NR w' A 1 1 1/\∀b,At A b->w.heap.size<=b):=by
 refine aS.mono (aFa (fun B m d w'=>m=1/\d=1/\Ext w w'/\NR w' B 1 1 1/\∀b,At B b->w.heap.size<=b) w ?_) (by rintro _ w' ⟨B,m,d,rfl,rfl,rfl,h1,h2,h3⟩;exact⟨h1,B,rfl,h2,h3⟩)
 intro p w1 hN
 have lim:Pm [1]:=⟨Lo.cons (by decide) Lo.nil,fun z hz=>by simp at hz;omega⟩
 refine⟨rfl,rfl,Ext.bI hN,⟨[1],(Row.new hN (n:=1) (s:=1) rfl (vs:=[u32 1]) rfl).Xa (Nat.zero_le _),lim,rfl⟩,fun b hb=> ?_⟩
 obtain⟨a,ha,rfl⟩:=hb
 cases ha
 rw[hN.block]
 exact Nat.le_refl _
theorem Xl (h:NR w A n c x):Calls P F.qJ #[.slice A n c] w (aS fun v w'=>aP w w'/\((v= .tuple #[.int .u64 x,.bool true]/\n<=2/\x<BB*BB)\/(v= .tuple #[.int .u64 0,.bool false]/\2<n))):=by
 obtain⟨l,hL,lim,rfl⟩:=h
 refine aS.mono (Zt A n c (fun y b w'=>aP w w'/\((y=(nv l:Int)/\b=true/\n<=2/\nv l<BB*BB)\/(y=0/\b=false/\2<n))) w ?_) (by
  rintro _ w' ⟨y,b,rfl,h1,h2⟩
  refine⟨h1,?_⟩
  rcases h2 with⟨rfl,rfl,h3,h4⟩|⟨rfl,rfl,h3⟩
  ·exact .inl ⟨rfl,h3,h4⟩
  ·exact .inr ⟨rfl,h3⟩)
 have hl:=hL.len
 unfold Bz
 have g0:=lim.lo.lg 0
 have g1:=lim.lo.lg 1
 have hB:BB=1000000000:=rfl
 have hBB:BB*BB=1000000000000000000:=rfl
 refine⟨fun h0=>⟨aP.refl w,.inl ?_⟩,fun h0=>⟨fun h1=> ?_,fun h1=>⟨fun h2=> ?_,fun h2=>⟨aP.refl w,.inr ⟨rfl,rfl,by omega⟩⟩⟩⟩⟩
 ·have:l=[]:=List.eq_nil_of_length_eq_zero (by omega)
  subst this
  exact⟨rfl,rfl,by omega,by decide⟩
 ·obtain⟨ad,hA,hv,hc,_⟩:=hL.at_ (i:=0) (by omega) (by omega)
  refine⟨by omega,by omega,ad,hA,_,hc,aP.refl w,.inl ?_⟩
  obtain⟨a,rfl⟩:∃a,l=[a]:=List.length_eq_one_iff.1 (by omega)
  have e0:lg [a] 0=a:=rfl
  rw[e0] at g0
  refine⟨?_,rfl,by omega,?_⟩
  ·show IntKind.wrap .u64 ((a:Nat):Int)=((a+BB*0:Nat):Int)
   rw[wrap_u64 (by omega) (by omega)];simp
  ·show a+BB*0<BB*BB
   rw[hBB];omega
 ·obtain⟨ad,hA,hv,hc,_⟩:=hL.at_ (i:=1) (by omega) (by omega)
  obtain⟨ad',hA',hv',hc',_⟩:=hL.at_ (i:=0) (by omega) (by omega)
  refine⟨by omega,by omega,ad,hA,_,hc,by omega,by omega,ad',hA',_,hc',fun w1 hD=>⟨hD,.inl ?_⟩⟩
  obtain⟨a,b,rfl⟩:∃a b,l=[a,b]:=match l,(by omega:l.length=2) with|[a,b],_=>⟨a,b,rfl⟩
  have e0:lg [a,b] 0=a:=rfl
  have e1:lg [a,b] 1=b:=rfl
  rw[e0] at g0
  rw[e1] at g1
  rw[hB] at g0 g1
  refine⟨?_,rfl,by omega,?_⟩
  ·show IntKind.wrap .u64 (IntKind.wrap .u64 (IntKind.wrap .u64 ((b:Nat):Int)*1000000000)+IntKind.wrap .u64 ((a:Nat):Int))=((a+BB*(b+BB*0):Nat):Int)
   rw[wrap_u64 (i:=(b:Int)) (by omega) (by omega),wrap_u64 (i:=(a:Int)) (by omega) (by omega),wrap_u64 (i:=(b:Int)*1000000000) (by omega) (by omega),wrap_u64 (by omega) (by omega),hB]
   omega
  ·show a+BB*(b+BB*0)<BB*BB
   rw[hBB,hB];omega
end
def xQ (x y:Nat):Int:=if x<y then-1 else if y<x then 1 else 0
structure NF (w w':World) (A:Option Addr) (n c x:Nat):Prop where
 ext:Ext w w'
 nr:NR w' A n c x
 new:∀b,At A b->w.heap.size<=b
theorem NF.before {w0 w w':World} {A:Option Addr} {n c x:Nat} (h:NF w w' A n c x) (k:Ext w0 w):NF w0 w' A n c x:=⟨k.over h.ext fun _ _ f=>f,h.nr,fun b hb=>Nat.le_trans k.size (h.new b hb)⟩
theorem NF.after {w w' w2:World} {A:Option Addr} {n c x:Nat} (h:NF w w' A n c x) (k:Ext w' w2):NF w w2 A n c x:=⟨h.ext.over k fun _ _ f=>f,h.nr.ext k,h.new⟩
theorem aEf {l:List Nat} {d:Nat} (lo:Lo l) (hd:d<BB) (h0:d≠0):Pm (l++[d]):=⟨lo.append (Lo.cons hd Lo.nil),fun z hz=>by rw[List.getLast?_concat] at hz;cases hz;exact h0⟩
theorem LR.push {w0 w w1:World} {A:Option Addr} {n c d:Nat} {l:List Nat} {p:Addr} (h:LR w A n c l) (hA:∀b,At A b->w0.heap.size<=b) (E:Ext w0 w) (hN:New w (.cells #[u32 d] T.uint32) p w1) (hn:Sn n):
  ∃A' c' w',(Builtin.append_ #[T.dH,T.dH] T.dH #[.slice A n c,.slice (some p) 1 1]).run P w1= .ok (.slice A' (n+1) c') w'/\LR w' A' (n+1) c' (l++[d])/\Ext w0 w'/\∀b,At A' b->w0.heap.size<=b:=by
 unfold Sn at hn
 have h1:=h.ext (Ext.bI hN)
 have E1:Ext w0 w1:=E.over (Ext.bI hN) fun _ _ f=>f
 obtain⟨A',c',w',hr,hR,hK,hB⟩:=Row.append (P:=P) (t:=T.dH) (ty:=T.dH) (by_:=4) (m:=1) (c2:=1) (news:=[u32 d]) (a:=p) h1 (by kernel_rfl) (by kernel_rfl) (by decide) rfl (hN.cells rfl) (by intro u hu;rcases List.mem_singleton.1 hu with rfl;rfl) (by omega) (by omega) (Nat.zero_le _)
 refine⟨A',c',w',hr,?_,?_,fun b hb=> ?_⟩
 ·unfold LR;rw[List.map_append];exact hR
 ·exact E1.over hK fun i hi ha=>by have:=hA i ha;omega
 ·rcases hB b hb with hb|hb
  ·exact hA b hb
  ·exact Nat.le_trans E1.size hb
section
variable {w w':World} {A B:Option Addr} {n c m d x y:Nat} {l:List Nat}
theorem aFc (hx:NR w A n c x) (hy:NR w B m d y) (hn:Sn n):Calls P F.yQ #[.slice A n c,.slice B m d] w (aS fun v w'=>v= .int .i64 (xQ x y)/\aP w w'):=by
 obtain⟨l,hL,lim,rfl⟩:=hx
 obtain⟨k,hK,lik,rfl⟩:=hy
 refine aS.mono (aBy A n c B m d (fun i w'=>i=xQ (nv l) (nv k)/\aP w w') w ?_) (by rintro _ w' ⟨i,rfl,rfl,h⟩;exact⟨rfl,h⟩)
 unfold Sn at hn
 have hl:=hL.len
 have hk:=hK.len
 have cl:=aAr lim lik
 unfold Iw
 refine⟨fun hne=>⟨fun hlt=>⟨?_,aP.refl w⟩,fun hge=>⟨?_,aP.refl w⟩⟩,fun he=> ?_⟩
 ·have:=cl.1 (by omega)
  unfold xQ;rw[if_pos this]
 ·have:=cl.2 (by omega)
  unfold xQ;rw[if_neg (by omega),if_pos this]
 have hnm:n=m:=by omega
 refine⟨fun q i w1=>q=(i+1).toNat/\-1<=i/\i<n/\aP w w1/\l.drop (i+1).toNat=k.drop (i+1).toNat,⟨n,?_⟩,?_⟩
 ·rw[wrap_i64 (by omega) (by omega)]
  refine⟨by omega,by omega,by omega,aP.refl w,?_⟩
  rw[List.drop_eq_nil_of_le (by omega),List.drop_eq_nil_of_le (by omega)]
 rintro q i w1 ⟨rfl,i0,i1,D1,hd⟩
 refine⟨fun hpos=> ?_,fun hneg=> ?_⟩
 ·obtain⟨ad,hA,hv,hc,_⟩:=(hL.ext (Ext.aO D1)).at_ (i:=i) (by omega) (by omega)
  obtain⟨be,hB,hv',hc',_⟩:=(hK.ext (Ext.aO D1)).at_ (i:=i) (by omega) (by omega)
  rw[show(i+1).toNat=i.toNat+1 by omega] at hd
  refine⟨hpos,by omega,ad,hA,_,hc,hpos,by omega,be,hB,_,hc',fun w2 D2=>⟨fun hlt=> ?_,fun hge=> ?_⟩⟩
  ·have:=Yd lim.lo lik.lo (by omega) (by omega) hd (by omega)
   refine⟨?_,D1.trans D2⟩
   unfold xQ;rw[if_pos this]
  ·have D12:=D1.trans D2
   obtain⟨ad,hA,hv,hc,_⟩:=(hL.ext (Ext.aO D12)).at_ (i:=i) (by omega) (by omega)
   obtain⟨be,hB,hv',hc',_⟩:=(hK.ext (Ext.aO D12)).at_ (i:=i) (by omega) (by omega)
   refine⟨hpos,by omega,ad,hA,_,hc,hpos,by omega,be,hB,_,hc',fun w3 D3=>⟨fun hgt=> ?_,fun hle=> ?_⟩⟩
   ·have:=Yd lik.lo lim.lo (by omega) (by omega) hd.symm (by omega)
    refine⟨?_,D12.trans D3⟩
    unfold xQ;rw[if_neg (by omega),if_pos this]
   ·have ew:=wrap_i64 (i:=i-1) (by omega) (by omega)
    refine⟨i.toNat,by omega,?_⟩
    rw[ew]
    refine⟨by omega,by omega,by omega,D12.trans D3,?_⟩
    rw[show(i-1+1).toNat=i.toNat by omega]
    have e1:=List.getElem?_eq_some_iff.1 hv
    have e2:=List.getElem?_eq_some_iff.1 hv'
    obtain⟨a1,a2⟩:=e1
    obtain⟨b1,b2⟩:=e2
    rw[List.drop_eq_getElem_cons a1,List.drop_eq_getElem_cons b1,hd,a2,b2]
    congr 1
    omega
 ·rw[show(i+1).toNat=0 by omega] at hd
  simp only[List.drop_zero] at hd
  refine⟨?_,D1⟩
  unfold xQ;rw[hd,if_neg (by omega),if_neg (by omega)]
theorem Dy (hx:x<18446744073709551616):Calls P F.rO #[.int .u64 (x:Int)] w (aS fun v w'=>∃A n c,v= .slice A n c/\NF w w' A n c x):=by
 refine aS.mono (aC2 (x:Int) (fun A n c w'=>NF w w' A n c x) w ?_) (by rintro _ w' ⟨A,n,c,rfl,h⟩;exact⟨A,n,c,rfl,h⟩)
 unfold Oi
 have hB:BB=1000000000:=rfl
 refine⟨fun q i A n c w1=>∃l:List Nat,∃y:Nat,q=y/\i=(y:Int)/\LR w1 A n c l/\Lo l/\n<=100/\y*1000000000^n<=x/\x=nv l+BB^n*y/\(y=0->Pm l)/\Ext w w1/\∀b,At A b->w.heap.size<=b,⟨x,[],x,rfl,rfl,LR.nil w,Lo.nil,by omega,by simp,by simp[nv],fun _=>Pm.nil,Ext.refl w,fun b ⟨a,ha,_⟩=>by cases ha⟩,?_⟩
 rintro y i A n c w1 ⟨l,y',rfl,rfl,hL,lo,hn,hyn,he,hlim,E,hA⟩
 refine⟨fun hpos p w2 hN=> ?_,fun hz=> ?_⟩
 ·have hy:y<18446744073709551616:=by
   have:y<=y*1000000000^n:=Nat.le_mul_of_pos_right _ (Nat.pow_pos (by decide))
   omega
  have e1:(Int.tmod (y:Int) 1000000000)=((y%BB:Nat):Int):=by rw[hB];exact(Int.ofNat_tmod y 1000000000).symm
  have e2:(Int.tdiv (y:Int) 1000000000)=((y/BB:Nat):Int):=by rw[hB];exact(Int.ofNat_tdiv y 1000000000).symm
  have hm:y%BB<BB:=Nat.mod_lt _ (by decide)
  have hdv:y/BB<=y:=Nat.div_le_self _ _
  rw[e1,wrap_u32 (by omega) (by omega)] at hN
  have hlen:=hL.len
  have hn3:n<=20:=by
   refine Classical.byContradiction fun h20=> ?_
   have h1:1000000000^20<=1000000000^n:=Nat.pow_le_pow_right (by decide) (by omega)
   have h2:1*1000000000^n<=y*1000000000^n:=Nat.mul_le_mul_right _ (by omega)
   have h3:(18446744073709551616:Nat)<1000000000^20:=by decide
   omega
  obtain⟨A',c',w3,hr,hR,E3,hB3⟩:=hL.push hA E hN (by unfold Sn;omega)
  refine⟨A',n+1,c',w3,hr,y/BB,Nat.div_lt_self (by omega) (by decide),l++[y%BB],y/BB,rfl,?_,hR,lo.append (Lo.cons hm Lo.nil),by omega,?_,?_,fun h0=> ?_,E3,hB3⟩
  ·rw[e2,wrap_u64 (Int.natCast_nonneg _) (Int.lt_of_le_of_lt (Int.ofNat_le.2 hdv) (by omega))]
  ·refine Nat.le_trans ?_ hyn
   rw[Nat.pow_succ,Nat.mul_left_comm,Nat.mul_comm]
   have:1000000000*(y/BB)<=y:=by rw[<-hB];exact Nat.mul_div_le y BB
   rw[show y/BB*1000000000=1000000000*(y/BB) from Nat.mul_comm _ _]
   exact Nat.mul_le_mul_right _ this
  ·rw[Dh,hlen,Nat.pow_succ,Nat.add_assoc,Nat.mul_assoc,<-Nat.mul_add,Nat.mod_add_div]
   exact he
  ·refine aEf lo hm ?_
   have:=Nat.mod_add_div y BB
   rw[h0] at this
   omega
 ·have:y=0:=by omega
  subst this
  exact⟨E,⟨l,hL,hlim rfl,by rw[he];simp⟩,hA⟩
end
theorem LR.put {w w':World} {A:Option Addr} {n c:Nat} {l:List Nat} (h:LR w A n c l) {a:Addr} (hA:A=some a) {j d:Nat} (hj:j<n) (hw:w'=w.setCell (a.add (j*1)) (u32 d)):LR w' A n c (l.set j d)/\Keep (At A) w w':=by
 have hw':w'=aX w (a.add j) [u32 d]:=by rw[hw];simp[aX,bV,Addr.add_zero]
 have hl:=h.len
 obtain⟨h1,h2⟩:=Row.put h hA (j:=j) (us:=[u32 d]) (by simp;omega) hw'
 refine⟨?_,h2⟩
 unfold LR
 rw[List.map_set,List.set_eq_take_append_cons_drop,if_pos (by simp;omega)]
 simpa using h1
theorem aHr:∃i,P.info? T.uint32=some i/\i.size=1/\i.bytes=4/\i.zero=some (.int .u32 0):=by
 have hi:Ih P T.uint32=some (1,4,1):=by kernel_rfl
 have hz0:(P.info? T.uint32).bind (·.zero)=some (.int .u32 0):=by kernel_rfl
 unfold Ih at hi
 obtain⟨i,hi1,hi2⟩:=Option.bind_eq_some_iff.1 hi
 obtain⟨z,hz,hq⟩:=Option.map_eq_some_iff.1 hi2
 injection hq with q1 q2
 injection q2 with q2 q3
 rw[hi1] at hz0
 exact⟨i,hi1,q1,q2,hz0⟩
theorem aF3 (n:Nat):(madeCells (Value.int .u32 0).cells (n*1)).toList=(List.replicate n 0).map u32:=by
 have e:(Value.int .u32 0).cells= #[.int .u32 0]:=by rfl
 rw[e]
 apply List.ext_getElem
 ·simp[madeCells]
 ·intro i h1 h2
  simp[madeCells,Nat.mod_one,u32]
theorem LR.make {w:World} {n:Nat} (hn:Sn n):∃w',(Instr.makeSlice T.dH (.int .i64 (n:Int)) (.int .i64 (n:Int))).run P w= .ok (.slice (some ⟨w.heap.size,0,none⟩) n n) w'/\LR w' (some ⟨w.heap.size,0,none⟩) n n (List.replicate n 0)/\Ext w w':=by
 obtain⟨i,hi,h1,h2,hz⟩:=aHr
 unfold Sn at hn
 obtain⟨w',hr,ho,hg⟩:=run_make_full (P:=P) w w.heap.size T.dH T.uint32 i _ 1 (jD (by kernel_rfl)) hi hz h1 .i64 .i64 n (by rw[h2];omega) (by simp only[maxLen];omega) (Nat.le_refl _)
 rw[aF3] at ho
 exact⟨w',hr,(Own.row ho).Xa (Nat.zero_le _),⟨hg.size,hg.os,hg.tape,hg.output,fun b hb _=>hg.block b hb (by simp)⟩⟩
theorem LR.Qi {w:World} {n:Nat} (hn:Sn n):∃w',(Instr.makeSlice T.dH (.int .i64 0) (.int .i64 (n:Int))).run P w= .ok (.slice (some ⟨w.heap.size,0,none⟩) 0 n) w'/\LR w' (some ⟨w.heap.size,0,none⟩) 0 n []/\Ext w w':=by
 obtain⟨i,hi,h1,h2,hz⟩:=aHr
 unfold Sn at hn
 obtain⟨w',hr,ho,hg⟩:=run_make_own (P:=P) w w.heap.size T.dH T.uint32 i _ 1 (jD (by kernel_rfl)) hi hz h1 .i64 .i64 n (by rw[h2];omega) (by simp only[maxLen];omega) (Nat.le_refl _)
 exact⟨w',hr,(Own.row ho).Xa (Nat.zero_le _),⟨hg.size,hg.os,hg.tape,hg.output,fun b hb _=>hg.block b hb (by simp)⟩⟩
theorem at_new {w:World} {b:Nat} (h:At (some ⟨w.heap.size,0,none⟩) b):b=w.heap.size:=by
 obtain⟨a,ha,rfl⟩:=h
 cases ha
 rfl
theorem Dp (n:Nat):Lo (List.replicate n 0):=fun x hx=>by rw[(List.mem_replicate.1 hx).2];decide
section
variable {w w':World} {A B:Option Addr} {n c m d x y:Nat} {l:List Nat}
theorem aD6 (hx:NR w A n c x) (hy:NR w B m d y) (hle:y<=x) (hn:Sn n):Calls P F.xJ #[.slice A n c,.slice B m d] w (aS fun v w'=>∃A n c,v= .slice A n c/\NF w w' A n c (x-y)):=by
 obtain⟨l,hL,lim,rfl⟩:=hx
 obtain⟨k,hK,lik,rfl⟩:=hy
 refine aS.mono (Zp A n c B m d (fun A n c w'=>NF w w' A n c (nv l-nv k)) w ?_) (by rintro _ w' ⟨A,n,c,rfl,h⟩;exact⟨A,n,c,rfl,h⟩)
 have hn0:=hn
 unfold Sn at hn
 have hl:=hL.len
 have hk:=hK.len
 have hmn:k.length<=l.length:=Nat.le_of_not_lt fun h=>by have:=(aAr lim lik).1 h;omega
 have hB:BB=1000000000:=rfl
 obtain⟨w1,hr,hO1,E1⟩:=LR.make (w:=w) hn0
 unfold Bo
 refine⟨_,n,n,w1,hr,fun q x1 i w2=>∃o:List Nat,∃b:Nat,q=n-i.toNat/\0<=i/\i<=n/\x1=(b:Int)/\b<=1/\LR w2 (some ⟨w.heap.size,0,none⟩) n n o/\Lo o/\nv (o.take i.toNat)+nv (k.take i.toNat)=nv (l.take i.toNat)+BB^i.toNat*b/\Ext w w2,⟨n,List.replicate n 0,0,by simp,by omega,by omega,rfl,by omega,hO1,Dp n,by simp[nv],E1⟩,?_⟩
 rintro q x1 i w2 ⟨o,b,rfl,i0,i1,rfl,hb,hO,lo,hs,E2⟩
 obtain⟨j,rfl⟩:=Int.eq_ofNat_of_zero_le i0
 simp only[Int.toNat_natCast] at hs
 have hol:=hO.len
 refine⟨fun hlt=> ?_,fun hge=> ?_⟩
 ·have hj:j<n:=by omega
  obtain⟨ad,hA,hv,hc,_⟩:=(hL.ext E2).at_ (i:=(j:Int)) (by omega) (by omega)
  obtain⟨od,hOd,hov,hoc,hof⟩:=hO.at_ (i:=(j:Int)) (by omega) (by omega)
  have gx:=lim.lo.lg j
  have gy:=lik.lo.lg j
  simp only[Int.toNat_natCast] at hc hoc hof
  have step:∀b' d:Nat,b'<=1->d<BB->d+lg k j+b=lg l j+BB*b'->∀w3,w3=w2.setCell (od.add (j*1)) (u32 d)->∃k2,k2<n-j/\∃o:List Nat,∃b:Nat,k2=n-(IntKind.wrap .i64 ((j:Int)+1)).toNat/\0<=IntKind.wrap .i64 ((j:Int)+1)/\IntKind.wrap .i64 ((j:Int)+1)<=n/\(b':Int)=(b:Int)/\b<=1/\LR w3 (some ⟨w.heap.size,0,none⟩) n n o/\Lo o/\nv (o.take (IntKind.wrap .i64 ((j:Int)+1)).toNat)+nv (k.take (IntKind.wrap .i64 ((j:Int)+1)).toNat)=nv (l.take (IntKind.wrap .i64 ((j:Int)+1)).toNat)+BB^(IntKind.wrap .i64 ((j:Int)+1)).toNat*b/\Ext w w3:=fun b' d hb' hd he w3 hw=>by
   obtain⟨hO',hK'⟩:=hO.put hOd hj hw
   rw[wrap_i64 (by omega) (by omega)]
   rw[show((j:Int)+1).toNat=j+1 by omega]
   refine⟨n-(j+1),by omega,o.set j d,b',rfl,by omega,by omega,rfl,hb',hO',lo.set hd,aEu (by omega) (by omega) hs he,E2.over hK' fun i hi ha=> ?_⟩
   have:=at_new ha
   omega
  have J:∀s:Nat,s=b+lg k j->mM (lg l j:Int) (j:Int) n (some ⟨w.heap.size,0,none⟩) w2 (n-j) (fun q x1 i w2=>∃o:List Nat,∃b:Nat,q=n-i.toNat/\0<=i/\i<=n/\x1=(b:Int)/\b<=1/\LR w2 (some ⟨w.heap.size,0,none⟩) n n o/\Lo o/\nv (o.take i.toNat)+nv (k.take i.toNat)=nv (l.take i.toNat)+BB^i.toNat*b/\Ext w w2) (s:Int):=fun s hs'=>by
   refine⟨fun hlt2=> ?_,fun hge2=> ?_⟩
   ·refine⟨by omega,by omega,od,hOd,⟨_,hoc⟩,hof,fun w3 hw=> ?_⟩
    refine step 1 (lg l j+BB-s) (by omega) (by omega) (by omega) w3 ?_
    have ev:IntKind.wrap .u32 (IntKind.wrap .u32 ((lg l j:Int)+1000000000)-(s:Int))=((lg l j+BB-s:Nat):Int):=by
     rw[wrap_u32 (i:=(lg l j:Int)+1000000000) (by omega) (by omega),wrap_u32 (by omega) (by omega)]
     omega
    rw[hw,ev,Int.toNat_natCast]
    rfl
   ·refine⟨by omega,by omega,od,hOd,⟨_,hoc⟩,hof,fun w3 hw=> ?_⟩
    refine step 0 (lg l j-s) (by omega) (by omega) (by omega) w3 ?_
    have ev:IntKind.wrap .u32 ((lg l j:Int)-(s:Int))=((lg l j-s:Nat):Int):=by
     rw[wrap_u32 (by omega) (by omega)]
     omega
    rw[hw,ev,Int.toNat_natCast]
    rfl
  refine⟨by omega,by omega,ad,hA,_,hc,fun hm=> ?_,fun hm=> ?_⟩
  ·obtain⟨be,hBe,hv',hc',_⟩:=(hK.ext E2).at_ (i:=(j:Int)) (by omega) (by omega)
   refine⟨by omega,hm,be,hBe,_,hc',?_⟩
   simp only[Int.toNat_natCast]
   rw[wrap_u32 (by omega) (by omega)]
   exact J (b+lg k j) rfl
  ·have:lg k j=0:=Ox (by omega)
   exact J b (by omega)
 ·have hj:j=l.length:=by omega
  subst hj
  obtain⟨e1,e2⟩:=aGp (by omega) lo hmn hle hs
  refine aS.mono (Ut hO lo hn0) (by
   rintro _ w4 ⟨rfl,m',rfl,hm',hN⟩
   rw[e2] at hN
   exact⟨_,_,_,rfl,E2,hN,fun b hb=>by have:=at_new hb;omega⟩)
end
def kv (k:IntKind) (x:Nat):Value:= .int k (x:Int)
abbrev KR (e:TypeId) (k:IntKind) (w:World) (A:Option Addr) (n c:Nat) (l:List Nat):Prop:=Row w 0 e 1 A n c (l.map (kv k))
section
variable {e t:TypeId} {k:IntKind} {w w':World} {A:Option Addr} {n c b:Nat} {l:List Nat}
theorem KR.len (h:KR e k w A n c l):l.length=n:=by have:=h.1;simpa using this
theorem KR.at_ (h:KR e k w A n c l) {i:Int} (h0:0<=i) (h1:i<n):∃ad,A=some ad/\l[i.toNat]? =some (lg l i.toNat)/\w.cell? (ad.add (i.toNat*1))=some (.int k (lg l i.toNat:Int))/\w.frozen? (ad.add (i.toNat*1))=false:=by
 obtain⟨ad,v,hA,hv,hc,hf⟩:=h.get h0 h1
 rw[List.getElem?_map,Option.map_eq_some_iff] at hv
 obtain⟨y,hy,rfl⟩:=hv
 have:=Zu hy
 subst this
 exact⟨ad,hA,hy,hc,hf⟩
theorem KR.nil (w:World):KR e k w none 0 0 []:=Row.nil _ _ _ _
theorem KR.ext (h:KR e k w A n c l) (x:Ext w w'):KR e k w' A n c l:=h.keep x fun _ _ h=>h
theorem KR.put (h:KR e k w A n c l) {a:Addr} (hA:A=some a) {j d:Nat} (hj:j<n) (hw:w'=w.setCell (a.add (j*1)) (.int k (d:Int))):KR e k w' A n c (l.set j d)/\Keep (At A) w w':=by
 have hl:=h.len
 have hw':w'=aX w (a.add j) [kv k d]:=by rw[hw,Nat.mul_one];simp[aX,bV,Addr.add_zero,kv]
 obtain⟨h1,h2⟩:=Row.put h hA (j:=j) (us:=[kv k d]) (by simp;omega) hw'
 refine⟨?_,h2⟩
 unfold KR
 rw[List.map_set,List.set_eq_take_append_cons_drop,if_pos (by simp;omega)]
 simpa using h1
theorem KR.cut (h:KR e k w A n c l) {m:Nat} (hm:m<=n):KR e k w A m c (l.take m):=by
 have:=Row.cut h (m:=m) (d:=c) hm (Nat.le_trans hm h.le) (Nat.le_refl _)
 rwa [Nat.mul_one,<-List.map_take] at this
theorem aJ0 (hi:Ih P e=some (1,b,1)) (hz0:(P.info? e).bind (·.zero)=some (.int k 0)):∃i,P.info? e=some i/\i.size=1/\i.bytes=b/\i.zero=some (.int k 0):=by
 unfold Ih at hi
 obtain⟨i,hi1,hi2⟩:=Option.bind_eq_some_iff.1 hi
 obtain⟨z,hz,hq⟩:=Option.map_eq_some_iff.1 hi2
 injection hq with q1 q2
 injection q2 with q2 q3
 rw[hi1] at hz0
 exact⟨i,hi1,q1,q2,hz0⟩
theorem aKg (k:IntKind) (n:Nat):(madeCells (Value.int k 0).cells (n*1)).toList=(List.replicate n 0).map (kv k):=by
 have e:(Value.int k 0).cells= #[.int k 0]:=by rfl
 rw[e]
 apply List.ext_getElem
 ·simp[madeCells]
 ·intro i h1 h2
  simp[madeCells,Nat.mod_one,kv]
theorem KR.make (ht:jC P t=some e) (hi:Ih P e=some (1,b,1)) (hz:(P.info? e).bind (·.zero)=some (.int k 0)) (hb:b<=8) (hn:Sn n):∃w',(Instr.makeSlice t (.int .i64 (n:Int)) (.int .i64 (n:Int))).run P w= .ok (.slice (some ⟨w.heap.size,0,none⟩) n n) w'/\KR e k w' (some ⟨w.heap.size,0,none⟩) n n (List.replicate n 0)/\Ext w w':=by
 obtain⟨i,hi,h1,h2,hz⟩:=aJ0 hi hz
 unfold Sn at hn
 have hm:b*n<=8*n:=Nat.mul_le_mul_right _ hb
 obtain⟨w',hr,ho,hg⟩:=run_make_full (P:=P) w w.heap.size t e i _ 1 (jD ht) hi hz h1 .i64 .i64 n (by rw[h2];omega) (by simp only[maxLen];omega) (Nat.le_refl _)
 rw[aKg] at ho
 exact⟨w',hr,(Own.row ho).Xa (Nat.zero_le _),⟨hg.size,hg.os,hg.tape,hg.output,fun b hb _=>hg.block b hb (by simp)⟩⟩
theorem KR.Qi (ht:jC P t=some e) (hi:Ih P e=some (1,b,1)) (hz:(P.info? e).bind (·.zero)=some (.int k 0)) (hb:b<=8) (hn:Sn n):∃w',(Instr.makeSlice t (.int .i64 0) (.int .i64 (n:Int))).run P w= .ok (.slice (some ⟨w.heap.size,0,none⟩) 0 n) w'/\KR e k w' (some ⟨w.heap.size,0,none⟩) 0 n []/\Ext w w':=by
 obtain⟨i,hi,h1,h2,hz⟩:=aJ0 hi hz
 unfold Sn at hn
 have hm:b*n<=8*n:=Nat.mul_le_mul_right _ hb
 obtain⟨w',hr,ho,hg⟩:=run_make_own (P:=P) w w.heap.size t e i _ 1 (jD ht) hi hz h1 .i64 .i64 n (by rw[h2];omega) (by simp only[maxLen];omega) (Nat.le_refl _)
 exact⟨w',hr,(Own.row ho).Xa (Nat.zero_le _),⟨hg.size,hg.os,hg.tape,hg.output,fun b hb _=>hg.block b hb (by simp)⟩⟩
theorem KR.push {w0 w1:World} {d:Nat} {p:Addr} {x:Nat} (h:KR e k w A n c l) (ht:jC P t=some e) (hi:Ih P e=some (1,b,1)) (hb:b<=8) (hA:∀b,At A b->w0.heap.size<=b) (E:Ext w0 w) {T:TypeId} (hN:New w (.cells #[.int k (d:Int)] T) p w1) (hn:Sn n):
  ∃A' c' w',(Builtin.append_ #[t,t] t #[.slice A n c,.slice (some p) 1 1]).run P w1= .ok (.slice A' (n+1) c') w'/\KR e k w' A' (n+1) c' (l++[d])/\Ext w0 w'/\∀b,At A' b->w0.heap.size<=b:=by
 unfold Sn at hn
 have hm:(n+1)*b<=(n+1)*8:=Nat.mul_le_mul_left _ hb
 have h1:=h.ext (Ext.bI hN)
 have E1:Ext w0 w1:=E.over (Ext.bI hN) fun _ _ f=>f
 obtain⟨A',c',w',hr,hR,hK,hB⟩:=Row.append (P:=P) (t:=t) (ty:=t) (by_:=b) (m:=1) (c2:=1) (news:=[kv k d]) (a:=p) h1 ht hi (by decide) rfl (hN.cells rfl) (by intro u hu;rcases List.mem_singleton.1 hu with rfl;rfl) (by omega) (by omega) (Nat.zero_le _)
 refine⟨A',c',w',hr,?_,?_,fun b hb=> ?_⟩
 ·unfold KR;rw[List.map_append];exact hR
 ·exact E1.over hK fun i hi ha=>by have:=hA i ha;omega
 ·rcases hB b hb with hb|hb
  ·exact hA b hb
  ·exact Nat.le_trans E1.size hb
end
end Go.Proofs.YtfedkedpgdphdaaGreatDoor
