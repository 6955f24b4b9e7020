/- The law LinPicks answers true at every input whose reading is of bulk at most 1048576, and the input reads as it did; the tables that it reads are tied to the program's text. Gathered by a program (pack.py) out of smaller texts. -/
import Derived.Test.YtfedkedpgdphdaaGreatDoorLinPicks4
import Derived.Test.YtfedkedpgdphdaaGreatDoorRows
import Derived.WalkKit
import Derived.ProofKit
import Derived.OpenShut
import Derived.JoinedCond
import Derived.Deep.Slices
import Derived.Carry
import Derived.Test.YtfedkedpgdphdaaGreatDoorCards
import Derived.Test.YtfedkedpgdphdaaGreatDoorTie
import Derived.Deep.DeepHandedRow
set_option linter.unusedSectionVars false
set_option linter.unusedVariables false
set_option linter.unusedSimpArgs false
set_option linter.deprecated false
set_option linter.unnecessarySimpa false
set_option maxHeartbeats 2000000
set_option maxRecDepth 20000
namespace Go.Proofs.YtfedkedpgdphdaaGreatDoor
open Wk Go.ChangeShapes Go.WideShapes Go.Deep Go.RowKit
namespace Opn
theorem one_le {H:Type} (d:DataW H):1<=Rows.uptoBulk d:=by
 cases d with
 |lit l=>cases l<;>simp[Rows.uptoBulk]
 |nil=>simp[Rows.uptoBulk]
 |ptr d=>simp[Rows.uptoBulk]
 |slice elems spare=>simp[Rows.uptoBulk]
 |agg parts=>simp[Rows.uptoBulk]
 |iface t d=>simp[Rows.uptoBulk]
 |map entries=>simp[Rows.uptoBulk]
 |held h=>simp[Rows.uptoBulk]
theorem aDn {H:Type} {d:DataW H} {l:List (DataW H)} (h:d∈l):Rows.uptoBulk d<=Rows.uptoBulkAll l:=by
 induction l with
 |nil=>cases h
 |cons x r ih=>
  simp only[Rows.uptoBulkAll]
  cases List.mem_cons.1 h with
  |inl e=>subst e;omega
  |inr e=>have:=ih e;omega
theorem length_le {H:Type} (l:List (DataW H)):l.length<=Rows.uptoBulkAll l:=by
 induction l with
 |nil=>simp[Rows.uptoBulkAll]
 |cons x r ih=>have:=one_le x;simp only[Rows.uptoBulkAll,List.length_cons];omega
abbrev Few {H:Type} (d:DataW H):Prop:=Rows.uptoBulk d<=1048576
theorem aG7 {H:Type} {es sp:List (DataW H)} (h:Few (.slice es sp)):es.length<=1048576/\∀d∈es,Few d:=by
 unfold Few at h
 simp only[Rows.uptoBulk] at h
 have h1:=length_le es
 refine⟨by omega,fun d hd=> ?_⟩
 have:=aDn hd
 unfold Few
 omega
theorem aJf {H:Type} {es:List (DataW H)} (h:Few (.agg es)):∀d∈es,Few d:=by
 unfold Few at h
 simp only[Rows.uptoBulk] at h
 intro d hd
 have:=aDn hd
 unfold Few
 omega
theorem aKq {H:Type} {l:List (DataW H)} (h:Rows.uptoSmall H l=true):∀d∈l,Few d:=by
 have h:=of_decide_eq_true h
 intro d hd
 have:=aDn hd
 unfold Few
 omega
theorem aCl {α β:Type} {f:α->Option β}:∀{l:List α} {r:List β},l.mapM f=some r->r.length=l.length/\∀(i:Nat) x,l[i]? =some x->f x=r[i]?
 |[],r,h=>by simp at h;subst h;simp
 |a::l,r,h=>by
  rw[List.mapM_cons] at h
  cases hf:f a with
  |none=>rw[hf] at h;cases h
  |some b=>
   cases hm:l.mapM f with
   |none=>rw[hf,hm] at h;cases h
   |some s=>
    rw[hf,hm] at h
    cases h
    obtain⟨h1,h2⟩:=aCl hm
    refine⟨by simp[h1],fun i x hx=> ?_⟩
    cases i with
    |zero=>simp at hx;subst hx;simpa using hf
    |succ i=>simpa using h2 i x (by simpa using hx)
theorem aF1 {w:World} {base:Nat} {a:Addr} {n:Nat} {cs:List Value} (h:w.cells? base a n=some cs):cs.length=n/\bC w a cs:=by
 unfold World.cells? at h
 split at h
 ·obtain⟨h1,h2⟩:=aCl h
  rw[List.length_range] at h1
  refine⟨h1,fun j v hv=> ?_⟩
  have hj:=(List.getElem?_eq_some_iff.1 hv).1
  rw[h2 j j (by rw[List.getElem?_range (by omega)]),hv]
 ·cases h
section
variable {P:Program}
def fieldsOf (P:Program) (t:TypeId):Option (List (TypeId×Nat×Nat)):=match P.underlying t with
 |some (.struct fs)=>some (fs.toList.map fun f=>(f.type,f.offset,P.cellsOf f.type))
 |_=>none
end
theorem below {W W':World} (h:Ext W W'):Below W.heap.size W W':=⟨h.os,h.tape,h.output,h.size,fun k hk=>h.block k hk fun h=>h⟩
end Opn
open Wk Go.ChangeShapes Go.WideShapes Go.Deep Go.RowKit
namespace Opn
theorem aAc {α H:Type} {m:α->Nat}:∀{xs:List α} {ds:List (DataW H)},xs.length=ds.length->(∀(i:Nat) x d,xs[i]? =some x->ds[i]? =some d->m x<=Rows.uptoBulk d)->(xs.map m).sum<=Rows.uptoBulkAll ds
 |[],[],_,_=>by simp
 |x::xs,d::ds,hl,h=>by
  have h0:=h 0 x d rfl rfl
  have:=aAc (m:=m) (xs:=xs) (ds:=ds) (by simpa using hl) fun i x d hx hd=>h (i+1) x d (by simpa using hx) (by simpa using hd)
  simp only[List.map_cons,List.sum_cons,Rows.uptoBulkAll]
  omega
 |[],_::_,hl,_=>by simp at hl
 |_::_,[],hl,_=>by simp at hl
section
variable {P:Program}
def aBg (P:Program) {α:Type} (c:Cod α) (m:α->Nat) (t:TypeId):Prop:=
 ∀{H:Type} {enc:TypeId×Value->H} {w:World} {base:Nat} {spare:Nat->Bool} {held:Bool} {fuel:Nat} {cs:List Value} {x:DataW H×List MemPlace},DataW.trod enc P w base spare held fuel t cs=some x->Few x.1->cs.length=c.size/\∃a,c.rd w cs a/\m a<=Rows.uptoBulk x.1
theorem aHg {α:Type} {c:Cod α} {m:α->Nat} {t e:TypeId} (ht:jC P t=some e) (hc:P.cellsOf e=c.size) (ho:aBg P c m e) {H:Type} {enc:TypeId×Value->H} {w:World} {base:Nat} {spare:Nat->Bool} {held:Bool} {fuel:Nat} {cs:List Value} {x:DataW H×List MemPlace}
  (h:DataW.trod enc P w base spare held fuel t cs=some x) (hf:Few x.1):∃A n cp xs,cs=[.slice A n cp]/\n<=1048576/\n<=cp/\Sl c w A n xs/\(xs.map m).sum+1<=Rows.uptoBulk x.1:=by
 rcases open_slice (jD ht) h with⟨rfl,rfl⟩|⟨a,len,cap,m',n,D,Pl,rfl,hb,hl,hm,hmm,rfl,hx⟩
 ·exact⟨none,0,0,[],rfl,by omega,by omega,Sl.nil _ _ _,by simp[Rows.uptoBulk]⟩
 ·obtain⟨h1,h2⟩:=aG7 hf
  simp only[List.length_map,List.length_range] at h1
  have key:∀i:Fin len,∃y,(∃vs,vs.length=c.size/\bC w (a.add (i.1*c.size)) vs/\c.rd w vs y)/\m y<=Rows.uptoBulk (D i.1):=by
   intro i
   have hi:=i.2
   obtain⟨cs',hcs,ht'⟩:=hx i.1 (by rw[hmm];split<;>omega)
   obtain⟨g1,g2⟩:=aF1 hcs
   obtain⟨g3,y,g4,g5⟩:=ho ht' (h2 _ (List.mem_map.2 ⟨i.1,by simp[hi],rfl⟩))
   exact⟨y,⟨cs',g3,by rw[<-hc];exact g2,g4⟩,g5⟩
  refine⟨some a,len,cap,List.ofFn fun i=>(key i).choose,rfl,h1,hl,⟨by simp,fun i y hy=> ?_⟩,?_⟩
  ·rw[List.getElem?_ofFn] at hy
   split at hy
   ·rename_i hi
    cases hy
    obtain⟨vs,k1,k2,k3⟩:=(key ⟨i,hi⟩).choose_spec.1
    exact⟨a,vs,rfl,k1,k2,k3⟩
   ·cases hy
  ·have:=aAc (m:=m) (xs:=List.ofFn fun i=>(key i).choose) (ds:=(List.range len).map D) (by simp) fun i x d hx hd=>by
    rw[List.getElem?_ofFn] at hx
    split at hx
    ·rename_i hi
     cases hx
     rw[List.getElem?_map,List.getElem?_range hi] at hd
     cases hd
     exact(key ⟨i,hi⟩).choose_spec.2
    ·cases hx
   simp only[Rows.uptoBulk]
   omega
theorem Xx {t:TypeId} {L:List (TypeId×Nat×Nat)} (ht:fieldsOf P t=some L) {H:Type} {enc:TypeId×Value->H} {w:World} {base:Nat} {spare:Nat->Bool} {held:Bool} {fuel:Nat} {cs:List Value} {x:DataW H×List MemPlace}
  (h:DataW.trod enc P w base spare held fuel t cs=some x) (hf:Few x.1):
  cs.length=P.cellsOf t/\∃(n:Nat) (ys:List (DataW H)),Rows.uptoBulk x.1=Rows.uptoBulkAll ys+1/\ys.length=L.length/\∀(i:Nat) ty off sz,L[i]? =some (ty,off,sz)->∃y,DataW.trod enc P w base spare held n ty ((cs.drop off).take sz)=some y/\Few y.1/\ys[i]? =some y.1:=by
 unfold fieldsOf at ht
 split at ht
 ·rename_i fs hfs
  cases ht
  obtain⟨xs,n,rfl,rfl,hl,hlen,hff⟩:=DataW.trod_struct hfs h
  refine⟨hl,n,xs.map (·.1),by simp only[Rows.uptoBulk],by simp[hlen],fun i ty off sz hi=> ?_⟩
  rw[List.getElem?_map] at hi
  cases hq:fs.toList[i]? with
  |none=>rw[hq] at hi;cases hi
  |some f=>
   rw[hq] at hi
   simp only[Option.map_some,Option.some.injEq,Prod.mk.injEq] at hi
   obtain⟨rfl,rfl,rfl⟩:=hi
   have hi':=(List.getElem?_eq_some_iff.1 hq).1
   rw[Array.length_toList] at hi'
   have h1:=hff i f (by rw[<-hq,Array.getElem?_toList])
   have hxi:i<xs.length:=by omega
   rw[List.getElem?_eq_getElem hxi] at h1
   exact⟨_,h1,aJf hf _ (List.mem_map.2 ⟨_,List.getElem_mem hxi,rfl⟩),by rw[List.getElem?_map,List.getElem?_eq_getElem hxi];rfl⟩
 ·cases ht
theorem aJi {α:Type} {c:Cod α} {m:α->Nat} {t e:TypeId} (ht:jC P t=some e) (hc:P.cellsOf e=c.size) (ho:aBg P c m e) {H:Type} {enc:TypeId×Value->H} {w:World} {base b0:Nat} {r:Reach} {spare:Nat->Bool} {held:Bool} {v:Value} {d:DataW H} {ps:List MemPlace}
  (hv:Value.okWide P w r b0 t v) (h:DataW.Trod enc P w base spare held t v d ps) (hf:Few d):∃A n cp xs,v= .slice A n cp/\n<=1048576/\n<=cp/\Sl c w A n xs/\(xs.map m).sum+1<=Rows.uptoBulk d:=by
 obtain⟨A,n,cp,rfl⟩:=okWide_slice (jD ht) hv
 obtain⟨fuel,h⟩:=h
 obtain⟨A',n',cp',xs,hcs,hn,hle,hs,hm⟩:=aHg ht hc ho h hf
 simp only[Value.cells,List.cons.injEq,Value.slice.injEq,and_true] at hcs
 obtain⟨rfl,rfl,rfl⟩:=hcs
 exact⟨_,_,_,xs,rfl,hn,hle,hs,hm⟩
end
theorem own:ownKnob Tryz.prog.godebug=none:=by kernel_rfl
theorem laidOut:laidOutB Tryz.prog=true:=by kernel_rfl
theorem two {α:Type} {cs:List α} (h:cs.length=2):∃a b,cs=[a,b]:=by
 match cs,h with
 |[a,b],_=>exact⟨a,b,rfl⟩
end Opn
open Wk Go.ChangeShapes Go.WideShapes Go.Deep Go.RowKit
namespace Opn
theorem aLl:P.underlying T.string=some .string:=by kernel_rfl
theorem aB1:aBg P cStr (fun s=>s.size) T.string:=by
 intro H enc w base spare held fuel cs x h _
 obtain⟨s,rfl,rfl,_⟩:=DataW.trod_string aLl h
 refine⟨rfl,s,rfl,?_⟩
 show s.size<=(bl s).length+1
 rw[eY]
 exact Nat.le_succ _
theorem aKf:fieldsOf P T.gK=some [(T.string,0,1),(T.string,1,1)]:=by kernel_rfl
theorem aK8:fieldsOf P T.iU=some [(T.gK,0,2),(T.gK,2,2)]:=by kernel_rfl
theorem aIy:P.cellsOf T.gK=2:=by kernel_rfl
theorem aH4:P.cellsOf T.iU=4:=by kernel_rfl
theorem aKk:jC P T.fC=some T.iU:=by kernel_rfl
theorem Yk:aBg P Zi (fun x=>x.1.size+x.2.size) T.gK:=by
 intro H enc w base spare held fuel cs x h hf
 obtain⟨hl,n,ys,hb,hyl,hfs⟩:=Xx aKf h hf
 rw[aIy] at hl
 obtain⟨a,b,rfl⟩:=two hl
 obtain⟨z0,z1,rfl⟩:=two hyl
 obtain⟨y0,h0,f0,g0⟩:=hfs 0 _ _ _ rfl
 obtain⟨y1,h1,f1,g1⟩:=hfs 1 _ _ _ rfl
 cases g0
 cases g1
 obtain⟨_,s,e0,m0⟩:=aB1 h0 f0
 obtain⟨_,t,e1,m1⟩:=aB1 h1 f1
 have m0:s.size<=_:=m0
 have m1:t.size<=_:=m1
 have e0:[a]=[.string s]:=e0
 have e1:[b]=[.string t]:=e1
 cases e0
 cases e1
 refine⟨rfl,(s,t),rfl,?_⟩
 rw[hb]
 show s.size+t.size<=_
 simp only[Rows.uptoBulkAll]
 omega
theorem four {α:Type} {cs:List α} (h:cs.length=4):∃a b c d,cs=[a,b,c,d]:=by
 match cs,h with
 |[a,b,c,d],_=>exact⟨a,b,c,d,rfl⟩
def szP (x:PT):Nat:=x.1.1.size+x.1.2.size+(x.2.1.size+x.2.2.size)
theorem aEz:aBg P zT szP T.iU:=by
 intro H enc w base spare held fuel cs x h hf
 obtain⟨hl,n,ys,hb,hyl,hfs⟩:=Xx aK8 h hf
 rw[aH4] at hl
 obtain⟨a,b,c,d,rfl⟩:=four hl
 obtain⟨z0,z1,rfl⟩:=two hyl
 obtain⟨y0,h0,f0,g0⟩:=hfs 0 _ _ _ rfl
 obtain⟨y1,h1,f1,g1⟩:=hfs 1 _ _ _ rfl
 cases g0
 cases g1
 obtain⟨_,s,e0,m0⟩:=Yk h0 f0
 obtain⟨_,t,e1,m1⟩:=Yk h1 f1
 have m0:s.1.size+s.2.size<=_:=m0
 have m1:t.1.size+t.2.size<=_:=m1
 have e0:[a,b]=[.string s.1,.string s.2]:=e0
 have e1:[c,d]=[.string t.1,.string t.2]:=e1
 cases e0
 cases e1
 refine⟨rfl,(s,t),rfl,?_⟩
 rw[hb]
 show s.1.size+s.2.size+(t.1.size+t.2.size)<=_
 simp only[Rows.uptoBulkAll]
 omega
theorem aH8 {α:Type} {m:α->Nat}:∀{l:List α} {x:α},x∈l->m x<=(l.map m).sum
 |y::l,x,h=>by
  simp only[List.map_cons,List.sum_cons]
  rcases List.mem_cons.1 h with rfl|h
  ·omega
  ·have:=aH8 (m:=m) h
   omega
end Opn
end Go.Proofs.YtfedkedpgdphdaaGreatDoor
namespace Go.Proofs.YtfedkedpgdphdaaGreatDoor.linPicks
open Go.ChangeShapes Go.WideShapes Go.ChangeAt Go.RowKit Wk Opn
set_option maxRecDepth 100000 in
theorem contract (H:Type) (enc:TypeId×Value->H) (W:World) (base:Nat) (args:Array Value) (ds gs:List (DataW H)) (before:List MemPlace)
  (hval:∀(j:Nat) t v,Tryz.f3.params[j]? =some t->args[j]? =some v->Value.okWide Tryz.prog W .any base t v)
  (hW:DataW.Whole enc Tryz.prog Tryz.f3.params.toList Rows.linPicksSpec.vars false W args.toList ds gs before) (hk:Rows.uptoSmall H (ds++gs)=true) (hL:laidMetH Tryz.prog Rows.linPicksUptoRow.laid W):
  Calls Tryz.prog 3 args W fun e W'=>∃v,e= .returned v/\Rows.linPicksSpec.post enc Tryz.prog Tryz.f3 false true false false W args v W':=by
 have hW':=hW
 obtain⟨p,q,hA0,hV,rfl,hfz,hnd⟩:=hW
 have hA:DataW.TrodAll enc Tryz.prog W 0 (fun _=>true) true Tryz.f3.params.toList args.toList ds p:=hA0
 rw[Tryz.params3] at hA hval
 obtain⟨v0,vs0,d0,ds0,p0,q0,hargs,rfl,rfl,h0,r0⟩:=trodAll_cons hA
 obtain⟨rfl,rfl,rfl⟩:=trodAll_nil r0
 obtain rfl:args= #[v0]:=by cases args;simp_all
 obtain⟨rfl,rfl⟩:=trodVars_none hV
 have few:=aKq hk
 have all:Rows.uptoBulkAll ([d0]++([]:List (DataW H)))<=1048576:=of_decide_eq_true hk
 obtain⟨A0,n0,c0,xs,rfl,s0,_,z0,m0⟩:=aJi aKk aH4 aEz (hval 0 _ v0 rfl rfl) h0 (few _ (by simp))
 have k0:=h0
 have lt0:∀x∈p0,x.block<W.heap.size:=by obtain⟨m,hm⟩:=k0;exact DataW.trod_lt m _ _ _ hm
 simp only[List.cons_append,List.nil_append,Rows.uptoBulkAll] at all
 have sz:∀x∈xs,TmD x.1/\TmD x.2:=fun x hx=>by
  have h:x.1.1.size+x.1.2.size+(x.2.1.size+x.2.2.size)<=(xs.map szP).sum:=aH8 (m:=szP) hx
  exact⟨⟨by unfold Tm;omega,by unfold Tm;omega⟩,by unfold Tm;omega,by unfold Tm;omega⟩
 clear hA0
 refine(aEt c0 z0 sz (by omega)).mono fun e W' h=> ?_
 obtain⟨v,rfl,rfl,hE⟩:=h
 have bel:=below hE
 exact⟨_,rfl,_,_,_,[],_,[],hW',trodAll_mk1 (shut_bool (by kernel_rfl) _),
  (trodAll_cons_mk (Below.trod laidOut (by kernel_rfl) (of_decide_eq_true (by kernel_rfl)) k0 bel lt0) trodAll_mk0),rfl,bel.frame _,fun h=>(by cases h)⟩
def cellOf:DataW Unit->Value
 | .lit (.int k n)=> .int k n
 |_=> .bool false
def cellsIn:DataW Unit->Array Value
 | .agg l=>(l.flatMap fun| .agg m=>m.map cellOf|d=>[cellOf d]).toArray
 |_=> #[]
def put (cs:Array Value):Obj->Obj
 | .cells _ t frozen=> .cells cs t frozen
 |o=>o
noncomputable def laidWorld (os:Os):World:=
 {World.holding Tryz.prog os ⟨#[], #[],[]⟩ with heap:=(((World.holding Tryz.prog os ⟨#[], #[],[]⟩).heap.modify 1 (put (cellsIn Rows.laid_unicode_utf8_first))).modify 2 (put (cellsIn Rows.laid_unicode_utf8_acceptRanges)))}
abbrev aF7:Array Value:= #[.slice none 0 0]
theorem laid_met (os:Os):laidMet Tryz.prog Rows.linPicksUptoRow.laid ((laidWorld os).forCall (fun _ _=>0) ⟨#[],aF7,[]⟩).memory:=
 laidMet_of_run' 8 (by kernel_rfl) (by kernel_rfl)
theorem reads (os:Os) {H:Type} (enc:TypeId×Value->H):∃places,DataW.whole enc Tryz.prog ((laidWorld os).forCall (fun _ _=>0) ⟨#[],aF7,[]⟩).memory Tryz.f3.params.toList Rows.linPicksSpec.vars false aF7.toList 8=some ([.nil],[],places):=
 ⟨[],by kernel_rfl⟩
set_option maxRecDepth 100000 in
theorem lifted (os:Os) (started:os.Started) (H:Type) (enc:TypeId×Value->H) (F:Stop.Interp):
  ReturnsInHanded {} Tryz.checked os 3 .any ((Rows.OpenSpec.upto Rows.linPicksSpec).preRow enc Tryz.prog Tryz.f3 Rows.linPicksUptoRow.domain false Rows.linPicksUptoRow.laid) (((Rows.OpenSpec.upto Rows.linPicksSpec).at F).post enc Tryz.prog Tryz.f3 false true false false):=by
 obtain⟨places,hx⟩:=reads os enc
 refine returnsInHanded_of_row (C:=Tryz.checked) (s:=Rows.OpenSpec.upto Rows.linPicksSpec) own started (by kernel_rfl) Tryz.func3
  (witness_row_at (enc:=enc) (C:=Tryz.checked) false (laidWorld os) aF7 rfl (by kernel_rfl) (by kernel_rfl) (by kernel_rfl)
   (OpenSpec.preRow_of_cond 8 hx (by kernel_rfl) (fun k hk=>by cases hk;kernel_rfl) (by kernel_rfl) (laid_met os))) ?_
 intro W base args ds gs before hval hW _ hcond _ hL _ _
 exact contract H enc W base args ds gs before hval hW (hcond _ rfl) hL
theorem aKz {a b:Bool} (h:a=true) (g:b=true):(a&&b)=true:=by rw[h,g];rfl
set_option maxHeartbeats 8000000 in
theorem closed:joinedFacts Tryz.pinned.checked.prog 3 Tryz.f3 (Rows.OpenSpec.upto Rows.linPicksSpec).bare Rows.linPicksUptoRow=true:=by
 unfold joinedFacts
 repeat' (with_reducible refine aKz ?_ ?_)
 all_goals (as_aux_lemma=>kernel_rfl)
theorem said:Rows.LinPicksUptoSaid:=
 OpenClaim.holds_of_cond 3 Tryz.f3 rfl rfl rfl rfl rfl rfl rfl ⟨rfl,rfl,rfl,rfl,rfl⟩ rfl rfl rfl rfl rfl (by kernel_rfl) Tryz.func3 closed
  (of_decide_eq_true (by kernel_rfl)) (by unfold Func.isWrapper;first|(rw[if_pos (by decide+kernel)];kernel_rfl)|(rw[if_neg (by decide+kernel)];exact⟨rfl,rfl⟩))
  (fun os started H enc _ F=>by rw[OpenClaim.pre_eq_preRow];exact lifted os started H enc F)
theorem plain (f:FuncId) (fn:Func) (hf:Tryz.pinned.checked.prog.funcNamed "arbiter/arbiterlaw2.LinPicks" =some f) (hfn:Tryz.pinned.checked.prog.funcs[f]? =some fn):
  false=Tryz.pinned.checked.prog.looks []/\∀(j:Nat) t,fn.params[j]? =some t->Tryz.pinned.checked.prog.wantsStandIn t=false:=by
 obtain rfl:f=3:=Option.some.inj ((show Tryz.prog.funcNamed "arbiter/arbiterlaw2.LinPicks" =some 3 by kernel_rfl).symm.trans hf)|>.symm
 obtain rfl:fn=Tryz.f3:=(Option.some.inj (Tryz.func3.symm.trans hfn)).symm
 refine⟨by kernel_rfl,fun j t ht=> ?_⟩
 rw[Tryz.params3] at ht
 have hm:=Array.mem_of_getElem? ht
 have w0:Tryz.prog.wantsStandIn T.fC=false:=by kernel_rfl
 simp only[List.mem_toArray,List.mem_cons,List.not_mem_nil,or_false] at hm
 subst hm
 exact w0
theorem proved:Rows.LinPicksUptoCardSaid:=
 Claim7.holds_tied_plain_at .later [] _ _ _ _ said (fun _ h=>by cases h) (by kernel_rfl) (fun _ h=>by cases h) linPicksUpto_row_tie rfl ⟨rfl,rfl⟩ (by kernel_rfl) rfl plain (by kernel_rfl)
end Go.Proofs.YtfedkedpgdphdaaGreatDoor.linPicks
