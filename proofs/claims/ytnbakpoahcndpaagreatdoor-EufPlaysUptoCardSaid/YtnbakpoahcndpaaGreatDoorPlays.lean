/- The law EufPlays answers true at every input whose reading is of bulk at most 1048576, and the input reads as it did; the tables that it reads are tied to the program's text. Gathered by a program (pack.py) out of smaller texts. -/
import Derived.Test.YtnbakpoahcndpaaGreatDoorCommon7
import Derived.Test.YtnbakpoahcndpaaGreatDoorCards
import Derived.Test.YtnbakpoahcndpaaGreatDoorTie
import Derived.Deep.DeepHandedRow
set_option linter.unusedSectionVars false
set_option linter.unusedVariables false
set_option linter.unusedSimpArgs false
set_option maxHeartbeats 2000000
set_option maxRecDepth 20000
namespace Go.Proofs.YtnbakpoahcndpaaGreatDoor.eufPlays
open Go.ChangeShapes Go.WideShapes Go.ChangeAt Go.RowKit Wk Opn
set_option maxRecDepth 100000 in
theorem pow (H:Type) {W:World} (hL:laidMetH Tryz.prog Rows.eufPlaysUptoRow.laid W):yG W.heap.size W:=table (l:=Rows.eufPlaysUptoRow.laid) (by kernel_rfl) hL
set_option maxRecDepth 100000 in
theorem contract (H:Type) (enc:TypeId×Value->H) (W:World) (base:Nat) (args:Array Value) (ds gs:List (DataW H)) (before:List MemPlace)
  (hval:∀(j:Nat) t v,Tryz.f6.params[j]? =some t->args[j]? =some v->Value.okWide Tryz.prog W .any base t v)
  (hW:DataW.Whole enc Tryz.prog Tryz.f6.params.toList Rows.eufPlaysSpec.vars false W args.toList ds gs before) (hk:Rows.uptoSmall H (ds++gs)=true) (hL:laidMetH Tryz.prog Rows.eufPlaysUptoRow.laid W):
  Calls Tryz.prog 6 args W fun e W'=>∃v,e= .returned v/\Rows.eufPlaysSpec.post enc Tryz.prog Tryz.f6 false true false false W args v W':=by
 have hW':=hW
 obtain⟨p,q,hA0,hV,rfl,hfz,hnd⟩:=hW
 have hA:DataW.TrodAll enc Tryz.prog W 0 (fun _=>true) true Tryz.f6.params.toList args.toList ds p:=hA0
 rw[Tryz.params6] at hA hval
 obtain⟨v0,vs0,d0,ds0,p0,q0,hargs,rfl,rfl,h0,r0⟩:=trodAll_cons hA
 obtain⟨v1,vs1,d1,ds1,p1,q1,rfl,rfl,rfl,h1,r1⟩:=trodAll_cons r0
 obtain⟨rfl,rfl,rfl⟩:=trodAll_nil r1
 obtain rfl:args= #[v0,v1]:=by cases args;simp_all
 obtain⟨rfl,rfl⟩:=trodVars_none hV
 have few:=aNh hk
 have all:Rows.uptoBulkAll ([d0,d1]++([]:List (DataW H)))<=1048576:=of_decide_eq_true hk
 obtain⟨A0,n0,c0,nodes,rfl,s0,_,z0,m0⟩:=aE4 aNg (c:=aHp) aJ7 aEk (hval 0 _ v0 rfl rfl) h0 (few _ (by simp))
 obtain⟨A1,n1,c1,ops,rfl,s1,_,z1,m1⟩:=aE4 aR0 aQq aHj (hval 1 _ v1 rfl rfl) h1 (few _ (by simp))
 have k0:=h0
 have k1:=h1
 have lt0:∀x∈p0,x.block<W.heap.size:=by obtain⟨m,hm⟩:=k0;exact DataW.trod_lt m _ _ _ hm
 have lt1:∀x∈p1,x.block<W.heap.size:=by obtain⟨m,hm⟩:=k1;exact DataW.trod_lt m _ _ _ hm
 simp only[List.cons_append,List.nil_append,Rows.uptoBulkAll] at all
 rw[aIb] at m1
 obtain⟨y0,y64⟩:=aMu z0
 have e0:=z0.1
 have e1:=z1.1
 clear hA0
 subst e0
 refine(aMm y0 z1 (Nat.le_refl _) (pow H hL) (aKu (by omega) y64) (by omega)).mono fun e W' h=> ?_
 obtain⟨v,rfl,rfl,hE⟩:=h
 have bel:=below hE
 exact⟨_,rfl,_,_,_,[],_,[],hW',trodAll_mk1 (shut_bool (by kernel_rfl) _),
  (trodAll_cons_mk (Below.trod laidOut (by kernel_rfl) (of_decide_eq_true (by kernel_rfl)) k0 bel lt0) (trodAll_cons_mk (Below.trod laidOut (by kernel_rfl) (of_decide_eq_true (by kernel_rfl)) k1 bel lt1) trodAll_mk0)),rfl,bel.frame _,fun h=>(by cases h)⟩
def cellsIn:DataW Unit->Array Value
 | .agg l=>(l.map fun| .lit (.int k n)=>Value.int k n|_=> .bool false).toArray
 |_=> #[]
def put (cs:Array Value):Obj->Obj
 | .cells _ t frozen=> .cells cs t frozen
 |o=>o
noncomputable def laidWorld (os:Os):World:=
 {World.holding Tryz.prog os ⟨#[], #[],[]⟩ with heap:=(((World.holding Tryz.prog os ⟨#[], #[],[]⟩).heap.modify 0 (put (cellsIn Rows.laid_internal_strconv_uint64pow10))).modify 1 (put (cellsIn Rows.laid_math_bits_deBruijn32tab))).modify 2 (put (cellsIn Rows.laid_math_bits_deBruijn64tab))}
abbrev aDd:Array Value:= #[.slice none 0 0,.slice none 0 0]
theorem laid_met (os:Os):laidMet Tryz.prog Rows.eufPlaysUptoRow.laid ((laidWorld os).forCall (fun _ _=>0) ⟨#[],aDd,[]⟩).memory:=
 laidMet_of_run' 8 (by kernel_rfl) (by kernel_rfl)
theorem reads (os:Os) {H:Type} (enc:TypeId×Value->H):∃places,DataW.whole enc Tryz.prog ((laidWorld os).forCall (fun _ _=>0) ⟨#[],aDd,[]⟩).memory Tryz.f6.params.toList Rows.eufPlaysSpec.vars false aDd.toList 8=some ([.nil,.nil],[],places):=
 ⟨[],by kernel_rfl⟩
set_option maxRecDepth 100000 in
theorem lifted (os:Os) (started:os.Started) (H:Type) (enc:TypeId×Value->H) (F:Stop.Interp):
  ReturnsInHanded {} Tryz.checked os 6 .any ((Rows.OpenSpec.upto Rows.eufPlaysSpec).preRow enc Tryz.prog Tryz.f6 Rows.eufPlaysUptoRow.domain false Rows.eufPlaysUptoRow.laid) (((Rows.OpenSpec.upto Rows.eufPlaysSpec).at F).post enc Tryz.prog Tryz.f6 false true false false):=by
 obtain⟨places,hx⟩:=reads os enc
 refine returnsInHanded_of_row (C:=Tryz.checked) (s:=Rows.OpenSpec.upto Rows.eufPlaysSpec) own started (by kernel_rfl) Tryz.func6
  (witness_row_at (enc:=enc) (C:=Tryz.checked) false (laidWorld os) aDd rfl (by kernel_rfl) (by kernel_rfl) (by kernel_rfl)
   (OpenSpec.preRow_of_cond 8 hx (by kernel_rfl) (fun k hk=>by cases hk;kernel_rfl) (by kernel_rfl) (laid_met os))) ?_
 intro W base args ds gs before hval hW _ hcond _ hL _ _
 exact contract H enc W base args ds gs before hval hW (hcond _ rfl) hL
theorem said:Rows.EufPlaysUptoSaid:=
 OpenClaim.holds_of_cond 6 Tryz.f6 rfl rfl rfl rfl rfl rfl rfl ⟨rfl,rfl,rfl,rfl,rfl⟩ rfl rfl rfl rfl rfl (by kernel_rfl) Tryz.func6 (by kernel_rfl)
  (of_decide_eq_true (by kernel_rfl)) (by unfold Func.isWrapper;first|(rw[if_pos (by decide+kernel)];kernel_rfl)|(rw[if_neg (by decide+kernel)];exact⟨rfl,rfl⟩))
  (fun os started H enc _ F=>by rw[OpenClaim.pre_eq_preRow];exact lifted os started H enc F)
theorem plain (f:FuncId) (fn:Func) (hf:Tryz.pinned.checked.prog.funcNamed "arbiter/arbiterlaw13.EufPlays" =some f) (hfn:Tryz.pinned.checked.prog.funcs[f]? =some fn):
  false=Tryz.pinned.checked.prog.looks []/\∀(j:Nat) t,fn.params[j]? =some t->Tryz.pinned.checked.prog.wantsStandIn t=false:=by
 obtain rfl:f=6:=Option.some.inj ((show Tryz.prog.funcNamed "arbiter/arbiterlaw13.EufPlays" =some 6 by kernel_rfl).symm.trans hf)|>.symm
 obtain rfl:fn=Tryz.f6:=(Option.some.inj (Tryz.func6.symm.trans hfn)).symm
 refine⟨by kernel_rfl,fun j t ht=> ?_⟩
 rw[Tryz.params6] at ht
 have hm:=Array.mem_of_getElem? ht
 have w0:Tryz.prog.wantsStandIn T.fB=false:=by kernel_rfl
 have w1:Tryz.prog.wantsStandIn T.vT=false:=by kernel_rfl
 simp only[List.mem_toArray,List.mem_cons,List.not_mem_nil,or_false] at hm
 rcases hm with rfl|rfl
 ·exact w0
 ·exact w1
theorem proved:Rows.EufPlaysUptoCardSaid:=
 Claim7.holds_tied_plain_at .later [] _ _ _ _ said (fun _ h=>by cases h) (by kernel_rfl) (fun _ h=>by cases h) eufPlaysUpto_row_tie rfl ⟨rfl,rfl⟩ (by kernel_rfl) rfl plain (by kernel_rfl)
end Go.Proofs.YtnbakpoahcndpaaGreatDoor.eufPlays
