/- Towards: The law EufBirkhoff answers true at every input whose reading is of bulk at most 1048576, and the input reads as it did; the tables that it reads are tied to the program's text. Gathered by a program (pack.py) out of smaller texts. -/
import Derived.Test.YtbmbhfghpidggaaDoorBirk4
set_option linter.unusedSectionVars false
namespace Go.Proofs.YtbmbhfghpidggaaDoor
set_option linter.unusedVariables false
set_option linter.unusedSimpArgs false
open Wk
def stepL (g:GS):Nat:=3*g.nodes.length+2
def costL (g:GS) (n:Nat):Nat:=2+stepL g*(nodeOf g.nodes (n:Int)).args.length
def InJ (g:GS) (us:List Edge) (J:Nat) (n:Int):Prop:=∃j,j<J∧At_ g.why us n j
open Classical in
noncomputable def phiT (g:GS) (us:List Edge) (J:Nat) (of:List (Int×Int)) (i:Nat):Nat:=if (aget of (i:Int)).isSome=true∨¬InJ g us J (i:Int) then 0 else costL g i
noncomputable def phi (g:GS) (us:List Edge) (J:Nat) (of:List (Int×Int)):Nat:=((List.range g.nodes.length).map (phiT g us J of)).sum
theorem phiT_some {g:GS} {us:List Edge} {J:Nat} {of:List (Int×Int)} {i:Nat} (h:(aget of (i:Int)).isSome=true):phiT g us J of i=0:=by unfold phiT;rw[if_pos (.inl h)]
theorem phiT_out {g:GS} {us:List Edge} {J:Nat} {of:List (Int×Int)} {i:Nat} (h:¬InJ g us J (i:Int)):phiT g us J of i=0:=by unfold phiT;rw[if_pos (.inr h)]
theorem phiT_in {g:GS} {us:List Edge} {J:Nat} {of:List (Int×Int)} {i:Nat} (h:aget of (i:Int)=none) (hJ:InJ g us J (i:Int)):phiT g us J of i=costL g i:=by unfold phiT;rw[if_neg (by rw[h];simp[hJ])]
theorem phiT_le {g:GS} {us:List Edge} {J:Nat} {of:List (Int×Int)} {i:Nat}:phiT g us J of i≤costL g i:=by unfold phiT;split<;>omega
theorem phi_set (g:GS) {us:List Edge} {J:Nat} {of:List (Int×Int)} {n k:Int} (hn:Vn g.nodes.length n) (h0:aget of n=none) (hJ:InJ g us J n):phi g us J (aset of n k)+costL g n.toNat=phi g us J of:=by
 have n0:=hn.1
 have n1:=hn.2
 have:=sum_one (phiT g us J of) (phiT g us J (aset of n k)) n.toNat (List.range g.nodes.length) List.nodup_range (List.mem_range.2 (by omega)) (fun x _ hx=>by
  unfold phiT
  rw[aget_aset,if_neg (show¬n=(x:Int) by omega)])
 rw[phiT_in (by rw[toNat_cast n0];exact h0) (by rw[toNat_cast n0];exact hJ),phiT_some (by rw[toNat_cast n0,aget_aset,if_pos rfl];rfl)] at this
 exact this
theorem phi_ge (g:GS) {us:List Edge} {J:Nat} {of:List (Int×Int)} {n:Int} (hn:Vn g.nodes.length n) (h0:aget of n=none) (hJ:InJ g us J n):costL g n.toNat≤phi g us J of:=by
 have:=phi_set g (k:=0) hn h0 hJ
 omega
theorem sum_add_eq (f f' h h':Nat→Nat):∀l:List Nat,(∀x∈l,f' x+h x=f x+h' x)→(l.map f').sum+(l.map h).sum=(l.map f).sum+(l.map h').sum
 |[],_=>rfl
 |x::l,k=>by
  have h1:=k x (by simp)
  have h2:=sum_add_eq f f' h h' l fun y hy=>k y (List.mem_cons_of_mem _ hy)
  simp only[List.map_cons,List.sum_cons]
  omega
theorem phi_shift {g:GS} {us:List Edge} {j J:Nat} {of of':List (Int×Int)} (hj:j≤J) (hm:∀n,(aget of n).isSome=true→(aget of' n).isSome=true) (hk:∀n,(aget of' n).isSome=true→(aget of n).isSome=true∨InJ g us j n):phi g us J of'+phi g us j of=phi g us J of+phi g us j of':=by
 refine sum_add_eq _ _ _ _ _ fun x _=> ?_
 have up:InJ g us j (x:Int)→InJ g us J (x:Int):=fun⟨i,h1,h2⟩=>⟨i,by omega,h2⟩
 cases h1:aget of (x:Int) with
 |some v=>
  have a1:(aget of (x:Int)).isSome=true:=by rw[h1];rfl
  have a2:=hm _ a1
  rw[phiT_some a2,phiT_some a1,phiT_some a1,phiT_some a2]
 |none=>
  cases h2:aget of' (x:Int) with
  |none=>
   have e:∀J,phiT g us J of' x=phiT g us J of x:=fun J=>by unfold phiT;rw[h1,h2]
   rw[e,e]
  |some v=>
   have a2:(aget of' (x:Int)).isSome=true:=by rw[h2];rfl
   have hi:InJ g us j (x:Int):=(hk _ a2).resolve_left (by rw[h1];simp)
   rw[phiT_some a2,phiT_some a2,phiT_in h1 hi,phiT_in h1 (up hi)]
   omega
theorem at_uniq {W m:Nat} {g:GS} {us l:List Edge} (h:GInv W m g us l) {n:Int} {i j:Nat} (h1:At_ g.why us n i) (h2:At_ g.why us n j):i=j:=by
 obtain⟨u,hu,_,_,_,a1,b1⟩:=at_edge h1
 obtain⟨u',hu',_,_,_,a2,b2⟩:=at_edge h2
 have ea:u.a=u'.a:=a1.symm.trans a2
 have eb:u.b=u'.b:=b1.symm.trans b2
 rcases Nat.lt_trichotomy i j with q|q|q
 ·exfalso
  refine(h.just j u' hu').2 ?_
  rw[←ea,←eb]
  exact .edge (List.mem_of_getElem? (i:=i) (by rw[List.getElem?_take,if_pos q];exact hu))
 ·exact q
 ·exfalso
  refine(h.just i u hu).2 ?_
  rw[ea,eb]
  exact .edge (List.mem_of_getElem? (i:=j) (by rw[List.getElem?_take,if_pos q];exact hu'))
theorem phi_up {g:GS} {us:List Edge} {j J:Nat} {of:List (Int×Int)} (hj:j≤J):phi g us j of≤phi g us J of:=by
 refine sum_le_map _ _ _ fun x _=> ?_
 rcases Classical.em (InJ g us j (x:Int)) with q|q
 ·have q':InJ g us J (x:Int):=let ⟨i,h1,h2⟩:=q;⟨i,by omega,h2⟩
  cases h1:aget of (x:Int) with
  |some v=>
   have a1:(aget of (x:Int)).isSome=true:=by rw[h1];rfl
   rw[phiT_some a1];omega
  |none=>rw[phiT_in h1 q,phiT_in h1 q'];exact Nat.le_refl _
 ·rw[phiT_out q];omega
theorem phi_below {W m:Nat} {g:GS} {us l:List Edge} (k:GInv W m g us l) {j J:Nat} {of:List (Int×Int)} {n:Int} (hj:j<J) (hn:Vn g.nodes.length n) (hat:At_ g.why us n j) (h0:aget of n=none):phi g us j of+costL g n.toNat≤phi g us J of:=by
 have h1:=phi_set g (k:=0) hn h0 ⟨j,hj,hat⟩
 have h2:phi g us j of=phi g us j (aset of n 0):=by
  unfold phi
  congr 1
  refine List.map_congr_left fun x _=> ?_
  by_cases hx:n=(x:Int)
  ·have q:¬InJ g us j (x:Int):=fun⟨i,h1,h2⟩=>by
    rw[←hx] at h2
    have:=at_uniq k h2 hat
    omega
   rw[phiT_out q,phiT_out q]
  ·unfold phiT
   rw[aget_aset,if_neg hx]
 have h3:=phi_up (g:=g) (us:=us) (of:=aset of n 0) (Nat.le_of_lt hj)
 omega
structure OfOk (g:GS) (of:List (Int×Int)) (ls:List Lnk):Prop where
 at_:∀n k,aget of n=some k→LAt ls k n (edgeAt g.why n).to
theorem OfOk.app {g:GS} {of:List (Int×Int)} {ls:List Lnk} (h:OfOk g of ls) (m:List Lnk):OfOk g of (ls++m):=⟨fun n k hk=>(h.at_ n k hk).app m⟩
structure PT (X:Nat→Prop) (Bp:Nat) (ws:World) (p pp:Addr) (m1:Nat) (g:GS) (w:World) (AL:Option Addr) (nL cL:Nat) (lv:List Value) (ls:List Lnk) (of:List (Int×Int)):Prop where
 ps:PS X Bp w p pp m1 AL nL cL lv ls of
 ok:AllOk g.nodes g.stand ls
 ofk:OfOk g of ls
 ext:Ext ws w
 base:Bp≤w.heap.size
def Post (X:Nat→Prop) (Bp:Nat) (ws:World) (p pp:Addr) (m1:Nat) (g:GS) (us:List Edge) (J d:Nat) (w:World) (AL:Option Addr) (ls:List Lnk) (of:List (Int×Int)) (x y r:Int) (w':World):Prop:=
 ∃AL' nL' cL' lv' m of',PT X Bp ws p pp m1 g w' AL' nL' cL' lv' (ls++m) of'∧Adv (PX pp m1 AL) w (PX pp m1 AL') w'∧(ls++m).length+phi g us J of'≤ls.length+phi g us J of+d∧(∀n,(aget of n).isSome=true→(aget of' n).isSome=true)∧(∀n,(aget of' n).isSome=true→(aget of n).isSome=true∨InJ g us J n)∧LAt (ls++m) r x y
def SameC (Bp:Nat) (ws:World) (p pp:Addr) (m1:Nat) (g:GS) (us:List Edge) (LB J:Nat):Prop:=
 ∀X w AL nL cL lv ls of a b,PT X Bp ws p pp m1 g w AL nL cL lv ls of→Vn g.nodes.length a→Vn g.nodes.length b→Conn (us.take J) a b→ls.length+phi g us J of+stepL g≤LB→
  Calls P F.euf_proof_same #[.pointer (some pp),.int .i64 a,.int .i64 b] w (Ret fun v w'=>∃r:Int,v= .int .i64 r∧Post X Bp ws p pp m1 g us J (stepL g) w AL ls of a b r w')
def EdgeC (Bp:Nat) (ws:World) (p pp:Addr) (m1:Nat) (g:GS) (us:List Edge) (LB J:Nat):Prop:=
 ∀X w AL nL cL lv ls of n j,PT X Bp ws p pp m1 g w AL nL cL lv ls of→Vn g.nodes.length n→0≤(edgeAt g.why n).to→At_ g.why us n j→j<J→ls.length+phi g us J of≤LB→
  Calls P F.euf_proof_edge #[.pointer (some pp),.int .i64 n] w (Ret fun v w'=>∃r:Int,v= .int .i64 r∧Post X Bp ws p pp m1 g us J 0 w AL ls of n (edgeAt g.why n).to r w')
section
variable {X:Nat→Prop} {Bp:Nat} {ws w w':World} {p pp:Addr} {m1:Nat} {g:GS} {AL:Option Addr} {nL cL:Nat} {lv:List Value} {ls:List Lnk} {of:List (Int×Int)}
theorem PT.step (h:PT X Bp ws p pp m1 g w AL nL cL lv ls of) (k:Ext w w'):PT X Bp ws p pp m1 g w' AL nL cL lv ls of:=⟨h.ps.ext k,h.ok,h.ofk,h.ext.trans k,Nat.le_trans h.base k.size⟩
theorem PS.upd (h:PS X Bp w p pp m1 AL nL cL lv ls of) {of':List (Int×Int)} (hm:MapIs (Value.int .i64) iv w' m1 of') (hk:Keep (fun b=>b=m1) w w'):PS X Bp w' p pp m1 AL nL cL lv ls of'∧Adv (PX pp m1 AL) w (PX pp m1 AL) w':=by
 have adv:Adv (PX pp m1 AL) w (PX pp m1 AL) w':=⟨hk.mono fun i _ hi=> .inr (.inl hi),fun _ _ h=>h⟩
 have np:∀o,¬(pp.add o).block=m1:=fun o=>by rw[Addr.add_block];exact h.sep3
 refine⟨⟨hk.cell ⟨h.c0,np _⟩,hk.cell ⟨h.c1,np _⟩,(World.frozen?_of_block (hk.block _ (by rw[Addr.add_block];exact h.ppl) (np _))).trans h.f1,hk.cell ⟨h.c2,np _⟩,h.row.keep hk (fun b hb hh=>h.sep2 (by rw[←hh];exact hb)),h.sl.adv ⟨hk.mono fun i _ hi=> .inl (.inr (.inl hi)),fun _ _ h=>h⟩,hm,h.sep1,h.sep2,h.sep3,h.ppB,h.mB,Nat.lt_of_lt_of_le h.ppl hk.size,fun b hb=>Nat.lt_of_lt_of_le (h.xlo b hb) hk.size,h.xno⟩,adv⟩
theorem PT.add (h:PT X Bp ws p pp m1 g w AL nL cL lv ls of) {AL':Option Addr} {nL' cL':Nat} {lv':List Value} {x:Lnk} (hp:PS X Bp w' p pp m1 AL' nL' cL' lv' (ls++[x]) of) (adv:Adv (PX pp m1 AL) w (PX pp m1 AL') w') (hl:LinkOk g.nodes g.stand ls ls.length x) (hb:∀b,PX pp m1 AL b→ws.heap.size≤b):PT X Bp ws p pp m1 g w' AL' nL' cL' lv' (ls++[x]) of:=
 ⟨hp,h.ok.add hl,h.ofk.app _,h.ext.over adv.keep (fun i hi hh=>by have:=hb i hh;omega),Nat.le_trans h.base adv.keep.size⟩
theorem PT.lo (h:PT X Bp ws p pp m1 g w AL nL cL lv ls of) (hB:ws.heap.size≤Bp):∀b,PX pp m1 AL b→ws.heap.size≤b:=fun b hb=>Nat.le_trans hB (h.ps.lo b hb).1
theorem PS.far {X' Y:Nat→Prop} (h:PS X Bp w p pp m1 AL nL cL lv ls of) (hk:Keep Y w w') (hY:∀b,b<w.heap.size→Y b→X b) (hX1:∀b,X' b→b<w'.heap.size) (hX2:∀b,b<w.heap.size→X' b→X b):PS X' Bp w' p pp m1 AL nL cL lv ls of:=by
 have no:∀b,b<w.heap.size→PX pp m1 AL b→¬Y b:=fun b hb hp hy=>h.xno b (hY b hb hy) hp
 have np:∀o,¬Y (pp.add o).block:=fun o=>by rw[Addr.add_block];exact no _ h.ppl (.inl rfl)
 have hlo:=h.lo
 refine⟨hk.cell ⟨h.c0,np _⟩,hk.cell ⟨h.c1,np _⟩,(World.frozen?_of_block (hk.block _ (by rw[Addr.add_block];exact h.ppl) (np _))).trans h.f1,hk.cell ⟨h.c2,np _⟩,h.row.keep hk (fun b hb=>no b (h.row.at hb).2 (.inr (.inr hb))),?_,h.mp.keep hk (no _ h.mp.lt (.inr (.inl rfl))),h.sep1,h.sep2,h.sep3,h.ppB,h.mB,Nat.lt_of_lt_of_le h.ppl hk.size,hX1,fun b hb hp=> ?_⟩
 ·refine h.sl.adv ⟨hk.mono fun i hi hh=> .inr (hY i hi hh),fun i hi hh=>hh.imp id (hX2 i hi)⟩
 ·exact h.xno b (hX2 b (hlo b hp).2 hb) hp
theorem PT.far {X' Y:Nat→Prop} (h:PT X Bp ws p pp m1 g w AL nL cL lv ls of) (hk:Keep Y w w') (hY:∀b,b<w.heap.size→Y b→X b) (hX1:∀b,X' b→b<w'.heap.size) (hX2:∀b,b<w.heap.size→X' b→X b) (hx:∀b,b<ws.heap.size→¬Y b):PT X' Bp ws p pp m1 g w' AL nL cL lv ls of:=
 ⟨h.ps.far hk hY hX1 hX2,h.ok,h.ofk,h.ext.over hk (fun i hi hh=>hx i hi hh),Nat.le_trans h.base hk.size⟩
theorem edge_J3 {us:List Edge} {LB J d0:Nat} {n:Int} {p3:Addr} {e:Edge} {w0:World} {AL0:Option Addr} {ls0:List Lnk} {of0:List (Int×Int)} {x:Lnk} {m:List Lnk} (h:PT X Bp ws p pp m1 g w AL nL cL lv (ls0++m++[x]) of) (hB:ws.heap.size≤Bp) (adv:Adv (PX pp m1 AL0) w0 (PX pp m1 AL) w) (hn:Vn g.nodes.length n) (hfree:aget of n=none) (hat:InJ g us J n) (he:(n=x.a∧(edgeAt g.why n).to=x.b)∨(n=x.b∧(edgeAt g.why n).to=x.a)) (hxa:x.a=e.a) (hc:CellsAt w p3 e.vals)
  (vx:Vn g.nodes.length x.a∧Vn g.nodes.length x.b) (hmore:∀n,(aget of0 n).isSome=true→(aget of n).isSome=true) (hkeys:∀n,(aget of n).isSome=true→(aget of0 n).isSome=true∨InJ g us J n) (hlen:(ls0++m++[x]).length+1+phi g us J of≤ls0.length+phi g us J of0+costL g n.toNat) (hLB:ls0.length+phi g us J of0≤LB) (hbig:LB+1≤1099511627776) (hcost:costL g n.toNat≤phi g us J of)
  {K:Int→World→Prop} (hK:∀r w',Post X Bp ws p pp m1 g us J 0 w0 AL0 ls0 of0 n (edgeAt g.why n).to r w'→K r w'):
  vc_euf_proof_edge_J3 p3 n pp K ((ls0++m).length:Int) w:=by
 have x_last:(ls0++m++[x])[(ls0++m).length]? =some x:=by simp
 have fin:∀w1 AL1 nL1 cL1 lv1 m1' (r:Int),PT X Bp ws p pp m1 g w1 AL1 nL1 cL1 lv1 (ls0++m1') of→Adv (PX pp m1 AL0) w0 (PX pp m1 AL1) w1→(ls0++m1').length+phi g us J of≤ls0.length+phi g us J of0+costL g n.toNat→LAt (ls0++m1') r n (edgeAt g.why n).to→vc_euf_proof_edge_J2 pp n K r w1:=by
  intro w1 AL1 nL1 cL1 lv1 m1' r h1 a1 b1 l1
  obtain⟨w2,hr2,hm2,hk2⟩:=h1.ps.mp.update kMapI uMapI n r
  obtain⟨p2,a2⟩:=h1.ps.upd hm2 hk2
  refine⟨some m1,h1.ps.c2,w2,hr2,hK r w2 ⟨AL1,nL1,cL1,lv1,m1',aset of n r,⟨p2,h1.ok,⟨fun z k hz=> ?_⟩,h1.ext.over hk2 (fun i hi hh=>by have:=h1.lo hB m1 (.inr (.inl rfl));omega),Nat.le_trans h1.base hk2.size⟩,a1.trans a2,?_,fun z hz=>aget_aset_some (hmore z hz),fun z hz=> ?_,l1⟩⟩
  ·rw[aget_aset] at hz
   split at hz
   ·rename_i q
    cases hz
    rw[←q]
    exact l1
   ·exact h1.ofk.at_ z k hz
  ·have:=phi_set g (k:=r) hn hfree hat
   omega
  ·rw[aget_aset] at hz
   split at hz
   ·rename_i q
    right
    rw[←q]
    exact hat
   ·exact hkeys z hz
 have ll:(ls0++m++[x]).length=(ls0++m).length+1:=List.length_append
 refine⟨e.a,hc 2 _ rfl,fun hne=> ?_,fun heq=> ?_⟩
 ·have he2:n=x.b∧(edgeAt g.why n).to=x.a:=he.resolve_left fun q=>hne (by rw[←hxa];exact q.1.symm)
  refine(turned_is h.ps h.base (k:=(ls0++m).length) x_last (by omega)).mono ?_
  rintro _ w2 ⟨_,rfl,rfl,AL2,nL2,cL2,lv2,p2,a2⟩
  have lok:LinkOk g.nodes g.stand (ls0++m++[x]) (ls0++m++[x]).length ⟨3,x.b,x.a,0,[((ls0++m).length:Int)]⟩:=by
   refine⟨vx.2,vx.1,fun k hk=> ?_,.inr (.inr (.inl ⟨rfl,rfl,_,rfl,?_⟩))⟩
   ·simp only[List.mem_singleton] at hk
    subst hk
    omega
   ·exact LAt.last (ls0++m) x
  have h2:=h.add p2 a2 lok (h.lo hB)
  refine⟨_,rfl,_,rfl,?_⟩
  have key:=fin w2 AL2 nL2 cL2 lv2 (m++[x]++[⟨3,x.b,x.a,0,[((ls0++m).length:Int)]⟩]) ((ls0++m++[x]).length:Int) (by simpa using h2) (adv.trans a2) (by simp at hlen⊢;omega) (by
   rw[he2.2,he2.1]
   have:=LAt.last (ls0++m++[x]) ⟨3,x.b,x.a,0,[((ls0++m).length:Int)]⟩
   simpa using this)
  exact key
 ·have hea:e.a=n:=Decidable.not_not.1 heq
  have he2:n=x.a∧(edgeAt g.why n).to=x.b:=by
   rcases he with q|q
   ·exact q
   ·refine⟨by rw[hxa,hea],?_⟩
    have h1:x.a=n:=by rw[hxa,hea]
    rw[q.2,h1,q.1]
  exact fin w AL nL cL lv (m++[x]) ((ls0++m).length:Int) (by simpa using h) adv (by simp at hlen⊢;omega) (by
   rw[he2.2,he2.1]
   have:=LAt.last (ls0++m) x
   simpa using this)
end
end Go.Proofs.YtbmbhfghpidggaaDoor
namespace Go.Proofs.YtbmbhfghpidggaaDoor
set_option linter.unusedVariables false
set_option linter.unusedSimpArgs false
open Wk
theorem st_row {H:Nat→Prop} {w:World} {base:Nat} {A:Option Addr} {n c:Nat} {l:List Int} (h:Row w base T.int 1 A n c (l.map iv)) (hH:∀b,At A b→¬H b):St H w fun w=>Ints w A n l:=fun w' hw'=>row_ints (h.keep hw' hH)
section
variable {B0:Nat} {Bp:Nat} {ws w w':World} {p U pp:Addr} {M N m1:Nat} {g:GS} {A:Nat→Option Addr} {n c:Nat→Nat} {H:Nat→Prop}
theorem edge_is {W m J LB:Nat} {us l:List Edge} (h:GRep B0 ws p U M N A n c H g) (k:GInv W m g us l) (s:Sem g us g.stand) (hB:ws.heap.size≤Bp) (hbig:LB+1≤1099511627776) (hs:∀j,j<J→SameC Bp ws p pp m1 g us LB j):EdgeC Bp ws p pp m1 g us LB J:=by
 intro X w AL nL cL lv ls of nn j P_ vn tn hat hj hle
 refine ok_euf_proof_edge pp nn (fun r w'=>Post X Bp ws p pp m1 g us J 0 w AL ls of nn (edgeAt g.why nn).to r w') w ?_
 have hl:=P_.ps.mp.lookup_ok kMapI uMapI (zInt w) nn
 have few:=k.few
 have n0:=vn.1
 have n1:=vn.2
 unfold vc_euf_proof_edge
 refine⟨some m1,P_.ps.c2,?_⟩
 cases ho:aget of nn with
 |some r=>
  rw[ho] at hl
  exact⟨r,true,hl,fun _=>⟨AL,nL,cL,lv,[],of,by rw[List.append_nil];exact P_,Adv.refl _ _,by simp,fun _ h=>h,fun _ h=> .inl h,by rw[List.append_nil];exact P_.ofk.at_ nn r ho⟩,fun q=>(by cases q)⟩
 |none=>
  rw[ho] at hl
  refine⟨0,false,hl,fun q=>(by cases q),fun _=> ?_⟩
  have hJ:InJ g us J nn:=⟨j,hj,hat⟩
  have hbel:=phi_below k hj vn hat ho
  have gw:=h.stay P_.ext
  obtain⟨q1,q2,q3,a5,q4,q5,q6⟩:=gw.edge n0 (vn_some' k.forest.len vn)
  refine⟨some p,P_.ps.c0,p,rfl,_,_,_,q1,n0,q2,a5,q4,_,_,_,_,_,q5,fun p3 w1 hN1=>⟨hN1.soft rfl,fun w2 hw2=> ?_⟩⟩
  have kp2:=setCellsAt_keep hw2
  have E2:Ext w w2:=(Ext.of_new hN1).over kp2 (fun i hi hh=>by rw[hN1.block] at hh;omega)
  have c3:CellsAt w2 p3 (edgeAt g.why nn).vals:=set_cells hw2 (by exact hN1.soft rfl)
  have b3:=hN1.block
  have z3:p3.block<w2.heap.size:=by have:=hN1.size;have:=kp2.size;omega
  have P2:=P_.step E2
  have p3no:¬PX pp m1 AL p3.block:=fun hh=>by have:=(P_.ps.lo _ hh).2;omega
  obtain⟨u,hu,eu,e1,e2,e3,e4⟩:=at_edge hat
  obtain⟨va',vb'⟩:=k.forest.val u (List.mem_of_getElem? hu)
  have va:Vn g.nodes.length (edgeAt g.why nn).a:=by rw[e3];exact va'
  have vb:Vn g.nodes.length (edgeAt g.why nn).b:=by rw[e4];exact vb'
  have ends:(nn=(edgeAt g.why nn).a∧(edgeAt g.why nn).to=(edgeAt g.why nn).b)∨(nn=(edgeAt g.why nn).b∧(edgeAt g.why nn).to=(edgeAt g.why nn).a):=by rw[e3,e4];exact eu
  refine⟨(edgeAt g.why nn).cong,c3 1 _ rfl,fun hc p4 w3 hN4=> ?_,fun hc=> ?_⟩
  ·have cg:=(k.just j u hu).1 (by rw[←e1];exact hc)
   have E3:Ext w2 w3:=Ext.of_new hN4
   have P3:=P2.step E3
   have g3:=h.stay P3.ext
   have e4n:=g3.n4
   have va0:=va.1
   have va1:=va.2
   have vb0:=vb.1
   have vb1:=vb.2
   have na:g.nodes[(edgeAt g.why nn).a.toNat]? =some (nodeOf g.nodes (edgeAt g.why nn).a):=getD_some (by omega)
   have nb:g.nodes[(edgeAt g.why nn).b.toNat]? =some (nodeOf g.nodes (edgeAt g.why nn).b):=getD_some (by omega)
   obtain⟨aA,CA,kA,dA,hA1,hA2,hA3,hA4,hA5⟩:=g3.nodeC na
   have hlen:(nodeOf g.nodes (edgeAt g.why nn).a).args.length=(nodeOf g.nodes (edgeAt g.why nn).b).args.length:=by rw[e3,e4];exact cg.len
   have hcost:costL g nn.toNat=2+stepL g*kA:=by
    unfold costL
    rw[toNat_cast n0,hA5]
    rcases ends with q|q
    ·rw[←q.1]
    ·rw[hlen,←q.1]
   refine⟨some p,P3.ps.c0,p,rfl,A 4,n 4,c 4,g3.cell (show 4<9 by omega),_,(E3.cells c3) 2 _ rfl,va0,by omega,aA,by rw[g3.nad];exact hA1,CA,kA,dA,by have:=hA3 1 _ rfl;exact this,fun w4 hw4=> ?_⟩
   have E24:Ext w2 w4:=E3.drawn hw4
   have E4:Ext w w4:=E2.trans E24
   have b4:=hN4.block
   have z4:=hN4.size
   have R4:Row w4 w2.heap.size T.int 1 (some p4) 0 0 (([]:List Int).map iv):=((Own.new hN4).row).keep (Ext.of_drawn hw4) (fun _ _ h=>h)
   have at4:∀b,At (some p4) b→b=w2.heap.size:=fun b hb=>by obtain⟨a,ha,rfl⟩:=hb;cases ha;exact b4
   have P4:PT (fun b=>X b∨At (some p4) b) Bp ws p pp m1 g w4 AL nL cL lv ls of:=P_.far E4 (fun _ _ h=>h.elim) (fun b hb=>by
     rcases hb with hb|hb
     ·exact Nat.lt_of_lt_of_le (P_.ps.xlo b hb) E4.size
     ·have:=at4 b hb;have:=(Ext.of_drawn hw4).size;omega) (fun b hb hh=>by
     rcases hh with hh|hh
     ·exact hh
     ·have:=at4 b hh;have:=E2.size;omega) (fun _ _ h=>h)
   refine⟨fun k1 D n' d i w'=>∃ks AL' nL' cL' lv' m of',k1=kA-i.toNat∧0≤i∧i≤kA∧n'=ks.length∧(ks.length:Int)=i∧PT (fun b=>X b∨At D b) Bp ws p pp m1 g w' AL' nL' cL' lv' (ls++m) of'∧Adv (PX pp m1 AL) w (PX pp m1 AL') w'∧Row w' w2.heap.size T.int 1 D ks.length d (ks.map iv)∧CellsAt w' p3 (edgeAt g.why nn).vals∧¬PX pp m1 AL' p3.block∧p3.block<w'.heap.size∧w2.heap.size≤w'.heap.size∧(∀(t:Nat) kk x y,ks[t]? =some kk→(nodeOf g.nodes (edgeAt g.why nn).a).args[t]? =some x→(nodeOf g.nodes (edgeAt g.why nn).b).args[t]? =some y→LAt (ls++m) kk x y)∧(∀kk:Int,kk∈ks→0≤kk∧kk<(ls++m).length)∧(ls++m).length+phi g us j of'≤ls.length+phi g us j of+stepL g*i.toNat∧(∀n,(aget of n).isSome=true→(aget of' n).isSome=true)∧(∀n,(aget of' n).isSome=true→(aget of n).isSome=true∨InJ g us j n),
    ⟨_,[],AL,nL,cL,lv,[],of,rfl,by omega,by omega,rfl,rfl,by rw[List.append_nil];exact P4,Adv.of_ext E4,R4,Ext.cells E24 c3,p3no,by have:=E24.size;omega,E24.size,fun t kk x y hk=>by simp at hk,fun kk hk=>by simp at hk,by simp,fun _ h=>h,fun _ h=> .inl h⟩,?_⟩
   rintro k1 D n' d i w5 ⟨ks,AL',nL',cL',lv',m,of',rfl,i0,i1,rfl,hki,P5,adv5,R5,c5,p35,z5,sz5,hk5,hr5,hl5,hm5,hn5⟩
   have g5:=h.stay P5.ext
   have fr5:aget of' nn=none:=by
    cases hq:aget of' nn with
    |none=>rfl
    |some v=>
     exfalso
     rcases hn5 nn (by rw[hq];rfl) with q|⟨i',h1,h2⟩
     ·rw[ho] at q;cases q
     ·have:=at_uniq k h2 hat
      omega
   have hwe:w2.heap.size≤w5.heap.size:=sz5
   have wsz:w.heap.size≤w2.heap.size:=E2.size
   have wssz:ws.heap.size≤w.heap.size:=P_.ext.size
   refine⟨fun hlt=> ?_,fun hge=> ?_⟩
   ·have hiA:i.toNat<(nodeOf g.nodes (edgeAt g.why nn).a).args.length:=by omega
    obtain⟨x,ax,hxa,hCA,hcx⟩:=(g5.nodeI na hA2).int i0 hlt
    obtain⟨aB,CB,kB,dB,hB1,hB2,hB3,hB4,hB5⟩:=g5.nodeC nb
    have hltB:i<kB:=by omega
    obtain⟨y,ay,hyb,hCB,hcy⟩:=(g5.nodeI nb hB2).int i0 hltB
    refine⟨i0,hlt,ax,hCA,x,hcx,some p,P5.ps.c0,p,rfl,A 4,n 4,c 4,g5.cell (show 4<9 by omega),_,c5 3 _ rfl,vb0,by omega,aB,by rw[g5.nad];exact hB1,CB,kB,dB,by have:=hB3 1 _ rfl;exact this,i0,hltB,ay,hCB,y,hcy,fun w7 hw7=> ?_⟩
    have D7:=Ext.of_drawn hw7
    have vx:=sound_vn k.sound va (List.mem_of_getElem? hxa)
    have vy:=sound_vn k.sound vb (List.mem_of_getElem? hyb)
    have hxy:Conn (us.take j) x y:=cg.args i.toNat x y (by rw[←e3];exact hxa) (by rw[←e4];exact hyb)
    have hmul:stepL g*(i.toNat+1)≤stepL g*kA:=Nat.mul_le_mul_left _ (by omega)
    rw[Nat.mul_succ] at hmul
    have hst:=hs j hj _ w7 AL' nL' cL' lv' (ls++m) of' x y (P5.step D7) vx vy hxy (by omega)
    refine hst.mono ?_
    rintro _ w6 ⟨_,rfl,r,rfl,AL6,nL6,cL6,lv6,m6,of6,P6,adv6,len6,mor6,key6,lat6⟩
    refine⟨_,rfl,r,rfl,fun w14 hw14 p7 w9 hN9 w13 hw13=> ?_⟩
    have E13:Ext w6 w13:=((Ext.of_drawn hw14).new hN9).drawn hw13
    have P13:=P6.step E13
    have noD:∀b,At D b→¬PX pp m1 AL' b:=fun b hb=>P5.ps.xno b (.inr hb)
    have R13:=((R5.keep D7 (fun _ _ h=>h)).keep adv6.keep noD).keep E13 (fun _ _ h=>h)
    have sz67:=adv6.keep.size
    have sz57:=D7.size
    obtain⟨D2,d2,w10,hr10,R10,K10,hD10⟩:=R13.snocI (x:=r) (q:=p7) ((Ext.of_drawn hw13).cells (hN9.cells rfl)) (by omega) (by have:=E13.size;omega)
    refine⟨D2,_,d2,w10,hr10,fun w11 hw11=>⟨kA-(i.toNat+1),by omega,?_⟩⟩
    rw[step_le (n:=kA) i0 hlt hA4]
    have adv57:Adv (PX pp m1 AL) w (PX pp m1 AL6) w6:=adv5.trans ((Adv.of_ext D7).trans adv6)
    have P10:PT (fun b=>X b∨At D2 b) Bp ws p pp m1 g w10 AL6 nL6 cL6 lv6 (ls++m++m6) of6:=P13.far K10 (fun b _ hb=> .inr hb) (fun b hb=>by
      rcases hb with hb|hb
      ·exact Nat.lt_of_lt_of_le (P13.ps.xlo b (.inl hb)) K10.size
      ·exact(R10.at hb).2) (fun b hb hh=>by
      rcases hh with hh|hh
      ·exact .inl hh
      ·exact .inr ((hD10 b hh).resolve_right (by omega))) (fun b hb hy=>by have:=(R5.at hy).1;omega)
    have nl:(ls++m++m6)=ls++(m++m6):=List.append_assoc _ _ _
    rw[nl] at P10 lat6 len6
    have in1:(i+1).toNat=i.toNat+1:=by omega
    have p36:¬PX pp m1 AL6 p3.block:=fun hh=>p35 (adv6.grow _ (by omega) hh)
    have advD:Adv (PX pp m1 AL6) w13 (PX pp m1 AL6) w10∨True:= .inr trivial
    have adv10:Adv (PX pp m1 AL) w (PX pp m1 AL6) w10:=by
     refine⟨(adv57.keep.over (E13.mono fun _ _ h=>h.elim) (fun i hi hh=>hh)).over K10 (fun i hi hh=> ?_),fun i hi hh=>adv57.grow i hi hh⟩
     have:=(R5.at hh).1
     omega
    refine⟨ks++[r],AL6,nL6,cL6,lv6,m++m6,of6,by omega,by omega,by omega,by rw[List.length_append];rfl,by rw[List.length_append,List.length_singleton];omega,P10.step (Ext.of_drawn hw11),adv10.trans (Adv.of_drawn hw11),?_,?_,p36,?_,?_,?_,?_,?_,fun n hn=>mor6 n (hm5 n hn),fun n hn=> ?_⟩
    ·rw[List.length_append,List.length_singleton]
     exact R10.keep (Ext.of_drawn hw11) (fun _ _ h=>h)
    ·refine Ext.cells (Ext.of_drawn hw11) (K10.own (Ext.cells E13 (adv6.keep.own (Ext.cells D7 c5) p35)) fun hh=> ?_)
     have:=(R5.at hh).1
     omega
    ·have:=E13.size;have:=K10.size;have:=(Ext.of_drawn hw11).size;omega
    ·have:=E13.size;have:=K10.size;have:=(Ext.of_drawn hw11).size;omega
    ·intro t kk x' y' hkk hx' hy'
     rcases Nat.lt_or_ge t ks.length with q|q
     ·rw[List.getElem?_append_left q] at hkk
      have:=(hk5 t kk x' y' hkk hx' hy').app m6
      rw[nl] at this
      exact this
     ·rw[List.getElem?_append_right q] at hkk
      have ht:t=ks.length:=by
       have:=(List.getElem?_eq_some_iff.1 hkk).1
       simp at this
       omega
      subst ht
      simp at hkk
      subst hkk
      have e:ks.length=i.toNat:=by omega
      rw[e] at hx' hy'
      rw[hxa] at hx'
      rw[hyb] at hy'
      cases hx'
      cases hy'
      exact lat6
    ·intro kk hkk
     rcases List.mem_append.1 hkk with hkk|hkk
     ·have:=hr5 kk hkk
      rw[←nl,List.length_append]
      omega
     ·simp at hkk
      subst hkk
      exact lat6.lt
    ·rw[in1,Nat.mul_succ]
     omega
    ·rcases key6 n hn with q|q
     ·exact hn5 n q
     ·exact .inr q
   ·have hi:i.toNat=kA:=by omega
    have hkl:ks.length=kA:=by omega
    refine⟨_,c5 2 _ rfl,_,c5 3 _ rfl,?_⟩
    have hst5:St (fun b=>PX pp m1 AL' b∨X b) w5 fun w=>Ints w D ks.length ks:=st_row R5 fun b hb hh=>by
     rcases hh with hh|hh
     ·exact P5.ps.xno b (.inr hb) hh
     ·have:=P_.ps.xlo b hh
      have:=(R5.at hb).1
      omega
    have P5':PT X Bp ws p pp m1 g w5 AL' nL' cL' lv' (ls++m) of':=P5.far (Keep.refl (fun _=>False) w5) (fun _ _ h=>h.elim) (fun b hb=>P5.ps.xlo b (.inl hb)) (fun b _ hb=> .inl hb) (fun _ _ h=>h)
    have hsh:=phi_shift (g:=g) (us:=us) (j:=j) (J:=J) (Nat.le_of_lt hj) hm5 hn5
    have hge5:=phi_ge g vn fr5 hJ
    have hbig2:(ls++m).length+1+phi g us J of'+1≤ls.length+phi g us J of+costL g nn.toNat:=by
     rw[hcost,←hi]
     omega
    refine(add_is (x:=⟨5,(edgeAt g.why nn).a,(edgeAt g.why nn).b,0,ks⟩) (kc:=d) P5'.ps P5.base hst5 (by unfold Sm;have:=hA4;unfold Sm at this;omega) (by omega)).mono ?_
    rintro _ w15 ⟨_,rfl,rfl,AL7,nL7,cL7,lv7,p7,a7⟩
    have lok:LinkOk g.nodes g.stand (ls++m) (ls++m).length ⟨5,(edgeAt g.why nn).a,(edgeAt g.why nn).b,0,ks⟩:=by
     refine⟨va,vb,hr5,.inr (.inr (.inr (.inr ⟨rfl,rfl,?_,?_,hlen,by rw[←hA5];exact hkl,hk5⟩)))⟩
     ·show 0≤(nodeOf g.nodes (edgeAt g.why nn).a).fn
      rw[e3];exact cg.app
     ·show(nodeOf g.nodes (edgeAt g.why nn).a).fn=(nodeOf g.nodes (edgeAt g.why nn).b).fn
      rw[e3,e4];exact cg.fn
    have P7:=P5'.add p7 a7 lok (P5'.lo hB)
    refine⟨_,rfl,_,rfl,?_⟩
    refine edge_J3 (x:=⟨5,(edgeAt g.why nn).a,(edgeAt g.why nn).b,0,ks⟩) (e:=edgeAt g.why nn) (d0:=0) (LB:=LB) (m:=m) P7 hB (adv5.trans a7) vn fr5 hJ ends rfl (a7.keep.own c5 p35) ⟨va,vb⟩ hm5 (fun n hn=>(hn5 n hn).imp id fun⟨i,h1,h2⟩=>⟨i,by omega,h2⟩) ?_ hle hbig hge5 (fun r w' h=>h)
    rw[List.length_append,List.length_singleton]
    omega
  ·have hcf:(edgeAt g.why nn).cong=false:=by simpa using hc
   obtain⟨t,t1,t2,t3,t4,t5⟩:=s.src u (List.mem_of_getElem? hu) (by rw[←e1];exact hcf)
   have hge:=phi_ge g vn ho hJ
   have hcost2:2≤costL g nn.toNat:=by unfold costL;omega
   refine⟨_,c3 2 _ rfl,_,c3 3 _ rfl,_,c3 4 _ rfl,?_⟩
   refine(add_is (x:=⟨1,(edgeAt g.why nn).a,(edgeAt g.why nn).b,(edgeAt g.why nn).tag,[]⟩) (kc:=0) P2.ps P2.base (fun w' _=>⟨rfl,fun i x hx=>by simp at hx⟩) (Nat.zero_le _) (by omega)).mono ?_
   rintro _ w17 ⟨_,rfl,rfl,AL7,nL7,cL7,lv7,p7,a7⟩
   have lok:LinkOk g.nodes g.stand ls ls.length ⟨1,(edgeAt g.why nn).a,(edgeAt g.why nn).b,(edgeAt g.why nn).tag,[]⟩:=by
    refine⟨va,vb,fun kk hk=>by simp at hk,.inl ⟨rfl,rfl,t,t1,t2,?_,?_,?_⟩⟩
    ·show t.a=(edgeAt g.why nn).a
     rw[t3,e3]
    ·show t.b=(edgeAt g.why nn).b
     rw[t4,e4]
    ·show t.tag=(edgeAt g.why nn).tag
     rw[t5,e2]
   have P7:=P2.add p7 a7 lok (P2.lo hB)
   refine⟨_,rfl,_,rfl,?_⟩
   have key:=edge_J3 (x:=⟨1,(edgeAt g.why nn).a,(edgeAt g.why nn).b,(edgeAt g.why nn).tag,[]⟩) (e:=edgeAt g.why nn) (d0:=0) (LB:=LB) (m:=[]) (ls0:=ls) (of0:=of) (w0:=w) (AL0:=AL) (p3:=p3) (J:=J) (us:=us) (n:=nn) (by rw[List.append_nil];exact P7) hB ((Adv.of_ext E2).trans a7) vn ho hJ ends rfl (a7.keep.own c3 p3no) ⟨va,vb⟩ (fun _ h=>h) (fun n hn=> .inl hn) (by
    rw[List.append_nil,List.length_append,List.length_singleton]
    omega) hle hbig hge (K:=fun r w'=>Post X Bp ws p pp m1 g us J 0 w AL ls of nn (edgeAt g.why nn).to r w') (fun r w' h=>h)
   rw[List.append_nil] at key
   exact key
end
end Go.Proofs.YtbmbhfghpidggaaDoor
namespace Go.Proofs.YtbmbhfghpidggaaDoor
set_option linter.unusedVariables false
set_option linter.unusedSimpArgs false
open Wk
def Ch (ls:List Lnk):List Int→Int→Int→Prop
 |[],x,y=>x=y
 |k::st,x,y=>∃z,LAt ls k x z∧Ch ls st z y
theorem Ch.snoc {ls:List Lnk} {k:Int}:∀{st:List Int} {x y z:Int},Ch ls st x y→LAt ls k y z→Ch ls (st++[k]) x z
 |[],x,y,z,h,h'=>⟨z,by have:x=y:=h;rw[this];exact h',rfl⟩
 |_::st,x,y,z,⟨t,h1,h2⟩,h'=>⟨t,h1,h2.snoc h'⟩
theorem Ch.app {ls:List Lnk} (m:List Lnk):∀{st:List Int} {x y:Int},Ch ls st x y→Ch (ls++m) st x y
 |[],x,y,h=>h
 |_::st,x,y,⟨t,h1,h2⟩=>⟨t,h1.app m,Ch.app m h2⟩
theorem subA_at {A:Option Addr} {c l s b:Nat} (h:At (subA A c l s) b):At A b:=by
 unfold subA at h
 split at h
 ·exact h
 ·obtain⟨a,ha,rfl⟩:=h
  cases A with
  |none=>cases ha
  |some a0=>cases ha;exact⟨a0,rfl,by rw[Addr.add_block]⟩
section
variable {B0:Nat} {Bp:Nat} {ws w w':World} {p U pp:Addr} {M N m1:Nat} {g:GS} {A:Nat→Option Addr} {n c:Nat→Nat} {H:Nat→Prop}
structure SI (X:Nat→Prop) (Bp:Nat) (ws:World) (p pp:Addr) (m1:Nat) (g:GS) (us:List Edge) (J:Nat) (w0:World) (AL0:Option Addr) (ls:List Lnk) (of:List (Int×Int)) (bs d0:Nat) (a z:Int) (w':World) (D:Option Addr) (k d:Nat) (st:List Int) (AL:Option Addr) (nL cL:Nat) (lv:List Value) (m:List Lnk) (of':List (Int×Int)):Prop where
 pt:PT (fun b=>X b∨At D b) Bp ws p pp m1 g w' AL nL cL lv (ls++m) of'
 adv:Adv (PX pp m1 AL0) w0 (PX pp m1 AL) w'
 len:k=st.length
 row:Row w' bs T.int 1 D st.length d (st.map iv)
 sz:bs≤w'.heap.size
 ch:Ch (ls++m) st a z
 cnt:(ls++m).length+phi g us J of'≤ls.length+phi g us J of+d0
 mor:∀n,(aget of n).isSome=true→(aget of' n).isSome=true
 key:∀n,(aget of' n).isSome=true→(aget of n).isSome=true∨InJ g us J n
theorem SI.ext {X:Nat→Prop} {us:List Edge} {J bs d0:Nat} {w0 w'':World} {AL0:Option Addr} {ls:List Lnk} {of:List (Int×Int)} {a z:Int} {D:Option Addr} {k d:Nat} {st:List Int} {AL:Option Addr} {nL cL:Nat} {lv:List Value} {m:List Lnk} {of':List (Int×Int)} (h:SI X Bp ws p pp m1 g us J w0 AL0 ls of bs d0 a z w' D k d st AL nL cL lv m of') (e:Ext w' w''):SI X Bp ws p pp m1 g us J w0 AL0 ls of bs d0 a z w'' D k d st AL nL cL lv m of':=
 ⟨h.pt.step e,h.adv.trans (Adv.of_ext e),h.len,h.row.keep e (fun _ _ h=>h),Nat.le_trans h.sz e.size,h.ch,h.cnt,h.mor,h.key⟩
theorem SI.next {X:Nat→Prop} {us:List Edge} {J bs d0 d1:Nat} {w0 w1:World} {AL0:Option Addr} {ls:List Lnk} {of:List (Int×Int)} {a z y r:Int} {D:Option Addr} {k d:Nat} {st:List Int} {AL AL1:Option Addr} {nL cL nL1 cL1:Nat} {lv lv1:List Value} {m m':List Lnk} {of' of1:List (Int×Int)} (h:SI X Bp ws p pp m1 g us J w0 AL0 ls of bs d0 a z w' D k d st AL nL cL lv m of')
  (hX:∀b,X b→b<bs) (hws:ws.heap.size≤bs) (hw0:w0.heap.size≤bs) (P1:PT (fun b=>X b∨At D b) Bp ws p pp m1 g w1 AL1 nL1 cL1 lv1 (ls++m++m') of1) (a1:Adv (PX pp m1 AL) w' (PX pp m1 AL1) w1) (hc:(ls++m++m').length+phi g us J of1≤(ls++m).length+phi g us J of'+d1) (hm:∀n,(aget of' n).isSome=true→(aget of1 n).isSome=true) (hk:∀n,(aget of1 n).isSome=true→(aget of' n).isSome=true∨InJ g us J n) (hl:LAt (ls++m++m') r z y) (hbig:st.length+1≤1099511627776) {q:Addr} {w2:World} (hN:New w1 (.cells #[.int .i64 r] T.int) q w2):
  ∃D2 d2 w3,(Builtin.append_ #[T.sl_int,T.sl_int] T.sl_int #[.slice D k d,.slice (some q) 1 1]).run P w2= .ok (.slice D2 (k+1) d2) w3∧SI X Bp ws p pp m1 g us J w0 AL0 ls of bs (d0+d1) a y w3 D2 (k+1) d2 (st++[r]) AL1 nL1 cL1 lv1 (m++m') of1∧(∀b,b<w'.heap.size→At D2 b→At D b)∧Keep (fun b=>PX pp m1 AL b∨At D b) w' w3:=by
 have noD:∀b,At D b→¬PX pp m1 AL b:=fun b hb=>h.pt.ps.xno b (.inr hb)
 have R1:=h.row.keep a1.keep noD
 have E2:=Ext.of_new hN
 have R2:=R1.keep E2 (fun _ _ h=>h)
 have s1:=a1.keep.size
 have s2:=E2.size
 have hsz:=h.sz
 obtain⟨D2,d2,w3,hr,hR,hK,hD⟩:=R2.snocI (x:=r) (q:=q) (hN.cells rfl) hbig (by omega)
 rw[h.len]
 have nl:(ls++m++m')=ls++(m++m'):=List.append_assoc _ _ _
 have hP3:PT (fun b=>X b∨At D2 b) Bp ws p pp m1 g w3 AL1 nL1 cL1 lv1 (ls++m++m') of1:=(P1.step E2).far hK (fun b _ hb=> .inr hb) (fun b hb=>by
   rcases hb with hb|hb
   ·have:=hX b hb;have:=hK.size;omega
   ·exact(hR.at hb).2) (fun b hb hh=>by
   rcases hh with hh|hh
   ·exact .inl hh
   ·exact .inr ((hD b hh).resolve_right (by omega))) (fun b hb hy=>by have:=(h.row.at hy).1;omega)
 have chn:=(h.ch.app m').snoc hl
 rw[nl] at hP3 chn hc
 refine⟨D2,d2,w3,hr,⟨hP3,?_,by simp,?_,by have:=hK.size;omega,chn,by have:=h.cnt;omega,fun n hn=>hm n (h.mor n hn),fun n hn=> ?_⟩,fun b hb hh=>(hD b hh).resolve_right (by omega),?_⟩
 ·refine⟨((h.adv.trans a1).keep.over (E2.mono fun _ _ h=>h.elim) (fun i hi hh=>hh)).over hK (fun i hi hh=> ?_),fun i hi hh=>(h.adv.trans a1).grow i hi hh⟩
  have:=(h.row.at hh).1
  omega
 ·rw[List.length_append,List.length_singleton];exact hR
 ·rcases hk n hn with q'|q'
  ·exact h.key n q'
  ·exact .inr q'
 ·exact((a1.keep.mono fun i _ hi=> .inl hi).over (E2.mono fun _ _ h=>h.elim) (fun i hi hh=>hh)).over hK fun i hi hh=> .inr hh
theorem psame_is {W mm J LB:Nat} {us l:List Edge} (h:GRep B0 ws p U M N A n c H g) (k:GInv W mm g us l) (hB:ws.heap.size≤Bp) (hbig:LB+1≤1099511627776) (he:EdgeC Bp ws p pp m1 g us LB J):SameC Bp ws p pp m1 g us LB J:=by
 intro X w AL nL cL lv ls of a b P_ va vb hc hle
 refine ok_euf_proof_same pp a b (fun r w'=>Post X Bp ws p pp m1 g us J (stepL g) w AL ls of a b r w') w ?_
 have few:=k.few
 have hst:stepL g=3*g.nodes.length+2:=rfl
 have efd:fd g a=fd g b:=(hc.mono fun u hu=>List.mem_of_mem_take hu).to k.conn2
 obtain⟨cc,cc0,u1,u2,dis,vv1,vv2⟩:=betw_spec k va vb efd
 have hidx:=betw_idx k va vb hc
 have lB:=nodup_len _ _ u1.nodup fun y hy=>(k.forest.of_up va u1 y hy).1
 have lC:=nodup_len _ _ u2.nodup fun y hy=>(k.forest.of_up vb u2 y hy).1
 have lcc:=List.length_pos_iff.2 cc0
 rw[List.length_append] at lB lC
 unfold vc_euf_proof_same
 refine⟨some p,P_.ps.c0,?_⟩
 refine(between_is (h.stay P_.ext) k va vb).mono ?_
 rintro _ w1 ⟨_,rfl,B,dB,C,dC,rfl,RB,RC,E1⟩
 generalize hup:(betw g a b).1=up at*
 generalize hdn:(betw g a b).2=dn at*
 have s1:=E1.size
 have wss:=P_.ext.size
 have xB:∀b,At B b→w.heap.size≤b∧b<w1.heap.size:=fun b hb=>RB.at hb
 have xC:∀b,At C b→w.heap.size≤b∧b<w1.heap.size:=fun b hb=>RC.at hb
 have hX1:∀b,X b→b<w1.heap.size:=fun b hb=>by have:=P_.ps.xlo b hb;omega
 have P1:PT (fun b=>X b∨At none b) Bp ws p pp m1 g w1 AL nL cL lv ls of:=P_.far E1 (fun _ _ h=>h.elim) (fun b hb=>hb.elim (hX1 b) fun hb=>by obtain⟨_,hb,_⟩:=hb;cases hb) (fun b hb hh=>hh.elim id fun hh=>by obtain⟨_,hh,_⟩:=hh;cases hh) (fun _ _ h=>h)
 have start:SI X Bp ws p pp m1 g us J w AL ls of w1.heap.size 0 a a w1 none 0 0 [] AL nL cL lv [] of:=⟨by rw[List.append_nil];exact P1,Adv.of_ext E1,rfl,Row.nil _ _ _ _,Nat.le_refl _,rfl,by simp,fun _ h=>h,fun _ h=> .inl h⟩
 refine⟨_,rfl,B,_,dB,C,_,dC,rfl,?_⟩
 refine⟨fun k1 D n' d i w'=>∃st AL' nL' cL' lv' m of' z,k1=up.length-i.toNat∧0≤i∧i≤up.length∧SI X Bp ws p pp m1 g us J w AL ls of w1.heap.size 0 a z w' D n' d st AL' nL' cL' lv' m of'∧(up++cc)[i.toNat]? =some z∧(st.length:Int)=i∧Row w' w.heap.size T.int 1 B up.length dB (up.map iv)∧Row w' w.heap.size T.int 1 C dn.length dC (dn.map iv)∧(∀b,At B b∨At C b→¬PX pp m1 AL' b),⟨_,[],AL,nL,cL,lv,[],of,a,rfl,by omega,by omega,start,by obtain⟨t,ht⟩:=u1.head;rw[ht];rfl,rfl,RB,RC,fun b hb hh=> ?_⟩,?_⟩
 ·have h1:=(P_.ps.lo b hh).2
  have h2:=hb.elim (xB b) (xC b)
  omega
 rintro k1 D n' d i w2 ⟨st,AL',nL',cL',lv',m,of',z,rfl,i0,i1,S,hz,hsl,RB2,RC2,noBC⟩
 have keepRow:∀{w3:World} {AL2:Option Addr} {D2:Option Addr},Keep (fun b=>PX pp m1 AL' b∨At D b) w2 w3→(∀b,At D b→w1.heap.size≤b)→Row w3 w.heap.size T.int 1 B up.length dB (up.map iv)∧Row w3 w.heap.size T.int 1 C dn.length dC (dn.map iv):=fun hk hD=>
  ⟨RB2.keep hk (fun b hb hh=>hh.elim (noBC b (.inl hb)) fun hh=>by have:=hD b hh;have:=xB b hb;omega),RC2.keep hk (fun b hb hh=>hh.elim (noBC b (.inr hb)) fun hh=>by have:=hD b hh;have:=xC b hb;omega)⟩
 refine⟨fun hlt=> ?_,fun hge=> ?_⟩
 ·have hi:i.toNat<up.length:=by omega
  obtain⟨x,hx⟩:∃x,up[i.toNat]? =some x:=⟨_,List.getElem?_eq_getElem hi⟩
  obtain⟨aB,vB,hAB,hvB,hcB,_⟩:=RB2.get i0 hlt
  rw[List.getElem?_map,hx] at hvB
  cases hvB
  have hzx:z=x:=by rw[List.getElem?_append_left hi,hx] at hz;cases hz;rfl
  subst hzx
  obtain⟨vz,tz⟩:=vv1 z (List.mem_of_getElem? hx)
  obtain⟨j,_,hat⟩:=at_ex k vz tz
  have hj:=hidx z (.inl (List.mem_of_getElem? hx)) j hat
  have hnext:(up++cc)[i.toNat+1]? =some (edgeAt g.why z).to:=by
   rcases up_get u1 hz with⟨q,_⟩|⟨_,q⟩
   ·omega
   ·exact q
  refine⟨i0,hlt,aB,hAB,z,hcB,(he _ w2 AL' nL' cL' lv' (ls++m) of' z j S.pt vz tz hat hj (by have:=S.cnt;omega)).mono ?_⟩
  rintro _ w3 ⟨_,rfl,r,rfl,AL3,nL3,cL3,lv3,m3,of3,P3,a3,c3,mo3,ke3,la3⟩
  refine⟨_,rfl,r,rfl,fun p2 w4 hN4=> ?_⟩
  obtain⟨D2,d2,w5,hr5,S5,hD5,K5⟩:=S.next hX1 (by omega) (by omega) P3 a3 (d1:=0) c3 mo3 ke3 la3 (by omega) hN4
  refine⟨D2,_,d2,w5,hr5,up.length-(i.toNat+1),by omega,?_⟩
  rw[step_le (n:=up.length) i0 hlt (by unfold Sm;omega)]
  obtain⟨RB5,RC5⟩:=keepRow (AL2:=AL3) (D2:=D2) K5 (fun b hb=>(S.row.at hb).1)
  refine⟨st++[r],AL3,nL3,cL3,lv3,m++m3,of3,_,by omega,by omega,by omega,S5,by rw[show(i+1).toNat=i.toNat+1 by omega];exact hnext,by rw[List.length_append,List.length_singleton];omega,RB5,RC5,fun b hb hh=> ?_⟩
  have hb1:=hb.elim (xB b) (xC b)
  have:=S.sz
  exact noBC b hb (a3.grow b (by omega) hh)
 ·have hi:i.toNat=up.length:=by omega
  have hz0:(dn++cc)[dn.length-0]? =some z:=by
   rw[hi,List.getElem?_append_right (Nat.le_refl _),Nat.sub_self] at hz
   rw[Nat.sub_zero,List.getElem?_append_right (Nat.le_refl _),Nat.sub_self]
   exact hz
  have hsl0:st.length≤up.length:=by omega
  refine⟨fun k3 D n' d i w'=>∃st AL' nL' cL' lv' m of' z,k3=dn.length-i.toNat∧0≤i∧i≤dn.length∧SI X Bp ws p pp m1 g us J w AL ls of w1.heap.size i.toNat a z w' D n' d st AL' nL' cL' lv' m of'∧(dn++cc)[dn.length-i.toNat]? =some z∧(st.length:Int)≤up.length+i∧(st.length=0→up.length=0∧i=0)∧Row w' w.heap.size T.int 1 C dn.length dC (dn.map iv)∧(∀b,At C b→¬PX pp m1 AL' b),⟨_,st,AL',nL',cL',lv',m,of',z,rfl,by omega,by omega,S,hz0,by omega,fun q=>⟨by omega,rfl⟩,RC2,fun b hb=>noBC b (.inr hb)⟩,?_⟩
  clear hz hsl RB2 RC2 noBC keepRow S hz0 hsl0
  rintro k3 D3 n3 d3 i w3 ⟨st,AL',nL',cL',lv',m,of',z,rfl,i0,i1,S,hz,hsl,hs0,RC3,noC⟩
  refine⟨fun hlt=> ?_,fun hge=> ?_⟩
  ·have hi:i.toNat<dn.length:=by omega
   have ew:IntKind.wrap .i64 ((IntKind.wrap .i64 ((dn.length:Int)-1))-i)=((dn.length-1-i.toNat:Nat):Int):=by
    rw[wrap_small (i:=(dn.length:Int)-1) (by omega) (by omega),wrap_small (by omega) (by omega)]
    omega
   rw[ew,Int.toNat_natCast]
   obtain⟨x,hx⟩:∃x,dn[dn.length-1-i.toNat]? =some x:=⟨_,List.getElem?_eq_getElem (by omega)⟩
   obtain⟨aC,vC,hAC,hvC,hcC,_⟩:=RC3.get (i:=((dn.length-1-i.toNat:Nat):Int)) (by omega) (by omega)
   rw[Int.toNat_natCast,List.getElem?_map,hx] at hvC
   cases hvC
   rw[Int.toNat_natCast] at hcC
   obtain⟨vx,tx⟩:=vv2 x (List.mem_of_getElem? hx)
   obtain⟨j,_,hat⟩:=at_ex k vx tx
   have hj:=hidx x (.inr (List.mem_of_getElem? hx)) j hat
   have hx':(dn++cc)[dn.length-1-i.toNat]? =some x:=by rw[List.getElem?_append_left (by omega)];exact hx
   have hnext:(edgeAt g.why x).to=z:=by
    rcases up_get u2 hx' with⟨q,_⟩|⟨_,q⟩
    ·omega
    ·rw[show dn.length-1-i.toNat+1=dn.length-i.toNat by omega,hz] at q
     exact(Option.some.inj q).symm
   refine⟨by omega,by omega,aC,hAC,x,hcC,(he _ w3 AL' nL' cL' lv' (ls++m) of' x j S.pt vx tx hat hj (by have:=S.cnt;omega)).mono ?_⟩
   rintro _ w4 ⟨_,rfl,r,rfl,AL4,nL4,cL4,lv4,m4,of4,P4,a4,c4,mo4,ke4,la4⟩
   rw[hnext] at la4
   obtain⟨r0,qq,hqq,qa,qb⟩:=la4
   have hcnt:=S.cnt
   have hr':r=((r.toNat:Nat):Int):=by omega
   have turn:=turned_is (k:=r.toNat) P4.ps P4.base hqq (by omega)
   rw[←hr'] at turn
   refine⟨_,rfl,r,rfl,turn.mono ?_⟩
   rintro _ w5 ⟨_,rfl,rfl,AL5,nL5,cL5,lv5,p5,a5⟩
   have lok:LinkOk g.nodes g.stand (ls++m++m4) (ls++m++m4).length ⟨3,qq.b,qq.a,0,[r]⟩:=by
    have hr2:=(List.getElem?_eq_some_iff.1 hqq).1
    refine⟨?_,?_,fun kk hk=> ?_,.inr (.inr (.inl ⟨rfl,rfl,r,rfl,r0,qq,hqq,rfl,rfl⟩))⟩
    ·show Vn _ qq.b
     rw[qb]
     exact(k.forest.of_up vb u2 z (List.mem_of_getElem? hz)).1
    ·show Vn _ qq.a
     rw[qa];exact vx
    ·simp only[List.mem_singleton] at hk
     subst hk
     omega
   have P5:=P4.add p5 a5 lok (P4.lo hB)
   refine⟨_,rfl,_,rfl,fun p6 w6 hN6=> ?_⟩
   have la5:LAt (ls++m++(m4++[⟨3,qq.b,qq.a,0,[r]⟩])) ((ls++m++m4).length:Int) z x:=by
    have:=LAt.last (ls++m++m4) ⟨3,qq.b,qq.a,0,[r]⟩
    simp only at this
    rw[qa,qb] at this
    rw[←List.append_assoc (ls++m)]
    rw[qa,qb]
    exact this
   obtain⟨D2,d2,w7,hr7,S7,hD7,K7⟩:=S.next (m':=m4++[⟨3,qq.b,qq.a,0,[r]⟩]) (d1:=1) hX1 (by omega) (by omega) (by rw[←List.append_assoc];exact P5) (a4.trans a5) (by rw[←List.append_assoc,List.length_append,List.length_singleton];omega) mo4 ke4 la5 (by omega) hN6
   refine⟨D2,_,d2,w7,hr7,dn.length-(i.toNat+1),by omega,?_⟩
   rw[step_le (n:=dn.length) i0 hlt (by unfold Sm;omega)]
   have in1:(i+1).toNat=i.toNat+1:=by omega
   refine⟨st++[((ls++m++m4).length:Int)],AL5,nL5,cL5,lv5,m++(m4++[⟨3,qq.b,qq.a,0,[r]⟩]),of4,x,by omega,by omega,by omega,by rw[in1];exact S7,by rw[in1,show dn.length-(i.toNat+1)=dn.length-1-i.toNat by omega];exact hx',by rw[List.length_append,List.length_singleton];omega,fun q=>by simp at q,RC3.keep K7 (fun b hb hh=>hh.elim (noC b hb) fun hh=> ?_),fun b hb hh=> ?_⟩
   ·have h1:=(S.row.at hh).1
    have h2:=xC b hb
    omega
   ·have h2:=xC b hb
    have:=S.sz
    exact noC b hb ((a4.trans a5).grow b (by omega) hh)
  ·have hi:i.toNat=dn.length:=by omega
   have hzb:z=b:=by
    rw[hi,Nat.sub_self] at hz
    obtain⟨t,ht⟩:=u2.head
    rw[ht] at hz
    simpa using hz.symm
   subst hzb
   have hcnt:=S.cnt
   have hlen:=S.len
   refine⟨fun h0=> ?_,fun h0=> ?_⟩
   ·have st0:st=[]:=List.length_eq_zero_iff.1 (by omega)
    subst st0
    have eab:a=z:=S.ch
    have PX0:PT X Bp ws p pp m1 g w3 AL' nL' cL' lv' (ls++m) of':=S.pt.far (Keep.refl (fun _=>False) w3) (fun _ _ h=>h.elim) (fun b hb=>S.pt.ps.xlo b (.inl hb)) (fun b _ hb=> .inl hb) (fun _ _ h=>h)
    refine(add_is (x:=⟨2,a,z,0,[]⟩) (kc:=0) PX0.ps PX0.base (fun w' _=>⟨rfl,fun i x hx=>by simp at hx⟩) (Nat.zero_le _) (by omega)).mono ?_
    rintro _ w4 ⟨_,rfl,rfl,AL4,nL4,cL4,lv4,p4,a4⟩
    have lok:LinkOk g.nodes g.stand (ls++m) (ls++m).length ⟨2,a,z,0,[]⟩:=⟨va,vb,fun kk hk=>by simp at hk,.inr (.inl ⟨rfl,rfl,rfl,eab⟩)⟩
    have P4:=PX0.add p4 a4 lok (PX0.lo hB)
    refine⟨_,rfl,_,rfl,AL4,nL4,cL4,lv4,m++[⟨2,a,z,0,[]⟩],of',by rw[←List.append_assoc];exact P4,S.adv.trans a4,?_,S.mor,S.key,?_⟩
    ·rw[←List.append_assoc,List.length_append,List.length_singleton];omega
    ·rw[←List.append_assoc];exact LAt.last (ls++m) ⟨2,a,z,0,[]⟩
   ·obtain⟨s0,st',rfl⟩:∃s0 st',st=s0::st':=by
     cases st with
     |nil=>simp at hlen;omega
     |cons x st=>exact⟨x,st,rfl⟩
    have hn3:n3=st'.length+1:=by rw[hlen];rfl
    obtain⟨a3,v3,hA3,hv3,hc3,_⟩:=S.row.get (i:=(0:Int)) (by omega) (by rw[List.length_cons];omega)
    simp at hv3
    subst hv3
    have hT:=S.row.tail (i:=1) (by simp)
    have eT:((s0::st').map iv).drop (1*1)=st'.map iv:=rfl
    rw[eT] at hT
    have e1:(1:Int).toNat=1:=rfl
    refine⟨by omega,by omega,a3,hA3,s0,hc3,by omega,by omega,?_⟩
    rw[e1,hn3,Nat.add_sub_cancel]
    obtain⟨z1,hz1,hch⟩:=S.ch
    refine⟨fun k5 x i' w'=>∃AL'' nL'' cL'' lv'' m' y,k5=st'.length-i'.toNat∧0≤i'∧i'≤st'.length∧PT (fun b=>X b∨At D3 b) Bp ws p pp m1 g w' AL'' nL'' cL'' lv'' (ls++m++m') of'∧Adv (PX pp m1 AL') w3 (PX pp m1 AL'') w'∧(m'.length:Int)=i'∧LAt (ls++m++m') x a y∧Ch (ls++m++m') (st'.drop i'.toNat) y z,⟨_,AL',nL',cL',lv',[],z1,rfl,by omega,by omega,by rw[List.append_nil];exact S.pt,Adv.refl _ _,rfl,by rw[List.append_nil];exact hz1,by rw[List.append_nil];exact hch⟩,?_⟩
    rintro k5 x i' w4 ⟨AL4,nL4,cL4,lv4,m',y,rfl,j0,j1,P4,a4,hm',hx4,hc4⟩
    have noD:∀b,At D3 b→¬PX pp m1 AL' b:=fun b hb=>S.pt.ps.xno b (.inr hb)
    have slen:=S.cnt
    have hmt:(ls++m++m').length=(ls++m).length+m'.length:=List.length_append
    have hs5:st'.length+1≤up.length+dn.length:=by simp only[List.length_cons] at hsl;omega
    refine⟨fun hlt=> ?_,fun hge'=> ?_⟩
    ·have hi':i'.toNat<st'.length:=by omega
     have T4:=(hT.keep a4.keep (fun b hb=>noD b (subA_at hb)))
     obtain⟨a5,v5,hA5,hv5,hc5,_⟩:=T4.get (i:=i') j0 (by simp;omega)
     obtain⟨s,hs⟩:∃s,st'[i'.toNat]? =some s:=⟨_,List.getElem?_eq_getElem hi'⟩
     rw[List.getElem?_map,hs] at hv5
     cases hv5
     have hdrop:st'.drop i'.toNat=s::st'.drop (i'.toNat+1):=by
      rw[List.drop_eq_getElem_cons hi']
      congr 1
      exact(List.getElem?_eq_some_iff.1 hs).2
     rw[hdrop] at hc4
     obtain⟨y2,hy2,hc5'⟩:=hc4
     obtain⟨x0,q1,hq1,q1a,q1b⟩:=hx4
     obtain⟨s00,q2,hq2,q2a,q2b⟩:=hy2
     obtain⟨lt1,al1,C1,k1',d1',hal1,hcl1⟩:=P4.ps.link hq1
     obtain⟨lt2,al2,C2,k2',d2',hal2,hcl2⟩:=P4.ps.link hq2
     refine⟨j0,hlt,a5,hA5,s,hc5,AL4,nL4,cL4,P4.ps.c1,x0,by omega,al1,hal1,q1.a,hcl1 1 _ rfl,AL4,nL4,cL4,P4.ps.c1,s00,by omega,al2,hal2,q2.b,hcl2 2 _ rfl,fun w19 hw19 p4 w13 hN13 w15 hw15=> ?_⟩
     have E15:Ext w4 w15:=((Ext.of_drawn hw19).new hN13).drawn hw15
     have P15:=P4.step E15
     have hst:St (fun b=>PX pp m1 AL4 b∨(X b∨At D3 b)) w15 fun w=>Ints w (some p4) 2 [x,s]:=ints_st ((Ext.of_drawn hw15).cells (hN13.cells rfl)) rfl (fun hh=>by
      have hlt:p4.block<w4.heap.size:=hh.elim (fun hh=>(P4.ps.lo _ hh).2) (P4.ps.xlo _)
      rw[hN13.block] at hlt
      have:=(Ext.of_drawn hw19).size
      omega)
     refine(add_is (x:=⟨4,q1.a,q2.b,0,[x,s]⟩) (kc:=2) P15.ps P15.base hst (by unfold Sm;omega) (by omega)).mono ?_
     rintro _ w14 ⟨_,rfl,rfl,AL6,nL6,cL6,lv6,p6,a6⟩
     have l1:=(List.getElem?_eq_some_iff.1 hq1).1
     have l2:=(List.getElem?_eq_some_iff.1 hq2).1
     have hok2:=P4.ok _ q2 hq2
     have hok1:=P4.ok _ q1 hq1
     have lok:LinkOk g.nodes g.stand (ls++m++m') (ls++m++m').length ⟨4,q1.a,q2.b,0,[x,s]⟩:=by
      refine⟨hok1.va,hok2.vb,fun kk hk=> ?_,.inr (.inr (.inr (.inl ⟨rfl,rfl,x,s,y,rfl,⟨x0,q1,hq1,rfl,q1b⟩,⟨s00,q2,hq2,q2a,rfl⟩⟩)))⟩
      simp only[List.mem_cons,List.not_mem_nil,or_false] at hk
      rcases hk with rfl|rfl<;>omega
     have P6:=P15.add p6 a6 lok (P15.lo hB)
     refine⟨_,rfl,_,rfl,fun w17 hw17=>⟨st'.length-(i'.toNat+1),by omega,?_⟩⟩
     rw[step_le (n:=st'.length) j0 hlt (by unfold Sm;omega)]
     refine⟨AL6,nL6,cL6,lv6,m'++[⟨4,q1.a,q2.b,0,[x,s]⟩],y2,by omega,by omega,by omega,by rw[←List.append_assoc];exact P6.step (Ext.of_drawn hw17),a4.trans ((Adv.of_ext E15).trans (a6.trans (Adv.of_drawn hw17))),by rw[List.length_append,List.length_singleton];omega,?_,?_⟩
     ·rw[←List.append_assoc]
      have:=LAt.last (ls++m++m') ⟨4,q1.a,q2.b,0,[x,s]⟩
      simp only at this
      rw[q1a,q2b] at this
      rw[q1a,q2b]
      exact this
     ·rw[←List.append_assoc,show(i'+1).toNat=i'.toNat+1 by omega]
      exact hc5'.app _
    ·have hi':i'.toNat=st'.length:=by omega
     rw[hi',List.drop_length] at hc4
     have hyz:y=z:=hc4
     subst hyz
     have PXf:PT X Bp ws p pp m1 g w4 AL4 nL4 cL4 lv4 (ls++m++m') of':=P4.far (Keep.refl (fun _=>False) w4) (fun _ _ h=>h.elim) (fun b hb=>P4.ps.xlo b (.inl hb)) (fun b _ hb=> .inl hb) (fun _ _ h=>h)
     refine⟨AL4,nL4,cL4,lv4,m++m',of',by rw[←List.append_assoc];exact PXf,S.adv.trans a4,?_,S.mor,S.key,by rw[←List.append_assoc];exact hx4⟩
     rw[←List.append_assoc]
     omega
end
end Go.Proofs.YtbmbhfghpidggaaDoor
namespace Go.Proofs.YtbmbhfghpidggaaDoor
set_option linter.unusedVariables false
set_option linter.unusedSimpArgs false
open Wk
section
variable {B0:Nat} {Bp:Nat} {ws w w':World} {p U pp:Addr} {M N m1:Nat} {g:GS} {A:Nat→Option Addr} {n c:Nat→Nat} {H:Nat→Prop}
theorem same_all {W mm LB:Nat} {us l:List Edge} (h:GRep B0 ws p U M N A n c H g) (k:GInv W mm g us l) (s:Sem g us g.stand) (hB:ws.heap.size≤Bp) (hbig:LB+1≤1099511627776):∀J,SameC Bp ws p pp m1 g us LB J:=by
 intro J
 induction J using Nat.strongRecOn with
 |ind J ih=>exact psame_is h k hB hbig (edge_is h k s hB hbig ih)
theorem phi_top {W:Nat} {us:List Edge} {J:Nat} (hwd:wsum g.nodes g.nodes.length≤W) (hr:g.nodes.length*(W+2)+1≤300000000000) (hN:g.nodes.length≤1048576) (hW:W≤1048576):phi g us J []+stepL g+1≤1099511627775:=by
 have h1:phi g us J []≤((List.range g.nodes.length).map (costL g)).sum:=sum_le_map _ _ _ fun x _=>phiT_le
 have h2:∀k,k≤g.nodes.length→((List.range k).map (costL g)).sum=2*k+stepL g*wsum g.nodes k:=by
  intro k
  induction k with
  |zero=>intro _;simp[wsum]
  |succ k ih=>
   intro hk
   have ih':=ih (by omega)
   have hx:g.nodes[k]? =some (nodeOf g.nodes (k:Int)):=by unfold nodeOf;rw[Int.toNat_natCast];exact getD_some (by omega)
   rw[List.range_succ,List.map_append,List.sum_append,ih',wsum_succ hx,Nat.mul_add (stepL g)]
   simp only[List.map_cons,List.map_nil,List.sum_cons,List.sum_nil,costL]
   omega
 have h3:=h2 g.nodes.length (Nat.le_refl _)
 have h4:stepL g*wsum g.nodes g.nodes.length≤stepL g*W:=Nat.mul_le_mul_left _ hwd
 have h5:stepL g*W=3*(g.nodes.length*W)+2*W:=by unfold stepL;rw[Nat.add_mul,Nat.mul_assoc]
 have h6:g.nodes.length*(W+2)=g.nodes.length*W+g.nodes.length*2:=Nat.mul_add _ _ _
 have h7:stepL g=3*g.nodes.length+2:=rfl
 omega
theorem prove_is {C W:Nat} {us:List Edge} {a b:Int} (h:GRep B0 w p U M N A n c H g) (hl:GLive C W g us) (wd:Wide W g) (tight:g.nodes.length*(W+2)+1≤300000000000):
  Calls P F.euf_Graph_Prove #[.pointer (some p),.int .i64 a,.int .i64 b] w (Ret fun v w'=>∃B m d e,v= .tuple #[.slice B m d,.int .i64 e]∧Ext w w'∧((¬There g a b∧e=80∧m=0)∨(There g a b∧¬SameBy g.nodes g.stand a b∧e=82∧m=0)∨
   (There g a b∧SameBy g.nodes g.stand a b∧e=0∧∃ls lv,m=ls.length∧ls.length≤1099511627776∧Row w' w.heap.size T.api_Link 5 B ls.length d lv∧St (At B) w' (fun w=>SlV cLink w lv ls)∧AllOk g.nodes g.stand ls∧∃last,ls[ls.length-1]? =some last∧last.a=a∧last.b=b))):=by
 refine Ret.mono (ok_euf_Graph_Prove p a b (fun B m d e w'=>Ext w w'∧((¬There g a b∧e=80∧m=0)∨(There g a b∧¬SameBy g.nodes g.stand a b∧e=82∧m=0)∨
   (There g a b∧SameBy g.nodes g.stand a b∧e=0∧∃ls lv,m=ls.length∧ls.length≤1099511627776∧Row w' w.heap.size T.api_Link 5 B ls.length d lv∧St (At B) w' (fun w=>SlV cLink w lv ls)∧AllOk g.nodes g.stand ls∧∃last,ls[ls.length-1]? =some last∧last.a=a∧last.b=b))) w ?_) (by rintro _ w' ⟨B,m,d,e,rfl,hk⟩;exact⟨B,m,d,e,rfl,hk⟩)
 unfold vc_euf_Graph_Prove
 refine(there_is h a b).mono ?_
 rintro _ w1 ⟨_,rfl,r,rfl,hr,rfl⟩
 refine⟨_,rfl,r,rfl,fun hn=>⟨Ext.refl _,.inl ⟨fun ht=> ?_,rfl,rfl⟩⟩,fun hn=> ?_⟩
 ·rw[hr.2 ht] at hn;cases hn
 have ht:There g a b:=hr.1 (by cases r<;>simp at hn⊢)
 have va:Vn g.nodes.length a:=⟨ht.1,ht.2.2.1⟩
 have vb:Vn g.nodes.length b:=⟨ht.2.1,ht.2.2.2⟩
 rw[add0]
 refine⟨fd g a,fun w' hw'=>find_is (h.stay (Ext.of_drawn hw')) va.1 (vn_some (d:= -1) hl.inv.cls.lfirst va),fd g b,fun w' hw'=>find_is (h.stay (Ext.of_drawn hw')) vb.1 (vn_some (d:= -1) hl.inv.cls.lfirst vb),fun w2 hw2=>⟨fun hne=>⟨Ext.of_drawn hw2,.inr (.inl ⟨ht,fun q=>hne ((Gr.same_iff hl va vb).2 q),rfl,rfl⟩)⟩,fun heq m1 w3 hM3 p2 w4 hN4=> ?_⟩⟩
 have heq':fd g a=fd g b:=Decidable.not_not.1 heq
 have E3:Ext w2 w3:=(Ext.refl w2).newm hM3
 have E4:Ext w3 w4:=Ext.of_new hN4
 have E24:Ext w2 w4:=E3.trans E4
 have E14:=(Ext.of_drawn hw2).trans E24
 have hm1:=hM3.at_
 have hp2:=hN4.block
 have z3:w3.heap.size=w2.heap.size+1:=by rw[hM3.is];simp
 have z4:=hN4.size
 have few:=hl.inv.few
 have hphi:=phi_top (us:=us) (J:=us.length) wd.wide tight few hl.bd.wfew
 have m4:MapIs (Value.int .i64) iv w4 m1 ([]:List (Int×Int)):=(MapIs.new hM3).keep E4 (fun h=>h)
 have cells:=hN4.cells rfl
 have soft:=hN4.soft rfl
 have ps:PS (fun _=>False) w2.heap.size w4 p p2 m1 none 0 0 [] [] []:=by
  refine⟨cells 0 _ rfl,cells 1 _ rfl,(soft 1 (show 1<3 by decide)).2,cells 2 _ rfl,Row.nil _ _ _ _,fun w' _=>SlV.nil _ _,m4,fun hh=> ?_,fun hh=> ?_,by omega,by omega,by omega,by omega,fun _ h=>h.elim,fun _ h=>h.elim⟩
  ·obtain⟨_,hh,_⟩:=hh;cases hh
  ·obtain⟨_,hh,_⟩:=hh;cases hh
 have pt:PT (fun _=>False) w2.heap.size w2 p p2 m1 g w4 none 0 0 [] [] []:=⟨ps,fun i l hl=>by simp at hl,⟨fun n k hk=>by simp[aget] at hk⟩,E24,E24.size⟩
 have hconn:Conn (us.take us.length) a b:=by rw[List.take_length];exact hl.inv.conn1 a b va vb heq'
 refine(same_all (h.stay (Ext.of_drawn hw2)) hl.inv hl.sem (Nat.le_refl _) (LB:=1099511627775) (by omega) us.length _ w4 none 0 0 [] [] [] a b pt va vb hconn (by simp only[List.length_nil];omega)).mono ?_
 rintro _ w5 ⟨_,rfl,k,rfl,AL,nL,cL,lv,m,of',P5,a5,c5,_,_,lat⟩
 rw[List.nil_append] at P5 lat c5
 have hlt:=lat.lt
 obtain⟨k0,q,hq,qa,qb⟩:=lat
 have hlen:=P5.ps.len
 have hcap:=P5.ps.row.le
 simp only[List.length_nil] at c5
 have ew:IntKind.wrap .i64 (k+1)=k+1:=wrap_small (by omega) (by omega)
 have E5:Ext w1 w5:=(Ext.of_drawn hw2).trans P5.ext
 refine⟨_,rfl,k,rfl,AL,nL,cL,P5.ps.c1,?_⟩
 rw[ew]
 refine⟨by omega,by omega,E5,.inr (.inr ⟨ht,(Gr.same_iff hl va vb).1 heq',rfl,m.take (k+1).toNat,lv.take ((k+1).toNat*5),by rw[List.length_take];omega,by rw[List.length_take];omega,?_,?_,?_,q,?_,qa,qb⟩)⟩
 ·have lt:(m.take (k+1).toNat).length=(k+1).toNat:=by rw[List.length_take];omega
  rw[lt]
  have:=P5.ps.row.cut (m:=(k+1).toNat) (d:=cL) (by omega) (by omega) (Nat.le_refl _)
  exact this.rebase (by rw[hw2.heap];exact Nat.le_refl _)
 ·intro w6 hw6
  have:=P5.ps.sl w6 (hw6.mono fun i _ hi=> .inl (.inr (.inr hi)))
  refine⟨?_,fun i x hx=> ?_⟩
  ·have h1:=this.1
   rw[List.length_take,List.length_take]
   have e5:cLink.size=5:=rfl
   rw[e5] at h1⊢
   omega
  ·rw[List.getElem?_take] at hx
   split at hx
   ·rename_i hi
    have h2:=this.2 i x hx
    have e5:cLink.size=5:=rfl
    rw[e5] at h2⊢
    have:((lv.take ((k+1).toNat*5)).drop (i*5)).take 5=(lv.drop (i*5)).take 5:=by
     rw[List.drop_take,List.take_take,Nat.min_eq_left (by omega)]
    rw[this]
    exact h2
   ·cases hx
 ·intro i l' hl'
  rw[List.getElem?_take] at hl'
  split at hl'
  ·rename_i hi
   have ok:=P5.ok i l' hl'
   have cutAt:∀{kk x y:Int},kk<i→LAt m kk x y→LAt (m.take (k+1).toNat) kk x y:=fun {kk x y} hk ⟨h0,q,h1,h2⟩=>⟨h0,q,by rw[List.getElem?_take,if_pos (by omega)];exact h1,h2⟩
   refine⟨ok.va,ok.vb,ok.kids,?_⟩
   rcases ok.rule with r|r|⟨r1,r2,kk,r3,r4⟩|⟨r1,r2,kk,qq,x,r3,r4,r5⟩|⟨r1,r2,r3,r4,r5,r6,r7⟩
   ·exact .inl r
   ·exact .inr (.inl r)
   ·exact .inr (.inr (.inl ⟨r1,r2,kk,r3,cutAt (ok.kids kk (by rw[r3];simp)).2 r4⟩))
   ·exact .inr (.inr (.inr (.inl ⟨r1,r2,kk,qq,x,r3,cutAt (ok.kids kk (by rw[r3];simp)).2 r4,cutAt (ok.kids qq (by rw[r3];simp)).2 r5⟩)))
   ·exact .inr (.inr (.inr (.inr ⟨r1,r2,r3,r4,r5,r6,fun j kk x y h1 h2 h3=>cutAt (ok.kids kk (List.mem_of_getElem? h1)).2 (r7 j kk x y h1 h2 h3)⟩)))
  ·cases hl'
 ·rw[List.length_take,Nat.min_eq_left (by omega),List.getElem?_take,if_pos (by omega)]
  rw[show(k+1).toNat-1=k.toNat by omega]
  exact hq
end
end Go.Proofs.YtbmbhfghpidggaaDoor
namespace Go.Proofs.YtbmbhfghpidggaaDoor
set_option linter.unusedVariables false
set_option linter.unusedSimpArgs false
open Wk
theorem nodeOf_at {fs:List Flat} {i:Int} {x:Flat} (h:fs[i.toNat]? =some x):nodeOf fs i=x:=by
 unfold nodeOf
 rw[List.getD_eq_getElem?_getD,h]
 rfl
structure NodesOk (W0:Nat) (fs:List Flat):Prop where
 few:fs.length≤1048576
 i64:∀x∈fs,I64 x.fn
 wide:wsum fs fs.length≤W0
 W:W0≤1048576
 tight:fs.length*(W0+2)+1≤300000000000
theorem mem_le_sum:∀{l:List Nat} {x:Nat},x∈l→x≤l.sum
 |[],_,h=>by cases h
 |y::l,x,h=>by
  rw[List.sum_cons]
  rcases List.mem_cons.1 h with rfl|h
  ·omega
  ·have:=mem_le_sum h
   omega
theorem NodesOk.args {W0:Nat} {fs:List Flat} (h:NodesOk W0 fs) {x:Flat} (hx:x∈fs):x.args.length≤W0:=by
 refine Nat.le_trans ?_ h.wide
 unfold wsum
 rw[List.take_length]
 exact mem_le_sum (List.mem_map.2 ⟨x,hx,rfl⟩)
def In2 (fs:List Flat) (a b:Int):Prop:=0≤a∧0≤b∧a<fs.length∧b<fs.length
theorem In2.l {fs:List Flat} {a b:Int} (h:In2 fs a b):Vn fs.length a:=⟨h.1,h.2.2.1⟩
theorem In2.r {fs:List Flat} {a b:Int} (h:In2 fs a b):Vn fs.length b:=⟨h.2.1,h.2.2.2⟩
theorem In2.of {fs:List Flat} {a b:Int} (h:Vn fs.length a) (k:Vn fs.length b):In2 fs a b:=⟨h.1,k.1,h.2,k.2⟩
section
variable {B0:Nat} {w w' w0:World} {p U:Addr} {M N:Nat} {A:Nat→Option Addr} {n c:Nat→Nat} {H:Nat→Prop} {g:GS}
theorem GRep.farBelow {X:Nat→Prop} (h:GRep B0 w p U M N A n c H g) (k:Keep X w w') (hX:∀b,b<w.heap.size→X b→b<B0) (tab:Tab10 B0 w'):GRep B0 w' p U M N A n c H g:=by
 have k':Keep (fun b=>X b∧b<w.heap.size) w w':=k.mono fun i hi hx=>⟨hx,hi⟩
 have no:∀b,H b→¬(fun b=>X b∧b<w.heap.size) b:=fun b hb hx=>by
  have h1:=hX b hx.2 hx.1
  have h2:=(h.lo b hb).1
  omega
 refine⟨h.fam.keep k' fun b hb=>no b (h.sub b hb),?_,?_,h.map.keep k' (no M h.subM),h.mno,h.nad,h.nd.adv (Adv.of_keep k fun i hi hx=> .inl (hX i hi hx)),h.sub,h.subM,fun b hb=>⟨(h.lo b hb).1,Nat.lt_of_lt_of_le (h.lo b hb).2 k.size⟩,h.pU,tab⟩
 ·exact h.ucell.imp fun _ hc=>k'.cell ⟨hc,by rw[Addr.add_block];exact no _ (h.sub _ h.fx_p)⟩
 ·exact k'.cell ⟨h.mcell,by rw[Addr.add_block];exact no _ (h.sub _ h.fx_p)⟩
end
structure Live (W0 B0:Nat) (w:World) (p:Addr) (fs:List Flat) (H:Nat→Prop) (st:List SaidR) (ms:List Int):Prop where
 ok:NodesOk W0 fs
 ex:∃U M g us,Gr (fs.length*(W0+2)+1) W0 B0 w p U M fs.length H g us∧g.nodes=fs∧g.stand=st∧g.marks.map Mk.said=ms
section
variable {W0 B0:Nat} {w w':World} {p:Addr} {fs:List Flat} {H:Nat→Prop} {st:List SaidR} {ms:List Int}
theorem Live.stay (h:Live W0 B0 w p fs H st ms) (k:Ext w w'):Live W0 B0 w' p fs H st ms:=by
 obtain⟨ok,U,M,g,us,⟨⟨A,n,c,r⟩,l,hN⟩,e⟩:=h
 exact⟨ok,U,M,g,us,⟨⟨A,n,c,r.stay k⟩,l,hN⟩,e⟩
theorem Live.far {X:Nat→Prop} (h:Live W0 B0 w p fs H st ms) (k:Keep X w w') (hX:∀b,b<w.heap.size→X b→b<B0) (tab:Tab10 B0 w'):Live W0 B0 w' p fs H st ms:=by
 obtain⟨ok,U,M,g,us,⟨⟨A,n,c,r⟩,l,hN⟩,e⟩:=h
 exact⟨ok,U,M,g,us,⟨⟨A,n,c,r.farBelow k hX tab⟩,l,hN⟩,e⟩
theorem Live.lo (h:Live W0 B0 w p fs H st ms):∀b,H b→B0≤b∧b<w.heap.size:=by
 obtain⟨ok,U,M,g,us,⟨⟨A,n,c,r⟩,l,hN⟩,e⟩:=h
 exact r.lo
theorem Live.sound (h:Live W0 B0 w p fs H st ms):Sound fs:=by
 obtain⟨ok,U,M,g,us,⟨⟨A,n,c,r⟩,l,hN⟩,rfl,_⟩:=h
 exact l.inv.sound
theorem Live.val (h:Live W0 B0 w p fs H st ms):∀s∈st,In2 fs s.a s.b:=by
 obtain⟨ok,U,M,g,us,⟨⟨A,n,c,r⟩,l,hN⟩,rfl,rfl,_⟩:=h
 intro s hs
 obtain⟨v1,v2⟩:=l.sem.val s hs
 exact .of v1 v2
theorem Live.wide (h:Live W0 B0 w p fs H st ms) (hs:st.length≤1048575):∃U M A n c g us,GRep B0 w p U M fs.length A n c H g∧GLive (fs.length*(W0+2)+1) W0 g us∧Wide W0 g∧g.nodes=fs∧g.stand=st∧g.marks.map Mk.said=ms:=by
 obtain⟨ok,U,M,g,us,⟨⟨A,n,c,r⟩,l,hN⟩,rfl,rfl,e⟩:=h
 have t:=ok.tight
 exact⟨U,M,A,n,c,g,us,r,l,⟨ok.wide,fun x hx=>ok.args hx,by omega,hs⟩,rfl,rfl,e⟩
theorem live_new {A1:Option Addr} {c1:Nat} (hx:∀w',Ext w w'→Sl cFlat w' A1 fs.length fs) (hB:B0≤w.heap.size) (tab:Tab10 B0 w) (ok:NodesOk W0 fs):
  Calls P F.euf_New #[.slice A1 fs.length c1] w (Ret fun v w'=>(¬Sound fs∧v= .tuple #[.pointer none,.int .i64 80]∧Ext w w')∨(Sound fs∧∃p H,v= .tuple #[.pointer (some p),.int .i64 0]∧Live W0 B0 w' p fs H [] []∧Adv (fun _=>False) w H w')):=by
 have t:=ok.tight
 refine Ret.mono (new_is hx hB tab ok.few ok.i64 ok.wide ok.W (by omega)) ?_
 rintro v w' (⟨h1,h2,h3⟩|⟨h1,p,U,M,H,g,us,h2,h3,h4,h5,h6,h7⟩)
 ·exact .inl ⟨h1,h2,h3⟩
 ·exact .inr ⟨h1,p,H,h2,⟨ok,U,M,g,us,h3,h4,h5,by rw[h6];rfl⟩,h7⟩
theorem Live.equal {a b t:Int} (h:Live W0 B0 w p fs H st ms) (hs:st.length≤1048576):
  Calls P F.euf_Graph_Equal #[.pointer (some p),.int .i64 a,.int .i64 b,.int .i64 t] w (Ret fun v w'=>∃e:Int,v= .int .i64 e∧∃H',Adv H w H' w'∧
   ((¬In2 fs a b∧e=80∧Live W0 B0 w' p fs H' st ms)∨(In2 fs a b∧e=0∧Live W0 B0 w' p fs H' (st++[⟨a,b,t,false⟩]) ms))):=by
 obtain⟨ok,U,M,g,us,hg,rfl,rfl,rfl⟩:=h
 refine Ret.mono (equal_is (a:=a) (b:=b) (t:=t) hg (by omega)) ?_
 rintro v w' ⟨e,rfl,H',g',us',k,adv,_,hm,hn,hv,⟨h1,rfl,rfl,rfl⟩|⟨h1,rfl,h2⟩⟩
 ·exact⟨_,rfl,H',adv,.inl ⟨h1,rfl,ok,U,M,_,_,k,rfl,rfl,rfl⟩⟩
 ·exact⟨_,rfl,H',adv,.inr ⟨h1,rfl,ok,U,M,g',us',k,hn,h2,by rw[hm]⟩⟩
theorem Live.differ {a b t:Int} (h:Live W0 B0 w p fs H st ms) (hs:st.length≤1048576):
  Calls P F.euf_Graph_Differ #[.pointer (some p),.int .i64 a,.int .i64 b,.int .i64 t] w (Ret fun v w'=>∃e:Int,v= .int .i64 e∧∃H',Adv H w H' w'∧
   ((¬In2 fs a b∧e=80∧Live W0 B0 w' p fs H' st ms)∨(In2 fs a b∧e=0∧Live W0 B0 w' p fs H' (st++[⟨a,b,t,true⟩]) ms))):=by
 obtain⟨ok,U,M,g,us,⟨⟨A,n,c,r⟩,l,hN⟩,rfl,rfl,rfl⟩:=h
 refine Ret.mono (differ_is (a:=a) (b:=b) (t:=t) r (by omega)) ?_
 rintro v w' ⟨e,rfl,A',n',c',H',g',k,adv,_,⟨h1,rfl,rfl⟩|⟨h1,rfl,rfl⟩⟩
 ·exact⟨_,rfl,H',adv,.inl ⟨h1,rfl,ok,U,M,_,us,⟨⟨A',n',c',k⟩,l,hN⟩,rfl,rfl,rfl⟩⟩
 ·have h1':There g a b:=h1
  exact⟨_,rfl,H',adv,.inr ⟨h1,rfl,ok,U,M,_,us,⟨⟨A',n',c',k⟩,l.differ ⟨h1'.1,h1'.2.2.1⟩ ⟨h1'.2.1,h1'.2.2.2⟩,hN⟩,rfl,rfl,rfl⟩⟩
theorem Live.push (h:Live W0 B0 w p fs H st ms) (hm:ms.length≤1048576):
  Calls P F.euf_Graph_Push #[.pointer (some p)] w (Ret fun v w'=>v= .tuple #[]∧∃H',Adv H w H' w'∧Live W0 B0 w' p fs H' st (ms++[(st.length:Int)])):=by
 obtain⟨ok,U,M,g,us,⟨⟨A,n,c,r⟩,l,hN⟩,rfl,rfl,rfl⟩:=h
 rw[List.length_map] at hm
 refine Ret.mono (push_is r (by omega)) ?_
 rintro v w' ⟨rfl,A',n',c',H',k,adv,_⟩
 exact⟨rfl,H',adv,ok,U,M,_,us,⟨⟨A',n',c',k⟩,l.push,hN⟩,rfl,rfl,by simp⟩
def popS (st:List SaidR) (ms:List Int) (k:Int):List SaidR×List Int:=
 if 0<k∧k≤ms.length then(st.take (ms.getD (ms.length-k.toNat) 0).toNat,ms.take (ms.length-k.toNat)) else(st,ms)
theorem Live.pop {k:Int} (h:Live W0 B0 w p fs H st ms) (hs:st.length≤1048576) (hm:ms.length≤1048576) (hk:I64 k):
  Calls P F.euf_Graph_Pop #[.pointer (some p),.int .i64 k] w (Ret fun v w'=>∃e:Int,v= .int .i64 e∧∃H',Adv H w H' w'∧((k<0∨ms.length<k)∧e=81∨¬(k<0∨ms.length<k)∧e=0)∧Live W0 B0 w' p fs H' (popS st ms k).1 (popS st ms k).2):=by
 obtain⟨ok,U,M,g,us,hg,rfl,rfl,rfl⟩:=h
 rw[List.length_map] at hm
 refine Ret.mono (pop_is hg (by omega) (by omega) hk) ?_
 unfold popS
 rw[List.length_map]
 rintro v w' ⟨e,rfl,H',g',us',q,adv,_,hn,hv,⟨h1,rfl,rfl,rfl⟩|⟨h1,rfl,rfl,rfl⟩|⟨h1,h2,rfl,h3,m,h4,h5⟩⟩
 ·refine⟨_,rfl,H',adv,.inl ⟨h1,rfl⟩,ok,U,M,_,_,q,rfl,?_⟩
  rw[if_neg (by omega)]
  exact⟨rfl,rfl⟩
 ·refine⟨_,rfl,H',adv,.inr ⟨by omega,rfl⟩,ok,U,M,_,_,q,rfl,?_⟩
  rw[if_neg (by omega)]
  exact⟨rfl,rfl⟩
 ·refine⟨_,rfl,H',adv,.inr ⟨by omega,rfl⟩,ok,U,M,g',us',q,hn,?_⟩
  rw[if_pos ⟨h1,h2⟩]
  refine⟨?_,?_⟩
  ·rw[h5,List.getD_eq_getElem?_getD,List.getElem?_map,h4]
   rfl
  ·rw[h3,List.map_take]
theorem Live.why {a b:Int} (h:Live W0 B0 w p fs H st ms) (hs:st.length≤1048575):
  Calls P F.euf_Graph_Why #[.pointer (some p),.int .i64 a,.int .i64 b] w (Ret fun v w'=>∃B m d e,v= .tuple #[.slice B m d,.int .i64 e]∧Ext w w'∧((¬In2 fs a b∧e=80∧m=0)∨(In2 fs a b∧¬SameBy fs st a b∧e=82∧m=0)∨
   (In2 fs a b∧SameBy fs st a b∧e=0∧∃out,m=out.length∧Row w' w.heap.size T.int 1 B out.length d (out.map iv)∧Bare (fun tags=>SameBy fs (pick st tags) a b) out))):=by
 obtain⟨U,M,A,n,c,g,us,r,l,wd,rfl,rfl,rfl⟩:=h.wide hs
 exact why_is r l wd
theorem Live.prove {a b:Int} (h:Live W0 B0 w p fs H st ms) (hs:st.length≤1048575):
  Calls P F.euf_Graph_Prove #[.pointer (some p),.int .i64 a,.int .i64 b] w (Ret fun v w'=>∃B m d e,v= .tuple #[.slice B m d,.int .i64 e]∧Ext w w'∧((¬In2 fs a b∧e=80∧m=0)∨(In2 fs a b∧¬SameBy fs st a b∧e=82∧m=0)∨
   (In2 fs a b∧SameBy fs st a b∧e=0∧∃ls lv,m=ls.length∧ls.length≤1099511627776∧Row w' w.heap.size T.api_Link 5 B ls.length d lv∧St (At B) w' (fun w=>SlV cLink w lv ls)∧AllOk fs st ls∧∃last,ls[ls.length-1]? =some last∧last.a=a∧last.b=b))):=by
 obtain⟨U,M,A,n,c,g,us,r,l,wd,rfl,rfl,rfl⟩:=h.wide hs
 exact prove_is r l wd (h.ok.tight)
theorem Live.same {a b:Int} (h:Live W0 B0 w p fs H st ms):
  Calls P F.euf_Graph_Same #[.pointer (some p),.int .i64 a,.int .i64 b] w (Ret fun v w'=>∃(r:Bool) (e:Int),v= .tuple #[.bool r,.int .i64 e]∧((¬In2 fs a b∧r=false∧e=80)∨(In2 fs a b∧e=0∧(r=true↔SameBy fs st a b)))∧Ext w w'):=by
 obtain⟨ok,U,M,g,us,⟨⟨A,n,c,r⟩,l,hN⟩,rfl,rfl,rfl⟩:=h
 refine Ret.mono (same_is r fun x h0 h1=>⟨_,vn_some (d:= -1) l.inv.cls.lfirst ⟨h0,h1⟩⟩) ?_
 rintro v w' ⟨q,e,rfl,hh,hd⟩
 refine⟨q,e,rfl,hh.imp (fun k=>k) fun⟨k1,k2,k3⟩=>⟨k1,k2,k3.trans ?_⟩,Ext.of_drawn hd⟩
 have va:Vn g.nodes.length a:=⟨k1.1,k1.2.2.1⟩
 have vb:Vn g.nodes.length b:=⟨k1.2.1,k1.2.2.2⟩
 have ha:=vn_some (d:= -1) l.inv.cls.lfirst va
 have hb:=vn_some (d:= -1) l.inv.cls.lfirst vb
 rw[←Gr.same_iff l va vb,ha,hb]
 exact⟨fun q=>Option.some.inj q,fun q=>congrArg some q⟩
theorem Live.clash (h:Live W0 B0 w p fs H st ms) (hs:st.length≤1048576):
  Calls P F.euf_Graph_Clash #[.pointer (some p)] w (Ret fun v w'=>∃b,v= .bool b∧(b=true↔ClashBy fs st)∧Ext w w'):=by
 obtain⟨ok,U,M,g,us,⟨⟨A,n,c,r⟩,l,hN⟩,rfl,rfl,rfl⟩:=h
 refine Ret.mono (clash_is r (known_of l (by unfold Sm;omega))) ?_
 rintro v w' ⟨q,rfl,hh,hd⟩
 exact⟨q,rfl,hh.trans (clash_iff l),hd⟩
structure RootsAre (fs:List Flat) (st:List SaidR) (r:List Int):Prop where
 len:r.length=fs.length
 at_:∀(i:Nat) x,r[i]? =some x→SameBy fs st i x∧∀y,SameBy fs st i y→x≤y
theorem Live.roots (h:Live W0 B0 w p fs H st ms) (hs:st.length≤1048576):
  Calls P F.euf_Graph_Roots #[.pointer (some p)] w (Ret fun v w'=>∃B d r,v= .slice B fs.length d∧Own w' w.heap.size T.int 1 B fs.length d (r.map iv)∧RootsAre fs st r∧Ext w w'):=by
 obtain⟨ok,U,M,g,us,⟨⟨A,n,c,r⟩,l,hN⟩,rfl,rfl,rfl⟩:=h
 have cl:=l.inv.cls
 refine Ret.mono (roots_is r (known_of l (by unfold Sm;omega)) (by have:=ok.few;unfold Sm;omega) fun x h0 h1=> ?_) ?_
 ·have:=cl.root x ⟨h0,h1⟩
  exact⟨this.1.1,_,vn_some (d:=0) cl.lleast this.1⟩
 ·rintro v w' ⟨B,d,rfl,hO,hE⟩
  refine⟨B,d,rootsL g,rfl,hO,⟨by simp[rootsL],fun i x hx=> ?_⟩,hE⟩
  have hi:i<g.nodes.length:=by
   have:=(List.getElem?_eq_some_iff.1 hx).1
   simpa [rootsL] using this
  have vi:Vn g.nodes.length (i:Int):=⟨by omega,by omega⟩
  simp only[rootsL,List.getElem?_map] at hx
  rw[List.getElem?_range hi] at hx
  simp only[Option.map_some,Option.some.injEq] at hx
  obtain⟨v1,v2⟩:=cl.root i vi
  obtain⟨_,k2,_,k4,k5⟩:=cl.cyOf v1 v2
  have e:leastAt g (fd g i)=x:=hx
  rw[e] at k4 k5
  obtain⟨vx,fx⟩:=(k2 x).1 k4
  refine⟨(Gr.same_iff l vi vx).1 fx.symm,fun y hy=> ?_⟩
  have vy:=(CC.val hy).2
  exact k5 y ((k2 y).2 ⟨vy,((Gr.same_iff l vi vy).2 hy).symm⟩)
end
end Go.Proofs.YtbmbhfghpidggaaDoor
namespace Go.Proofs.YtbmbhfghpidggaaDoor
set_option linter.unusedVariables false
set_option linter.unusedSimpArgs false
open Wk
structure OpR where
 kind:Int
 second:Bool
 a:Int
 b:Int
 tag:Int
def OpR.vals (o:OpR):List Value:=[.int .i64 o.kind,.bool o.second,.int .i64 o.a,.int .i64 o.b,.int .i64 o.tag]
def cOp:Cod OpR:=⟨5,fun _ vs o=>vs=o.vals∧I64 o.a,fun _ h=>h⟩
theorem Sl.op {w:World} {A:Option Addr} {n:Nat} {xs:List OpR} (h:Sl cOp w A n xs) {i:Int} (h0:0≤i) (h1:i<n):
  ∃o ad,xs[i.toNat]? =some o∧A=some ad∧CellsAt w (ad.add (i.toNat*5)) o.vals∧I64 o.a:=by
 obtain⟨x,ad,vs,hx,hA,hl,hc,hv,hr⟩:=h.at h0 h1
 subst hv
 exact⟨x,ad,hx,hA,hc,hr⟩
def lawVals (s:SaidR):List Value:=[.bool s.not,.int .i64 s.a,.int .i64 s.b,.int .i64 s.tag]
def cSaid:Cod SaidR:=⟨4,fun _ vs s=>vs=lawVals s,fun _ h=>h⟩
theorem slv_said (w:World) (xs:List SaidR):SlV cSaid w (xs.flatMap lawVals) xs:=by
 refine⟨?_,fun i x hx=> ?_⟩
 ·rw[flat_len (s:=4) (fun _=>rfl)];rfl
 ·exact flat_elem (f:=lawVals) (s:=4) (fun _=>rfl) xs i x hx
theorem Sl.said {w:World} {A:Option Addr} {n:Nat} {xs:List SaidR} (h:Sl cSaid w A n xs) {i:Int} (h0:0≤i) (h1:i<n):
  ∃s ad,xs[i.toNat]? =some s∧A=some ad∧CellsAt w (ad.add (i.toNat*4)) (lawVals s):=by
 obtain⟨x,ad,vs,hx,hA,hl,hc,hv⟩:=h.at h0 h1
 subst hv
 exact⟨x,ad,hx,hA,hc⟩
instance (fs:List Flat) (a b:Int):Decidable (In2 fs a b):=by unfold In2;infer_instance
def stepS (fs:List Flat) (s:List SaidR×List Int) (o:OpR):List SaidR×List Int:=
 if (o.kind=1∨o.kind=2)∧In2 fs o.a o.b then(s.1++[⟨o.a,o.b,o.tag,decide (o.kind=2)⟩],s.2)
 else if o.kind=3 then(s.1,s.2++[(s.1.length:Int)])
 else if o.kind=4 then popS s.1 s.2 o.a
 else s
def standS (fs:List Flat) (ops:List OpR):List SaidR×List Int:=ops.foldl (stepS fs) ([],[])
theorem standS_snoc {fs:List Flat} {ops:List OpR} {i:Nat} {o:OpR} (h:ops[i]? =some o):standS fs (ops.take (i+1))=stepS fs (standS fs (ops.take i)) o:=by
 unfold standS
 rw[take_succ_of h,List.foldl_append]
 rfl
structure MsOk (s:List SaidR×List Int):Prop where
 le:∀d∈s.2,0≤d∧d≤s.1.length
 rise:s.2.Pairwise (·≤·)
theorem MsOk.pop {st:List SaidR} {ms:List Int} {k:Int} (h:MsOk (st,ms)):MsOk (popS st ms k):=by
 unfold popS
 split
 ·rename_i hk
  refine⟨fun d hd=> ?_,h.rise.sublist (List.take_sublist _ _)⟩
  have hd0:=h.le d (List.mem_of_mem_take hd)
  have hlt:ms.length-k.toNat<ms.length:=by omega
  have hg:ms.getD (ms.length-k.toNat) 0=ms[ms.length-k.toNat]:=by rw[List.getD_eq_getElem?_getD,List.getElem?_eq_getElem hlt];rfl
  rw[hg]
  have hm:0≤ms[ms.length-k.toNat]∧ms[ms.length-k.toNat]≤(st.length:Int):=h.le _ (List.getElem_mem hlt)
  obtain⟨j,hj⟩:=List.mem_iff_getElem?.1 hd
  rw[List.getElem?_take] at hj
  split at hj
  ·rename_i hjl
   obtain⟨hj1,hj2⟩:=List.getElem?_eq_some_iff.1 hj
   have hle:ms[j]≤ms[ms.length-k.toNat]:=List.pairwise_iff_getElem.1 h.rise j (ms.length-k.toNat) hj1 hlt hjl
   rw[hj2] at hle
   refine⟨hd0.1,?_⟩
   show d≤((st.take _).length:Int)
   rw[List.length_take]
   omega
  ·cases hj
 ·exact h
theorem MsOk.step {fs:List Flat} {s:List SaidR×List Int} (h:MsOk s) (o:OpR):MsOk (stepS fs s o):=by
 unfold stepS
 split
 ·refine⟨fun d hd=> ?_,h.rise⟩
  have:=h.le d hd
  simp only[List.length_append,List.length_cons,List.length_nil]
  omega
 ·split
  ·refine⟨fun d hd=> ?_,?_⟩
   ·rcases List.mem_append.1 hd with hd|hd
    ·exact h.le d hd
    ·simp only[List.mem_cons,List.not_mem_nil,or_false] at hd
     subst hd
     exact⟨by omega,Int.le_refl _⟩
   ·rw[List.pairwise_append]
    refine⟨h.rise,List.pairwise_singleton _ _,fun x hx y hy=> ?_⟩
    simp only[List.mem_cons,List.not_mem_nil,or_false] at hy
    subst hy
    exact(h.le x hx).2
  ·split
   ·exact h.pop
   ·exact h
theorem popS_len {st:List SaidR} {ms:List Int} {k:Int}:(popS st ms k).1.length≤st.length∧(popS st ms k).2.length≤ms.length:=by
 unfold popS
 split
 ·rw[List.length_take,List.length_take]
  omega
 ·exact⟨Nat.le_refl _,Nat.le_refl _⟩
theorem stepS_len (fs:List Flat) (s:List SaidR×List Int) (o:OpR):(stepS fs s o).1.length≤s.1.length+1∧(stepS fs s o).2.length≤s.2.length+1:=by
 unfold stepS
 split
 ·simp
 ·split
  ·simp
  ·split
   ·have:=popS_len (st:=s.1) (ms:=s.2) (k:=o.a)
    omega
   ·omega
theorem standS_ok (fs:List Flat) (ops:List OpR):∀i,i≤ops.length→MsOk (standS fs (ops.take i))∧(standS fs (ops.take i)).1.length≤i∧(standS fs (ops.take i)).2.length≤i
 |0,_=>⟨⟨fun d hd=>(by cases hd),List.Pairwise.nil⟩,Nat.le_refl _,Nat.le_refl _⟩
 |i+1,h=>by
  obtain⟨h1,h2,h3⟩:=standS_ok fs ops i (by omega)
  rw[standS_snoc (List.getElem?_eq_getElem (show i<ops.length by omega))]
  have:=stepS_len fs (standS fs (ops.take i)) (ops[i]'(by omega))
  exact⟨h1.step _,by omega,by omega⟩
end Go.Proofs.YtbmbhfghpidggaaDoor
namespace Go.Proofs.YtbmbhfghpidggaaDoor
set_option linter.unusedVariables false
set_option linter.unusedSimpArgs false
set_option maxHeartbeats 2000000
set_option maxRecDepth 20000
open Wk
def vc_arbiterlaw13_no (x1:Int) (K:Int→World→Prop) (w:World):Prop:=
 K x1 w
theorem ok_arbiterlaw13_no (x1:Int) (K:Int→World→Prop) (w:World) (H:vc_arbiterlaw13_no x1 K w):Calls P F.arbiterlaw13_no #[(.int .i64 x1)] w (Ret fun v w'=>∃x2,v=(.int .i64 x2)∧K x2 w'):=by
 unfold vc_arbiterlaw13_no at H;exact calls_of (P:=P) Tryd.func10 rfl [(0,(.int .i64 x1))] 4 rfl rfl (fun p hp=>by rcases List.mem_singleton.1 hp with rfl;rfl) (cw_seq (cw_region (ag rfl (sl_nil (nc (kp 0 rfl zz) (cw_seq (cw_region (mv rfl (ag rfl (sl_nil (nc (kp 2 rfl zz) (cw_ret (nx_body_ret (res1 rfl rfl) ⟨_,rfl,_,rfl,H⟩)))))))))))))
def vc_arbiterlaw13_sound_J1 (K:Bool→World→Prop) (w:World) (k2:Nat) (I2:Nat→Int→Prop) (x2:Int) (b2:Bool):Prop:=
 (b2=true→(K false w))∧(b2=false→(∃k3,k3<k2∧I2 k3 (IntKind.wrap .i64 (x2+1))))
def vc_arbiterlaw13_sound (A1:Option Addr) (n1 c1:Nat) (K:Bool→World→Prop) (w:World):Prop:=
 ∃I1:Nat→Int→Prop,(∃k1,I1 k1 0)∧∀k1 (x1:Int),I1 k1 x1→((x1<(n1:Int)→(∃I2:Nat→Int→Prop,(∃k2,I2 k2 0)∧∀k2 (x2:Int),I2 k2 x2→(0≤x1∧x1<(n1:Int)∧∃a1,A1=some a1∧∃A2 n2 c2,w.cell? ((a1.add (x1.toNat*2)).add 1)=some (.slice A2 n2 c2)∧(x2<(n2:Int)→(0≤x1∧x1<(n1:Int)∧∃a2,A1=some a2∧∃A3 n3 c3,w.cell? ((a2.add (x1.toNat*2)).add 1)=some (.slice A3 n3 c3)∧0≤x2∧x2<(n3:Int)∧∃a3,A3=some a3∧∃x3,w.cell? (a3.add (x2.toNat*1))=some (.int .i64 x3)∧(x3<0→((vc_arbiterlaw13_sound_J1 K w k2 I2 x2) true))∧(¬(x3<0)→(0≤x1∧x1<(n1:Int)∧∃a4,A1=some a4∧∃A4 n4 c4,w.cell? ((a4.add (x1.toNat*2)).add 1)=some (.slice A4 n4 c4)∧0≤x2∧x2<(n4:Int)∧∃a5,A4=some a5∧∃x4,w.cell? (a5.add (x2.toNat*1))=some (.int .i64 x4)∧(vc_arbiterlaw13_sound_J1 K w k2 I2 x2) (decide (x1≤x4))))))∧(¬(x2<(n2:Int))→(∃k4,k4<k1∧I1 k4 (IntKind.wrap .i64 (x1+1)))))))∧(¬(x1<(n1:Int))→(K true w)))
theorem ok_arbiterlaw13_sound (A1:Option Addr) (n1 c1:Nat) (K:Bool→World→Prop) (w:World) (H:vc_arbiterlaw13_sound A1 n1 c1 K w):Calls P F.arbiterlaw13_sound #[(.slice A1 n1 c1)] w (Ret fun v w'=>∃b1,v=(.bool b1)∧K b1 w'):=by
 unfold vc_arbiterlaw13_sound at H;refine calls_of (P:=P) Tryd.func6 rfl [(0,(.slice A1 n1 c1))] 42 rfl rfl (fun p hp=>by rcases List.mem_singleton.1 hp with rfl;rfl) (cw_seq (cw_region (ag rfl (sl_nil (nc (kp 0 rfl zz) (cw_seq (cw_seq (cw_region (ag rfl (sl_nil (nc (kp 0 rfl (kp 3 rfl zz)) (cw_block ?_))))))))))));obtain⟨I1,⟨k1,hi⟩,H⟩:=H;refine cw_loop_still (fun k1 a=>∃x1,Ok 42 [(0,(.slice A1 n1 c1)),(3,(.int .i64 x1))] a∧I1 k1 x1) (fun a ha=>⟨k1,0,ha.weaken (sub.cons rfl (sub.cons rfl (sub.nil))),hi⟩) ?_;rintro k1 a ⟨x1,ha,hI⟩;replace H:=H k1 x1 hI;refine(?_:CW _ _ _ 42 [(0,(.slice A1 n1 c1)),(3,(.int .i64 x1))] _) a ha;refine cw_seq (cw_seq (cw_region (mv rfl (mv rfl (sv rfl rfl (fun a ha=>x_builtin (ha.evs rfl) (fun _=>l_slice TF.isslice_sl_api_Flat)) (bo rfl rfl o_lss (sl_nil (nc (kp 0 rfl (kp 3 rfl (kp 8 rfl zz))) ?_))))))));refine cw_cond_p rfl (fun hb=> ?_) (fun hb=> ?_)
 ·replace H:=H.1 hb;refine cw_skip (nc (kp 0 rfl (kp 3 rfl zz)) (cw_seq (cw_block (cw_seq (cw_region (ag rfl (sl_nil (nc (kp 0 rfl (kp 3 rfl (kp 4 rfl zz))) (cw_block ?_)))))))));obtain⟨I2,⟨k2,hi⟩,H⟩:=H;refine cw_loop_still (fun k2 a=>∃x2,Ok 42 [(0,(.slice A1 n1 c1)),(3,(.int .i64 x1)),(4,(.int .i64 x2))] a∧I2 k2 x2) (fun a ha=>⟨k2,0,ha.weaken (sub.cons rfl (sub.cons rfl (sub.cons rfl (sub.nil)))),hi⟩) ?_;rintro k2 a ⟨x2,ha,hI⟩;replace H:=H k2 x2 hI;refine(?_:CW _ _ _ 42 [(0,(.slice A1 n1 c1)),(3,(.int .i64 x1)),(4,(.int .i64 x2))] _) a ha;refine cw_seq (cw_seq (cw_region (mv rfl (mv rfl (mv rfl ?_)))));obtain⟨h1,h2,a1,e1,H⟩:=H;refine ix rfl rfl (i_index TF.elem_sl_api_Flat TF.size_api_Flat e1 h1 h2) (fa rfl (TF.fld_api_Flat_1 _ _) ?_);obtain⟨A2,n2,c2,h3,H⟩:=H;refine ld rfl (i_load1 TF.agg_sl_int h3) (sv rfl rfl (fun a ha=>x_builtin (ha.evs rfl) (fun _=>l_slice TF.isslice_sl_int)) (bo rfl rfl o_lss (sl_nil (nc (kp 0 rfl (kp 3 rfl (kp 4 rfl (kp 18 rfl zz)))) ?_))));refine cw_cond_p rfl (fun hb=> ?_) (fun hb=> ?_)
  ·replace H:=H.1 hb;refine cw_skip (nc (kp 0 rfl (kp 3 rfl (kp 4 rfl zz))) (cw_seq (cw_block ?_)));refine cw_join_still (fun a=>∃b2,Ok 42 [(0,(.slice A1 n1 c1)),(3,(.int .i64 x1)),(4,(.int .i64 x2)),(41,(.bool b2))] a∧vc_arbiterlaw13_sound_J1 K w k2 I2 x2 b2) ?_ ?_
   ·rintro a ⟨b2,ha,H⟩;unfold vc_arbiterlaw13_sound_J1 at H;refine(?_:CW _ _ _ 42 [(0,(.slice A1 n1 c1)),(3,(.int .i64 x1)),(4,(.int .i64 x2)),(41,(.bool b2))] _) a ha;refine cw_cond rfl (fun hb=> ?_) (fun hb=> ?_)
    ·replace H:=H.1 hb;exact cw_seq (cw_region (ag rfl (sl_nil (nc (kp 2 rfl zz) (cw_ret (nx_ret_block (nx_ret_then (nx_ret_then (nx_ret_block (nx_ret_block (nx_ret_then (nx_ret_then (nx_ret_block (nx_ret_then (nx_body_ret (res1 rfl rfl) ⟨_,rfl,_,rfl,H⟩)))))))))))))))
    ·replace H:=H.2 hb;refine cw_skip (nx_block (nc (kp 0 rfl (kp 3 rfl (kp 4 rfl zz))) (cw_region (mv rfl (bo rfl rfl o_add (ag rfl (sl_nil ?_)))))));obtain⟨k3,hk,H⟩:=H;exact nx_to fun a ha=>⟨k3,hk,⟨IntKind.wrap .i64 (x2+1),ha.weaken (cn rfl (cn rfl (cn rfl zz))),H⟩,rfl⟩
   ·refine cw_region (mv rfl (mv rfl ?_));obtain⟨h4,h5,a2,e2,H⟩:=H;refine ix rfl rfl (i_index TF.elem_sl_api_Flat TF.size_api_Flat e2 h4 h5) (fa rfl (TF.fld_api_Flat_1 _ _) ?_);obtain⟨A3,n3,c3,h6,H⟩:=H;refine ld rfl (i_load1 TF.agg_sl_int h6) (mv rfl ?_);obtain⟨h7,h8,a3,e3,H⟩:=H;refine ix rfl rfl (i_index TF.elem_sl_int TF.size_int e3 h7 h8) ?_;obtain⟨x3,h9,H⟩:=H;refine ld rfl (i_load1 TF.agg_int h9) (bo rfl rfl o_lss ?_);rcases Classical.em (x3<0) with hb|hb
    ·replace H:=H.1 hb;exact sv rfl rfl (fun a ha=>o_t (x_move (ha.ev rfl)) hb) (sk rfl rfl rfl rfl (sk rfl rfl rfl rfl (sk rfl rfl rfl rfl (sk rfl rfl rfl rfl (sk rfl rfl rfl rfl (sk rfl rfl rfl rfl (sk rfl rfl rfl rfl (sk rfl rfl rfl rfl (sk rfl rfl rfl rfl (sk rfl rfl rfl rfl (pt rfl rfl (sl_nil (nx_to fun a ha=>⟨⟨true,ha.weaken (cn rfl (cn rfl (cn rfl (cn rfl zz)))),H⟩,rfl⟩)))))))))))))
    ·replace H:=H.2 hb;refine sv rfl rfl (fun a ha=>o_f (x_move (ha.ev rfl)) hb) (mvg rfl rfl rfl (mvg rfl rfl rfl ?_));obtain⟨h10,h11,a4,e4,H⟩:=H;refine ixg rfl rfl rfl rfl (i_index TF.elem_sl_api_Flat TF.size_api_Flat e4 h10 h11) (fag rfl rfl rfl (TF.fld_api_Flat_1 _ _) ?_);obtain⟨A4,n4,c4,h12,H⟩:=H;refine ldg rfl rfl rfl (i_load1 TF.agg_sl_int h12) (mvg rfl rfl rfl ?_);obtain⟨h13,h14,a5,e5,H⟩:=H;refine ixg rfl rfl rfl rfl (i_index TF.elem_sl_int TF.size_int e5 h13 h14) ?_;obtain⟨x4,h15,H⟩:=H;exact ldg rfl rfl rfl (i_load1 TF.agg_int h15) (mvg rfl rfl rfl (bog rfl rfl rfl rfl o_geq (pf rfl rfl (sl_nil (nx_to fun a ha=>⟨⟨(decide (x1≤x4)),ha.weaken (cn rfl (cn rfl (cn rfl (cn rfl zz)))),H⟩,rfl⟩)))))
  ·replace H:=H.2 hb;refine cw_exit (nx_exit_then (nx_exit_then (nx_exit_hit (nx_block (nc (kp 0 rfl (kp 3 rfl zz)) (cw_region (mv rfl (bo rfl rfl o_add (ag rfl (sl_nil ?_))))))))));obtain⟨k4,hk,H⟩:=H;exact nx_to fun a ha=>⟨k4,hk,⟨IntKind.wrap .i64 (x1+1),ha.weaken (cn rfl (cn rfl zz)),H⟩,rfl⟩
 ·replace H:=H.2 hb;exact cw_exit (nx_exit_then (nx_exit_then (nx_exit_hit (nc zz (cw_seq (cw_region (ag rfl (sl_nil (nc (kp 2 rfl zz) (cw_ret (nx_body_ret (res1 rfl rfl) ⟨_,rfl,_,rfl,H⟩)))))))))))
def vc_arbiterlaw13_heads_J1 (K:Bool→World→Prop) (b7:Bool) (w19:World):Prop:=
 K b7 w19
def vc_arbiterlaw13_heads_J2 (K:Bool→World→Prop) (n1:Nat) (A1:Option Addr) (n2:Nat) (q1:Option Addr) (b5:Bool) (w12:World):Prop:=
 (b5=true→(K false w12))∧(b5=false→(((n1:Int)=1→(0≤(0:Int)∧(0:Int)<(n1:Int)∧∃a1,A1=some a1∧∃x13,w12.cell? (a1.add ((0:Int).toNat*1))=some (.int .i64 x13)∧(x13=7→((0<(n2:Int)→(Calls P F.euf_Graph_Clash #[(.pointer q1)] w12 (Ret fun v13 w18=>∃b6,v13=(.bool b6)∧(vc_arbiterlaw13_heads_J1 K) (!b6) w18)))∧(¬(0<(n2:Int))→((vc_arbiterlaw13_heads_J1 K) false w12))))∧(¬(x13=7)→((vc_arbiterlaw13_heads_J1 K) false w12))))∧(¬((n1:Int)=1)→((vc_arbiterlaw13_heads_J1 K) false w12))))
def vc_arbiterlaw13_heads_J3 (K:Bool→World→Prop) (q1:Option Addr) (b2:Bool) (w6:World):Prop:=
 (b2=true→(K false w6))∧(b2=false→(Calls P F.euf_Graph_Same #[(.pointer q1),(.int .i64 2),(.int .i64 3)] w6 (Ret fun v3 w7=>∃b3,∃x3,v3=(.tuple #[(.bool b3),(.int .i64 x3)])∧Calls P F.euf_Graph_Equal #[(.pointer q1),(.int .i64 1),(.int .i64 0),(.int .i64 7)] w7 (Ret fun v4 w8=>∃x4,v4=(.int .i64 x4)∧Calls P F.euf_Graph_Same #[(.pointer q1),(.int .i64 2),(.int .i64 3)] w8 (Ret fun v5 w9=>∃b4,∃x5,v5=(.tuple #[(.bool b4),(.int .i64 x5)])∧Calls P F.euf_Graph_Why #[(.pointer q1),(.int .i64 2),(.int .i64 3)] w9 (Ret fun v6 w10=>∃A1 n1 c1,∃x6,v6=(.tuple #[(.slice A1 n1 c1),(.int .i64 x6)])∧Calls P F.euf_Graph_Prove #[(.pointer q1),(.int .i64 2),(.int .i64 3)] w10 (Ret fun v7 w11=>∃A2 n2 c2,∃x7,v7=(.tuple #[(.slice A2 n2 c2),(.int .i64 x7)])∧(b3=true→((vc_arbiterlaw13_heads_J2 K n1 A1 n2 q1) true w11))∧(b3=false→(((!b4)=true→((vc_arbiterlaw13_heads_J2 K n1 A1 n2 q1) true w11))∧((!b4)=false→(Calls P F.arbiterlaw13_no #[(.int .i64 x3)] w11 (Ret fun v8 w13=>∃x8,v8=(.int .i64 x8)∧(x8≠0→((vc_arbiterlaw13_heads_J2 K n1 A1 n2 q1) true w13))∧(¬(x8≠0)→(Calls P F.arbiterlaw13_no #[(.int .i64 x4)] w13 (Ret fun v9 w14=>∃x9,v9=(.int .i64 x9)∧(x9≠0→((vc_arbiterlaw13_heads_J2 K n1 A1 n2 q1) true w14))∧(¬(x9≠0)→(Calls P F.arbiterlaw13_no #[(.int .i64 x5)] w14 (Ret fun v10 w15=>∃x10,v10=(.int .i64 x10)∧(x10≠0→((vc_arbiterlaw13_heads_J2 K n1 A1 n2 q1) true w15))∧(¬(x10≠0)→(Calls P F.arbiterlaw13_no #[(.int .i64 x6)] w15 (Ret fun v11 w16=>∃x11,v11=(.int .i64 x11)∧(x11≠0→((vc_arbiterlaw13_heads_J2 K n1 A1 n2 q1) true w16))∧(¬(x11≠0)→(Calls P F.arbiterlaw13_no #[(.int .i64 x7)] w16 (Ret fun v12 w17=>∃x12,v12=(.int .i64 x12)∧(vc_arbiterlaw13_heads_J2 K n1 A1 n2 q1) (decide (x12≠0)) w17))))))))))))))))))))))))
def vc_arbiterlaw13_heads (K:Bool→World→Prop) (w:World):Prop:=
 ∀(p1:Addr) (w1:World),New w (.cells #[(.int .i64 0)] T.int) p1 w1→(∀(p2:Addr) (w2:World),New w1 (.cells #[(.int .i64 1)] T.int) p2 w2→(∀(p3:Addr) (w3:World),New w2 (.cells #[(.int .i64 0),(.slice none 0 0),(.int .i64 1),(.slice none 0 0),(.int .i64 2),(.slice (some p1) 1 1),(.int .i64 2),(.slice (some p2) 1 1)] T.api_Flat) p3 w3→(Calls P F.euf_New #[(.slice (some p3) 4 4)] w3 (Ret fun v1 w4=>∃q1,∃x1,v1=(.tuple #[(.pointer q1),(.int .i64 x1)])∧Calls P F.arbiterlaw13_no #[(.int .i64 x1)] w4 (Ret fun v2 w5=>∃x2,v2=(.int .i64 x2)∧(x2≠0→((vc_arbiterlaw13_heads_J3 K q1) true w5))∧(¬(x2≠0)→((vc_arbiterlaw13_heads_J3 K q1) (decide (q1=none)) w5)))))))
theorem ok_arbiterlaw13_heads (K:Bool→World→Prop) (w:World) (H:vc_arbiterlaw13_heads K w):Calls P F.arbiterlaw13_heads #[] w (Ret fun v w'=>∃b1,v=(.bool b1)∧K b1 w'):=by
 unfold vc_arbiterlaw13_heads at H;refine calls_of (P:=P) Tryd.func4 rfl [] 101 rfl rfl (fun p hp=>by cases hp) (cw_seq (cw_region (ag rfl (sl_nil (nc zz (cw_seq (cw_region (sv rfl rfl (fun a ha=>x_buildP (u:=(.agg #[(.int .i64 0),(.slice none 0 0)])) (qs:=[(0,(.int .i64 0))]) (by simp only[List.map_cons,List.map_nil,ha.ev (x:=(.const (.int .i64 0))) rfl]) (by kernel_rfl)) (sv rfl rfl (fun a ha=>x_buildP (u:=(.agg #[(.int .i64 1),(.slice none 0 0)])) (qs:=[(0,(.int .i64 1))]) (by simp only[List.map_cons,List.map_nil,ha.ev (x:=(.const (.int .i64 1))) rfl]) (by kernel_rfl)) (sl_new (f:=(fun p=> .slice (some p) 1 1)) rfl rfl (wanted_none rfl) (fun a ha=>x_buildSlice (u:= .slice (some ⟨_,0,none⟩) 1 1) (w':=World.alloc _ (.cells #[(.int .i64 0)] T.int)) (qs:=[(0,(.int .i64 0))]) (by simp only[List.map_cons,List.map_nil,ha.ev (x:=(.const (.int .i64 0))) rfl]) (by kernel_rfl)) ?_))))))))));intro p1 w1 hN;replace H:=H _ _ hN;refine sv rfl rfl (fun a ha=>x_buildP (u:=(.agg #[(.int .i64 2),(.slice (some p1) 1 1)])) (qs:=[(0,(.int .i64 2)),(1,(.slice (some p1) 1 1))]) (by simp only[List.map_cons,List.map_nil,ha.ev (x:=(.const (.int .i64 2))) rfl,ha.ev (x:=(.tmp 15)) rfl]) (by kernel_rfl)) (sl_new (f:=(fun p=> .slice (some p) 1 1)) rfl rfl (wanted_none rfl) (fun a ha=>x_buildSlice (u:= .slice (some ⟨_,0,none⟩) 1 1) (w':=World.alloc _ (.cells #[(.int .i64 1)] T.int)) (qs:=[(0,(.int .i64 1))]) (by simp only[List.map_cons,List.map_nil,ha.ev (x:=(.const (.int .i64 1))) rfl]) (by kernel_rfl)) ?_);intro p2 w2 hN;replace H:=H _ _ hN;refine sv rfl rfl (fun a ha=>x_buildP (u:=(.agg #[(.int .i64 2),(.slice (some p2) 1 1)])) (qs:=[(0,(.int .i64 2)),(1,(.slice (some p2) 1 1))]) (by simp only[List.map_cons,List.map_nil,ha.ev (x:=(.const (.int .i64 2))) rfl,ha.ev (x:=(.tmp 17)) rfl]) (by kernel_rfl)) (sl_new (f:=(fun p=> .slice (some p) 4 4)) rfl rfl (wanted_none rfl) (fun a ha=>x_buildSlice (u:= .slice (some ⟨_,0,none⟩) 4 4) (w':=World.alloc _ (.cells #[(.int .i64 0),(.slice none 0 0),(.int .i64 1),(.slice none 0 0),(.int .i64 2),(.slice (some p1) 1 1),(.int .i64 2),(.slice (some p2) 1 1)] T.api_Flat)) (qs:=[(0,(.agg #[(.int .i64 0),(.slice none 0 0)])),(1,(.agg #[(.int .i64 1),(.slice none 0 0)])),(2,(.agg #[(.int .i64 2),(.slice (some p1) 1 1)])),(3,(.agg #[(.int .i64 2),(.slice (some p2) 1 1)]))]) (by simp only[List.map_cons,List.map_nil,ha.ev (x:=(.tmp 13)) rfl,ha.ev (x:=(.tmp 14)) rfl,ha.ev (x:=(.tmp 16)) rfl,ha.ev (x:=(.tmp 18)) rfl]) (by kernel_rfl)) ?_);intro p3 w3 hN;replace H:=H _ _ hN;refine sl_call rfl rfl (wanted_none rfl) (fun a ha=>x_call0 (ha.ev rfl) (ha.evs rfl) FF.callable_euf_New) H ?_;rintro _ w4 ⟨q1,x1,rfl,H⟩;refine mv rfl (sv rfl rfl (fun a ha=>x_extract (ha.ev rfl) rfl) (sv rfl rfl (fun a ha=>x_extract (ha.ev rfl) rfl) (ag rfl (ag rfl (sl_nil (nc (kp 1 rfl (kp 2 rfl zz)) (cw_seq ?_)))))));refine cw_join (fun a w=>∃b2,Ok 101 [(1,(.pointer q1)),(29,(.bool b2))] a∧vc_arbiterlaw13_heads_J3 K q1 b2 w) ?_ ?_
 ·rintro a w6 ⟨b2,ha,H⟩;unfold vc_arbiterlaw13_heads_J3 at H;refine(?_:CW _ _ _ 101 [(1,(.pointer q1)),(29,(.bool b2))] _) a ha;refine cw_cond rfl (fun hb=> ?_) (fun hb=> ?_)
  ·replace H:=H.1 hb;exact cw_seq (cw_region (ag rfl (sl_nil (nc (kp 0 rfl zz) (cw_ret (nx_ret_then (nx_body_ret (res1 rfl rfl) ⟨_,rfl,_,rfl,H⟩)))))))
  ·replace H:=H.2 hb;refine cw_skip (nc (kp 1 rfl zz) (cw_seq (cw_region (mv rfl (sl_call rfl rfl (wanted_none rfl) (fun a ha=>x_call0 (ha.ev rfl) (ha.evs rfl) FF.callable_euf_Graph_Same) H ?_)))));rintro _ w7 ⟨b3,x3,rfl,H⟩;refine mv rfl (sv rfl rfl (fun a ha=>x_extract (ha.ev rfl) rfl) (sv rfl rfl (fun a ha=>x_extract (ha.ev rfl) rfl) (ag rfl (ag rfl (sl_nil (nc (kp 1 rfl (kp 3 rfl (kp 4 rfl zz))) (cw_seq (cw_region (mv rfl (sl_call rfl rfl (wanted_none rfl) (fun a ha=>x_call0 (ha.ev rfl) (ha.evs rfl) FF.callable_euf_Graph_Equal) H ?_))))))))));rintro _ w8 ⟨x4,rfl,H⟩;refine ag rfl (sl_nil (nc (kp 1 rfl (kp 3 rfl (kp 4 rfl (kp 5 rfl zz)))) (cw_seq (cw_region (mv rfl (sl_call rfl rfl (wanted_none rfl) (fun a ha=>x_call0 (ha.ev rfl) (ha.evs rfl) FF.callable_euf_Graph_Same) H ?_))))));rintro _ w9 ⟨b4,x5,rfl,H⟩;refine mv rfl (sv rfl rfl (fun a ha=>x_extract (ha.ev rfl) rfl) (sv rfl rfl (fun a ha=>x_extract (ha.ev rfl) rfl) (ag rfl (ag rfl (sl_nil (nc (kp 1 rfl (kp 3 rfl (kp 4 rfl (kp 5 rfl (kp 6 rfl (kp 7 rfl zz)))))) (cw_seq (cw_region (mv rfl (sl_call rfl rfl (wanted_none rfl) (fun a ha=>x_call0 (ha.ev rfl) (ha.evs rfl) FF.callable_euf_Graph_Why) H ?_))))))))));rintro _ w10 ⟨A1,n1,c1,x6,rfl,H⟩;refine mv rfl (sv rfl rfl (fun a ha=>x_extract (ha.ev rfl) rfl) (sv rfl rfl (fun a ha=>x_extract (ha.ev rfl) rfl) (ag rfl (ag rfl (sl_nil (nc (kp 1 rfl (kp 3 rfl (kp 4 rfl (kp 5 rfl (kp 6 rfl (kp 7 rfl (kp 8 rfl (kp 9 rfl zz)))))))) (cw_seq (cw_region (mv rfl (sl_call rfl rfl (wanted_none rfl) (fun a ha=>x_call0 (ha.ev rfl) (ha.evs rfl) FF.callable_euf_Graph_Prove) H ?_))))))))));rintro _ w11 ⟨A2,n2,c2,x7,rfl,H⟩;refine mv rfl (sv rfl rfl (fun a ha=>x_extract (ha.ev rfl) rfl) (sv rfl rfl (fun a ha=>x_extract (ha.ev rfl) rfl) (ag rfl (ag rfl (sl_nil (nc (kp 1 rfl (kp 3 rfl (kp 4 rfl (kp 5 rfl (kp 6 rfl (kp 7 rfl (kp 8 rfl (kp 9 rfl (kp 10 rfl (kp 11 rfl zz)))))))))) (cw_seq ?_)))))));refine cw_join (fun a w=>∃b5,Ok 101 [(1,(.pointer q1)),(8,(.slice A1 n1 c1)),(10,(.slice A2 n2 c2)),(81,(.bool b5))] a∧vc_arbiterlaw13_heads_J2 K n1 A1 n2 q1 b5 w) ?_ ?_
   ·rintro a w12 ⟨b5,ha,H⟩;unfold vc_arbiterlaw13_heads_J2 at H;refine(?_:CW _ _ _ 101 [(1,(.pointer q1)),(8,(.slice A1 n1 c1)),(10,(.slice A2 n2 c2)),(81,(.bool b5))] _) a ha;refine cw_cond rfl (fun hb=> ?_) (fun hb=> ?_)
    ·replace H:=H.1 hb;exact cw_seq (cw_region (ag rfl (sl_nil (nc (kp 0 rfl zz) (cw_ret (nx_ret_then (nx_body_ret (res1 rfl rfl) ⟨_,rfl,_,rfl,H⟩)))))))
    ·replace H:=H.2 hb;refine cw_skip (nc (kp 1 rfl (kp 8 rfl (kp 10 rfl zz))) ?_);refine cw_join (fun a w=>∃b7,Ok 101 [(0,(.bool b7))] a∧vc_arbiterlaw13_heads_J1 K b7 w) ?_ ?_
     ·rintro a w19 ⟨b7,ha,H⟩;unfold vc_arbiterlaw13_heads_J1 at H;refine(?_:CW _ _ _ 101 [(0,(.bool b7))] _) a ha;exact cw_ret (nx_body_ret (res1 rfl rfl) ⟨_,rfl,_,rfl,H⟩)
     ·refine cw_region (mv rfl (sv rfl rfl (fun a ha=>x_builtin (ha.evs rfl) (fun _=>l_slice TF.isslice_sl_int)) (bo rfl rfl o_eql ?_)));rcases Classical.em ((n1:Int)=1) with hb|hb
      ·replace H:=H.1 hb;refine sv rfl rfl (fun a ha=>o_t (x_move (ha.ev rfl)) hb) (mvg rfl rfl rfl ?_);obtain⟨h1,h2,a1,e1,H⟩:=H;refine ixg rfl rfl rfl rfl (i_index TF.elem_sl_int TF.size_int e1 h1 h2) ?_;obtain⟨x13,h3,H⟩:=H;refine ldg rfl rfl rfl (i_load1 TF.agg_int h3) (bog rfl rfl rfl rfl o_eql (pt rfl rfl ?_));rcases Classical.em (x13=7) with hb|hb
       ·replace H:=H.1 hb;refine sv rfl rfl (fun a ha=>o_t (x_move (ha.ev rfl)) hb) (mvg rfl rfl rfl (svg rfl rfl rfl rfl (fun a ha=>x_builtin (ha.evs rfl) (fun _=>l_slice TF.isslice_sl_api_Link)) (bog rfl rfl rfl rfl o_gtr (pt rfl rfl ?_))));rcases Classical.em (0<(n2:Int)) with hb|hb
        ·replace H:=H.1 hb;refine sv rfl rfl (fun a ha=>o_t (x_move (ha.ev rfl)) hb) (mvg rfl rfl rfl (sl_call rfl rfl (wanted_some rfl rfl rfl) (fun a ha=>x_call0 (ha.ev rfl) (ha.evs rfl) FF.callable_euf_Graph_Clash) H ?_));rintro _ w18 ⟨b6,rfl,H⟩;exact svg rfl rfl rfl rfl (fun a ha=>x_unOp (ha.ev rfl) u_not) (pt rfl rfl (ag rfl (sl_nil (nx_to fun a ha=>⟨(!b6),ha.weaken (cn rfl zz),H⟩))))
        ·replace H:=H.2 hb;exact sv rfl rfl (fun a ha=>o_f (x_move (ha.ev rfl)) hb) (sk rfl rfl rfl rfl (sk rfl rfl rfl rfl (sk rfl rfl rfl rfl (pf rfl rfl (ag rfl (sl_nil (nx_to fun a ha=>⟨false,ha.weaken (cn rfl zz),H⟩)))))))
       ·replace H:=H.2 hb;exact sv rfl rfl (fun a ha=>o_f (x_move (ha.ev rfl)) hb) (sk rfl rfl rfl rfl (sk rfl rfl rfl rfl (sk rfl rfl rfl rfl (pf rfl rfl (mv rfl (sk rfl rfl rfl rfl (sk rfl rfl rfl rfl (sk rfl rfl rfl rfl (pf rfl rfl (ag rfl (sl_nil (nx_to fun a ha=>⟨false,ha.weaken (cn rfl zz),H⟩))))))))))))
      ·replace H:=H.2 hb;exact sv rfl rfl (fun a ha=>o_f (x_move (ha.ev rfl)) hb) (sk rfl rfl rfl rfl (sk rfl rfl rfl rfl (sk rfl rfl rfl rfl (sk rfl rfl rfl rfl (pf rfl rfl (mv rfl (sk rfl rfl rfl rfl (sk rfl rfl rfl rfl (sk rfl rfl rfl rfl (pf rfl rfl (mv rfl (sk rfl rfl rfl rfl (sk rfl rfl rfl rfl (sk rfl rfl rfl rfl (pf rfl rfl (ag rfl (sl_nil (nx_to fun a ha=>⟨false,ha.weaken (cn rfl zz),H⟩))))))))))))))))))
   ·refine cw_region (mv rfl ?_);rcases tf b3 with hb|hb
    ·replace H:=H.1 hb;exact sv rfl rfl (fun a ha=>o_bt (x_move (ha.ev rfl)) hb) (sk rfl rfl rfl rfl (sk rfl rfl rfl rfl (pt rfl rfl (mv rfl (sk rfl rfl rfl rfl (sk rfl rfl rfl rfl (sk rfl rfl rfl rfl (pt rfl rfl (mv rfl (sk rfl rfl rfl rfl (sk rfl rfl rfl rfl (sk rfl rfl rfl rfl (pt rfl rfl (mv rfl (sk rfl rfl rfl rfl (sk rfl rfl rfl rfl (sk rfl rfl rfl rfl (pt rfl rfl (mv rfl (sk rfl rfl rfl rfl (sk rfl rfl rfl rfl (sk rfl rfl rfl rfl (pt rfl rfl (mv rfl (sk rfl rfl rfl rfl (sk rfl rfl rfl rfl (sk rfl rfl rfl rfl (pt rfl rfl (sl_nil (nx_to fun a ha=>⟨true,ha.weaken (cn rfl (cn rfl (cn rfl (cn rfl zz)))),H⟩))))))))))))))))))))))))))))))
    ·replace H:=H.2 hb;refine sv rfl rfl (fun a ha=>o_bf (x_move (ha.ev rfl)) hb) (mvg rfl rfl rfl (svg rfl rfl rfl rfl (fun a ha=>x_unOp (ha.ev rfl) u_not) (pf rfl rfl ?_)));rcases tf (!b4) with hb|hb
     ·replace H:=H.1 hb;exact sv rfl rfl (fun a ha=>o_bt (x_move (ha.ev rfl)) hb) (sk rfl rfl rfl rfl (sk rfl rfl rfl rfl (sk rfl rfl rfl rfl (pt rfl rfl (mv rfl (sk rfl rfl rfl rfl (sk rfl rfl rfl rfl (sk rfl rfl rfl rfl (pt rfl rfl (mv rfl (sk rfl rfl rfl rfl (sk rfl rfl rfl rfl (sk rfl rfl rfl rfl (pt rfl rfl (mv rfl (sk rfl rfl rfl rfl (sk rfl rfl rfl rfl (sk rfl rfl rfl rfl (pt rfl rfl (mv rfl (sk rfl rfl rfl rfl (sk rfl rfl rfl rfl (sk rfl rfl rfl rfl (pt rfl rfl (sl_nil (nx_to fun a ha=>⟨true,ha.weaken (cn rfl (cn rfl (cn rfl (cn rfl zz)))),H⟩))))))))))))))))))))))))))
     ·replace H:=H.2 hb;refine sv rfl rfl (fun a ha=>o_bf (x_move (ha.ev rfl)) hb) (mvg rfl rfl rfl (sl_call rfl rfl (wanted_some rfl rfl rfl) (fun a ha=>x_call0 (ha.ev rfl) (ha.evs rfl) FF.callable_arbiterlaw13_no) H ?_));rintro _ w13 ⟨x8,rfl,H⟩;refine bog rfl rfl rfl rfl o_neq (pf rfl rfl ?_);rcases Classical.em (x8≠0) with hb|hb
      ·replace H:=H.1 hb;exact sv rfl rfl (fun a ha=>o_t (x_move (ha.ev rfl)) hb) (sk rfl rfl rfl rfl (sk rfl rfl rfl rfl (sk rfl rfl rfl rfl (pt rfl rfl (mv rfl (sk rfl rfl rfl rfl (sk rfl rfl rfl rfl (sk rfl rfl rfl rfl (pt rfl rfl (mv rfl (sk rfl rfl rfl rfl (sk rfl rfl rfl rfl (sk rfl rfl rfl rfl (pt rfl rfl (mv rfl (sk rfl rfl rfl rfl (sk rfl rfl rfl rfl (sk rfl rfl rfl rfl (pt rfl rfl (sl_nil (nx_to fun a ha=>⟨true,ha.weaken (cn rfl (cn rfl (cn rfl (cn rfl zz)))),H⟩)))))))))))))))))))))
      ·replace H:=H.2 hb;refine sv rfl rfl (fun a ha=>o_f (x_move (ha.ev rfl)) hb) (mvg rfl rfl rfl (sl_call rfl rfl (wanted_some rfl rfl rfl) (fun a ha=>x_call0 (ha.ev rfl) (ha.evs rfl) FF.callable_arbiterlaw13_no) H ?_));rintro _ w14 ⟨x9,rfl,H⟩;refine bog rfl rfl rfl rfl o_neq (pf rfl rfl ?_);rcases Classical.em (x9≠0) with hb|hb
       ·replace H:=H.1 hb;exact sv rfl rfl (fun a ha=>o_t (x_move (ha.ev rfl)) hb) (sk rfl rfl rfl rfl (sk rfl rfl rfl rfl (sk rfl rfl rfl rfl (pt rfl rfl (mv rfl (sk rfl rfl rfl rfl (sk rfl rfl rfl rfl (sk rfl rfl rfl rfl (pt rfl rfl (mv rfl (sk rfl rfl rfl rfl (sk rfl rfl rfl rfl (sk rfl rfl rfl rfl (pt rfl rfl (sl_nil (nx_to fun a ha=>⟨true,ha.weaken (cn rfl (cn rfl (cn rfl (cn rfl zz)))),H⟩))))))))))))))))
       ·replace H:=H.2 hb;refine sv rfl rfl (fun a ha=>o_f (x_move (ha.ev rfl)) hb) (mvg rfl rfl rfl (sl_call rfl rfl (wanted_some rfl rfl rfl) (fun a ha=>x_call0 (ha.ev rfl) (ha.evs rfl) FF.callable_arbiterlaw13_no) H ?_));rintro _ w15 ⟨x10,rfl,H⟩;refine bog rfl rfl rfl rfl o_neq (pf rfl rfl ?_);rcases Classical.em (x10≠0) with hb|hb
        ·replace H:=H.1 hb;exact sv rfl rfl (fun a ha=>o_t (x_move (ha.ev rfl)) hb) (sk rfl rfl rfl rfl (sk rfl rfl rfl rfl (sk rfl rfl rfl rfl (pt rfl rfl (mv rfl (sk rfl rfl rfl rfl (sk rfl rfl rfl rfl (sk rfl rfl rfl rfl (pt rfl rfl (sl_nil (nx_to fun a ha=>⟨true,ha.weaken (cn rfl (cn rfl (cn rfl (cn rfl zz)))),H⟩)))))))))))
        ·replace H:=H.2 hb;refine sv rfl rfl (fun a ha=>o_f (x_move (ha.ev rfl)) hb) (mvg rfl rfl rfl (sl_call rfl rfl (wanted_some rfl rfl rfl) (fun a ha=>x_call0 (ha.ev rfl) (ha.evs rfl) FF.callable_arbiterlaw13_no) H ?_));rintro _ w16 ⟨x11,rfl,H⟩;refine bog rfl rfl rfl rfl o_neq (pf rfl rfl ?_);rcases Classical.em (x11≠0) with hb|hb
         ·replace H:=H.1 hb;exact sv rfl rfl (fun a ha=>o_t (x_move (ha.ev rfl)) hb) (sk rfl rfl rfl rfl (sk rfl rfl rfl rfl (sk rfl rfl rfl rfl (pt rfl rfl (sl_nil (nx_to fun a ha=>⟨true,ha.weaken (cn rfl (cn rfl (cn rfl (cn rfl zz)))),H⟩))))))
         ·replace H:=H.2 hb;refine sv rfl rfl (fun a ha=>o_f (x_move (ha.ev rfl)) hb) (mvg rfl rfl rfl (sl_call rfl rfl (wanted_some rfl rfl rfl) (fun a ha=>x_call0 (ha.ev rfl) (ha.evs rfl) FF.callable_arbiterlaw13_no) H ?_));rintro _ w17 ⟨x12,rfl,H⟩;exact bog rfl rfl rfl rfl o_neq (pf rfl rfl (sl_nil (nx_to fun a ha=>⟨(decide (x12≠0)),ha.weaken (cn rfl (cn rfl (cn rfl (cn rfl zz)))),H⟩)))
 ·refine cw_region (mv rfl (sl_call rfl rfl (wanted_none rfl) (fun a ha=>x_call0 (ha.ev rfl) (ha.evs rfl) FF.callable_arbiterlaw13_no) H ?_));rintro _ w5 ⟨x2,rfl,H⟩;refine bo rfl rfl o_neq ?_;rcases Classical.em (x2≠0) with hb|hb
  ·replace H:=H.1 hb;exact sv rfl rfl (fun a ha=>o_t (x_move (ha.ev rfl)) hb) (sk rfl rfl rfl rfl (sk rfl rfl rfl rfl (pt rfl rfl (sl_nil (nx_to fun a ha=>⟨true,ha.weaken (cn rfl (cn rfl zz)),H⟩)))))
  ·replace H:=H.2 hb;exact sv rfl rfl (fun a ha=>o_f (x_move (ha.ev rfl)) hb) (mvg rfl rfl rfl (bog rfl rfl rfl rfl (o_eql_nil TF.ptr_p_euf_Graph) (pf rfl rfl (sl_nil (nx_to fun a ha=>⟨(decide (q1=none)),ha.weaken (cn rfl (cn rfl zz)),H⟩)))))
end Go.Proofs.YtbmbhfghpidggaaDoor
namespace Go.Proofs.YtbmbhfghpidggaaDoor
set_option linter.unusedVariables false
set_option linter.unusedSimpArgs false
open Wk
theorem law_sound_is {w:World} {A:Option Addr} {n:Nat} (c:Nat) {fs:List Flat} (h:Sl cFlat w A n fs) (hn:Sm n):
  Calls P F.arbiterlaw13_sound #[.slice A n c] w (Ret fun v w'=>∃b,v= .bool b∧(b=true↔Sound fs)∧w'=w):=by
 refine ok_arbiterlaw13_sound A n c (fun b w'=>(b=true↔Sound fs)∧w'=w) w ?_
 unfold vc_arbiterlaw13_sound
 refine⟨fun m i=>m=n-i.toNat∧0≤i∧i≤n∧(∀(k:Nat),(k:Int)<i→∀x,fs[k]? =some x→∀(j:Nat) a,x.args[j]? =some a→0≤a∧a<(k:Int)),⟨n,by omega,by omega,by omega,fun k hk=>by omega⟩,?_⟩
 rintro m i ⟨rfl,h0,h1,hall⟩
 refine⟨fun hlt=> ?_,fun hge=> ?_⟩
 ·obtain⟨x,ad,B,k,cc,hx,hA,hc,hk,hr⟩:=h.flat h0 hlt
  refine⟨fun m j=>m=k-j.toNat∧0≤j∧j≤k∧∀(q:Nat),(q:Int)<j→∀a,x.args[q]? =some a→0≤a∧a<i,⟨k,by omega,by omega,by omega,fun q hq=>by omega⟩,?_⟩
  rintro m j ⟨rfl,j0,j1,jall⟩
  have c1:=hc 1 _ rfl
  refine⟨h0,hlt,ad,hA,B,k,cc,c1,fun jlt=> ?_,fun jge=> ?_⟩
  ·obtain⟨y,ad',hy,hB,hcell⟩:=hr.int j0 jlt
   refine⟨h0,hlt,ad,hA,B,k,cc,c1,j0,jlt,ad',hB,y,hcell,?_⟩
   have key:∀b:Bool,(b=true↔¬(0≤y∧y<i))→vc_arbiterlaw13_sound_J1 (fun b w'=>(b=true↔Sound fs)∧w'=w) w (k-j.toNat) (fun m j=>m=k-j.toNat∧0≤j∧j≤k∧∀(q:Nat),(q:Int)<j→∀a,x.args[q]? =some a→0≤a∧a<i) j b:=by
    intro b hb
    refine⟨fun hbt=>⟨?_,rfl⟩,fun hbf=> ?_⟩
    ·refine⟨fun h=>(by cases h),fun hs=> ?_⟩
     have:=hs i.toNat x hx j.toNat y hy
     rw[show((i.toNat:Nat):Int)=i by omega] at this
     exact absurd this (hb.1 hbt)
    ·have hb':0≤y∧y<i:=by
      rcases Classical.em (0≤y∧y<i) with h|h
      ·exact h
      ·rw[hb.2 h] at hbf;cases hbf
     rw[step_le j0 jlt hk]
     refine⟨k-(j+1).toNat,by omega,rfl,by omega,by omega,fun q hq a ha=> ?_⟩
     rcases Int.lt_or_eq_of_le (show(q:Int)≤j by omega) with hq|hq
     ·exact jall q hq a ha
     ·rw[show q=j.toNat by omega,hy] at ha
      cases ha
      exact hb'
   refine⟨fun hneg=>key true ⟨fun _=>by omega,fun _=>rfl⟩,fun hneg=>⟨h0,hlt,ad,hA,B,k,cc,c1,j0,jlt,ad',hB,y,hcell,key _ ⟨fun hd=>by have:=of_decide_eq_true hd;omega,fun hd=>decide_eq_true (by omega)⟩⟩⟩
  ·rw[step_le h0 hlt hn]
   refine⟨n-(i+1).toNat,by omega,rfl,by omega,by omega,fun q hq z hz j' a ha=> ?_⟩
   rcases Int.lt_or_eq_of_le (show(q:Int)≤i by omega) with hq|hq
   ·exact hall q hq z hz j' a ha
   ·rw[show q=i.toNat by omega,hx] at hz
    cases hz
    rw[hq]
    refine jall j' ?_ a ha
    have:=(List.getElem?_eq_some_iff.1 ha).1
    have:=hr.1
    omega
 ·refine⟨⟨fun _=>fun k x hx j a ha=> ?_,fun _=>rfl⟩,rfl⟩
  refine hall k ?_ x hx j a ha
  have:=(List.getElem?_eq_some_iff.1 hx).1
  have:=h.1
  omega
theorem law_no_is {w:World} (x:Int):Calls P F.arbiterlaw13_no #[.int .i64 x] w (Ret fun v w'=>v= .int .i64 x∧w'=w):=
 Ret.mono (ok_arbiterlaw13_no x (fun r w'=>r=x∧w'=w) w ⟨rfl,rfl⟩) (by rintro _ _ ⟨_,rfl,rfl,rfl⟩;exact⟨rfl,rfl⟩)
def valOf (ws:List Int) (a:Int):Int:=ws.getD a.toNat 0
def Worths (f:Int→List Int→Int) (nodes:List Flat) (ws:List Int):Prop:=∀(k:Nat) n,k<ws.length→nodes[k]? =some n→0≤n.fn→valOf ws k=f n.fn (n.args.map (valOf ws))
theorem valOf_at {ws:List Int} {a:Int} {v:Int} (h:ws[a.toNat]? =some v):valOf ws a=v:=by
 unfold valOf
 rw[List.getD_eq_getElem?_getD,h]
 rfl
theorem valOf_app {ws:List Int} {a:Int} (v:Int) (h:a.toNat<ws.length):valOf (ws++[v]) a=valOf ws a:=by
 unfold valOf
 rw[List.getD_eq_getElem?_getD,List.getD_eq_getElem?_getD,List.getElem?_append_left h]
theorem Worths.app {f:Int→List Int→Int} {nodes:List Flat} {ws:List Int} {v:Int} (h:Worths f nodes ws) (hs:Sound nodes) (hv:∀n,nodes[ws.length]? =some n→0≤n.fn→v=f n.fn (n.args.map (valOf ws))):Worths f nodes (ws++[v]):=by
 intro k n hk hn hf
 have hmap:k≤ws.length→n.args.map (valOf (ws++[v]))=n.args.map (valOf ws):=fun hk'=>by
  apply List.map_congr_left
  intro a ha
  obtain⟨j,hj⟩:=List.mem_iff_getElem?.1 ha
  have:=hs k n hn j a hj
  exact valOf_app v (by omega)
 rw[List.length_append] at hk
 simp at hk
 rw[hmap (by omega)]
 rcases Nat.lt_or_eq_of_le (show k≤ws.length by omega) with hk'|hk'
 ·rw[valOf_app v (by simpa using hk')]
  exact h k n hk' hn hf
 ·subst hk'
  rw[←hv n hn hf]
  exact valOf_at (by simp)
section
variable {w:World} {nodes:List Flat} {table:List Int} {A1 A2:Option Addr} {n1 n2:Nat} {size:Int}
end
end Go.Proofs.YtbmbhfghpidggaaDoor
namespace Go.Proofs.YtbmbhfghpidggaaDoor
set_option linter.unusedVariables false
set_option linter.unusedSimpArgs false
set_option maxHeartbeats 2000000
set_option maxRecDepth 20000
open Wk
def vc_arbiterlaw13_played_J1 (k1:Nat) (I1:Nat→Int→World→Prop) (x3:Int) (w8:World):Prop:=
 ∃k2,k2<k1∧I1 k2 (IntKind.wrap .i64 (x3+1)) w8
def vc_arbiterlaw13_played_J2 (K:Option Addr→World→Prop) (n2:Nat) (A2:Option Addr) (q2:Option Addr) (b1:Bool) (w3:World):Prop:=
 (b1=true→(K none w3))∧(b1=false→(∃I1:Nat→Int→World→Prop,(∃k1,I1 k1 0 w3)∧∀k1 (x3:Int) (w4:World),I1 k1 x3 w4→((x3<(n2:Int)→(0≤x3∧x3<(n2:Int)∧∃a1,A2=some a1∧∃x4,∃b2,∃x5,∃x6,∃x7,CellsAt w4 (a1.add (x3.toNat*5)) [(.int .i64 x4),(.bool b2),(.int .i64 x5),(.int .i64 x6),(.int .i64 x7)]∧∀(p1:Addr) (w5:World),New w4 (.cells #[(.int .i64 0),(.bool false),(.int .i64 0),(.int .i64 0),(.int .i64 0)] T.arbiterlaw13_Op) p1 w5→(Soft w5 p1 5∧∀w6,w6=setCellsAt w5 p1 [(.int .i64 x4),(.bool b2),(.int .i64 x5),(.int .i64 x6),(.int .i64 x7)]→(∃x8,w6.cell? (p1.add 0)=some (.int .i64 x8)∧(x8=1→(∃x9,w6.cell? (p1.add 2)=some (.int .i64 x9)∧∃x10,w6.cell? (p1.add 3)=some (.int .i64 x10)∧∃x11,w6.cell? (p1.add 4)=some (.int .i64 x11)∧Calls P F.euf_Graph_Equal #[(.pointer q2),(.int .i64 x9),(.int .i64 x10),(.int .i64 x11)] w6 (Ret fun v3 w7=>∃x12,v3=(.int .i64 x12)∧(vc_arbiterlaw13_played_J1 k1 I1 x3) w7)))∧(¬(x8=1)→((x8=2→(∃x13,w6.cell? (p1.add 2)=some (.int .i64 x13)∧∃x14,w6.cell? (p1.add 3)=some (.int .i64 x14)∧∃x15,w6.cell? (p1.add 4)=some (.int .i64 x15)∧Calls P F.euf_Graph_Differ #[(.pointer q2),(.int .i64 x13),(.int .i64 x14),(.int .i64 x15)] w6 (Ret fun v4 w9=>∃x16,v4=(.int .i64 x16)∧(vc_arbiterlaw13_played_J1 k1 I1 x3) w9)))∧(¬(x8=2)→((x8=3→(Calls P F.euf_Graph_Push #[(.pointer q2)] w6 (Ret fun v5 w10=>v5=(.tuple #[])∧(vc_arbiterlaw13_played_J1 k1 I1 x3) w10)))∧(¬(x8=3)→((x8=4→(∃x17,w6.cell? (p1.add 2)=some (.int .i64 x17)∧Calls P F.euf_Graph_Pop #[(.pointer q2),(.int .i64 x17)] w6 (Ret fun v6 w11=>∃x18,v6=(.int .i64 x18)∧(vc_arbiterlaw13_played_J1 k1 I1 x3) w11)))∧(¬(x8=4)→((x8=9→(∃x19,w6.cell? (p1.add 2)=some (.int .i64 x19)∧∃x20,w6.cell? (p1.add 3)=some (.int .i64 x20)∧Calls P F.euf_Graph_Why #[(.pointer q2),(.int .i64 x19),(.int .i64 x20)] w6 (Ret fun v7 w12=>∃A3 n3 c3,∃x21,v7=(.tuple #[(.slice A3 n3 c3),(.int .i64 x21)])∧(vc_arbiterlaw13_played_J1 k1 I1 x3) w12)))∧(¬(x8=9)→((x8=5→(Calls P F.euf_Graph_Roots #[(.pointer q2)] w6 (Ret fun v8 w13=>∃A4 n4 c4,v8=(.slice A4 n4 c4)∧(vc_arbiterlaw13_played_J1 k1 I1 x3) w13)))∧(¬(x8=5)→((x8=12→(∃x22,w6.cell? (p1.add 2)=some (.int .i64 x22)∧∃x23,w6.cell? (p1.add 3)=some (.int .i64 x23)∧Calls P F.euf_Graph_Prove #[(.pointer q2),(.int .i64 x22),(.int .i64 x23)] w6 (Ret fun v9 w14=>∃A5 n5 c5,∃x24,v9=(.tuple #[(.slice A5 n5 c5),(.int .i64 x24)])∧(vc_arbiterlaw13_played_J1 k1 I1 x3) w14)))∧(¬(x8=12)→((vc_arbiterlaw13_played_J1 k1 I1 x3) w6))))))))))))))))))∧(¬(x3<(n2:Int))→(K q2 w4)))))
def vc_arbiterlaw13_played (A1:Option Addr) (n1 c1:Nat) (A2:Option Addr) (n2 c2:Nat) (K:Option Addr→World→Prop) (w:World):Prop:=
 Calls P F.euf_New #[(.slice A1 n1 c1)] w (Ret fun v1 w1=>∃q2,∃x1,v1=(.tuple #[(.pointer q2),(.int .i64 x1)])∧Calls P F.arbiterlaw13_no #[(.int .i64 x1)] w1 (Ret fun v2 w2=>∃x2,v2=(.int .i64 x2)∧(x2≠0→((vc_arbiterlaw13_played_J2 K n2 A2 q2) true w2))∧(¬(x2≠0)→((vc_arbiterlaw13_played_J2 K n2 A2 q2) (decide (q2=none)) w2))))
theorem ok_arbiterlaw13_played (A1:Option Addr) (n1 c1:Nat) (A2:Option Addr) (n2 c2:Nat) (K:Option Addr→World→Prop) (w:World) (H:vc_arbiterlaw13_played A1 n1 c1 A2 n2 c2 K w):Calls P F.arbiterlaw13_played #[(.slice A1 n1 c1),(.slice A2 n2 c2)] w (Ret fun v w'=>∃q1,v=(.pointer q1)∧K q1 w'):=by
 unfold vc_arbiterlaw13_played at H;refine calls_of (P:=P) Tryd.func5 rfl [(0,(.slice A1 n1 c1)),(1,(.slice A2 n2 c2))] 84 rfl rfl (aa rfl (aa rfl az)) (cw_seq (cw_region (ag rfl (sl_nil (nc (kp 0 rfl (kp 1 rfl zz)) (cw_seq (cw_region (mv rfl (sl_call rfl rfl (wanted_none rfl) (fun a ha=>x_call0 (ha.ev rfl) (ha.evs rfl) FF.callable_euf_New) H ?_)))))))));rintro _ w1 ⟨q2,x1,rfl,H⟩;refine mv rfl (sv rfl rfl (fun a ha=>x_extract (ha.ev rfl) rfl) (sv rfl rfl (fun a ha=>x_extract (ha.ev rfl) rfl) (ag rfl (ag rfl (sl_nil (nc (kp 1 rfl (kp 5 rfl (kp 6 rfl zz))) (cw_seq ?_)))))));refine cw_join (fun a w=>∃b1,Ok 84 [(1,(.slice A2 n2 c2)),(5,(.pointer q2)),(20,(.bool b1))] a∧vc_arbiterlaw13_played_J2 K n2 A2 q2 b1 w) ?_ ?_
 ·rintro a w3 ⟨b1,ha,H⟩;unfold vc_arbiterlaw13_played_J2 at H;refine(?_:CW _ _ _ 84 [(1,(.slice A2 n2 c2)),(5,(.pointer q2)),(20,(.bool b1))] _) a ha;refine cw_cond rfl (fun hb=> ?_) (fun hb=> ?_)
  ·replace H:=H.1 hb;exact cw_seq (cw_region (ag rfl (sl_nil (nc (kp 4 rfl zz) (cw_ret (nx_ret_then (nx_body_ret (res1 rfl rfl) ⟨_,rfl,_,rfl,H⟩)))))))
  ·replace H:=H.2 hb;refine cw_skip (nc (kp 1 rfl (kp 5 rfl zz)) (cw_seq (cw_seq (cw_region (ag rfl (sl_nil (nc (kp 1 rfl (kp 5 rfl (kp 7 rfl zz))) (cw_block ?_))))))));obtain⟨I1,⟨k1,hi⟩,H⟩:=H;refine cw_loop (fun k1 a w'=>∃x3,Ok 84 [(1,(.slice A2 n2 c2)),(5,(.pointer q2)),(7,(.int .i64 x3))] a∧I1 k1 x3 w') (fun a ha=>⟨k1,0,ha.weaken (sub.cons rfl (sub.cons rfl (sub.cons rfl (sub.nil)))),hi⟩) ?_;rintro k1 a w4 ⟨x3,ha,hI⟩;replace H:=H k1 x3 w4 hI;refine(?_:CW _ _ _ 84 [(1,(.slice A2 n2 c2)),(5,(.pointer q2)),(7,(.int .i64 x3))] _) a ha;refine cw_seq (cw_seq (cw_region (mv rfl (mv rfl (sv rfl rfl (fun a ha=>x_builtin (ha.evs rfl) (fun _=>l_slice TF.isslice_sl_arbiterlaw13_Op)) (bo rfl rfl o_lss (sl_nil (nc (kp 1 rfl (kp 5 rfl (kp 7 rfl (kp 24 rfl zz)))) ?_))))))));refine cw_cond_p rfl (fun hb=> ?_) (fun hb=> ?_)
   ·replace H:=H.1 hb;refine cw_skip (nc (kp 1 rfl (kp 5 rfl (kp 7 rfl zz))) ?_);refine cw_join (fun a w=>Ok 84 [(1,(.slice A2 n2 c2)),(5,(.pointer q2)),(7,(.int .i64 x3))] a∧vc_arbiterlaw13_played_J1 k1 I1 x3 w) ?_ ?_
    ·rintro a w8 ⟨ha,H⟩;unfold vc_arbiterlaw13_played_J1 at H;refine(?_:CW _ _ _ 84 [(1,(.slice A2 n2 c2)),(5,(.pointer q2)),(7,(.int .i64 x3))] _) a ha;refine cw_region (mv rfl (bo rfl rfl o_add (ag rfl (sl_nil ?_))));obtain⟨k2,hk,H⟩:=H;exact nx_to fun a ha=>⟨k2,hk,IntKind.wrap .i64 (x3+1),ha.weaken (cn rfl (cn rfl (cn rfl zz))),H⟩
    ·refine cw_block (cw_seq (cw_region (mv rfl (mv rfl ?_))));obtain⟨h1,h2,a1,e1,H⟩:=H;refine ix rfl rfl (i_index TF.elem_sl_arbiterlaw13_Op TF.size_arbiterlaw13_Op e1 h1 h2) ?_;obtain⟨x4,b2,x5,x6,x7,h3,H⟩:=H;refine ld rfl (i_loadN (vs:=[(.int .i64 x4),(.bool b2),(.int .i64 x5),(.int .i64 x6),(.int .i64 x7)]) TF.agg_arbiterlaw13_Op TF.size_arbiterlaw13_Op h3) (sl_new (f:=(fun p=> .pointer (some p))) rfl rfl (wanted_none rfl) (fun a ha=>x_alloc (i_alloc TF.zero_arbiterlaw13_Op)) ?_);intro p1 w5 hN;replace H:=H _ _ hN;obtain⟨h5,H⟩:=H;refine sl_un rfl (wanted_none rfl) (fun a ha=>x_store (ha.ev rfl) (ha.ev rfl) (i_storeN TF.size_arbiterlaw13_Op (by simp[Value.oneCell']) h5)) ?_;intro w6 hw;replace H:=H _ hw;clear hw;refine sl_nil (nc (kp 1 rfl (kp 5 rfl (kp 7 rfl (kp 8 rfl zz)))) (cw_seq (cw_region (fa rfl (TF.fld_arbiterlaw13_Op_0 _ _) ?_))));obtain⟨x8,h6,H⟩:=H;refine ld rfl (i_load1 TF.agg_int h6) (sl_nil (nc (kp 1 rfl (kp 5 rfl (kp 7 rfl (kp 8 rfl (kp 32 rfl zz))))) (cw_block (cw_seq (cw_region (bo rfl rfl o_eql (ag rfl (sl_nil (nc (kp 1 rfl (kp 5 rfl (kp 7 rfl (kp 8 rfl (kp 32 rfl (kp 33 rfl zz)))))) ?_)))))))));refine cw_cond_p rfl (fun hb=> ?_) (fun hb=> ?_)
     ·replace H:=H.1 hb;refine cw_region (mv rfl (fa rfl (TF.fld_arbiterlaw13_Op_2 _ _) ?_));obtain⟨x9,h7,H⟩:=H;refine ld rfl (i_load1 TF.agg_int h7) (fa rfl (TF.fld_arbiterlaw13_Op_3 _ _) ?_);obtain⟨x10,h8,H⟩:=H;refine ld rfl (i_load1 TF.agg_int h8) (fa rfl (TF.fld_arbiterlaw13_Op_4 _ _) ?_);obtain⟨x11,h9,H⟩:=H;refine ld rfl (i_load1 TF.agg_int h9) (sl_call rfl rfl (wanted_none rfl) (fun a ha=>x_call0 (ha.ev rfl) (ha.evs rfl) FF.callable_euf_Graph_Equal) H ?_);rintro _ w7 ⟨x12,rfl,H⟩;exact sl_nil (nx_block (nx_block (nx_to fun a ha=>⟨ha.weaken (cn rfl (cn rfl (cn rfl zz))),H⟩)))
     ·replace H:=H.2 hb;refine cw_seq (cw_region (bo rfl rfl o_eql (ag rfl (sl_nil (nc (kp 1 rfl (kp 5 rfl (kp 7 rfl (kp 8 rfl (kp 32 rfl (kp 43 rfl zz)))))) ?_)))));refine cw_cond_p rfl (fun hb=> ?_) (fun hb=> ?_)
      ·replace H:=H.1 hb;refine cw_region (mv rfl (fa rfl (TF.fld_arbiterlaw13_Op_2 _ _) ?_));obtain⟨x13,h10,H⟩:=H;refine ld rfl (i_load1 TF.agg_int h10) (fa rfl (TF.fld_arbiterlaw13_Op_3 _ _) ?_);obtain⟨x14,h11,H⟩:=H;refine ld rfl (i_load1 TF.agg_int h11) (fa rfl (TF.fld_arbiterlaw13_Op_4 _ _) ?_);obtain⟨x15,h12,H⟩:=H;refine ld rfl (i_load1 TF.agg_int h12) (sl_call rfl rfl (wanted_none rfl) (fun a ha=>x_call0 (ha.ev rfl) (ha.evs rfl) FF.callable_euf_Graph_Differ) H ?_);rintro _ w9 ⟨x16,rfl,H⟩;exact sl_nil (nx_block (nx_block (nx_to fun a ha=>⟨ha.weaken (cn rfl (cn rfl (cn rfl zz))),H⟩)))
      ·replace H:=H.2 hb;refine cw_seq (cw_region (bo rfl rfl o_eql (ag rfl (sl_nil (nc (kp 1 rfl (kp 5 rfl (kp 7 rfl (kp 8 rfl (kp 32 rfl (kp 53 rfl zz)))))) ?_)))));refine cw_cond_p rfl (fun hb=> ?_) (fun hb=> ?_)
       ·replace H:=H.1 hb;refine cw_region (mv rfl (sl_call rfl rfl (wanted_none rfl) (fun a ha=>x_call0 (ha.ev rfl) (ha.evs rfl) FF.callable_euf_Graph_Push) H ?_));rintro _ w10 ⟨rfl,H⟩;exact sl_nil (nx_block (nx_block (nx_to fun a ha=>⟨ha.weaken (cn rfl (cn rfl (cn rfl zz))),H⟩)))
       ·replace H:=H.2 hb;refine cw_seq (cw_region (bo rfl rfl o_eql (ag rfl (sl_nil (nc (kp 1 rfl (kp 5 rfl (kp 7 rfl (kp 8 rfl (kp 32 rfl (kp 57 rfl zz)))))) ?_)))));refine cw_cond_p rfl (fun hb=> ?_) (fun hb=> ?_)
        ·replace H:=H.1 hb;refine cw_region (mv rfl (fa rfl (TF.fld_arbiterlaw13_Op_2 _ _) ?_));obtain⟨x17,h13,H⟩:=H;refine ld rfl (i_load1 TF.agg_int h13) (sl_call rfl rfl (wanted_none rfl) (fun a ha=>x_call0 (ha.ev rfl) (ha.evs rfl) FF.callable_euf_Graph_Pop) H ?_);rintro _ w11 ⟨x18,rfl,H⟩;exact sl_nil (nx_block (nx_block (nx_to fun a ha=>⟨ha.weaken (cn rfl (cn rfl (cn rfl zz))),H⟩)))
        ·replace H:=H.2 hb;refine cw_seq (cw_region (bo rfl rfl o_eql (ag rfl (sl_nil (nc (kp 1 rfl (kp 5 rfl (kp 7 rfl (kp 8 rfl (kp 32 rfl (kp 63 rfl zz)))))) ?_)))));refine cw_cond_p rfl (fun hb=> ?_) (fun hb=> ?_)
         ·replace H:=H.1 hb;refine cw_region (mv rfl (fa rfl (TF.fld_arbiterlaw13_Op_2 _ _) ?_));obtain⟨x19,h14,H⟩:=H;refine ld rfl (i_load1 TF.agg_int h14) (fa rfl (TF.fld_arbiterlaw13_Op_3 _ _) ?_);obtain⟨x20,h15,H⟩:=H;refine ld rfl (i_load1 TF.agg_int h15) (sl_call rfl rfl (wanted_none rfl) (fun a ha=>x_call0 (ha.ev rfl) (ha.evs rfl) FF.callable_euf_Graph_Why) H ?_);rintro _ w12 ⟨A3,n3,c3,x21,rfl,H⟩;exact sl_nil (nx_block (nx_block (nx_to fun a ha=>⟨ha.weaken (cn rfl (cn rfl (cn rfl zz))),H⟩)))
         ·replace H:=H.2 hb;refine cw_seq (cw_region (bo rfl rfl o_eql (ag rfl (sl_nil (nc (kp 1 rfl (kp 5 rfl (kp 7 rfl (kp 8 rfl (kp 32 rfl (kp 71 rfl zz)))))) ?_)))));refine cw_cond_p rfl (fun hb=> ?_) (fun hb=> ?_)
          ·replace H:=H.1 hb;refine cw_region (mv rfl (sl_call rfl rfl (wanted_none rfl) (fun a ha=>x_call0 (ha.ev rfl) (ha.evs rfl) FF.callable_euf_Graph_Roots) H ?_));rintro _ w13 ⟨A4,n4,c4,rfl,H⟩;exact sl_nil (nx_block (nx_block (nx_to fun a ha=>⟨ha.weaken (cn rfl (cn rfl (cn rfl zz))),H⟩)))
          ·replace H:=H.2 hb;refine cw_seq (cw_region (bo rfl rfl o_eql (ag rfl (sl_nil (nc (kp 1 rfl (kp 5 rfl (kp 7 rfl (kp 8 rfl (kp 75 rfl zz))))) ?_)))));refine cw_cond_p rfl (fun hb=> ?_) (fun hb=> ?_)
           ·replace H:=H.1 hb;refine cw_region (mv rfl (fa rfl (TF.fld_arbiterlaw13_Op_2 _ _) ?_));obtain⟨x22,h16,H⟩:=H;refine ld rfl (i_load1 TF.agg_int h16) (fa rfl (TF.fld_arbiterlaw13_Op_3 _ _) ?_);obtain⟨x23,h17,H⟩:=H;refine ld rfl (i_load1 TF.agg_int h17) (sl_call rfl rfl (wanted_none rfl) (fun a ha=>x_call0 (ha.ev rfl) (ha.evs rfl) FF.callable_euf_Graph_Prove) H ?_);rintro _ w14 ⟨A5,n5,c5,x24,rfl,H⟩;exact sl_nil (nx_block (nx_block (nx_to fun a ha=>⟨ha.weaken (cn rfl (cn rfl (cn rfl zz))),H⟩)))
           ·replace H:=H.2 hb;exact cw_skip (nx_block (nx_block (nx_to fun a ha=>⟨ha.weaken (cn rfl (cn rfl (cn rfl zz))),H⟩)))
   ·replace H:=H.2 hb;exact cw_exit (nx_exit_then (nx_exit_then (nx_exit_hit (nc (kp 5 rfl zz) (cw_seq (cw_region (mv rfl (ag rfl (sl_nil (nc (kp 4 rfl zz) (cw_ret (nx_body_ret (res1 rfl rfl) ⟨_,rfl,_,rfl,H⟩))))))))))))
 ·refine cw_region (mv rfl (sl_call rfl rfl (wanted_none rfl) (fun a ha=>x_call0 (ha.ev rfl) (ha.evs rfl) FF.callable_arbiterlaw13_no) H ?_));rintro _ w2 ⟨x2,rfl,H⟩;refine bo rfl rfl o_neq ?_;rcases Classical.em (x2≠0) with hb|hb
  ·replace H:=H.1 hb;exact sv rfl rfl (fun a ha=>o_t (x_move (ha.ev rfl)) hb) (sk rfl rfl rfl rfl (sk rfl rfl rfl rfl (pt rfl rfl (sl_nil (nx_to fun a ha=>⟨true,ha.weaken (cn rfl (cn rfl (cn rfl zz))),H⟩)))))
  ·replace H:=H.2 hb;exact sv rfl rfl (fun a ha=>o_f (x_move (ha.ev rfl)) hb) (mvg rfl rfl rfl (bog rfl rfl rfl rfl (o_eql_nil TF.ptr_p_euf_Graph) (pf rfl rfl (sl_nil (nx_to fun a ha=>⟨(decide (q2=none)),ha.weaken (cn rfl (cn rfl (cn rfl zz))),H⟩)))))
def vc_arbiterlaw13_stands_J1 (w3:World) (p1:Addr) (n5:Nat) (A5:Option Addr) (c4:Nat) (c5:Nat) (jc3:Option Addr→Nat→Nat→Option Addr→Nat→Nat→World→Prop) (A4:Option Addr) (n4:Nat) (b4:Bool):Prop:=
 (b4=true→(∃x21,w3.cell? (p1.add 2)=some (.int .i64 x21)∧0≤IntKind.wrap .i64 ((n5:Int)-x21)∧IntKind.wrap .i64 ((n5:Int)-x21)<(n5:Int)∧∃a2,A5=some a2∧∃x22,w3.cell? (a2.add ((IntKind.wrap .i64 ((n5:Int)-x21)).toNat*1))=some (.int .i64 x22)∧0≤x22∧x22≤(c4:Int)∧0≤IntKind.wrap .i64 ((n5:Int)-x21)∧IntKind.wrap .i64 ((n5:Int)-x21)≤(c5:Int)∧jc3 A4 x22.toNat c4 A5 ((IntKind.wrap .i64 ((n5:Int)-x21)).toNat) c5 w3))∧(b4=false→(jc3 A4 n4 c4 A5 n5 c5 w3))
def vc_arbiterlaw13_stands_J2 (w3:World) (p1:Addr) (A4:Option Addr) (n4 c4:Nat) (jc3:Option Addr→Nat→Nat→Option Addr→Nat→Nat→World→Prop) (A5:Option Addr) (n5 c5:Nat) (b3:Bool):Prop:=
 (b3=true→(∃x13,w3.cell? (p1.add 0)=some (.int .i64 x13)∧∃x14,w3.cell? (p1.add 2)=some (.int .i64 x14)∧∃x15,w3.cell? (p1.add 3)=some (.int .i64 x15)∧∃x16,w3.cell? (p1.add 4)=some (.int .i64 x16)∧∀(p2:Addr) (w4:World),New w3 (.cells #[(.bool (decide (x13=2))),(.int .i64 x14),(.int .i64 x15),(.int .i64 x16)] T.arbiterlaw13_Said) p2 w4→(∃(A6:Option Addr) (n6 c6:Nat) (w5:World),(Builtin.append_ #[T.sl_arbiterlaw13_Said,T.sl_arbiterlaw13_Said] T.sl_arbiterlaw13_Said #[(.slice A4 n4 c4),(.slice (some p2) 1 1)]).run P w4= .ok (.slice A6 n6 c6) w5∧(jc3 A6 n6 c6 A5 n5 c5 w5))))∧(b3=false→(∃x17,w3.cell? (p1.add 0)=some (.int .i64 x17)∧(x17=3→(∀(p3:Addr) (w7:World),New w3 (.cells #[(.int .i64 (n4:Int))] T.int) p3 w7→(∃(A9:Option Addr) (n9 c9:Nat) (w8:World),(Builtin.append_ #[T.sl_int,T.sl_int] T.sl_int #[(.slice A5 n5 c5),(.slice (some p3) 1 1)]).run P w7= .ok (.slice A9 n9 c9) w8∧(jc3 A4 n4 c4 A9 n9 c9 w8))))∧(¬(x17=3)→(∃x18,w3.cell? (p1.add 0)=some (.int .i64 x18)∧(x18=4→(∃x19,w3.cell? (p1.add 2)=some (.int .i64 x19)∧(0<x19→(∃x20,w3.cell? (p1.add 2)=some (.int .i64 x20)∧(vc_arbiterlaw13_stands_J1 w3 p1 n5 A5 c4 c5 jc3 A4 n4) (decide (x20≤(n5:Int)))))∧(¬(0<x19)→((vc_arbiterlaw13_stands_J1 w3 p1 n5 A5 c4 c5 jc3 A4 n4) false))))∧(¬(x18=4)→((vc_arbiterlaw13_stands_J1 w3 p1 n5 A5 c4 c5 jc3 A4 n4) false))))))
def vc_arbiterlaw13_stands_J3 (w3:World) (p1:Addr) (A4:Option Addr) (n4 c4:Nat) (jc3:Option Addr→Nat→Nat→Option Addr→Nat→Nat→World→Prop) (A5:Option Addr) (n5 c5:Nat) (b2:Bool):Prop:=
 ∃x11,w3.cell? (p1.add 0)=some (.int .i64 x11)∧(x11=1→((vc_arbiterlaw13_stands_J2 w3 p1 A4 n4 c4 jc3 A5 n5 c5) b2))∧(¬(x11=1)→(∃x12,w3.cell? (p1.add 0)=some (.int .i64 x12)∧(x12=2→((vc_arbiterlaw13_stands_J2 w3 p1 A4 n4 c4 jc3 A5 n5 c5) b2))∧(¬(x12=2)→((vc_arbiterlaw13_stands_J2 w3 p1 A4 n4 c4 jc3 A5 n5 c5) false))))
def vc_arbiterlaw13_stands_J4 (k1:Nat) (I1:Nat→Option Addr→Nat→Nat→Option Addr→Nat→Nat→Int→World→Prop) (x2:Int) (A7:Option Addr) (n7 c7:Nat) (A8:Option Addr) (n8 c8:Nat) (w6:World):Prop:=
 ∃k2,k2<k1∧I1 k2 A7 n7 c7 A8 n8 c8 (IntKind.wrap .i64 (x2+1)) w6
def vc_arbiterlaw13_stands (A1:Option Addr) (n1 c1:Nat) (A2:Option Addr) (n2 c2:Nat) (K:Option Addr→Nat→Nat→Int→World→Prop) (w:World):Prop:=
 ∃I1:Nat→Option Addr→Nat→Nat→Option Addr→Nat→Nat→Int→World→Prop,(∃k1,I1 k1 none 0 0 none 0 0 0 w)∧∀k1 (A4:Option Addr) (n4 c4:Nat) (A5:Option Addr) (n5 c5:Nat) (x2:Int) (w1:World),I1 k1 A4 n4 c4 A5 n5 c5 x2 w1→((x2<(n2:Int)→(0≤x2∧x2<(n2:Int)∧∃a1,A2=some a1∧∃x3,∃b1,∃x4,∃x5,∃x6,CellsAt w1 (a1.add (x2.toNat*5)) [(.int .i64 x3),(.bool b1),(.int .i64 x4),(.int .i64 x5),(.int .i64 x6)]∧∀(p1:Addr) (w2:World),New w1 (.cells #[(.int .i64 0),(.bool false),(.int .i64 0),(.int .i64 0),(.int .i64 0)] T.arbiterlaw13_Op) p1 w2→(Soft w2 p1 5∧∀w3,w3=setCellsAt w2 p1 [(.int .i64 x3),(.bool b1),(.int .i64 x4),(.int .i64 x5),(.int .i64 x6)]→(∃x7,w3.cell? (p1.add 2)=some (.int .i64 x7)∧(0≤x7→(∃x8,w3.cell? (p1.add 2)=some (.int .i64 x8)∧(x8<(n1:Int)→(∃x9,w3.cell? (p1.add 3)=some (.int .i64 x9)∧(0≤x9→(∃x10,w3.cell? (p1.add 3)=some (.int .i64 x10)∧(vc_arbiterlaw13_stands_J3 w3 p1 A4 n4 c4 (vc_arbiterlaw13_stands_J4 k1 I1 x2) A5 n5 c5) (decide (x10<(n1:Int)))))∧(¬(0≤x9)→((vc_arbiterlaw13_stands_J3 w3 p1 A4 n4 c4 (vc_arbiterlaw13_stands_J4 k1 I1 x2) A5 n5 c5) false))))∧(¬(x8<(n1:Int))→((vc_arbiterlaw13_stands_J3 w3 p1 A4 n4 c4 (vc_arbiterlaw13_stands_J4 k1 I1 x2) A5 n5 c5) false))))∧(¬(0≤x7)→((vc_arbiterlaw13_stands_J3 w3 p1 A4 n4 c4 (vc_arbiterlaw13_stands_J4 k1 I1 x2) A5 n5 c5) false))))))∧(¬(x2<(n2:Int))→(K A4 n4 c4 (n5:Int) w1)))
theorem ok_arbiterlaw13_stands (A1:Option Addr) (n1 c1:Nat) (A2:Option Addr) (n2 c2:Nat) (K:Option Addr→Nat→Nat→Int→World→Prop) (w:World) (H:vc_arbiterlaw13_stands A1 n1 c1 A2 n2 c2 K w):Calls P F.arbiterlaw13_stands #[(.slice A1 n1 c1),(.slice A2 n2 c2)] w (Ret fun v w'=>∃A3 n3 c3,∃x1,v=(.tuple #[(.slice A3 n3 c3),(.int .i64 x1)])∧K A3 n3 c3 x1 w'):=by
 unfold vc_arbiterlaw13_stands at H;refine calls_of (P:=P) Tryd.func7 rfl [(0,(.slice A1 n1 c1)),(1,(.slice A2 n2 c2))] 111 rfl rfl (aa rfl (aa rfl az)) (cw_seq (cw_region (ag rfl (ag rfl (sl_nil (nc (kp 0 rfl (kp 1 rfl zz)) (cw_seq (cw_region (ag rfl (sl_nil (nc (kp 0 rfl (kp 1 rfl (kp 6 rfl zz))) (cw_seq (cw_region (ag rfl (sl_nil (nc (kp 0 rfl (kp 1 rfl (kp 6 rfl (kp 7 rfl zz)))) (cw_seq (cw_seq (cw_region (ag rfl (sl_nil (nc (kp 0 rfl (kp 1 rfl (kp 6 rfl (kp 7 rfl (kp 8 rfl zz))))) (cw_block ?_)))))))))))))))))))))));obtain⟨I1,⟨k1,hi⟩,H⟩:=H;refine cw_loop (fun k1 a w'=>∃A4 n4 c4,∃A5 n5 c5,∃x2,Ok 111 [(0,(.slice A1 n1 c1)),(1,(.slice A2 n2 c2)),(6,(.slice A4 n4 c4)),(7,(.slice A5 n5 c5)),(8,(.int .i64 x2))] a∧I1 k1 A4 n4 c4 A5 n5 c5 x2 w') (fun a ha=>⟨k1,none,0,0,none,0,0,0,ha.weaken (sub.cons rfl (sub.cons rfl (sub.cons rfl (sub.cons rfl (sub.cons rfl (sub.nil)))))),hi⟩) ?_;rintro k1 a w1 ⟨A4,n4,c4,A5,n5,c5,x2,ha,hI⟩;replace H:=H k1 A4 n4 c4 A5 n5 c5 x2 w1 hI;refine(?_:CW _ _ _ 111 [(0,(.slice A1 n1 c1)),(1,(.slice A2 n2 c2)),(6,(.slice A4 n4 c4)),(7,(.slice A5 n5 c5)),(8,(.int .i64 x2))] _) a ha;refine cw_seq (cw_seq (cw_region (mv rfl (mv rfl (sv rfl rfl (fun a ha=>x_builtin (ha.evs rfl) (fun _=>l_slice TF.isslice_sl_arbiterlaw13_Op)) (bo rfl rfl o_lss (sl_nil (nc (kp 0 rfl (kp 1 rfl (kp 6 rfl (kp 7 rfl (kp 8 rfl (kp 15 rfl zz)))))) ?_))))))));refine cw_cond_p rfl (fun hb=> ?_) (fun hb=> ?_)
 ·replace H:=H.1 hb;refine cw_skip (nc (kp 0 rfl (kp 1 rfl (kp 6 rfl (kp 7 rfl (kp 8 rfl zz))))) ?_);refine cw_join (fun a w=>∃A7 n7 c7,∃A8 n8 c8,Ok 111 [(0,(.slice A1 n1 c1)),(1,(.slice A2 n2 c2)),(6,(.slice A7 n7 c7)),(7,(.slice A8 n8 c8)),(8,(.int .i64 x2))] a∧vc_arbiterlaw13_stands_J4 k1 I1 x2 A7 n7 c7 A8 n8 c8 w) ?_ ?_
  ·rintro a w6 ⟨A7,n7,c7,A8,n8,c8,ha,H⟩;unfold vc_arbiterlaw13_stands_J4 at H;refine(?_:CW _ _ _ 111 [(0,(.slice A1 n1 c1)),(1,(.slice A2 n2 c2)),(6,(.slice A7 n7 c7)),(7,(.slice A8 n8 c8)),(8,(.int .i64 x2))] _) a ha;refine cw_region (mv rfl (bo rfl rfl o_add (ag rfl (sl_nil ?_))));obtain⟨k2,hk,H⟩:=H;exact nx_to fun a ha=>⟨k2,hk,A7,n7,c7,A8,n8,c8,IntKind.wrap .i64 (x2+1),ha.weaken (cn rfl (cn rfl (cn rfl (cn rfl (cn rfl zz))))),H⟩
  ·refine cw_block (cw_seq (cw_region (mv rfl (mv rfl ?_))));obtain⟨h1,h2,a1,e1,H⟩:=H;refine ix rfl rfl (i_index TF.elem_sl_arbiterlaw13_Op TF.size_arbiterlaw13_Op e1 h1 h2) ?_;obtain⟨x3,b1,x4,x5,x6,h3,H⟩:=H;refine ld rfl (i_loadN (vs:=[(.int .i64 x3),(.bool b1),(.int .i64 x4),(.int .i64 x5),(.int .i64 x6)]) TF.agg_arbiterlaw13_Op TF.size_arbiterlaw13_Op h3) (sl_new (f:=(fun p=> .pointer (some p))) rfl rfl (wanted_none rfl) (fun a ha=>x_alloc (i_alloc TF.zero_arbiterlaw13_Op)) ?_);intro p1 w2 hN;replace H:=H _ _ hN;obtain⟨h5,H⟩:=H;refine sl_un rfl (wanted_none rfl) (fun a ha=>x_store (ha.ev rfl) (ha.ev rfl) (i_storeN TF.size_arbiterlaw13_Op (by simp[Value.oneCell']) h5)) ?_;intro w3 hw;replace H:=H _ hw;clear hw;refine sl_nil (nc (kp 0 rfl (kp 1 rfl (kp 6 rfl (kp 7 rfl (kp 8 rfl (kp 9 rfl zz)))))) ?_);refine cw_join_still (fun a=>∃b2,Ok 111 [(0,(.slice A1 n1 c1)),(1,(.slice A2 n2 c2)),(6,(.slice A4 n4 c4)),(7,(.slice A5 n5 c5)),(8,(.int .i64 x2)),(9,(.pointer (some p1))),(10,(.bool b2))] a∧vc_arbiterlaw13_stands_J3 w3 p1 A4 n4 c4 (vc_arbiterlaw13_stands_J4 k1 I1 x2) A5 n5 c5 b2) ?_ ?_
   ·rintro a ⟨b2,ha,H⟩;unfold vc_arbiterlaw13_stands_J3 at H;refine(?_:CW _ _ _ 111 [(0,(.slice A1 n1 c1)),(1,(.slice A2 n2 c2)),(6,(.slice A4 n4 c4)),(7,(.slice A5 n5 c5)),(8,(.int .i64 x2)),(9,(.pointer (some p1))),(10,(.bool b2))] _) a ha;refine cw_block ?_;refine cw_join_still (fun a=>∃b3,Ok 111 [(0,(.slice A1 n1 c1)),(1,(.slice A2 n2 c2)),(6,(.slice A4 n4 c4)),(7,(.slice A5 n5 c5)),(8,(.int .i64 x2)),(9,(.pointer (some p1))),(44,(.bool b3))] a∧vc_arbiterlaw13_stands_J2 w3 p1 A4 n4 c4 (vc_arbiterlaw13_stands_J4 k1 I1 x2) A5 n5 c5 b3) ?_ ?_
    ·rintro a ⟨b3,ha,H⟩;unfold vc_arbiterlaw13_stands_J2 at H;refine(?_:CW _ _ _ 111 [(0,(.slice A1 n1 c1)),(1,(.slice A2 n2 c2)),(6,(.slice A4 n4 c4)),(7,(.slice A5 n5 c5)),(8,(.int .i64 x2)),(9,(.pointer (some p1))),(44,(.bool b3))] _) a ha;refine cw_cond rfl (fun hb=> ?_) (fun hb=> ?_)
     ·replace H:=H.1 hb;refine cw_region (mv rfl (fa rfl (TF.fld_arbiterlaw13_Op_0 _ _) ?_));obtain⟨x13,h12,H⟩:=H;refine ld rfl (i_load1 TF.agg_int h12) (bo rfl rfl o_eql (fa rfl (TF.fld_arbiterlaw13_Op_2 _ _) ?_));obtain⟨x14,h13,H⟩:=H;refine ld rfl (i_load1 TF.agg_int h13) (fa rfl (TF.fld_arbiterlaw13_Op_3 _ _) ?_);obtain⟨x15,h14,H⟩:=H;refine ld rfl (i_load1 TF.agg_int h14) (fa rfl (TF.fld_arbiterlaw13_Op_4 _ _) ?_);obtain⟨x16,h15,H⟩:=H;refine ld rfl (i_load1 TF.agg_int h15) (sv rfl rfl (fun a ha=>x_buildP (u:=(.agg #[(.bool (decide (x13=2))),(.int .i64 x14),(.int .i64 x15),(.int .i64 x16)])) (qs:=[(0,(.bool (decide (x13=2)))),(1,(.int .i64 x14)),(2,(.int .i64 x15)),(3,(.int .i64 x16))]) (by simp only[List.map_cons,List.map_nil,ha.ev (x:=(.tmp 59)) rfl,ha.ev (x:=(.tmp 61)) rfl,ha.ev (x:=(.tmp 63)) rfl,ha.ev (x:=(.tmp 65)) rfl]) (by kernel_rfl)) (sl_new (f:=(fun p=> .slice (some p) 1 1)) rfl rfl (wanted_none rfl) (fun a ha=>x_buildSlice (u:= .slice (some ⟨_,0,none⟩) 1 1) (w':=World.alloc _ (.cells #[(.bool (decide (x13=2))),(.int .i64 x14),(.int .i64 x15),(.int .i64 x16)] T.arbiterlaw13_Said)) (qs:=[(0,(.agg #[(.bool (decide (x13=2))),(.int .i64 x14),(.int .i64 x15),(.int .i64 x16)]))]) (by simp only[List.map_cons,List.map_nil,ha.ev (x:=(.tmp 66)) rfl]) (by kernel_rfl)) ?_));intro p2 w4 hN;replace H:=H _ _ hN;obtain⟨A6,n6,c6,w5,h16,H⟩:=H;exact sv rfl rfl (fun a ha=>x_builtin (ha.evs rfl) (fun _=>bi_append h16)) (ag rfl (sl_nil (nx_block (nx_block (nx_to fun a ha=>⟨A6,n6,c6,A5,n5,c5,ha.weaken (cn rfl (cn rfl (cn rfl (cn rfl (cn rfl zz))))),H⟩)))))
     ·replace H:=H.2 hb;refine cw_seq (cw_region (fa rfl (TF.fld_arbiterlaw13_Op_0 _ _) ?_));obtain⟨x17,h17,H⟩:=H;refine ld rfl (i_load1 TF.agg_int h17) (bo rfl rfl o_eql (ag rfl (sl_nil (nc (kp 0 rfl (kp 1 rfl (kp 6 rfl (kp 7 rfl (kp 8 rfl (kp 9 rfl (kp 69 rfl zz))))))) ?_))));refine cw_cond_p rfl (fun hb=> ?_) (fun hb=> ?_)
      ·replace H:=H.1 hb;refine cw_region (mv rfl (mv rfl (sv rfl rfl (fun a ha=>x_builtin (ha.evs rfl) (fun _=>l_slice TF.isslice_sl_arbiterlaw13_Said)) (sl_new (f:=(fun p=> .slice (some p) 1 1)) rfl rfl (wanted_none rfl) (fun a ha=>x_buildSlice (u:= .slice (some ⟨_,0,none⟩) 1 1) (w':=World.alloc _ (.cells #[(.int .i64 (n4:Int))] T.int)) (qs:=[(0,(.int .i64 (n4:Int)))]) (by simp only[List.map_cons,List.map_nil,ha.ev (x:=(.tmp 75)) rfl]) (by kernel_rfl)) ?_))));intro p3 w7 hN;replace H:=H _ _ hN;obtain⟨A9,n9,c9,w8,h18,H⟩:=H;exact sv rfl rfl (fun a ha=>x_builtin (ha.evs rfl) (fun _=>bi_append h18)) (ag rfl (sl_nil (nx_block (nx_block (nx_to fun a ha=>⟨A4,n4,c4,A9,n9,c9,ha.weaken (cn rfl (cn rfl (cn rfl (cn rfl (cn rfl zz))))),H⟩)))))
      ·replace H:=H.2 hb;refine cw_join_still (fun a=>∃b4,Ok 111 [(0,(.slice A1 n1 c1)),(1,(.slice A2 n2 c2)),(6,(.slice A4 n4 c4)),(7,(.slice A5 n5 c5)),(8,(.int .i64 x2)),(9,(.pointer (some p1))),(78,(.bool b4))] a∧vc_arbiterlaw13_stands_J1 w3 p1 n5 A5 c4 c5 (vc_arbiterlaw13_stands_J4 k1 I1 x2) A4 n4 b4) ?_ ?_
       ·rintro a ⟨b4,ha,H⟩;unfold vc_arbiterlaw13_stands_J1 at H;refine(?_:CW _ _ _ 111 [(0,(.slice A1 n1 c1)),(1,(.slice A2 n2 c2)),(6,(.slice A4 n4 c4)),(7,(.slice A5 n5 c5)),(8,(.int .i64 x2)),(9,(.pointer (some p1))),(78,(.bool b4))] _) a ha;refine cw_cond rfl (fun hb=> ?_) (fun hb=> ?_)
        ·replace H:=H.1 hb;refine cw_seq (cw_region (mv rfl (sv rfl rfl (fun a ha=>x_builtin (ha.evs rfl) (fun _=>l_slice TF.isslice_sl_int)) (fa rfl (TF.fld_arbiterlaw13_Op_2 _ _) ?_))));obtain⟨x21,h22,H⟩:=H;refine ld rfl (i_load1 TF.agg_int h22) (bo rfl rfl o_sub (ag rfl (sl_nil (nc (kp 0 rfl (kp 1 rfl (kp 6 rfl (kp 7 rfl (kp 8 rfl (kp 11 rfl zz)))))) (cw_seq (cw_region (mv rfl (mv rfl (mv rfl ?_)))))))));obtain⟨h23,h24,a2,e2,H⟩:=H;refine ix rfl rfl (i_index TF.elem_sl_int TF.size_int e2 h23 h24) ?_;obtain⟨x22,h25,H⟩:=H;refine ld rfl (i_load1 TF.agg_int h25) ?_;obtain⟨h26,h27,H⟩:=H;refine sv rfl rfl (fun a ha=>x_slice (ha.ev rfl) rfl (om_some (ha.ev rfl)) rfl (i_slice_h TF.elem_sl_arbiterlaw13_Said TF.size_arbiterlaw13_Said h26 h27)) (ag rfl (sl_nil (nc (kp 0 rfl (kp 1 rfl (kp 6 rfl (kp 7 rfl (kp 8 rfl (kp 11 rfl zz)))))) (cw_region (mv rfl (mv rfl ?_))))));obtain⟨h30,h31,H⟩:=H;exact sv rfl rfl (fun a ha=>x_slice (ha.ev rfl) rfl (om_some (ha.ev rfl)) rfl (i_slice_h TF.elem_sl_int TF.size_int h30 h31)) (ag rfl (sl_nil (nx_block (nx_block (nx_to fun a ha=>⟨A4,x22.toNat,c4,A5,(IntKind.wrap .i64 ((n5:Int)-x21)).toNat,c5,ha.weaken (cn rfl (cn rfl (cn rfl (cn rfl (cn rfl zz))))),H⟩)))))
        ·replace H:=H.2 hb;exact cw_skip (nx_block (nx_block (nx_to fun a ha=>⟨A4,n4,c4,A5,n5,c5,ha.weaken (cn rfl (cn rfl (cn rfl (cn rfl (cn rfl zz))))),H⟩)))
       ·refine cw_region (fa rfl (TF.fld_arbiterlaw13_Op_0 _ _) ?_);obtain⟨x18,h19,H⟩:=H;refine ld rfl (i_load1 TF.agg_int h19) (bo rfl rfl o_eql ?_);rcases Classical.em (x18=4) with hb|hb
        ·replace H:=H.1 hb;refine sv rfl rfl (fun a ha=>o_t (x_move (ha.ev rfl)) hb) (fag rfl rfl rfl (TF.fld_arbiterlaw13_Op_2 _ _) ?_);obtain⟨x19,h20,H⟩:=H;refine ldg rfl rfl rfl (i_load1 TF.agg_int h20) (bog rfl rfl rfl rfl o_gtr (pt rfl rfl ?_));rcases Classical.em (0<x19) with hb|hb
         ·replace H:=H.1 hb;refine sv rfl rfl (fun a ha=>o_t (x_move (ha.ev rfl)) hb) (fag rfl rfl rfl (TF.fld_arbiterlaw13_Op_2 _ _) ?_);obtain⟨x20,h21,H⟩:=H;exact ldg rfl rfl rfl (i_load1 TF.agg_int h21) (mvg rfl rfl rfl (svg rfl rfl rfl rfl (fun a ha=>x_builtin (ha.evs rfl) (fun _=>l_slice TF.isslice_sl_int)) (bog rfl rfl rfl rfl o_leq (pt rfl rfl (ag rfl (sl_nil (nx_to fun a ha=>⟨⟨(decide (x20≤(n5:Int))),ha.weaken (cn rfl (cn rfl (cn rfl (cn rfl (cn rfl (cn rfl (cn rfl zz))))))),H⟩,rfl⟩)))))))
         ·replace H:=H.2 hb;exact sv rfl rfl (fun a ha=>o_f (x_move (ha.ev rfl)) hb) (sk rfl rfl rfl rfl (sk rfl rfl rfl rfl (sk rfl rfl rfl rfl (sk rfl rfl rfl rfl (sk rfl rfl rfl rfl (pf rfl rfl (ag rfl (sl_nil (nx_to fun a ha=>⟨⟨false,ha.weaken (cn rfl (cn rfl (cn rfl (cn rfl (cn rfl (cn rfl (cn rfl zz))))))),H⟩,rfl⟩)))))))))
        ·replace H:=H.2 hb;exact sv rfl rfl (fun a ha=>o_f (x_move (ha.ev rfl)) hb) (sk rfl rfl rfl rfl (sk rfl rfl rfl rfl (sk rfl rfl rfl rfl (pf rfl rfl (mv rfl (sk rfl rfl rfl rfl (sk rfl rfl rfl rfl (sk rfl rfl rfl rfl (sk rfl rfl rfl rfl (sk rfl rfl rfl rfl (pf rfl rfl (ag rfl (sl_nil (nx_to fun a ha=>⟨⟨false,ha.weaken (cn rfl (cn rfl (cn rfl (cn rfl (cn rfl (cn rfl (cn rfl zz))))))),H⟩,rfl⟩))))))))))))))
    ·refine cw_region (fa rfl (TF.fld_arbiterlaw13_Op_0 _ _) ?_);obtain⟨x11,h10,H⟩:=H;refine ld rfl (i_load1 TF.agg_int h10) (bo rfl rfl o_eql ?_);rcases Classical.em (x11=1) with hb|hb
     ·replace H:=H.1 hb;exact sv rfl rfl (fun a ha=>o_t (x_move (ha.ev rfl)) hb) (sk rfl rfl rfl rfl (sk rfl rfl rfl rfl (sk rfl rfl rfl rfl (pt rfl rfl (mv rfl (mvg rfl rfl rfl (pt rfl rfl (ag rfl (sl_nil (nx_to fun a ha=>⟨⟨b2,ha.weaken (cn rfl (cn rfl (cn rfl (cn rfl (cn rfl (cn rfl (cn rfl zz))))))),H⟩,rfl⟩))))))))))
     ·replace H:=H.2 hb;refine sv rfl rfl (fun a ha=>o_f (x_move (ha.ev rfl)) hb) (fag rfl rfl rfl (TF.fld_arbiterlaw13_Op_0 _ _) ?_);obtain⟨x12,h11,H⟩:=H;refine ldg rfl rfl rfl (i_load1 TF.agg_int h11) (bog rfl rfl rfl rfl o_eql (pf rfl rfl ?_));rcases Classical.em (x12=2) with hb|hb
      ·replace H:=H.1 hb;exact sv rfl rfl (fun a ha=>o_t (x_move (ha.ev rfl)) hb) (mvg rfl rfl rfl (pt rfl rfl (ag rfl (sl_nil (nx_to fun a ha=>⟨⟨b2,ha.weaken (cn rfl (cn rfl (cn rfl (cn rfl (cn rfl (cn rfl (cn rfl zz))))))),H⟩,rfl⟩)))))
      ·replace H:=H.2 hb;exact sv rfl rfl (fun a ha=>o_f (x_move (ha.ev rfl)) hb) (sk rfl rfl rfl rfl (pf rfl rfl (ag rfl (sl_nil (nx_to fun a ha=>⟨⟨false,ha.weaken (cn rfl (cn rfl (cn rfl (cn rfl (cn rfl (cn rfl (cn rfl zz))))))),H⟩,rfl⟩)))))
   ·refine cw_region (fa rfl (TF.fld_arbiterlaw13_Op_2 _ _) ?_);obtain⟨x7,h6,H⟩:=H;refine ld rfl (i_load1 TF.agg_int h6) (bo rfl rfl o_geq ?_);rcases Classical.em (0≤x7) with hb|hb
    ·replace H:=H.1 hb;refine sv rfl rfl (fun a ha=>o_t (x_move (ha.ev rfl)) hb) (fag rfl rfl rfl (TF.fld_arbiterlaw13_Op_2 _ _) ?_);obtain⟨x8,h7,H⟩:=H;refine ldg rfl rfl rfl (i_load1 TF.agg_int h7) (mvg rfl rfl rfl (svg rfl rfl rfl rfl (fun a ha=>x_builtin (ha.evs rfl) (fun _=>l_slice TF.isslice_sl_api_Flat)) (bog rfl rfl rfl rfl o_lss (pt rfl rfl ?_))));rcases Classical.em (x8<(n1:Int)) with hb|hb
     ·replace H:=H.1 hb;refine sv rfl rfl (fun a ha=>o_t (x_move (ha.ev rfl)) hb) (fag rfl rfl rfl (TF.fld_arbiterlaw13_Op_3 _ _) ?_);obtain⟨x9,h8,H⟩:=H;refine ldg rfl rfl rfl (i_load1 TF.agg_int h8) (bog rfl rfl rfl rfl o_geq (pt rfl rfl ?_));rcases Classical.em (0≤x9) with hb|hb
      ·replace H:=H.1 hb;refine sv rfl rfl (fun a ha=>o_t (x_move (ha.ev rfl)) hb) (fag rfl rfl rfl (TF.fld_arbiterlaw13_Op_3 _ _) ?_);obtain⟨x10,h9,H⟩:=H;exact ldg rfl rfl rfl (i_load1 TF.agg_int h9) (mvg rfl rfl rfl (svg rfl rfl rfl rfl (fun a ha=>x_builtin (ha.evs rfl) (fun _=>l_slice TF.isslice_sl_api_Flat)) (bog rfl rfl rfl rfl o_lss (pt rfl rfl (ag rfl (sl_nil (nx_to fun a ha=>⟨⟨(decide (x10<(n1:Int))),ha.weaken (cn rfl (cn rfl (cn rfl (cn rfl (cn rfl (cn rfl (cn rfl zz))))))),H⟩,rfl⟩)))))))
      ·replace H:=H.2 hb;exact sv rfl rfl (fun a ha=>o_f (x_move (ha.ev rfl)) hb) (sk rfl rfl rfl rfl (sk rfl rfl rfl rfl (sk rfl rfl rfl rfl (sk rfl rfl rfl rfl (sk rfl rfl rfl rfl (pf rfl rfl (ag rfl (sl_nil (nx_to fun a ha=>⟨⟨false,ha.weaken (cn rfl (cn rfl (cn rfl (cn rfl (cn rfl (cn rfl (cn rfl zz))))))),H⟩,rfl⟩)))))))))
     ·replace H:=H.2 hb;exact sv rfl rfl (fun a ha=>o_f (x_move (ha.ev rfl)) hb) (sk rfl rfl rfl rfl (sk rfl rfl rfl rfl (sk rfl rfl rfl rfl (pf rfl rfl (mv rfl (sk rfl rfl rfl rfl (sk rfl rfl rfl rfl (sk rfl rfl rfl rfl (sk rfl rfl rfl rfl (sk rfl rfl rfl rfl (pf rfl rfl (ag rfl (sl_nil (nx_to fun a ha=>⟨⟨false,ha.weaken (cn rfl (cn rfl (cn rfl (cn rfl (cn rfl (cn rfl (cn rfl zz))))))),H⟩,rfl⟩))))))))))))))
    ·replace H:=H.2 hb;exact sv rfl rfl (fun a ha=>o_f (x_move (ha.ev rfl)) hb) (sk rfl rfl rfl rfl (sk rfl rfl rfl rfl (sk rfl rfl rfl rfl (sk rfl rfl rfl rfl (sk rfl rfl rfl rfl (pf rfl rfl (mv rfl (sk rfl rfl rfl rfl (sk rfl rfl rfl rfl (sk rfl rfl rfl rfl (pf rfl rfl (mv rfl (sk rfl rfl rfl rfl (sk rfl rfl rfl rfl (sk rfl rfl rfl rfl (sk rfl rfl rfl rfl (sk rfl rfl rfl rfl (pf rfl rfl (ag rfl (sl_nil (nx_to fun a ha=>⟨⟨false,ha.weaken (cn rfl (cn rfl (cn rfl (cn rfl (cn rfl (cn rfl (cn rfl zz))))))),H⟩,rfl⟩)))))))))))))))))))))
 ·replace H:=H.2 hb;exact cw_exit (nx_exit_then (nx_exit_then (nx_exit_hit (nc (kp 6 rfl (kp 7 rfl zz)) (cw_seq (cw_region (mv rfl (mv rfl (sv rfl rfl (fun a ha=>x_builtin (ha.evs rfl) (fun _=>l_slice TF.isslice_sl_int)) (ag rfl (ag rfl (sl_nil (nc (kp 4 rfl (kp 5 rfl zz)) (cw_ret (nx_body_ret (res2 rfl rfl rfl) ⟨_,rfl,_,_,_,_,rfl,H⟩)))))))))))))))
end Go.Proofs.YtbmbhfghpidggaaDoor
namespace Go.Proofs.YtbmbhfghpidggaaDoor
set_option linter.unusedVariables false
set_option linter.unusedSimpArgs false
open Wk
section
variable {w:World} {fs:List Flat} {ops:List OpR} {n1 n2:Nat} {A1 A2:Option Addr}
def StInv (w:World) (fs:List Flat) (ops:List OpR) (n2 k:Nat) (A4:Option Addr) (n4 c4:Nat) (A5:Option Addr) (n5 c5:Nat) (i:Int) (w':World):Prop:=
 k=n2-i.toNat∧0≤i∧i≤n2∧Ext w w'∧Row w' w.heap.size T.arbiterlaw13_Said 4 A4 n4 c4 ((standS fs (ops.take i.toNat)).1.flatMap lawVals)∧Row w' w.heap.size T.int 1 A5 n5 c5 ((standS fs (ops.take i.toNat)).2.map iv)∧∀b,At A4 b→¬At A5 b
theorem stands_J4_is {w6:World} {i:Int} {o:OpR} {A7 A8:Option Addr} {n7 c7 n8 c8:Nat} (s2:Sm n2) (h0:0≤i) (h1:i<n2) (ho:ops[i.toNat]? =some o) (hE:Ext w w6)
  (r4:Row w6 w.heap.size T.arbiterlaw13_Said 4 A7 n7 c7 ((stepS fs (standS fs (ops.take i.toNat)) o).1.flatMap lawVals)) (r5:Row w6 w.heap.size T.int 1 A8 n8 c8 ((stepS fs (standS fs (ops.take i.toNat)) o).2.map iv)) (hd:∀b,At A7 b→¬At A8 b):
  vc_arbiterlaw13_stands_J4 (n2-i.toNat) (StInv w fs ops n2) i A7 n7 c7 A8 n8 c8 w6:=by
 refine⟨n2-(i+1).toNat,by omega,?_⟩
 rw[step_le h0 h1 s2]
 refine⟨rfl,by omega,by omega,hE,?_,?_,hd⟩
 ·rw[show(i+1).toNat=i.toNat+1 by omega,standS_snoc ho];exact r4
 ·rw[show(i+1).toNat=i.toNat+1 by omega,standS_snoc ho];exact r5
theorem stands_J2_is {w3:World} {i:Int} {o:OpR} {A4 A5:Option Addr} {n4 c4 n5 c5:Nat} {p1:Addr} {b3:Bool} (s2:n2≤1048576) (h0:0≤i) (h1:i<n2) (ho:ops[i.toNat]? =some o) (hn:ops.length=n2) (hE:Ext w w3) (ha:I64 o.a)
  (hc:CellsAt w3 p1 o.vals)
  (r4:Row w3 w.heap.size T.arbiterlaw13_Said 4 A4 n4 c4 ((standS fs (ops.take i.toNat)).1.flatMap lawVals)) (r5:Row w3 w.heap.size T.int 1 A5 n5 c5 ((standS fs (ops.take i.toNat)).2.map iv)) (hd:∀b,At A4 b→¬At A5 b)
  (hb:b3=true↔((o.kind=1∨o.kind=2)∧In2 fs o.a o.b)):
  vc_arbiterlaw13_stands_J2 w3 p1 A4 n4 c4 (vc_arbiterlaw13_stands_J4 (n2-i.toNat) (StInv w fs ops n2) i) A5 n5 c5 b3:=by
 have sm2:Sm n2:=by unfold Sm;omega
 obtain⟨mo,ml1,ml2⟩:=standS_ok fs ops i.toNat (by omega)
 generalize hs:standS fs (ops.take i.toNat)=s at r4 r5 mo ml1 ml2
 have e4:s.1.length=n4:=by have:=r4.1;rw[flat_len (s:=4) (fun _=>rfl)] at this;omega
 have e5:s.2.length=n5:=by have:=r5.1;rw[List.length_map] at this;omega
 have fin:=fun(w6:World) (A7 A8:Option Addr) (n7 c7 n8 c8:Nat)=>stands_J4_is (w:=w) (fs:=fs) (w6:=w6) (A7:=A7) (A8:=A8) (n7:=n7) (c7:=c7) (n8:=n8) (c8:=c8) sm2 h0 h1 ho
 rw[hs] at fin
 have k0:=hc 0 _ rfl
 have k2:=hc 2 _ rfl
 have k3:=hc 3 _ rfl
 have k4:=hc 4 _ rfl
 refine⟨fun hb3=> ?_,fun hb3=> ?_⟩
 ·have hin:=hb.1 hb3
  have es:stepS fs s o=(s.1++[⟨o.a,o.b,o.tag,decide (o.kind=2)⟩],s.2):=by unfold stepS;rw[if_pos hin]
  refine⟨_,k0,_,k2,_,k3,_,k4,fun p2 w4 hN4=> ?_⟩
  have E4:=Ext.of_new hN4
  have r4':=r4.keep E4 (fun _ _ h=>h)
  have r5':=r5.keep E4 (fun _ _ h=>h)
  obtain⟨A',c',w5,hr,rr,hK,hA'⟩:=r4'.append (P:=P) (m:=1) (c2:=1) (t:=T.sl_arbiterlaw13_Said) (ty:=T.sl_arbiterlaw13_Said) (by_:=32) (by kernel_rfl) (by kernel_rfl) (by decide) (news:=lawVals ⟨o.a,o.b,o.tag,decide (o.kind=2)⟩) rfl (hN4.cells rfl)
   (by intro u hu;simp[lawVals] at hu;rcases hu with rfl|rfl|rfl|rfl<;>rfl) (by omega) (by omega) (hE.trans E4).size
  refine⟨A',n4+1,c',w5,hr,fin w5 A' A5 _ _ _ _ ((hE.trans E4).over hK fun b hb hx=>by have:=(r4'.at hx).1;omega) ?_ ?_ ?_⟩
  ·rw[es];simpa using rr
  ·rw[es];exact r5'.keep hK fun b hb hx=>hd b hx hb
  ·intro b hb hx
   rcases hA' b hb with q|q
   ·exact hd b q hx
   ·have:=(r5'.at hx).2
    omega
 ·have hin:¬((o.kind=1∨o.kind=2)∧In2 fs o.a o.b):=fun q=>by rw[hb.2 q] at hb3;cases hb3
  have J1:∀b4:Bool,(b4=true↔(o.kind=4∧0<o.a∧o.a≤n5))→o.kind≠3→vc_arbiterlaw13_stands_J1 w3 p1 n5 A5 c4 c5 (vc_arbiterlaw13_stands_J4 (n2-i.toNat) (StInv w fs ops n2) i) A4 n4 b4:=by
   intro b4 hb4 h3
   refine⟨fun q=> ?_,fun q=> ?_⟩
   ·obtain⟨q1,q2,q3⟩:=hb4.1 q
    have ew:IntKind.wrap .i64 ((n5:Int)-o.a)=n5-o.a:=wrap_small (by omega) (by omega)
    obtain⟨ad,v,hA,hv,hcell,_⟩:=r5.get (i:=(n5:Int)-o.a) (by omega) (by omega)
    have hidx:((n5:Int)-o.a).toNat=s.2.length-o.a.toNat:=by omega
    have hlt:s.2.length-o.a.toNat<s.2.length:=by omega
    rw[hidx,List.getElem?_map,List.getElem?_eq_getElem hlt] at hv
    have hv':v=iv (s.2[s.2.length-o.a.toNat]):=(Option.some.inj hv).symm
    subst hv'
    have hm:=mo.le _ (List.getElem_mem hlt)
    have le4:=r4.le
    have le5:=r5.le
    have es:stepS fs s o=(s.1.take (s.2[s.2.length-o.a.toNat]).toNat,s.2.take (s.2.length-o.a.toNat)):=by
     unfold stepS popS
     rw[if_neg hin,if_neg h3,if_pos q1,if_pos ⟨q2,by rw[e5];exact q3⟩,List.getD_eq_getElem?_getD,List.getElem?_eq_getElem hlt]
     rfl
    refine⟨_,k2,?_⟩
    rw[ew]
    refine⟨by omega,by omega,ad,hA,_,hcell,hm.1,by omega,by omega,by omega,fin w3 A4 A5 _ _ _ _ hE ?_ ?_ hd⟩
    ·rw[es]
     have:=r4.cut (m:=(s.2[s.2.length-o.a.toNat]).toNat) (d:=c4) (by omega) (by omega) (Nat.le_refl _)
     rw[flat_take (f:=lawVals) (s:=4) (fun _=>rfl)] at this
     exact this
    ·rw[es]
     have:=r5.cut (m:=((n5:Int)-o.a).toNat) (d:=c5) (by omega) (by omega) (Nat.le_refl _)
     rw[Nat.mul_one,←List.map_take,hidx] at this
     rw[hidx]
     exact this
   ·have hno:¬(o.kind=4∧0<o.a∧o.a≤n5):=fun hh=>by rw[hb4.2 hh] at q;cases q
    have es:stepS fs s o=s:=by
     unfold stepS popS
     rw[if_neg hin,if_neg h3]
     split
     ·rw[if_neg (by rw[e5];omega)]
     ·rfl
    refine fin w3 A4 A5 _ _ _ _ hE ?_ ?_ hd
    ·rw[es];exact r4
    ·rw[es];exact r5
  refine⟨_,k0,fun h3=> ?_,fun h3=> ?_⟩
  ·have es:stepS fs s o=(s.1,s.2++[(s.1.length:Int)]):=by unfold stepS;rw[if_neg hin,if_pos h3]
   intro p3 w7 hN7
   have E7:=Ext.of_new hN7
   have r4':=r4.keep E7 (fun _ _ h=>h)
   have r5':=r5.keep E7 (fun _ _ h=>h)
   obtain⟨A',c',w8,hr,rr,hK,hA'⟩:=r5'.append (P:=P) (m:=1) (c2:=1) (t:=T.sl_int) (ty:=T.sl_int) (by_:=8) (by kernel_rfl) (by kernel_rfl) (by decide) (news:=[.int .i64 (n4:Int)]) rfl (hN7.cells rfl)
    (by intro u hu;simp at hu;subst hu;rfl) (by omega) (by omega) (hE.trans E7).size
   refine⟨A',n5+1,c',w8,hr,fin w8 A4 A' _ _ _ _ ((hE.trans E7).over hK fun b hb hx=>by have:=(r5'.at hx).1;omega) ?_ ?_ ?_⟩
   ·rw[es];exact r4'.keep hK fun b hb hx=>hd b hb hx
   ·rw[es,e4];simpa using rr
   ·intro b hb hx
    rcases hA' b hx with q|q
    ·exact hd b hb q
    ·have:=(r4'.at hb).2
     omega
  ·refine⟨_,k0,fun h4=>⟨_,k2,fun hp=>⟨_,k2,J1 _ ?_ h3⟩,fun hp=>J1 false ⟨fun q=>(by cases q),fun q=>absurd q.2.1 hp⟩ h3⟩,fun h4=>J1 false ⟨fun q=>(by cases q),fun q=>absurd q.1 h4⟩ h3⟩
   rw[decide_eq_true_iff]
   exact⟨fun q=>⟨h4,hp,q⟩,fun q=>q.2.2⟩
theorem stands_is (c1 c2:Nat) (hO:Sl cOp w A2 n2 ops) (s2:n2≤1048576):
  Calls P F.arbiterlaw13_stands #[.slice A1 fs.length c1,.slice A2 n2 c2] w (Ret fun v w'=>∃A n c,v= .tuple #[.slice A n c,.int .i64 ((standS fs ops).2.length:Int)]∧n=(standS fs ops).1.length∧Ext w w'∧Row w' w.heap.size T.arbiterlaw13_Said 4 A n c ((standS fs ops).1.flatMap lawVals)):=by
 refine Ret.mono (ok_arbiterlaw13_stands A1 fs.length c1 A2 n2 c2 (fun A n c k w'=>k=((standS fs ops).2.length:Int)∧n=(standS fs ops).1.length∧Ext w w'∧Row w' w.heap.size T.arbiterlaw13_Said 4 A n c ((standS fs ops).1.flatMap lawVals)) w ?_) (by rintro _ w' ⟨A,n,c,k,rfl,rfl,h⟩;exact⟨A,n,c,rfl,h⟩)
 have sm2:Sm n2:=by unfold Sm;omega
 have hn:=hO.1
 unfold vc_arbiterlaw13_stands
 refine⟨StInv w fs ops n2,⟨n2,by simp,by omega,by omega,Ext.refl w,Row.nil _ _ _ _,Row.nil _ _ _ _,fun b ⟨a,ha,_⟩=>(by cases ha)⟩,?_⟩
 rintro k A4 n4 c4 A5 n5 c5 i w1 ⟨rfl,i0,i1,E1,r4,r5,hd⟩
 refine⟨fun hlt=> ?_,fun hge=> ?_⟩
 ·obtain⟨o,ad,ho,hA,hc,ha⟩:=(hO.ext E1).op i0 hlt
  refine⟨i0,hlt,ad,hA,_,_,_,_,_,hc,fun p1 w2 hN2=>⟨hN2.soft rfl,fun w3 hw3=> ?_⟩⟩
  have hN3:=hN2.store hw3 rfl
  have E3:Ext w1 w3:=Ext.of_new hN3
  have hc3:CellsAt w3 p1 o.vals:=hN3.cells rfl
  have main:=fun(b3:Bool)=>stands_J2_is (w:=w) (fs:=fs) (ops:=ops) (n2:=n2) (w3:=w3) (p1:=p1) (b3:=b3) s2 i0 hlt ho hn (E1.trans E3) ha hc3 (r4.keep E3 fun _ _ h=>h) (r5.keep E3 fun _ _ h=>h) hd
  have k0:=hc3 0 _ rfl
  have k2:=hc3 2 _ rfl
  have k3:=hc3 3 _ rfl
  have J3:∀b2:Bool,(b2=true↔In2 fs o.a o.b)→vc_arbiterlaw13_stands_J3 w3 p1 A4 n4 c4 (vc_arbiterlaw13_stands_J4 (n2-i.toNat) (StInv w fs ops n2) i) A5 n5 c5 b2:=by
   intro b2 hb2
   refine⟨_,k0,fun h1=>main b2 ⟨fun q=>⟨.inl h1,hb2.1 q⟩,fun q=>hb2.2 q.2⟩,fun h1=>⟨_,k0,fun h2=>main b2 ⟨fun q=>⟨.inr h2,hb2.1 q⟩,fun q=>hb2.2 q.2⟩,fun h2=>main false ⟨fun q=>(by cases q),fun q=>(q.1.elim h1 h2).elim⟩⟩⟩
  unfold In2 at J3
  refine⟨_,k2,fun q1=>⟨_,k2,fun q2=>⟨_,k3,fun q3=>⟨_,k3,J3 _ ?_⟩,fun q3=>J3 false ⟨fun q=>(by cases q),fun q=>absurd q.2.1 q3⟩⟩,fun q2=>J3 false ⟨fun q=>(by cases q),fun q=>absurd q.2.2.1 q2⟩⟩,fun q1=>J3 false ⟨fun q=>(by cases q),fun q=>absurd q.1 q1⟩⟩
  rw[decide_eq_true_iff]
  exact⟨fun q=>⟨q1,q3,q2,q⟩,fun q=>q.2.2.2⟩
 ·have hi:i.toNat=ops.length:=by omega
  rw[hi,List.take_length] at r4 r5
  have e4:=r4.1
  rw[flat_len (s:=4) (fun _=>rfl)] at e4
  have e5:=r5.1
  rw[List.length_map] at e5
  exact⟨by omega,by omega,E1,r4⟩
end
end Go.Proofs.YtbmbhfghpidggaaDoor
namespace Go.Proofs.YtbmbhfghpidggaaDoor
set_option linter.unusedVariables false
set_option linter.unusedSimpArgs false
open Wk
section
variable {W0 B0:Nat} {w:World} {fs:List Flat} {ops:List OpR} {n2:Nat} {A1 A2:Option Addr}
theorem played_is {c1 c2:Nat} (hx:∀w',Ext w w'→Sl cFlat w' A1 fs.length fs) (hO:Sl cOp w A2 n2 ops) (hB:B0≤w.heap.size) (tab:Tab10 B0 w) (ok:NodesOk W0 fs) (s2:n2≤1048575):
  Calls P F.arbiterlaw13_played #[.slice A1 fs.length c1,.slice A2 n2 c2] w (Ret fun v w'=>(¬Sound fs∧v= .pointer none∧Ext w w')∨(Sound fs∧∃p H,v= .pointer (some p)∧Live W0 B0 w' p fs H (standS fs ops).1 (standS fs ops).2∧Adv (fun _=>False) w H w')):=by
 refine Ret.mono (ok_arbiterlaw13_played A1 fs.length c1 A2 n2 c2 (fun q w'=>(¬Sound fs∧q=none∧Ext w w')∨(Sound fs∧∃p H,q=some p∧Live W0 B0 w' p fs H (standS fs ops).1 (standS fs ops).2∧Adv (fun _=>False) w H w')) w ?_) (by
  rintro _ w' ⟨q,rfl,⟨h1,rfl,h2⟩|⟨h1,p,H,rfl,h2⟩⟩
  ·exact .inl ⟨h1,rfl,h2⟩
  ·exact .inr ⟨h1,p,H,rfl,h2⟩)
 generalize hKd:(fun(q:Option Addr) w'=>(¬Sound fs∧q=none∧Ext w w')∨(Sound fs∧∃p H,q=some p∧Live W0 B0 w' p fs H (standS fs ops).1 (standS fs ops).2∧Adv (fun _=>False) w H w'))=K
 have sm2:Sm n2:=by unfold Sm;omega
 have hn:=hO.1
 unfold vc_arbiterlaw13_played
 refine(live_new hx hB tab ok).mono ?_
 rintro _ w1 ⟨v,rfl,⟨h1,rfl,h3⟩|⟨hs,p,H,rfl,hL,hA⟩⟩
 ·refine⟨_,rfl,_,_,rfl,(law_no_is 80).mono ?_⟩
  rintro _ w2 ⟨_,rfl,rfl,rfl⟩
  refine⟨_,rfl,_,rfl,fun _=>⟨fun _=> ?_,fun q=>(by cases q)⟩,fun q=>absurd (show(80:Int)≠0 by decide) q⟩
  rw[←hKd]
  exact .inl ⟨h1,rfl,h3⟩
 ·refine⟨_,rfl,_,_,rfl,(law_no_is 0).mono ?_⟩
  rintro _ w2 ⟨_,rfl,rfl,rfl⟩
  refine⟨_,rfl,_,rfl,fun q=>absurd rfl q,fun _=>⟨fun q=>absurd (of_decide_eq_true q) (by simp),fun _=> ?_⟩⟩
  refine⟨fun k i w'=>k=n2-i.toNat∧0≤i∧i≤n2∧∃H',Live W0 B0 w' p fs H' (standS fs (ops.take i.toNat)).1 (standS fs (ops.take i.toNat)).2∧Adv (fun _=>False) w H' w',⟨_,rfl,by omega,by omega,H,hL,hA⟩,?_⟩
  rintro k i w4 ⟨rfl,i0,i1,H4,L4,A4⟩
  refine⟨fun hlt=> ?_,fun hge=> ?_⟩
  ·obtain⟨o,ad,ho,hA2,hc,ha⟩:=(hO.ext A4.keep).op i0 hlt
   refine⟨i0,hlt,ad,hA2,_,_,_,_,_,hc,fun p1 w5 hN5=>⟨hN5.soft rfl,fun w6 hw6=> ?_⟩⟩
   have hN6:=hN5.store hw6 rfl
   have E6:Ext w4 w6:=Ext.of_new hN6
   have hc6:CellsAt w6 p1 o.vals:=hN6.cells rfl
   have k0:=hc6 0 _ rfl
   have k2:=hc6 2 _ rfl
   have k3:=hc6 3 _ rfl
   have k4:=hc6 4 _ rfl
   have L6:=L4.stay E6
   have A6:Adv (fun _=>False) w H4 w6:=A4.trans (Adv.of_ext E6)
   obtain⟨mo,ml1,ml2⟩:=standS_ok fs ops i.toNat (by omega)
   have hsn:=standS_snoc (fs:=fs) ho
   generalize standS fs (ops.take i.toNat)=s at L4 L6 ml1 ml2 hsn
   have fin:∀w' H',Live W0 B0 w' p fs H' (stepS fs s o).1 (stepS fs s o).2→Adv H4 w6 H' w'→vc_arbiterlaw13_played_J1 (n2-i.toNat) (fun k i w'=>k=n2-i.toNat∧0≤i∧i≤n2∧∃H',Live W0 B0 w' p fs H' (standS fs (ops.take i.toNat)).1 (standS fs (ops.take i.toNat)).2∧Adv (fun _=>False) w H' w') i w':=by
    intro w' H' L' adv'
    refine⟨n2-(i+1).toNat,by omega,?_⟩
    rw[step_le i0 hlt sm2]
    refine⟨rfl,by omega,by omega,H',?_,A6.trans adv'⟩
    rw[show(i+1).toNat=i.toNat+1 by omega,hsn]
    exact L'
   have quiet:(o.kind≠1∧o.kind≠2∧o.kind≠3∧o.kind≠4)→∀w',Ext w6 w'→vc_arbiterlaw13_played_J1 (n2-i.toNat) (fun k i w'=>k=n2-i.toNat∧0≤i∧i≤n2∧∃H',Live W0 B0 w' p fs H' (standS fs (ops.take i.toNat)).1 (standS fs (ops.take i.toNat)).2∧Adv (fun _=>False) w H' w') i w':=by
    rintro⟨q1,q2,q3,q4⟩ w' E'
    refine fin w' H4 ?_ (Adv.of_ext E')
    have:stepS fs s o=s:=by unfold stepS;rw[if_neg (fun q=>q.1.elim q1 q2),if_neg q3,if_neg q4]
    rw[this]
    exact L6.stay E'
   refine⟨_,k0,fun e1=>⟨_,k2,_,k3,_,k4,?_⟩,fun n1=>⟨fun e2=>⟨_,k2,_,k3,_,k4,?_⟩,fun n2'=>⟨fun e3=> ?_,fun n3=>⟨fun e4=>⟨_,k2,?_⟩,fun n4=>⟨fun e9=>⟨_,k2,_,k3,?_⟩,fun n9=>⟨fun e5=> ?_,fun n5=>⟨fun e12=>⟨_,k2,_,k3,?_⟩,fun n12=> ?_⟩⟩⟩⟩⟩⟩⟩
   ·refine(L6.equal (a:=o.a) (b:=o.b) (t:=o.tag) (by omega)).mono ?_
    rintro _ w7 ⟨_,rfl,e,rfl,H',adv,⟨h1,_,L'⟩|⟨h1,_,L'⟩⟩
    ·refine⟨_,rfl,e,rfl,fin w7 H' ?_ adv⟩
     have:stepS fs s o=s:=by unfold stepS;rw[if_neg (fun q=>h1 q.2),if_neg (by omega),if_neg (by omega)]
     rw[this];exact L'
    ·refine⟨_,rfl,e,rfl,fin w7 H' ?_ adv⟩
     have:stepS fs s o=(s.1++[⟨o.a,o.b,o.tag,false⟩],s.2):=by unfold stepS;rw[if_pos ⟨.inl e1,h1⟩,decide_eq_false (by omega)]
     rw[this];exact L'
   ·refine(L6.differ (a:=o.a) (b:=o.b) (t:=o.tag) (by omega)).mono ?_
    rintro _ w7 ⟨_,rfl,e,rfl,H',adv,⟨h1,_,L'⟩|⟨h1,_,L'⟩⟩
    ·refine⟨_,rfl,e,rfl,fin w7 H' ?_ adv⟩
     have:stepS fs s o=s:=by unfold stepS;rw[if_neg (fun q=>h1 q.2),if_neg (by omega),if_neg (by omega)]
     rw[this];exact L'
    ·refine⟨_,rfl,e,rfl,fin w7 H' ?_ adv⟩
     have:stepS fs s o=(s.1++[⟨o.a,o.b,o.tag,true⟩],s.2):=by unfold stepS;rw[if_pos ⟨.inr e2,h1⟩,decide_eq_true e2]
     rw[this];exact L'
   ·refine(L6.push (by omega)).mono ?_
    rintro _ w7 ⟨_,rfl,rfl,H',adv,L'⟩
    refine⟨_,rfl,rfl,fin w7 H' ?_ adv⟩
    have:stepS fs s o=(s.1,s.2++[(s.1.length:Int)]):=by unfold stepS;rw[if_neg (fun q=>q.1.elim n1 n2'),if_pos e3]
    rw[this];exact L'
   ·refine(L6.pop (k:=o.a) (by omega) (by omega) ha).mono ?_
    rintro _ w7 ⟨_,rfl,e,rfl,H',adv,_,L'⟩
    refine⟨_,rfl,e,rfl,fin w7 H' ?_ adv⟩
    have:stepS fs s o=popS s.1 s.2 o.a:=by unfold stepS;rw[if_neg (fun q=>q.1.elim n1 n2'),if_neg n3,if_pos e4]
    rw[this];exact L'
   ·refine(L6.why (a:=o.a) (b:=o.b) (by omega)).mono ?_
    rintro _ w7 ⟨_,rfl,B,m,d,e,rfl,hE,_⟩
    exact⟨_,rfl,B,m,d,e,rfl,quiet ⟨n1,n2',n3,n4⟩ w7 hE⟩
   ·refine(L6.roots (by omega)).mono ?_
    rintro _ w7 ⟨_,rfl,B,d,r,rfl,_,_,hE⟩
    exact⟨_,rfl,B,_,d,rfl,quiet ⟨n1,n2',n3,n4⟩ w7 hE⟩
   ·refine(L6.prove (a:=o.a) (b:=o.b) (by omega)).mono ?_
    rintro _ w7 ⟨_,rfl,B,m,d,e,rfl,hE,_⟩
    exact⟨_,rfl,B,m,d,e,rfl,quiet ⟨n1,n2',n3,n4⟩ w7 hE⟩
   ·exact quiet ⟨n1,n2',n3,n4⟩ w6 (Ext.refl w6)
  ·have hi:i.toNat=ops.length:=by omega
   rw[hi,List.take_length] at L4
   rw[←hKd]
   exact .inr ⟨hs,p,H4,rfl,L4,A4⟩
end
end Go.Proofs.YtbmbhfghpidggaaDoor
namespace Go.Proofs.YtbmbhfghpidggaaDoor
set_option linter.unusedVariables false
set_option linter.unusedSimpArgs false
open Wk
namespace Hd
def fs:List Flat:=[⟨0,[]⟩,⟨1,[]⟩,⟨2,[0]⟩,⟨2,[1]⟩]
def st:List SaidR:=[⟨1,0,7,false⟩]
theorem before:¬SameBy fs [] 2 3:=by
 intro h
 have:(2:Int)=3:=by
  refine CC.least (f:=fun x=>x) (fun x y _ _ ⟨s,hs,_⟩=>by cases hs) (fun p q c=> ?_) h
  obtain⟨p0,p1⟩:=c.v1
  obtain⟨q0,q1⟩:=c.v2
  have hf:=c.fn
  have ha:=c.args
  have e4:(fs.length:Int)=4:=rfl
  rw[e4] at p1 q1
  have hp:p=0∨p=1∨p=2∨p=3:=by omega
  have hq:q=0∨q=1∨q=2∨q=3:=by omega
  rcases hp with rfl|rfl|rfl|rfl<;>rcases hq with rfl|rfl|rfl|rfl<;>first
   |rfl
   |exact absurd hf (by decide)
   |exact absurd (ha 0 0 1 rfl rfl) (by decide)
   |exact absurd (ha 0 1 0 rfl rfl) (by decide)
 exact absurd this (by decide)
theorem after {l:List SaidR} (h:(⟨1,0,7,false⟩:SaidR)∈l):SameBy fs l 2 3:=by
 have h01:CC fs (eqsOf l) 0 1:= .symm (.base ⟨by decide,by decide⟩ ⟨by decide,by decide⟩ ⟨_,h,rfl,trivial,rfl,rfl⟩)
 refine .cong ⟨by decide,by decide⟩ ⟨by decide,by decide⟩ (by decide) rfl rfl fun i a b ha hb=> ?_
 have ha':([0]:List Int)[i]? =some a:=ha
 have hb':([1]:List Int)[i]? =some b:=hb
 match i with
 |0=>
  cases ha'
  cases hb'
  exact h01
 |i+1=>simp at ha'
theorem out_is {out:List Int} (h:Bare (fun tags=>SameBy fs (pick st tags) 2 3) out):out=[7]:=by
 have key:∀tags:List Int,7∈tags→SameBy fs (pick st tags) 2 3:=fun tags ht=>after (pick_mem.2 ⟨List.mem_singleton.2 rfl,ht⟩)
 have h7:7∈out:=by
  refine Classical.byContradiction fun hn=> ?_
  have hp:pick st out=[]:=by
   refine List.eq_nil_iff_forall_not_mem.2 fun s hs=> ?_
   obtain⟨h1,h2⟩:=pick_mem.1 hs
   have:s=⟨1,0,7,false⟩:=List.mem_singleton.1 h1
   subst this
   exact hn h2
  have:=h.holds
  rw[hp] at this
  exact before this
 match out,h,h7 with
 |[a],h,h7=>rw[List.mem_singleton.1 h7]
 |a::b::r,h,h7=>
  rcases Classical.em (a=7) with e|e
  ·exact absurd (key _ (by rw[List.eraseIdx_cons_succ];rw[e];exact List.mem_cons_self)) (h.least 1 (by simp))
  ·exact absurd (key _ (by
    rw[List.eraseIdx_cons_zero]
    rcases List.mem_cons.1 h7 with q|q
    ·exact absurd q.symm e
    ·exact q)) (h.least 0 (by simp))
theorem noclash:¬ClashBy fs st:=fun⟨s,hs,h1,_⟩=>by
 have:s=⟨1,0,7,false⟩:=List.mem_singleton.1 hs
 subst this
 cases h1
theorem sound:Sound fs:=by
 intro i x hx j a ha
 match i with
 |0=>cases hx;simp at ha
 |1=>cases hx;simp at ha
 |2=>
  cases hx
  match j with
  |0=>cases ha;decide
  |j+1=>simp at ha
 |3=>
  cases hx
  match j with
  |0=>cases ha;decide
  |j+1=>simp at ha
 |i+4=>simp[fs] at hx
theorem ok:NodesOk 2 fs:=⟨by decide,fun x hx=>by
 simp[fs] at hx
 rcases hx with rfl|rfl|rfl|rfl<;>decide,by decide,by decide,by decide⟩
end Hd
theorem heads_is {B0:Nat} {w:World} (hB:B0≤w.heap.size) (tab:Tab10 B0 w):Calls P F.arbiterlaw13_heads #[] w (Ret fun v w'=>v= .bool true∧Ext w w'):=by
 refine Ret.mono (ok_arbiterlaw13_heads (fun b w'=>b=true∧Ext w w') w ?_) (by rintro _ w' ⟨b,rfl,rfl,h⟩;exact⟨rfl,h⟩)
 unfold vc_arbiterlaw13_heads
 intro p1 w1 hN1 p2 w2 hN2 p3 w3 hN3
 have E3:Ext w w3:=((Ext.of_new hN1).new hN2).new hN3
 have c1:CellsAt w3 p1 [.int .i64 0]:=Ext.cells ((Ext.of_new hN2).new hN3) (hN1.cells rfl)
 have c2:CellsAt w3 p2 [.int .i64 1]:=Ext.cells (Ext.of_new hN3) (hN2.cells rfl)
 have c3:CellsAt w3 p3 [.int .i64 0,.slice none 0 0,.int .i64 1,.slice none 0 0,.int .i64 2,.slice (some p1) 1 1,.int .i64 2,.slice (some p2) 1 1]:=hN3.cells rfl
 have one:∀{w':World} {p:Addr} {x:Int},CellsAt w' p [.int .i64 x]→Ints w' (some p) 1 [x]:=fun {w' p x} h=>⟨rfl,fun i y hy=>by
  match i with
  |0=>
   cases hy
   exact⟨p,[.int .i64 x],rfl,rfl,by rw[Nat.zero_mul,Addr.add_zero];exact h,rfl⟩
  |i+1=>simp at hy⟩
 have two:∀{w':World} (i:Nat) {u v:Value} {us:List Value},Ext w3 w'→([.int .i64 0,.slice none 0 0,.int .i64 1,.slice none 0 0,.int .i64 2,.slice (some p1) 1 1,.int .i64 2,.slice (some p2) 1 1]:List Value)[i*2]? =some u→([.int .i64 0,.slice none 0 0,.int .i64 1,.slice none 0 0,.int .i64 2,.slice (some p1) 1 1,.int .i64 2,.slice (some p2) 1 1]:List Value)[i*2+1]? =some v→CellsAt w' (p3.add (i*2)) [u,v]:=by
  intro w' i u v us E hu hv j y hy
  match j with
  |0=>cases hy;rw[Addr.add_zero];exact E.cells c3 _ _ hu
  |1=>cases hy;rw[Addr.add_add];exact E.cells c3 _ _ hv
  |j+2=>simp at hy
 have hx:∀w',Ext w3 w'→Sl cFlat w' (some p3) Hd.fs.length Hd.fs:=fun w' E=>⟨rfl,fun i x hxi=>by
  match i with
  |0=>cases hxi;exact⟨p3,_,rfl,rfl,two 0 (us:=[]) E rfl rfl,none,0,0,rfl,by decide,Sl.nil _ _ _⟩
  |1=>cases hxi;exact⟨p3,_,rfl,rfl,two 1 (us:=[]) E rfl rfl,none,0,0,rfl,by decide,Sl.nil _ _ _⟩
  |2=>cases hxi;exact⟨p3,_,rfl,rfl,two 2 (us:=[]) E rfl rfl,some p1,1,1,rfl,by decide,one (E.cells c1)⟩
  |3=>cases hxi;exact⟨p3,_,rfl,rfl,two 3 (us:=[]) E rfl rfl,some p2,1,1,rfl,by decide,one (E.cells c2)⟩
  |i+4=>simp[Hd.fs] at hxi⟩
 have tab3:Tab10 B0 w3:=tab_keep tab E3 hB (fun _ _ h=>h.elim)
 refine(live_new (fs:=Hd.fs) (c1:=4) hx (Nat.le_trans hB E3.size) tab3 Hd.ok).mono ?_
 rintro _ w4 ⟨v,rfl,⟨h1,_⟩|⟨_,p,H,rfl,L,adv⟩⟩
 ·exact absurd Hd.sound h1
 have E4:=E3.trans adv.keep
 refine⟨_,rfl,_,_,rfl,(law_no_is 0).mono ?_⟩
 rintro _ w5 ⟨_,rfl,rfl,rfl⟩
 refine⟨_,rfl,_,rfl,fun q=>absurd rfl q,fun _=>⟨fun q=>absurd (of_decide_eq_true q) (by simp),fun _=> ?_⟩⟩
 have in23:In2 Hd.fs 2 3:=by decide
 refine(L.same (a:=2) (b:=3)).mono ?_
 rintro _ w7 ⟨_,rfl,b3,x3,rfl,⟨h1,_⟩|⟨_,rfl,hb3⟩,E7⟩
 ·exact absurd in23 h1
 refine⟨_,rfl,b3,_,rfl,?_⟩
 refine((L.stay E7).equal (a:=1) (b:=0) (t:=7) (by simp)).mono ?_
 rintro _ w8 ⟨_,rfl,x4,rfl,H8,adv8,⟨h1,_⟩|⟨_,rfl,L8⟩⟩
 ·exact absurd (by decide:In2 Hd.fs 1 0) h1
 refine⟨_,rfl,_,rfl,?_⟩
 have adv8':Adv (fun _=>False) w3 H8 w8:=(adv.trans (Adv.of_ext E7)).trans adv8
 have E8:=E3.trans adv8'.keep
 have L8':Live 2 B0 w8 p Hd.fs H8 Hd.st []:=L8
 refine(L8'.same (a:=2) (b:=3)).mono ?_
 rintro _ w9 ⟨_,rfl,b4,x5,rfl,⟨h1,_⟩|⟨_,rfl,hb4⟩,E9⟩
 ·exact absurd in23 h1
 refine⟨_,rfl,b4,_,rfl,?_⟩
 have sm:SameBy Hd.fs Hd.st 2 3:=Hd.after (List.mem_singleton.2 rfl)
 refine((L8'.stay E9).why (a:=2) (b:=3) (by decide)).mono ?_
 rintro _ w10 ⟨_,rfl,B,m,d,e,rfl,E10,⟨h1,_⟩|⟨_,h1,_⟩|⟨_,_,rfl,out,rfl,R,hb⟩⟩
 ·exact absurd in23 h1
 ·exact absurd sm h1
 have ho:=Hd.out_is hb
 subst ho
 refine⟨_,rfl,B,_,d,_,rfl,?_⟩
 refine(((L8'.stay E9).stay E10).prove (a:=2) (b:=3) (by decide)).mono ?_
 rintro _ w11 ⟨_,rfl,B2,m2,d2,e2,rfl,E11,⟨h1,_⟩|⟨_,h1,_⟩|⟨_,_,rfl,ls,lv,rfl,_,_,_,_,last,hlast,_⟩⟩
 ·exact absurd in23 h1
 ·exact absurd sm h1
 have hls:0<ls.length:=by
  have:=(List.getElem?_eq_some_iff.1 hlast).1
  omega
 refine⟨_,rfl,B2,_,d2,_,rfl,fun q=>absurd (hb3.1 q) Hd.before,fun _=>⟨fun q=> ?_,fun _=> ?_⟩⟩
 ·rw[hb4.2 sm] at q;cases q
 have L11:=((L8'.stay E9).stay E10).stay E11
 have E11':=((E8.trans E9).trans E10).trans E11
 refine(law_no_is 0).mono ?_
 rintro _ w13 ⟨_,rfl,rfl,rfl⟩
 refine⟨_,rfl,_,rfl,fun q=>absurd rfl q,fun _=> ?_⟩
 refine(law_no_is 0).mono ?_
 rintro _ w14 ⟨_,rfl,rfl,rfl⟩
 refine⟨_,rfl,_,rfl,fun q=>absurd rfl q,fun _=> ?_⟩
 refine(law_no_is 0).mono ?_
 rintro _ w15 ⟨_,rfl,rfl,rfl⟩
 refine⟨_,rfl,_,rfl,fun q=>absurd rfl q,fun _=> ?_⟩
 refine(law_no_is 0).mono ?_
 rintro _ w16 ⟨_,rfl,rfl,rfl⟩
 refine⟨_,rfl,_,rfl,fun q=>absurd rfl q,fun _=> ?_⟩
 refine(law_no_is 0).mono ?_
 rintro _ w17 ⟨_,rfl,rfl,rfl⟩
 refine⟨_,rfl,_,rfl,fun q=>absurd (of_decide_eq_true q) (by decide),fun _=>⟨fun _=> ?_,fun q=>absurd rfl q⟩⟩
 obtain⟨a1,v,hA,hv,hc,_⟩:=(R.keep E11 fun _ _ h=>h).get (i:=0) (by decide) (by decide)
 cases hv
 refine⟨by decide,by decide,a1,hA,7,hc,fun _=>⟨fun _=> ?_,fun q=>absurd (by omega:(0:Int)<(ls.length:Int)) q⟩,fun q=>absurd rfl q⟩
 refine(L11.clash (by decide)).mono ?_
 rintro _ w18 ⟨_,rfl,b6,rfl,hb6,E18⟩
 refine⟨_,rfl,b6,rfl,?_,E11'.trans E18⟩
 cases b6 with
 |false=>rfl
 |true=>exact absurd (hb6.1 rfl) Hd.noclash
end Go.Proofs.YtbmbhfghpidggaaDoor
namespace Go.Proofs.YtbmbhfghpidggaaDoor
set_option linter.unusedVariables false
set_option linter.unusedSimpArgs false
open Wk
def rAt (r:List Int) (x:Int):Int:=r.getD x.toNat 0
section
variable {fs:List Flat} {st:List SaidR} {r:List Int}
theorem RootsAre.get (h:RootsAre fs st r) {i:Int} (hi:Vn fs.length i):r[i.toNat]? =some (rAt r i):=by
 have:i.toNat<r.length:=by rw[h.len];have:=hi.1;have:=hi.2;omega
 unfold rAt
 rw[List.getD_eq_getElem?_getD,List.getElem?_eq_getElem this]
 rfl
theorem RootsAre.spec (h:RootsAre fs st r) {i:Int} (hi:Vn fs.length i):SameBy fs st i (rAt r i)∧∀y,SameBy fs st i y→rAt r i≤y:=by
 have:=h.at_ _ _ (h.get hi)
 rwa [show((i.toNat:Nat):Int)=i by have:=hi.1;omega] at this
theorem RootsAre.vn (h:RootsAre fs st r) {i:Int} (hi:Vn fs.length i):Vn fs.length (rAt r i):=(CC.val (h.spec hi).1).2
theorem RootsAre.le (h:RootsAre fs st r) {i:Int} (hi:Vn fs.length i):rAt r i≤i:=(h.spec hi).2 i (.refl hi)
theorem RootsAre.eq (h:RootsAre fs st r) {x y:Int} (k:SameBy fs st x y):rAt r x=rAt r y:=by
 obtain⟨vx,vy⟩:=CC.val k
 exact Int.le_antisymm ((h.spec vx).2 _ (.trans k (h.spec vy).1)) ((h.spec vy).2 _ (.trans (.symm k) (h.spec vx).1))
theorem RootsAre.same (h:RootsAre fs st r) {x y:Int} (vx:Vn fs.length x) (vy:Vn fs.length y) (k:rAt r x=rAt r y):SameBy fs st x y:=by
 have h2:=(h.spec vy).1
 rw[←k] at h2
 exact .trans (h.spec vx).1 (.symm h2)
theorem RootsAre.cong (h:RootsAre fs st r) {p q:Int} (c:CongOk fs (fun a b=>Vn fs.length a∧Vn fs.length b∧rAt r a=rAt r b) p q):rAt r p=rAt r q:=
 h.eq (.cong c.v1 c.v2 c.app c.fn c.len fun i a b ha hb=>let ⟨k1,k2,k3⟩:=c.args i a b ha hb;h.same k1 k2 k3)
end
section
variable {w:World} {fs:List Flat} {st:List SaidR} {r:List Int} {n2:Nat} {A1 A2 A3:Option Addr}
end
end Go.Proofs.YtbmbhfghpidggaaDoor
namespace Go.Proofs.YtbmbhfghpidggaaDoor
set_option linter.unusedVariables false
set_option linter.unusedSimpArgs false
open Wk
section
variable {W0 B0:Nat} {w:World} {fs:List Flat} {ops:List OpR} {table:List Int} {n2 n3:Nat} {A1 A2 A3:Option Addr}
end
end Go.Proofs.YtbmbhfghpidggaaDoor
namespace Go.Proofs.YtbmbhfghpidggaaDoor
set_option linter.unusedVariables false
set_option linter.unusedSimpArgs false
set_option maxHeartbeats 2000000
set_option maxRecDepth 20000
open Wk
def vc_arbiterlaw13_told_J1 (k2:Nat) (I2:Nat→Bool→Int→World→Prop) (x4:Int) (b4:Bool) (w7:World):Prop:=
 ∃k3,k3<k2∧I2 k3 b4 (IntKind.wrap .i64 (x4+1)) w7
def vc_arbiterlaw13_told_J2 (x3:Int) (n2:Nat) (A2:Option Addr) (w5:World) (q2:Option Addr) (jc4:World→Prop) (b6:Bool):Prop:=
 (b6=true→(0≤x3∧x3<(n2:Int)∧∃a4,A2=some a4∧∃x7,w5.cell? ((a4.add (x3.toNat*4)).add 1)=some (.int .i64 x7)∧0≤x3∧x3<(n2:Int)∧∃a5,A2=some a5∧∃x8,w5.cell? ((a5.add (x3.toNat*4)).add 2)=some (.int .i64 x8)∧0≤x3∧x3<(n2:Int)∧∃a6,A2=some a6∧∃x9,w5.cell? ((a6.add (x3.toNat*4)).add 3)=some (.int .i64 x9)∧∀w10,Drawn w5 w10→Calls P F.euf_Graph_Differ #[(.pointer q2),(.int .i64 x7),(.int .i64 x8),(.int .i64 x9)] w10 (Ret fun v3 w9=>∃x10,v3=(.int .i64 x10)∧∀w12,Drawn w9 w12→(jc4 w12))))∧(b6=false→(jc4 w5))
def vc_arbiterlaw13_told_J3 (x3:Int) (n2:Nat) (A2:Option Addr) (w13:World) (q2:Option Addr) (jc6:World→Prop) (b8:Bool):Prop:=
 (b8=true→(0≤x3∧x3<(n2:Int)∧∃a8,A2=some a8∧∃x11,w13.cell? ((a8.add (x3.toNat*4)).add 1)=some (.int .i64 x11)∧0≤x3∧x3<(n2:Int)∧∃a9,A2=some a9∧∃x12,w13.cell? ((a9.add (x3.toNat*4)).add 2)=some (.int .i64 x12)∧0≤x3∧x3<(n2:Int)∧∃a10,A2=some a10∧∃x13,w13.cell? ((a10.add (x3.toNat*4)).add 3)=some (.int .i64 x13)∧∀w15,Drawn w13 w15→Calls P F.euf_Graph_Equal #[(.pointer q2),(.int .i64 x11),(.int .i64 x12),(.int .i64 x13)] w15 (Ret fun v4 w14=>∃x14,v4=(.int .i64 x14)∧∀w17,Drawn w14 w17→(jc6 w17))))∧(b8=false→(jc6 w13))
def vc_arbiterlaw13_told_J4 (b3:Bool) (x3:Int) (n2:Nat) (A2:Option Addr) (q2:Option Addr) (jc6:World→Prop) (w13:World):Prop:=
 (b3=true→(0≤x3∧x3<(n2:Int)∧∃a7,A2=some a7∧∃b7,w13.cell? ((a7.add (x3.toNat*4)).add 0)=some (.bool b7)∧(vc_arbiterlaw13_told_J3 x3 n2 A2 w13 q2 jc6) (!b7)))∧(b3=false→((vc_arbiterlaw13_told_J3 x3 n2 A2 w13 q2 jc6) false))
def vc_arbiterlaw13_told_J5 (k1:Nat) (I1:Nat→Int→World→Prop) (x3:Int) (w18:World):Prop:=
 ∃k4,k4<k1∧I1 k4 (IntKind.wrap .i64 (x3+1)) w18
def vc_arbiterlaw13_told_J6 (K:Option Addr→World→Prop) (n2:Nat) (b1:Bool) (n3:Nat) (A3:Option Addr) (A2:Option Addr) (q2:Option Addr) (b2:Bool) (w3:World):Prop:=
 (b2=true→(K none w3))∧(b2=false→(∃I1:Nat→Int→World→Prop,(∃k1,I1 k1 0 w3)∧∀k1 (x3:Int) (w4:World),I1 k1 x3 w4→((x3<(n2:Int)→(∃I2:Nat→Bool→Int→World→Prop,(∃k2,I2 k2 b1 0 w4)∧∀k2 (b3:Bool) (x4:Int) (w5:World),I2 k2 b3 x4 w5→((x4<(n3:Int)→((b3=true→(∀w6,Drawn w5 w6→((vc_arbiterlaw13_told_J1 k2 I2 x4) true w6)))∧(b3=false→(0≤x4∧x4<(n3:Int)∧∃a1,A3=some a1∧∃x5,w5.cell? (a1.add (x4.toNat*1))=some (.int .i64 x5)∧0≤x3∧x3<(n2:Int)∧∃a2,A2=some a2∧∃x6,w5.cell? ((a2.add (x3.toNat*4)).add 3)=some (.int .i64 x6)∧∀w8,Drawn w5 w8→((vc_arbiterlaw13_told_J1 k2 I2 x4) (decide (x5=x6)) w8)))))∧(¬(x4<(n3:Int))→((b3=true→(0≤x3∧x3<(n2:Int)∧∃a3,A2=some a3∧∃b5,w5.cell? ((a3.add (x3.toNat*4)).add 0)=some (.bool b5)∧(vc_arbiterlaw13_told_J2 x3 n2 A2 w5 q2 (vc_arbiterlaw13_told_J4 b3 x3 n2 A2 q2 (vc_arbiterlaw13_told_J5 k1 I1 x3))) b5))∧(b3=false→((vc_arbiterlaw13_told_J2 x3 n2 A2 w5 q2 (vc_arbiterlaw13_told_J4 b3 x3 n2 A2 q2 (vc_arbiterlaw13_told_J5 k1 I1 x3))) false)))))))∧(¬(x3<(n2:Int))→(K q2 w4)))))
def vc_arbiterlaw13_told (A1:Option Addr) (n1 c1:Nat) (A2:Option Addr) (n2 c2:Nat) (A3:Option Addr) (n3 c3:Nat) (b1:Bool) (K:Option Addr→World→Prop) (w:World):Prop:=
 Calls P F.euf_New #[(.slice A1 n1 c1)] w (Ret fun v1 w1=>∃q2,∃x1,v1=(.tuple #[(.pointer q2),(.int .i64 x1)])∧Calls P F.arbiterlaw13_no #[(.int .i64 x1)] w1 (Ret fun v2 w2=>∃x2,v2=(.int .i64 x2)∧(x2≠0→((vc_arbiterlaw13_told_J6 K n2 b1 n3 A3 A2 q2) true w2))∧(¬(x2≠0)→((vc_arbiterlaw13_told_J6 K n2 b1 n3 A3 A2 q2) (decide (q2=none)) w2))))
theorem ok_arbiterlaw13_told (A1:Option Addr) (n1 c1:Nat) (A2:Option Addr) (n2 c2:Nat) (A3:Option Addr) (n3 c3:Nat) (b1:Bool) (K:Option Addr→World→Prop) (w:World) (H:vc_arbiterlaw13_told A1 n1 c1 A2 n2 c2 A3 n3 c3 b1 K w):Calls P F.arbiterlaw13_told #[(.slice A1 n1 c1),(.slice A2 n2 c2),(.slice A3 n3 c3),(.bool b1)] w (Ret fun v w'=>∃q1,v=(.pointer q1)∧K q1 w'):=by
 unfold vc_arbiterlaw13_told at H;refine calls_of (P:=P) Tryd.func24 rfl [(0,(.slice A1 n1 c1)),(1,(.slice A2 n2 c2)),(2,(.slice A3 n3 c3)),(3,(.bool b1))] 104 rfl rfl (aa rfl (aa rfl (aa rfl (aa rfl az)))) (cw_seq (cw_region (ag rfl (sl_nil (nc (kp 0 rfl (kp 1 rfl (kp 2 rfl (kp 3 rfl zz)))) (cw_seq (cw_region (mv rfl (sl_call rfl rfl (wanted_none rfl) (fun a ha=>x_call0 (ha.ev rfl) (ha.evs rfl) FF.callable_euf_New) H ?_)))))))));rintro _ w1 ⟨q2,x1,rfl,H⟩;refine mv rfl (sv rfl rfl (fun a ha=>x_extract (ha.ev rfl) rfl) (sv rfl rfl (fun a ha=>x_extract (ha.ev rfl) rfl) (ag rfl (ag rfl (sl_nil (nc (kp 1 rfl (kp 2 rfl (kp 3 rfl (kp 9 rfl (kp 10 rfl zz))))) (cw_seq ?_)))))));refine cw_join (fun a w=>∃b2,Ok 104 [(1,(.slice A2 n2 c2)),(2,(.slice A3 n3 c3)),(3,(.bool b1)),(9,(.pointer q2)),(25,(.bool b2))] a∧vc_arbiterlaw13_told_J6 K n2 b1 n3 A3 A2 q2 b2 w) ?_ ?_
 ·rintro a w3 ⟨b2,ha,H⟩;unfold vc_arbiterlaw13_told_J6 at H;refine(?_:CW _ _ _ 104 [(1,(.slice A2 n2 c2)),(2,(.slice A3 n3 c3)),(3,(.bool b1)),(9,(.pointer q2)),(25,(.bool b2))] _) a ha;refine cw_cond rfl (fun hb=> ?_) (fun hb=> ?_)
  ·replace H:=H.1 hb;exact cw_seq (cw_region (ag rfl (sl_nil (nc (kp 8 rfl zz) (cw_ret (nx_ret_then (nx_body_ret (res1 rfl rfl) ⟨_,rfl,_,rfl,H⟩)))))))
  ·replace H:=H.2 hb;refine cw_skip (nc (kp 1 rfl (kp 2 rfl (kp 3 rfl (kp 9 rfl zz)))) (cw_seq (cw_seq (cw_region (ag rfl (sl_nil (nc (kp 1 rfl (kp 2 rfl (kp 3 rfl (kp 9 rfl (kp 11 rfl zz))))) (cw_block ?_))))))));obtain⟨I1,⟨k1,hi⟩,H⟩:=H;refine cw_loop (fun k1 a w'=>∃x3,Ok 104 [(1,(.slice A2 n2 c2)),(2,(.slice A3 n3 c3)),(3,(.bool b1)),(9,(.pointer q2)),(11,(.int .i64 x3))] a∧I1 k1 x3 w') (fun a ha=>⟨k1,0,ha.weaken (sub.cons rfl (sub.cons rfl (sub.cons rfl (sub.cons rfl (sub.cons rfl (sub.nil)))))),hi⟩) ?_;rintro k1 a w4 ⟨x3,ha,hI⟩;replace H:=H k1 x3 w4 hI;refine(?_:CW _ _ _ 104 [(1,(.slice A2 n2 c2)),(2,(.slice A3 n3 c3)),(3,(.bool b1)),(9,(.pointer q2)),(11,(.int .i64 x3))] _) a ha;refine cw_seq (cw_seq (cw_region (mv rfl (mv rfl (sv rfl rfl (fun a ha=>x_builtin (ha.evs rfl) (fun _=>l_slice TF.isslice_sl_arbiterlaw13_Said)) (bo rfl rfl o_lss (sl_nil (nc (kp 1 rfl (kp 2 rfl (kp 3 rfl (kp 9 rfl (kp 11 rfl (kp 29 rfl zz)))))) ?_))))))));refine cw_cond_p rfl (fun hb=> ?_) (fun hb=> ?_)
   ·replace H:=H.1 hb;refine cw_skip (nc (kp 1 rfl (kp 2 rfl (kp 3 rfl (kp 9 rfl (kp 11 rfl zz))))) ?_);refine cw_join (fun a w=>Ok 104 [(1,(.slice A2 n2 c2)),(2,(.slice A3 n3 c3)),(3,(.bool b1)),(9,(.pointer q2)),(11,(.int .i64 x3))] a∧vc_arbiterlaw13_told_J5 k1 I1 x3 w) ?_ ?_
    ·rintro a w18 ⟨ha,H⟩;unfold vc_arbiterlaw13_told_J5 at H;refine(?_:CW _ _ _ 104 [(1,(.slice A2 n2 c2)),(2,(.slice A3 n3 c3)),(3,(.bool b1)),(9,(.pointer q2)),(11,(.int .i64 x3))] _) a ha;refine cw_region (mv rfl (bo rfl rfl o_add (ag rfl (sl_nil ?_))));obtain⟨k4,hk,H⟩:=H;exact nx_to fun a ha=>⟨k4,hk,IntKind.wrap .i64 (x3+1),ha.weaken (cn rfl (cn rfl (cn rfl (cn rfl (cn rfl zz))))),H⟩
    ·refine cw_block (cw_seq (cw_region (mv rfl (ag rfl (sl_nil (nc (kp 1 rfl (kp 2 rfl (kp 3 rfl (kp 9 rfl (kp 11 rfl (kp 12 rfl zz)))))) (cw_seq (cw_seq (cw_region (ag rfl (sl_nil (nc (kp 1 rfl (kp 2 rfl (kp 3 rfl (kp 9 rfl (kp 11 rfl (kp 12 rfl (kp 13 rfl zz))))))) (cw_block ?_)))))))))))));obtain⟨I2,⟨k2,hi⟩,H⟩:=H;refine cw_loop (fun k2 a w'=>∃b3,∃x4,Ok 104 [(1,(.slice A2 n2 c2)),(2,(.slice A3 n3 c3)),(3,(.bool b1)),(9,(.pointer q2)),(11,(.int .i64 x3)),(12,(.bool b3)),(13,(.int .i64 x4))] a∧I2 k2 b3 x4 w') (fun a ha=>⟨k2,b1,0,ha.weaken (sub.cons rfl (sub.cons rfl (sub.cons rfl (sub.cons rfl (sub.cons rfl (sub.cons rfl (sub.cons rfl (sub.nil)))))))),hi⟩) ?_;rintro k2 a w5 ⟨b3,x4,ha,hI⟩;replace H:=H k2 b3 x4 w5 hI;refine(?_:CW _ _ _ 104 [(1,(.slice A2 n2 c2)),(2,(.slice A3 n3 c3)),(3,(.bool b1)),(9,(.pointer q2)),(11,(.int .i64 x3)),(12,(.bool b3)),(13,(.int .i64 x4))] _) a ha;refine cw_seq (cw_seq (cw_region (mv rfl (mv rfl (sv rfl rfl (fun a ha=>x_builtin (ha.evs rfl) (fun _=>l_slice TF.isslice_sl_int)) (bo rfl rfl o_lss (sl_nil (nc (kp 1 rfl (kp 2 rfl (kp 3 rfl (kp 9 rfl (kp 11 rfl (kp 12 rfl (kp 13 rfl (kp 36 rfl zz)))))))) ?_))))))));refine cw_cond_p rfl (fun hb=> ?_) (fun hb=> ?_)
     ·replace H:=H.1 hb;refine cw_skip (nc (kp 1 rfl (kp 2 rfl (kp 3 rfl (kp 9 rfl (kp 11 rfl (kp 12 rfl (kp 13 rfl zz))))))) ?_);refine cw_join (fun a w=>∃b4,Ok 104 [(1,(.slice A2 n2 c2)),(2,(.slice A3 n3 c3)),(3,(.bool b1)),(9,(.pointer q2)),(11,(.int .i64 x3)),(12,(.bool b4)),(13,(.int .i64 x4))] a∧vc_arbiterlaw13_told_J1 k2 I2 x4 b4 w) ?_ ?_
      ·rintro a w7 ⟨b4,ha,H⟩;unfold vc_arbiterlaw13_told_J1 at H;refine(?_:CW _ _ _ 104 [(1,(.slice A2 n2 c2)),(2,(.slice A3 n3 c3)),(3,(.bool b1)),(9,(.pointer q2)),(11,(.int .i64 x3)),(12,(.bool b4)),(13,(.int .i64 x4))] _) a ha;refine cw_region (mv rfl (bo rfl rfl o_add (ag rfl (sl_nil ?_))));obtain⟨k3,hk,H⟩:=H;exact nx_to fun a ha=>⟨k3,hk,b4,IntKind.wrap .i64 (x4+1),ha.weaken (cn rfl (cn rfl (cn rfl (cn rfl (cn rfl (cn rfl (cn rfl zz))))))),H⟩
      ·refine cw_block ?_;refine cw_any_drawn follows [0,1,2,3,4,5,6,7,8,9,10,11,12,13] [5,10] 14 rfl rfl (by kernel_rfl) (fun _ _ d _ _ h=>by cases d<;>exact h) (fun cm W D=> ?_);refine pmv 0 cm rfl rfl D W fun _ D W=> ?_;rcases tf b3 with hb|hb
       ·replace H:=H.1 hb;refine pv 1 cm rfl rfl rfl (fun w' a ha=>o_bt (x_move (ha.ev rfl)) hb) D W fun _ D W=>(ps 2 cm rfl rfl rfl rfl rfl D W fun _ D W=>(ps 3 cm rfl rfl rfl rfl rfl D W fun _ D W=>(ps 4 cm rfl rfl rfl rfl rfl D W fun _ D W=>(ps 5 cm rfl rfl rfl rfl rfl D W fun _ D W=>(ps 6 cm rfl rfl rfl rfl rfl D W fun _ D W=>(ps 7 cm rfl rfl rfl rfl rfl D W fun _ D W=>(ps 8 cm rfl rfl rfl rfl rfl D W fun _ D W=>(ps 9 cm rfl rfl rfl rfl rfl D W fun _ D W=>(ps 10 cm rfl rfl rfl rfl rfl D W fun _ D W=>(psd 11 cm rfl rfl rfl rfl rfl D fun _ D=>(pptd 12 cm rfl rfl rfl D fun _ D=>(pagd 13 cm rfl rfl D fun _ D=>(an_end (by kernel_rfl) D ?_)))))))))))));intro w6 D;replace H:=H _ D;clear D cm;exact nx_block (nx_to fun a ha=>⟨true,ha.weaken (cn rfl (cn rfl (cn rfl (cn rfl (cn rfl (cn rfl (cn rfl zz))))))),H⟩)
       ·replace H:=H.2 hb;refine pv 1 cm rfl rfl rfl (fun w' a ha=>o_bf (x_move (ha.ev rfl)) hb) D W fun _ D W=>(pmvg 2 cm rfl rfl rfl rfl D W fun _ D W=>(pmvg 3 cm rfl rfl rfl rfl D W fun _ D W=> ?_));obtain⟨h1,h2,a1,e1,H⟩:=H;refine pixg 4 cm rfl rfl rfl rfl rfl (i_index TF.elem_sl_int TF.size_int e1 h1 h2) D W fun _ D W=> ?_;obtain⟨x5,h3,H⟩:=H;refine vlg 5 cm rfl rfl rfl rfl (fun hw=>(i_load1 TF.agg_int ((hw.cell _).trans h3))) D W fun _ D W=>(pmvg 6 cm rfl rfl rfl rfl D W fun _ D W=>(pmvg 7 cm rfl rfl rfl rfl D W fun _ D W=> ?_));obtain⟨h4,h5,a2,e2,H⟩:=H;refine pixg 8 cm rfl rfl rfl rfl rfl (i_index TF.elem_sl_arbiterlaw13_Said TF.size_arbiterlaw13_Said e2 h4 h5) D W fun _ D W=>(pfag 9 cm rfl rfl rfl rfl (TF.fld_arbiterlaw13_Said_3 _ _) D W fun _ D W=> ?_);obtain⟨x6,h6,H⟩:=H;refine vlg 10 cm rfl rfl rfl rfl (fun hw=>(i_load1 TF.agg_int ((hw.cell _).trans h6))) D W fun _ D W=>(pvgd 11 cm rfl rfl rfl rfl rfl (fun w' a ha=>x_binOp (ha.ev rfl) (ha.ev rfl) o_eql) D fun _ D=>(ppfd 12 cm rfl rfl rfl D fun _ D=>(pagd 13 cm rfl rfl D fun _ D=>(an_end (by kernel_rfl) D ?_))));intro w8 D;replace H:=H _ D;clear D cm;exact nx_block (nx_to fun a ha=>⟨(decide (x5=x6)),ha.weaken (cn rfl (cn rfl (cn rfl (cn rfl (cn rfl (cn rfl (cn rfl zz))))))),H⟩)
     ·replace H:=H.2 hb;refine cw_exit (nx_exit_then (nx_exit_then (nx_exit_hit (nc (kp 1 rfl (kp 2 rfl (kp 3 rfl (kp 9 rfl (kp 11 rfl (kp 12 rfl zz)))))) ?_))));refine cw_join (fun a w=>Ok 104 [(1,(.slice A2 n2 c2)),(2,(.slice A3 n3 c3)),(3,(.bool b1)),(9,(.pointer q2)),(11,(.int .i64 x3)),(12,(.bool b3))] a∧vc_arbiterlaw13_told_J4 b3 x3 n2 A2 q2 (vc_arbiterlaw13_told_J5 k1 I1 x3) w) ?_ ?_
      ·rintro a w13 ⟨ha,H⟩;unfold vc_arbiterlaw13_told_J4 at H;refine(?_:CW _ _ _ 104 [(1,(.slice A2 n2 c2)),(2,(.slice A3 n3 c3)),(3,(.bool b1)),(9,(.pointer q2)),(11,(.int .i64 x3)),(12,(.bool b3))] _) a ha;refine cw_join_still (fun a=>∃b8,Ok 104 [(1,(.slice A2 n2 c2)),(2,(.slice A3 n3 c3)),(3,(.bool b1)),(9,(.pointer q2)),(11,(.int .i64 x3)),(85,(.bool b8))] a∧vc_arbiterlaw13_told_J3 x3 n2 A2 w13 q2 (vc_arbiterlaw13_told_J5 k1 I1 x3) b8) ?_ ?_
       ·rintro a ⟨b8,ha,H⟩;unfold vc_arbiterlaw13_told_J3 at H;refine(?_:CW _ _ _ 104 [(1,(.slice A2 n2 c2)),(2,(.slice A3 n3 c3)),(3,(.bool b1)),(9,(.pointer q2)),(11,(.int .i64 x3)),(85,(.bool b8))] _) a ha;refine cw_cond rfl (fun hb=> ?_) (fun hb=> ?_)
        ·replace H:=H.1 hb;refine cw_any_drawn follows [0,1,2,3,4,5,6,7,8,9,10,11,12,13,14,15] [5,10,15] 17 rfl rfl (by kernel_rfl) (fun _ _ d _ _ h=>by cases d<;>exact h) (fun cm W D=> ?_);refine pmv 0 cm rfl rfl D W fun _ D W=>(pmv 1 cm rfl rfl D W fun _ D W=>(pmv 2 cm rfl rfl D W fun _ D W=> ?_));obtain⟨h24,h25,a8,e8,H⟩:=H;refine pix 3 cm rfl rfl rfl (i_index TF.elem_sl_arbiterlaw13_Said TF.size_arbiterlaw13_Said e8 h24 h25) D W fun _ D W=>(pfa 4 cm rfl rfl (TF.fld_arbiterlaw13_Said_1 _ _) D W fun _ D W=> ?_);obtain⟨x11,h26,H⟩:=H;refine vl 5 cm rfl rfl (fun hw=>(i_load1 TF.agg_int ((hw.cell _).trans h26))) D W fun _ D W=>(pmv 6 cm rfl rfl D W fun _ D W=>(pmv 7 cm rfl rfl D W fun _ D W=> ?_));obtain⟨h27,h28,a9,e9,H⟩:=H;refine pix 8 cm rfl rfl rfl (i_index TF.elem_sl_arbiterlaw13_Said TF.size_arbiterlaw13_Said e9 h27 h28) D W fun _ D W=>(pfa 9 cm rfl rfl (TF.fld_arbiterlaw13_Said_2 _ _) D W fun _ D W=> ?_);obtain⟨x12,h29,H⟩:=H;refine vl 10 cm rfl rfl (fun hw=>(i_load1 TF.agg_int ((hw.cell _).trans h29))) D W fun _ D W=>(pmv 11 cm rfl rfl D W fun _ D W=>(pmv 12 cm rfl rfl D W fun _ D W=> ?_));obtain⟨h30,h31,a10,e10,H⟩:=H;refine pix 13 cm rfl rfl rfl (i_index TF.elem_sl_arbiterlaw13_Said TF.size_arbiterlaw13_Said e10 h30 h31) D W fun _ D W=>(pfa 14 cm rfl rfl (TF.fld_arbiterlaw13_Said_3 _ _) D W fun _ D W=> ?_);obtain⟨x13,h32,H⟩:=H;refine vl 15 cm rfl rfl (fun hw=>(i_load1 TF.agg_int ((hw.cell _).trans h32))) D W fun _ D W=>(ar 16 ?_);replace H:=H _ D;refine aw_c rfl rfl rfl (wanted_none rfl) (fun a ha=>x_call0 (ha.ev rfl) (ha.evs rfl) FF.callable_euf_Graph_Equal) rfl false (by kernel_rfl) H ?_;rintro _ w14 ⟨x14,rfl,H⟩ _ D;refine⟨fun h=>(by cases h),?_⟩;refine an_end (by kernel_rfl) D ?_;intro w17 D;replace H:=H _ D;clear D cm;exact nx_block (nx_to fun a ha=>⟨ha.weaken (cn rfl (cn rfl (cn rfl (cn rfl (cn rfl zz))))),H⟩)
        ·replace H:=H.2 hb;exact cw_skip (nx_block (nx_to fun a ha=>⟨ha.weaken (cn rfl (cn rfl (cn rfl (cn rfl (cn rfl zz))))),H⟩))
       ·refine cw_region (mv rfl ?_);rcases tf b3 with hb|hb
        ·replace H:=H.1 hb;refine sv rfl rfl (fun a ha=>o_bt (x_move (ha.ev rfl)) hb) (mvg rfl rfl rfl (mvg rfl rfl rfl ?_));obtain⟨h21,h22,a7,e7,H⟩:=H;refine ixg rfl rfl rfl rfl (i_index TF.elem_sl_arbiterlaw13_Said TF.size_arbiterlaw13_Said e7 h21 h22) (fag rfl rfl rfl (TF.fld_arbiterlaw13_Said_0 _ _) ?_);obtain⟨b7,h23,H⟩:=H;exact ldg rfl rfl rfl (i_load1 TF.agg_bool h23) (svg rfl rfl rfl rfl (fun a ha=>x_unOp (ha.ev rfl) u_not) (pt rfl rfl (sl_nil (nx_to fun a ha=>⟨⟨(!b7),ha.weaken (cn rfl (cn rfl (cn rfl (cn rfl (cn rfl (cn rfl zz)))))),H⟩,rfl⟩))))
        ·replace H:=H.2 hb;exact sv rfl rfl (fun a ha=>o_bf (x_move (ha.ev rfl)) hb) (sk rfl rfl rfl rfl (sk rfl rfl rfl rfl (sk rfl rfl rfl rfl (sk rfl rfl rfl rfl (sk rfl rfl rfl rfl (sk rfl rfl rfl rfl (pf rfl rfl (sl_nil (nx_to fun a ha=>⟨⟨false,ha.weaken (cn rfl (cn rfl (cn rfl (cn rfl (cn rfl (cn rfl zz)))))),H⟩,rfl⟩)))))))))
      ·refine cw_join_still (fun a=>∃b6,Ok 104 [(1,(.slice A2 n2 c2)),(2,(.slice A3 n3 c3)),(3,(.bool b1)),(9,(.pointer q2)),(11,(.int .i64 x3)),(12,(.bool b3)),(59,(.bool b6))] a∧vc_arbiterlaw13_told_J2 x3 n2 A2 w5 q2 (vc_arbiterlaw13_told_J4 b3 x3 n2 A2 q2 (vc_arbiterlaw13_told_J5 k1 I1 x3)) b6) ?_ ?_
       ·rintro a ⟨b6,ha,H⟩;unfold vc_arbiterlaw13_told_J2 at H;refine(?_:CW _ _ _ 104 [(1,(.slice A2 n2 c2)),(2,(.slice A3 n3 c3)),(3,(.bool b1)),(9,(.pointer q2)),(11,(.int .i64 x3)),(12,(.bool b3)),(59,(.bool b6))] _) a ha;refine cw_cond rfl (fun hb=> ?_) (fun hb=> ?_)
        ·replace H:=H.1 hb;refine cw_any_drawn follows [0,1,2,3,4,5,6,7,8,9,10,11,12,13,14,15] [5,10,15] 17 rfl rfl (by kernel_rfl) (fun _ _ d _ _ h=>by cases d<;>exact h) (fun cm W D=> ?_);refine pmv 0 cm rfl rfl D W fun _ D W=>(pmv 1 cm rfl rfl D W fun _ D W=>(pmv 2 cm rfl rfl D W fun _ D W=> ?_));obtain⟨h10,h11,a4,e4,H⟩:=H;refine pix 3 cm rfl rfl rfl (i_index TF.elem_sl_arbiterlaw13_Said TF.size_arbiterlaw13_Said e4 h10 h11) D W fun _ D W=>(pfa 4 cm rfl rfl (TF.fld_arbiterlaw13_Said_1 _ _) D W fun _ D W=> ?_);obtain⟨x7,h12,H⟩:=H;refine vl 5 cm rfl rfl (fun hw=>(i_load1 TF.agg_int ((hw.cell _).trans h12))) D W fun _ D W=>(pmv 6 cm rfl rfl D W fun _ D W=>(pmv 7 cm rfl rfl D W fun _ D W=> ?_));obtain⟨h13,h14,a5,e5,H⟩:=H;refine pix 8 cm rfl rfl rfl (i_index TF.elem_sl_arbiterlaw13_Said TF.size_arbiterlaw13_Said e5 h13 h14) D W fun _ D W=>(pfa 9 cm rfl rfl (TF.fld_arbiterlaw13_Said_2 _ _) D W fun _ D W=> ?_);obtain⟨x8,h15,H⟩:=H;refine vl 10 cm rfl rfl (fun hw=>(i_load1 TF.agg_int ((hw.cell _).trans h15))) D W fun _ D W=>(pmv 11 cm rfl rfl D W fun _ D W=>(pmv 12 cm rfl rfl D W fun _ D W=> ?_));obtain⟨h16,h17,a6,e6,H⟩:=H;refine pix 13 cm rfl rfl rfl (i_index TF.elem_sl_arbiterlaw13_Said TF.size_arbiterlaw13_Said e6 h16 h17) D W fun _ D W=>(pfa 14 cm rfl rfl (TF.fld_arbiterlaw13_Said_3 _ _) D W fun _ D W=> ?_);obtain⟨x9,h18,H⟩:=H;refine vl 15 cm rfl rfl (fun hw=>(i_load1 TF.agg_int ((hw.cell _).trans h18))) D W fun _ D W=>(ar 16 ?_);replace H:=H _ D;refine aw_c rfl rfl rfl (wanted_none rfl) (fun a ha=>x_call0 (ha.ev rfl) (ha.evs rfl) FF.callable_euf_Graph_Differ) rfl false (by kernel_rfl) H ?_;rintro _ w9 ⟨x10,rfl,H⟩ _ D;refine⟨fun h=>(by cases h),?_⟩;refine an_end (by kernel_rfl) D ?_;intro w12 D;replace H:=H _ D;clear D cm;exact nx_to fun a ha=>⟨ha.weaken (cn rfl (cn rfl (cn rfl (cn rfl (cn rfl (cn rfl zz)))))),H⟩
        ·replace H:=H.2 hb;exact cw_skip (nx_to fun a ha=>⟨ha.weaken (cn rfl (cn rfl (cn rfl (cn rfl (cn rfl (cn rfl zz)))))),H⟩)
       ·refine cw_region (mv rfl ?_);rcases tf b3 with hb|hb
        ·replace H:=H.1 hb;refine sv rfl rfl (fun a ha=>o_bt (x_move (ha.ev rfl)) hb) (mvg rfl rfl rfl (mvg rfl rfl rfl ?_));obtain⟨h7,h8,a3,e3,H⟩:=H;refine ixg rfl rfl rfl rfl (i_index TF.elem_sl_arbiterlaw13_Said TF.size_arbiterlaw13_Said e3 h7 h8) (fag rfl rfl rfl (TF.fld_arbiterlaw13_Said_0 _ _) ?_);obtain⟨b5,h9,H⟩:=H;exact ldg rfl rfl rfl (i_load1 TF.agg_bool h9) (pt rfl rfl (sl_nil (nx_to fun a ha=>⟨⟨b5,ha.weaken (cn rfl (cn rfl (cn rfl (cn rfl (cn rfl (cn rfl (cn rfl zz))))))),H⟩,rfl⟩)))
        ·replace H:=H.2 hb;exact sv rfl rfl (fun a ha=>o_bf (x_move (ha.ev rfl)) hb) (sk rfl rfl rfl rfl (sk rfl rfl rfl rfl (sk rfl rfl rfl rfl (sk rfl rfl rfl rfl (sk rfl rfl rfl rfl (pf rfl rfl (sl_nil (nx_to fun a ha=>⟨⟨false,ha.weaken (cn rfl (cn rfl (cn rfl (cn rfl (cn rfl (cn rfl (cn rfl zz))))))),H⟩,rfl⟩))))))))
   ·replace H:=H.2 hb;exact cw_exit (nx_exit_then (nx_exit_then (nx_exit_hit (nc (kp 9 rfl zz) (cw_seq (cw_region (mv rfl (ag rfl (sl_nil (nc (kp 8 rfl zz) (cw_ret (nx_body_ret (res1 rfl rfl) ⟨_,rfl,_,rfl,H⟩))))))))))))
 ·refine cw_region (mv rfl (sl_call rfl rfl (wanted_none rfl) (fun a ha=>x_call0 (ha.ev rfl) (ha.evs rfl) FF.callable_arbiterlaw13_no) H ?_));rintro _ w2 ⟨x2,rfl,H⟩;refine bo rfl rfl o_neq ?_;rcases Classical.em (x2≠0) with hb|hb
  ·replace H:=H.1 hb;exact sv rfl rfl (fun a ha=>o_t (x_move (ha.ev rfl)) hb) (sk rfl rfl rfl rfl (sk rfl rfl rfl rfl (pt rfl rfl (sl_nil (nx_to fun a ha=>⟨true,ha.weaken (cn rfl (cn rfl (cn rfl (cn rfl (cn rfl zz))))),H⟩)))))
  ·replace H:=H.2 hb;exact sv rfl rfl (fun a ha=>o_f (x_move (ha.ev rfl)) hb) (mvg rfl rfl rfl (bog rfl rfl rfl rfl (o_eql_nil TF.ptr_p_euf_Graph) (pf rfl rfl (sl_nil (nx_to fun a ha=>⟨(decide (q2=none)),ha.weaken (cn rfl (cn rfl (cn rfl (cn rfl (cn rfl zz))))),H⟩)))))
end Go.Proofs.YtbmbhfghpidggaaDoor
namespace Go.Proofs.YtbmbhfghpidggaaDoor
set_option linter.unusedVariables false
set_option linter.unusedSimpArgs false
open Wk
section
variable {w:World}
end
def toldS (l:List SaidR) (tags:List Int) (every:Bool):List SaidR:=l.filter fun s=>every||decide (s.tag∈tags)
theorem toldS_len (l:List SaidR) (tags:List Int) (every:Bool):(toldS l tags every).length≤l.length:=List.length_filter_le _ _
theorem toldS_snoc {l:List SaidR} {tags:List Int} {every:Bool} {i:Nat} {s:SaidR} (h:l[i]? =some s):toldS (l.take (i+1)) tags every=toldS (l.take i) tags every++(if every||decide (s.tag∈tags) then [s] else []):=by
 unfold toldS
 rw[take_succ_of h,List.filter_append]
 congr 1
 cases h':(every||decide (s.tag∈tags))<;>simp[List.filter,h']
section
variable {W0 B0:Nat} {w:World} {fs:List Flat} {l:List SaidR} {tags:List Int} {n2 n3:Nat} {A1 A2 A3:Option Addr}
theorem told_is {c1 c2 c3:Nat} {b1:Bool} (hx:∀w',Ext w w'→Sl cFlat w' A1 fs.length fs) (hL:Sl cSaid w A2 n2 l) (hT:Ints w A3 n3 tags) (hB:B0≤w.heap.size) (tab:Tab10 B0 w) (ok:NodesOk W0 fs) (val:∀s∈l,In2 fs s.a s.b) (s2:n2≤1048575) (s3:n3≤1099511627776):
  Calls P F.arbiterlaw13_told #[.slice A1 fs.length c1,.slice A2 n2 c2,.slice A3 n3 c3,.bool b1] w (Ret fun v w'=>(¬Sound fs∧v= .pointer none∧Ext w w')∨(Sound fs∧∃p H,v= .pointer (some p)∧Live W0 B0 w' p fs H (toldS l tags b1) []∧Adv (fun _=>False) w H w')):=by
 refine Ret.mono (ok_arbiterlaw13_told A1 fs.length c1 A2 n2 c2 A3 n3 c3 b1 (fun q w'=>(¬Sound fs∧q=none∧Ext w w')∨(Sound fs∧∃p H,q=some p∧Live W0 B0 w' p fs H (toldS l tags b1) []∧Adv (fun _=>False) w H w')) w ?_) (by
  rintro _ w' ⟨q,rfl,⟨h1,rfl,h2⟩|⟨h1,p,H,rfl,h2⟩⟩
  ·exact .inl ⟨h1,rfl,h2⟩
  ·exact .inr ⟨h1,p,H,rfl,h2⟩)
 generalize hKd:(fun(q:Option Addr) w'=>(¬Sound fs∧q=none∧Ext w w')∨(Sound fs∧∃p H,q=some p∧Live W0 B0 w' p fs H (toldS l tags b1) []∧Adv (fun _=>False) w H w'))=K
 have sm2:Sm n2:=by unfold Sm;omega
 have hn:=hL.1
 have ht:=hT.1
 unfold vc_arbiterlaw13_told
 refine(live_new hx hB tab ok).mono ?_
 rintro _ w1 ⟨v,rfl,⟨h1,rfl,h3⟩|⟨hs,p,H,rfl,hL0,hA⟩⟩
 ·refine⟨_,rfl,_,_,rfl,(law_no_is 80).mono ?_⟩
  rintro _ w2 ⟨_,rfl,rfl,rfl⟩
  refine⟨_,rfl,_,rfl,fun _=>⟨fun _=> ?_,fun q=>(by cases q)⟩,fun q=>absurd (show(80:Int)≠0 by decide) q⟩
  rw[←hKd]
  exact .inl ⟨h1,rfl,h3⟩
 refine⟨_,rfl,_,_,rfl,(law_no_is 0).mono ?_⟩
 rintro _ w2 ⟨_,rfl,rfl,rfl⟩
 refine⟨_,rfl,_,rfl,fun q=>absurd rfl q,fun _=>⟨fun q=>absurd (of_decide_eq_true q) (by simp),fun _=> ?_⟩⟩
 generalize hI:(fun(k:Nat) (i:Int) (w':World)=>k=n2-i.toNat∧0≤i∧i≤n2∧∃H',Live W0 B0 w' p fs H' (toldS (l.take i.toNat) tags b1) []∧Adv (fun _=>False) w H' w')=I
 refine⟨I,⟨n2,by rw[←hI];exact⟨rfl,by omega,by omega,H,hL0,hA⟩⟩,?_⟩
 intro k i w4 hi
 rw[←hI] at hi
 obtain⟨rfl,i0,i1,H4,L4,A4⟩:=hi
 refine⟨fun hlt=> ?b,fun hge=> ?a⟩
 case a=>
  have hi:i.toNat=l.length:=by omega
  rw[hi,List.take_length] at L4
  rw[←hKd]
  exact .inr ⟨hs,p,H4,rfl,L4,A4⟩
 obtain⟨s,ad0,hsi,_,_⟩:=hL.said i0 hlt
 have hin:=val s (List.mem_of_getElem? hsi)
 have rd:∀w',Ext w w'→∃ad,A2=some ad∧w'.cell? ((ad.add (i.toNat*4)).add 0)=some (.bool s.not)∧w'.cell? ((ad.add (i.toNat*4)).add 1)=some (.int .i64 s.a)∧w'.cell? ((ad.add (i.toNat*4)).add 2)=some (.int .i64 s.b)∧w'.cell? ((ad.add (i.toNat*4)).add 3)=some (.int .i64 s.tag):=by
  intro w' E
  obtain⟨s',ad,hsi',hA,hc⟩:=(hL.ext E).said i0 hlt
  rw[hsi] at hsi'
  cases hsi'
  exact⟨ad,hA,hc 0 _ rfl,hc 1 _ rfl,hc 2 _ rfl,hc 3 _ rfl⟩
 have hlen:(toldS (l.take i.toNat) tags b1).length≤i.toNat:=Nat.le_trans (toldS_len _ _ _) (by rw[List.length_take];omega)
 have fin:∀w' H',Live W0 B0 w' p fs H' (toldS (l.take i.toNat) tags b1++(if b1||decide (s.tag∈tags) then [s] else [])) []→Adv (fun _=>False) w H' w'→vc_arbiterlaw13_told_J5 (n2-i.toNat) I i w':=by
  intro w' H' L' adv'
  refine⟨n2-(i+1).toNat,by omega,?_⟩
  rw[step_le i0 hlt sm2,←hI]
  refine⟨rfl,by omega,by omega,H',?_,adv'⟩
  rw[show(i+1).toNat=i.toNat+1 by omega,toldS_snoc hsi]
  exact L'
 refine⟨fun k b t w'=>k=n3-t.toNat∧0≤t∧t≤n3∧Ext w4 w'∧(b=true↔(b1=true∨∃q:Nat,(q:Int)<t∧tags[q]? =some s.tag)),⟨n3,by simp,by omega,by omega,Ext.refl w4,⟨fun q=> .inl q,fun q=>q.elim id fun⟨q,h,_⟩=>by omega⟩⟩,?_⟩
 rintro k b t w5 ⟨rfl,t0,t1,E5,hb⟩
 have E5':=A4.keep.trans E5
 have A5:Adv (fun _=>False) w H4 w5:=A4.trans (Adv.of_ext E5)
 have L5:=L4.stay E5
 refine⟨fun tlt=> ?_,fun tge=> ?_⟩
 ·obtain⟨x,a,hxt,hA3,hc⟩:=(hT.ext E5').int t0 tlt
  obtain⟨ad,hA2,_,_,_,k3⟩:=rd w5 E5'
  have go:∀(b':Bool) w',Drawn w5 w'→(b'=true↔(b=true∨x=s.tag))→vc_arbiterlaw13_told_J1 (n3-t.toNat) (fun k b t w'=>k=n3-t.toNat∧0≤t∧t≤n3∧Ext w4 w'∧(b=true↔(b1=true∨∃q:Nat,(q:Int)<t∧tags[q]? =some s.tag))) t b' w':=by
   intro b' w' hd hb'
   refine⟨n3-(t+1).toNat,by omega,?_⟩
   rw[step_le t0 tlt (by unfold Sm;omega)]
   refine⟨rfl,by omega,by omega,E5.drawn hd,hb'.trans ⟨?_,?_⟩⟩
   ·rintro(h|h)
    ·exact(hb.1 h).imp id fun⟨q,h1,h2⟩=>⟨q,by omega,h2⟩
    ·exact .inr ⟨t.toNat,by omega,by rw[hxt,h]⟩
   ·rintro(h|⟨q,h1,h2⟩)
    ·exact .inl (hb.2 (.inl h))
    ·rcases Int.lt_or_eq_of_le (show(q:Int)≤t by omega) with hq|hq
     ·exact .inl (hb.2 (.inr ⟨q,hq,h2⟩))
     ·rw[show q=t.toNat by omega,hxt] at h2
      exact .inr (Option.some.inj h2)
  refine⟨fun hb3 w6 hw6=>go true w6 hw6 ⟨fun _=> .inl hb3,fun _=>rfl⟩,fun hb3=>⟨t0,tlt,a,hA3,x,hc,i0,hlt,ad,hA2,_,k3,fun w8 hw8=>go _ w8 hw8 ?_⟩⟩
  rw[decide_eq_true_iff]
  exact⟨fun q=> .inr q,fun q=>q.elim (fun q=>by rw[hb3] at q;cases q) id⟩
 have hb':b=(b1||decide (s.tag∈tags)):=by
  have:(b1||decide (s.tag∈tags))=true↔(b1=true∨∃q:Nat,(q:Int)<t∧tags[q]? =some s.tag):=by
   rw[Bool.or_eq_true,decide_eq_true_iff]
   refine⟨fun h=>h.imp id fun h=> ?_,fun h=>h.imp id fun⟨q,_,h⟩=>List.mem_of_getElem? h⟩
   obtain⟨q,hq⟩:=List.mem_iff_getElem?.1 h
   have:=(List.getElem?_eq_some_iff.1 hq).1
   exact⟨q,by omega,hq⟩
  cases b with
  |true=>exact(this.2 (hb.1 rfl)).symm
  |false=>
   cases h:(b1||decide (s.tag∈tags)) with
   |false=>rfl
   |true=>exact absurd (hb.2 (this.1 h)) (by simp)
 rw[←hb'] at fin
 obtain⟨ad,hA2,k0,k1,k2,k3⟩:=rd w5 E5'
 have J4:∀w' H',Adv (fun _=>False) w H' w'→(b=true→s.not=false→Live W0 B0 w' p fs H' (toldS (l.take i.toNat) tags b1) [])→(b=true→s.not=true→Live W0 B0 w' p fs H' (toldS (l.take i.toNat) tags b1++[s]) [])→(b=false→Live W0 B0 w' p fs H' (toldS (l.take i.toNat) tags b1) [])→vc_arbiterlaw13_told_J4 b i n2 A2 (some p) (vc_arbiterlaw13_told_J5 (n2-i.toNat) I i) w':=by
  intro w' H' A' m1 m2 m3
  obtain⟨ad,hA2,k0,k1,k2,k3⟩:=rd w' A'.keep
  refine⟨fun hb1=>⟨i0,hlt,ad,hA2,_,k0,⟨fun hn=> ?_,fun hn=>fin w' H' ?_ A'⟩⟩,fun hb1=>⟨fun q=>(by cases q),fun _=>fin w' H' ?_ A'⟩⟩
  ·have hnot:s.not=false:=by cases h:s.not<;>rw[h] at hn<;>first|rfl|cases hn
   have L':=m1 hb1 hnot
   refine⟨i0,hlt,ad,hA2,_,k1,i0,hlt,ad,hA2,_,k2,i0,hlt,ad,hA2,_,k3,fun w15 hw15=> ?_⟩
   refine((L'.stay (Ext.of_drawn hw15)).equal (a:=s.a) (b:=s.b) (t:=s.tag) (by omega)).mono ?_
   rintro _ w14 ⟨_,rfl,e,rfl,H14,adv14,⟨h1,_⟩|⟨_,_,L14⟩⟩
   ·exact absurd hin h1
   refine⟨_,rfl,e,rfl,fun w17 hw17=>fin w17 H14 ?_ (((A'.trans (Adv.of_drawn hw15)).trans adv14).trans (Adv.of_drawn hw17))⟩
   rw[if_pos hb1]
   have:(⟨s.a,s.b,s.tag,false⟩:SaidR)=s:=by rw[←hnot]
   rw[←this]
   exact L14.stay (Ext.of_drawn hw17)
  ·have hnot:s.not=true:=by cases h:s.not<;>rw[h] at hn<;>first|rfl|cases hn
   rw[if_pos hb1]
   exact m2 hb1 hnot
  ·rw[if_neg (by rw[hb1];decide),List.append_nil]
   exact m3 hb1
 have quiet:s.not=false∨b=false→vc_arbiterlaw13_told_J4 b i n2 A2 (some p) (vc_arbiterlaw13_told_J5 (n2-i.toNat) I i) w5:=fun hq=>J4 w5 H4 A5 (fun _ _=>L5) (fun h1 h2=>hq.elim (fun q=>by rw[h2] at q;cases q) (fun q=>by rw[h1] at q;cases q)) (fun _=>L5)
 refine⟨fun hb1=>⟨i0,hlt,ad,hA2,_,k0,⟨fun hn=> ?_,fun hn=>quiet (.inl hn)⟩⟩,fun hb1=>⟨fun q=>(by cases q),fun _=>quiet (.inr hb1)⟩⟩
 refine⟨i0,hlt,ad,hA2,_,k1,i0,hlt,ad,hA2,_,k2,i0,hlt,ad,hA2,_,k3,fun w10 hw10=> ?_⟩
 refine((L5.stay (Ext.of_drawn hw10)).differ (a:=s.a) (b:=s.b) (t:=s.tag) (by omega)).mono ?_
 rintro _ w9 ⟨_,rfl,e,rfl,H9,adv9,⟨h1,_⟩|⟨_,_,L9⟩⟩
 ·exact absurd hin h1
 refine⟨_,rfl,e,rfl,fun w12 hw12=>J4 w12 H9 (((A5.trans (Adv.of_drawn hw10)).trans adv9).trans (Adv.of_drawn hw12)) (fun _ q=>by rw[hn] at q;cases q) (fun _ _=> ?_) (fun q=>by rw[hb1] at q;cases q)⟩
 have:(⟨s.a,s.b,s.tag,true⟩:SaidR)=s:=by rw[←hn]
 rw[←this]
 exact L9.stay (Ext.of_drawn hw12)
end
end Go.Proofs.YtbmbhfghpidggaaDoor
namespace Go.Proofs.YtbmbhfghpidggaaDoor
set_option linter.unusedVariables false
set_option linter.unusedSimpArgs false
open Wk
def kidIs (links:List Lnk) (k x y:Int):Prop:=∃q,links[k.toNat]? =some q∧q.a=x∧q.b=y
def Rule (nodes:List Flat) (given links:List Lnk) (l:Lnk):Prop:=
 (l.kind=1∧l.kids=[]∧∃g∈given,g.kind=1∧g.a=l.a∧g.b=l.b∧g.tag=l.tag)∨
 (l.tag=0∧((l.kind=2∧l.kids=[]∧l.a=l.b)∨
  (l.kind=3∧∃k,l.kids=[k]∧kidIs links k l.b l.a)∨
  (l.kind=4∧∃k m,l.kids=[k,m]∧∃x,kidIs links k l.a x∧kidIs links m x l.b)∨
  (l.kind=5∧∃m n,nodes[l.a.toNat]? =some m∧nodes[l.b.toNat]? =some n∧0≤m.fn∧m.fn=n.fn∧m.args.length=n.args.length∧l.kids.length=m.args.length∧
   ∀(i:Nat) k x y,l.kids[i]? =some k→m.args[i]? =some x→n.args[i]? =some y→kidIs links k x y)))
def Fol (nodes:List Flat) (given links:List Lnk) (at_:Int):Prop:=
 ∃l,links[at_.toNat]? =some l∧0≤l.a∧0≤l.b∧l.a<nodes.length∧l.b<nodes.length∧(∀k∈l.kids,0≤k∧k<at_)∧Rule nodes given links l
theorem rule1 {nodes:List Flat} {given links:List Lnk} {l:Lnk} (h:l.kind=1):Rule nodes given links l↔l.kids=[]∧∃g∈given,g.kind=1∧g.a=l.a∧g.b=l.b∧g.tag=l.tag:=by
 refine⟨fun hr=> ?_,fun hr=> .inl ⟨h,hr⟩⟩
 rcases hr with hr|⟨_,hr|hr|hr|hr⟩
 ·exact hr.2
 all_goals exact absurd hr.1 (by omega)
theorem rule_tag {nodes:List Flat} {given links:List Lnk} {l:Lnk} (h:l.kind≠1) (ht:l.tag≠0):¬Rule nodes given links l:=by
 intro hr
 rcases hr with hr|hr
 ·exact h hr.1
 ·exact ht hr.1
theorem rule2 {nodes:List Flat} {given links:List Lnk} {l:Lnk} (h:l.kind=2) (ht:l.tag=0):Rule nodes given links l↔l.kids=[]∧l.a=l.b:=by
 refine⟨fun hr=> ?_,fun hr=> .inr ⟨ht,.inl ⟨h,hr⟩⟩⟩
 rcases hr with hr|⟨_,hr|hr|hr|hr⟩
 ·exact absurd hr.1 (by omega)
 ·exact hr.2
 all_goals exact absurd hr.1 (by omega)
theorem rule3 {nodes:List Flat} {given links:List Lnk} {l:Lnk} (h:l.kind=3) (ht:l.tag=0):Rule nodes given links l↔∃k,l.kids=[k]∧kidIs links k l.b l.a:=by
 refine⟨fun hr=> ?_,fun hr=> .inr ⟨ht,.inr (.inl ⟨h,hr⟩)⟩⟩
 rcases hr with hr|⟨_,hr|hr|hr|hr⟩
 ·exact absurd hr.1 (by omega)
 ·exact absurd hr.1 (by omega)
 ·exact hr.2
 all_goals exact absurd hr.1 (by omega)
theorem rule4 {nodes:List Flat} {given links:List Lnk} {l:Lnk} (h:l.kind=4) (ht:l.tag=0):Rule nodes given links l↔∃k m,l.kids=[k,m]∧∃x,kidIs links k l.a x∧kidIs links m x l.b:=by
 refine⟨fun hr=> ?_,fun hr=> .inr ⟨ht,.inr (.inr (.inl ⟨h,hr⟩))⟩⟩
 rcases hr with hr|⟨_,hr|hr|hr|hr⟩
 ·exact absurd hr.1 (by omega)
 ·exact absurd hr.1 (by omega)
 ·exact absurd hr.1 (by omega)
 ·exact hr.2
 ·exact absurd hr.1 (by omega)
def Cong (links:List Lnk) (m n:Flat) (kids:List Int):Prop:=
 0≤m.fn∧m.fn=n.fn∧m.args.length=n.args.length∧kids.length=m.args.length∧∀(i:Nat) k x y,kids[i]? =some k→m.args[i]? =some x→n.args[i]? =some y→kidIs links k x y
theorem rule5 {nodes:List Flat} {given links:List Lnk} {l:Lnk} {m n:Flat} (h:l.kind=5) (ht:l.tag=0) (hm:nodes[l.a.toNat]? =some m) (hn:nodes[l.b.toNat]? =some n):Rule nodes given links l↔Cong links m n l.kids:=by
 refine⟨fun hr=> ?_,fun hr=> .inr ⟨ht,.inr (.inr (.inr ⟨h,m,n,hm,hn,hr⟩))⟩⟩
 rcases hr with hr|⟨_,hr|hr|hr|hr⟩
 ·exact absurd hr.1 (by omega)
 ·exact absurd hr.1 (by omega)
 ·exact absurd hr.1 (by omega)
 ·exact absurd hr.1 (by omega)
 ·obtain⟨_,m',n',hm',hn',hr⟩:=hr
  rw[hm] at hm'
  rw[hn] at hn'
  cases hm'
  cases hn'
  exact hr
theorem rule_else {nodes:List Flat} {given links:List Lnk} {l:Lnk} (h1:l.kind≠1) (h2:l.kind≠2) (h3:l.kind≠3) (h4:l.kind≠4) (h5:l.kind≠5):¬Rule nodes given links l:=by
 intro hr
 rcases hr with hr|⟨_,hr|hr|hr|hr⟩
 ·exact h1 hr.1
 ·exact h2 hr.1
 ·exact h3 hr.1
 ·exact h4 hr.1
 ·exact h5 hr.1
def Base (nodes:List Flat) (l:Lnk) (at_:Int):Prop:=(0≤l.a∧0≤l.b∧l.a<nodes.length∧l.b<nodes.length)∧∀k∈l.kids,0≤k∧k<at_
theorem fol_iff {nodes:List Flat} {given links:List Lnk} {l:Lnk} {at_:Int} (h:links[at_.toNat]? =some l):Fol nodes given links at_↔Base nodes l at_∧Rule nodes given links l:=by
 refine⟨?_,fun⟨⟨⟨h1,h2,h3,h4⟩,h5⟩,h6⟩=>⟨l,h,h1,h2,h3,h4,h5,h6⟩⟩
 rintro⟨l',hl',h1,h2,h3,h4,h5,h6⟩
 rw[h] at hl'
 cases hl'
 exact⟨⟨⟨h1,h2,h3,h4⟩,h5⟩,h6⟩
def AuditIs (nodes:List Flat) (given links:List Lnk) (r e:Int):Prop:=
 (¬Sound nodes∧r=0∧e=80)∨
 (Sound nodes∧e=0∧((r= -1∧∀i:Nat,i<links.length→Fol nodes given links i)∨(0≤r∧r<links.length∧¬Fol nodes given links r∧∀i:Nat,(i:Int)<r→Fol nodes given links i)))
abbrev FolK (nodes:List Flat) (given links:List Lnk) (at_:Int) (w0:World):Bool→World→Prop:=fun b w'=>(b=true↔Fol nodes given links at_)∧Ext w0 w'
end Go.Proofs.YtbmbhfghpidggaaDoor
namespace Go.Proofs.YtbmbhfghpidggaaDoor
set_option linter.unusedVariables false
set_option linter.unusedSimpArgs false
open Wk
def givenL (st:List SaidR):List Lnk:=(st.filter fun s=> !s.not).map fun s=>⟨1,s.a,s.b,s.tag,[]⟩
theorem givenL_snoc {st:List SaidR} {i:Nat} {s:SaidR} (h:st[i]? =some s):givenL (st.take (i+1))=givenL (st.take i)++(if s.not then [] else [⟨1,s.a,s.b,s.tag,[]⟩]):=by
 unfold givenL
 rw[take_succ_of h,List.filter_append,List.map_append]
 congr 1
 cases hn:s.not<;>simp[hn]
theorem givenL_len (st:List SaidR):(givenL st).length≤st.length:=by
 unfold givenL
 rw[List.length_map]
 exact List.length_filter_le _ _
theorem allOk_fol {fs:List Flat} {st:List SaidR} {ls:List Lnk} (h:AllOk fs st ls):∀i:Nat,i<ls.length→Fol fs (givenL st) ls i:=by
 intro i hi
 have k:=h i _ (List.getElem?_eq_getElem hi)
 have node:∀z:Int,Vn fs.length z→fs[z.toNat]? =some (nodeOf fs z):=fun z hz=>by
  have hz':z.toNat<fs.length:=by have:=hz.1;have:=hz.2;omega
  rw[nodeOf_at (List.getElem?_eq_getElem hz')]
  exact List.getElem?_eq_getElem hz'
 have kid:∀{k x y:Int},LAt ls k x y→kidIs ls k x y:=fun⟨_,q,h⟩=>⟨q,h⟩
 refine⟨ls[i],by rw[Int.toNat_natCast];exact List.getElem?_eq_getElem hi,k.va.1,k.vb.1,k.va.2,k.vb.2,fun q hq=>k.kids q hq,?_⟩
 rcases k.rule with⟨r1,r2,s,hs,r3,r4,r5,r6⟩|⟨r1,r2,r3,r4⟩|⟨r1,r2,q,r3,r4⟩|⟨r1,r2,q,m,x,r3,r4,r5⟩|⟨r1,r2,r3,r4,r5,r6,r7⟩
 ·refine .inl ⟨r1,r2,⟨1,s.a,s.b,s.tag,[]⟩,?_,rfl,r4,r5,r6⟩
  exact List.mem_map.2 ⟨s,List.mem_filter.2 ⟨hs,by rw[r3];rfl⟩,rfl⟩
 ·exact .inr ⟨r2,.inl ⟨r1,r3,r4⟩⟩
 ·exact .inr ⟨r2,.inr (.inl ⟨r1,q,r3,kid r4⟩)⟩
 ·exact .inr ⟨r2,.inr (.inr (.inl ⟨r1,q,m,r3,x,kid r4,kid r5⟩))⟩
 ·exact .inr ⟨r2,.inr (.inr (.inr ⟨r1,_,_,node _ k.va,node _ k.vb,r3,r4,r5,r6,fun j q x y a b c=>kid (r7 j q x y a b c)⟩))⟩
end Go.Proofs.YtbmbhfghpidggaaDoor
namespace Go.Proofs.YtbmbhfghpidggaaDoor
set_option linter.unusedVariables false
set_option linter.unusedSimpArgs false
open Wk
def tagsOf (ls:List Lnk):List Int:=(ls.filter fun l=>decide (l.kind=1)).map (·.tag)
theorem tagsOf_snoc {ls:List Lnk} {i:Nat} {l:Lnk} (h:ls[i]? =some l):tagsOf (ls.take (i+1))=tagsOf (ls.take i)++(if l.kind=1 then [l.tag] else []):=by
 unfold tagsOf
 rw[take_succ_of h,List.filter_append,List.map_append]
 congr 1
 by_cases hk:l.kind=1<;>simp[hk]
theorem tagsOf_len (ls:List Lnk):(tagsOf ls).length≤ls.length:=by
 unfold tagsOf
 rw[List.length_map]
 exact List.length_filter_le _ _
theorem allOk_tags {fs:List Flat} {st:List SaidR} {ls:List Lnk} (h:AllOk fs st ls):∀(n i:Nat) l,i<n→ls[i]? =some l→SameBy fs (toldS st (tagsOf ls) false) l.a l.b
 |0,_,_,hn,_=>absurd hn (Nat.not_lt_zero _)
 |n+1,i,l,hn,hl=>by
  have k:=h i l hl
  have kid:∀j∈l.kids,∀x y,LAt ls j x y→SameBy fs (toldS st (tagsOf ls) false) x y:=by
   rintro j hj x y ⟨h0,q,hq,rfl,rfl⟩
   have hj2:=k.kids j hj
   exact allOk_tags h n j.toNat q (by omega) hq
  rcases k.rule with⟨r1,r2,s,hs,r3,r4,r5,r6⟩|⟨r1,r2,r3,r4⟩|⟨r1,r2,q,r3,r4⟩|⟨r1,r2,q,m,x,r3,r4,r5⟩|⟨r1,r2,r3,r4,r5,r6,r7⟩
  ·refine .base k.va k.vb ⟨s,List.mem_filter.2 ⟨hs,?_⟩,r3,trivial,r4,r5⟩
   rw[Bool.or_eq_true,decide_eq_true_iff]
   right
   rw[r6]
   exact List.mem_map.2 ⟨l,List.mem_filter.2 ⟨List.mem_of_getElem? hl,decide_eq_true r1⟩,rfl⟩
  ·rw[r4]
   exact .refl k.vb
  ·exact .symm (kid q (by rw[r3];simp) _ _ r4)
  ·exact .trans (kid q (by rw[r3];simp) _ _ r4) (kid m (by rw[r3];simp) _ _ r5)
  ·refine .cong k.va k.vb r3 r4 r5 fun j a b ha hb=> ?_
   have hj:=(List.getElem?_eq_some_iff.1 ha).1
   obtain⟨q,hq⟩:∃q,l.kids[j]? =some q:=⟨_,List.getElem?_eq_getElem (by omega)⟩
   exact kid q (List.mem_of_getElem? hq) a b (r7 j q a b hq ha hb)
end Go.Proofs.YtbmbhfghpidggaaDoor
namespace Go.Proofs.YtbmbhfghpidggaaDoor
set_option linter.unusedVariables false
set_option linter.unusedSimpArgs false
set_option maxHeartbeats 2000000
set_option maxRecDepth 20000
open Wk
def vc_euf_follows_1_J1 (K:Bool→World→Prop) (w:World) (b2:Bool):Prop:=
 K b2 w
def vc_euf_follows_1 (x1:Int) (p1:Addr) (K:Bool→World→Prop) (w:World):Prop:=
 (x1<0→((vc_euf_follows_1_J1 K w) true))∧(¬(x1<0)→(∃x2,w.cell? p1=some (.int .i64 x2)∧(vc_euf_follows_1_J1 K w) (decide (x2≤x1))))
theorem ok_euf_follows_1 (x1:Int) (p1:Addr) (K:Bool→World→Prop) (w:World) (H:vc_euf_follows_1 x1 p1 K w):Calls P F.euf_follows_1 #[(.int .i64 x1),(.pointer (some p1))] w (Ret fun v w'=>∃b1,v=(.bool b1)∧K b1 w'):=by
 unfold vc_euf_follows_1 at H;refine calls_of (P:=P) Tryd.func52 rfl [(0,(.int .i64 x1)),(1,(.pointer (some p1)))] 11 rfl rfl (aa rfl (aa rfl az)) (cw_seq (cw_region (ag rfl (sl_nil (nc (kp 0 rfl (kp 1 rfl zz)) ?_)))));refine cw_join_still (fun a=>∃b2,Ok 11 [(3,(.bool b2))] a∧vc_euf_follows_1_J1 K w b2) ?_ ?_
 ·rintro a ⟨b2,ha,H⟩;unfold vc_euf_follows_1_J1 at H;refine(?_:CW _ _ _ 11 [(3,(.bool b2))] _) a ha;exact cw_ret (nx_body_ret (res1 rfl rfl) ⟨_,rfl,_,rfl,H⟩)
 ·refine cw_region (mv rfl (bo rfl rfl o_lss ?_));rcases Classical.em (x1<0) with hb|hb
  ·replace H:=H.1 hb;exact sv rfl rfl (fun a ha=>o_t (x_move (ha.ev rfl)) hb) (sk rfl rfl rfl rfl (sk rfl rfl rfl rfl (sk rfl rfl rfl rfl (pt rfl rfl (ag rfl (sl_nil (nx_to fun a ha=>⟨⟨true,ha.weaken (cn rfl zz),H⟩,rfl⟩)))))))
  ·replace H:=H.2 hb;refine sv rfl rfl (fun a ha=>o_f (x_move (ha.ev rfl)) hb) (mvg rfl rfl rfl ?_);obtain⟨x2,h1,H⟩:=H;exact ldg rfl rfl rfl (i_load1 TF.agg_int h1) (bog rfl rfl rfl rfl o_geq (pf rfl rfl (ag rfl (sl_nil (nx_to fun a ha=>⟨⟨(decide (x2≤x1)),ha.weaken (cn rfl zz),H⟩,rfl⟩)))))
def vc_euf_follows_2_J1 (K:Bool→World→Prop) (b2:Bool) (w2:World):Prop:=
 K b2 w2
def vc_euf_follows_2 (x1:Int) (x2:Int) (x3:Int) (p1:Addr) (p2:Addr) (K:Bool→World→Prop) (w:World):Prop:=
 ∃A1 n1 c1,w.cell? p1=some (.slice A1 n1 c1)∧∃A2 n2 c2,w.cell? (p2.add 4)=some (.slice A2 n2 c2)∧0≤x1∧x1<(n2:Int)∧∃a1,A2=some a1∧∃x4,w.cell? (a1.add (x1.toNat*1))=some (.int .i64 x4)∧0≤x4∧x4<(n1:Int)∧∃a2,A1=some a2∧∃x5,w.cell? ((a2.add (x4.toNat*5)).add 1)=some (.int .i64 x5)∧(x5=x2→(∃A3 n3 c3,w.cell? p1=some (.slice A3 n3 c3)∧∃A4 n4 c4,w.cell? (p2.add 4)=some (.slice A4 n4 c4)∧0≤x1∧x1<(n4:Int)∧∃a3,A4=some a3∧∃x6,w.cell? (a3.add (x1.toNat*1))=some (.int .i64 x6)∧0≤x6∧x6<(n3:Int)∧∃a4,A3=some a4∧∃x7,w.cell? ((a4.add (x6.toNat*5)).add 2)=some (.int .i64 x7)∧∀w1,Drawn w w1→((vc_euf_follows_2_J1 K) (decide (x7=x3)) w1)))∧(¬(x5=x2)→(∀w3,Drawn w w3→((vc_euf_follows_2_J1 K) false w3)))
theorem ok_euf_follows_2 (x1:Int) (x2:Int) (x3:Int) (p1:Addr) (p2:Addr) (K:Bool→World→Prop) (w:World) (H:vc_euf_follows_2 x1 x2 x3 p1 p2 K w):Calls P F.euf_follows_2 #[(.int .i64 x1),(.int .i64 x2),(.int .i64 x3),(.pointer (some p1)),(.pointer (some p2))] w (Ret fun v w'=>∃b1,v=(.bool b1)∧K b1 w'):=by
 unfold vc_euf_follows_2 at H;refine calls_of (P:=P) Tryd.func53 rfl [(0,(.int .i64 x1)),(1,(.int .i64 x2)),(2,(.int .i64 x3)),(3,(.pointer (some p1))),(4,(.pointer (some p2)))] 33 rfl rfl (aa rfl (aa rfl (aa rfl (aa rfl (aa rfl az))))) (cw_seq (cw_region (ag rfl (sl_nil (nc (kp 0 rfl (kp 1 rfl (kp 2 rfl (kp 3 rfl (kp 4 rfl zz))))) ?_)))));refine cw_join (fun a w=>∃b2,Ok 33 [(8,(.bool b2))] a∧vc_euf_follows_2_J1 K b2 w) ?_ ?_
 ·rintro a w2 ⟨b2,ha,H⟩;unfold vc_euf_follows_2_J1 at H;refine(?_:CW _ _ _ 33 [(8,(.bool b2))] _) a ha;exact cw_ret (nx_body_ret (res1 rfl rfl) ⟨_,rfl,_,rfl,H⟩)
 ·refine cw_any_drawn follows [0,1,2,3,4,5,6,7,8,9,10,11,12,13,14,15,16,17,18,19,20,21,22,23,24] [0,2,5,8,12,14,17,20] 25 rfl rfl (by kernel_rfl) (fun _ _ d _ _ h=>by cases d<;>exact h) (fun cm W D=> ?_);obtain⟨A1,n1,c1,h1,H⟩:=H;refine vl 0 cm rfl rfl (fun hw=>(i_load1 TF.agg_sl_api_Link ((hw.cell _).trans h1))) D W fun _ D W=>(pfa 1 cm rfl rfl (TF.fld_api_Link_4 _ _) D W fun _ D W=> ?_);obtain⟨A2,n2,c2,h2,H⟩:=H;refine vl 2 cm rfl rfl (fun hw=>(i_load1 TF.agg_sl_int ((hw.cell _).trans h2))) D W fun _ D W=>(pmv 3 cm rfl rfl D W fun _ D W=> ?_);obtain⟨h3,h4,a1,e1,H⟩:=H;refine pix 4 cm rfl rfl rfl (i_index TF.elem_sl_int TF.size_int e1 h3 h4) D W fun _ D W=> ?_;obtain⟨x4,h5,H⟩:=H;refine vl 5 cm rfl rfl (fun hw=>(i_load1 TF.agg_int ((hw.cell _).trans h5))) D W fun _ D W=> ?_;obtain⟨h6,h7,a2,e2,H⟩:=H;refine pix 6 cm rfl rfl rfl (i_index TF.elem_sl_api_Link TF.size_api_Link e2 h6 h7) D W fun _ D W=>(pfa 7 cm rfl rfl (TF.fld_api_Link_1 _ _) D W fun _ D W=> ?_);obtain⟨x5,h8,H⟩:=H;refine vl 8 cm rfl rfl (fun hw=>(i_load1 TF.agg_int ((hw.cell _).trans h8))) D W fun _ D W=>(pmv 9 cm rfl rfl D W fun _ D W=>(pv 10 cm rfl rfl rfl (fun w' a ha=>x_binOp (ha.ev rfl) (ha.ev rfl) o_eql) D W fun _ D W=> ?_));rcases Classical.em (x5=x2) with hb|hb
  ·replace H:=H.1 hb;refine pv 11 cm rfl rfl rfl (fun w' a ha=>o_t (x_move (ha.ev rfl)) hb) D W fun _ D W=> ?_;obtain⟨A3,n3,c3,h9,H⟩:=H;refine vlg 12 cm rfl rfl rfl rfl (fun hw=>(i_load1 TF.agg_sl_api_Link ((hw.cell _).trans h9))) D W fun _ D W=>(pfag 13 cm rfl rfl rfl rfl (TF.fld_api_Link_4 _ _) D W fun _ D W=> ?_);obtain⟨A4,n4,c4,h10,H⟩:=H;refine vlg 14 cm rfl rfl rfl rfl (fun hw=>(i_load1 TF.agg_sl_int ((hw.cell _).trans h10))) D W fun _ D W=>(pmvg 15 cm rfl rfl rfl rfl D W fun _ D W=> ?_);obtain⟨h11,h12,a3,e3,H⟩:=H;refine pixg 16 cm rfl rfl rfl rfl rfl (i_index TF.elem_sl_int TF.size_int e3 h11 h12) D W fun _ D W=> ?_;obtain⟨x6,h13,H⟩:=H;refine vlg 17 cm rfl rfl rfl rfl (fun hw=>(i_load1 TF.agg_int ((hw.cell _).trans h13))) D W fun _ D W=> ?_;obtain⟨h14,h15,a4,e4,H⟩:=H;refine pixg 18 cm rfl rfl rfl rfl rfl (i_index TF.elem_sl_api_Link TF.size_api_Link e4 h14 h15) D W fun _ D W=>(pfag 19 cm rfl rfl rfl rfl (TF.fld_api_Link_2 _ _) D W fun _ D W=> ?_);obtain⟨x7,h16,H⟩:=H;refine vlg 20 cm rfl rfl rfl rfl (fun hw=>(i_load1 TF.agg_int ((hw.cell _).trans h16))) D W fun _ D W=>(pmvgd 21 cm rfl rfl rfl rfl D fun _ D=>(pvgd 22 cm rfl rfl rfl rfl rfl (fun w' a ha=>x_binOp (ha.ev rfl) (ha.ev rfl) o_eql) D fun _ D=>(pptd 23 cm rfl rfl rfl D fun _ D=>(pagd 24 cm rfl rfl D fun _ D=>(an_end (by kernel_rfl) D ?_)))));intro w1 D;replace H:=H _ D;clear D cm;exact nx_to fun a ha=>⟨(decide (x7=x3)),ha.weaken (cn rfl zz),H⟩
  ·replace H:=H.2 hb;refine pv 11 cm rfl rfl rfl (fun w' a ha=>o_f (x_move (ha.ev rfl)) hb) D W fun _ D W=>(ps 12 cm rfl rfl rfl rfl rfl D W fun _ D W=>(ps 13 cm rfl rfl rfl rfl rfl D W fun _ D W=>(ps 14 cm rfl rfl rfl rfl rfl D W fun _ D W=>(ps 15 cm rfl rfl rfl rfl rfl D W fun _ D W=>(ps 16 cm rfl rfl rfl rfl rfl D W fun _ D W=>(ps 17 cm rfl rfl rfl rfl rfl D W fun _ D W=>(ps 18 cm rfl rfl rfl rfl rfl D W fun _ D W=>(ps 19 cm rfl rfl rfl rfl rfl D W fun _ D W=>(ps 20 cm rfl rfl rfl rfl rfl D W fun _ D W=>(psd 21 cm rfl rfl rfl rfl rfl D fun _ D=>(psd 22 cm rfl rfl rfl rfl rfl D fun _ D=>(ppfd 23 cm rfl rfl rfl D fun _ D=>(pagd 24 cm rfl rfl D fun _ D=>(an_end (by kernel_rfl) D ?_))))))))))))));intro w3 D;replace H:=H _ D;clear D cm;exact nx_to fun a ha=>⟨false,ha.weaken (cn rfl zz),H⟩
def vc_slices_IndexFunc_sl_int_int (A1:Option Addr) (n1 c1:Nat) (v1:Value) (K:Int→World→Prop) (w:World):Prop:=
 ∃I1:Nat→Int→World→Prop,(∃k1,I1 k1 0 w)∧∀k1 (x2:Int) (w1:World),I1 k1 x2 w1→((x2<(n1:Int)→(0≤x2∧x2<(n1:Int)∧∃a1,A1=some a1∧∃x3,w1.cell? (a1.add (x2.toNat*1))=some (.int .i64 x3)∧∃(f1:FuncId) (cs1:List Value),v1= .func (.func f1) #[] cs1.toArray∧callable P f1=true∧Calls P f1 ([(.int .i64 x3)]++cs1:List Value).toArray w1 (Ret fun v2 w2=>∃b1,v2=(.bool b1)∧(b1=true→(K x2 w2))∧(b1=false→(∃k2,k2<k1∧I1 k2 (IntKind.wrap .i64 (x2+1)) w2)))))∧(¬(x2<(n1:Int))→(K (-1) w1)))
theorem ok_slices_IndexFunc_sl_int_int (A1:Option Addr) (n1 c1:Nat) (v1:Value) (K:Int→World→Prop) (w:World) (H:vc_slices_IndexFunc_sl_int_int A1 n1 c1 v1 K w):Calls P F.slices_IndexFunc_sl_int_int #[(.slice A1 n1 c1),v1] w (Ret fun v w'=>∃x1,v=(.int .i64 x1)∧K x1 w'):=by
 unfold vc_slices_IndexFunc_sl_int_int at H;refine calls_of (P:=P) Tryd.func63 rfl [(0,(.slice A1 n1 c1)),(1,v1)] 19 rfl rfl (aa rfl (aa rfl az)) (cw_seq (cw_region (ag rfl (sl_nil (nc (kp 0 rfl (kp 1 rfl zz)) (cw_seq (cw_seq (cw_region (mv rfl (sv rfl rfl (fun a ha=>x_builtin (ha.evs rfl) (fun _=>l_slice TF.isslice_sl_int)) (mv rfl (sl_nil (nc (kp 0 rfl (kp 1 rfl (kp 7 rfl (kp 8 rfl zz)))) (cw_block ?_))))))))))))));obtain⟨I1,⟨k1,hi⟩,H⟩:=H;refine cw_loop (fun k1 a w'=>∃x2,Ok 19 [(0,(.slice A1 n1 c1)),(1,v1),(7,(.int .i64 (n1:Int))),(8,(.int .i64 x2))] a∧I1 k1 x2 w') (fun a ha=>⟨k1,0,ha.weaken (sub.cons rfl (sub.cons rfl (sub.cons rfl (sub.cons rfl (sub.nil))))),hi⟩) ?_;rintro k1 a w1 ⟨x2,ha,hI⟩;replace H:=H k1 x2 w1 hI;refine(?_:CW _ _ _ 19 [(0,(.slice A1 n1 c1)),(1,v1),(7,(.int .i64 (n1:Int))),(8,(.int .i64 x2))] _) a ha;refine cw_seq (cw_region (bo rfl rfl o_lss (sl_nil (nc (kp 0 rfl (kp 1 rfl (kp 7 rfl (kp 8 rfl (kp 9 rfl zz))))) (cw_seq ?_)))));refine cw_cond_p rfl (fun hb=> ?_) (fun hb=> ?_)
 ·replace H:=H.1 hb;refine cw_skip (nc (kp 0 rfl (kp 1 rfl (kp 7 rfl (kp 8 rfl zz)))) (cw_seq (cw_block (cw_seq (cw_region (mv rfl (ag rfl (sl_nil (nc (kp 0 rfl (kp 1 rfl (kp 5 rfl (kp 7 rfl (kp 8 rfl zz))))) (cw_seq (cw_region (mv rfl (mv rfl (mv rfl ?_))))))))))))));obtain⟨h1,h2,a1,e1,H⟩:=H;refine ix rfl rfl (i_index TF.elem_sl_int TF.size_int e1 h1 h2) ?_;obtain⟨x3,h3,H⟩:=H;refine ld rfl (i_load1 TF.agg_int h3) ?_;obtain⟨f1,cs1,e2,h4,H⟩:=H;refine sl_call rfl rfl (wanted_none rfl) (fun a ha=>x_callv ((ha.ev rfl).trans e2) (ha.evs rfl) h4) H ?_;rintro _ w2 ⟨b1,rfl,H⟩;refine sl_nil (nc (kp 0 rfl (kp 1 rfl (kp 5 rfl (kp 7 rfl (kp 8 rfl (kp 16 rfl zz)))))) ?_);refine cw_cond rfl (fun hb=> ?_) (fun hb=> ?_)
  ·replace H:=H.1 hb;exact cw_seq (cw_region (mv rfl (ag rfl (sl_nil (nc (kp 4 rfl zz) (cw_ret (nx_ret_block (nx_ret_then (nx_ret_then (nx_ret_block (nx_ret_then (nx_body_ret (res1 rfl rfl) ⟨_,rfl,_,rfl,H⟩))))))))))))
  ·replace H:=H.2 hb;refine cw_skip (nx_block (nc (kp 0 rfl (kp 1 rfl (kp 7 rfl (kp 8 rfl zz)))) (cw_region (bo rfl rfl o_add (mv rfl (sl_nil ?_))))));obtain⟨k2,hk,H⟩:=H;exact nx_to fun a ha=>⟨k2,hk,IntKind.wrap .i64 (x2+1),ha.weaken (cn rfl (cn rfl (cn rfl (cn rfl zz)))),H⟩
 ·replace H:=H.2 hb;exact cw_exit (nx_exit_then (nx_exit_then (nx_exit_hit (nc zz (cw_seq (cw_region (ag rfl (sl_nil (nc (kp 4 rfl zz) (cw_ret (nx_body_ret (res1 rfl rfl) ⟨_,rfl,_,rfl,H⟩)))))))))))
def vc_slices_IndexFunc_sl_api_Link_api_Link (A1:Option Addr) (n1 c1:Nat) (v1:Value) (K:Int→World→Prop) (w:World):Prop:=
 ∃I1:Nat→Int→World→Prop,(∃k1,I1 k1 0 w)∧∀k1 (x2:Int) (w1:World),I1 k1 x2 w1→((x2<(n1:Int)→(0≤x2∧x2<(n1:Int)∧∃a1,A1=some a1∧∃x3,∃x4,∃x5,∃x6,∃A2 n2 c2,CellsAt w1 (a1.add (x2.toNat*5)) [(.int .i64 x3),(.int .i64 x4),(.int .i64 x5),(.int .i64 x6),(.slice A2 n2 c2)]∧∃(f1:FuncId) (cs1:List Value),v1= .func (.func f1) #[] cs1.toArray∧callable P f1=true∧Calls P f1 ([(.agg #[(.int .i64 x3),(.int .i64 x4),(.int .i64 x5),(.int .i64 x6),(.slice A2 n2 c2)])]++cs1:List Value).toArray w1 (Ret fun v2 w2=>∃b1,v2=(.bool b1)∧(b1=true→(K x2 w2))∧(b1=false→(∃k2,k2<k1∧I1 k2 (IntKind.wrap .i64 (x2+1)) w2)))))∧(¬(x2<(n1:Int))→(K (-1) w1)))
theorem ok_slices_IndexFunc_sl_api_Link_api_Link (A1:Option Addr) (n1 c1:Nat) (v1:Value) (K:Int→World→Prop) (w:World) (H:vc_slices_IndexFunc_sl_api_Link_api_Link A1 n1 c1 v1 K w):Calls P F.slices_IndexFunc_sl_api_Link_api_Link #[(.slice A1 n1 c1),v1] w (Ret fun v w'=>∃x1,v=(.int .i64 x1)∧K x1 w'):=by
 unfold vc_slices_IndexFunc_sl_api_Link_api_Link at H;refine calls_of (P:=P) Tryd.func64 rfl [(0,(.slice A1 n1 c1)),(1,v1)] 19 rfl rfl (aa rfl (aa rfl az)) (cw_seq (cw_region (ag rfl (sl_nil (nc (kp 0 rfl (kp 1 rfl zz)) (cw_seq (cw_seq (cw_region (mv rfl (sv rfl rfl (fun a ha=>x_builtin (ha.evs rfl) (fun _=>l_slice TF.isslice_sl_api_Link)) (mv rfl (sl_nil (nc (kp 0 rfl (kp 1 rfl (kp 7 rfl (kp 8 rfl zz)))) (cw_block ?_))))))))))))));obtain⟨I1,⟨k1,hi⟩,H⟩:=H;refine cw_loop (fun k1 a w'=>∃x2,Ok 19 [(0,(.slice A1 n1 c1)),(1,v1),(7,(.int .i64 (n1:Int))),(8,(.int .i64 x2))] a∧I1 k1 x2 w') (fun a ha=>⟨k1,0,ha.weaken (sub.cons rfl (sub.cons rfl (sub.cons rfl (sub.cons rfl (sub.nil))))),hi⟩) ?_;rintro k1 a w1 ⟨x2,ha,hI⟩;replace H:=H k1 x2 w1 hI;refine(?_:CW _ _ _ 19 [(0,(.slice A1 n1 c1)),(1,v1),(7,(.int .i64 (n1:Int))),(8,(.int .i64 x2))] _) a ha;refine cw_seq (cw_region (bo rfl rfl o_lss (sl_nil (nc (kp 0 rfl (kp 1 rfl (kp 7 rfl (kp 8 rfl (kp 9 rfl zz))))) (cw_seq ?_)))));refine cw_cond_p rfl (fun hb=> ?_) (fun hb=> ?_)
 ·replace H:=H.1 hb;refine cw_skip (nc (kp 0 rfl (kp 1 rfl (kp 7 rfl (kp 8 rfl zz)))) (cw_seq (cw_block (cw_seq (cw_region (mv rfl (ag rfl (sl_nil (nc (kp 0 rfl (kp 1 rfl (kp 5 rfl (kp 7 rfl (kp 8 rfl zz))))) (cw_seq (cw_region (mv rfl (mv rfl (mv rfl ?_))))))))))))));obtain⟨h1,h2,a1,e1,H⟩:=H;refine ix rfl rfl (i_index TF.elem_sl_api_Link TF.size_api_Link e1 h1 h2) ?_;obtain⟨x3,x4,x5,x6,A2,n2,c2,h3,H⟩:=H;refine ld rfl (i_loadN (vs:=[(.int .i64 x3),(.int .i64 x4),(.int .i64 x5),(.int .i64 x6),(.slice A2 n2 c2)]) TF.agg_api_Link TF.size_api_Link h3) ?_;obtain⟨f1,cs1,e2,h4,H⟩:=H;refine sl_call rfl rfl (wanted_none rfl) (fun a ha=>x_callv ((ha.ev rfl).trans e2) (ha.evs rfl) h4) H ?_;rintro _ w2 ⟨b1,rfl,H⟩;refine sl_nil (nc (kp 0 rfl (kp 1 rfl (kp 5 rfl (kp 7 rfl (kp 8 rfl (kp 16 rfl zz)))))) ?_);refine cw_cond rfl (fun hb=> ?_) (fun hb=> ?_)
  ·replace H:=H.1 hb;exact cw_seq (cw_region (mv rfl (ag rfl (sl_nil (nc (kp 4 rfl zz) (cw_ret (nx_ret_block (nx_ret_then (nx_ret_then (nx_ret_block (nx_ret_then (nx_body_ret (res1 rfl rfl) ⟨_,rfl,_,rfl,H⟩))))))))))))
  ·replace H:=H.2 hb;refine cw_skip (nx_block (nc (kp 0 rfl (kp 1 rfl (kp 7 rfl (kp 8 rfl zz)))) (cw_region (bo rfl rfl o_add (mv rfl (sl_nil ?_))))));obtain⟨k2,hk,H⟩:=H;exact nx_to fun a ha=>⟨k2,hk,IntKind.wrap .i64 (x2+1),ha.weaken (cn rfl (cn rfl (cn rfl (cn rfl zz)))),H⟩
 ·replace H:=H.2 hb;exact cw_exit (nx_exit_then (nx_exit_then (nx_exit_hit (nc zz (cw_seq (cw_region (ag rfl (sl_nil (nc (kp 4 rfl zz) (cw_ret (nx_body_ret (res1 rfl rfl) ⟨_,rfl,_,rfl,H⟩)))))))))))
def vc_slices_ContainsFunc_sl_int_int (A1:Option Addr) (n1 c1:Nat) (v1:Value) (K:Bool→World→Prop) (w:World):Prop:=
 Calls P F.slices_IndexFunc_sl_int_int #[(.slice A1 n1 c1),v1] w (Ret fun v2 w1=>∃x1,v2=(.int .i64 x1)∧K (decide (0≤x1)) w1)
theorem ok_slices_ContainsFunc_sl_int_int (A1:Option Addr) (n1 c1:Nat) (v1:Value) (K:Bool→World→Prop) (w:World) (H:vc_slices_ContainsFunc_sl_int_int A1 n1 c1 v1 K w):Calls P F.slices_ContainsFunc_sl_int_int #[(.slice A1 n1 c1),v1] w (Ret fun v w'=>∃b1,v=(.bool b1)∧K b1 w'):=by
 unfold vc_slices_ContainsFunc_sl_int_int at H;refine calls_of (P:=P) Tryd.func51 rfl [(0,(.slice A1 n1 c1)),(1,v1)] 9 rfl rfl (aa rfl (aa rfl az)) (cw_seq (cw_region (ag rfl (sl_nil (nc (kp 0 rfl (kp 1 rfl zz)) (cw_seq (cw_region (mv rfl (mv rfl (sl_call rfl rfl (wanted_none rfl) (fun a ha=>x_call0 (ha.ev rfl) (ha.evs rfl) FF.callable_slices_IndexFunc_sl_int_int) H ?_))))))))));rintro _ w1 ⟨x1,rfl,H⟩;exact bo rfl rfl o_geq (ag rfl (sl_nil (nc (kp 4 rfl zz) (cw_ret (nx_body_ret (res1 rfl rfl) ⟨_,rfl,_,rfl,H⟩)))))
def vc_slices_ContainsFunc_sl_api_Link_api_Link (A1:Option Addr) (n1 c1:Nat) (v1:Value) (K:Bool→World→Prop) (w:World):Prop:=
 Calls P F.slices_IndexFunc_sl_api_Link_api_Link #[(.slice A1 n1 c1),v1] w (Ret fun v2 w1=>∃x1,v2=(.int .i64 x1)∧K (decide (0≤x1)) w1)
theorem ok_slices_ContainsFunc_sl_api_Link_api_Link (A1:Option Addr) (n1 c1:Nat) (v1:Value) (K:Bool→World→Prop) (w:World) (H:vc_slices_ContainsFunc_sl_api_Link_api_Link A1 n1 c1 v1 K w):Calls P F.slices_ContainsFunc_sl_api_Link_api_Link #[(.slice A1 n1 c1),v1] w (Ret fun v w'=>∃b1,v=(.bool b1)∧K b1 w'):=by
 unfold vc_slices_ContainsFunc_sl_api_Link_api_Link at H;refine calls_of (P:=P) Tryd.func54 rfl [(0,(.slice A1 n1 c1)),(1,v1)] 9 rfl rfl (aa rfl (aa rfl az)) (cw_seq (cw_region (ag rfl (sl_nil (nc (kp 0 rfl (kp 1 rfl zz)) (cw_seq (cw_region (mv rfl (mv rfl (sl_call rfl rfl (wanted_none rfl) (fun a ha=>x_call0 (ha.ev rfl) (ha.evs rfl) FF.callable_slices_IndexFunc_sl_api_Link_api_Link) H ?_))))))))));rintro _ w1 ⟨x1,rfl,H⟩;exact bo rfl rfl o_geq (ag rfl (sl_nil (nc (kp 4 rfl zz) (cw_ret (nx_body_ret (res1 rfl rfl) ⟨_,rfl,_,rfl,H⟩)))))
def vc_euf_follows_3_J1 (K:Bool→World→Prop) (w1:World) (b2:Bool):Prop:=
 K b2 w1
def vc_euf_follows_3 (x1:Int) (x2:Int) (x3:Int) (x4:Int) (A1:Option Addr) (n1 c1:Nat) (p1:Addr) (K:Bool→World→Prop) (w:World):Prop:=
 ∀(p2:Addr) (w1:World),New w (.cells #[(.int .i64 x1),(.int .i64 x2),(.int .i64 x3),(.int .i64 x4),(.slice A1 n1 c1)] T.api_Link) p2 w1→(∃x5,w1.cell? (p2.add 0)=some (.int .i64 x5)∧∃x6,w1.cell? (p1.add 0)=some (.int .i64 x6)∧(x5=x6→(∃x7,w1.cell? (p2.add 1)=some (.int .i64 x7)∧∃x8,w1.cell? (p1.add 1)=some (.int .i64 x8)∧(x7=x8→(∃x9,w1.cell? (p2.add 2)=some (.int .i64 x9)∧∃x10,w1.cell? (p1.add 2)=some (.int .i64 x10)∧(x9=x10→(∃x11,w1.cell? (p2.add 3)=some (.int .i64 x11)∧∃x12,w1.cell? (p1.add 3)=some (.int .i64 x12)∧(vc_euf_follows_3_J1 K w1) (decide (x11=x12))))∧(¬(x9=x10)→((vc_euf_follows_3_J1 K w1) false))))∧(¬(x7=x8)→((vc_euf_follows_3_J1 K w1) false))))∧(¬(x5=x6)→((vc_euf_follows_3_J1 K w1) false)))
theorem ok_euf_follows_3 (x1:Int) (x2:Int) (x3:Int) (x4:Int) (A1:Option Addr) (n1 c1:Nat) (p1:Addr) (K:Bool→World→Prop) (w:World) (H:vc_euf_follows_3 x1 x2 x3 x4 A1 n1 c1 p1 K w):Calls P F.euf_follows_3 #[(.agg #[(.int .i64 x1),(.int .i64 x2),(.int .i64 x3),(.int .i64 x4),(.slice A1 n1 c1)]),(.pointer (some p1))] w (Ret fun v w'=>∃b1,v=(.bool b1)∧K b1 w'):=by
 unfold vc_euf_follows_3 at H;refine calls_of (P:=P) Tryd.func55 rfl [(0,(.agg #[(.int .i64 x1),(.int .i64 x2),(.int .i64 x3),(.int .i64 x4),(.slice A1 n1 c1)])),(1,(.pointer (some p1)))] 30 rfl rfl (aa rfl (aa rfl az)) (cw_seq (cw_region (sl_new (f:=(fun p=> .pointer (some p))) rfl rfl (wanted_none rfl) (fun a ha=>x_box (ha.ev rfl) i_box) ?_)));intro p2 w1 hN;replace H:=H _ _ hN;refine ag rfl (sl_nil (nc (kp 1 rfl (kp 2 rfl zz)) ?_));refine cw_join_still (fun a=>∃b2,Ok 30 [(3,(.bool b2))] a∧vc_euf_follows_3_J1 K w1 b2) ?_ ?_
 ·rintro a ⟨b2,ha,H⟩;unfold vc_euf_follows_3_J1 at H;refine(?_:CW _ _ _ 30 [(3,(.bool b2))] _) a ha;exact cw_ret (nx_body_ret (res1 rfl rfl) ⟨_,rfl,_,rfl,H⟩)
 ·refine cw_region (fa rfl (TF.fld_api_Link_0 _ _) ?_);obtain⟨x5,h2,H⟩:=H;refine ld rfl (i_load1 TF.agg_int h2) (fa rfl (TF.fld_api_Link_0 _ _) ?_);obtain⟨x6,h3,H⟩:=H;refine ld rfl (i_load1 TF.agg_int h3) (bo rfl rfl o_eql ?_);rcases Classical.em (x5=x6) with hb|hb
  ·replace H:=H.1 hb;refine sv rfl rfl (fun a ha=>o_t (x_move (ha.ev rfl)) hb) (fag rfl rfl rfl (TF.fld_api_Link_1 _ _) ?_);obtain⟨x7,h4,H⟩:=H;refine ldg rfl rfl rfl (i_load1 TF.agg_int h4) (fag rfl rfl rfl (TF.fld_api_Link_1 _ _) ?_);obtain⟨x8,h5,H⟩:=H;refine ldg rfl rfl rfl (i_load1 TF.agg_int h5) (bog rfl rfl rfl rfl o_eql (pt rfl rfl ?_));rcases Classical.em (x7=x8) with hb|hb
   ·replace H:=H.1 hb;refine sv rfl rfl (fun a ha=>o_t (x_move (ha.ev rfl)) hb) (fag rfl rfl rfl (TF.fld_api_Link_2 _ _) ?_);obtain⟨x9,h6,H⟩:=H;refine ldg rfl rfl rfl (i_load1 TF.agg_int h6) (fag rfl rfl rfl (TF.fld_api_Link_2 _ _) ?_);obtain⟨x10,h7,H⟩:=H;refine ldg rfl rfl rfl (i_load1 TF.agg_int h7) (bog rfl rfl rfl rfl o_eql (pt rfl rfl ?_));rcases Classical.em (x9=x10) with hb|hb
    ·replace H:=H.1 hb;refine sv rfl rfl (fun a ha=>o_t (x_move (ha.ev rfl)) hb) (fag rfl rfl rfl (TF.fld_api_Link_3 _ _) ?_);obtain⟨x11,h8,H⟩:=H;refine ldg rfl rfl rfl (i_load1 TF.agg_int h8) (fag rfl rfl rfl (TF.fld_api_Link_3 _ _) ?_);obtain⟨x12,h9,H⟩:=H;exact ldg rfl rfl rfl (i_load1 TF.agg_int h9) (bog rfl rfl rfl rfl o_eql (pt rfl rfl (ag rfl (sl_nil (nx_to fun a ha=>⟨⟨(decide (x11=x12)),ha.weaken (cn rfl zz),H⟩,rfl⟩)))))
    ·replace H:=H.2 hb;exact sv rfl rfl (fun a ha=>o_f (x_move (ha.ev rfl)) hb) (sk rfl rfl rfl rfl (sk rfl rfl rfl rfl (sk rfl rfl rfl rfl (sk rfl rfl rfl rfl (sk rfl rfl rfl rfl (pf rfl rfl (ag rfl (sl_nil (nx_to fun a ha=>⟨⟨false,ha.weaken (cn rfl zz),H⟩,rfl⟩)))))))))
   ·replace H:=H.2 hb;exact sv rfl rfl (fun a ha=>o_f (x_move (ha.ev rfl)) hb) (sk rfl rfl rfl rfl (sk rfl rfl rfl rfl (sk rfl rfl rfl rfl (sk rfl rfl rfl rfl (sk rfl rfl rfl rfl (pf rfl rfl (mv rfl (sk rfl rfl rfl rfl (sk rfl rfl rfl rfl (sk rfl rfl rfl rfl (sk rfl rfl rfl rfl (sk rfl rfl rfl rfl (pf rfl rfl (ag rfl (sl_nil (nx_to fun a ha=>⟨⟨false,ha.weaken (cn rfl zz),H⟩,rfl⟩))))))))))))))))
  ·replace H:=H.2 hb;exact sv rfl rfl (fun a ha=>o_f (x_move (ha.ev rfl)) hb) (sk rfl rfl rfl rfl (sk rfl rfl rfl rfl (sk rfl rfl rfl rfl (sk rfl rfl rfl rfl (sk rfl rfl rfl rfl (pf rfl rfl (mv rfl (sk rfl rfl rfl rfl (sk rfl rfl rfl rfl (sk rfl rfl rfl rfl (sk rfl rfl rfl rfl (sk rfl rfl rfl rfl (pf rfl rfl (mv rfl (sk rfl rfl rfl rfl (sk rfl rfl rfl rfl (sk rfl rfl rfl rfl (sk rfl rfl rfl rfl (sk rfl rfl rfl rfl (pf rfl rfl (ag rfl (sl_nil (nx_to fun a ha=>⟨⟨false,ha.weaken (cn rfl zz),H⟩,rfl⟩)))))))))))))))))))))))
def vc_euf_follows_J1 (K:Bool→World→Prop) (b5:Bool) (w7:World):Prop:=
 K b5 w7
def vc_euf_follows_J2 (K:Bool→World→Prop) (w5:World) (b6:Bool):Prop:=
 K b6 w5
def vc_euf_follows_J3 (K:Bool→World→Prop) (b8:Bool) (w9:World):Prop:=
 K b8 w9
def vc_euf_follows_J4 (K:Bool→World→Prop) (b11:Bool) (w11:World):Prop:=
 K b11 w11
def vc_euf_follows_J5 (K:Bool→World→Prop) (w19:World) (p3:Addr) (p6:Addr) (p7:Addr) (p1:Addr) (b12:Bool):Prop:=
 (b12=true→(K false w19))∧(b12=false→(∃A21 n21 c21,w19.cell? (p3.add 4)=some (.slice A21 n21 c21)∧∃I1:Nat→Int→World→Prop,(∃k1,I1 k1 0 w19)∧∀k1 (x31:Int) (w33:World),I1 k1 x31 w33→((x31<(n21:Int)→(∃A22 n22 c22,w33.cell? (p6.add 1)=some (.slice A22 n22 c22)∧0≤x31∧x31<(n22:Int)∧∃a8,A22=some a8∧∃x32,w33.cell? (a8.add (x31.toNat*1))=some (.int .i64 x32)∧∃A23 n23 c23,w33.cell? (p7.add 1)=some (.slice A23 n23 c23)∧0≤x31∧x31<(n23:Int)∧∃a9,A23=some a9∧∃x33,w33.cell? (a9.add (x31.toNat*1))=some (.int .i64 x33)∧∃b13,(∀w',Drawn w33 w'→Calls P F.euf_follows_2 #[(.int .i64 x31),(.int .i64 x32),(.int .i64 x33),(.pointer (some p1)),(.pointer (some p3))] w' fun x w''=>x= .returned (.bool b13)∧Drawn w' w'')∧∀w34,Drawn w33 w34→(((!b13)=true→(K false w34))∧((!b13)=false→(∃k2,k2<k1∧I1 k2 (IntKind.wrap .i64 (x31+1)) w34)))))∧(¬(x31<(n21:Int))→(K true w33)))))
def vc_euf_follows_J6 (K:Bool→World→Prop) (p3:Addr) (p1:Addr) (p6:Addr) (p7:Addr) (w19:World):Prop:=
 ∃x28,w19.cell? (p6.add 0)=some (.int .i64 x28)∧(x28<0→((vc_euf_follows_J5 K w19 p3 p6 p7 p1) true))∧(¬(x28<0)→(∃x29,w19.cell? (p6.add 0)=some (.int .i64 x29)∧∃x30,w19.cell? (p7.add 0)=some (.int .i64 x30)∧(x29≠x30→((vc_euf_follows_J5 K w19 p3 p6 p7 p1) true))∧(¬(x29≠x30)→(∃A17 n17 c17,w19.cell? (p6.add 1)=some (.slice A17 n17 c17)∧∃A18 n18 c18,w19.cell? (p7.add 1)=some (.slice A18 n18 c18)∧((n17:Int)≠(n18:Int)→((vc_euf_follows_J5 K w19 p3 p6 p7 p1) true))∧(¬((n17:Int)≠(n18:Int))→(∃A19 n19 c19,w19.cell? (p3.add 4)=some (.slice A19 n19 c19)∧∃A20 n20 c20,w19.cell? (p6.add 1)=some (.slice A20 n20 c20)∧(vc_euf_follows_J5 K w19 p3 p6 p7 p1) (decide ((n19:Int)≠(n20:Int)))))))))
def vc_euf_follows_J7 (K:Bool→World→Prop) (w4:World) (p3:Addr) (p2:Addr) (A2:Option Addr) (n2 c2:Nat) (p1:Addr) (n1:Nat) (A1:Option Addr) (b2:Bool):Prop:=
 (b2=true→(K false w4))∧(b2=false→(∃A6 n6 c6,w4.cell? (p3.add 4)=some (.slice A6 n6 c6)∧Calls P F.slices_ContainsFunc_sl_int_int #[(.slice A6 n6 c6),(.func (.func F.euf_follows_1) #[] #[(.pointer (some p2))])] w4 (Ret fun v1 w5=>∃b3,v1=(.bool b3)∧(b3=true→(K false w5))∧(b3=false→(∃x11,w5.cell? (p3.add 0)=some (.int .i64 x11)∧(x11=1→(∃A7 n7 c7,w5.cell? (p3.add 4)=some (.slice A7 n7 c7)∧((n7:Int)=0→(Calls P F.slices_ContainsFunc_sl_api_Link_api_Link #[(.slice A2 n2 c2),(.func (.func F.euf_follows_3) #[] #[(.pointer (some p3))])] w5 (Ret fun v2 w6=>∃b4,v2=(.bool b4)∧(vc_euf_follows_J1 K) b4 w6)))∧(¬((n7:Int)=0)→((vc_euf_follows_J1 K) false w5))))∧(¬(x11=1)→(∃x12,w5.cell? (p3.add 3)=some (.int .i64 x12)∧(x12≠0→(K false w5))∧(¬(x12≠0)→(∃x13,w5.cell? (p3.add 0)=some (.int .i64 x13)∧(x13=2→(∃A8 n8 c8,w5.cell? (p3.add 4)=some (.slice A8 n8 c8)∧((n8:Int)=0→(∃x14,w5.cell? (p3.add 1)=some (.int .i64 x14)∧∃x15,w5.cell? (p3.add 2)=some (.int .i64 x15)∧(vc_euf_follows_J2 K w5) (decide (x14=x15))))∧(¬((n8:Int)=0)→((vc_euf_follows_J2 K w5) false))))∧(¬(x13=2)→((x13=3→(∃A9 n9 c9,w5.cell? (p3.add 4)=some (.slice A9 n9 c9)∧((n9:Int)=1→(∃x16,w5.cell? (p3.add 2)=some (.int .i64 x16)∧∃x17,w5.cell? (p3.add 1)=some (.int .i64 x17)∧Calls P F.euf_follows_2 #[(.int .i64 0),(.int .i64 x16),(.int .i64 x17),(.pointer (some p1)),(.pointer (some p3))] w5 (Ret fun v3 w8=>∃b7,v3=(.bool b7)∧(vc_euf_follows_J3 K) b7 w8)))∧(¬((n9:Int)=1)→((vc_euf_follows_J3 K) false w5))))∧(¬(x13=3)→((x13=4→(∃A10 n10 c10,w5.cell? (p3.add 4)=some (.slice A10 n10 c10)∧((n10:Int)=2→(∃x18,w5.cell? (p3.add 1)=some (.int .i64 x18)∧∃A11 n11 c11,w5.cell? p1=some (.slice A11 n11 c11)∧∃A12 n12 c12,w5.cell? (p3.add 4)=some (.slice A12 n12 c12)∧0≤(0:Int)∧(0:Int)<(n12:Int)∧∃a2,A12=some a2∧∃x19,w5.cell? (a2.add ((0:Int).toNat*1))=some (.int .i64 x19)∧0≤x19∧x19<(n11:Int)∧∃a3,A11=some a3∧∃x20,w5.cell? ((a3.add (x19.toNat*5)).add 2)=some (.int .i64 x20)∧∃b9,(∀w',Drawn w5 w'→Calls P F.euf_follows_2 #[(.int .i64 0),(.int .i64 x18),(.int .i64 x20),(.pointer (some p1)),(.pointer (some p3))] w' fun x w''=>x= .returned (.bool b9)∧Drawn w' w'')∧(b9=true→(∃A13 n13 c13,w5.cell? p1=some (.slice A13 n13 c13)∧∃A14 n14 c14,w5.cell? (p3.add 4)=some (.slice A14 n14 c14)∧0≤(0:Int)∧(0:Int)<(n14:Int)∧∃a4,A14=some a4∧∃x21,w5.cell? (a4.add ((0:Int).toNat*1))=some (.int .i64 x21)∧0≤x21∧x21<(n13:Int)∧∃a5,A13=some a5∧∃x22,w5.cell? ((a5.add (x21.toNat*5)).add 2)=some (.int .i64 x22)∧∃x23,w5.cell? (p3.add 2)=some (.int .i64 x23)∧∃b10,(∀w',Drawn w5 w'→Calls P F.euf_follows_2 #[(.int .i64 1),(.int .i64 x22),(.int .i64 x23),(.pointer (some p1)),(.pointer (some p3))] w' fun x w''=>x= .returned (.bool b10)∧Drawn w' w'')∧∀w10,Drawn w5 w10→((vc_euf_follows_J4 K) b10 w10)))∧(b9=false→(∀w12,Drawn w5 w12→((vc_euf_follows_J4 K) false w12)))))∧(¬((n10:Int)=2)→(∀w13,Drawn w5 w13→((vc_euf_follows_J4 K) false w13)))))∧(¬(x13=4)→((x13=5→(∃X1:Nat→Prop,∃x24,w5.cell? (p3.add 1)=some (.int .i64 x24)∧¬X1 (p3.add 1).block∧0≤x24∧x24<(n1:Int)∧∃a6,A1=some a6∧∃x25,∃A15 n15 c15,CellsAt w5 (a6.add (x24.toNat*2)) [(.int .i64 x25),(.slice A15 n15 c15)]∧¬X1 (a6.add (x24.toNat*2)).block∧∃x26,w5.cell? (p3.add 2)=some (.int .i64 x26)∧¬X1 (p3.add 2).block∧0≤x26∧x26<(n1:Int)∧∃a7,A1=some a7∧∃x27,∃A16 n16 c16,CellsAt w5 (a7.add (x26.toNat*2)) [(.int .i64 x27),(.slice A16 n16 c16)]∧¬X1 (a7.add (x26.toNat*2)).block∧(∀w23,Drawn w5 w23→∀(p4:Addr) (w14:World),New w23 (.cells #[(.int .i64 0),(.slice none 0 0)] T.api_Flat) p4 w14→(∀w22,Drawn w14 w22→∀(p5:Addr) (w15:World),New w22 (.cells #[(.int .i64 0),(.slice none 0 0)] T.api_Flat) p5 w15→(∀w21,Drawn w15 w21→Soft w21 p4 2∧∀w16,w16=setCellsAt w21 p4 [(.int .i64 x25),(.slice A15 n15 c15)]→(Keep X1 w5 w16∧(∀w20,Drawn w16 w20→Soft w20 p5 2∧∀w17,w17=setCellsAt w20 p5 [(.int .i64 x27),(.slice A16 n16 c16)]→(∀w18,Drawn w17 w18→((vc_euf_follows_J6 K p3 p1) p4 p5 w18)))))))∧(∀w32,Drawn w5 w32→∀(p8:Addr) (w24:World),New w32 (.cells #[(.int .i64 0),(.slice none 0 0)] T.api_Flat) p8 w24→(∀w31,Drawn w24 w31→∀(p9:Addr) (w25:World),New w31 (.cells #[(.int .i64 0),(.slice none 0 0)] T.api_Flat) p9 w25→(∀w30,Drawn w25 w30→Soft w30 p9 2∧∀w26,w26=setCellsAt w30 p9 [(.int .i64 x25),(.slice A15 n15 c15)]→(Keep X1 w5 w26∧(∀w29,Drawn w26 w29→Soft w29 p8 2∧∀w27,w27=setCellsAt w29 p8 [(.int .i64 x27),(.slice A16 n16 c16)]→(∀w28,Drawn w27 w28→((vc_euf_follows_J6 K p3 p1) p9 p8 w28)))))))))∧(¬(x13=5)→(K false w5)))))))))))))))))
def vc_euf_follows (A1:Option Addr) (n1 c1:Nat) (A2:Option Addr) (n2 c2:Nat) (A3:Option Addr) (n3 c3:Nat) (x1:Int) (K:Bool→World→Prop) (w:World):Prop:=
 ∀(p1:Addr) (w1:World),New w (.cells #[(.slice A3 n3 c3)] T.sl_api_Link) p1 w1→(∀(p2:Addr) (w2:World),New w1 (.cells #[(.int .i64 x1)] T.int) p2 w2→(∃A4 n4 c4,w2.cell? p1=some (.slice A4 n4 c4)∧∃x2,w2.cell? p2=some (.int .i64 x2)∧0≤x2∧x2<(n4:Int)∧∃a1,A4=some a1∧∃x3,∃x4,∃x5,∃x6,∃A5 n5 c5,CellsAt w2 (a1.add (x2.toNat*5)) [(.int .i64 x3),(.int .i64 x4),(.int .i64 x5),(.int .i64 x6),(.slice A5 n5 c5)]∧∀(p3:Addr) (w3:World),New w2 (.cells #[(.int .i64 0),(.int .i64 0),(.int .i64 0),(.int .i64 0),(.slice none 0 0)] T.api_Link) p3 w3→(Soft w3 p3 5∧∀w4,w4=setCellsAt w3 p3 [(.int .i64 x3),(.int .i64 x4),(.int .i64 x5),(.int .i64 x6),(.slice A5 n5 c5)]→(∃x7,w4.cell? (p3.add 1)=some (.int .i64 x7)∧(x7<0→((vc_euf_follows_J7 K w4 p3 p2 A2 n2 c2 p1 n1 A1) true))∧(¬(x7<0)→(∃x8,w4.cell? (p3.add 2)=some (.int .i64 x8)∧(x8<0→((vc_euf_follows_J7 K w4 p3 p2 A2 n2 c2 p1 n1 A1) true))∧(¬(x8<0)→(∃x9,w4.cell? (p3.add 1)=some (.int .i64 x9)∧((n1:Int)≤x9→((vc_euf_follows_J7 K w4 p3 p2 A2 n2 c2 p1 n1 A1) true))∧(¬((n1:Int)≤x9)→(∃x10,w4.cell? (p3.add 2)=some (.int .i64 x10)∧(vc_euf_follows_J7 K w4 p3 p2 A2 n2 c2 p1 n1 A1) (decide ((n1:Int)≤x10))))))))))))
theorem ok_euf_follows (A1:Option Addr) (n1 c1:Nat) (A2:Option Addr) (n2 c2:Nat) (A3:Option Addr) (n3 c3:Nat) (x1:Int) (K:Bool→World→Prop) (w:World) (H:vc_euf_follows A1 n1 c1 A2 n2 c2 A3 n3 c3 x1 K w):Calls P F.euf_follows #[(.slice A1 n1 c1),(.slice A2 n2 c2),(.slice A3 n3 c3),(.int .i64 x1)] w (Ret fun v w'=>∃b1,v=(.bool b1)∧K b1 w'):=by
 unfold vc_euf_follows at H;refine calls_of (P:=P) Tryd.func39 rfl [(0,(.slice A1 n1 c1)),(1,(.slice A2 n2 c2)),(2,(.slice A3 n3 c3)),(3,(.int .i64 x1))] 184 rfl rfl (aa rfl (aa rfl (aa rfl (aa rfl az)))) (cw_seq (cw_region (sl_new (f:=(fun p=> .pointer (some p))) rfl rfl (wanted_none rfl) (fun a ha=>x_box (ha.ev rfl) i_box) ?_)));intro p1 w1 hN;replace H:=H _ _ hN;refine sl_new (f:=(fun p=> .pointer (some p))) rfl rfl (wanted_none rfl) (fun a ha=>x_box (ha.ev rfl) i_box) ?_;intro p2 w2 hN;replace H:=H _ _ hN;refine ag rfl (sl_nil (nc (kp 0 rfl (kp 1 rfl (kp 6 rfl (kp 7 rfl zz)))) (cw_seq (cw_region ?_))));obtain⟨A4,n4,c4,h3,H⟩:=H;refine ld rfl (i_load1 TF.agg_sl_api_Link h3) ?_;obtain⟨x2,h4,H⟩:=H;refine ld rfl (i_load1 TF.agg_int h4) ?_;obtain⟨h5,h6,a1,e1,H⟩:=H;refine ix rfl rfl (i_index TF.elem_sl_api_Link TF.size_api_Link e1 h5 h6) ?_;obtain⟨x3,x4,x5,x6,A5,n5,c5,h7,H⟩:=H;refine ld rfl (i_loadN (vs:=[(.int .i64 x3),(.int .i64 x4),(.int .i64 x5),(.int .i64 x6),(.slice A5 n5 c5)]) TF.agg_api_Link TF.size_api_Link h7) (sl_new (f:=(fun p=> .pointer (some p))) rfl rfl (wanted_none rfl) (fun a ha=>x_alloc (i_alloc TF.zero_api_Link)) ?_);intro p3 w3 hN;replace H:=H _ _ hN;obtain⟨h9,H⟩:=H;refine sl_un rfl (wanted_none rfl) (fun a ha=>x_store (ha.ev rfl) (ha.ev rfl) (i_storeN TF.size_api_Link (by simp[Value.oneCell']) h9)) ?_;intro w4 hw;replace H:=H _ hw;clear hw;refine sl_nil (nc (kp 0 rfl (kp 1 rfl (kp 6 rfl (kp 7 rfl (kp 9 rfl zz))))) (cw_seq ?_));refine cw_join_still (fun a=>∃b2,Ok 184 [(0,(.slice A1 n1 c1)),(1,(.slice A2 n2 c2)),(6,(.pointer (some p1))),(7,(.pointer (some p2))),(9,(.pointer (some p3))),(39,(.bool b2))] a∧vc_euf_follows_J7 K w4 p3 p2 A2 n2 c2 p1 n1 A1 b2) ?_ ?_
 ·rintro a ⟨b2,ha,H⟩;unfold vc_euf_follows_J7 at H;refine(?_:CW _ _ _ 184 [(0,(.slice A1 n1 c1)),(1,(.slice A2 n2 c2)),(6,(.pointer (some p1))),(7,(.pointer (some p2))),(9,(.pointer (some p3))),(39,(.bool b2))] _) a ha;refine cw_cond rfl (fun hb=> ?_) (fun hb=> ?_)
  ·replace H:=H.1 hb;exact cw_seq (cw_region (ag rfl (sl_nil (nc (kp 8 rfl zz) (cw_ret (nx_ret_then (nx_body_ret (res1 rfl rfl) ⟨_,rfl,_,rfl,H⟩)))))))
  ·replace H:=H.2 hb;refine cw_skip (nc (kp 0 rfl (kp 1 rfl (kp 6 rfl (kp 7 rfl (kp 9 rfl zz))))) (cw_seq (cw_seq (cw_region (fa rfl (TF.fld_api_Link_4 _ _) ?_)))));obtain⟨A6,n6,c6,h14,H⟩:=H;refine ld rfl (i_load1 TF.agg_sl_int h14) (sv rfl rfl (fun a ha=>x_makeFunc (ha.evs rfl) (ha.evs rfl)) (sl_call rfl rfl (wanted_none rfl) (fun a ha=>x_call0 (ha.ev rfl) (ha.evs rfl) FF.callable_slices_ContainsFunc_sl_int_int) H ?_));rintro _ w5 ⟨b3,rfl,H⟩;refine sl_nil (nc (kp 0 rfl (kp 1 rfl (kp 6 rfl (kp 9 rfl (kp 43 rfl zz))))) ?_);refine cw_cond rfl (fun hb=> ?_) (fun hb=> ?_)
   ·replace H:=H.1 hb;exact cw_seq (cw_region (ag rfl (sl_nil (nc (kp 8 rfl zz) (cw_ret (nx_ret_then (nx_body_ret (res1 rfl rfl) ⟨_,rfl,_,rfl,H⟩)))))))
   ·replace H:=H.2 hb;refine cw_skip (nc (kp 0 rfl (kp 1 rfl (kp 6 rfl (kp 9 rfl zz)))) (cw_seq (cw_region (sv rfl rfl (fun a ha=>x_makeFunc (ha.evs rfl) (ha.evs rfl)) (ag rfl (sl_nil (nc (kp 0 rfl (kp 1 rfl (kp 6 rfl (kp 9 rfl (kp 10 rfl zz))))) (cw_seq (cw_seq (cw_region (fa rfl (TF.fld_api_Link_0 _ _) ?_)))))))))));obtain⟨x11,h15,H⟩:=H;refine ld rfl (i_load1 TF.agg_int h15) (bo rfl rfl o_eql (sl_nil (nc (kp 0 rfl (kp 1 rfl (kp 6 rfl (kp 9 rfl (kp 10 rfl (kp 47 rfl zz)))))) ?_)));refine cw_cond_p rfl (fun hb=> ?_) (fun hb=> ?_)
    ·replace H:=H.1 hb;refine cw_join (fun a w=>∃b5,Ok 184 [(8,(.bool b5))] a∧vc_euf_follows_J1 K b5 w) ?_ ?_
     ·rintro a w7 ⟨b5,ha,H⟩;unfold vc_euf_follows_J1 at H;refine(?_:CW _ _ _ 184 [(8,(.bool b5))] _) a ha;exact cw_ret (nx_ret_then (nx_body_ret (res1 rfl rfl) ⟨_,rfl,_,rfl,H⟩))
     ·refine cw_region (fa rfl (TF.fld_api_Link_4 _ _) ?_);obtain⟨A7,n7,c7,h16,H⟩:=H;refine ld rfl (i_load1 TF.agg_sl_int h16) (sv rfl rfl (fun a ha=>x_builtin (ha.evs rfl) (fun _=>l_slice TF.isslice_sl_int)) (bo rfl rfl o_eql ?_));rcases Classical.em ((n7:Int)=0) with hb|hb
      ·replace H:=H.1 hb;refine sv rfl rfl (fun a ha=>o_t (x_move (ha.ev rfl)) hb) (mvg rfl rfl rfl (svg rfl rfl rfl rfl (fun a ha=>x_makeFunc (ha.evs rfl) (ha.evs rfl)) (sl_call rfl rfl (wanted_some rfl rfl rfl) (fun a ha=>x_call0 (ha.ev rfl) (ha.evs rfl) FF.callable_slices_ContainsFunc_sl_api_Link_api_Link) H ?_)));rintro _ w6 ⟨b4,rfl,H⟩;exact pt rfl rfl (ag rfl (sl_nil (nx_to fun a ha=>⟨b4,ha.weaken (cn rfl zz),H⟩)))
      ·replace H:=H.2 hb;exact sv rfl rfl (fun a ha=>o_f (x_move (ha.ev rfl)) hb) (sk rfl rfl rfl rfl (sk rfl rfl rfl rfl (sk rfl rfl rfl rfl (pf rfl rfl (ag rfl (sl_nil (nx_to fun a ha=>⟨false,ha.weaken (cn rfl zz),H⟩)))))))
    ·replace H:=H.2 hb;refine cw_skip (nc (kp 0 rfl (kp 6 rfl (kp 9 rfl (kp 10 rfl zz)))) (cw_seq (cw_seq (cw_region (fa rfl (TF.fld_api_Link_3 _ _) ?_)))));obtain⟨x12,h17,H⟩:=H;refine ld rfl (i_load1 TF.agg_int h17) (bo rfl rfl o_neq (sl_nil (nc (kp 0 rfl (kp 6 rfl (kp 9 rfl (kp 10 rfl (kp 59 rfl zz))))) ?_)));refine cw_cond_p rfl (fun hb=> ?_) (fun hb=> ?_)
     ·replace H:=H.1 hb;exact cw_seq (cw_region (ag rfl (sl_nil (nc (kp 8 rfl zz) (cw_ret (nx_ret_then (nx_body_ret (res1 rfl rfl) ⟨_,rfl,_,rfl,H⟩)))))))
     ·replace H:=H.2 hb;refine cw_skip (nc (kp 0 rfl (kp 6 rfl (kp 9 rfl (kp 10 rfl zz)))) (cw_seq (cw_seq (cw_region (fa rfl (TF.fld_api_Link_0 _ _) ?_)))));obtain⟨x13,h18,H⟩:=H;refine ld rfl (i_load1 TF.agg_int h18) (sl_nil (nc (kp 0 rfl (kp 6 rfl (kp 9 rfl (kp 10 rfl (kp 61 rfl zz))))) (cw_block (cw_seq (cw_region (bo rfl rfl o_eql (ag rfl (sl_nil (nc (kp 0 rfl (kp 6 rfl (kp 9 rfl (kp 10 rfl (kp 61 rfl (kp 62 rfl zz)))))) ?_)))))))));refine cw_cond_p rfl (fun hb=> ?_) (fun hb=> ?_)
      ·replace H:=H.1 hb;refine cw_join_still (fun a=>∃b6,Ok 184 [(8,(.bool b6))] a∧vc_euf_follows_J2 K w5 b6) ?_ ?_
       ·rintro a ⟨b6,ha,H⟩;unfold vc_euf_follows_J2 at H;refine(?_:CW _ _ _ 184 [(8,(.bool b6))] _) a ha;exact cw_ret (nx_ret_block (nx_ret_then (nx_body_ret (res1 rfl rfl) ⟨_,rfl,_,rfl,H⟩)))
       ·refine cw_region (fa rfl (TF.fld_api_Link_4 _ _) ?_);obtain⟨A8,n8,c8,h19,H⟩:=H;refine ld rfl (i_load1 TF.agg_sl_int h19) (sv rfl rfl (fun a ha=>x_builtin (ha.evs rfl) (fun _=>l_slice TF.isslice_sl_int)) (bo rfl rfl o_eql ?_));rcases Classical.em ((n8:Int)=0) with hb|hb
        ·replace H:=H.1 hb;refine sv rfl rfl (fun a ha=>o_t (x_move (ha.ev rfl)) hb) (fag rfl rfl rfl (TF.fld_api_Link_1 _ _) ?_);obtain⟨x14,h20,H⟩:=H;refine ldg rfl rfl rfl (i_load1 TF.agg_int h20) (fag rfl rfl rfl (TF.fld_api_Link_2 _ _) ?_);obtain⟨x15,h21,H⟩:=H;exact ldg rfl rfl rfl (i_load1 TF.agg_int h21) (bog rfl rfl rfl rfl o_eql (pt rfl rfl (ag rfl (sl_nil (nx_to fun a ha=>⟨⟨(decide (x14=x15)),ha.weaken (cn rfl zz),H⟩,rfl⟩)))))
        ·replace H:=H.2 hb;exact sv rfl rfl (fun a ha=>o_f (x_move (ha.ev rfl)) hb) (sk rfl rfl rfl rfl (sk rfl rfl rfl rfl (sk rfl rfl rfl rfl (sk rfl rfl rfl rfl (sk rfl rfl rfl rfl (pf rfl rfl (ag rfl (sl_nil (nx_to fun a ha=>⟨⟨false,ha.weaken (cn rfl zz),H⟩,rfl⟩)))))))))
      ·replace H:=H.2 hb;refine cw_seq (cw_region (bo rfl rfl o_eql (ag rfl (sl_nil (nc (kp 0 rfl (kp 6 rfl (kp 9 rfl (kp 10 rfl (kp 61 rfl (kp 75 rfl zz)))))) ?_)))));refine cw_cond_p rfl (fun hb=> ?_) (fun hb=> ?_)
       ·replace H:=H.1 hb;refine cw_join (fun a w=>∃b8,Ok 184 [(8,(.bool b8))] a∧vc_euf_follows_J3 K b8 w) ?_ ?_
        ·rintro a w9 ⟨b8,ha,H⟩;unfold vc_euf_follows_J3 at H;refine(?_:CW _ _ _ 184 [(8,(.bool b8))] _) a ha;exact cw_ret (nx_ret_block (nx_ret_then (nx_body_ret (res1 rfl rfl) ⟨_,rfl,_,rfl,H⟩)))
        ·refine cw_region (fa rfl (TF.fld_api_Link_4 _ _) ?_);obtain⟨A9,n9,c9,h22,H⟩:=H;refine ld rfl (i_load1 TF.agg_sl_int h22) (sv rfl rfl (fun a ha=>x_builtin (ha.evs rfl) (fun _=>l_slice TF.isslice_sl_int)) (bo rfl rfl o_eql ?_));rcases Classical.em ((n9:Int)=1) with hb|hb
         ·replace H:=H.1 hb;refine sv rfl rfl (fun a ha=>o_t (x_move (ha.ev rfl)) hb) (mvg rfl rfl rfl (fag rfl rfl rfl (TF.fld_api_Link_2 _ _) ?_));obtain⟨x16,h23,H⟩:=H;refine ldg rfl rfl rfl (i_load1 TF.agg_int h23) (fag rfl rfl rfl (TF.fld_api_Link_1 _ _) ?_);obtain⟨x17,h24,H⟩:=H;refine ldg rfl rfl rfl (i_load1 TF.agg_int h24) (sl_call rfl rfl (wanted_some rfl rfl rfl) (fun a ha=>x_callc (xs':=[(.int .i64 0),(.int .i64 x16),(.int .i64 x17),(.pointer (some p1)),(.pointer (some p3))]) (ha.ev rfl) (ha.evs rfl) rfl FF.callable_euf_follows_2) H ?_);rintro _ w8 ⟨b7,rfl,H⟩;exact pt rfl rfl (ag rfl (sl_nil (nx_to fun a ha=>⟨b7,ha.weaken (cn rfl zz),H⟩)))
         ·replace H:=H.2 hb;exact sv rfl rfl (fun a ha=>o_f (x_move (ha.ev rfl)) hb) (sk rfl rfl rfl rfl (sk rfl rfl rfl rfl (sk rfl rfl rfl rfl (sk rfl rfl rfl rfl (sk rfl rfl rfl rfl (sk rfl rfl rfl rfl (pf rfl rfl (ag rfl (sl_nil (nx_to fun a ha=>⟨false,ha.weaken (cn rfl zz),H⟩))))))))))
       ·replace H:=H.2 hb;refine cw_seq (cw_region (bo rfl rfl o_eql (ag rfl (sl_nil (nc (kp 0 rfl (kp 6 rfl (kp 9 rfl (kp 10 rfl (kp 61 rfl (kp 89 rfl zz)))))) ?_)))));refine cw_cond_p rfl (fun hb=> ?_) (fun hb=> ?_)
        ·replace H:=H.1 hb;refine cw_join (fun a w=>∃b11,Ok 184 [(8,(.bool b11))] a∧vc_euf_follows_J4 K b11 w) ?_ ?_
         ·rintro a w11 ⟨b11,ha,H⟩;unfold vc_euf_follows_J4 at H;refine(?_:CW _ _ _ 184 [(8,(.bool b11))] _) a ha;exact cw_ret (nx_ret_block (nx_ret_then (nx_body_ret (res1 rfl rfl) ⟨_,rfl,_,rfl,H⟩)))
         ·refine cw_any_drawn follows [0,1,2,3,4,5,6,7,8,9,10,11,12,13,14,15,16,17,18,19,20,21,22,23,24,25,26,27,28,29,30,31,32] [1,7,8,10,12,15,16,20,22,24,27,29,30] 33 rfl rfl (by kernel_rfl) (fun _ _ d _ _ h=>by cases d<;>exact h) (fun cm W D=> ?_);refine pfa 0 cm rfl rfl (TF.fld_api_Link_4 _ _) D W fun _ D W=> ?_;obtain⟨A10,n10,c10,h25,H⟩:=H;refine vl 1 cm rfl rfl (fun hw=>(i_load1 TF.agg_sl_int ((hw.cell _).trans h25))) D W fun _ D W=>(pv 2 cm rfl rfl rfl (fun w' a ha=>x_builtin (ha.evs rfl) (fun _=>l_slice TF.isslice_sl_int)) D W fun _ D W=>(pv 3 cm rfl rfl rfl (fun w' a ha=>x_binOp (ha.ev rfl) (ha.ev rfl) o_eql) D W fun _ D W=> ?_));rcases Classical.em ((n10:Int)=2) with hb|hb
          ·replace H:=H.1 hb;refine pv 4 cm rfl rfl rfl (fun w' a ha=>o_t (x_move (ha.ev rfl)) hb) D W fun _ D W=>(pmvg 5 cm rfl rfl rfl rfl D W fun _ D W=>(pfag 6 cm rfl rfl rfl rfl (TF.fld_api_Link_1 _ _) D W fun _ D W=> ?_));obtain⟨x18,h26,H⟩:=H;refine vlg 7 cm rfl rfl rfl rfl (fun hw=>(i_load1 TF.agg_int ((hw.cell _).trans h26))) D W fun _ D W=> ?_;obtain⟨A11,n11,c11,h27,H⟩:=H;refine vlg 8 cm rfl rfl rfl rfl (fun hw=>(i_load1 TF.agg_sl_api_Link ((hw.cell _).trans h27))) D W fun _ D W=>(pfag 9 cm rfl rfl rfl rfl (TF.fld_api_Link_4 _ _) D W fun _ D W=> ?_);obtain⟨A12,n12,c12,h28,H⟩:=H;refine vlg 10 cm rfl rfl rfl rfl (fun hw=>(i_load1 TF.agg_sl_int ((hw.cell _).trans h28))) D W fun _ D W=> ?_;obtain⟨h29,h30,a2,e2,H⟩:=H;refine pixg 11 cm rfl rfl rfl rfl rfl (i_index TF.elem_sl_int TF.size_int e2 h29 h30) D W fun _ D W=> ?_;obtain⟨x19,h31,H⟩:=H;refine vlg 12 cm rfl rfl rfl rfl (fun hw=>(i_load1 TF.agg_int ((hw.cell _).trans h31))) D W fun _ D W=> ?_;obtain⟨h32,h33,a3,e3,H⟩:=H;refine pixg 13 cm rfl rfl rfl rfl rfl (i_index TF.elem_sl_api_Link TF.size_api_Link e3 h32 h33) D W fun _ D W=>(pfag 14 cm rfl rfl rfl rfl (TF.fld_api_Link_2 _ _) D W fun _ D W=> ?_);obtain⟨x20,h34,H⟩:=H;refine vlg 15 cm rfl rfl rfl rfl (fun hw=>(i_load1 TF.agg_int ((hw.cell _).trans h34))) D W fun _ D W=> ?_;obtain⟨b9,h35,H⟩:=H;refine an_q (i:=16) cm rfl (by kernel_rfl) W rfl rfl (wanted_some rfl rfl rfl) (fun w' hw a ha=>x_callc (xs':=[(.int .i64 0),(.int .i64 x18),(.int .i64 x20),(.pointer (some p1)),(.pointer (some p3))]) (ha.ev rfl) (ha.evs rfl) rfl FF.callable_euf_follows_2) h35 rfl ?_;intro _ hd W;replace D:=D.trans hd;clear hd;refine ppt 17 cm rfl rfl rfl D W fun _ D W=> ?_;rcases tf b9 with hb|hb
           ·replace H:=H.1 hb;refine pv 18 cm rfl rfl rfl (fun w' a ha=>o_bt (x_move (ha.ev rfl)) hb) D W fun _ D W=>(pmvg 19 cm rfl rfl rfl rfl D W fun _ D W=> ?_);obtain⟨A13,n13,c13,h36,H⟩:=H;refine vlg 20 cm rfl rfl rfl rfl (fun hw=>(i_load1 TF.agg_sl_api_Link ((hw.cell _).trans h36))) D W fun _ D W=>(pfag 21 cm rfl rfl rfl rfl (TF.fld_api_Link_4 _ _) D W fun _ D W=> ?_);obtain⟨A14,n14,c14,h37,H⟩:=H;refine vlg 22 cm rfl rfl rfl rfl (fun hw=>(i_load1 TF.agg_sl_int ((hw.cell _).trans h37))) D W fun _ D W=> ?_;obtain⟨h38,h39,a4,e4,H⟩:=H;refine pixg 23 cm rfl rfl rfl rfl rfl (i_index TF.elem_sl_int TF.size_int e4 h38 h39) D W fun _ D W=> ?_;obtain⟨x21,h40,H⟩:=H;refine vlg 24 cm rfl rfl rfl rfl (fun hw=>(i_load1 TF.agg_int ((hw.cell _).trans h40))) D W fun _ D W=> ?_;obtain⟨h41,h42,a5,e5,H⟩:=H;refine pixg 25 cm rfl rfl rfl rfl rfl (i_index TF.elem_sl_api_Link TF.size_api_Link e5 h41 h42) D W fun _ D W=>(pfag 26 cm rfl rfl rfl rfl (TF.fld_api_Link_2 _ _) D W fun _ D W=> ?_);obtain⟨x22,h43,H⟩:=H;refine vlg 27 cm rfl rfl rfl rfl (fun hw=>(i_load1 TF.agg_int ((hw.cell _).trans h43))) D W fun _ D W=>(pfag 28 cm rfl rfl rfl rfl (TF.fld_api_Link_2 _ _) D W fun _ D W=> ?_);obtain⟨x23,h44,H⟩:=H;refine vlg 29 cm rfl rfl rfl rfl (fun hw=>(i_load1 TF.agg_int ((hw.cell _).trans h44))) D W fun _ D W=> ?_;obtain⟨b10,h45,H⟩:=H;refine an_q (i:=30) cm rfl (by kernel_rfl) W rfl rfl (wanted_some rfl rfl rfl) (fun w' hw a ha=>x_callc (xs':=[(.int .i64 1),(.int .i64 x22),(.int .i64 x23),(.pointer (some p1)),(.pointer (some p3))]) (ha.ev rfl) (ha.evs rfl) rfl FF.callable_euf_follows_2) h45 rfl ?_;intro _ hd W;replace D:=D.trans hd;clear hd;refine pptd 31 cm rfl rfl rfl D fun _ D=>(pagd 32 cm rfl rfl D fun _ D=>(an_end (by kernel_rfl) D ?_));intro w10 D;replace H:=H _ D;clear D cm;exact nx_to fun a ha=>⟨b10,ha.weaken (cn rfl zz),H⟩
           ·replace H:=H.2 hb;refine pv 18 cm rfl rfl rfl (fun w' a ha=>o_bf (x_move (ha.ev rfl)) hb) D W fun _ D W=>(ps 19 cm rfl rfl rfl rfl rfl D W fun _ D W=>(ps 20 cm rfl rfl rfl rfl rfl D W fun _ D W=>(ps 21 cm rfl rfl rfl rfl rfl D W fun _ D W=>(ps 22 cm rfl rfl rfl rfl rfl D W fun _ D W=>(ps 23 cm rfl rfl rfl rfl rfl D W fun _ D W=>(ps 24 cm rfl rfl rfl rfl rfl D W fun _ D W=>(ps 25 cm rfl rfl rfl rfl rfl D W fun _ D W=>(ps 26 cm rfl rfl rfl rfl rfl D W fun _ D W=>(ps 27 cm rfl rfl rfl rfl rfl D W fun _ D W=>(ps 28 cm rfl rfl rfl rfl rfl D W fun _ D W=>(ps 29 cm rfl rfl rfl rfl rfl D W fun _ D W=>(ps 30 cm rfl rfl rfl rfl rfl D W fun _ D W=>(ppfd 31 cm rfl rfl rfl D fun _ D=>(pagd 32 cm rfl rfl D fun _ D=>(an_end (by kernel_rfl) D ?_)))))))))))))));intro w12 D;replace H:=H _ D;clear D cm;exact nx_to fun a ha=>⟨false,ha.weaken (cn rfl zz),H⟩
          ·replace H:=H.2 hb;refine pv 4 cm rfl rfl rfl (fun w' a ha=>o_f (x_move (ha.ev rfl)) hb) D W fun _ D W=>(ps 5 cm rfl rfl rfl rfl rfl D W fun _ D W=>(ps 6 cm rfl rfl rfl rfl rfl D W fun _ D W=>(ps 7 cm rfl rfl rfl rfl rfl D W fun _ D W=>(ps 8 cm rfl rfl rfl rfl rfl D W fun _ D W=>(ps 9 cm rfl rfl rfl rfl rfl D W fun _ D W=>(ps 10 cm rfl rfl rfl rfl rfl D W fun _ D W=>(ps 11 cm rfl rfl rfl rfl rfl D W fun _ D W=>(ps 12 cm rfl rfl rfl rfl rfl D W fun _ D W=>(ps 13 cm rfl rfl rfl rfl rfl D W fun _ D W=>(ps 14 cm rfl rfl rfl rfl rfl D W fun _ D W=>(ps 15 cm rfl rfl rfl rfl rfl D W fun _ D W=>(ps 16 cm rfl rfl rfl rfl rfl D W fun _ D W=>(ppf 17 cm rfl rfl rfl D W fun _ D W=>(pmv 18 cm rfl rfl D W fun _ D W=>(ps 19 cm rfl rfl rfl rfl rfl D W fun _ D W=>(ps 20 cm rfl rfl rfl rfl rfl D W fun _ D W=>(ps 21 cm rfl rfl rfl rfl rfl D W fun _ D W=>(ps 22 cm rfl rfl rfl rfl rfl D W fun _ D W=>(ps 23 cm rfl rfl rfl rfl rfl D W fun _ D W=>(ps 24 cm rfl rfl rfl rfl rfl D W fun _ D W=>(ps 25 cm rfl rfl rfl rfl rfl D W fun _ D W=>(ps 26 cm rfl rfl rfl rfl rfl D W fun _ D W=>(ps 27 cm rfl rfl rfl rfl rfl D W fun _ D W=>(ps 28 cm rfl rfl rfl rfl rfl D W fun _ D W=>(ps 29 cm rfl rfl rfl rfl rfl D W fun _ D W=>(ps 30 cm rfl rfl rfl rfl rfl D W fun _ D W=>(ppfd 31 cm rfl rfl rfl D fun _ D=>(pagd 32 cm rfl rfl D fun _ D=>(an_end (by kernel_rfl) D ?_)))))))))))))))))))))))))))));intro w13 D;replace H:=H _ D;clear D cm;exact nx_to fun a ha=>⟨false,ha.weaken (cn rfl zz),H⟩
        ·replace H:=H.2 hb;refine cw_seq (cw_region (bo rfl rfl o_eql (ag rfl (sl_nil (nc (kp 0 rfl (kp 9 rfl (kp 10 rfl (kp 123 rfl zz)))) ?_)))));refine cw_cond_p rfl (fun hb=> ?_) (fun hb=> ?_)
         ·replace H:=H.1 hb;refine cw_join (fun a w=>∃p6:Addr,∃p7:Addr,Ok 184 [(9,(.pointer (some p3))),(10,(.func (.func F.euf_follows_2) #[] #[(.pointer (some p1)),(.pointer (some p3))])),(11,(.pointer (some p6))),(12,(.pointer (some p7)))] a∧vc_euf_follows_J6 K p3 p1 p6 p7 w) ?_ ?_
          ·rintro a w19 ⟨p6,p7,ha,H⟩;unfold vc_euf_follows_J6 at H;refine(?_:CW _ _ _ 184 [(9,(.pointer (some p3))),(10,(.func (.func F.euf_follows_2) #[] #[(.pointer (some p1)),(.pointer (some p3))])),(11,(.pointer (some p6))),(12,(.pointer (some p7)))] _) a ha;refine cw_seq ?_;refine cw_join_still (fun a=>∃b12,Ok 184 [(9,(.pointer (some p3))),(10,(.func (.func F.euf_follows_2) #[] #[(.pointer (some p1)),(.pointer (some p3))])),(11,(.pointer (some p6))),(12,(.pointer (some p7))),(162,(.bool b12))] a∧vc_euf_follows_J5 K w19 p3 p6 p7 p1 b12) ?_ ?_
           ·rintro a ⟨b12,ha,H⟩;unfold vc_euf_follows_J5 at H;refine(?_:CW _ _ _ 184 [(9,(.pointer (some p3))),(10,(.func (.func F.euf_follows_2) #[] #[(.pointer (some p1)),(.pointer (some p3))])),(11,(.pointer (some p6))),(12,(.pointer (some p7))),(162,(.bool b12))] _) a ha;refine cw_cond rfl (fun hb=> ?_) (fun hb=> ?_)
            ·replace H:=H.1 hb;exact cw_seq (cw_region (ag rfl (sl_nil (nc (kp 8 rfl zz) (cw_ret (nx_ret_then (nx_ret_block (nx_ret_then (nx_body_ret (res1 rfl rfl) ⟨_,rfl,_,rfl,H⟩)))))))))
            ·replace H:=H.2 hb;refine cw_skip (nc (kp 9 rfl (kp 10 rfl (kp 11 rfl (kp 12 rfl zz)))) (cw_seq (cw_seq (cw_region (fa rfl (TF.fld_api_Link_4 _ _) ?_)))));obtain⟨A21,n21,c21,h69,H⟩:=H;refine ld rfl (i_load1 TF.agg_sl_int h69) (sv rfl rfl (fun a ha=>x_builtin (ha.evs rfl) (fun _=>l_slice TF.isslice_sl_int)) (mv rfl (sl_nil (nc (kp 10 rfl (kp 11 rfl (kp 12 rfl (kp 165 rfl (kp 166 rfl zz))))) (cw_block ?_)))));obtain⟨I1,⟨k1,hi⟩,H⟩:=H;refine cw_loop (fun k1 a w'=>∃x31,Ok 184 [(10,(.func (.func F.euf_follows_2) #[] #[(.pointer (some p1)),(.pointer (some p3))])),(11,(.pointer (some p6))),(12,(.pointer (some p7))),(165,(.int .i64 (n21:Int))),(166,(.int .i64 x31))] a∧I1 k1 x31 w') (fun a ha=>⟨k1,0,ha.weaken (sub.cons rfl (sub.cons rfl (sub.cons rfl (sub.cons rfl (sub.cons rfl (sub.nil)))))),hi⟩) ?_;rintro k1 a w33 ⟨x31,ha,hI⟩;replace H:=H k1 x31 w33 hI;refine(?_:CW _ _ _ 184 [(10,(.func (.func F.euf_follows_2) #[] #[(.pointer (some p1)),(.pointer (some p3))])),(11,(.pointer (some p6))),(12,(.pointer (some p7))),(165,(.int .i64 (n21:Int))),(166,(.int .i64 x31))] _) a ha;refine cw_seq (cw_region (bo rfl rfl o_lss (sl_nil (nc (kp 10 rfl (kp 11 rfl (kp 12 rfl (kp 165 rfl (kp 166 rfl (kp 167 rfl zz)))))) (cw_seq ?_)))));refine cw_cond_p rfl (fun hb=> ?_) (fun hb=> ?_)
             ·replace H:=H.1 hb;refine cw_skip (nc (kp 10 rfl (kp 11 rfl (kp 12 rfl (kp 165 rfl (kp 166 rfl zz))))) (cw_seq (cw_block (cw_seq (cw_region (mv rfl (ag rfl (sl_nil (nc (kp 10 rfl (kp 11 rfl (kp 12 rfl (kp 13 rfl (kp 165 rfl (kp 166 rfl zz)))))) (cw_seq ?_))))))))));refine cw_any_drawn follows [0,1,2,3,4,5,6,7,8,9,10,11,12,13] [3,6,8,11,12] 14 rfl rfl (by kernel_rfl) (fun _ _ d _ _ h=>by cases d<;>exact h) (fun cm W D=> ?_);refine pmv 0 cm rfl rfl D W fun _ D W=>(pmv 1 cm rfl rfl D W fun _ D W=>(pfa 2 cm rfl rfl (TF.fld_api_Flat_1 _ _) D W fun _ D W=> ?_));obtain⟨A22,n22,c22,h70,H⟩:=H;refine vl 3 cm rfl rfl (fun hw=>(i_load1 TF.agg_sl_int ((hw.cell _).trans h70))) D W fun _ D W=>(pmv 4 cm rfl rfl D W fun _ D W=> ?_);obtain⟨h71,h72,a8,e8,H⟩:=H;refine pix 5 cm rfl rfl rfl (i_index TF.elem_sl_int TF.size_int e8 h71 h72) D W fun _ D W=> ?_;obtain⟨x32,h73,H⟩:=H;refine vl 6 cm rfl rfl (fun hw=>(i_load1 TF.agg_int ((hw.cell _).trans h73))) D W fun _ D W=>(pfa 7 cm rfl rfl (TF.fld_api_Flat_1 _ _) D W fun _ D W=> ?_);obtain⟨A23,n23,c23,h74,H⟩:=H;refine vl 8 cm rfl rfl (fun hw=>(i_load1 TF.agg_sl_int ((hw.cell _).trans h74))) D W fun _ D W=>(pmv 9 cm rfl rfl D W fun _ D W=> ?_);obtain⟨h75,h76,a9,e9,H⟩:=H;refine pix 10 cm rfl rfl rfl (i_index TF.elem_sl_int TF.size_int e9 h75 h76) D W fun _ D W=> ?_;obtain⟨x33,h77,H⟩:=H;refine vl 11 cm rfl rfl (fun hw=>(i_load1 TF.agg_int ((hw.cell _).trans h77))) D W fun _ D W=> ?_;obtain⟨b13,h78,H⟩:=H;refine an_q (i:=12) cm rfl (by kernel_rfl) W rfl rfl (wanted_none rfl) (fun w' hw a ha=>x_callc (xs':=[(.int .i64 x31),(.int .i64 x32),(.int .i64 x33),(.pointer (some p1)),(.pointer (some p3))]) (ha.ev rfl) (ha.evs rfl) rfl FF.callable_euf_follows_2) h78 rfl ?_;intro _ hd W;replace D:=D.trans hd;clear hd;refine pvd 13 cm rfl rfl rfl (fun w' a ha=>x_unOp (ha.ev rfl) u_not) D fun _ D=>(an_end (by kernel_rfl) D ?_);intro w34 D;replace H:=H _ D;clear D cm;refine nc (kp 10 rfl (kp 11 rfl (kp 12 rfl (kp 165 rfl (kp 166 rfl (kp 182 rfl zz)))))) ?_;refine cw_cond rfl (fun hb=> ?_) (fun hb=> ?_)
              ·replace H:=H.1 hb;exact cw_seq (cw_region (ag rfl (sl_nil (nc (kp 8 rfl zz) (cw_ret (nx_ret_block (nx_ret_then (nx_ret_then (nx_ret_block (nx_ret_then (nx_ret_block (nx_ret_then (nx_body_ret (res1 rfl rfl) ⟨_,rfl,_,rfl,H⟩)))))))))))))
              ·replace H:=H.2 hb;refine cw_skip (nx_block (nc (kp 10 rfl (kp 11 rfl (kp 12 rfl (kp 165 rfl (kp 166 rfl zz))))) (cw_region (bo rfl rfl o_add (mv rfl (sl_nil ?_))))));obtain⟨k2,hk,H⟩:=H;exact nx_to fun a ha=>⟨k2,hk,IntKind.wrap .i64 (x31+1),ha.weaken (cn rfl (cn rfl (cn rfl (cn rfl (cn rfl zz))))),H⟩
             ·replace H:=H.2 hb;exact cw_exit (nx_exit_then (nx_exit_then (nx_exit_hit (nc zz (cw_seq (cw_region (ag rfl (sl_nil (nc (kp 8 rfl zz) (cw_ret (nx_ret_block (nx_ret_then (nx_body_ret (res1 rfl rfl) ⟨_,rfl,_,rfl,H⟩)))))))))))))
           ·refine cw_region (fa rfl (TF.fld_api_Flat_0 _ _) ?_);obtain⟨x28,h62,H⟩:=H;refine ld rfl (i_load1 TF.agg_int h62) (bo rfl rfl o_lss ?_);rcases Classical.em (x28<0) with hb|hb
            ·replace H:=H.1 hb;exact sv rfl rfl (fun a ha=>o_t (x_move (ha.ev rfl)) hb) (sk rfl rfl rfl rfl (sk rfl rfl rfl rfl (sk rfl rfl rfl rfl (sk rfl rfl rfl rfl (sk rfl rfl rfl rfl (pt rfl rfl (mv rfl (sk rfl rfl rfl rfl (sk rfl rfl rfl rfl (sk rfl rfl rfl rfl (sk rfl rfl rfl rfl (sk rfl rfl rfl rfl (sk rfl rfl rfl rfl (sk rfl rfl rfl rfl (pt rfl rfl (mv rfl (sk rfl rfl rfl rfl (sk rfl rfl rfl rfl (sk rfl rfl rfl rfl (sk rfl rfl rfl rfl (sk rfl rfl rfl rfl (sk rfl rfl rfl rfl (sk rfl rfl rfl rfl (pt rfl rfl (sl_nil (nx_to fun a ha=>⟨⟨true,ha.weaken (cn rfl (cn rfl (cn rfl (cn rfl (cn rfl zz))))),H⟩,rfl⟩))))))))))))))))))))))))))
            ·replace H:=H.2 hb;refine sv rfl rfl (fun a ha=>o_f (x_move (ha.ev rfl)) hb) (fag rfl rfl rfl (TF.fld_api_Flat_0 _ _) ?_);obtain⟨x29,h63,H⟩:=H;refine ldg rfl rfl rfl (i_load1 TF.agg_int h63) (fag rfl rfl rfl (TF.fld_api_Flat_0 _ _) ?_);obtain⟨x30,h64,H⟩:=H;refine ldg rfl rfl rfl (i_load1 TF.agg_int h64) (bog rfl rfl rfl rfl o_neq (pf rfl rfl ?_));rcases Classical.em (x29≠x30) with hb|hb
             ·replace H:=H.1 hb;exact sv rfl rfl (fun a ha=>o_t (x_move (ha.ev rfl)) hb) (sk rfl rfl rfl rfl (sk rfl rfl rfl rfl (sk rfl rfl rfl rfl (sk rfl rfl rfl rfl (sk rfl rfl rfl rfl (sk rfl rfl rfl rfl (sk rfl rfl rfl rfl (pt rfl rfl (mv rfl (sk rfl rfl rfl rfl (sk rfl rfl rfl rfl (sk rfl rfl rfl rfl (sk rfl rfl rfl rfl (sk rfl rfl rfl rfl (sk rfl rfl rfl rfl (sk rfl rfl rfl rfl (pt rfl rfl (sl_nil (nx_to fun a ha=>⟨⟨true,ha.weaken (cn rfl (cn rfl (cn rfl (cn rfl (cn rfl zz))))),H⟩,rfl⟩)))))))))))))))))))
             ·replace H:=H.2 hb;refine sv rfl rfl (fun a ha=>o_f (x_move (ha.ev rfl)) hb) (fag rfl rfl rfl (TF.fld_api_Flat_1 _ _) ?_);obtain⟨A17,n17,c17,h65,H⟩:=H;refine ldg rfl rfl rfl (i_load1 TF.agg_sl_int h65) (svg rfl rfl rfl rfl (fun a ha=>x_builtin (ha.evs rfl) (fun _=>l_slice TF.isslice_sl_int)) (fag rfl rfl rfl (TF.fld_api_Flat_1 _ _) ?_));obtain⟨A18,n18,c18,h66,H⟩:=H;refine ldg rfl rfl rfl (i_load1 TF.agg_sl_int h66) (svg rfl rfl rfl rfl (fun a ha=>x_builtin (ha.evs rfl) (fun _=>l_slice TF.isslice_sl_int)) (bog rfl rfl rfl rfl o_neq (pf rfl rfl ?_)));rcases Classical.em ((n17:Int)≠(n18:Int)) with hb|hb
              ·replace H:=H.1 hb;exact sv rfl rfl (fun a ha=>o_t (x_move (ha.ev rfl)) hb) (sk rfl rfl rfl rfl (sk rfl rfl rfl rfl (sk rfl rfl rfl rfl (sk rfl rfl rfl rfl (sk rfl rfl rfl rfl (sk rfl rfl rfl rfl (sk rfl rfl rfl rfl (pt rfl rfl (sl_nil (nx_to fun a ha=>⟨⟨true,ha.weaken (cn rfl (cn rfl (cn rfl (cn rfl (cn rfl zz))))),H⟩,rfl⟩))))))))))
              ·replace H:=H.2 hb;refine sv rfl rfl (fun a ha=>o_f (x_move (ha.ev rfl)) hb) (fag rfl rfl rfl (TF.fld_api_Link_4 _ _) ?_);obtain⟨A19,n19,c19,h67,H⟩:=H;refine ldg rfl rfl rfl (i_load1 TF.agg_sl_int h67) (svg rfl rfl rfl rfl (fun a ha=>x_builtin (ha.evs rfl) (fun _=>l_slice TF.isslice_sl_int)) (fag rfl rfl rfl (TF.fld_api_Flat_1 _ _) ?_));obtain⟨A20,n20,c20,h68,H⟩:=H;exact ldg rfl rfl rfl (i_load1 TF.agg_sl_int h68) (svg rfl rfl rfl rfl (fun a ha=>x_builtin (ha.evs rfl) (fun _=>l_slice TF.isslice_sl_int)) (bog rfl rfl rfl rfl o_neq (pf rfl rfl (sl_nil (nx_to fun a ha=>⟨⟨(decide ((n19:Int)≠(n20:Int))),ha.weaken (cn rfl (cn rfl (cn rfl (cn rfl (cn rfl zz))))),H⟩,rfl⟩)))))
          ·obtain⟨X1,H⟩:=H;refine cw_any_keep follows X1 [0,1,2,3,4,5,6,7,8,9] [2,4,7,9] 14 rfl rfl (by kernel_rfl) (fun _ _ d _ _ h=>by cases d<;>exact h) (fun cm W D=> ?_);refine pmv 0 cm rfl rfl D W fun _ D W=>(pfa 1 cm rfl rfl (TF.fld_api_Link_1 _ _) D W fun _ D W=> ?_);obtain⟨x24,h46,hx',H⟩:=H;replace h46:=And.intro h46 hx';clear hx';refine vl 2 cm rfl rfl (fun hw=>(i_load1 TF.agg_int (hw.cell h46))) D W fun _ D W=> ?_;obtain⟨h47,h48,a6,e6,H⟩:=H;refine pix 3 cm rfl rfl rfl (i_index TF.elem_sl_api_Flat TF.size_api_Flat e6 h47 h48) D W fun _ D W=> ?_;obtain⟨x25,A15,n15,c15,h49,hx',H⟩:=H;replace h49:=And.intro h49 hx';clear hx';refine vl 4 cm rfl rfl (fun hw=>(i_loadN (vs:=[(.int .i64 x25),(.slice A15 n15 c15)]) TF.agg_api_Flat TF.size_api_Flat (hw.cells h49))) D W fun _ D W=>(pmv 5 cm rfl rfl D W fun _ D W=>(pfa 6 cm rfl rfl (TF.fld_api_Link_2 _ _) D W fun _ D W=> ?_));obtain⟨x26,h50,hx',H⟩:=H;replace h50:=And.intro h50 hx';clear hx';refine vl 7 cm rfl rfl (fun hw=>(i_load1 TF.agg_int (hw.cell h50))) D W fun _ D W=> ?_;obtain⟨h51,h52,a7,e7,H⟩:=H;refine pix 8 cm rfl rfl rfl (i_index TF.elem_sl_api_Flat TF.size_api_Flat e7 h51 h52) D W fun _ D W=> ?_;obtain⟨x27,A16,n16,c16,h53,hx',H⟩:=H;replace h53:=And.intro h53 hx';clear hx';refine vl 9 cm rfl rfl (fun hw=>(i_loadN (vs:=[(.int .i64 x27),(.slice A16 n16 c16)]) TF.agg_api_Flat TF.size_api_Flat (hw.cells h53))) D W fun _ D W=> ?_;refine an_ready (rs:=[10,11]) (by kernel_rfl) rfl (aw_cons ?_ (aw_cons ?_ aw_nil))
           ·replace H:=H.1;replace H:=H _ D;refine aw_new (f:=(fun p=> .pointer (some p))) rfl rfl rfl (wanted_none rfl) (fun a ha=>x_alloc (i_alloc TF.zero_api_Flat)) rfl true (by kernel_rfl) ?_;intro p4 w14 hN _ D;replace H:=H _ _ hN;replace W:=(W.new hN).drawn D;refine⟨fun _=>W,?_⟩;refine ar 11 ?_;replace H:=H _ D;refine aw_new (f:=(fun p=> .pointer (some p))) rfl rfl rfl (wanted_none rfl) (fun a ha=>x_alloc (i_alloc TF.zero_api_Flat)) rfl true (by kernel_rfl) ?_;intro p5 w15 hN _ D;replace H:=H _ _ hN;replace W:=(W.new hN).drawn D;refine⟨fun _=>W,?_⟩;refine ar 12 ?_;replace H:=H _ D;obtain⟨h56,H⟩:=H;refine aw_un rfl rfl (wanted_none rfl) (fun a ha=>x_store (ha.ev rfl) (ha.ev rfl) (i_storeN TF.size_api_Flat (by simp[Value.oneCell']) h56)) rfl true (by kernel_rfl) ?_;intro w16 hw _ D;replace H:=H _ hw;clear hw;have W:=H.1.drawn D;replace H:=H.2;refine⟨fun _=>W,?_⟩;refine ar 13 ?_;replace H:=H _ D;obtain⟨h57,H⟩:=H;refine aw_un rfl rfl (wanted_none rfl) (fun a ha=>x_store (ha.ev rfl) (ha.ev rfl) (i_storeN TF.size_api_Flat (by simp[Value.oneCell']) h57)) rfl false (by kernel_rfl) ?_;intro w17 hw _ D;replace H:=H _ hw;clear hw;refine⟨fun h=>(by cases h),?_⟩;refine an_end (by kernel_rfl) D ?_;intro w18 D;replace H:=H _ D;clear D cm;exact nx_to fun a ha=>⟨p4,p5,ha.weaken (cn rfl (cn rfl (cn rfl (cn rfl zz)))),H⟩
           ·replace H:=H.2;replace H:=H _ D;refine aw_new (f:=(fun p=> .pointer (some p))) rfl rfl rfl (wanted_none rfl) (fun a ha=>x_alloc (i_alloc TF.zero_api_Flat)) rfl true (by kernel_rfl) ?_;intro p8 w24 hN _ D;replace H:=H _ _ hN;replace W:=(W.new hN).drawn D;refine⟨fun _=>W,?_⟩;refine ar 10 ?_;replace H:=H _ D;refine aw_new (f:=(fun p=> .pointer (some p))) rfl rfl rfl (wanted_none rfl) (fun a ha=>x_alloc (i_alloc TF.zero_api_Flat)) rfl true (by kernel_rfl) ?_;intro p9 w25 hN _ D;replace H:=H _ _ hN;replace W:=(W.new hN).drawn D;refine⟨fun _=>W,?_⟩;refine ar 12 ?_;replace H:=H _ D;obtain⟨h60,H⟩:=H;refine aw_un rfl rfl (wanted_none rfl) (fun a ha=>x_store (ha.ev rfl) (ha.ev rfl) (i_storeN TF.size_api_Flat (by simp[Value.oneCell']) h60)) rfl true (by kernel_rfl) ?_;intro w26 hw _ D;replace H:=H _ hw;clear hw;have W:=H.1.drawn D;replace H:=H.2;refine⟨fun _=>W,?_⟩;refine ar 13 ?_;replace H:=H _ D;obtain⟨h61,H⟩:=H;refine aw_un rfl rfl (wanted_none rfl) (fun a ha=>x_store (ha.ev rfl) (ha.ev rfl) (i_storeN TF.size_api_Flat (by simp[Value.oneCell']) h61)) rfl false (by kernel_rfl) ?_;intro w27 hw _ D;replace H:=H _ hw;clear hw;refine⟨fun h=>(by cases h),?_⟩;refine an_end (by kernel_rfl) D ?_;intro w28 D;replace H:=H _ D;clear D cm;exact nx_to fun a ha=>⟨p9,p8,ha.weaken (cn rfl (cn rfl (cn rfl (cn rfl zz)))),H⟩
         ·replace H:=H.2 hb;exact cw_skip (nx_block (nc zz (cw_seq (cw_region (ag rfl (sl_nil (nc (kp 8 rfl zz) (cw_ret (nx_body_ret (res1 rfl rfl) ⟨_,rfl,_,rfl,H⟩)))))))))
 ·refine cw_region (fa rfl (TF.fld_api_Link_1 _ _) ?_);obtain⟨x7,h10,H⟩:=H;refine ld rfl (i_load1 TF.agg_int h10) (bo rfl rfl o_lss ?_);rcases Classical.em (x7<0) with hb|hb
  ·replace H:=H.1 hb;exact sv rfl rfl (fun a ha=>o_t (x_move (ha.ev rfl)) hb) (sk rfl rfl rfl rfl (sk rfl rfl rfl rfl (sk rfl rfl rfl rfl (pt rfl rfl (mv rfl (sk rfl rfl rfl rfl (sk rfl rfl rfl rfl (sk rfl rfl rfl rfl (sk rfl rfl rfl rfl (sk rfl rfl rfl rfl (pt rfl rfl (mv rfl (sk rfl rfl rfl rfl (sk rfl rfl rfl rfl (sk rfl rfl rfl rfl (sk rfl rfl rfl rfl (sk rfl rfl rfl rfl (pt rfl rfl (sl_nil (nx_to fun a ha=>⟨⟨true,ha.weaken (cn rfl (cn rfl (cn rfl (cn rfl (cn rfl (cn rfl zz)))))),H⟩,rfl⟩))))))))))))))))))))
  ·replace H:=H.2 hb;refine sv rfl rfl (fun a ha=>o_f (x_move (ha.ev rfl)) hb) (fag rfl rfl rfl (TF.fld_api_Link_2 _ _) ?_);obtain⟨x8,h11,H⟩:=H;refine ldg rfl rfl rfl (i_load1 TF.agg_int h11) (bog rfl rfl rfl rfl o_lss (pf rfl rfl ?_));rcases Classical.em (x8<0) with hb|hb
   ·replace H:=H.1 hb;exact sv rfl rfl (fun a ha=>o_t (x_move (ha.ev rfl)) hb) (sk rfl rfl rfl rfl (sk rfl rfl rfl rfl (sk rfl rfl rfl rfl (sk rfl rfl rfl rfl (sk rfl rfl rfl rfl (pt rfl rfl (mv rfl (sk rfl rfl rfl rfl (sk rfl rfl rfl rfl (sk rfl rfl rfl rfl (sk rfl rfl rfl rfl (sk rfl rfl rfl rfl (pt rfl rfl (sl_nil (nx_to fun a ha=>⟨⟨true,ha.weaken (cn rfl (cn rfl (cn rfl (cn rfl (cn rfl (cn rfl zz)))))),H⟩,rfl⟩)))))))))))))))
   ·replace H:=H.2 hb;refine sv rfl rfl (fun a ha=>o_f (x_move (ha.ev rfl)) hb) (fag rfl rfl rfl (TF.fld_api_Link_1 _ _) ?_);obtain⟨x9,h12,H⟩:=H;refine ldg rfl rfl rfl (i_load1 TF.agg_int h12) (mvg rfl rfl rfl (svg rfl rfl rfl rfl (fun a ha=>x_builtin (ha.evs rfl) (fun _=>l_slice TF.isslice_sl_api_Flat)) (bog rfl rfl rfl rfl o_geq (pf rfl rfl ?_))));rcases Classical.em ((n1:Int)≤x9) with hb|hb
    ·replace H:=H.1 hb;exact sv rfl rfl (fun a ha=>o_t (x_move (ha.ev rfl)) hb) (sk rfl rfl rfl rfl (sk rfl rfl rfl rfl (sk rfl rfl rfl rfl (sk rfl rfl rfl rfl (sk rfl rfl rfl rfl (pt rfl rfl (sl_nil (nx_to fun a ha=>⟨⟨true,ha.weaken (cn rfl (cn rfl (cn rfl (cn rfl (cn rfl (cn rfl zz)))))),H⟩,rfl⟩))))))))
    ·replace H:=H.2 hb;refine sv rfl rfl (fun a ha=>o_f (x_move (ha.ev rfl)) hb) (fag rfl rfl rfl (TF.fld_api_Link_2 _ _) ?_);obtain⟨x10,h13,H⟩:=H;exact ldg rfl rfl rfl (i_load1 TF.agg_int h13) (mvg rfl rfl rfl (svg rfl rfl rfl rfl (fun a ha=>x_builtin (ha.evs rfl) (fun _=>l_slice TF.isslice_sl_api_Flat)) (bog rfl rfl rfl rfl o_geq (pf rfl rfl (sl_nil (nx_to fun a ha=>⟨⟨(decide ((n1:Int)≤x10)),ha.weaken (cn rfl (cn rfl (cn rfl (cn rfl (cn rfl (cn rfl zz)))))),H⟩,rfl⟩))))))
def vc_euf_Audit (A1:Option Addr) (n1 c1:Nat) (A2:Option Addr) (n2 c2:Nat) (A3:Option Addr) (n3 c3:Nat) (K:Int→Int→World→Prop) (w:World):Prop:=
 Calls P F.euf_sound #[(.slice A1 n1 c1)] w (Ret fun v1 w1=>∃b1,v1=(.bool b1)∧((!b1)=true→(K 0 80 w1))∧((!b1)=false→(∃I1:Nat→Int→World→Prop,(∃k1,I1 k1 0 w1)∧∀k1 (x3:Int) (w2:World),I1 k1 x3 w2→((x3<(n3:Int)→(Calls P F.euf_follows #[(.slice A1 n1 c1),(.slice A2 n2 c2),(.slice A3 n3 c3),(.int .i64 x3)] w2 (Ret fun v2 w3=>∃b2,v2=(.bool b2)∧((!b2)=true→(K x3 0 w3))∧((!b2)=false→(∃k2,k2<k1∧I1 k2 (IntKind.wrap .i64 (x3+1)) w3)))))∧(¬(x3<(n3:Int))→(K (-1) 0 w2))))))
theorem ok_euf_Audit (A1:Option Addr) (n1 c1:Nat) (A2:Option Addr) (n2 c2:Nat) (A3:Option Addr) (n3 c3:Nat) (K:Int→Int→World→Prop) (w:World) (H:vc_euf_Audit A1 n1 c1 A2 n2 c2 A3 n3 c3 K w):Calls P F.euf_Audit #[(.slice A1 n1 c1),(.slice A2 n2 c2),(.slice A3 n3 c3)] w (Ret fun v w'=>∃x1,∃x2,v=(.tuple #[(.int .i64 x1),(.int .i64 x2)])∧K x1 x2 w'):=by
 unfold vc_euf_Audit at H;refine calls_of (P:=P) Tryd.func23 rfl [(0,(.slice A1 n1 c1)),(1,(.slice A2 n2 c2)),(2,(.slice A3 n3 c3))] 25 rfl rfl (aa rfl (aa rfl (aa rfl az))) (cw_seq (cw_region (ag rfl (ag rfl (sl_nil (nc (kp 0 rfl (kp 1 rfl (kp 2 rfl zz))) (cw_seq (cw_seq (cw_region (mv rfl (sl_call rfl rfl (wanted_none rfl) (fun a ha=>x_call0 (ha.ev rfl) (ha.evs rfl) FF.callable_euf_sound) H ?_)))))))))));rintro _ w1 ⟨b1,rfl,H⟩;refine sv rfl rfl (fun a ha=>x_unOp (ha.ev rfl) u_not) (sl_nil (nc (kp 0 rfl (kp 1 rfl (kp 2 rfl (kp 11 rfl zz)))) ?_));refine cw_cond rfl (fun hb=> ?_) (fun hb=> ?_)
 ·replace H:=H.1 hb;exact cw_seq (cw_region (ag rfl (ag rfl (sl_nil (nc (kp 6 rfl (kp 7 rfl zz)) (cw_ret (nx_ret_then (nx_body_ret (res2 rfl rfl rfl) ⟨_,rfl,_,_,rfl,H⟩))))))))
 ·replace H:=H.2 hb;refine cw_skip (nc (kp 0 rfl (kp 1 rfl (kp 2 rfl zz))) (cw_seq (cw_seq (cw_region (mv rfl (sv rfl rfl (fun a ha=>x_builtin (ha.evs rfl) (fun _=>l_slice TF.isslice_sl_api_Link)) (mv rfl (sl_nil (nc (kp 0 rfl (kp 1 rfl (kp 2 rfl (kp 13 rfl (kp 14 rfl zz))))) (cw_block ?_))))))))));obtain⟨I1,⟨k1,hi⟩,H⟩:=H;refine cw_loop (fun k1 a w'=>∃x3,Ok 25 [(0,(.slice A1 n1 c1)),(1,(.slice A2 n2 c2)),(2,(.slice A3 n3 c3)),(13,(.int .i64 (n3:Int))),(14,(.int .i64 x3))] a∧I1 k1 x3 w') (fun a ha=>⟨k1,0,ha.weaken (sub.cons rfl (sub.cons rfl (sub.cons rfl (sub.cons rfl (sub.cons rfl (sub.nil)))))),hi⟩) ?_;rintro k1 a w2 ⟨x3,ha,hI⟩;replace H:=H k1 x3 w2 hI;refine(?_:CW _ _ _ 25 [(0,(.slice A1 n1 c1)),(1,(.slice A2 n2 c2)),(2,(.slice A3 n3 c3)),(13,(.int .i64 (n3:Int))),(14,(.int .i64 x3))] _) a ha;refine cw_seq (cw_region (bo rfl rfl o_lss (sl_nil (nc (kp 0 rfl (kp 1 rfl (kp 2 rfl (kp 13 rfl (kp 14 rfl (kp 15 rfl zz)))))) (cw_seq ?_)))));refine cw_cond_p rfl (fun hb=> ?_) (fun hb=> ?_)
  ·replace H:=H.1 hb;refine cw_skip (nc (kp 0 rfl (kp 1 rfl (kp 2 rfl (kp 13 rfl (kp 14 rfl zz))))) (cw_seq (cw_block (cw_seq (cw_region (mv rfl (ag rfl (sl_nil (nc (kp 0 rfl (kp 1 rfl (kp 2 rfl (kp 8 rfl (kp 13 rfl (kp 14 rfl zz)))))) (cw_seq (cw_region (mv rfl (mv rfl (mv rfl (mv rfl (sl_call rfl rfl (wanted_none rfl) (fun a ha=>x_call0 (ha.ev rfl) (ha.evs rfl) FF.callable_euf_follows) H ?_))))))))))))))));rintro _ w3 ⟨b2,rfl,H⟩;refine sv rfl rfl (fun a ha=>x_unOp (ha.ev rfl) u_not) (sl_nil (nc (kp 0 rfl (kp 1 rfl (kp 2 rfl (kp 8 rfl (kp 13 rfl (kp 14 rfl (kp 22 rfl zz))))))) ?_));refine cw_cond rfl (fun hb=> ?_) (fun hb=> ?_)
   ·replace H:=H.1 hb;exact cw_seq (cw_region (mv rfl (ag rfl (ag rfl (sl_nil (nc (kp 6 rfl (kp 7 rfl zz)) (cw_ret (nx_ret_block (nx_ret_then (nx_ret_then (nx_ret_block (nx_ret_then (nx_body_ret (res2 rfl rfl rfl) ⟨_,rfl,_,_,rfl,H⟩)))))))))))))
   ·replace H:=H.2 hb;refine cw_skip (nx_block (nc (kp 0 rfl (kp 1 rfl (kp 2 rfl (kp 13 rfl (kp 14 rfl zz))))) (cw_region (bo rfl rfl o_add (mv rfl (sl_nil ?_))))));obtain⟨k2,hk,H⟩:=H;exact nx_to fun a ha=>⟨k2,hk,IntKind.wrap .i64 (x3+1),ha.weaken (cn rfl (cn rfl (cn rfl (cn rfl (cn rfl zz))))),H⟩
  ·replace H:=H.2 hb;exact cw_exit (nx_exit_then (nx_exit_then (nx_exit_hit (nc zz (cw_seq (cw_region (ag rfl (ag rfl (sl_nil (nc (kp 6 rfl (kp 7 rfl zz)) (cw_ret (nx_body_ret (res2 rfl rfl rfl) ⟨_,rfl,_,_,rfl,H⟩))))))))))))
end Go.Proofs.YtbmbhfghpidggaaDoor
