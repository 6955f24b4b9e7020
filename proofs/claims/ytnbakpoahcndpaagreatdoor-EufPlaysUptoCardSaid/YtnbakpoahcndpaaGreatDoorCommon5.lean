/- Towards the laws of this seat. Gathered by a program (pack.py) out of smaller texts. -/
import Derived.Test.YtnbakpoahcndpaaGreatDoorCommon4
set_option linter.unusedSectionVars false
set_option linter.unusedVariables false
set_option linter.unusedSimpArgs false
set_option maxHeartbeats 2000000
set_option maxRecDepth 20000
namespace Go.Proofs.YtnbakpoahcndpaaGreatDoor
open Wk
def Ch (ls:List Dk):List Int->Int->Int->Prop
 |[],x,y=>x=y
 |k::st,x,y=>∃z,LAt ls k x z/\Ch ls st z y
theorem Ch.snoc {ls:List Dk} {k:Int}:∀{st:List Int} {x y z:Int},Ch ls st x y->LAt ls k y z->Ch ls (st++[k]) x z
 |[],x,y,z,h,h'=>⟨z,by have:x=y:=h;rw[this];exact h',rfl⟩
 |_::st,x,y,z,⟨t,h1,h2⟩,h'=>⟨t,h1,h2.snoc h'⟩
theorem Ch.app {ls:List Dk} (m:List Dk):∀{st:List Int} {x y:Int},Ch ls st x y->Ch (ls++m) st x y
 |[],x,y,h=>h
 |_::st,x,y,⟨t,h1,h2⟩=>⟨t,h1.app m,Ch.app m h2⟩
theorem aPz {A:Option Addr} {c l s b:Nat} (h:At (Jl A c l s) b):At A b:=by
 unfold Jl at h
 split at h
 ·exact h
 ·obtain⟨a,ha,rfl⟩:=h
  cases A with
  |none=>cases ha
  |some a0=>cases ha;exact⟨a0,rfl,by rw[Addr.add_block]⟩
section
variable {B0:Nat} {Bp:Nat} {ws w w':World} {p U pp:Addr} {M N m1:Nat} {g:GS} {A:Nat->Option Addr} {n c:Nat->Nat} {H:Nat->Prop}
structure SI (X:Nat->Prop) (Bp:Nat) (ws:World) (p pp:Addr) (m1:Nat) (g:GS) (us:List Edge) (J:Nat) (w0:World) (AL0:Option Addr) (ls:List Dk) (of:List (Int×Int)) (bs d0:Nat) (a z:Int) (w':World) (D:Option Addr) (k d:Nat) (st:List Int) (AL:Option Addr) (nL cL:Nat) (lv:List Value) (m:List Dk) (of':List (Int×Int)):Prop where
 pt:PT (fun b=>X b\/At D b) Bp ws p pp m1 g w' AL nL cL lv (ls++m) of'
 iI:dU (PX pp m1 AL0) w0 (PX pp m1 AL) w'
 len:k=st.length
 row:Row w' bs T.int 1 D st.length d (st.map iv)
 sz:bs<=w'.heap.size
 ch:Ch (ls++m) st a z
 cnt:(ls++m).length+phi g us J of'<=ls.length+phi g us J of+d0
 mor:∀n,(fQ of n).isSome=true->(fQ of' n).isSome=true
 key:∀n,(fQ of' n).isSome=true->(fQ of n).isSome=true\/InJ g us J n
theorem SI.ext {X:Nat->Prop} {us:List Edge} {J bs d0:Nat} {w0 w'':World} {AL0:Option Addr} {ls:List Dk} {of:List (Int×Int)} {a z:Int} {D:Option Addr} {k d:Nat} {st:List Int} {AL:Option Addr} {nL cL:Nat} {lv:List Value} {m:List Dk} {of':List (Int×Int)} (h:SI X Bp ws p pp m1 g us J w0 AL0 ls of bs d0 a z w' D k d st AL nL cL lv m of') (e:Ext w' w''):SI X Bp ws p pp m1 g us J w0 AL0 ls of bs d0 a z w'' D k d st AL nL cL lv m of':=
 ⟨h.pt.step e,h.iI.trans (dU.iL e),h.len,h.row.keep e (fun _ _ h=>h),Nat.le_trans h.sz e.size,h.ch,h.cnt,h.mor,h.key⟩
theorem SI.next {X:Nat->Prop} {us:List Edge} {J bs d0 d1:Nat} {w0 w1:World} {AL0:Option Addr} {ls:List Dk} {of:List (Int×Int)} {a z y r:Int} {D:Option Addr} {k d:Nat} {st:List Int} {AL AL1:Option Addr} {nL cL nL1 cL1:Nat} {lv lv1:List Value} {m m':List Dk} {of' of1:List (Int×Int)} (h:SI X Bp ws p pp m1 g us J w0 AL0 ls of bs d0 a z w' D k d st AL nL cL lv m of')
  (hX:∀b,X b->b<bs) (hws:ws.heap.size<=bs) (hw0:w0.heap.size<=bs) (P1:PT (fun b=>X b\/At D b) Bp ws p pp m1 g w1 AL1 nL1 cL1 lv1 (ls++m++m') of1) (a1:dU (PX pp m1 AL) w' (PX pp m1 AL1) w1) (hc:(ls++m++m').length+phi g us J of1<=(ls++m).length+phi g us J of'+d1) (hm:∀n,(fQ of' n).isSome=true->(fQ of1 n).isSome=true) (hk:∀n,(fQ of1 n).isSome=true->(fQ of' n).isSome=true\/InJ g us J n) (hl:LAt (ls++m++m') r z y) (hbig:st.length+1<=1099511627776) {q:Addr} {w2:World} (hN:New w1 (.cells #[iv r] T.int) q w2):
  ∃D2 d2 w3,(Builtin.append_ #[T.bH,T.bH] T.bH #[.slice D k d,.slice (some q) 1 1]).run P w2= .ok (.slice D2 (k+1) d2) w3/\SI X Bp ws p pp m1 g us J w0 AL0 ls of bs (d0+d1) a y w3 D2 (k+1) d2 (st++[r]) AL1 nL1 cL1 lv1 (m++m') of1/\(∀b,b<w'.heap.size->At D2 b->At D b)/\Keep (fun b=>PX pp m1 AL b\/At D b) w' w3:=by
 have noD:∀b,At D b->¬PX pp m1 AL b:=fun b hb=>h.pt.ps.xno b (.inr hb)
 have R1:=h.row.keep a1.keep noD
 have E2:=Ext.eY hN
 have R2:=R1.keep E2 (fun _ _ h=>h)
 have s1:=a1.keep.size
 have s2:=E2.size
 have hsz:=h.sz
 obtain⟨D2,d2,w3,hr,hR,hK,hD⟩:=R2.aN1 (x:=r) (q:=q) (hN.cells rfl) hbig (by omega)
 rw[h.len]
 have nl:(ls++m++m')=ls++(m++m'):=List.append_assoc _ _ _
 have hP3:PT (fun b=>X b\/At D2 b) Bp ws p pp m1 g w3 AL1 nL1 cL1 lv1 (ls++m++m') of1:=(P1.step E2).far hK (fun b _ hb=> .inr hb) (fun b hb=>by
   rcases hb with hb|hb
   ·have:=hX b hb;have:=hK.size;omega
   ·exact(hR.at hb).2) (fun b hb hh=>by
   rcases hh with hh|hh
   ·exact .inl hh
   ·exact .inr ((hD b hh).resolve_right (by omega))) (fun b hb hy=>by have:=(h.row.at hy).1;omega)
 have chn:=(h.ch.app m').snoc hl
 rw[nl] at hP3 chn hc
 refine⟨D2,d2,w3,hr,⟨hP3,?_,by simp,?_,by have:=hK.size;omega,chn,by have:=h.cnt;omega,fun n hn=>hm n (h.mor n hn),fun n hn=> ?_⟩,fun b hb hh=>(hD b hh).resolve_right (by omega),?_⟩
 ·refine⟨((h.iI.trans a1).keep.over (E2.mono fun _ _ h=>h.elim) (fun i hi hh=>hh)).over hK (fun i hi hh=> ?_),fun i hi hh=>(h.iI.trans a1).grow i hi hh⟩
  have:=(h.row.at hh).1
  omega
 ·rw[List.length_append,List.length_singleton];exact hR
 ·rcases hk n hn with q'|q'
  ·exact h.key n q'
  ·exact .inr q'
 ·exact((a1.keep.mono fun i _ hi=> .inl hi).over (E2.mono fun _ _ h=>h.elim) (fun i hi hh=>hh)).over hK fun i hi hh=> .inr hh
theorem aMz {W mm J LB:Nat} {us l:List Edge} (h:dF B0 ws p U M N A n c H g) (k:GInv W mm g us l) (hB:ws.heap.size<=Bp) (hbig:LB+1<=1099511627776) (he:aQg Bp ws p pp m1 g us LB J):aN3 Bp ws p pp m1 g us LB J:=by
 intro X w AL nL cL lv ls of a b P_ va vb hc hle
 refine aCl pp a b (fun r w'=>Post X Bp ws p pp m1 g us J (Pz g) w AL ls of a b r w') w ?_
 have few:=k.few
 have hst:Pz g=3*g.nodes.length+2:=rfl
 have efd:fd g a=fd g b:=(hc.mono fun u hu=>List.mem_of_mem_take hu).to k.conn2
 obtain⟨cc,cc0,u1,u2,dis,vv1,vv2⟩:=aAv k va vb efd
 have hidx:=aIl k va vb hc
 have lB:=tV _ _ u1.nodup fun y hy=>(k.forest.aG0 va u1 y hy).1
 have lC:=tV _ _ u2.nodup fun y hy=>(k.forest.aG0 vb u2 y hy).1
 have lcc:=List.length_pos_iff.2 cc0
 rw[List.length_append] at lB lC
 unfold Mc
 refine⟨some p,P_.ps.c0,?_⟩
 refine(aFt (h.stay P_.ext) k va vb).mono ?_
 rintro _ w1 ⟨_,rfl,B,dB,C,dC,rfl,RB,RC,E1⟩
 generalize hup:(rJ g a b).1=up at*
 generalize hdn:(rJ g a b).2=dn at*
 have s1:=E1.size
 have wss:=P_.ext.size
 have xB:∀b,At B b->w.heap.size<=b/\b<w1.heap.size:=fun b hb=>RB.at hb
 have xC:∀b,At C b->w.heap.size<=b/\b<w1.heap.size:=fun b hb=>RC.at hb
 have hX1:∀b,X b->b<w1.heap.size:=fun b hb=>by have:=P_.ps.xlo b hb;omega
 have P1:PT (fun b=>X b\/At none b) Bp ws p pp m1 g w1 AL nL cL lv ls of:=P_.far E1 (fun _ _ h=>h.elim) (fun b hb=>hb.elim (hX1 b) fun hb=>by obtain⟨_,hb,_⟩:=hb;cases hb) (fun b hb hh=>hh.elim id fun hh=>by obtain⟨_,hh,_⟩:=hh;cases hh) (fun _ _ h=>h)
 have start:SI X Bp ws p pp m1 g us J w AL ls of w1.heap.size 0 a a w1 none 0 0 [] AL nL cL lv [] of:=⟨by rw[List.append_nil];exact P1,dU.iL E1,rfl,Row.nil _ _ _ _,Nat.le_refl _,rfl,by simp,fun _ h=>h,fun _ h=> .inl h⟩
 refine⟨_,rfl,B,_,dB,C,_,dC,rfl,?_⟩
 refine⟨fun k1 D n' d i w'=>∃st AL' nL' cL' lv' m of' z,k1=up.length-i.toNat/\0<=i/\i<=up.length/\SI X Bp ws p pp m1 g us J w AL ls of w1.heap.size 0 a z w' D n' d st AL' nL' cL' lv' m of'/\(up++cc)[i.toNat]? =some z/\(st.length:Int)=i/\Row w' w.heap.size T.int 1 B up.length dB (up.map iv)/\Row w' w.heap.size T.int 1 C dn.length dC (dn.map iv)/\(∀b,At B b\/At C b->¬PX pp m1 AL' b),⟨_,[],AL,nL,cL,lv,[],of,a,rfl,by omega,by omega,start,by obtain⟨t,ht⟩:=u1.head;rw[ht];rfl,rfl,RB,RC,fun b hb hh=> ?_⟩,?_⟩
 ·have h1:=(P_.ps.lo b hh).2
  have h2:=hb.elim (xB b) (xC b)
  omega
 rintro k1 D n' d i w2 ⟨st,AL',nL',cL',lv',m,of',z,rfl,i0,i1,S,hz,hsl,RB2,RC2,noBC⟩
 have keepRow:∀{w3:World} {AL2:Option Addr} {D2:Option Addr},Keep (fun b=>PX pp m1 AL' b\/At D b) w2 w3->(∀b,At D b->w1.heap.size<=b)->Row w3 w.heap.size T.int 1 B up.length dB (up.map iv)/\Row w3 w.heap.size T.int 1 C dn.length dC (dn.map iv):=fun hk hD=>
  ⟨RB2.keep hk (fun b hb hh=>hh.elim (noBC b (.inl hb)) fun hh=>by have:=hD b hh;have:=xB b hb;omega),RC2.keep hk (fun b hb hh=>hh.elim (noBC b (.inr hb)) fun hh=>by have:=hD b hh;have:=xC b hb;omega)⟩
 refine⟨fun hlt=> ?_,fun hge=> ?_⟩
 ·have hi:i.toNat<up.length:=by omega
  obtain⟨x,hx⟩:∃x,up[i.toNat]? =some x:=⟨_,List.getElem?_eq_getElem hi⟩
  obtain⟨aB,vB,hAB,hvB,hcB,_⟩:=RB2.get i0 hlt
  rw[List.getElem?_map,hx] at hvB
  cases hvB
  have hzx:z=x:=by rw[List.getElem?_append_left hi,hx] at hz;cases hz;rfl
  subst hzx
  obtain⟨vz,tz⟩:=vv1 z (List.mem_of_getElem? hx)
  obtain⟨j,_,hat⟩:=aIm k vz tz
  have hj:=hidx z (.inl (List.mem_of_getElem? hx)) j hat
  have hnext:(up++cc)[i.toNat+1]? =some (aW g.why z).to:=by
   rcases aIc u1 hz with⟨q,_⟩|⟨_,q⟩
   ·omega
   ·exact q
  refine⟨i0,hlt,aB,hAB,z,hcB,(he _ w2 AL' nL' cL' lv' (ls++m) of' z j S.pt vz tz hat hj (by have:=S.cnt;omega)).mono ?_⟩
  rintro _ w3 ⟨_,rfl,r,rfl,AL3,nL3,cL3,lv3,m3,of3,P3,a3,c3,mo3,ke3,la3⟩
  refine⟨_,rfl,r,rfl,fun p2 w4 hN4=> ?_⟩
  obtain⟨D2,d2,w5,hr5,S5,hD5,K5⟩:=S.next hX1 (by omega) (by omega) P3 a3 (d1:=0) c3 mo3 ke3 la3 (by omega) hN4
  refine⟨D2,_,d2,w5,hr5,up.length-(i.toNat+1),by omega,?_⟩
  rw[gI (n:=up.length) i0 hlt (by unfold Sm;omega)]
  obtain⟨RB5,RC5⟩:=keepRow (AL2:=AL3) (D2:=D2) K5 (fun b hb=>(S.row.at hb).1)
  refine⟨st++[r],AL3,nL3,cL3,lv3,m++m3,of3,_,by omega,by omega,by omega,S5,by rw[show(i+1).toNat=i.toNat+1 by omega];exact hnext,by rw[List.length_append,List.length_singleton];omega,RB5,RC5,fun b hb hh=> ?_⟩
  have hb1:=hb.elim (xB b) (xC b)
  have:=S.sz
  exact noBC b hb (a3.grow b (by omega) hh)
 ·have hi:i.toNat=up.length:=by omega
  have hz0:(dn++cc)[dn.length-0]? =some z:=by
   rw[hi,List.getElem?_append_right (Nat.le_refl _),Nat.sub_self] at hz
   rw[Nat.sub_zero,List.getElem?_append_right (Nat.le_refl _),Nat.sub_self]
   exact hz
  have hsl0:st.length<=up.length:=by omega
  refine⟨fun k3 D n' d i w'=>∃st AL' nL' cL' lv' m of' z,k3=dn.length-i.toNat/\0<=i/\i<=dn.length/\SI X Bp ws p pp m1 g us J w AL ls of w1.heap.size i.toNat a z w' D n' d st AL' nL' cL' lv' m of'/\(dn++cc)[dn.length-i.toNat]? =some z/\(st.length:Int)<=up.length+i/\(st.length=0->up.length=0/\i=0)/\Row w' w.heap.size T.int 1 C dn.length dC (dn.map iv)/\(∀b,At C b->¬PX pp m1 AL' b),⟨_,st,AL',nL',cL',lv',m,of',z,rfl,by omega,by omega,S,hz0,by omega,fun q=>⟨by omega,rfl⟩,RC2,fun b hb=>noBC b (.inr hb)⟩,?_⟩
  clear hz hsl RB2 RC2 noBC keepRow S hz0 hsl0
  rintro k3 D3 n3 d3 i w3 ⟨st,AL',nL',cL',lv',m,of',z,rfl,i0,i1,S,hz,hsl,hs0,RC3,noC⟩
  refine⟨fun hlt=> ?_,fun hge=> ?_⟩
  ·have hi:i.toNat<dn.length:=by omega
   have ew:IntKind.wrap .i64 ((IntKind.wrap .i64 ((dn.length:Int)-1))-i)=((dn.length-1-i.toNat:Nat):Int):=by
    rw[wrap_small (i:=(dn.length:Int)-1) (by omega) (by omega),wrap_small (by omega) (by omega)]
    omega
   rw[ew,Int.toNat_natCast]
   obtain⟨x,hx⟩:∃x,dn[dn.length-1-i.toNat]? =some x:=⟨_,List.getElem?_eq_getElem (by omega)⟩
   obtain⟨aC,vC,hAC,hvC,hcC,_⟩:=RC3.get (i:=((dn.length-1-i.toNat:Nat):Int)) (by omega) (by omega)
   rw[Int.toNat_natCast,List.getElem?_map,hx] at hvC
   cases hvC
   rw[Int.toNat_natCast] at hcC
   obtain⟨vx,tx⟩:=vv2 x (List.mem_of_getElem? hx)
   obtain⟨j,_,hat⟩:=aIm k vx tx
   have hj:=hidx x (.inr (List.mem_of_getElem? hx)) j hat
   have hx':(dn++cc)[dn.length-1-i.toNat]? =some x:=by rw[List.getElem?_append_left (by omega)];exact hx
   have hnext:(aW g.why x).to=z:=by
    rcases aIc u2 hx' with⟨q,_⟩|⟨_,q⟩
    ·omega
    ·rw[show dn.length-1-i.toNat+1=dn.length-i.toNat by omega,hz] at q
     exact(Option.some.inj q).symm
   refine⟨by omega,by omega,aC,hAC,x,hcC,(he _ w3 AL' nL' cL' lv' (ls++m) of' x j S.pt vx tx hat hj (by have:=S.cnt;omega)).mono ?_⟩
   rintro _ w4 ⟨_,rfl,r,rfl,AL4,nL4,cL4,lv4,m4,of4,P4,a4,c4,mo4,ke4,la4⟩
   rw[hnext] at la4
   obtain⟨r0,qq,hqq,qa,qb⟩:=la4
   have hcnt:=S.cnt
   have hr':r=((r.toNat:Nat):Int):=by omega
   have turn:=aHi (k:=r.toNat) P4.ps P4.base hqq (by omega)
   rw[<-hr'] at turn
   refine⟨_,rfl,r,rfl,turn.mono ?_⟩
   rintro _ w5 ⟨_,rfl,rfl,AL5,nL5,cL5,lv5,p5,a5⟩
   have lok:Qn g.nodes g.stand (ls++m++m4) (ls++m++m4).length ⟨3,qq.b,qq.a,0,[r]⟩:=by
    have hr2:=(List.getElem?_eq_some_iff.1 hqq).1
    refine⟨?_,?_,fun kk hk=> ?_,.inr (.inr (.inl ⟨rfl,rfl,r,rfl,r0,qq,hqq,rfl,rfl⟩))⟩
    ·show Vn _ qq.b
     rw[qb]
     exact(k.forest.aG0 vb u2 z (List.mem_of_getElem? hz)).1
    ·show Vn _ qq.a
     rw[qa];exact vx
    ·simp only[List.mem_singleton] at hk
     subst hk
     omega
   have P5:=P4.add p5 a5 lok (P4.lo hB)
   refine⟨_,rfl,_,rfl,fun p6 w6 hN6=> ?_⟩
   have la5:LAt (ls++m++(m4++[⟨3,qq.b,qq.a,0,[r]⟩])) ((ls++m++m4).length:Int) z x:=by
    have:=LAt.last (ls++m++m4) ⟨3,qq.b,qq.a,0,[r]⟩
    simp only at this
    rw[qa,qb] at this
    rw[<-List.append_assoc (ls++m)]
    rw[qa,qb]
    exact this
   obtain⟨D2,d2,w7,hr7,S7,hD7,K7⟩:=S.next (m':=m4++[⟨3,qq.b,qq.a,0,[r]⟩]) (d1:=1) hX1 (by omega) (by omega) (by rw[<-List.append_assoc];exact P5) (a4.trans a5) (by rw[<-List.append_assoc,List.length_append,List.length_singleton];omega) mo4 ke4 la5 (by omega) hN6
   refine⟨D2,_,d2,w7,hr7,dn.length-(i.toNat+1),by omega,?_⟩
   rw[gI (n:=dn.length) i0 hlt (by unfold Sm;omega)]
   have in1:(i+1).toNat=i.toNat+1:=by omega
   refine⟨st++[((ls++m++m4).length:Int)],AL5,nL5,cL5,lv5,m++(m4++[⟨3,qq.b,qq.a,0,[r]⟩]),of4,x,by omega,by omega,by omega,by rw[in1];exact S7,by rw[in1,show dn.length-(i.toNat+1)=dn.length-1-i.toNat by omega];exact hx',by rw[List.length_append,List.length_singleton];omega,fun q=>by simp at q,RC3.keep K7 (fun b hb hh=>hh.elim (noC b hb) fun hh=> ?_),fun b hb hh=> ?_⟩
   ·have h1:=(S.row.at hh).1
    have h2:=xC b hb
    omega
   ·have h2:=xC b hb
    have:=S.sz
    exact noC b hb ((a4.trans a5).grow b (by omega) hh)
  ·have hi:i.toNat=dn.length:=by omega
   have hzb:z=b:=by
    rw[hi,Nat.sub_self] at hz
    obtain⟨t,ht⟩:=u2.head
    rw[ht] at hz
    simpa using hz.symm
   subst hzb
   have hcnt:=S.cnt
   have hlen:=S.len
   refine⟨fun h0=> ?_,fun h0=> ?_⟩
   ·have st0:st=[]:=List.length_eq_zero_iff.1 (by omega)
    subst st0
    have eab:a=z:=S.ch
    have PX0:PT X Bp ws p pp m1 g w3 AL' nL' cL' lv' (ls++m) of':=S.pt.far (Keep.refl (fun _=>False) w3) (fun _ _ h=>h.elim) (fun b hb=>S.pt.ps.xlo b (.inl hb)) (fun b _ hb=> .inl hb) (fun _ _ h=>h)
    refine(aFe (x:=⟨2,a,z,0,[]⟩) (kc:=0) PX0.ps PX0.base (fun w' _=>⟨rfl,fun i x hx=>by simp at hx⟩) (Nat.zero_le _) (by omega)).mono ?_
    rintro _ w4 ⟨_,rfl,rfl,AL4,nL4,cL4,lv4,p4,a4⟩
    have lok:Qn g.nodes g.stand (ls++m) (ls++m).length ⟨2,a,z,0,[]⟩:=⟨va,vb,fun kk hk=>by simp at hk,.inr (.inl ⟨rfl,rfl,rfl,eab⟩)⟩
    have P4:=PX0.add p4 a4 lok (PX0.lo hB)
    refine⟨_,rfl,_,rfl,AL4,nL4,cL4,lv4,m++[⟨2,a,z,0,[]⟩],of',by rw[<-List.append_assoc];exact P4,S.iI.trans a4,?_,S.mor,S.key,?_⟩
    ·rw[<-List.append_assoc,List.length_append,List.length_singleton];omega
    ·rw[<-List.append_assoc];exact LAt.last (ls++m) ⟨2,a,z,0,[]⟩
   ·obtain⟨s0,st',rfl⟩:∃s0 st',st=s0::st':=by
     cases st with
     |nil=>simp at hlen;omega
     |cons x st=>exact⟨x,st,rfl⟩
    have hn3:n3=st'.length+1:=by rw[hlen];rfl
    obtain⟨a3,v3,hA3,hv3,hc3,_⟩:=S.row.get (i:=(0:Int)) (by omega) (by rw[List.length_cons];omega)
    simp at hv3
    subst hv3
    have hT:=S.row.tail (i:=1) (by simp)
    have eT:((s0::st').map iv).drop (1*1)=st'.map iv:=rfl
    rw[eT] at hT
    have e1:(1:Int).toNat=1:=rfl
    refine⟨by omega,by omega,a3,hA3,s0,hc3,by omega,by omega,?_⟩
    rw[e1,hn3,Nat.add_sub_cancel]
    obtain⟨z1,hz1,hch⟩:=S.ch
    refine⟨fun k5 x i' w'=>∃AL'' nL'' cL'' lv'' m' y,k5=st'.length-i'.toNat/\0<=i'/\i'<=st'.length/\PT (fun b=>X b\/At D3 b) Bp ws p pp m1 g w' AL'' nL'' cL'' lv'' (ls++m++m') of'/\dU (PX pp m1 AL') w3 (PX pp m1 AL'') w'/\(m'.length:Int)=i'/\LAt (ls++m++m') x a y/\Ch (ls++m++m') (st'.drop i'.toNat) y z,⟨_,AL',nL',cL',lv',[],z1,rfl,by omega,by omega,by rw[List.append_nil];exact S.pt,dU.refl _ _,rfl,by rw[List.append_nil];exact hz1,by rw[List.append_nil];exact hch⟩,?_⟩
    rintro k5 x i' w4 ⟨AL4,nL4,cL4,lv4,m',y,rfl,j0,j1,P4,a4,hm',hx4,hc4⟩
    have noD:∀b,At D3 b->¬PX pp m1 AL' b:=fun b hb=>S.pt.ps.xno b (.inr hb)
    have slen:=S.cnt
    have hmt:(ls++m++m').length=(ls++m).length+m'.length:=List.length_append
    have hs5:st'.length+1<=up.length+dn.length:=by simp only[List.length_cons] at hsl;omega
    refine⟨fun hlt=> ?_,fun hge'=> ?_⟩
    ·have hi':i'.toNat<st'.length:=by omega
     have T4:=(hT.keep a4.keep (fun b hb=>noD b (aPz hb)))
     obtain⟨a5,v5,hA5,hv5,hc5,_⟩:=T4.get (i:=i') j0 (by simp;omega)
     obtain⟨s,hs⟩:∃s,st'[i'.toNat]? =some s:=⟨_,List.getElem?_eq_getElem hi'⟩
     rw[List.getElem?_map,hs] at hv5
     cases hv5
     have hdrop:st'.drop i'.toNat=s::st'.drop (i'.toNat+1):=by
      rw[List.drop_eq_getElem_cons hi']
      congr 1
      exact(List.getElem?_eq_some_iff.1 hs).2
     rw[hdrop] at hc4
     obtain⟨y2,hy2,hc5'⟩:=hc4
     obtain⟨x0,q1,hq1,q1a,q1b⟩:=hx4
     obtain⟨s00,q2,hq2,q2a,q2b⟩:=hy2
     obtain⟨lt1,al1,C1,k1',d1',hal1,hcl1⟩:=P4.ps.link hq1
     obtain⟨lt2,al2,C2,k2',d2',hal2,hcl2⟩:=P4.ps.link hq2
     refine⟨j0,hlt,a5,hA5,s,hc5,AL4,nL4,cL4,P4.ps.c1,x0,by omega,al1,hal1,q1.a,hcl1 1 _ rfl,AL4,nL4,cL4,P4.ps.c1,s00,by omega,al2,hal2,q2.b,hcl2 2 _ rfl,fun w19 hw19 p4 w13 hN13 w15 hw15=> ?_⟩
     have E15:Ext w4 w15:=((Ext.aK hw19).new hN13).drawn hw15
     have P15:=P4.step E15
     have hst:St (fun b=>PX pp m1 AL4 b\/(X b\/At D3 b)) w15 fun w=>Ints w (some p4) 2 [x,s]:=aKz ((Ext.aK hw15).cells (hN13.cells rfl)) rfl (fun hh=>by
      have hlt:p4.block<w4.heap.size:=hh.elim (fun hh=>(P4.ps.lo _ hh).2) (P4.ps.xlo _)
      rw[hN13.block] at hlt
      have:=(Ext.aK hw19).size
      omega)
     refine(aFe (x:=⟨4,q1.a,q2.b,0,[x,s]⟩) (kc:=2) P15.ps P15.base hst (by unfold Sm;omega) (by omega)).mono ?_
     rintro _ w14 ⟨_,rfl,rfl,AL6,nL6,cL6,lv6,p6,a6⟩
     have l1:=(List.getElem?_eq_some_iff.1 hq1).1
     have l2:=(List.getElem?_eq_some_iff.1 hq2).1
     have hok2:=P4.ok _ q2 hq2
     have hok1:=P4.ok _ q1 hq1
     have lok:Qn g.nodes g.stand (ls++m++m') (ls++m++m').length ⟨4,q1.a,q2.b,0,[x,s]⟩:=by
      refine⟨hok1.va,hok2.vb,fun kk hk=> ?_,.inr (.inr (.inr (.inl ⟨rfl,rfl,x,s,y,rfl,⟨x0,q1,hq1,rfl,q1b⟩,⟨s00,q2,hq2,q2a,rfl⟩⟩)))⟩
      simp only[List.mem_cons,List.not_mem_nil,or_false] at hk
      rcases hk with rfl|rfl<;>omega
     have P6:=P15.add p6 a6 lok (P15.lo hB)
     refine⟨_,rfl,_,rfl,fun w17 hw17=>⟨st'.length-(i'.toNat+1),by omega,?_⟩⟩
     rw[gI (n:=st'.length) j0 hlt (by unfold Sm;omega)]
     refine⟨AL6,nL6,cL6,lv6,m'++[⟨4,q1.a,q2.b,0,[x,s]⟩],y2,by omega,by omega,by omega,by rw[<-List.append_assoc];exact P6.step (Ext.aK hw17),a4.trans ((dU.iL E15).trans (a6.trans (dU.aK hw17))),by rw[List.length_append,List.length_singleton];omega,?_,?_⟩
     ·rw[<-List.append_assoc]
      have:=LAt.last (ls++m++m') ⟨4,q1.a,q2.b,0,[x,s]⟩
      simp only at this
      rw[q1a,q2b] at this
      rw[q1a,q2b]
      exact this
     ·rw[<-List.append_assoc,show(i'+1).toNat=i'.toNat+1 by omega]
      exact hc5'.app _
    ·have hi':i'.toNat=st'.length:=by omega
     rw[hi',List.drop_length] at hc4
     have hyz:y=z:=hc4
     subst hyz
     have PXf:PT X Bp ws p pp m1 g w4 AL4 nL4 cL4 lv4 (ls++m++m') of':=P4.far (Keep.refl (fun _=>False) w4) (fun _ _ h=>h.elim) (fun b hb=>P4.ps.xlo b (.inl hb)) (fun b _ hb=> .inl hb) (fun _ _ h=>h)
     refine⟨AL4,nL4,cL4,lv4,m++m',of',by rw[<-List.append_assoc];exact PXf,S.iI.trans a4,?_,S.mor,S.key,by rw[<-List.append_assoc];exact hx4⟩
     rw[<-List.append_assoc]
     omega
end
section
variable {B0:Nat} {Bp:Nat} {ws w w':World} {p U pp:Addr} {M N m1:Nat} {g:GS} {A:Nat->Option Addr} {n c:Nat->Nat} {H:Nat->Prop}
theorem aM0 {W mm LB:Nat} {us l:List Edge} (h:dF B0 ws p U M N A n c H g) (k:GInv W mm g us l) (s:Sem g us g.stand) (hB:ws.heap.size<=Bp) (hbig:LB+1<=1099511627776):∀J,aN3 Bp ws p pp m1 g us LB J:=by
 intro J
 induction J using Nat.strongRecOn with
 |ind J ih=>exact aMz h k hB hbig (aOx h k s hB hbig ih)
theorem aO8 {W:Nat} {us:List Edge} {J:Nat} (hwd:Ns g.nodes g.nodes.length<=W) (hr:g.nodes.length*(W+2)+1<=300000000000) (hN:g.nodes.length<=1048576) (hW:W<=1048576):phi g us J []+Pz g+1<=1099511627775:=by
 have h1:phi g us J []<=((List.range g.nodes.length).map (Qd g)).sum:=Xq _ _ _ fun x _=>aP2
 have h2:∀k,k<=g.nodes.length->((List.range k).map (Qd g)).sum=2*k+Pz g*Ns g.nodes k:=by
  intro k
  induction k with
  |zero=>intro _;simp[Ns]
  |succ k ih=>
   intro hk
   have ih':=ih (by omega)
   have hx:g.nodes[k]? =some (fG g.nodes (k:Int)):=by unfold fG;rw[Int.toNat_natCast];exact getD_some (by omega)
   rw[List.range_succ,List.map_append,List.sum_append,ih',aDv hx,Nat.mul_add (Pz g)]
   simp only[List.map_cons,List.map_nil,List.sum_cons,List.sum_nil,Qd]
   omega
 have h3:=h2 g.nodes.length (Nat.le_refl _)
 have h4:Pz g*Ns g.nodes g.nodes.length<=Pz g*W:=Nat.mul_le_mul_left _ hwd
 have h5:Pz g*W=3*(g.nodes.length*W)+2*W:=by unfold Pz;rw[Nat.add_mul,Nat.mul_assoc]
 have h6:g.nodes.length*(W+2)=g.nodes.length*W+g.nodes.length*2:=Nat.mul_add _ _ _
 have h7:Pz g=3*g.nodes.length+2:=rfl
 omega
theorem aOb {C W:Nat} {us:List Edge} {a b:Int} (h:dF B0 w p U M N A n c H g) (hl:zM C W g us) (wd:aEp W g) (tight:g.nodes.length*(W+2)+1<=300000000000):
  Calls P F.Am #[.pointer (some p),iv a,iv b] w (cO fun v w'=>∃B m d e,v= .tuple #[.slice B m d,iv e]/\Ext w w'/\((¬There g a b/\e=80/\m=0)\/(There g a b/\¬iH g.nodes g.stand a b/\e=82/\m=0)\/
   (There g a b/\iH g.nodes g.stand a b/\e=0/\∃ls lv,m=ls.length/\ls.length<=1099511627776/\Row w' w.heap.size T.iT 5 B ls.length d lv/\St (At B) w' (fun w=>Yi Ef w lv ls)/\aEd g.nodes g.stand ls/\∃last,ls[ls.length-1]? =some last/\last.a=a/\last.b=b))):=by
 refine cO.mono (aBx p a b (fun B m d e w'=>Ext w w'/\((¬There g a b/\e=80/\m=0)\/(There g a b/\¬iH g.nodes g.stand a b/\e=82/\m=0)\/
   (There g a b/\iH g.nodes g.stand a b/\e=0/\∃ls lv,m=ls.length/\ls.length<=1099511627776/\Row w' w.heap.size T.iT 5 B ls.length d lv/\St (At B) w' (fun w=>Yi Ef w lv ls)/\aEd g.nodes g.stand ls/\∃last,ls[ls.length-1]? =some last/\last.a=a/\last.b=b))) w ?_) (by rintro _ w' ⟨B,m,d,e,rfl,hk⟩;exact⟨B,m,d,e,rfl,hk⟩)
 unfold Io
 refine(Uf h a b).mono ?_
 rintro _ w1 ⟨_,rfl,r,rfl,hr,rfl⟩
 refine⟨_,rfl,r,rfl,fun hn=>⟨Ext.refl _,.inl ⟨fun ht=> ?_,rfl,rfl⟩⟩,fun hn=> ?_⟩
 ·rw[hr.2 ht] at hn;cases hn
 have ht:There g a b:=hr.1 (by cases r<;>simp at hn⊢)
 have va:Vn g.nodes.length a:=⟨ht.1,ht.2.2.1⟩
 have vb:Vn g.nodes.length b:=⟨ht.2.1,ht.2.2.2⟩
 rw[add0]
 refine⟨fd g a,fun w' hw'=>tC (h.stay (Ext.aK hw')) va.1 (rZ (d:= -1) hl.inv.cls.lfirst va),fd g b,fun w' hw'=>tC (h.stay (Ext.aK hw')) vb.1 (rZ (d:= -1) hl.inv.cls.lfirst vb),fun w2 hw2=>⟨fun hne=>⟨Ext.aK hw2,.inr (.inl ⟨ht,fun q=>hne ((Gr.same_iff hl va vb).2 q),rfl,rfl⟩)⟩,fun heq m1 w3 hM3 p2 w4 hN4=> ?_⟩⟩
 have heq':fd g a=fd g b:=Decidable.not_not.1 heq
 have E3:Ext w2 w3:=(Ext.refl w2).aO0 hM3
 have E4:Ext w3 w4:=Ext.eY hN4
 have E24:Ext w2 w4:=E3.trans E4
 have E14:=(Ext.aK hw2).trans E24
 have hm1:=hM3.at_
 have hp2:=hN4.block
 have z3:w3.heap.size=w2.heap.size+1:=by rw[hM3.is];simp
 have z4:=hN4.size
 have few:=hl.inv.few
 have hphi:=aO8 (us:=us) (J:=us.length) wd.wide tight few hl.bd.wfew
 have m4:rQ (Value.int .i64) iv w4 m1 ([]:List (Int×Int)):=(rQ.new hM3).keep E4 (fun h=>h)
 have cells:=hN4.cells rfl
 have soft:=hN4.soft rfl
 have ps:PS (fun _=>False) w2.heap.size w4 p p2 m1 none 0 0 [] [] []:=by
  refine⟨cells 0 _ rfl,cells 1 _ rfl,(soft 1 (show 1<3 by decide)).2,cells 2 _ rfl,Row.nil _ _ _ _,fun w' _=>Yi.nil _ _,m4,fun hh=> ?_,fun hh=> ?_,by omega,by omega,by omega,by omega,fun _ h=>h.elim,fun _ h=>h.elim⟩
  ·obtain⟨_,hh,_⟩:=hh;cases hh
  ·obtain⟨_,hh,_⟩:=hh;cases hh
 have pt:PT (fun _=>False) w2.heap.size w2 p p2 m1 g w4 none 0 0 [] [] []:=⟨ps,fun i l hl=>by simp at hl,⟨fun n k hk=>by simp[fQ] at hk⟩,E24,E24.size⟩
 have hconn:yE (us.take us.length) a b:=by rw[List.take_length];exact hl.inv.conn1 a b va vb heq'
 refine(aM0 (h.stay (Ext.aK hw2)) hl.inv hl.sem (Nat.le_refl _) (LB:=1099511627775) (by omega) us.length _ w4 none 0 0 [] [] [] a b pt va vb hconn (by simp only[List.length_nil];omega)).mono ?_
 rintro _ w5 ⟨_,rfl,k,rfl,AL,nL,cL,lv,m,of',P5,a5,c5,_,_,lat⟩
 rw[List.nil_append] at P5 lat c5
 have hlt:=lat.lt
 obtain⟨k0,q,hq,qa,qb⟩:=lat
 have hlen:=P5.ps.len
 have hcap:=P5.ps.row.le
 simp only[List.length_nil] at c5
 have ew:IntKind.wrap .i64 (k+1)=k+1:=wrap_small (by omega) (by omega)
 have E5:Ext w1 w5:=(Ext.aK hw2).trans P5.ext
 refine⟨_,rfl,k,rfl,AL,nL,cL,P5.ps.c1,?_⟩
 rw[ew]
 refine⟨by omega,by omega,E5,.inr (.inr ⟨ht,(Gr.same_iff hl va vb).1 heq',rfl,m.take (k+1).toNat,lv.take ((k+1).toNat*5),by rw[List.length_take];omega,by rw[List.length_take];omega,?_,?_,?_,q,?_,qa,qb⟩)⟩
 ·have lt:(m.take (k+1).toNat).length=(k+1).toNat:=by rw[List.length_take];omega
  rw[lt]
  have:=P5.ps.row.cut (m:=(k+1).toNat) (d:=cL) (by omega) (by omega) (Nat.le_refl _)
  exact this.xE (by rw[hw2.heap];exact Nat.le_refl _)
 ·intro w6 hw6
  have:=P5.ps.sl w6 (hw6.mono fun i _ hi=> .inl (.inr (.inr hi)))
  refine⟨?_,fun i x hx=> ?_⟩
  ·have h1:=this.1
   rw[List.length_take,List.length_take]
   have e5:Ef.size=5:=rfl
   rw[e5] at h1⊢
   omega
  ·rw[List.getElem?_take] at hx
   split at hx
   ·rename_i hi
    have h2:=this.2 i x hx
    have e5:Ef.size=5:=rfl
    rw[e5] at h2⊢
    have:((lv.take ((k+1).toNat*5)).drop (i*5)).take 5=(lv.drop (i*5)).take 5:=by
     rw[List.drop_take,List.take_take,Nat.min_eq_left (by omega)]
    rw[this]
    exact h2
   ·cases hx
 ·intro i l' hl'
  rw[List.getElem?_take] at hl'
  split at hl'
  ·rename_i hi
   have ok:=P5.ok i l' hl'
   have cutAt:∀{kk x y:Int},kk<i->LAt m kk x y->LAt (m.take (k+1).toNat) kk x y:=fun {kk x y} hk ⟨h0,q,h1,h2⟩=>⟨h0,q,by rw[List.getElem?_take,if_pos (by omega)];exact h1,h2⟩
   refine⟨ok.va,ok.vb,ok.kids,?_⟩
   rcases ok.rule with r|r|⟨r1,r2,kk,r3,r4⟩|⟨r1,r2,kk,qq,x,r3,r4,r5⟩|⟨r1,r2,r3,r4,r5,r6,r7⟩
   ·exact .inl r
   ·exact .inr (.inl r)
   ·exact .inr (.inr (.inl ⟨r1,r2,kk,r3,cutAt (ok.kids kk (by rw[r3];simp)).2 r4⟩))
   ·exact .inr (.inr (.inr (.inl ⟨r1,r2,kk,qq,x,r3,cutAt (ok.kids kk (by rw[r3];simp)).2 r4,cutAt (ok.kids qq (by rw[r3];simp)).2 r5⟩)))
   ·exact .inr (.inr (.inr (.inr ⟨r1,r2,r3,r4,r5,r6,fun j kk x y h1 h2 h3=>cutAt (ok.kids kk (List.mem_of_getElem? h1)).2 (r7 j kk x y h1 h2 h3)⟩)))
  ·cases hl'
 ·rw[List.length_take,Nat.min_eq_left (by omega),List.getElem?_take,if_pos (by omega)]
  rw[show(k+1).toNat-1=k.toNat by omega]
  exact hq
end
theorem aA2 {fs:List Flat} {i:Int} {x:Flat} (h:fs[i.toNat]? =some x):fG fs i=x:=by
 unfold fG
 rw[List.getD_eq_getElem?_getD,h]
 rfl
structure Ep (W0:Nat) (fs:List Flat):Prop where
 few:fs.length<=1048576
 i64:∀x∈fs,I64 x.fn
 wide:Ns fs fs.length<=W0
 W:W0<=1048576
 tight:fs.length*(W0+2)+1<=300000000000
theorem aFd:∀{l:List Nat} {x:Nat},x∈l->x<=l.sum
 |[],_,h=>by cases h
 |y::l,x,h=>by
  rw[List.sum_cons]
  rcases List.mem_cons.1 h with rfl|h
  ·omega
  ·have:=aFd h
   omega
theorem Ep.args {W0:Nat} {fs:List Flat} (h:Ep W0 fs) {x:Flat} (hx:x∈fs):x.args.length<=W0:=by
 refine Nat.le_trans ?_ h.wide
 unfold Ns
 rw[List.take_length]
 exact aFd (List.mem_map.2 ⟨x,hx,rfl⟩)
def Aa (fs:List Flat) (a b:Int):Prop:=0<=a/\0<=b/\a<fs.length/\b<fs.length
theorem Aa.l {fs:List Flat} {a b:Int} (h:Aa fs a b):Vn fs.length a:=⟨h.1,h.2.2.1⟩
theorem Aa.r {fs:List Flat} {a b:Int} (h:Aa fs a b):Vn fs.length b:=⟨h.2.1,h.2.2.2⟩
theorem Aa.of {fs:List Flat} {a b:Int} (h:Vn fs.length a) (k:Vn fs.length b):Aa fs a b:=⟨h.1,k.1,h.2,k.2⟩
section
variable {B0:Nat} {w w' w0:World} {p U:Addr} {M N:Nat} {A:Nat->Option Addr} {n c:Nat->Nat} {H:Nat->Prop} {g:GS}
theorem dF.aM3 {X:Nat->Prop} (h:dF B0 w p U M N A n c H g) (k:Keep X w w') (hX:∀b,b<w.heap.size->X b->b<B0) (tab:yG B0 w'):dF B0 w' p U M N A n c H g:=by
 have k':Keep (fun b=>X b/\b<w.heap.size) w w':=k.mono fun i hi hx=>⟨hx,hi⟩
 have no:∀b,H b->¬(fun b=>X b/\b<w.heap.size) b:=fun b hb hx=>by
  have h1:=hX b hx.2 hx.1
  have h2:=(h.lo b hb).1
  omega
 refine⟨h.yK.keep k' fun b hb=>no b (h.sub b hb),?_,?_,h.map.keep k' (no M h.subM),h.mno,h.nad,h.nd.iI (dU.aHy k fun i hi hx=> .inl (hX i hi hx)),h.sub,h.subM,fun b hb=>⟨(h.lo b hb).1,Nat.lt_of_lt_of_le (h.lo b hb).2 k.size⟩,h.pU,tab⟩
 ·exact h.ucell.imp fun _ hc=>k'.cell ⟨hc,by rw[Addr.add_block];exact no _ (h.sub _ h.aL0)⟩
 ·exact k'.cell ⟨h.mcell,by rw[Addr.add_block];exact no _ (h.sub _ h.aL0)⟩
theorem aIv {B B':Nat} (h:yG B w) (hB:B<=B'):yG B' w:=fun w' k=>h w' ⟨k.os,k.tape,k.output,k.size,fun b hb=>k.block b (Nat.lt_of_lt_of_le hb hB)⟩
end
structure Live (W0 B0:Nat) (w:World) (p:Addr) (fs:List Flat) (H:Nat->Prop) (st:List dK) (ms:List Int):Prop where
 ok:Ep W0 fs
 ex:∃U M g us,Gr (fs.length*(W0+2)+1) W0 B0 w p U M fs.length H g us/\g.nodes=fs/\g.stand=st/\g.marks.map Mk.said=ms
section
variable {W0 B0:Nat} {w w':World} {p:Addr} {fs:List Flat} {H:Nat->Prop} {st:List dK} {ms:List Int}
theorem Live.stay (h:Live W0 B0 w p fs H st ms) (k:Ext w w'):Live W0 B0 w' p fs H st ms:=by
 obtain⟨ok,U,M,g,us,⟨⟨A,n,c,r⟩,l,hN⟩,e⟩:=h
 exact⟨ok,U,M,g,us,⟨⟨A,n,c,r.stay k⟩,l,hN⟩,e⟩
theorem Live.far {X:Nat->Prop} (h:Live W0 B0 w p fs H st ms) (k:Keep X w w') (hX:∀b,b<w.heap.size->X b->b<B0) (tab:yG B0 w'):Live W0 B0 w' p fs H st ms:=by
 obtain⟨ok,U,M,g,us,⟨⟨A,n,c,r⟩,l,hN⟩,e⟩:=h
 exact⟨ok,U,M,g,us,⟨⟨A,n,c,r.aM3 k hX tab⟩,l,hN⟩,e⟩
theorem Live.lo (h:Live W0 B0 w p fs H st ms):∀b,H b->B0<=b/\b<w.heap.size:=by
 obtain⟨ok,U,M,g,us,⟨⟨A,n,c,r⟩,l,hN⟩,e⟩:=h
 exact r.lo
theorem Live.sound (h:Live W0 B0 w p fs H st ms):Sound fs:=by
 obtain⟨ok,U,M,g,us,⟨⟨A,n,c,r⟩,l,hN⟩,rfl,_⟩:=h
 exact l.inv.sound
theorem Live.val (h:Live W0 B0 w p fs H st ms):∀s∈st,Aa fs s.a s.b:=by
 obtain⟨ok,U,M,g,us,⟨⟨A,n,c,r⟩,l,hN⟩,rfl,rfl,_⟩:=h
 intro s hs
 obtain⟨v1,v2⟩:=l.sem.val s hs
 exact .of v1 v2
theorem Live.wide (h:Live W0 B0 w p fs H st ms) (hs:st.length<=1048575):∃U M A n c g us,dF B0 w p U M fs.length A n c H g/\zM (fs.length*(W0+2)+1) W0 g us/\aEp W0 g/\g.nodes=fs/\g.stand=st/\g.marks.map Mk.said=ms:=by
 obtain⟨ok,U,M,g,us,⟨⟨A,n,c,r⟩,l,hN⟩,rfl,rfl,e⟩:=h
 have t:=ok.tight
 exact⟨U,M,A,n,c,g,us,r,l,⟨ok.wide,fun x hx=>ok.args hx,by omega,hs⟩,rfl,rfl,e⟩
theorem aNm {A1:Option Addr} {c1:Nat} (hx:∀w',Ext w w'->Sl mO w' A1 fs.length fs) (hB:B0<=w.heap.size) (tab:yG B0 w) (ok:Ep W0 fs):
  Calls P F.Vb #[.slice A1 fs.length c1] w (cO fun v w'=>(¬Sound fs/\v= .tuple #[.pointer none,iv 80]/\Ext w w')\/(Sound fs/\∃p H,v= .tuple #[.pointer (some p),iv 0]/\Live W0 B0 w' p fs H [] []/\dU (fun _=>False) w H w')):=by
 have t:=ok.tight
 refine cO.mono (aNd hx hB tab ok.few ok.i64 ok.wide ok.W (by omega)) ?_
 rintro v w' (⟨h1,h2,h3⟩|⟨h1,p,U,M,H,g,us,h2,h3,h4,h5,h6,h7⟩)
 ·exact .inl ⟨h1,h2,h3⟩
 ·exact .inr ⟨h1,p,H,h2,⟨ok,U,M,g,us,h3,h4,h5,by rw[h6];rfl⟩,h7⟩
theorem Live.equal {a b t:Int} (h:Live W0 B0 w p fs H st ms) (hs:st.length<=1048576):
  Calls P F.rD #[.pointer (some p),iv a,iv b,iv t] w (cO fun v w'=>∃e:Int,v= iv e/\∃H',dU H w H' w'/\
   ((¬Aa fs a b/\e=80/\Live W0 B0 w' p fs H' st ms)\/(Aa fs a b/\e=0/\Live W0 B0 w' p fs H' (st++[⟨a,b,t,false⟩]) ms))):=by
 obtain⟨ok,U,M,g,us,hg,rfl,rfl,rfl⟩:=h
 refine cO.mono (aF6 (a:=a) (b:=b) (t:=t) hg (by omega)) ?_
 rintro v w' ⟨e,rfl,H',g',us',k,iI,_,hm,hn,hv,⟨h1,rfl,rfl,rfl⟩|⟨h1,rfl,h2⟩⟩
 ·exact⟨_,rfl,H',iI,.inl ⟨h1,rfl,ok,U,M,_,_,k,rfl,rfl,rfl⟩⟩
 ·exact⟨_,rfl,H',iI,.inr ⟨h1,rfl,ok,U,M,g',us',k,hn,h2,by rw[hm]⟩⟩
theorem Live.differ {a b t:Int} (h:Live W0 B0 w p fs H st ms) (hs:st.length<=1048576):
  Calls P F.oV #[.pointer (some p),iv a,iv b,iv t] w (cO fun v w'=>∃e:Int,v= iv e/\∃H',dU H w H' w'/\
   ((¬Aa fs a b/\e=80/\Live W0 B0 w' p fs H' st ms)\/(Aa fs a b/\e=0/\Live W0 B0 w' p fs H' (st++[⟨a,b,t,true⟩]) ms))):=by
 obtain⟨ok,U,M,g,us,⟨⟨A,n,c,r⟩,l,hN⟩,rfl,rfl,rfl⟩:=h
 refine cO.mono (aD2 (a:=a) (b:=b) (t:=t) r (by omega)) ?_
 rintro v w' ⟨e,rfl,A',n',c',H',g',k,iI,_,⟨h1,rfl,rfl⟩|⟨h1,rfl,rfl⟩⟩
 ·exact⟨_,rfl,H',iI,.inl ⟨h1,rfl,ok,U,M,_,us,⟨⟨A',n',c',k⟩,l,hN⟩,rfl,rfl,rfl⟩⟩
 ·have h1':There g a b:=h1
  exact⟨_,rfl,H',iI,.inr ⟨h1,rfl,ok,U,M,_,us,⟨⟨A',n',c',k⟩,l.differ ⟨h1'.1,h1'.2.2.1⟩ ⟨h1'.2.1,h1'.2.2.2⟩,hN⟩,rfl,rfl,rfl⟩⟩
theorem Live.push (h:Live W0 B0 w p fs H st ms) (hm:ms.length<=1048576):
  Calls P F.wH #[.pointer (some p)] w (cO fun v w'=>v= .tuple #[]/\∃H',dU H w H' w'/\Live W0 B0 w' p fs H' st (ms++[(st.length:Int)])):=by
 obtain⟨ok,U,M,g,us,⟨⟨A,n,c,r⟩,l,hN⟩,rfl,rfl,rfl⟩:=h
 rw[List.length_map] at hm
 refine cO.mono (aLd r (by omega)) ?_
 rintro v w' ⟨rfl,A',n',c',H',k,iI,_⟩
 exact⟨rfl,H',iI,ok,U,M,_,us,⟨⟨A',n',c',k⟩,l.push,hN⟩,rfl,rfl,by simp⟩
def Ji (st:List dK) (ms:List Int) (k:Int):List dK×List Int:=
 if 0<k/\k<=ms.length then(st.take (ms.getD (ms.length-k.toNat) 0).toNat,ms.take (ms.length-k.toNat)) else(st,ms)
theorem Live.pop {k:Int} (h:Live W0 B0 w p fs H st ms) (hs:st.length<=1048576) (hm:ms.length<=1048576) (hk:I64 k):
  Calls P F.yD #[.pointer (some p),iv k] w (cO fun v w'=>∃e:Int,v= iv e/\∃H',dU H w H' w'/\((k<0\/ms.length<k)/\e=81\/¬(k<0\/ms.length<k)/\e=0)/\Live W0 B0 w' p fs H' (Ji st ms k).1 (Ji st ms k).2):=by
 obtain⟨ok,U,M,g,us,hg,rfl,rfl,rfl⟩:=h
 rw[List.length_map] at hm
 refine cO.mono (aM8 hg (by omega) (by omega) hk) ?_
 unfold Ji
 rw[List.length_map]
 rintro v w' ⟨e,rfl,H',g',us',q,iI,_,hn,hv,⟨h1,rfl,rfl,rfl⟩|⟨h1,rfl,rfl,rfl⟩|⟨h1,h2,rfl,h3,m,h4,h5⟩⟩
 ·refine⟨_,rfl,H',iI,.inl ⟨h1,rfl⟩,ok,U,M,_,_,q,rfl,?_⟩
  rw[if_neg (by omega)]
  exact⟨rfl,rfl⟩
 ·refine⟨_,rfl,H',iI,.inr ⟨by omega,rfl⟩,ok,U,M,_,_,q,rfl,?_⟩
  rw[if_neg (by omega)]
  exact⟨rfl,rfl⟩
 ·refine⟨_,rfl,H',iI,.inr ⟨by omega,rfl⟩,ok,U,M,g',us',q,hn,?_⟩
  rw[if_pos ⟨h1,h2⟩]
  refine⟨?_,?_⟩
  ·rw[h5,List.getD_eq_getElem?_getD,List.getElem?_map,h4]
   rfl
  ·rw[h3,List.map_take]
theorem Live.why {a b:Int} (h:Live W0 B0 w p fs H st ms) (hs:st.length<=1048575):
  Calls P F.Hl #[.pointer (some p),iv a,iv b] w (cO fun v w'=>∃B m d e,v= .tuple #[.slice B m d,iv e]/\Ext w w'/\((¬Aa fs a b/\e=80/\m=0)\/(Aa fs a b/\¬iH fs st a b/\e=82/\m=0)\/
   (Aa fs a b/\iH fs st a b/\e=0/\∃out,m=out.length/\Row w' w.heap.size T.int 1 B out.length d (out.map iv)/\Bare (fun tags=>iH fs (pick st tags) a b) out))):=by
 obtain⟨U,M,A,n,c,g,us,r,l,wd,rfl,rfl,rfl⟩:=h.wide hs
 exact aRd r l wd
theorem Live.aM7 {a b:Int} (h:Live W0 B0 w p fs H st ms) (hs:st.length<=1048575):
  Calls P F.vV #[.pointer (some p),iv a,iv b] w (cO fun v w'=>∃B m d e,v= .tuple #[.slice B m d,iv e]/\Ext w w'/\((¬Aa fs a b/\e=80/\m=0)\/(Aa fs a b/\¬jP fs st a b/\e=91/\m=0)\/
   (Aa fs a b/\jP fs st a b/\e=0/\∃out,m=out.length/\Row w' w.heap.size T.int 1 B out.length d (out.map iv)/\Bare (fun tags=>jP fs (pick st tags) a b) out))):=by
 obtain⟨U,M,A,n,c,g,us,r,l,wd,rfl,rfl,rfl⟩:=h.wide hs
 exact aJi r l wd
theorem Live.aNz (h:Live W0 B0 w p fs H st ms) (hs:st.length<=1048575):
  Calls P F.vW #[.pointer (some p)] w (cO fun v w'=>∃B m d e,v= .tuple #[.slice B m d,iv e]/\Ext w w'/\((¬mW fs st/\e=91/\m=0)\/
   (mW fs st/\e=0/\∃out,m=out.length/\Row w' w.heap.size T.int 1 B out.length d (out.map iv)/\Bare (fun tags=>mW fs (pick st tags)) out))):=by
 obtain⟨U,M,A,n,c,g,us,r,l,wd,rfl,rfl,rfl⟩:=h.wide hs
 exact aIj r l wd
theorem Live.prove {a b:Int} (h:Live W0 B0 w p fs H st ms) (hs:st.length<=1048575):
  Calls P F.Am #[.pointer (some p),iv a,iv b] w (cO fun v w'=>∃B m d e,v= .tuple #[.slice B m d,iv e]/\Ext w w'/\((¬Aa fs a b/\e=80/\m=0)\/(Aa fs a b/\¬iH fs st a b/\e=82/\m=0)\/
   (Aa fs a b/\iH fs st a b/\e=0/\∃ls lv,m=ls.length/\ls.length<=1099511627776/\Row w' w.heap.size T.iT 5 B ls.length d lv/\St (At B) w' (fun w=>Yi Ef w lv ls)/\aEd fs st ls/\∃last,ls[ls.length-1]? =some last/\last.a=a/\last.b=b))):=by
 obtain⟨U,M,A,n,c,g,us,r,l,wd,rfl,rfl,rfl⟩:=h.wide hs
 exact aOb r l wd (h.ok.tight)
theorem Live.same {a b:Int} (h:Live W0 B0 w p fs H st ms):
  Calls P F.Em #[.pointer (some p),iv a,iv b] w (cO fun v w'=>∃(r:Bool) (e:Int),v= .tuple #[.bool r,iv e]/\((¬Aa fs a b/\r=false/\e=80)\/(Aa fs a b/\e=0/\(r=true↔iH fs st a b)))/\Ext w w'):=by
 obtain⟨ok,U,M,g,us,⟨⟨A,n,c,r⟩,l,hN⟩,rfl,rfl,rfl⟩:=h
 refine cO.mono (aPl r fun x h0 h1=>⟨_,rZ (d:= -1) l.inv.cls.lfirst ⟨h0,h1⟩⟩) ?_
 rintro v w' ⟨q,e,rfl,hh,hd⟩
 refine⟨q,e,rfl,hh.imp (fun k=>k) fun⟨k1,k2,k3⟩=>⟨k1,k2,k3.trans ?_⟩,Ext.aK hd⟩
 have va:Vn g.nodes.length a:=⟨k1.1,k1.2.2.1⟩
 have vb:Vn g.nodes.length b:=⟨k1.2.1,k1.2.2.2⟩
 have ha:=rZ (d:= -1) l.inv.cls.lfirst va
 have hb:=rZ (d:= -1) l.inv.cls.lfirst vb
 rw[<-Gr.same_iff l va vb,ha,hb]
 exact⟨fun q=>Option.some.inj q,fun q=>congrArg some q⟩
theorem Live.apart {a b:Int} (h:Live W0 B0 w p fs H st ms) (hs:st.length<=1048576):
  Calls P F.Aj #[.pointer (some p),iv a,iv b] w (cO fun v w'=>∃(r:Bool) (e:Int),v= .tuple #[.bool r,iv e]/\((¬Aa fs a b/\r=false/\e=80)\/(Aa fs a b/\e=0/\(r=true↔jP fs st a b)))/\Ext w w'):=by
 obtain⟨ok,U,M,g,us,⟨⟨A,n,c,r⟩,l,hN⟩,rfl,rfl,rfl⟩:=h
 refine cO.mono (aOk r (Ry l (by unfold Sm;omega)) a b) ?_
 rintro v w' ⟨q,e,rfl,hh,hd⟩
 exact⟨q,e,rfl,hh.imp (fun k=>k) fun⟨k1,k2,k3⟩=>⟨k1,k2,k3.trans (aA5 l ⟨k1.1,k1.2.2.1⟩ ⟨k1.2.1,k1.2.2.2⟩)⟩,hd⟩
theorem Live.clash (h:Live W0 B0 w p fs H st ms) (hs:st.length<=1048576):
  Calls P F.xK #[.pointer (some p)] w (cO fun v w'=>∃b,v= .bool b/\(b=true↔mW fs st)/\Ext w w'):=by
 obtain⟨ok,U,M,g,us,⟨⟨A,n,c,r⟩,l,hN⟩,rfl,rfl,rfl⟩:=h
 refine cO.mono (aIw r (Ry l (by unfold Sm;omega))) ?_
 rintro v w' ⟨q,rfl,hh,hd⟩
 exact⟨q,rfl,hh.trans (aA6 l),hd⟩
structure Tn (fs:List Flat) (st:List dK) (r:List Int):Prop where
 len:r.length=fs.length
 at_:∀(i:Nat) x,r[i]? =some x->iH fs st i x/\∀y,iH fs st i y->x<=y
theorem Tn.uniq {r r':List Int} {st':List dK} (h:Tn fs st r) (k:Tn fs st' r') (he:∀x y,iH fs st x y↔iH fs st' x y):r=r':=by
 refine List.ext_getElem? fun i=> ?_
 rcases Nat.lt_or_ge i fs.length with hi|hi
 ·have h1:=List.getElem?_eq_getElem (l:=r) (i:=i) (by rw[h.len];exact hi)
  have h2:=List.getElem?_eq_getElem (l:=r') (i:=i) (by rw[k.len];exact hi)
  obtain⟨a1,a2⟩:=h.at_ i _ h1
  obtain⟨b1,b2⟩:=k.at_ i _ h2
  have c1:=a2 _ ((he _ _).2 b1)
  have c2:=b2 _ ((he _ _).1 a1)
  rw[h1,h2]
  exact congrArg some (Int.le_antisymm c1 c2)
 ·rw[List.getElem?_eq_none (by rw[h.len];exact hi),List.getElem?_eq_none (by rw[k.len];exact hi)]
theorem Live.roots (h:Live W0 B0 w p fs H st ms) (hs:st.length<=1048576):
  Calls P F.Ak #[.pointer (some p)] w (cO fun v w'=>∃B d r,v= .slice B fs.length d/\Own w' w.heap.size T.int 1 B fs.length d (r.map iv)/\Tn fs st r/\Ext w w'):=by
 obtain⟨ok,U,M,g,us,⟨⟨A,n,c,r⟩,l,hN⟩,rfl,rfl,rfl⟩:=h
 have cl:=l.inv.cls
 refine cO.mono (aNx r (Ry l (by unfold Sm;omega)) (by have:=ok.few;unfold Sm;omega) fun x h0 h1=> ?_) ?_
 ·have:=cl.root x ⟨h0,h1⟩
  exact⟨this.1.1,_,rZ (d:=0) cl.lleast this.1⟩
 ·rintro v w' ⟨B,d,rfl,hO,hE⟩
  refine⟨B,d,Ij g,rfl,hO,⟨by simp[Ij],fun i x hx=> ?_⟩,hE⟩
  have hi:i<g.nodes.length:=by
   have:=(List.getElem?_eq_some_iff.1 hx).1
   simpa [Ij] using this
  have vi:Vn g.nodes.length (i:Int):=⟨by omega,by omega⟩
  simp only[Ij,List.getElem?_map] at hx
  rw[List.getElem?_range hi] at hx
  simp only[Option.map_some,Option.some.injEq] at hx
  obtain⟨v1,v2⟩:=cl.root i vi
  obtain⟨_,k2,_,k4,k5⟩:=cl.aJq v1 v2
  have e:gQ g (fd g i)=x:=hx
  rw[e] at k4 k5
  obtain⟨vx,fx⟩:=(k2 x).1 k4
  refine⟨(Gr.same_iff l vi vx).1 fx.symm,fun y hy=> ?_⟩
  have vy:=(CC.val hy).2
  exact k5 y ((k2 y).2 ⟨vy,((Gr.same_iff l vi vy).2 hy).symm⟩)
end
section
variable {B0 B1:Nat} {w w':World} {p U:Addr} {M N:Nat} {A:Nat->Option Addr} {n c:Nat->Nat} {Z H:Nat->Prop} {g:GS} {L:Lay} {vs:Nat->List Value}
theorem Vz.xE (h:Vz L B0 w A n c vs) (hB:B1<=B0):Vz L B1 w A n c vs:=
 ⟨h.cell,h.froz,fun k hk=>(h.row k hk).xE hB,h.sep,h.seph,h.inj,h.hb,fun b hb=>⟨Nat.le_trans hB (h.hlt b hb).1,(h.hlt b hb).2⟩⟩
theorem dF.xE (h:dF B0 w p U M N A n c H g) (hB:B1<=B0) (tab:yG B1 w):dF B1 w p U M N A n c H g:=
 ⟨h.yK.xE hB,h.ucell,h.mcell,h.map,h.mno,h.nad,fun w' k=>h.nd w' (k.mono fun i _ hi=>hi.imp (fun q=>Nat.lt_of_lt_of_le q hB) id),h.sub,h.subM,fun b hb=>⟨Nat.le_trans hB (h.lo b hb).1,(h.lo b hb).2⟩,h.pU,tab⟩
theorem dF.off {X:Nat->Prop} (h:dF B0 w p U M N A n c H g) (nd:St (fun b=>¬Z b\/H b) w fun w=>Yi mO w g.nvals.vals g.nodes) (hF:∀b,H b->Z b) (hFB:∀b,Z b->B0<=b) (k:Keep X w w') (hX:∀b,b<w.heap.size->X b->¬Z b/\B0<=b):dF B0 w' p U M N A n c H g/\St (fun b=>¬Z b\/H b) w' fun w=>Yi mO w g.nvals.vals g.nodes:=by
 have k':Keep (fun b=>X b/\b<w.heap.size) w w':=k.mono fun i hi hx=>⟨hx,hi⟩
 have no:∀b,H b->¬(fun b=>X b/\b<w.heap.size) b:=fun b hb hx=>(hX b hx.2 hx.1).1 (hF b hb)
 have nd':St (fun b=>¬Z b\/H b) w' fun w=>Yi mO w g.nvals.vals g.nodes:=nd.iI (dU.aHy k fun i hi hx=> .inl (hX i hi hx).1)
 refine⟨⟨h.yK.keep k' fun b hb=>no b (h.sub b hb),?_,?_,h.map.keep k' (no M h.subM),h.mno,h.nad,fun w2 k2=>nd' w2 (k2.mono fun i _ hi=>hi.imp (fun q hF=>by have:=hFB i hF;omega) id),h.sub,h.subM,fun b hb=>⟨(h.lo b hb).1,Nat.lt_of_lt_of_le (h.lo b hb).2 k.size⟩,h.pU,zH h.tab k' h.le fun b hb hx=>(hX b hb hx.1).2⟩,nd'⟩
 ·exact h.ucell.imp fun _ hc=>k'.cell ⟨hc,by rw[Addr.add_block];exact no _ (h.sub _ h.aL0)⟩
 ·exact k'.cell ⟨h.mcell,by rw[Addr.add_block];exact no _ (h.sub _ h.aL0)⟩
end
def FN (Z:Nat->Prop) (w w':World) (b:Nat):Prop:=Z b\/(w.heap.size<=b/\b<w'.heap.size)
structure vH (W0 B0:Nat) (w:World) (p:Addr) (fs:List Flat) (Z H:Nat->Prop) (st:List dK) (ms:List Int):Prop where
 ok:Ep W0 fs
 HF:∀b,H b->Z b
 FB:∀b,Z b->B0<=b/\b<w.heap.size
 ex:∃U M g us,Gr (fs.length*(W0+2)+1) W0 B0 w p U M fs.length H g us/\g.nodes=fs/\g.stand=st/\g.marks.map Mk.said=ms/\St (fun b=>¬Z b\/H b) w fun w=>Yi mO w g.nvals.vals g.nodes
section
variable {W0 B0:Nat} {w w' w0:World} {p:Addr} {fs:List Flat} {Z H H':Nat->Prop} {st:List dK} {ms:List Int}
theorem vH.live (h:vH W0 B0 w p fs Z H st ms):Live W0 B0 w p fs H st ms:=by
 obtain⟨ok,_,_,U,M,g,us,k,k1,k2,k3,_⟩:=h
 exact⟨ok,U,M,g,us,k,k1,k2,k3⟩
theorem vH.off {X:Nat->Prop} (h:vH W0 B0 w p fs Z H st ms) (k:Keep X w w') (hX:∀b,b<w.heap.size->X b->¬Z b/\B0<=b):vH W0 B0 w' p fs Z H st ms:=by
 obtain⟨ok,hF,hB,U,M,g,us,⟨⟨A,n,c,r⟩,l,hN⟩,k1,k2,k3,k4⟩:=h
 obtain⟨r',nd'⟩:=r.off k4 hF (fun b hb=>(hB b hb).1) k hX
 exact⟨ok,hF,fun b hb=>⟨(hB b hb).1,Nat.lt_of_lt_of_le (hB b hb).2 k.size⟩,U,M,g,us,⟨⟨A,n,c,r'⟩,l,hN⟩,k1,k2,k3,nd'⟩
theorem vH.stay (h:vH W0 B0 w p fs Z H st ms) (k:Ext w w'):vH W0 B0 w' p fs Z H st ms:=h.off k fun _ _ h=>h.elim
theorem vH.step {g g':GS} {U:Addr} {M:Nat} {us':List Edge} {st':List dK} {ms':List Int} (ok:Ep W0 fs) (hB:B0<=w.heap.size) (HF:∀b,H b->Z b) (FB:∀b,Z b->B0<=b/\b<w.heap.size) (nd:St (fun b=>¬Z b\/H b) w fun w=>Yi mO w g.nvals.vals g.nodes) (hnf:g.nodes=fs) (iI:dU H w H' w')
  (hg:Gr (fs.length*(W0+2)+1) W0 B0 w' p U M fs.length H' g' us') (hn:g'.nodes=g.nodes) (hv:g'.nvals=g.nvals) (e1:g'.stand=st') (e2:g'.marks.map Mk.said=ms'):vH W0 B0 w' p fs (FN Z w w') H' st' ms':=by
 obtain⟨⟨A,n,c,r⟩,l,hN⟩:=hg
 have hlo:=r.lo
 have HF':∀b,H' b->FN Z w w' b:=fun b hb=>by
  rcases Nat.lt_or_ge b w.heap.size with q|q
  ·exact .inl (HF b (iI.grow b q hb))
  ·exact .inr ⟨q,(hlo b hb).2⟩
 refine⟨ok,HF',fun b hb=> ?_,U,M,g',us',⟨⟨A,n,c,r⟩,l,hN⟩,hn.trans hnf,e1,e2,?_⟩
 ·rcases hb with hb|hb
  ·exact⟨(FB b hb).1,Nat.lt_of_lt_of_le (FB b hb).2 iI.keep.size⟩
  ·exact⟨Nat.le_trans hB hb.1,hb.2⟩
 ·rw[hn,hv]
  exact nd.iI ⟨iI.keep.mono fun i _ hi=> .inr hi,fun i hi hh=>hh.imp (fun q hq=>q (.inl hq)) fun q=>iI.grow i hi q⟩
theorem vH.new {A1:Option Addr} {c1:Nat} (hx:∀w',Ext w w'->Sl mO w' A1 fs.length fs) (hB:B0<=w.heap.size) (tab:yG B0 w) (ok:Ep W0 fs):
  Calls P F.Vb #[.slice A1 fs.length c1] w (cO fun v w'=>Ext w w'/\((¬Sound fs/\v= .tuple #[.pointer none,iv 80])\/(Sound fs/\∃p H,v= .tuple #[.pointer (some p),iv 0]/\vH W0 B0 w' p fs (FN (fun _=>False) w w') H [] []))):=by
 refine cO.mono (aNm hx (Nat.le_refl _) (aIv tab hB) ok) ?_
 rintro v w' (⟨h1,h2,h3⟩|⟨h1,p,H,h2,⟨_,U,M,g,us,⟨⟨A,n,c,r⟩,l,hN⟩,e1,e2,e3⟩,iI⟩)
 ·exact⟨h3,.inl ⟨h1,h2⟩⟩
 refine⟨iI.keep,.inr ⟨h1,p,H,h2,ok,fun b hb=> .inr (r.lo b hb),fun b hb=> ?_,U,M,g,us,⟨⟨A,n,c,r.xE hB (zH tab iI.keep hB fun _ _ h=>h.elim)⟩,l,hN⟩,e1,e2,e3,?_⟩⟩
 ·exact hb.elim (fun q=>q.elim) fun q=>⟨Nat.le_trans hB q.1,q.2⟩
 ·exact fun w2 k2=>r.nd w2 (k2.mono fun i hi hh=>hh.imp (fun q=>Nat.lt_of_not_le fun q2=>q (.inr ⟨q2,hi⟩)) id)
theorem vH.equal {a b t:Int} (h:vH W0 B0 w p fs Z H st ms) (hs:st.length<=1048576):
  Calls P F.rD #[.pointer (some p),iv a,iv b,iv t] w (cO fun v w'=>∃e:Int,v= iv e/\∃H',dU H w H' w'/\
   ((¬Aa fs a b/\e=80/\vH W0 B0 w' p fs (FN Z w w') H' st ms)\/(Aa fs a b/\e=0/\vH W0 B0 w' p fs (FN Z w w') H' (st++[⟨a,b,t,false⟩]) ms))):=by
 obtain⟨ok,hF,hB,U,M,g,us,hg,rfl,rfl,rfl,nd⟩:=h
 have hle:B0<=w.heap.size:=by obtain⟨A,n,c,r⟩:=hg.rep;exact r.le
 refine cO.mono (aF6 (a:=a) (b:=b) (t:=t) hg (by omega)) ?_
 rintro v w' ⟨e,rfl,H',g',us',k,iI,_,hm,hn,hv,⟨h1,rfl,rfl,rfl⟩|⟨h1,rfl,h2⟩⟩
 ·exact⟨_,rfl,H',iI,.inl ⟨h1,rfl,.step ok hle hF hB nd rfl iI k hn hv rfl rfl⟩⟩
 ·exact⟨_,rfl,H',iI,.inr ⟨h1,rfl,.step ok hle hF hB nd rfl iI k hn hv h2 (by rw[hm])⟩⟩
theorem vH.differ {a b t:Int} (h:vH W0 B0 w p fs Z H st ms) (hs:st.length<=1048576):
  Calls P F.oV #[.pointer (some p),iv a,iv b,iv t] w (cO fun v w'=>∃e:Int,v= iv e/\∃H',dU H w H' w'/\
   ((¬Aa fs a b/\e=80/\vH W0 B0 w' p fs (FN Z w w') H' st ms)\/(Aa fs a b/\e=0/\vH W0 B0 w' p fs (FN Z w w') H' (st++[⟨a,b,t,true⟩]) ms))):=by
 obtain⟨ok,hF,hB,U,M,g,us,⟨⟨A,n,c,r⟩,l,hN⟩,rfl,rfl,rfl,nd⟩:=h
 have hle:=r.le
 refine cO.mono (aD2 (a:=a) (b:=b) (t:=t) r (by omega)) ?_
 rintro v w' ⟨e,rfl,A',n',c',H',g',k,iI,_,⟨h1,rfl,rfl⟩|⟨h1,rfl,rfl⟩⟩
 ·exact⟨_,rfl,H',iI,.inl ⟨h1,rfl,.step ok hle hF hB nd rfl iI ⟨⟨A',n',c',k⟩,l,hN⟩ rfl rfl rfl rfl⟩⟩
 ·have h1':There g a b:=h1
  exact⟨_,rfl,H',iI,.inr ⟨h1,rfl,.step ok hle hF hB nd rfl iI ⟨⟨A',n',c',k⟩,l.differ ⟨h1'.1,h1'.2.2.1⟩ ⟨h1'.2.1,h1'.2.2.2⟩,hN⟩ rfl rfl rfl rfl⟩⟩
theorem vH.push (h:vH W0 B0 w p fs Z H st ms) (hm:ms.length<=1048576):
  Calls P F.wH #[.pointer (some p)] w (cO fun v w'=>v= .tuple #[]/\∃H',dU H w H' w'/\vH W0 B0 w' p fs (FN Z w w') H' st (ms++[(st.length:Int)])):=by
 obtain⟨ok,hF,hB,U,M,g,us,⟨⟨A,n,c,r⟩,l,hN⟩,rfl,rfl,rfl,nd⟩:=h
 have hle:=r.le
 rw[List.length_map] at hm
 refine cO.mono (aLd r (by omega)) ?_
 rintro v w' ⟨rfl,A',n',c',H',k,iI,_⟩
 exact⟨rfl,H',iI,.step ok hle hF hB nd rfl iI (g':={g with marks:=g.marks++[⟨g.stand.length,g.changes.length⟩]}) ⟨⟨A',n',c',k⟩,l.push,hN⟩ rfl rfl rfl (by simp)⟩
theorem vH.pop {k:Int} (h:vH W0 B0 w p fs Z H st ms) (hs:st.length<=1048576) (hm:ms.length<=1048576) (hk:I64 k):
  Calls P F.yD #[.pointer (some p),iv k] w (cO fun v w'=>∃e:Int,v= iv e/\∃H',dU H w H' w'/\((k<0\/ms.length<k)/\e=81\/¬(k<0\/ms.length<k)/\e=0)/\vH W0 B0 w' p fs (FN Z w w') H' (Ji st ms k).1 (Ji st ms k).2):=by
 obtain⟨ok,hF,hB,U,M,g,us,hg,rfl,rfl,rfl,nd⟩:=h
 have hle:B0<=w.heap.size:=by obtain⟨A,n,c,r⟩:=hg.rep;exact r.le
 rw[List.length_map] at hm
 refine cO.mono (aM8 hg (by omega) (by omega) hk) ?_
 unfold Ji
 rw[List.length_map]
 rintro v w' ⟨e,rfl,H',g',us',q,iI,_,hn,hv,⟨h1,rfl,rfl,rfl⟩|⟨h1,rfl,rfl,rfl⟩|⟨h1,h2,rfl,h3,m,h4,h5⟩⟩
 ·refine⟨_,rfl,H',iI,.inl ⟨h1,rfl⟩,?_⟩
  rw[if_neg (by omega)]
  exact .step ok hle hF hB nd rfl iI q hn hv rfl rfl
 ·refine⟨_,rfl,H',iI,.inr ⟨by omega,rfl⟩,?_⟩
  rw[if_neg (by omega)]
  exact .step ok hle hF hB nd rfl iI q hn hv rfl rfl
 ·refine⟨_,rfl,H',iI,.inr ⟨by omega,rfl⟩,?_⟩
  rw[if_pos ⟨h1,h2⟩]
  refine .step ok hle hF hB nd rfl iI q hn hv ?_ ?_
  ·rw[h5,List.getD_eq_getElem?_getD,List.getElem?_map,h4]
   rfl
  ·rw[h3,List.map_take]
end
def rt (r:List Int) (i:Int):Int:=r.getD i.toNat 0
theorem aDf {r:List Int} {i:Int} {v:Int} (h:r[i.toNat]? =some v):rt r i=v:=by unfold rt;rw[List.getD_eq_getElem?_getD,h];rfl
theorem aLn {r:List Int} {n:Nat} {i:Int} (hl:r.length=n) (h:Vn n i):r[i.toNat]? =some (rt r i):=by
 have hi:i.toNat<r.length:=by have:=h.1;have:=h.2;omega
 rw[aDf (List.getElem?_eq_getElem hi)]
 exact List.getElem?_eq_getElem hi
structure RI (fs:List Flat) (st:List dK) (r:List Int):Prop where
 len:r.length=fs.length
 low:∀i,Vn fs.length i->0<=rt r i/\rt r i<=i
 idem:∀i,Vn fs.length i->rt r (rt r i)=rt r i
 snd:∀i,Vn fs.length i->iH fs st i (rt r i)
section
variable {fs:List Flat} {st:List dK} {r:List Int} {a b:Int}
theorem RI.v (h:RI fs st r) {i:Int} (hi:Vn fs.length i):Vn fs.length (rt r i):=by
 have:=h.low i hi
 exact⟨this.1,Int.lt_of_le_of_lt this.2 hi.2⟩
theorem RI.same (h:RI fs st r) (ha:Vn fs.length a) (hb:Vn fs.length b) (e:rt r a=rt r b):iH fs st a b:=
 (h.snd a ha).trans (by rw[e];exact(h.snd b hb).symm)
theorem RI.start (st:List dK) (hr:r.length=fs.length) (hv:∀i,Vn fs.length i->rt r i=i):RI fs st r:=
 ⟨hr,fun i hi=>by rw[hv i hi];exact⟨hi.1,Int.le_refl _⟩,fun i hi=>by rw[hv i hi,hv i hi],fun i hi=>by rw[hv i hi];exact .refl hi⟩
def joinL (r:List Int) (a b:Int):List Int:=r.map fun v=>if v=max (rt r a) (rt r b) then min (rt r a) (rt r b) else v
theorem aGz:(joinL r a b).length=r.length:=by simp[joinL]
theorem Rl {n:Nat} (hl:r.length=n) {i:Int} (hi:Vn n i):rt (joinL r a b) i=if rt r i=max (rt r a) (rt r b) then min (rt r a) (rt r b) else rt r i:=by
 refine aDf ?_
 unfold joinL
 rw[List.getElem?_map,aLn hl hi]
 rfl
theorem join_eq {n:Nat} (hl:r.length=n) {i j:Int} (hi:Vn n i) (hj:Vn n j) (e:rt r i=rt r j):rt (joinL r a b) i=rt (joinL r a b) j:=by
 rw[Rl hl hi,Rl hl hj,e]
theorem aPs {n:Nat} (hl:r.length=n) (ha:Vn n a) (hb:Vn n b):rt (joinL r a b) a=rt (joinL r a b) b:=by
 rw[Rl hl ha,Rl hl hb]
 split<;>split<;>omega
theorem RI.join (h:RI fs st r) (ha:Vn fs.length a) (hb:Vn fs.length b) (s:iH fs st a b):RI fs st (joinL r a b):=by
 have hl:=h.len
 have la:=h.low a ha
 have lb:=h.low b hb
 have va:=h.v ha
 have vb:=h.v hb
 have ia:=h.idem a ha
 have ib:=h.idem b hb
 have hs:iH fs st (rt r a) (rt r b):=((h.snd a ha).symm.trans s).trans (h.snd b hb)
 have vx:Vn fs.length (min (rt r a) (rt r b)):=by
  rcases Int.le_total (rt r a) (rt r b) with q|q
  ·rw[Int.min_eq_left q];exact va
  ·rw[Int.min_eq_right q];exact vb
 have hx:rt r (min (rt r a) (rt r b))=min (rt r a) (rt r b):=by
  rcases Int.le_total (rt r a) (rt r b) with q|q
  ·rw[Int.min_eq_left q];exact ia
  ·rw[Int.min_eq_right q];exact ib
 have hyx:iH fs st (max (rt r a) (rt r b)) (min (rt r a) (rt r b)):=by
  rcases Int.le_total (rt r a) (rt r b) with q|q
  ·rw[Int.min_eq_left q,Int.max_eq_right q];exact hs.symm
  ·rw[Int.min_eq_right q,Int.max_eq_left q];exact hs
 refine⟨aGz.trans hl,fun i hi=> ?_,fun i hi=> ?_,fun i hi=> ?_⟩
 ·have:=h.low i hi
  rw[Rl hl hi]
  split<;>omega
 ·rw[Rl hl hi]
  split
  ·rw[Rl hl vx,hx]
   split<;>rfl
  ·rename_i hne
   rw[Rl hl (h.v hi),h.idem i hi,if_neg hne]
 ·rw[Rl hl hi]
  split
  ·rename_i he
   have:=h.snd i hi
   rw[he] at this
   exact this.trans hyx
  ·exact h.snd i hi
theorem sum_lt {f g:Int->Nat}:∀{l:List Int},(∀v∈l,f v<=g v)->(∃v∈l,f v<g v)->(l.map f).sum<(l.map g).sum
 |[],_,⟨_,h,_⟩=>by cases h
 |x::l,h,⟨v,hv,hlt⟩=>by
  simp only[List.map_cons,List.sum_cons]
  have hle:(l.map f).sum<=(l.map g).sum:=by
   clear hlt hv
   induction l with
   |nil=>simp
   |cons y l ih=>
    simp only[List.map_cons,List.sum_cons]
    have h1:=h y (by simp)
    have h2:=ih fun v hv=>h v (by rcases List.mem_cons.1 hv with q|q<;>simp[q])
    omega
  have hx:=h x (by simp)
  rcases List.mem_cons.1 hv with rfl|hv
  ·omega
  ·have:=sum_lt (l:=l) (fun v hv=>h v (by simp[hv])) ⟨v,hv,hlt⟩
   omega
def wt (r:List Int):Nat:=(r.map Int.toNat).sum
theorem aO2 (h:RI fs st r) (ha:Vn fs.length a) (hb:Vn fs.length b) (hne:rt r a≠rt r b):wt (joinL r a b)<wt r:=by
 have la:=h.low a ha
 have lb:=h.low b hb
 unfold wt joinL
 rw[List.map_map]
 refine sum_lt (fun v hv=> ?_) ⟨max (rt r a) (rt r b),?_,?_⟩
 ·simp only[Function.comp]
  split<;>omega
 ·rcases Int.le_total (rt r a) (rt r b) with q|q
  ·rw[Int.max_eq_right q];exact List.mem_of_getElem? (aLn h.len hb)
  ·rw[Int.max_eq_left q];exact List.mem_of_getElem? (aLn h.len ha)
 ·simp only[Function.comp,if_pos]
  omega
def aBt (l:List dK) (r:List Int):Prop:=∀s∈l,s.not=false->rt r s.a=rt r s.b
theorem aBt.join {l:List dK} {n:Nat} (h:aBt l r) (hl:r.length=n) (hv:∀s∈l,Vn n s.a/\Vn n s.b):aBt l (joinL r a b):=fun s hs hn=>join_eq hl (hv s hs).1 (hv s hs).2 (h s hs hn)
def aGi (fs:List Flat) (r:List Int) (i j:Int):Prop:=Kt fs (fun a b=>rt r a=rt r b) i j
theorem RI.full (h:RI fs st r) (he:aBt st r) (hc:∀i j,Vn fs.length i->Vn fs.length j->j<i->aGi fs r i j->rt r i=rt r j) (x y:Int) (hx:Vn fs.length x) (hy:Vn fs.length y):rt r x=rt r y↔iH fs st x y:=by
 refine⟨fun e=>h.same hx hy e,fun s=> ?_⟩
 refine CC.least (f:=rt r) (fun x y _ _ ⟨s,h1,h2,_,h3,h4⟩=>by rw[<-h3,<-h4];exact he s h1 h2) (fun p q c=> ?_) s
 rcases Int.lt_trichotomy p q with k|k|k
 ·exact(hc q p c.v2 c.v1 k ⟨c.v2,c.v1,by rw[<-c.fn];exact c.app,c.fn.symm,c.len.symm,fun i a b ha hb=>(c.args i b a hb ha).symm⟩).symm
 ·rw[k]
 ·exact hc p q c.v1 c.v2 k c
theorem RI.roots (h:RI fs st r) (hf:∀x y,Vn fs.length x->Vn fs.length y->(rt r x=rt r y↔iH fs st x y)):Tn fs st r:=by
 refine⟨h.len,fun i x hx=> ?_⟩
 have hi:Vn fs.length (i:Int):=by
  have:=(List.getElem?_eq_some_iff.1 hx).1
  rw[h.len] at this
  exact⟨by omega,by omega⟩
 have e:rt r i=x:=aDf hx
 subst e
 refine⟨h.snd _ hi,fun y hy=> ?_⟩
 have vy:=(CC.val hy).2
 rw[(hf _ _ hi vy).2 hy]
 exact(h.low y vy).2
end
def zY (k1:Nat) (I1:Nat->Int->World->Prop) (x2:Int) (w11:World):Prop:=
 ∃k4,k4<k1/\I1 k4 (IntKind.wrap .i64 (x2+1)) w11
def Gs (A1:Option Addr) (n1 c1:Nat) (K:Option Addr->Int->World->Prop) (w:World):Prop:=
 Calls P F.vX #[.slice A1 n1 c1] w (cO fun v1 w1=>∃b1,v1=(.bool b1)/\((!b1)=true->(K none 80 w1))/\((!b1)=false->(∀(p1:Addr) (w2:World),New w1 (.cells #[.slice none 0 0,.slice none 0 0,.slice none 0 0] T.wK) p1 w2->(∃I1:Nat->Int->World->Prop,(∃k1,I1 k1 0 w2)/\∀k1 (x2:Int) (w3:World),I1 k1 x2 w3->((x2<(n1:Int)->(∃I2:Nat->Option Addr->Nat->Nat->Int->World->Prop,(∃k2,I2 k2 none 0 0 0 w3)/\∀k2 (A2:Option Addr) (n2 c2:Nat) (x3:Int) (w4:World),I2 k2 A2 n2 c2 x3 w4->(0<=x2/\x2<(n1:Int)/\∃a1,A1=some a1/\∃A3 n3 c3,w4.cell? ((a1.add (x2.toNat*2)).add 1)=some (.slice A3 n3 c3)/\(x3<(n3:Int)->(0<=x2/\x2<(n1:Int)/\∃a2,A1=some a2/\∃A4 n4 c4,w4.cell? ((a2.add (x2.toNat*2)).add 1)=some (.slice A4 n4 c4)/\0<=x3/\x3<(n4:Int)/\∃a3,A4=some a3/\∃x4,w4.cell? (a3.add (x3.toNat*1))=some (iv x4)/\∀(p2:Addr) (w5:World),New w4 (.cells #[iv x4] T.int) p2 w5->(∃(A5:Option Addr) (n5 c5:Nat) (w6:World),(Builtin.append_ #[T.bH,T.bH] T.bH #[.slice A2 n2 c2,.slice (some p2) 1 1]).run P w5= .ok (.slice A5 n5 c5) w6/\(∃k3,k3<k2/\I2 k3 A5 n5 c5 (IntKind.wrap .i64 (x3+1)) w6))))/\(¬(x3<(n3:Int))->(∃A6 n6 c6,w4.cell? (p1.add 0)=some (.slice A6 n6 c6)/\0<=x2/\x2<(n1:Int)/\∃a4,A1=some a4/\∃x5,w4.cell? ((a4.add (x2.toNat*2)).add 0)=some (iv x5)/\∀w14,aO w4 w14->∀(p3:Addr) (w7:World),New w14 (.cells #[iv x5,.slice A2 n2 c2] T.fJ) p3 w7->(∀w13,aO w7 w13->∃(A7:Option Addr) (n7 c7:Nat) (w8:World),(Builtin.append_ #[T.fB,T.fB] T.fB #[.slice A6 n6 c6,.slice (some p3) 1 1]).run P w13= .ok (.slice A7 n7 c7) w8/\(∀w12,aO w8 w12->(∃u1,w12.cell? (p1.add 0)=some u1)/\w12.frozen? (p1.add 0)=false/\∀w9,w9=w12.setCell (p1.add 0) (.slice A7 n7 c7)->(∀w10,aO w9 w10->((zY k1 I1 x2) w10)))))))))/\(¬(x2<(n1:Int))->(K (some p1) 0 w3)))))))
theorem aBa (A1:Option Addr) (n1 c1:Nat) (K:Option Addr->Int->World->Prop) (w:World) (H:Gs A1 n1 c1 K w):Calls P F.zK #[.slice A1 n1 c1] w (cO fun v w'=>∃q1,∃x1,v=(.tuple #[.pointer q1,iv x1])/\K q1 x1 w'):=by
 unfold Gs at H;refine bT (P:=P) Tryz.func10 rfl [(0,.slice A1 n1 c1)] 57 rfl rfl (fun p hp=>by rcases List.mem_singleton.1 hp with rfl;rfl) (aG (aF (ag rfl (ag rfl (aH (nc (kp 0 rfl zz) (aG (aG (aF (mv rfl (sc rfl rfl FF.Cj H ?_)))))))))));rintro _ w1 ⟨b1,rfl,H⟩;refine sv rfl rfl (xu rfl sK) (aH (nc (y2 0 10 rfl) ?_));refine eG rfl (fun hb=> ?_) (fun hb=> ?_)
 ·replace H:=H.1 hb;exact aG (aF (ag rfl (ag rfl (aH (nc (y2 2 3 rfl) (bK (aQ (aN (Jk rfl rfl rfl) ⟨_,rfl,_,_,rfl,H⟩))))))))
 ·replace H:=H.2 hb;refine aX (nc (kp 0 rfl zz) (aG (aF (sv rfl rfl (xp (.agg #[.slice none 0 0,.slice none 0 0,.slice none 0 0]) rfl) (iP (f:=(fun p=> .pointer (some p))) rfl rfl (aI rfl) (fun a ha=>uM (ha.ev rfl) uO) ?_)))));intro p1 w2 hN;replace H:=H _ _ hN;refine ag rfl (aH (nc (y2 0 4 rfl) (aG (aG (aF (ag rfl (aH (nc (y3 0 4 5 rfl) (aY ?_)))))))));obtain⟨I1,⟨k1,hi⟩,H⟩:=H;refine fK (fun k1 a w'=>∃x2,Ok 57 [(0,.slice A1 n1 c1),(4,.pointer (some p1)),(5,iv x2)] a/\I1 k1 x2 w') (fun a ha=>⟨k1,0,ha.weaken cs,hi⟩) ?_;rintro k1 a w3 ⟨x2,ha,hI⟩;replace H:=H k1 x2 w3 hI;refine cu ha ?_;refine aG (aG (aF (mv rfl (mv rfl (sv rfl rfl (xb rfl (fun _=>bW TF.dS)) (bo rfl rfl iY (aH (nc (y4 0 4 5 16 rfl) ?_))))))));refine bC rfl (fun hb=> ?_) (fun hb=> ?_)
  ·replace H:=H.1 hb;refine aX (nc (y3 0 4 5 rfl) ?_);refine fA (fun a w=>Ok 57 [(0,.slice A1 n1 c1),(4,.pointer (some p1)),(5,iv x2)] a/\zY k1 I1 x2 w) ?_ ?_
   ·rintro a w11 ⟨ha,H⟩;unfold zY at H;refine cu ha ?_;refine aF (mv rfl (bo rfl rfl kC (ag rfl (aH ?_))));obtain⟨k4,hk,H⟩:=H;exact bD fun a ha=>⟨k4,hk,IntKind.wrap .i64 (x2+1),ha.weaken cs,H⟩
   ·refine aY (aG (aF (ag rfl (aH (nc (y4 0 4 5 6 rfl) (aG (aG (aF (ag rfl (aH (nc (y5 0 4 5 6 7 rfl) (aY ?_))))))))))));obtain⟨I2,⟨k2,hi⟩,H⟩:=H;refine fK (fun k2 a w'=>∃A2 n2 c2,∃x3,Ok 57 [(0,.slice A1 n1 c1),(4,.pointer (some p1)),(5,iv x2),(6,.slice A2 n2 c2),(7,iv x3)] a/\I2 k2 A2 n2 c2 x3 w') (fun a ha=>⟨k2,none,0,0,0,ha.weaken cs,hi⟩) ?_;rintro k2 a w4 ⟨A2,n2,c2,x3,ha,hI⟩;replace H:=H k2 A2 n2 c2 x3 w4 hI;refine cu ha ?_;refine aG (aG (aF (mv rfl (mv rfl (mv rfl ?_)))));obtain⟨h2,h3,a1,e1,H⟩:=H;refine ix rfl rfl (aU TF.dN TF.bY e1 h2 h3) (fa rfl (TF.fF _ _) ?_);obtain⟨A3,n3,c3,h4,H⟩:=H;refine ld rfl (aJ TF.bM h4) (sv rfl rfl (xb rfl (fun _=>bW TF.bP)) (bo rfl rfl iY (aH (nc (y6 0 4 5 6 7 26 rfl) ?_))));refine bC rfl (fun hb=> ?_) (fun hb=> ?_)
    ·replace H:=H.1 hb;refine aX (nc (y5 0 4 5 6 7 rfl) (aG (aY (aF (mv rfl (mv rfl (mv rfl ?_)))))));obtain⟨h5,h6,a2,e2,H⟩:=H;refine ix rfl rfl (aU TF.dN TF.bY e2 h5 h6) (fa rfl (TF.fF _ _) ?_);obtain⟨A4,n4,c4,h7,H⟩:=H;refine ld rfl (aJ TF.bM h7) (mv rfl ?_);obtain⟨h8,h9,a3,e3,H⟩:=H;refine ix rfl rfl (aU TF.aV TF.size_int e3 h8 h9) ?_;obtain⟨x4,h10,H⟩:=H;refine ld rfl (aJ TF.aP h10) (sz rfl rfl (xl 1 1 (.cells #[iv x4] T.int) rfl) ?_);intro p2 w5 hN;obtain⟨A5,n5,c5,w6,h11,H⟩:=H _ _ hN;refine sv rfl rfl (xb rfl (fun _=>dY h11)) (ag rfl (aH (bZ (nc (y5 0 4 5 6 7 rfl) (aF (mv rfl (bo rfl rfl kC (ag rfl (aH ?_)))))))));obtain⟨k3,hk,H⟩:=H;exact bD fun a ha=>⟨k3,hk,A5,n5,c5,IntKind.wrap .i64 (x3+1),ha.weaken cs,H⟩
    ·replace H:=H.2 hb;refine eU (aT (aT (bQ (nc (y4 0 4 5 6 rfl) ?_))));refine iM follows (fun _=>False) [0,1,2,3,4,5,6,7,8,9,10,11,14,15] [4] 17 rfl rfl (by kernel_rfl) (fun _ _ d _ _ h=>by cases d<;>exact h) (fun cm W D=> ?_);refine gZ 0 cm rfl rfl D W fun _ D W=>(gZ 1 cm rfl rfl D W fun _ D W=>(Gh 2 cm rfl rfl D W fun _ D W=>(lH 3 cm rfl rfl (TF.kZ _ _) D W fun _ D W=> ?_)));obtain⟨A6,n6,c6,h12,H⟩:=H;refine vl 4 cm rfl rfl (fun hw=>(aJ TF.fD (hw.cell ⟨h12,fun h=>h⟩))) D W fun _ D W=>(gZ 5 cm rfl rfl D W fun _ D W=>(gZ 6 cm rfl rfl D W fun _ D W=> ?_));obtain⟨h13,h14,a4,e4,H⟩:=H;refine Ie 7 cm rfl rfl rfl (aU TF.dN TF.bY e4 h13 h14) D W fun _ D W=>(lH 8 cm rfl rfl (TF.kU _ _) D W fun _ D W=> ?_);obtain⟨x5,h15,H⟩:=H;refine Qg (E:=aO w4) (i:=9) cm (fun _ _=>aO.trans) rfl (by kernel_rfl) D rfl rfl (aI rfl) (fun w' hw a ha=>nT (ha.ev rfl) (aJ TF.aP ((hw.cell _).trans h15))) rfl ?_;intro _ hd;replace D:=D.trans hd;replace W:=cm.held _ _ W hd;clear hd;refine gZ 10 cm rfl rfl D W fun _ D W=>(pv 11 cm rfl rfl rfl (fun w'=>xp (.agg #[iv x5,.slice A2 n2 c2]) rfl) D W fun _ D W=>(ar 12 ?_));replace H:=H _ D;refine lS (f:=(fun p=> .slice (some p) 1 1)) rfl rfl rfl (aI rfl) (xl 1 1 (.cells #[iv x5,.slice A2 n2 c2] T.fJ) rfl) rfl true (by kernel_rfl) ?_;intro p3 w7 hN _ D;replace H:=H _ _ hN;replace W:=(W.new hN).drawn D;refine⟨fun _=>W,?_⟩;refine ar 13 ?_;obtain⟨A7,n7,c7,w8,h16,H⟩:=H _ D;refine Ap rfl rfl rfl (aI rfl) (xb rfl (fun _=>dY h16)) rfl false (by kernel_rfl) ?_;intro _ D;refine⟨fun h=>(by cases h),?_⟩;refine Ut 14 cm rfl rfl D fun _ D=>(Fb 15 cm rfl rfl (TF.kZ _ _) D fun _ D=>(ar 16 ?_));obtain⟨⟨u1,h17⟩,h18,H⟩:=H _ D;refine mY rfl rfl (aI rfl) (xs rfl rfl (dM TF.vJ rfl rfl h17 h18)) rfl false (by kernel_rfl) ?_;intro w9 hw _ D;replace H:=H _ hw;clear hw;refine⟨fun h=>(by cases h),?_⟩;refine dJ (by kernel_rfl) D ?_;intro w10 D;replace H:=H _ D;clear D cm;exact bZ (bD fun a ha=>⟨ha.weaken cs,H⟩)
  ·replace H:=H.2 hb;exact eU (aT (aT (bQ (nc (kp 4 rfl zz) (aG (aF (mv rfl (ag rfl (ag rfl (aH (nc (y2 2 3 rfl) (bK (aN (Jk rfl rfl rfl) ⟨_,rfl,_,_,rfl,H⟩)))))))))))))
def kM (K:Bool->World->Prop) (w:World) (b2:Bool):Prop:=
 K b2 w
def wE (p1:Addr) (x1:Int) (K:Bool->World->Prop) (w:World):Prop:=
 (0<=x1->(∃A1 n1 c1,w.cell? (p1.add 0)=some (.slice A1 n1 c1)/\(kM K w) (decide (x1<(n1:Int)))))/\(¬(0<=x1)->((kM K w) false))
theorem Tv (p1:Addr) (x1:Int) (K:Bool->World->Prop) (w:World) (H:wE p1 x1 K w):Calls P F.fP #[.pointer (some p1),iv x1] w (cO fun v w'=>∃b1,v=(.bool b1)/\K b1 w'):=by
 unfold wE at H;refine bT (P:=P) Tryz.func58 rfl [(0,.pointer (some p1)),(1,iv x1)] 16 rfl rfl (aa rfl (aa rfl az)) (aG (aF (ag rfl (aH (nc (y2 0 1 rfl) ?_)))));refine fM (fun a=>∃b2,Ok 16 [(4,.bool b2)] a/\kM K w b2) ?_ ?_
 ·rintro a ⟨b2,ha,H⟩;unfold kM at H;refine cu ha ?_;exact bK (aN (res1 rfl rfl) ⟨_,rfl,_,rfl,H⟩)
 ·refine aF (mv rfl (bo rfl rfl Kq ?_));rcases Classical.em (0<=x1) with hb|hb
  ·replace H:=H.1 hb;refine sv rfl rfl (xt rfl hb) (Bv rfl rfl rfl (Bv rfl rfl rfl (nkg rfl rfl rfl (Zu rfl rfl rfl (TF.kZ _ _) ?_))));obtain⟨A1,n1,c1,h1,H⟩:=H;exact Qo rfl rfl rfl (aJ TF.fD h1) (svg rfl rfl rfl rfl (xb rfl (fun _=>bW TF.dS)) (Qh rfl rfl rfl rfl iY (pt rfl rfl (ag rfl (aH (bD fun a ha=>⟨⟨(decide (x1<(n1:Int))),ha.weaken cs,H⟩,rfl⟩))))))
  ·replace H:=H.2 hb;exact sv rfl rfl (xf rfl hb) (sk rfl rfl rfl rfl (sk rfl rfl rfl rfl (sk rfl rfl rfl rfl (sk rfl rfl rfl rfl (sk rfl rfl rfl rfl (sk rfl rfl rfl rfl (sk rfl rfl rfl rfl (pf rfl rfl (ag rfl (aH (bD fun a ha=>⟨⟨false,ha.weaken cs,H⟩,rfl⟩)))))))))))
def kW (K:Int->World->Prop) (p1:Addr) (b1:Bool) (x1:Int) (x2:Int) (x3:Int) (b3:Bool) (w2:World):Prop:=
 (b3=true->(K 80 w2))/\(b3=false->(∃A1 n1 c1,w2.cell? (p1.add 1)=some (.slice A1 n1 c1)/\∀(p2:Addr) (w4:World),New w2 (.cells #[.bool b1,iv x1,iv x2,iv x3] T.eH) p2 w4->(∃(A2:Option Addr) (n2 c2:Nat) (w5:World),(Builtin.append_ #[T.fU,T.fU] T.fU #[.slice A1 n1 c1,.slice (some p2) 1 1]).run P w4= .ok (.slice A2 n2 c2) w5/\((∃u1,w5.cell? (p1.add 1)=some u1)/\w5.frozen? (p1.add 1)=false/\∀w6,w6=w5.setCell (p1.add 1) (.slice A2 n2 c2)->(K 0 w6)))))
def xG (p1:Addr) (b1:Bool) (x1:Int) (x2:Int) (x3:Int) (K:Int->World->Prop) (w:World):Prop:=
 Calls P F.fP #[.pointer (some p1),iv x1] w (cO fun v1 w1=>∃b2,v1=(.bool b2)/\((!b2)=true->((kW K p1 b1 x1 x2 x3) true w1))/\((!b2)=false->(Calls P F.fP #[.pointer (some p1),iv x2] w1 (cO fun v2 w3=>∃b4,v2=(.bool b4)/\(kW K p1 b1 x1 x2 x3) (!b4) w3))))
theorem Uw (p1:Addr) (b1:Bool) (x1:Int) (x2:Int) (x3:Int) (K:Int->World->Prop) (w:World) (H:xG p1 b1 x1 x2 x3 K w):Calls P F.mM #[.pointer (some p1),.bool b1,iv x1,iv x2,iv x3] w (cO fun v w'=>∃x4,v=(iv x4)/\K x4 w'):=by
 unfold xG at H;refine bT (P:=P) Tryz.func30 rfl [(0,.pointer (some p1)),(1,.bool b1),(2,iv x1),(3,iv x2),(4,iv x3)] 35 rfl rfl (aa rfl (aa rfl (aa rfl (aa rfl (aa rfl az))))) (aG (aF (ag rfl (aH (nc (y5 0 1 2 3 4 rfl) (aG ?_))))));refine fA (fun a w=>∃b3,Ok 35 [(0,.pointer (some p1)),(1,.bool b1),(2,iv x1),(3,iv x2),(4,iv x3),(20,.bool b3)] a/\kW K p1 b1 x1 x2 x3 b3 w) ?_ ?_
 ·rintro a w2 ⟨b3,ha,H⟩;unfold kW at H;refine cu ha ?_;refine eG rfl (fun hb=> ?_) (fun hb=> ?_)
  ·replace H:=H.1 hb;exact aG (aF (ag rfl (aH (nc (kp 10 rfl zz) (bK (aQ (aN (res1 rfl rfl) ⟨_,rfl,_,rfl,H⟩)))))))
  ·replace H:=H.2 hb;refine aX (nc (y5 0 1 2 3 4 rfl) (aG (aF (mv rfl (mv rfl (nk rfl (fa rfl (TF.dV _ _) ?_)))))));obtain⟨A1,n1,c1,h1,H⟩:=H;refine ld rfl (aJ TF.fE h1) (mv rfl (mv rfl (mv rfl (mv rfl (sv rfl rfl (xp (.agg #[.bool b1,iv x1,iv x2,iv x3]) rfl) (sz rfl rfl (xl 1 1 (.cells #[.bool b1,iv x1,iv x2,iv x3] T.eH) rfl) ?_))))));intro p2 w4 hN;obtain⟨A2,n2,c2,w5,h2,H⟩:=H _ _ hN;refine sv rfl rfl (xb rfl (fun _=>dY h2)) (nk rfl (fa rfl (TF.dV _ _) ?_));obtain⟨⟨u1,h3⟩,h4,H⟩:=H;refine oO rfl (aI rfl) (xs rfl rfl (dM TF.Ff rfl rfl h3 h4)) ?_;intro w6 hw;replace H:=H _ hw;clear hw;exact aH (nc zz (aG (aF (ag rfl (aH (nc (kp 10 rfl zz) (bK (aN (res1 rfl rfl) ⟨_,rfl,_,rfl,H⟩))))))))
 ·refine aF (mv rfl (mv rfl (sc rfl rfl FF.iF H ?_)));rintro _ w1 ⟨b2,rfl,H⟩;refine sv rfl rfl (xu rfl sK) ?_;rcases tf (!b2) with hb|hb
  ·replace H:=H.1 hb;exact sv rfl rfl (fun a ha=>aGb (iC (ha.ev rfl)) hb) (sk rfl rfl rfl rfl (sk rfl rfl rfl rfl (sk rfl rfl rfl rfl (sk rfl rfl rfl rfl (pt rfl rfl (aH (bD fun a ha=>⟨true,ha.weaken cs,H⟩)))))))
  ·replace H:=H.2 hb;refine sv rfl rfl (fun a ha=>aGk (iC (ha.ev rfl)) hb) (Bv rfl rfl rfl (Bv rfl rfl rfl (Eu rfl rfl (dW rfl rfl rfl) (xc rfl rfl FF.iF) H ?_)));rintro _ w3 ⟨b4,rfl,H⟩;exact svg rfl rfl rfl rfl (xu rfl sK) (pf rfl rfl (aH (bD fun a ha=>⟨(!b4),ha.weaken cs,H⟩)))
def vP (p1:Addr) (K:World->Prop) (w:World):Prop:=
 ∃A1 n1 c1,w.cell? (p1.add 2)=some (.slice A1 n1 c1)/\∃A2 n2 c2,w.cell? (p1.add 1)=some (.slice A2 n2 c2)/\∀w7,aO w w7->∀(p2:Addr) (w1:World),New w7 (.cells #[iv (n2:Int)] T.int) p2 w1->(∀w6,aO w1 w6->∃(A3:Option Addr) (n3 c3:Nat) (w2:World),(Builtin.append_ #[T.bH,T.bH] T.bH #[.slice A1 n1 c1,.slice (some p2) 1 1]).run P w6= .ok (.slice A3 n3 c3) w2/\(∀w5,aO w2 w5->(∃u1,w5.cell? (p1.add 2)=some u1)/\w5.frozen? (p1.add 2)=false/\∀w3,w3=w5.setCell (p1.add 2) (.slice A3 n3 c3)->(∀w4,aO w3 w4->(K w4))))
theorem Ud (p1:Addr) (K:World->Prop) (w:World) (H:vP p1 K w):Calls P F.pV #[.pointer (some p1)] w (cO fun v w'=>v=(.tuple #[])/\K w'):=by
 unfold vP at H;refine bT (P:=P) Tryz.func33 rfl [(0,.pointer (some p1))] 16 rfl rfl (fun p hp=>by rcases List.mem_singleton.1 hp with rfl;rfl) ?_;refine iM follows (fun _=>False) [0,1,2,3,4,5,6,7,8,9,12,13] [4] 15 rfl rfl (by kernel_rfl) (fun _ _ d _ _ h=>by cases d<;>exact h) (fun cm W D=> ?_);refine gZ 0 cm rfl rfl D W fun _ D W=>(gZ 1 cm rfl rfl D W fun _ D W=>(Gh 2 cm rfl rfl D W fun _ D W=>(lH 3 cm rfl rfl (TF.jM _ _) D W fun _ D W=> ?_)));obtain⟨A1,n1,c1,h1,H⟩:=H;refine vl 4 cm rfl rfl (fun hw=>(aJ TF.bM (hw.cell ⟨h1,fun h=>h⟩))) D W fun _ D W=>(gZ 5 cm rfl rfl D W fun _ D W=>(Gh 6 cm rfl rfl D W fun _ D W=>(lH 7 cm rfl rfl (TF.dV _ _) D W fun _ D W=> ?_)));obtain⟨A2,n2,c2,h2,H⟩:=H;refine Qg (E:=aO w) (i:=8) cm (fun _ _=>aO.trans) rfl (by kernel_rfl) D rfl rfl (aI rfl) (fun w' hw a ha=>nT (ha.ev rfl) (aJ TF.fE ((hw.cell _).trans h2))) rfl ?_;intro _ hd;replace D:=D.trans hd;replace W:=cm.held _ _ W hd;clear hd;refine pv 9 cm rfl rfl rfl (fun w' a ha=>kQ (ha.evs rfl) (fun _=>bW TF.jC)) D W fun _ D W=>(ar 10 ?_);replace H:=H _ D;refine lS (f:=(fun p=> .slice (some p) 1 1)) rfl rfl rfl (aI rfl) (xl 1 1 (.cells #[iv (n2:Int)] T.int) rfl) rfl true (by kernel_rfl) ?_;intro p2 w1 hN _ D;replace H:=H _ _ hN;replace W:=(W.new hN).drawn D;refine⟨fun _=>W,?_⟩;refine ar 11 ?_;obtain⟨A3,n3,c3,w2,h3,H⟩:=H _ D;refine Ap rfl rfl rfl (aI rfl) (xb rfl (fun _=>dY h3)) rfl false (by kernel_rfl) ?_;intro _ D;refine⟨fun h=>(by cases h),?_⟩;refine Ut 12 cm rfl rfl D fun _ D=>(Fb 13 cm rfl rfl (TF.jM _ _) D fun _ D=>(ar 14 ?_));obtain⟨⟨u1,h4⟩,h5,H⟩:=H _ D;refine mY rfl rfl (aI rfl) (xs rfl rfl (dM TF.fH rfl rfl h4 h5)) rfl false (by kernel_rfl) ?_;intro w3 hw _ D;replace H:=H _ hw;clear hw;refine⟨fun h=>(by cases h),?_⟩;refine dJ (by kernel_rfl) D ?_;intro w4 D;replace H:=H _ D;clear D cm;exact pR (res0 rfl) ⟨_,rfl,rfl,H⟩
def oI (K:Int->World->Prop) (w4:World):Prop:=
 K 0 w4
def kX (K:Int->World->Prop) (w:World) (x1:Int) (p1:Addr) (b1:Bool):Prop:=
 (b1=true->(K 81 w))/\(b1=false->((0<x1->(∃A2 n2 c2,w.cell? (p1.add 2)=some (.slice A2 n2 c2)/\∃A3 n3 c3,w.cell? (p1.add 1)=some (.slice A3 n3 c3)/\∃A4 n4 c4,w.cell? (p1.add 2)=some (.slice A4 n4 c4)/\0<=IntKind.wrap .i64 ((n2:Int)-x1)/\IntKind.wrap .i64 ((n2:Int)-x1)<(n4:Int)/\∃a1,A4=some a1/\∃x3,w.cell? (a1.add ((IntKind.wrap .i64 ((n2:Int)-x1)).toNat*1))=some (iv x3)/\0<=x3/\x3<=(c3:Int)/\∀w5,aO w w5->(∃u1,w5.cell? (p1.add 1)=some u1)/\w5.frozen? (p1.add 1)=false/\∀w1,w1=w5.setCell (p1.add 1) (.slice A3 x3.toNat c3)->(∀w2,aO w1 w2->(∃A5 n5 c5,w2.cell? (p1.add 2)=some (.slice A5 n5 c5)/\0<=IntKind.wrap .i64 ((n2:Int)-x1)/\IntKind.wrap .i64 ((n2:Int)-x1)<=(c5:Int)/\(∃u2,w2.cell? (p1.add 2)=some u2)/\w2.frozen? (p1.add 2)=false/\∀w3,w3=w2.setCell (p1.add 2) (.slice A5 ((IntKind.wrap .i64 ((n2:Int)-x1)).toNat) c5)->((oI K) w3)))))/\(¬(0<x1)->((oI K) w))))
def xA (p1:Addr) (x1:Int) (K:Int->World->Prop) (w:World):Prop:=
 (x1<0->((kX K w x1 p1) true))/\(¬(x1<0)->(∃A1 n1 c1,w.cell? (p1.add 2)=some (.slice A1 n1 c1)/\(kX K w x1 p1) (decide ((n1:Int)<x1))))
theorem Um (p1:Addr) (x1:Int) (K:Int->World->Prop) (w:World) (H:xA p1 x1 K w):Calls P F.qK #[.pointer (some p1),iv x1] w (cO fun v w'=>∃x2,v=(iv x2)/\K x2 w'):=by
 unfold xA at H;refine bT (P:=P) Tryz.func35 rfl [(0,.pointer (some p1)),(1,iv x1)] 50 rfl rfl (aa rfl (aa rfl az)) (aG (aF (ag rfl (aH (nc (y2 0 1 rfl) (aG ?_))))));refine fM (fun a=>∃b1,Ok 50 [(0,.pointer (some p1)),(1,iv x1),(16,.bool b1)] a/\kX K w x1 p1 b1) ?_ ?_
 ·rintro a ⟨b1,ha,H⟩;unfold kX at H;refine cu ha ?_;refine eG rfl (fun hb=> ?_) (fun hb=> ?_)
  ·replace H:=H.1 hb;exact aG (aF (ag rfl (aH (nc (kp 4 rfl zz) (bK (aQ (aN (res1 rfl rfl) ⟨_,rfl,_,rfl,H⟩)))))))
  ·replace H:=H.2 hb;refine aX (nc (y2 0 1 rfl) ?_);refine fA (fun a w=>Ok 50 [] a/\oI K w) ?_ ?_
   ·rintro a w4 ⟨ha,H⟩;unfold oI at H;refine cu ha ?_;exact aG (aF (ag rfl (aH (nc (kp 4 rfl zz) (bK (aN (res1 rfl rfl) ⟨_,rfl,_,rfl,H⟩))))))
   ·refine aG (aF (mv rfl (bo rfl rfl aBu (aH (nc (y3 0 1 18 rfl) ?_)))));refine bC rfl (fun hb=> ?_) (fun hb=> ?_)
    ·replace H:=H.1 hb;refine aG (aF (mv rfl (nk rfl (fa rfl (TF.jM _ _) ?_))));obtain⟨A2,n2,c2,h2,H⟩:=H;refine ld rfl (aJ TF.bM h2) (sv rfl rfl (xb rfl (fun _=>bW TF.bP)) (mv rfl (bo rfl rfl Pn (ag rfl (aH (nc (y2 0 5 rfl) (aG ?_)))))));refine bU follows [0,1,2,3,4,5,6,7,8,9,10,11,12,13,14] [4,8,11] 16 rfl rfl (by kernel_rfl) (fun _ _ d _ _ h=>by cases d<;>exact h) (fun cm W D=> ?_);refine gZ 0 cm rfl rfl D W fun _ D W=>(gZ 1 cm rfl rfl D W fun _ D W=>(Gh 2 cm rfl rfl D W fun _ D W=>(lH 3 cm rfl rfl (TF.dV _ _) D W fun _ D W=> ?_)));obtain⟨A3,n3,c3,h3,H⟩:=H;refine vl 4 cm rfl rfl (fun hw=>(aJ TF.fE ((hw.cell _).trans h3))) D W fun _ D W=>(gZ 5 cm rfl rfl D W fun _ D W=>(Gh 6 cm rfl rfl D W fun _ D W=>(lH 7 cm rfl rfl (TF.jM _ _) D W fun _ D W=> ?_)));obtain⟨A4,n4,c4,h4,H⟩:=H;refine vl 8 cm rfl rfl (fun hw=>(aJ TF.bM ((hw.cell _).trans h4))) D W fun _ D W=>(gZ 9 cm rfl rfl D W fun _ D W=> ?_);obtain⟨h5,h6,a1,e1,H⟩:=H;refine Ie 10 cm rfl rfl rfl (aU TF.aV TF.size_int e1 h5 h6) D W fun _ D W=> ?_;obtain⟨x3,h7,H⟩:=H;refine vl 11 cm rfl rfl (fun hw=>(aJ TF.aP ((hw.cell _).trans h7))) D W fun _ D W=> ?_;obtain⟨h8,h9,H⟩:=H;refine Qj 12 cm rfl rfl rfl (fun w' a ha=>Ad (ha.ev rfl) rfl (yP (ha.ev rfl)) rfl (xI TF.dZ TF.dR h8 h9)) D fun _ D=>(Ut 13 cm rfl rfl D fun _ D=>(Fb 14 cm rfl rfl (TF.dV _ _) D fun _ D=>(ar 15 ?_)));obtain⟨⟨u1,h12⟩,h13,H⟩:=H _ D;refine mY rfl rfl (aI rfl) (xs rfl rfl (dM TF.Ff rfl rfl h12 h13)) rfl false (by kernel_rfl) ?_;intro w1 hw _ D;replace H:=H _ hw;clear hw;refine⟨fun h=>(by cases h),?_⟩;refine dJ (by kernel_rfl) D ?_;intro w2 D;replace H:=H _ D;clear D cm;refine nc (y2 0 5 rfl) (aF (mv rfl (mv rfl (nk rfl (fa rfl (TF.jM _ _) ?_)))));obtain⟨A5,n5,c5,h14,H⟩:=H;refine ld rfl (aJ TF.bM h14) (mv rfl ?_);obtain⟨h15,h16,H⟩:=H;refine sv rfl rfl (fun a ha=>Ad (ha.ev rfl) rfl (yP (ha.ev rfl)) rfl (xI TF.aV TF.size_int h15 h16)) (nk rfl (fa rfl (TF.jM _ _) ?_));obtain⟨⟨u2,h19⟩,h20,H⟩:=H;refine oO rfl (aI rfl) (xs rfl rfl (dM TF.fH rfl rfl h19 h20)) ?_;intro w3 hw;replace H:=H _ hw;clear hw;exact aH (bD fun a ha=>⟨ha.weaken zz,H⟩)
    ·replace H:=H.2 hb;exact aX (bD fun a ha=>⟨ha.weaken zz,H⟩)
 ·refine aF (mv rfl (bo rfl rfl iY ?_));rcases Classical.em (x1<0) with hb|hb
  ·replace H:=H.1 hb;exact sv rfl rfl (xt rfl hb) (sk rfl rfl rfl rfl (sk rfl rfl rfl rfl (sk rfl rfl rfl rfl (sk rfl rfl rfl rfl (sk rfl rfl rfl rfl (sk rfl rfl rfl rfl (sk rfl rfl rfl rfl (pt rfl rfl (aH (bD fun a ha=>⟨⟨true,ha.weaken cs,H⟩,rfl⟩))))))))))
  ·replace H:=H.2 hb;refine sv rfl rfl (xf rfl hb) (Bv rfl rfl rfl (Bv rfl rfl rfl (nkg rfl rfl rfl (Zu rfl rfl rfl (TF.jM _ _) ?_))));obtain⟨A1,n1,c1,h1,H⟩:=H;exact Qo rfl rfl rfl (aJ TF.bM h1) (svg rfl rfl rfl rfl (xb rfl (fun _=>bW TF.bP)) (Qh rfl rfl rfl rfl aBu (pf rfl rfl (aH (bD fun a ha=>⟨⟨(decide ((n1:Int)<x1)),ha.weaken cs,H⟩,rfl⟩)))))
def tJ (k1:Nat) (I1:Nat->Int->World->Prop) (x7:Int) (w3:World):Prop:=
 ∃k2,k2<k1/\I1 k2 (IntKind.wrap .i64 (x7+1)) w3
def pG (w:World) (n1:Nat) (A1:Option Addr) (K:World->Prop) (x5:Int) (x6:Int):Prop:=
 ∃I1:Nat->Int->World->Prop,(∃k1,I1 k1 0 w)/\∀k1 (x7:Int) (w1:World),I1 k1 x7 w1->((x7<(n1:Int)->(0<=x7/\x7<(n1:Int)/\∃a3,A1=some a3/\∃x8,w1.cell? (a3.add (x7.toNat*1))=some (iv x8)/\(x8=x6->(0<=x7/\x7<(n1:Int)/\∃a4,A1=some a4/\(∃u1,w1.cell? (a4.add (x7.toNat*1))=some u1)/\w1.frozen? (a4.add (x7.toNat*1))=false/\∀w2,w2=w1.setCell (a4.add (x7.toNat*1)) (iv x5)->((tJ k1 I1 x7) w2)))/\(¬(x8=x6)->((tJ k1 I1 x7) w1))))/\(¬(x7<(n1:Int))->(K w1)))
def Qb (A1:Option Addr) (n1 c1:Nat) (x1:Int) (x2:Int) (K:World->Prop) (w:World):Prop:=
 0<=x1/\x1<(n1:Int)/\∃a1,A1=some a1/\∃x3,w.cell? (a1.add (x1.toNat*1))=some (iv x3)/\0<=x2/\x2<(n1:Int)/\∃a2,A1=some a2/\∃x4,w.cell? (a2.add (x2.toNat*1))=some (iv x4)/\(x4<x3->((pG w n1 A1 K) x4 x3))/\(¬(x4<x3)->((pG w n1 A1 K) x3 x4))
theorem aAc (A1:Option Addr) (n1 c1:Nat) (x1:Int) (x2:Int) (K:World->Prop) (w:World) (H:Qb A1 n1 c1 x1 x2 K w):Calls P F.xU #[.slice A1 n1 c1,iv x1,iv x2] w (cO fun v w'=>v=(.tuple #[])/\K w'):=by
 unfold Qb at H;refine bT (P:=P) Tryz.func75 rfl [(0,.slice A1 n1 c1),(1,iv x1),(2,iv x2)] 38 rfl rfl (aa rfl (aa rfl (aa rfl az))) (aG (aF (mv rfl (mv rfl ?_))));obtain⟨h1,h2,a1,e1,H⟩:=H;refine ix rfl rfl (aU TF.aV TF.size_int e1 h1 h2) ?_;obtain⟨x3,h3,H⟩:=H;refine ld rfl (aJ TF.aP h3) (ag rfl (aH (nc (y3 0 2 6 rfl) (aG (aF (mv rfl (mv rfl ?_)))))));obtain⟨h4,h5,a2,e2,H⟩:=H;refine ix rfl rfl (aU TF.aV TF.size_int e2 h4 h5) ?_;obtain⟨x4,h6,H⟩:=H;refine ld rfl (aJ TF.aP h6) (ag rfl (aH (nc (y3 0 6 7 rfl) ?_)));refine fM (fun a=>∃x5,∃x6,Ok 38 [(0,.slice A1 n1 c1),(6,iv x5),(7,iv x6)] a/\pG w n1 A1 K x5 x6) ?_ ?_
 ·rintro a ⟨x5,x6,ha,H⟩;unfold pG at H;refine cu ha ?_;refine aG (aF (ag rfl (aH (nc (y4 0 6 7 8 rfl) (aY ?_)))));obtain⟨I1,⟨k1,hi⟩,H⟩:=H;refine fK (fun k1 a w'=>∃x7,Ok 38 [(0,.slice A1 n1 c1),(6,iv x5),(7,iv x6),(8,iv x7)] a/\I1 k1 x7 w') (fun a ha=>⟨k1,0,ha.weaken cs,hi⟩) ?_;rintro k1 a w1 ⟨x7,ha,hI⟩;replace H:=H k1 x7 w1 hI;refine cu ha ?_;refine aG (aG (aF (mv rfl (mv rfl (sv rfl rfl (xb rfl (fun _=>bW TF.bP)) (bo rfl rfl iY (aH (nc (y5 0 6 7 8 25 rfl) ?_))))))));refine bC rfl (fun hb=> ?_) (fun hb=> ?_)
  ·replace H:=H.1 hb;refine aX (nc (y4 0 6 7 8 rfl) ?_);refine fA (fun a w=>Ok 38 [(0,.slice A1 n1 c1),(6,iv x5),(7,iv x6),(8,iv x7)] a/\tJ k1 I1 x7 w) ?_ ?_
   ·rintro a w3 ⟨ha,H⟩;unfold tJ at H;refine cu ha ?_;refine aF (mv rfl (bo rfl rfl kC (ag rfl (aH ?_))));obtain⟨k2,hk,H⟩:=H;exact bD fun a ha=>⟨k2,hk,IntKind.wrap .i64 (x7+1),ha.weaken cs,H⟩
   ·refine aY (aG (aF (mv rfl (mv rfl ?_))));obtain⟨h7,h8,a3,e3,H⟩:=H;refine ix rfl rfl (aU TF.aV TF.size_int e3 h7 h8) ?_;obtain⟨x8,h9,H⟩:=H;refine ld rfl (aJ TF.aP h9) (mv rfl (bo rfl rfl iR (aH (nc (y5 0 6 7 8 33 rfl) ?_))));refine bC rfl (fun hb=> ?_) (fun hb=> ?_)
    ·replace H:=H.1 hb;refine aF (mv rfl (mv rfl (mv rfl ?_)));obtain⟨h10,h11,a4,e4,H⟩:=H;refine ix rfl rfl (aU TF.aV TF.size_int e4 h10 h11) ?_;obtain⟨⟨u1,h12⟩,h13,H⟩:=H;refine oO rfl (aI rfl) (xs rfl rfl (dM TF.size_int rfl rfl h12 h13)) ?_;intro w2 hw;replace H:=H _ hw;clear hw;exact aH (bZ (bD fun a ha=>⟨ha.weaken cs,H⟩))
    ·replace H:=H.2 hb;exact aX (bZ (bD fun a ha=>⟨ha.weaken cs,H⟩))
  ·replace H:=H.2 hb;exact eU (aT (aT (bQ (pR (res0 rfl) ⟨_,rfl,rfl,H⟩))))
 ·refine aG (aF (mv rfl (mv rfl (bo rfl rfl aBu (aH (nc (y4 0 6 7 19 rfl) ?_))))));refine bC rfl (fun hb=> ?_) (fun hb=> ?_)
  ·replace H:=H.1 hb;exact aF (mv rfl (mv rfl (ag rfl (ag rfl (aH (bD fun a ha=>⟨⟨x4,x3,ha.weaken cs,H⟩,rfl⟩))))))
  ·replace H:=H.2 hb;exact aX (bD fun a ha=>⟨⟨x3,x4,ha.weaken cs,H⟩,rfl⟩)
def wW (A1:Option Addr) (n1 c1:Nat) (x1:Int) (A2:Option Addr) (n2 c2:Nat) (x2:Int) (A3:Option Addr) (n3 c3:Nat) (K:Bool->World->Prop) (w:World):Prop:=
 ∀(p1:Addr) (w1:World),New w (.cells #[iv x1,.slice A2 n2 c2] T.fJ) p1 w1->(∀(p2:Addr) (w2:World),New w1 (.cells #[iv x2,.slice A3 n3 c3] T.fJ) p2 w2->(∃x3,∃A4 n4 c4,bG w2 p1 [iv x3,.slice A4 n4 c4]/\∃x4,∃A5 n5 c5,bG w2 p2 [iv x4,.slice A5 n5 c5]/\Calls P F.vO #[.agg #[iv x3,.slice A4 n4 c4],.agg #[iv x4,.slice A5 n5 c5]] w2 (cO fun v1 w3=>∃b2,v1=(.bool b2)/\((!b2)=true->(K false w3))/\((!b2)=false->(∃I1:Nat->Int->World->Prop,(∃k1,I1 k1 0 w3)/\∀k1 (x5:Int) (w4:World),I1 k1 x5 w4->(∃A6 n6 c6,w4.cell? (p1.add 1)=some (.slice A6 n6 c6)/\(x5<(n6:Int)->(∃A7 n7 c7,w4.cell? (p1.add 1)=some (.slice A7 n7 c7)/\0<=x5/\x5<(n7:Int)/\∃a1,A7=some a1/\∃x6,w4.cell? (a1.add (x5.toNat*1))=some (iv x6)/\0<=x6/\x6<(n1:Int)/\∃a2,A1=some a2/\∃x7,w4.cell? (a2.add (x6.toNat*1))=some (iv x7)/\∃A8 n8 c8,w4.cell? (p2.add 1)=some (.slice A8 n8 c8)/\0<=x5/\x5<(n8:Int)/\∃a3,A8=some a3/\∃x8,w4.cell? (a3.add (x5.toNat*1))=some (iv x8)/\0<=x8/\x8<(n1:Int)/\∃a4,A1=some a4/\∃x9,w4.cell? (a4.add (x8.toNat*1))=some (iv x9)/\∀w5,aO w4 w5->((x7≠x9->(K false w5))/\(¬(x7≠x9)->(∃k2,k2<k1/\I1 k2 (IntKind.wrap .i64 (x5+1)) w5)))))/\(¬(x5<(n6:Int))->(K true w4))))))))
theorem Ur (A1:Option Addr) (n1 c1:Nat) (x1:Int) (A2:Option Addr) (n2 c2:Nat) (x2:Int) (A3:Option Addr) (n3 c3:Nat) (K:Bool->World->Prop) (w:World) (H:wW A1 n1 c1 x1 A2 n2 c2 x2 A3 n3 c3 K w):Calls P F.uZ #[.slice A1 n1 c1,.agg #[iv x1,.slice A2 n2 c2],.agg #[iv x2,.slice A3 n3 c3]] w (cO fun v w'=>∃b1,v=(.bool b1)/\K b1 w'):=by
 unfold wW at H;refine bT (P:=P) Tryz.func76 rfl [(0,.slice A1 n1 c1),(1,.agg #[iv x1,.slice A2 n2 c2]),(2,.agg #[iv x2,.slice A3 n3 c3])] 36 rfl rfl (aa rfl (aa rfl (aa rfl az))) (aG (aF (iP (f:=(fun p=> .pointer (some p))) rfl rfl (aI rfl) (fun a ha=>uM (ha.ev rfl) uO) ?_)));intro p1 w1 hN;replace H:=H _ _ hN;refine iP (f:=(fun p=> .pointer (some p))) rfl rfl (aI rfl) (fun a ha=>uM (ha.ev rfl) uO) ?_;intro p2 w2 hN;replace H:=H _ _ hN;refine ag rfl (aH (nc (y3 0 4 5 rfl) (aG (aG (aF ?_)))));obtain⟨x3,A4,n4,c4,h3,H⟩:=H;refine ld rfl (gW (vs:=[iv x3,.slice A4 n4 c4]) TF.oK TF.bY h3) ?_;obtain⟨x4,A5,n5,c5,h4,H⟩:=H;refine ld rfl (gW (vs:=[iv x4,.slice A5 n5 c5]) TF.oK TF.bY h4) (sc rfl rfl FF.Cm H ?_);rintro _ w3 ⟨b2,rfl,H⟩;refine sv rfl rfl (xu rfl sK) (aH (nc (y4 0 4 5 11 rfl) ?_));refine eG rfl (fun hb=> ?_) (fun hb=> ?_)
 ·replace H:=H.1 hb;exact aG (aF (ag rfl (aH (nc (kp 6 rfl zz) (bK (aQ (aN (res1 rfl rfl) ⟨_,rfl,_,rfl,H⟩)))))))
 ·replace H:=H.2 hb;refine aX (nc (y3 0 4 5 rfl) (aG (aG (aF (ag rfl (aH (nc (y4 0 4 5 7 rfl) (aY ?_))))))));obtain⟨I1,⟨k1,hi⟩,H⟩:=H;refine fK (fun k1 a w'=>∃x5,Ok 36 [(0,.slice A1 n1 c1),(4,.pointer (some p1)),(5,.pointer (some p2)),(7,iv x5)] a/\I1 k1 x5 w') (fun a ha=>⟨k1,0,ha.weaken cs,hi⟩) ?_;rintro k1 a w4 ⟨x5,ha,hI⟩;replace H:=H k1 x5 w4 hI;refine cu ha ?_;refine aG (aG (aF (mv rfl (fa rfl (TF.fF _ _) ?_))));obtain⟨A6,n6,c6,h5,H⟩:=H;refine ld rfl (aJ TF.bM h5) (sv rfl rfl (xb rfl (fun _=>bW TF.bP)) (bo rfl rfl iY (aH (nc (y5 0 4 5 7 16 rfl) ?_))));refine bC rfl (fun hb=> ?_) (fun hb=> ?_)
  ·replace H:=H.1 hb;refine aX (nc (y4 0 4 5 7 rfl) (aG (aY (aG ?_))));refine bU follows [0,1,2,3,4,5,6,7,8,9,10,11,12,13,14,15,16] [2,5,7,10,13,15] 17 rfl rfl (by kernel_rfl) (fun _ _ d _ _ h=>by cases d<;>exact h) (fun cm W D=> ?_);refine gZ 0 cm rfl rfl D W fun _ D W=>(lH 1 cm rfl rfl (TF.fF _ _) D W fun _ D W=> ?_);obtain⟨A7,n7,c7,h6,H⟩:=H;refine vl 2 cm rfl rfl (fun hw=>(aJ TF.bM ((hw.cell _).trans h6))) D W fun _ D W=>(gZ 3 cm rfl rfl D W fun _ D W=> ?_);obtain⟨h7,h8,a1,e1,H⟩:=H;refine Ie 4 cm rfl rfl rfl (aU TF.aV TF.size_int e1 h7 h8) D W fun _ D W=> ?_;obtain⟨x6,h9,H⟩:=H;refine vl 5 cm rfl rfl (fun hw=>(aJ TF.aP ((hw.cell _).trans h9))) D W fun _ D W=> ?_;obtain⟨h10,h11,a2,e2,H⟩:=H;refine Ie 6 cm rfl rfl rfl (aU TF.aV TF.size_int e2 h10 h11) D W fun _ D W=> ?_;obtain⟨x7,h12,H⟩:=H;refine vl 7 cm rfl rfl (fun hw=>(aJ TF.aP ((hw.cell _).trans h12))) D W fun _ D W=>(gZ 8 cm rfl rfl D W fun _ D W=>(lH 9 cm rfl rfl (TF.fF _ _) D W fun _ D W=> ?_));obtain⟨A8,n8,c8,h13,H⟩:=H;refine vl 10 cm rfl rfl (fun hw=>(aJ TF.bM ((hw.cell _).trans h13))) D W fun _ D W=>(gZ 11 cm rfl rfl D W fun _ D W=> ?_);obtain⟨h14,h15,a3,e3,H⟩:=H;refine Ie 12 cm rfl rfl rfl (aU TF.aV TF.size_int e3 h14 h15) D W fun _ D W=> ?_;obtain⟨x8,h16,H⟩:=H;refine vl 13 cm rfl rfl (fun hw=>(aJ TF.aP ((hw.cell _).trans h16))) D W fun _ D W=> ?_;obtain⟨h17,h18,a4,e4,H⟩:=H;refine Ie 14 cm rfl rfl rfl (aU TF.aV TF.size_int e4 h17 h18) D W fun _ D W=> ?_;obtain⟨x9,h19,H⟩:=H;refine vl 15 cm rfl rfl (fun hw=>(aJ TF.aP ((hw.cell _).trans h19))) D W fun _ D W=>(Qj 16 cm rfl rfl rfl (fun w' a ha=>fZ (ha.ev rfl) (ha.ev rfl) qR) D fun _ D=>(dJ (by kernel_rfl) D ?_));intro w5 D;replace H:=H _ D;clear D cm;refine nc (y5 0 4 5 7 35 rfl) ?_;refine bC rfl (fun hb=> ?_) (fun hb=> ?_)
   ·replace H:=H.1 hb;exact aG (aF (ag rfl (aH (nc (kp 6 rfl zz) (bK (bF (aQ (aQ (bF (aQ (aN (res1 rfl rfl) ⟨_,rfl,_,rfl,H⟩)))))))))))
   ·replace H:=H.2 hb;refine aX (bZ (nc (y4 0 4 5 7 rfl) (aF (mv rfl (bo rfl rfl kC (ag rfl (aH ?_)))))));obtain⟨k2,hk,H⟩:=H;exact bD fun a ha=>⟨k2,hk,IntKind.wrap .i64 (x5+1),ha.weaken cs,H⟩
  ·replace H:=H.2 hb;exact eU (aT (aT (bQ (nc zz (aG (aF (ag rfl (aH (nc (kp 6 rfl zz) (bK (aN (res1 rfl rfl) ⟨_,rfl,_,rfl,H⟩)))))))))))
def nV (k3:Nat) (I2:Nat->Int->World->Prop) (x2:Int) (w9:World):Prop:=
 ∃k4,k4<k3/\I2 k4 (IntKind.wrap .i64 (x2+1)) w9
def oG (A4:Option Addr) (n4 c4:Nat) (x5:Int) (x6:Int) (jc3:Bool->World->Prop) (b3:Bool) (b5:Bool) (w17:World):Prop:=
 (b5=true->(Calls P F.xU #[.slice A4 n4 c4,iv x5,iv x6] w17 (cO fun v3 w19=>v3=(.tuple #[])/\jc3 true w19)))/\(b5=false->(jc3 b3 w17))
def jJ (k7:Nat) (I5:Nat->Bool->Int->World->Prop) (x6:Int) (b6:Bool) (w20:World):Prop:=
 ∃k8,k8<k7/\I5 k8 b6 (IntKind.wrap .i64 (x6+1)) w20
def Bh (A1:Option Addr) (n1 c1:Nat) (A2:Option Addr) (n2 c2:Nat) (K:Option Addr->Nat->Nat->World->Prop) (w:World):Prop:=
 ∃(A4:Option Addr) (n4 c4:Nat) (w1:World),(Instr.makeSlice T.bH (iv (n1:Int)) (iv (n1:Int))).run P w= .ok (.slice A4 n4 c4) w1/\(∃I1:Nat->Int->World->Prop,(∃k1,I1 k1 0 w1)/\∀k1 (x1:Int) (w2:World),I1 k1 x1 w2->((x1<(n4:Int)->(0<=x1/\x1<(n4:Int)/\∃a1,A4=some a1/\(∃u1,w2.cell? (a1.add (x1.toNat*1))=some u1)/\w2.frozen? (a1.add (x1.toNat*1))=false/\∀w3,w3=w2.setCell (a1.add (x1.toNat*1)) (iv x1)->(∃k2,k2<k1/\I1 k2 (IntKind.wrap .i64 (x1+1)) w3)))/\(¬(x1<(n4:Int))->(∃I2:Nat->Int->World->Prop,(∃k3,I2 k3 0 w2)/\∀k3 (x2:Int) (w4:World),I2 k3 x2 w4->((x2<(n2:Int)->(0<=x2/\x2<(n2:Int)/\∃a2,A2=some a2/\∃b1,w4.cell? ((a2.add (x2.toNat*4)).add 0)=some (.bool b1)/\((!b1)=true->(0<=x2/\x2<(n2:Int)/\∃a3,A2=some a3/\∃x3,w4.cell? ((a3.add (x2.toNat*4)).add 1)=some (iv x3)/\0<=x2/\x2<(n2:Int)/\∃a4,A2=some a4/\∃x4,w4.cell? ((a4.add (x2.toNat*4)).add 2)=some (iv x4)/\∀w6,aO w4 w6->Calls P F.xU #[.slice A4 n4 c4,iv x3,iv x4] w6 (cO fun v1 w5=>v1=(.tuple #[])/\∀w8,aO w5 w8->((nV k3 I2 x2) w8))))/\((!b1)=false->((nV k3 I2 x2) w4))))/\(¬(x2<(n2:Int))->(∃I3:Nat->World->Prop,(∃k5,I3 k5 w4)/\∀k5 (w10:World),I3 k5 w10->(∃I4:Nat->Bool->Int->World->Prop,(∃k6,I4 k6 false 0 w10)/\∀k6 (b2:Bool) (x5:Int) (w11:World),I4 k6 b2 x5 w11->((x5<(n1:Int)->(∃I5:Nat->Bool->Int->World->Prop,(∃k7,I5 k7 b2 0 w11)/\∀k7 (b3:Bool) (x6:Int) (w12:World),I5 k7 b3 x6 w12->((x6<x5->(0<=x5/\x5<(n4:Int)/\∃a5,A4=some a5/\∃x7,w12.cell? (a5.add (x5.toNat*1))=some (iv x7)/\0<=x6/\x6<(n4:Int)/\∃a6,A4=some a6/\∃x8,w12.cell? (a6.add (x6.toNat*1))=some (iv x8)/\(x7≠x8->(0<=x5/\x5<(n1:Int)/\∃a7,A1=some a7/\∃x9,∃A5 n5 c5,bG w12 (a7.add (x5.toNat*2)) [iv x9,.slice A5 n5 c5]/\0<=x6/\x6<(n1:Int)/\∃a8,A1=some a8/\∃x10,∃A6 n6 c6,bG w12 (a8.add (x6.toNat*2)) [iv x10,.slice A6 n6 c6]/\∀w14,aO w12 w14->Calls P F.uZ #[.slice A4 n4 c4,.agg #[iv x9,.slice A5 n5 c5],.agg #[iv x10,.slice A6 n6 c6]] w14 (cO fun v2 w13=>∃b4,v2=(.bool b4)/\∀w16,aO w13 w16->((oG A4 n4 c4 x5 x6 (jJ k7 I5 x6) b3) b4 w16))))/\(¬(x7≠x8)->(∀w18,aO w12 w18->((oG A4 n4 c4 x5 x6 (jJ k7 I5 x6) b3) false w18)))))/\(¬(x6<x5)->(∃k9,k9<k6/\I4 k9 b3 (IntKind.wrap .i64 (x5+1)) w12)))))/\(¬(x5<(n1:Int))->(((!b2)=true->(K A4 n4 c4 w11))/\((!b2)=false->(∃k10,k10<k5/\I3 k10 w11)))))))))))))
theorem Zh (A1:Option Addr) (n1 c1:Nat) (A2:Option Addr) (n2 c2:Nat) (K:Option Addr->Nat->Nat->World->Prop) (w:World) (H:Bh A1 n1 c1 A2 n2 c2 K w):Calls P F.wJ #[.slice A1 n1 c1,.slice A2 n2 c2] w (cO fun v w'=>∃A3 n3 c3,v=(.slice A3 n3 c3)/\K A3 n3 c3 w'):=by
 unfold Bh at H;refine bT (P:=P) Tryz.func60 rfl [(0,.slice A1 n1 c1),(1,.slice A2 n2 c2)] 87 rfl rfl (aa rfl (aa rfl az)) (aG (aF (ag rfl (aH (nc (y2 0 1 rfl) (aG (aF (mv rfl (sv rfl rfl (xb rfl (fun _=>bW TF.dS)) ?_)))))))));obtain⟨A4,n4,c4,w1,h1,H⟩:=H;refine sv rfl rfl (fun a ha=>pW (ha.ev rfl) (ha.ev rfl) h1) (ag rfl (aH (nc (y3 0 1 5 rfl) (aG (aG (aF (ag rfl (aH (nc (y4 0 1 5 6 rfl) (aY ?_))))))))));obtain⟨I1,⟨k1,hi⟩,H⟩:=H;refine fK (fun k1 a w'=>∃x1,Ok 87 [(0,.slice A1 n1 c1),(1,.slice A2 n2 c2),(5,.slice A4 n4 c4),(6,iv x1)] a/\I1 k1 x1 w') (fun a ha=>⟨k1,0,ha.weaken cs,hi⟩) ?_;rintro k1 a w2 ⟨x1,ha,hI⟩;replace H:=H k1 x1 w2 hI;refine cu ha ?_;refine aG (aG (aF (mv rfl (mv rfl (sv rfl rfl (xb rfl (fun _=>bW TF.bP)) (bo rfl rfl iY (aH (nc (y5 0 1 5 6 17 rfl) ?_))))))));refine bC rfl (fun hb=> ?_) (fun hb=> ?_)
 ·replace H:=H.1 hb;refine aX (nc (y4 0 1 5 6 rfl) (aG (aY (aF (mv rfl (mv rfl (mv rfl ?_)))))));obtain⟨h2,h3,a1,e1,H⟩:=H;refine ix rfl rfl (aU TF.aV TF.size_int e1 h2 h3) ?_;obtain⟨⟨u1,h4⟩,h5,H⟩:=H;refine oO rfl (aI rfl) (xs rfl rfl (dM TF.size_int rfl rfl h4 h5)) ?_;intro w3 hw;replace H:=H _ hw;clear hw;refine aH (bZ (nc (y4 0 1 5 6 rfl) (aF (mv rfl (bo rfl rfl kC (ag rfl (aH ?_)))))));obtain⟨k2,hk,H⟩:=H;exact bD fun a ha=>⟨k2,hk,IntKind.wrap .i64 (x1+1),ha.weaken cs,H⟩
 ·replace H:=H.2 hb;refine eU (aT (aT (bQ (nc (y3 0 1 5 rfl) (aG (aG (aF (ag rfl (aH (nc (y4 0 1 5 7 rfl) (aY ?_)))))))))));obtain⟨I2,⟨k3,hi⟩,H⟩:=H;refine fK (fun k3 a w'=>∃x2,Ok 87 [(0,.slice A1 n1 c1),(1,.slice A2 n2 c2),(5,.slice A4 n4 c4),(7,iv x2)] a/\I2 k3 x2 w') (fun a ha=>⟨k3,0,ha.weaken cs,hi⟩) ?_;rintro k3 a w4 ⟨x2,ha,hI⟩;replace H:=H k3 x2 w4 hI;refine cu ha ?_;refine aG (aG (aF (mv rfl (mv rfl (sv rfl rfl (xb rfl (fun _=>bW TF.jC)) (bo rfl rfl iY (aH (nc (y5 0 1 5 7 27 rfl) ?_))))))));refine bC rfl (fun hb=> ?_) (fun hb=> ?_)
  ·replace H:=H.1 hb;refine aX (nc (y4 0 1 5 7 rfl) ?_);refine fA (fun a w=>Ok 87 [(0,.slice A1 n1 c1),(1,.slice A2 n2 c2),(5,.slice A4 n4 c4),(7,iv x2)] a/\nV k3 I2 x2 w) ?_ ?_
   ·rintro a w9 ⟨ha,H⟩;unfold nV at H;refine cu ha ?_;refine aF (mv rfl (bo rfl rfl kC (ag rfl (aH ?_))));obtain⟨k4,hk,H⟩:=H;exact bD fun a ha=>⟨k4,hk,IntKind.wrap .i64 (x2+1),ha.weaken cs,H⟩
   ·refine aY (aG (aF (mv rfl (mv rfl ?_))));obtain⟨h6,h7,a2,e2,H⟩:=H;refine ix rfl rfl (aU TF.dZ TF.dR e2 h6 h7) (fa rfl (TF.sZ _ _) ?_);obtain⟨b1,h8,H⟩:=H;refine ld rfl (aJ TF.Ah h8) (sv rfl rfl (xu rfl sK) (aH (nc (y5 0 1 5 7 35 rfl) ?_)));refine eG rfl (fun hb=> ?_) (fun hb=> ?_)
    ·replace H:=H.1 hb;refine bU follows [0,1,2,3,4,5,6,7,8,9,10] [5,10] 12 rfl rfl (by kernel_rfl) (fun _ _ d _ _ h=>by cases d<;>exact h) (fun cm W D=> ?_);refine gZ 0 cm rfl rfl D W fun _ D W=>(gZ 1 cm rfl rfl D W fun _ D W=>(gZ 2 cm rfl rfl D W fun _ D W=> ?_));obtain⟨h9,h10,a3,e3,H⟩:=H;refine Ie 3 cm rfl rfl rfl (aU TF.dZ TF.dR e3 h9 h10) D W fun _ D W=>(lH 4 cm rfl rfl (TF.tN _ _) D W fun _ D W=> ?_);obtain⟨x3,h11,H⟩:=H;refine vl 5 cm rfl rfl (fun hw=>(aJ TF.aP ((hw.cell _).trans h11))) D W fun _ D W=>(gZ 6 cm rfl rfl D W fun _ D W=>(gZ 7 cm rfl rfl D W fun _ D W=> ?_));obtain⟨h12,h13,a4,e4,H⟩:=H;refine Ie 8 cm rfl rfl rfl (aU TF.dZ TF.dR e4 h12 h13) D W fun _ D W=>(lH 9 cm rfl rfl (TF.uJ _ _) D W fun _ D W=> ?_);obtain⟨x4,h14,H⟩:=H;refine vl 10 cm rfl rfl (fun hw=>(aJ TF.aP ((hw.cell _).trans h14))) D W fun _ D W=>(ar 11 ?_);replace H:=H _ D;refine Vx rfl rfl rfl (aI rfl) (xc rfl rfl FF.Dy) rfl false (by kernel_rfl) H ?_;rintro _ w5 ⟨rfl,H⟩ _ D;refine⟨fun h=>(by cases h),?_⟩;refine dJ (by kernel_rfl) D ?_;intro w8 D;replace H:=H _ D;clear D cm;exact bZ (bD fun a ha=>⟨ha.weaken cs,H⟩)
    ·replace H:=H.2 hb;exact aX (bZ (bD fun a ha=>⟨ha.weaken cs,H⟩))
  ·replace H:=H.2 hb;refine eU (aT (aT (bQ (nc (y2 0 5 rfl) (aY ?_)))));obtain⟨I3,⟨k5,hi⟩,H⟩:=H;refine fK (fun k5 a w'=>Ok 87 [(0,.slice A1 n1 c1),(5,.slice A4 n4 c4)] a/\I3 k5 w') (fun a ha=>⟨k5,ha.weaken cs,hi⟩) ?_;rintro k5 a w10 ⟨ha,hI⟩;replace H:=H k5 w10 hI;refine cu ha ?_;refine aY (aG (aF (ag rfl (aH (nc (y3 0 5 8 rfl) (aG (aG (aF (ag rfl (aH (nc (y4 0 5 8 9 rfl) (aY ?_))))))))))));obtain⟨I4,⟨k6,hi⟩,H⟩:=H;refine fK (fun k6 a w'=>∃b2,∃x5,Ok 87 [(0,.slice A1 n1 c1),(5,.slice A4 n4 c4),(8,.bool b2),(9,iv x5)] a/\I4 k6 b2 x5 w') (fun a ha=>⟨k6,false,0,ha.weaken cs,hi⟩) ?_;rintro k6 a w11 ⟨b2,x5,ha,hI⟩;replace H:=H k6 b2 x5 w11 hI;refine cu ha ?_;refine aG (aG (aF (mv rfl (mv rfl (sv rfl rfl (xb rfl (fun _=>bW TF.dS)) (bo rfl rfl iY (aH (nc (y5 0 5 8 9 51 rfl) ?_))))))));refine bC rfl (fun hb=> ?_) (fun hb=> ?_)
   ·replace H:=H.1 hb;refine aX (nc (y4 0 5 8 9 rfl) (aG (aY (aG (aF (ag rfl (aH (nc (y5 0 5 8 9 10 rfl) (aY ?_)))))))));obtain⟨I5,⟨k7,hi⟩,H⟩:=H;refine fK (fun k7 a w'=>∃b3,∃x6,Ok 87 [(0,.slice A1 n1 c1),(5,.slice A4 n4 c4),(8,.bool b3),(9,iv x5),(10,iv x6)] a/\I5 k7 b3 x6 w') (fun a ha=>⟨k7,b2,0,ha.weaken cs,hi⟩) ?_;rintro k7 a w12 ⟨b3,x6,ha,hI⟩;replace H:=H k7 b3 x6 w12 hI;refine cu ha ?_;refine aG (aG (aF (mv rfl (mv rfl (bo rfl rfl iY (aH (nc (y6 0 5 8 9 10 56 rfl) ?_)))))));refine bC rfl (fun hb=> ?_) (fun hb=> ?_)
    ·replace H:=H.1 hb;refine aX (nc (y5 0 5 8 9 10 rfl) ?_);refine fA (fun a w=>∃b6,Ok 87 [(0,.slice A1 n1 c1),(5,.slice A4 n4 c4),(8,.bool b6),(9,iv x5),(10,iv x6)] a/\jJ k7 I5 x6 b6 w) ?_ ?_
     ·rintro a w20 ⟨b6,ha,H⟩;unfold jJ at H;refine cu ha ?_;refine aF (mv rfl (bo rfl rfl kC (ag rfl (aH ?_))));obtain⟨k8,hk,H⟩:=H;exact bD fun a ha=>⟨k8,hk,b6,IntKind.wrap .i64 (x6+1),ha.weaken cs,H⟩
     ·refine aY ?_;refine fA (fun a w=>∃b5,Ok 87 [(0,.slice A1 n1 c1),(5,.slice A4 n4 c4),(8,.bool b3),(9,iv x5),(10,iv x6),(79,.bool b5)] a/\oG A4 n4 c4 x5 x6 (jJ k7 I5 x6) b3 b5 w) ?_ ?_
      ·rintro a w17 ⟨b5,ha,H⟩;unfold oG at H;refine cu ha ?_;refine eG rfl (fun hb=> ?_) (fun hb=> ?_)
       ·replace H:=H.1 hb;refine aG (aF (mv rfl (mv rfl (mv rfl (sc rfl rfl FF.Dy H ?_)))));rintro _ w19 ⟨rfl,H⟩;exact aH (nc (y4 0 5 9 10 rfl) (aF (ag rfl (aH (bZ (bD fun a ha=>⟨true,ha.weaken cs,H⟩))))))
       ·replace H:=H.2 hb;exact aX (bZ (bD fun a ha=>⟨b3,ha.weaken cs,H⟩))
      ·refine bU follows [0,1,2,3,4,5,6,7,8,9,10,11,12,13,14,15,16,17,18,20] [3,7,14,18] 21 rfl rfl (by kernel_rfl) (fun _ _ d _ _ h=>by cases d<;>exact h) (fun cm W D=> ?_);refine gZ 0 cm rfl rfl D W fun _ D W=>(gZ 1 cm rfl rfl D W fun _ D W=> ?_);obtain⟨h17,h18,a5,e5,H⟩:=H;refine Ie 2 cm rfl rfl rfl (aU TF.aV TF.size_int e5 h17 h18) D W fun _ D W=> ?_;obtain⟨x7,h19,H⟩:=H;refine vl 3 cm rfl rfl (fun hw=>(aJ TF.aP ((hw.cell _).trans h19))) D W fun _ D W=>(gZ 4 cm rfl rfl D W fun _ D W=>(gZ 5 cm rfl rfl D W fun _ D W=> ?_));obtain⟨h20,h21,a6,e6,H⟩:=H;refine Ie 6 cm rfl rfl rfl (aU TF.aV TF.size_int e6 h20 h21) D W fun _ D W=> ?_;obtain⟨x8,h22,H⟩:=H;refine vl 7 cm rfl rfl (fun hw=>(aJ TF.aP ((hw.cell _).trans h22))) D W fun _ D W=>(pv 8 cm rfl rfl rfl (fun w' a ha=>fZ (ha.ev rfl) (ha.ev rfl) qR) D W fun _ D W=> ?_);rcases Classical.em (x7≠x8) with hb|hb
       ·replace H:=H.1 hb;refine pv 9 cm rfl rfl rfl (fun w' a ha=>o_t (iC (ha.ev rfl)) hb) D W fun _ D W=>(zX 10 cm rfl rfl rfl rfl D W fun _ D W=>(zX 11 cm rfl rfl rfl rfl D W fun _ D W=>(zX 12 cm rfl rfl rfl rfl D W fun _ D W=> ?_)));obtain⟨h23,h24,a7,e7,H⟩:=H;refine Zk 13 cm rfl rfl rfl rfl rfl (aU TF.dN TF.bY e7 h23 h24) D W fun _ D W=> ?_;obtain⟨x9,A5,n5,c5,h25,H⟩:=H;refine vlg 14 cm rfl rfl rfl rfl (fun hw=>(gW (vs:=[iv x9,.slice A5 n5 c5]) TF.oK TF.bY (hw.cells h25))) D W fun _ D W=>(zX 15 cm rfl rfl rfl rfl D W fun _ D W=>(zX 16 cm rfl rfl rfl rfl D W fun _ D W=> ?_));obtain⟨h26,h27,a8,e8,H⟩:=H;refine Zk 17 cm rfl rfl rfl rfl rfl (aU TF.dN TF.bY e8 h26 h27) D W fun _ D W=> ?_;obtain⟨x10,A6,n6,c6,h28,H⟩:=H;refine vlg 18 cm rfl rfl rfl rfl (fun hw=>(gW (vs:=[iv x10,.slice A6 n6 c6]) TF.oK TF.bY (hw.cells h28))) D W fun _ D W=>(ar 19 ?_);replace H:=H _ D;refine Vx rfl rfl rfl (dW rfl rfl rfl) (xc rfl rfl FF.Nb) rfl false (by kernel_rfl) H ?_;rintro _ w13 ⟨b4,rfl,H⟩ _ D;refine⟨fun h=>(by cases h),?_⟩;refine aDp 20 cm rfl rfl rfl D fun _ D=>(dJ (by kernel_rfl) D ?_);intro w16 D;replace H:=H _ D;clear D cm;exact bD fun a ha=>⟨b4,ha.weaken cs,H⟩
       ·replace H:=H.2 hb;refine pv 9 cm rfl rfl rfl (fun w' a ha=>o_f (iC (ha.ev rfl)) hb) D W fun _ D W=>(ps 10 cm rfl rfl rfl rfl rfl D W fun _ D W=>(ps 11 cm rfl rfl rfl rfl rfl D W fun _ D W=>(ps 12 cm rfl rfl rfl rfl rfl D W fun _ D W=>(ps 13 cm rfl rfl rfl rfl rfl D W fun _ D W=>(ps 14 cm rfl rfl rfl rfl rfl D W fun _ D W=>(ps 15 cm rfl rfl rfl rfl rfl D W fun _ D W=>(ps 16 cm rfl rfl rfl rfl rfl D W fun _ D W=>(ps 17 cm rfl rfl rfl rfl rfl D W fun _ D W=>(ps 18 cm rfl rfl rfl rfl rfl D W fun _ D W=>(ar 19 (aCr rfl rfl rfl (En rfl rfl rfl rfl) rfl false (by kernel_rfl) ?_)))))))))));intro _ hd;replace D:=D.trans hd;refine⟨fun h=>(by cases h),?_⟩;clear hd;refine aCs 20 cm rfl rfl rfl D fun _ D=>(dJ (by kernel_rfl) D ?_);intro w18 D;replace H:=H _ D;clear D cm;exact bD fun a ha=>⟨false,ha.weaken cs,H⟩
    ·replace H:=H.2 hb;refine eU (aT (aT (bQ (bZ (nc (y4 0 5 8 9 rfl) (aF (mv rfl (bo rfl rfl kC (ag rfl (aH ?_))))))))));obtain⟨k9,hk,H⟩:=H;exact bD fun a ha=>⟨k9,hk,b3,IntKind.wrap .i64 (x5+1),ha.weaken cs,H⟩
   ·replace H:=H.2 hb;refine eU (aT (aT (bQ (nc (y3 0 5 8 rfl) (aG (aF (mv rfl (sv rfl rfl (xu rfl sK) (aH (nc (y3 0 5 85 rfl) ?_))))))))));refine eG rfl (fun hb=> ?_) (fun hb=> ?_)
    ·replace H:=H.1 hb;exact aG (aF (mv rfl (ag rfl (aH (nc (kp 4 rfl zz) (bK (bF (aQ (bF (aN (res1 rfl rfl) ⟨_,rfl,_,_,_,rfl,H⟩))))))))))
    ·replace H:=H.2 hb;refine aX (bZ ?_);obtain⟨k10,hk,H⟩:=H;exact bD fun a ha=>⟨k10,hk,ha.weaken cs,H⟩
def gK (K:Bool->World->Prop) (w:World) (k1:Nat) (I1:Nat->Int->Prop) (x3:Int) (b3:Bool):Prop:=
 (b3=true->(K true w))/\(b3=false->(∃k2,k2<k1/\I1 k2 (IntKind.wrap .i64 (x3+1))))
def zW (A1:Option Addr) (n1 c1:Nat) (A2:Option Addr) (n2 c2:Nat) (x1:Int) (x2:Int) (K:Bool->World->Prop) (w:World):Prop:=
 ∃I1:Nat->Int->Prop,(∃k1,I1 k1 0)/\∀k1 (x3:Int),I1 k1 x3->((x3<(n2:Int)->(0<=x3/\x3<(n2:Int)/\∃a1,A2=some a1/\∃x4,w.cell? ((a1.add (x3.toNat*4)).add 1)=some (iv x4)/\0<=x4/\x4<(n1:Int)/\∃a2,A1=some a2/\∃x5,w.cell? (a2.add (x4.toNat*1))=some (iv x5)/\0<=x3/\x3<(n2:Int)/\∃a3,A2=some a3/\∃x6,w.cell? ((a3.add (x3.toNat*4)).add 2)=some (iv x6)/\0<=x6/\x6<(n1:Int)/\∃a4,A1=some a4/\∃x7,w.cell? (a4.add (x6.toNat*1))=some (iv x7)/\0<=x3/\x3<(n2:Int)/\∃a5,A2=some a5/\∃b2,w.cell? ((a5.add (x3.toNat*4)).add 0)=some (.bool b2)/\(b2=true->(0<=x1/\x1<(n1:Int)/\∃a6,A1=some a6/\∃x8,w.cell? (a6.add (x1.toNat*1))=some (iv x8)/\(x5=x8->(0<=x2/\x2<(n1:Int)/\∃a7,A1=some a7/\∃x9,w.cell? (a7.add (x2.toNat*1))=some (iv x9)/\(x7=x9->((gK K w k1 I1 x3) true))/\(¬(x7=x9)->(0<=x2/\x2<(n1:Int)/\∃a8,A1=some a8/\∃x10,w.cell? (a8.add (x2.toNat*1))=some (iv x10)/\(x5=x10->(0<=x1/\x1<(n1:Int)/\∃a9,A1=some a9/\∃x11,w.cell? (a9.add (x1.toNat*1))=some (iv x11)/\(gK K w k1 I1 x3) (decide (x7=x11))))/\(¬(x5=x10)->((gK K w k1 I1 x3) false))))))/\(¬(x5=x8)->(0<=x2/\x2<(n1:Int)/\∃a10,A1=some a10/\∃x12,w.cell? (a10.add (x2.toNat*1))=some (iv x12)/\(x5=x12->(0<=x1/\x1<(n1:Int)/\∃a11,A1=some a11/\∃x13,w.cell? (a11.add (x1.toNat*1))=some (iv x13)/\(gK K w k1 I1 x3) (decide (x7=x13))))/\(¬(x5=x12)->((gK K w k1 I1 x3) false))))))/\(b2=false->((gK K w k1 I1 x3) false))))/\(¬(x3<(n2:Int))->(K false w)))
theorem Ya (A1:Option Addr) (n1 c1:Nat) (A2:Option Addr) (n2 c2:Nat) (x1:Int) (x2:Int) (K:Bool->World->Prop) (w:World) (H:zW A1 n1 c1 A2 n2 c2 x1 x2 K w):Calls P F.yM #[.slice A1 n1 c1,.slice A2 n2 c2,iv x1,iv x2] w (cO fun v w'=>∃b1,v=(.bool b1)/\K b1 w'):=by
 unfold zW at H;refine bT (P:=P) Tryz.func77 rfl [(0,.slice A1 n1 c1),(1,.slice A2 n2 c2),(2,iv x1),(3,iv x2)] 71 rfl rfl (aa rfl (aa rfl (aa rfl (aa rfl az)))) (aG (aF (ag rfl (aH (nc (y4 0 1 2 3 rfl) (aG (aG (aF (ag rfl (aH (nc (y5 0 1 2 3 9 rfl) (aY ?_))))))))))));obtain⟨I1,⟨k1,hi⟩,H⟩:=H;refine Au (fun k1 a=>∃x3,Ok 71 [(0,.slice A1 n1 c1),(1,.slice A2 n2 c2),(2,iv x1),(3,iv x2),(9,iv x3)] a/\I1 k1 x3) (fun a ha=>⟨k1,0,ha.weaken cs,hi⟩) ?_;rintro k1 a ⟨x3,ha,hI⟩;replace H:=H k1 x3 hI;refine cu ha ?_;refine aG (aG (aF (mv rfl (mv rfl (sv rfl rfl (xb rfl (fun _=>bW TF.jC)) (bo rfl rfl iY (aH (nc (y6 0 1 2 3 9 15 rfl) ?_))))))));refine bC rfl (fun hb=> ?_) (fun hb=> ?_)
 ·replace H:=H.1 hb;refine aX (nc (y5 0 1 2 3 9 rfl) (aG (aY (aG (aF (mv rfl (mv rfl (mv rfl ?_))))))));obtain⟨h1,h2,a1,e1,H⟩:=H;refine ix rfl rfl (aU TF.dZ TF.dR e1 h1 h2) (fa rfl (TF.tN _ _) ?_);obtain⟨x4,h3,H⟩:=H;refine ld rfl (aJ TF.aP h3) ?_;obtain⟨h4,h5,a2,e2,H⟩:=H;refine ix rfl rfl (aU TF.aV TF.size_int e2 h4 h5) ?_;obtain⟨x5,h6,H⟩:=H;refine ld rfl (aJ TF.aP h6) (ag rfl (aH (nc (y6 0 1 2 3 9 10 rfl) (aG (aF (mv rfl (mv rfl (mv rfl ?_))))))));obtain⟨h7,h8,a3,e3,H⟩:=H;refine ix rfl rfl (aU TF.dZ TF.dR e3 h7 h8) (fa rfl (TF.uJ _ _) ?_);obtain⟨x6,h9,H⟩:=H;refine ld rfl (aJ TF.aP h9) ?_;obtain⟨h10,h11,a4,e4,H⟩:=H;refine ix rfl rfl (aU TF.aV TF.size_int e4 h10 h11) ?_;obtain⟨x7,h12,H⟩:=H;refine ld rfl (aJ TF.aP h12) (ag rfl (aH (nc (y7 0 1 2 3 9 10 11 rfl) ?_)));refine fM (fun a=>∃b3,Ok 71 [(0,.slice A1 n1 c1),(1,.slice A2 n2 c2),(2,iv x1),(3,iv x2),(9,iv x3),(70,.bool b3)] a/\gK K w k1 I1 x3 b3) ?_ ?_
  ·rintro a ⟨b3,ha,H⟩;unfold gK at H;refine cu ha ?_;refine eG rfl (fun hb=> ?_) (fun hb=> ?_)
   ·replace H:=H.1 hb;exact aG (aF (ag rfl (aH (nc (kp 8 rfl zz) (bK (bF (aQ (aQ (bF (aQ (aN (res1 rfl rfl) ⟨_,rfl,_,rfl,H⟩)))))))))))
   ·replace H:=H.2 hb;refine aX (bZ (nc (y5 0 1 2 3 9 rfl) (aF (mv rfl (bo rfl rfl kC (ag rfl (aH ?_)))))));obtain⟨k2,hk,H⟩:=H;exact bD fun a ha=>⟨k2,hk,⟨IntKind.wrap .i64 (x3+1),ha.weaken cs,H⟩,rfl⟩
  ·refine aF (mv rfl (mv rfl ?_));obtain⟨h13,h14,a5,e5,H⟩:=H;refine ix rfl rfl (aU TF.dZ TF.dR e5 h13 h14) (fa rfl (TF.sZ _ _) ?_);obtain⟨b2,h15,H⟩:=H;refine ld rfl (aJ TF.Ah h15) ?_;rcases tf b2 with hb|hb
   ·replace H:=H.1 hb;refine sv rfl rfl (fun a ha=>aGb (iC (ha.ev rfl)) hb) (Bv rfl rfl rfl (Bv rfl rfl rfl (Bv rfl rfl rfl ?_)));obtain⟨h16,h17,a6,e6,H⟩:=H;refine ixg rfl rfl rfl rfl (aU TF.aV TF.size_int e6 h16 h17) ?_;obtain⟨x8,h18,H⟩:=H;refine Qo rfl rfl rfl (aJ TF.aP h18) (Qh rfl rfl rfl rfl iR ?_);rcases Classical.em (x5=x8) with hb|hb
    ·replace H:=H.1 hb;refine svg rfl rfl rfl rfl (xt rfl hb) (Bv rfl rfl rfl (Bv rfl rfl rfl (Bv rfl rfl rfl ?_)));obtain⟨h19,h20,a7,e7,H⟩:=H;refine ixg rfl rfl rfl rfl (aU TF.aV TF.size_int e7 h19 h20) ?_;obtain⟨x9,h21,H⟩:=H;refine Qo rfl rfl rfl (aJ TF.aP h21) (Qh rfl rfl rfl rfl iR (ptg rfl rfl rfl rfl ?_));rcases Classical.em (x7=x9) with hb|hb
     ·replace H:=H.1 hb;exact svg rfl rfl rfl rfl (xt rfl hb) (sk rfl rfl rfl rfl (sk rfl rfl rfl rfl (sk rfl rfl rfl rfl (sk rfl rfl rfl rfl (sk rfl rfl rfl rfl (sk rfl rfl rfl rfl (sk rfl rfl rfl rfl (iE rfl rfl (dI rfl rfl rfl) (iE rfl rfl (dI rfl rfl rfl) (iE rfl rfl (dI rfl rfl rfl) (iE rfl rfl (dI rfl rfl rfl) (iE rfl rfl (dI rfl rfl rfl) (iE rfl rfl (dI rfl rfl rfl) (sk rfl rfl rfl rfl (ptg rfl rfl rfl rfl (pt rfl rfl (aH (bD fun a ha=>⟨⟨true,ha.weaken cs,H⟩,rfl⟩))))))))))))))))))
     ·replace H:=H.2 hb;refine svg rfl rfl rfl rfl (xf rfl hb) (Bv rfl rfl rfl (Bv rfl rfl rfl (Bv rfl rfl rfl ?_)));obtain⟨h22,h23,a8,e8,H⟩:=H;refine ixg rfl rfl rfl rfl (aU TF.aV TF.size_int e8 h22 h23) ?_;obtain⟨x10,h24,H⟩:=H;refine Qo rfl rfl rfl (aJ TF.aP h24) (Qh rfl rfl rfl rfl iR ?_);rcases Classical.em (x5=x10) with hb|hb
      ·replace H:=H.1 hb;refine svg rfl rfl rfl rfl (xt rfl hb) (Bv rfl rfl rfl (Bv rfl rfl rfl (Bv rfl rfl rfl ?_)));obtain⟨h25,h26,a9,e9,H⟩:=H;refine ixg rfl rfl rfl rfl (aU TF.aV TF.size_int e9 h25 h26) ?_;obtain⟨x11,h27,H⟩:=H;exact Qo rfl rfl rfl (aJ TF.aP h27) (Qh rfl rfl rfl rfl iR (ptg rfl rfl rfl rfl (pfg rfl rfl rfl rfl (pt rfl rfl (aH (bD fun a ha=>⟨⟨(decide (x7=x11)),ha.weaken cs,H⟩,rfl⟩))))))
      ·replace H:=H.2 hb;exact svg rfl rfl rfl rfl (xf rfl hb) (sk rfl rfl rfl rfl (sk rfl rfl rfl rfl (sk rfl rfl rfl rfl (sk rfl rfl rfl rfl (sk rfl rfl rfl rfl (sk rfl rfl rfl rfl (pfg rfl rfl rfl rfl (pfg rfl rfl rfl rfl (pt rfl rfl (aH (bD fun a ha=>⟨⟨false,ha.weaken cs,H⟩,rfl⟩)))))))))))
    ·replace H:=H.2 hb;refine svg rfl rfl rfl rfl (xf rfl hb) (sk rfl rfl rfl rfl (sk rfl rfl rfl rfl (sk rfl rfl rfl rfl (sk rfl rfl rfl rfl (sk rfl rfl rfl rfl (sk rfl rfl rfl rfl (pfg rfl rfl rfl rfl (Bv rfl rfl rfl (Bv rfl rfl rfl (Bv rfl rfl rfl (Bv rfl rfl rfl ?_)))))))))));obtain⟨h28,h29,a10,e10,H⟩:=H;refine ixg rfl rfl rfl rfl (aU TF.aV TF.size_int e10 h28 h29) ?_;obtain⟨x12,h30,H⟩:=H;refine Qo rfl rfl rfl (aJ TF.aP h30) (Qh rfl rfl rfl rfl iR ?_);rcases Classical.em (x5=x12) with hb|hb
     ·replace H:=H.1 hb;refine svg rfl rfl rfl rfl (xt rfl hb) (Bv rfl rfl rfl (Bv rfl rfl rfl (Bv rfl rfl rfl ?_)));obtain⟨h31,h32,a11,e11,H⟩:=H;refine ixg rfl rfl rfl rfl (aU TF.aV TF.size_int e11 h31 h32) ?_;obtain⟨x13,h33,H⟩:=H;exact Qo rfl rfl rfl (aJ TF.aP h33) (Qh rfl rfl rfl rfl iR (ptg rfl rfl rfl rfl (pfg rfl rfl rfl rfl (pt rfl rfl (aH (bD fun a ha=>⟨⟨(decide (x7=x13)),ha.weaken cs,H⟩,rfl⟩))))))
     ·replace H:=H.2 hb;exact svg rfl rfl rfl rfl (xf rfl hb) (sk rfl rfl rfl rfl (sk rfl rfl rfl rfl (sk rfl rfl rfl rfl (sk rfl rfl rfl rfl (sk rfl rfl rfl rfl (sk rfl rfl rfl rfl (pfg rfl rfl rfl rfl (pfg rfl rfl rfl rfl (pt rfl rfl (aH (bD fun a ha=>⟨⟨false,ha.weaken cs,H⟩,rfl⟩)))))))))))
   ·replace H:=H.2 hb;exact sv rfl rfl (fun a ha=>aGk (iC (ha.ev rfl)) hb) (sk rfl rfl rfl rfl (sk rfl rfl rfl rfl (sk rfl rfl rfl rfl (sk rfl rfl rfl rfl (sk rfl rfl rfl rfl (sk rfl rfl rfl rfl (sk rfl rfl rfl rfl (iE rfl rfl (dI rfl rfl rfl) (iE rfl rfl (dI rfl rfl rfl) (iE rfl rfl (dI rfl rfl rfl) (iE rfl rfl (dI rfl rfl rfl) (iE rfl rfl (dI rfl rfl rfl) (iE rfl rfl (dI rfl rfl rfl) (sk rfl rfl rfl rfl (sk rfl rfl rfl rfl (iE rfl rfl (dI rfl rfl rfl) (iE rfl rfl (dI rfl rfl rfl) (iE rfl rfl (dI rfl rfl rfl) (iE rfl rfl (dI rfl rfl rfl) (iE rfl rfl (dI rfl rfl rfl) (iE rfl rfl (dI rfl rfl rfl) (iE rfl rfl (dI rfl rfl rfl) (iE rfl rfl (dI rfl rfl rfl) (iE rfl rfl (dI rfl rfl rfl) (iE rfl rfl (dI rfl rfl rfl) (iE rfl rfl (dI rfl rfl rfl) (iE rfl rfl (dI rfl rfl rfl) (iE rfl rfl (dI rfl rfl rfl) (iE rfl rfl (dI rfl rfl rfl) (sk rfl rfl rfl rfl (pf rfl rfl (aH (bD fun a ha=>⟨⟨false,ha.weaken cs,H⟩,rfl⟩)))))))))))))))))))))))))))))))))
 ·replace H:=H.2 hb;exact eU (aT (aT (bQ (nc zz (aG (aF (ag rfl (aH (nc (kp 8 rfl zz) (bK (aN (res1 rfl rfl) ⟨_,rfl,_,rfl,H⟩)))))))))))
def nU (K:Bool->World->Prop) (k1:Nat) (I1:Nat->Int->World->Prop) (x1:Int) (b3:Bool) (w3:World):Prop:=
 (b3=true->(K true w3))/\(b3=false->(∃k2,k2<k1/\I1 k2 (IntKind.wrap .i64 (x1+1)) w3))
def Bq (A1:Option Addr) (n1 c1:Nat) (A2:Option Addr) (n2 c2:Nat) (K:Bool->World->Prop) (w:World):Prop:=
 ∃I1:Nat->Int->World->Prop,(∃k1,I1 k1 0 w)/\∀k1 (x1:Int) (w1:World),I1 k1 x1 w1->((x1<(n2:Int)->(0<=x1/\x1<(n2:Int)/\∃a1,A2=some a1/\∃b2,w1.cell? ((a1.add (x1.toNat*4)).add 0)=some (.bool b2)/\(b2=true->(0<=x1/\x1<(n2:Int)/\∃a2,A2=some a2/\∃x2,w1.cell? ((a2.add (x1.toNat*4)).add 1)=some (iv x2)/\0<=x2/\x2<(n1:Int)/\∃a3,A1=some a3/\∃x3,w1.cell? (a3.add (x2.toNat*1))=some (iv x3)/\0<=x1/\x1<(n2:Int)/\∃a4,A2=some a4/\∃x4,w1.cell? ((a4.add (x1.toNat*4)).add 2)=some (iv x4)/\0<=x4/\x4<(n1:Int)/\∃a5,A1=some a5/\∃x5,w1.cell? (a5.add (x4.toNat*1))=some (iv x5)/\∀w2,aO w1 w2->((nU K k1 I1 x1) (decide (x3=x5)) w2)))/\(b2=false->(∀w4,aO w1 w4->((nU K k1 I1 x1) false w4)))))/\(¬(x1<(n2:Int))->(K false w1)))
theorem Zc (A1:Option Addr) (n1 c1:Nat) (A2:Option Addr) (n2 c2:Nat) (K:Bool->World->Prop) (w:World) (H:Bq A1 n1 c1 A2 n2 c2 K w):Calls P F.zU #[.slice A1 n1 c1,.slice A2 n2 c2] w (cO fun v w'=>∃b1,v=(.bool b1)/\K b1 w'):=by
 unfold Bq at H;refine bT (P:=P) Tryz.func78 rfl [(0,.slice A1 n1 c1),(1,.slice A2 n2 c2)] 36 rfl rfl (aa rfl (aa rfl az)) (aG (aF (ag rfl (aH (nc (y2 0 1 rfl) (aG (aG (aF (ag rfl (aH (nc (y3 0 1 5 rfl) (aY ?_))))))))))));obtain⟨I1,⟨k1,hi⟩,H⟩:=H;refine fK (fun k1 a w'=>∃x1,Ok 36 [(0,.slice A1 n1 c1),(1,.slice A2 n2 c2),(5,iv x1)] a/\I1 k1 x1 w') (fun a ha=>⟨k1,0,ha.weaken cs,hi⟩) ?_;rintro k1 a w1 ⟨x1,ha,hI⟩;replace H:=H k1 x1 w1 hI;refine cu ha ?_;refine aG (aG (aF (mv rfl (mv rfl (sv rfl rfl (xb rfl (fun _=>bW TF.jC)) (bo rfl rfl iY (aH (nc (y4 0 1 5 9 rfl) ?_))))))));refine bC rfl (fun hb=> ?_) (fun hb=> ?_)
 ·replace H:=H.1 hb;refine aX (nc (y3 0 1 5 rfl) (aG (aY ?_)));refine fA (fun a w=>∃b3,Ok 36 [(0,.slice A1 n1 c1),(1,.slice A2 n2 c2),(5,iv x1),(35,.bool b3)] a/\nU K k1 I1 x1 b3 w) ?_ ?_
  ·rintro a w3 ⟨b3,ha,H⟩;unfold nU at H;refine cu ha ?_;refine eG rfl (fun hb=> ?_) (fun hb=> ?_)
   ·replace H:=H.1 hb;exact aG (aF (ag rfl (aH (nc (kp 4 rfl zz) (bK (bF (aQ (aQ (bF (aQ (aN (res1 rfl rfl) ⟨_,rfl,_,rfl,H⟩)))))))))))
   ·replace H:=H.2 hb;refine aX (bZ (nc (y3 0 1 5 rfl) (aF (mv rfl (bo rfl rfl kC (ag rfl (aH ?_)))))));obtain⟨k2,hk,H⟩:=H;exact bD fun a ha=>⟨k2,hk,IntKind.wrap .i64 (x1+1),ha.weaken cs,H⟩
  ·refine bU follows [0,1,2,3,4,5,6,7,8,9,10,11,12,13,14,15,16,17,18,19,20,21,22,23] [4,11,13,19,21] 24 rfl rfl (by kernel_rfl) (fun _ _ d _ _ h=>by cases d<;>exact h) (fun cm W D=> ?_);refine gZ 0 cm rfl rfl D W fun _ D W=>(gZ 1 cm rfl rfl D W fun _ D W=> ?_);obtain⟨h1,h2,a1,e1,H⟩:=H;refine Ie 2 cm rfl rfl rfl (aU TF.dZ TF.dR e1 h1 h2) D W fun _ D W=>(lH 3 cm rfl rfl (TF.sZ _ _) D W fun _ D W=> ?_);obtain⟨b2,h3,H⟩:=H;refine vl 4 cm rfl rfl (fun hw=>(aJ TF.Ah ((hw.cell _).trans h3))) D W fun _ D W=> ?_;rcases tf b2 with hb|hb
   ·replace H:=H.1 hb;refine pv 5 cm rfl rfl rfl (fun w' a ha=>aGb (iC (ha.ev rfl)) hb) D W fun _ D W=>(zX 6 cm rfl rfl rfl rfl D W fun _ D W=>(zX 7 cm rfl rfl rfl rfl D W fun _ D W=>(zX 8 cm rfl rfl rfl rfl D W fun _ D W=> ?_)));obtain⟨h4,h5,a2,e2,H⟩:=H;refine Zk 9 cm rfl rfl rfl rfl rfl (aU TF.dZ TF.dR e2 h4 h5) D W fun _ D W=>(Ti 10 cm rfl rfl rfl rfl (TF.tN _ _) D W fun _ D W=> ?_);obtain⟨x2,h6,H⟩:=H;refine vlg 11 cm rfl rfl rfl rfl (fun hw=>(aJ TF.aP ((hw.cell _).trans h6))) D W fun _ D W=> ?_;obtain⟨h7,h8,a3,e3,H⟩:=H;refine Zk 12 cm rfl rfl rfl rfl rfl (aU TF.aV TF.size_int e3 h7 h8) D W fun _ D W=> ?_;obtain⟨x3,h9,H⟩:=H;refine vlg 13 cm rfl rfl rfl rfl (fun hw=>(aJ TF.aP ((hw.cell _).trans h9))) D W fun _ D W=>(zX 14 cm rfl rfl rfl rfl D W fun _ D W=>(zX 15 cm rfl rfl rfl rfl D W fun _ D W=>(zX 16 cm rfl rfl rfl rfl D W fun _ D W=> ?_)));obtain⟨h10,h11,a4,e4,H⟩:=H;refine Zk 17 cm rfl rfl rfl rfl rfl (aU TF.dZ TF.dR e4 h10 h11) D W fun _ D W=>(Ti 18 cm rfl rfl rfl rfl (TF.uJ _ _) D W fun _ D W=> ?_);obtain⟨x4,h12,H⟩:=H;refine vlg 19 cm rfl rfl rfl rfl (fun hw=>(aJ TF.aP ((hw.cell _).trans h12))) D W fun _ D W=> ?_;obtain⟨h13,h14,a5,e5,H⟩:=H;refine Zk 20 cm rfl rfl rfl rfl rfl (aU TF.aV TF.size_int e5 h13 h14) D W fun _ D W=> ?_;obtain⟨x5,h15,H⟩:=H;refine vlg 21 cm rfl rfl rfl rfl (fun hw=>(aJ TF.aP ((hw.cell _).trans h15))) D W fun _ D W=>(aGj 22 cm rfl rfl rfl rfl rfl (fun w' a ha=>fZ (ha.ev rfl) (ha.ev rfl) iR) D fun _ D=>(aDp 23 cm rfl rfl rfl D fun _ D=>(dJ (by kernel_rfl) D ?_)));intro w2 D;replace H:=H _ D;clear D cm;exact bD fun a ha=>⟨(decide (x3=x5)),ha.weaken cs,H⟩
   ·replace H:=H.2 hb;refine pv 5 cm rfl rfl rfl (fun w' a ha=>aGk (iC (ha.ev rfl)) hb) D W fun _ D W=>(ps 6 cm rfl rfl rfl rfl rfl D W fun _ D W=>(ps 7 cm rfl rfl rfl rfl rfl D W fun _ D W=>(ps 8 cm rfl rfl rfl rfl rfl D W fun _ D W=>(ps 9 cm rfl rfl rfl rfl rfl D W fun _ D W=>(ps 10 cm rfl rfl rfl rfl rfl D W fun _ D W=>(ps 11 cm rfl rfl rfl rfl rfl D W fun _ D W=>(ps 12 cm rfl rfl rfl rfl rfl D W fun _ D W=>(ps 13 cm rfl rfl rfl rfl rfl D W fun _ D W=>(ps 14 cm rfl rfl rfl rfl rfl D W fun _ D W=>(ps 15 cm rfl rfl rfl rfl rfl D W fun _ D W=>(ps 16 cm rfl rfl rfl rfl rfl D W fun _ D W=>(ps 17 cm rfl rfl rfl rfl rfl D W fun _ D W=>(ps 18 cm rfl rfl rfl rfl rfl D W fun _ D W=>(ps 19 cm rfl rfl rfl rfl rfl D W fun _ D W=>(ps 20 cm rfl rfl rfl rfl rfl D W fun _ D W=>(ps 21 cm rfl rfl rfl rfl rfl D W fun _ D W=>(psd 22 cm rfl rfl rfl rfl rfl D fun _ D=>(aCs 23 cm rfl rfl rfl D fun _ D=>(dJ (by kernel_rfl) D ?_)))))))))))))))))));intro w4 D;replace H:=H _ D;clear D cm;exact bD fun a ha=>⟨false,ha.weaken cs,H⟩
 ·replace H:=H.2 hb;exact eU (aT (aT (bQ (nc zz (aG (aF (ag rfl (aH (nc (kp 4 rfl zz) (bK (aN (res1 rfl rfl) ⟨_,rfl,_,rfl,H⟩)))))))))))
def uT (p1:Addr) (x1:Int) (A1:Option Addr) (n1 c1:Nat) (x2:Int) (x3:Int) (K:Bool->World->Prop) (w:World):Prop:=
 ∃A2 n2 c2,w.cell? (p1.add 0)=some (.slice A2 n2 c2)/\Calls P F.wJ #[.slice A2 n2 c2,.slice A1 n1 c1] w (cO fun v1 w1=>∃A3 n3 c3,v1=(.slice A3 n3 c3)/\(x1=1->(0<=x2/\x2<(n3:Int)/\∃a1,A3=some a1/\∃x4,w1.cell? (a1.add (x2.toNat*1))=some (iv x4)/\0<=x3/\x3<(n3:Int)/\∃a2,A3=some a2/\∃x5,w1.cell? (a2.add (x3.toNat*1))=some (iv x5)/\∀w2,aO w1 w2->(K (decide (x4=x5)) w2)))/\(¬(x1=1)->((x1=2->(Calls P F.yM #[.slice A3 n3 c3,.slice A1 n1 c1,iv x2,iv x3] w1 (cO fun v2 w3=>∃b2,v2=(.bool b2)/\K b2 w3)))/\(¬(x1=2)->(Calls P F.zU #[.slice A3 n3 c3,.slice A1 n1 c1] w1 (cO fun v3 w4=>∃b3,v3=(.bool b3)/\K b3 w4))))))
theorem Rq (p1:Addr) (x1:Int) (A1:Option Addr) (n1 c1:Nat) (x2:Int) (x3:Int) (K:Bool->World->Prop) (w:World) (H:uT p1 x1 A1 n1 c1 x2 x3 K w):Calls P F.iO #[.pointer (some p1),iv x1,.slice A1 n1 c1,iv x2,iv x3] w (cO fun v w'=>∃b1,v=(.bool b1)/\K b1 w'):=by
 unfold uT at H;refine bT (P:=P) Tryz.func61 rfl [(0,.pointer (some p1)),(1,iv x1),(2,.slice A1 n1 c1),(3,iv x2),(4,iv x3)] 40 rfl rfl (aa rfl (aa rfl (aa rfl (aa rfl (aa rfl az))))) (aG (aF (ag rfl (aH (nc (y5 0 1 2 3 4 rfl) (aG (aF (mv rfl (nk rfl (fa rfl (TF.kZ _ _) ?_))))))))));obtain⟨A2,n2,c2,h1,H⟩:=H;refine ld rfl (aJ TF.fD h1) (mv rfl (sc rfl rfl FF.Dc H ?_));rintro _ w1 ⟨A3,n3,c3,rfl,H⟩;refine ag rfl (aH (nc (y5 1 2 3 4 11 rfl) (aG (aG (aF (mv rfl (aH (nc (y5 2 3 4 11 18 rfl) (aY (aG (aF (bo rfl rfl iR (ag rfl (aH (nc (y6 2 3 4 11 18 19 rfl) ?_)))))))))))))));refine bC rfl (fun hb=> ?_) (fun hb=> ?_)
 ·replace H:=H.1 hb;refine aG ?_;refine bU follows [0,1,2,3,4,5,6,7,8,9] [3,7] 10 rfl rfl (by kernel_rfl) (fun _ _ d _ _ h=>by cases d<;>exact h) (fun cm W D=> ?_);refine gZ 0 cm rfl rfl D W fun _ D W=>(gZ 1 cm rfl rfl D W fun _ D W=> ?_);obtain⟨h2,h3,a1,e1,H⟩:=H;refine Ie 2 cm rfl rfl rfl (aU TF.aV TF.size_int e1 h2 h3) D W fun _ D W=> ?_;obtain⟨x4,h4,H⟩:=H;refine vl 3 cm rfl rfl (fun hw=>(aJ TF.aP ((hw.cell _).trans h4))) D W fun _ D W=>(gZ 4 cm rfl rfl D W fun _ D W=>(gZ 5 cm rfl rfl D W fun _ D W=> ?_));obtain⟨h5,h6,a2,e2,H⟩:=H;refine Ie 6 cm rfl rfl rfl (aU TF.aV TF.size_int e2 h5 h6) D W fun _ D W=> ?_;obtain⟨x5,h7,H⟩:=H;refine vl 7 cm rfl rfl (fun hw=>(aJ TF.aP ((hw.cell _).trans h7))) D W fun _ D W=>(Qj 8 cm rfl rfl rfl (fun w' a ha=>fZ (ha.ev rfl) (ha.ev rfl) iR) D fun _ D=>(Bo 9 cm rfl rfl D fun _ D=>(dJ (by kernel_rfl) D ?_)));intro w2 D;replace H:=H _ D;clear D cm;exact nc (kp 10 rfl zz) (bK (bF (aQ (aN (res1 rfl rfl) ⟨_,rfl,_,rfl,H⟩))))
 ·replace H:=H.2 hb;refine aG (aF (bo rfl rfl iR (ag rfl (aH (nc (y5 2 3 4 11 30 rfl) ?_)))));refine bC rfl (fun hb=> ?_) (fun hb=> ?_)
  ·replace H:=H.1 hb;refine aG (aF (mv rfl (mv rfl (mv rfl (mv rfl (sc rfl rfl FF.Qm H ?_))))));rintro _ w3 ⟨b2,rfl,H⟩;exact ag rfl (aH (nc (kp 10 rfl zz) (bK (bF (aQ (aN (res1 rfl rfl) ⟨_,rfl,_,rfl,H⟩))))))
  ·replace H:=H.2 hb;refine aX (bZ (nc (y2 2 11 rfl) (aG (aF (mv rfl (mv rfl (sc rfl rfl FF.Ru H ?_)))))));rintro _ w4 ⟨b3,rfl,H⟩;exact ag rfl (aH (nc (kp 10 rfl zz) (bK (aN (res1 rfl rfl) ⟨_,rfl,_,rfl,H⟩))))
def uX (s:dK):List Value:=[.bool s.not,iv s.a,iv s.b,iv s.tag]
def cRS:Cod dK:=⟨4,fun _ vs s=>vs=uX s,fun _ h=>h⟩
theorem aN8 (w:World) (xs:List dK):Yi cRS w (xs.flatMap uX) xs:=by
 refine⟨?_,fun i x hx=> ?_⟩
 ·rw[uN (s:=4) (fun _=>rfl)];rfl
 ·exact Ba (f:=uX) (s:=4) (fun _=>rfl) xs i x hx
theorem Sl.rs {w:World} {A:Option Addr} {n:Nat} {xs:List dK} (h:Sl cRS w A n xs) {i:Int} (h0:0<=i) (h1:i<n):
  ∃s ad,xs[i.toNat]? =some s/\A=some ad/\bG w (ad.add (i.toNat*4)) (uX s):=by
 obtain⟨x,ad,vs,hx,hA,hl,hc,hv⟩:=h.at h0 h1
 subst hv
 exact⟨x,ad,hx,hA,hc⟩
def Ws (p:Addr):Lay:=⟨3,fun k=>if k=0 then T.fJ else if k=1 then T.eH else T.int,fun k=>if k=0 then 2 else if k=1 then 4 else 1,fun k=>p.add k,fun b=>b=p.block⟩
theorem rl {p:Addr} {k:Nat} (h:k<3):k<(Ws p).K:=h
def Jg (nv:List Value) (st:List dK) (ms:List Int) (k:Nat):List Value:=if k=0 then nv else if k=1 then st.flatMap uX else ms.map iv
structure Es (w:World) (p:Addr) (fs:List Flat) (Z:Nat->Prop) (A:Nat->Option Addr) (n c:Nat->Nat) (nv:List Value) (st:List dK) (ms:List Int) (B0:Nat):Prop where
 yK:Vz (Ws p) B0 w A n c (Jg nv st ms)
 nd:St (fun b=>¬Z b\/FX (Ws p) A b) w fun w=>Yi mO w nv fs
 sub:∀b,FX (Ws p) A b->Z b
 ZB:∀b,Z b->B0<=b/\b<w.heap.size
def xP (B0:Nat) (w:World) (p:Addr) (fs:List Flat) (Z:Nat->Prop) (st:List dK) (ms:List Int):Prop:=∃A n c nv,Es w p fs Z A n c nv st ms B0
section
variable {B0:Nat} {w w':World} {p:Addr} {fs:List Flat} {Z:Nat->Prop} {A A':Nat->Option Addr} {n c n' c':Nat->Nat} {nv:List Value} {st st':List dK} {ms ms':List Int}
theorem Es.le (h:Es w p fs Z A n c nv st ms B0):B0<=w.heap.size:=by have:=h.yK.hlt _ (show(Ws p).HB p.block from rfl);omega
theorem Es.n0 (h:Es w p fs Z A n c nv st ms B0):n 0=fs.length:=by
 have h1:=(h.yK.row 0 (rl (by decide))).1
 have h2:=h.nd.now.1
 have e:(Jg nv st ms 0).length=n 0*2:=h1
 have e2:nv.length=fs.length*2:=h2
 have e3:(Jg nv st ms 0)=nv:=rfl
 rw[e3] at e
 omega
theorem Es.n1 (h:Es w p fs Z A n c nv st ms B0):n 1=st.length:=by
 have h1:(st.flatMap uX).length=n 1*4:=(h.yK.row 1 (rl (by decide))).1
 rw[uN (s:=4) (fun _=>rfl)] at h1
 omega
theorem Es.n2 (h:Es w p fs Z A n c nv st ms B0):n 2=ms.length:=by
 have h1:(ms.map iv).length=n 2*1:=(h.yK.row 2 (rl (by decide))).1
 rw[List.length_map] at h1
 omega
theorem Es.c0 (h:Es w p fs Z A n c nv st ms B0):w.cell? (p.add 0)=some (.slice (A 0) fs.length (c 0)):=by rw[<-h.n0];exact h.yK.cell 0 (rl (by decide))
theorem Es.c1 (h:Es w p fs Z A n c nv st ms B0):w.cell? (p.add 1)=some (.slice (A 1) st.length (c 1)):=by rw[<-h.n1];exact h.yK.cell 1 (rl (by decide))
theorem Es.c2 (h:Es w p fs Z A n c nv st ms B0):w.cell? (p.add 2)=some (.slice (A 2) ms.length (c 2)):=by rw[<-h.n2];exact h.yK.cell 2 (rl (by decide))
theorem Es.nodes (h:Es w p fs Z A n c nv st ms B0):Sl mO w (A 0) fs.length fs:=by
 have:=aD5 (cd:=mO) (h.yK.row 0 (rl (by decide))) h.nd.now (by decide)
 rwa [h.n0] at this
theorem Es.stand (h:Es w p fs Z A n c nv st ms B0):Sl cRS w (A 1) st.length st:=by
 have:=aD5 (cd:=cRS) (h.yK.row 1 (rl (by decide))) (aN8 w st) (by decide)
 rwa [h.n1] at this
theorem Es.off {X:Nat->Prop} (h:Es w p fs Z A n c nv st ms B0) (k:Keep X w w') (hX:∀b,b<w.heap.size->X b->¬Z b):Es w' p fs Z A n c nv st ms B0:=by
 have k':Keep (fun b=>X b/\b<w.heap.size) w w':=k.mono fun i hi hx=>⟨hx,hi⟩
 exact⟨h.yK.keep k' fun b hb hx=>hX b hx.2 hx.1 (h.sub b hb),h.nd.iI (dU.aHy k fun i hi hx=> .inl (hX i hi hx)),h.sub,fun b hb=>⟨(h.ZB b hb).1,Nat.lt_of_lt_of_le (h.ZB b hb).2 k.size⟩⟩
theorem Es.stay (h:Es w p fs Z A n c nv st ms B0) (k:Ext w w'):Es w' p fs Z A n c nv st ms B0:=h.off k fun _ _ h=>h.elim
theorem xP.off {X:Nat->Prop} (h:xP B0 w p fs Z st ms) (k:Keep X w w') (hX:∀b,b<w.heap.size->X b->¬Z b):xP B0 w' p fs Z st ms:=by
 obtain⟨A,n,c,nv,h⟩:=h
 exact⟨A,n,c,nv,h.off k hX⟩
theorem xP.stay (h:xP B0 w p fs Z st ms) (k:Ext w w'):xP B0 w' p fs Z st ms:=h.off k fun _ _ h=>h.elim
theorem xP.ZB (h:xP B0 w p fs Z st ms):∀b,Z b->B0<=b/\b<w.heap.size:=by
 obtain⟨A,n,c,nv,h⟩:=h
 exact h.ZB
theorem Es.step (h:Es w p fs Z A n c nv st ms B0) (hf:Vz (Ws p) B0 w' A' n' c' (Jg nv st' ms')) (k:Keep (FX (Ws p) A) w w') (hg:∀b,b<w.heap.size->FX (Ws p) A' b->FX (Ws p) A b):Es w' p fs (FN Z w w') A' n' c' nv st' ms' B0/\Keep Z w w':=by
 have hle:=h.le
 refine⟨⟨hf,h.nd.iI ⟨k.mono fun i _ hi=> .inr hi,fun i hi hh=>hh.imp (fun q hq=>q (.inl hq)) (hg i hi)⟩,fun b hb=> ?_,fun b hb=> ?_⟩,k.mono fun i _ hi=>h.sub i hi⟩
 ·rcases Nat.lt_or_ge b w.heap.size with q|q
  ·exact .inl (h.sub b (hg b q hb))
  ·exact .inr ⟨q,(hf.fx hb).2⟩
 ·rcases hb with hb|hb
  ·exact⟨(h.ZB b hb).1,Nat.lt_of_lt_of_le (h.ZB b hb).2 k.size⟩
  ·exact⟨Nat.le_trans hle hb.1,hb.2⟩
theorem FN.mono {w2:World} (h1:w.heap.size<=w2.heap.size) {b:Nat} (h:FN Z w2 w' b):FN Z w w' b:=h.imp id fun q=>⟨Nat.le_trans h1 q.1,q.2⟩
theorem Es.widen {Y:Nat->Prop} (h:Es w p fs Z A n c nv st ms B0) (h1:∀b,Z b->Y b) (h2:∀b,Y b->B0<=b/\b<w.heap.size):Es w p fs Y A n c nv st ms B0:=
 ⟨h.yK,fun w' k=>h.nd w' (k.mono fun i _ hi=>hi.imp (fun q hz=>q (h1 i hz)) id),fun b hb=>h1 b (h.sub b hb),h2⟩
theorem Vj (h:Es w p fs Z A n c nv st ms B0) (x:Int):Calls P F.fP #[.pointer (some p),iv x] w (cO fun v w'=>∃b,v= .bool b/\(b=true↔Vn fs.length x)/\w'=w):=by
 refine cO.mono (Tv p x (fun b w'=>(b=true↔Vn fs.length x)/\w'=w) w ?_) (by rintro _ w' ⟨b,rfl,h⟩;exact⟨b,rfl,h⟩)
 unfold wE kM
 refine⟨fun h0=>⟨_,_,_,h.c0,?_,rfl⟩,fun h0=>⟨⟨fun q=>(by cases q),fun q=>absurd q.1 h0⟩,rfl⟩⟩
 rw[decide_eq_true_iff]
 exact⟨fun q=>⟨h0,q⟩,fun q=>q.2⟩
theorem aJj (us:List Value) (h:us=st'.flatMap uX):∀i,upd (Jg nv st ms) 1 us i=Jg nv st' ms i:=by
 intro i
 unfold upd Jg
 by_cases h0:i=0<;>by_cases h1:i=1<;>simp[h0,h1,h]
theorem aI6 (us:List Value) (h:us=ms'.map iv):∀i,i<3->upd (Jg nv st ms) 2 us i=Jg nv st ms' i:=by
 intro i hi
 unfold upd Jg
 by_cases h0:i=0<;>by_cases h1:i=1<;>by_cases h2:i=2<;>simp[h0,h1,h2,h]
 omega
theorem aKe {b:Bool} {x y t:Int} (h:xP B0 w p fs Z st ms) (hs:st.length<=1048576):
  Calls P F.mM #[.pointer (some p),.bool b,iv x,iv y,iv t] w (cO fun v w'=>∃e:Int,v= iv e/\Keep Z w w'/\
   ((¬Aa fs x y/\e=80/\xP B0 w' p fs (FN Z w w') st ms)\/(Aa fs x y/\e=0/\xP B0 w' p fs (FN Z w w') (st++[⟨x,y,t,b⟩]) ms))):=by
 obtain⟨A,n,c,nv,h⟩:=h
 have e1:=h.n1
 refine cO.mono (Uw p b x y t (fun e w'=>Keep Z w w'/\
   ((¬Aa fs x y/\e=80/\xP B0 w' p fs (FN Z w w') st ms)\/(Aa fs x y/\e=0/\xP B0 w' p fs (FN Z w w') (st++[⟨x,y,t,b⟩]) ms))) w ?_) (by rintro _ w' ⟨e,rfl,h⟩;exact⟨e,rfl,h⟩)
 unfold xG
 have J:∀q:Bool,(q=true↔¬Aa fs x y)->kW (fun e w'=>Keep Z w w'/\
   ((¬Aa fs x y/\e=80/\xP B0 w' p fs (FN Z w w') st ms)\/(Aa fs x y/\e=0/\xP B0 w' p fs (FN Z w w') (st++[⟨x,y,t,b⟩]) ms))) p b x y t q w:=by
  intro q hq
  refine⟨fun hq1=>⟨Keep.refl _ _,.inl ⟨hq.1 hq1,rfl,A,n,c,nv,h.widen (fun _ hb=> .inl hb) fun b hb=>hb.elim (h.ZB b) fun q=>by omega⟩⟩,fun hq1=> ?_⟩
  have hin:Aa fs x y:=Classical.byContradiction fun hn=>by rw[hq.2 hn] at hq1;cases hq1
  refine⟨_,_,_,h.c1,fun p2 w4 hN4=> ?_⟩
  have E4:=Ext.eY hN4
  obtain⟨A',c',w5,hrun,_,_,hh⟩:=(h.stay E4).yK.append (P:=P) (k:=1) (rl (by decide)) (t:=T.fU) (by_:=32) (m:=1) (c2:=1) (by kernel_rfl) (show wP P T.eH=some (4,32,4) by kernel_rfl) (show 0<4 by decide) (news:=uX ⟨x,y,t,b⟩) rfl (hN4.cells rfl)
   (by intro u hu;simp[uX] at hu;rcases hu with rfl|rfl|rfl|rfl<;>rfl) (by omega) (by omega) (Nat.le_trans h.le E4.size)
  rw[e1] at hrun hh
  refine⟨A',st.length+1,c',w5,hrun,?_⟩
  obtain⟨k1,k2,_,k3⟩:=hh w5 (Ext.refl w5)
  refine⟨k1,k2,fun w6 hw6=> ?_⟩
  obtain⟨k4,k5,k6⟩:=k3 w6 hw6
  obtain⟨r,kz⟩:=(h.stay E4).step (st':=st++[⟨x,y,t,b⟩]) (ms':=ms) (k4.congr fun j _=>aJj _ (by show st.flatMap uX++_=_;simp) j) (k5.mono fun i _ hi=>hi.elim (fun hi=> .inr ⟨1,rl (by decide),hi⟩) fun hi=> .inl (by rw[hi];exact Addr.add_block _ _)) k6
  ·refine⟨(E4.mono fun _ _ h=>h.elim).trans kz,.inr ⟨hin,rfl,_,_,_,_,r.widen (fun _=>FN.mono E4.size) fun b hb=> ?_⟩⟩
   rcases hb with hb|hb
   ·exact⟨(h.ZB b hb).1,Nat.lt_of_lt_of_le (h.ZB b hb).2 (Nat.le_trans E4.size kz.size)⟩
   ·exact⟨Nat.le_trans h.le hb.1,hb.2⟩
 refine(Vj h x).mono ?_
 rintro _ w1 ⟨_,rfl,b2,rfl,h2,rfl⟩
 refine⟨_,rfl,b2,rfl,fun q=>J true ⟨fun _ hin=> ?_,fun _=>rfl⟩,fun q=>(Vj h y).mono ?_⟩
 ·rw[h2.2 hin.l] at q;cases q
 rintro _ w3 ⟨_,rfl,b4,rfl,h4,rfl⟩
 have vx:Vn fs.length x:=h2.1 (by cases b2<;>simp at q⊢)
 refine⟨_,rfl,b4,rfl,J (!b4) ?_⟩
 cases b4 with
 |true=>exact⟨fun q=>(by cases q),fun q=>absurd (Aa.of vx (h4.1 rfl)) q⟩
 |false=>exact⟨fun _ hin=>(by have:=h4.2 hin.r;cases this),fun _=>rfl⟩
theorem aJk (h:xP B0 w p fs Z st ms) (hs:ms.length<=1048576):
  Calls P F.pV #[.pointer (some p)] w (cO fun v w'=>v= .tuple #[]/\Keep Z w w'/\xP B0 w' p fs (FN Z w w') st (ms++[(st.length:Int)])):=by
 obtain⟨A,n,c,nv,h⟩:=h
 have e2:=h.n2
 refine cO.mono (Ud p (fun w'=>Keep Z w w'/\xP B0 w' p fs (FN Z w w') st (ms++[(st.length:Int)])) w ?_) (by rintro _ w' ⟨rfl,h⟩;exact⟨rfl,h⟩)
 unfold vP
 refine⟨_,_,_,h.c2,_,_,_,h.c1,fun w7 hw7 p2 w1 hN1 w6 hw6=> ?_⟩
 have E6:Ext w w6:=((Ext.aK hw7).new hN1).drawn hw6
 obtain⟨A',c',w2,hrun,_,_,hh⟩:=(h.stay E6).yK.append (P:=P) (k:=2) (rl (by decide)) (t:=T.bH) (by_:=8) (m:=1) (c2:=1) (by kernel_rfl) (show wP P T.int=some (1,8,1) by kernel_rfl) (show 0<1 by decide) (news:=[iv (st.length:Int)]) rfl ((Ext.aK hw6).cells (hN1.cells rfl))
   (by intro u hu;simp at hu;subst hu;rfl) (by omega) (by omega) (Nat.le_trans h.le E6.size)
 rw[e2] at hrun hh
 refine⟨A',ms.length+1,c',w2,hrun,fun w5 hw5=> ?_⟩
 obtain⟨k1,k2,_,k3⟩:=hh w5 (Ext.aK hw5)
 refine⟨k1,k2,fun w3 hw3 w4 hw4=> ?_⟩
 obtain⟨k4,k5,k6⟩:=k3 w3 hw3
 obtain⟨r,kz⟩:=(h.stay E6).step (st':=st) (ms':=ms++[(st.length:Int)]) (k4.congr fun j hj=>aI6 _ (by show ms.map iv++_=_;simp) j hj) (k5.mono fun i _ hi=>hi.elim (fun hi=> .inr ⟨2,rl (by decide),hi⟩) fun hi=> .inl (by rw[hi];exact Addr.add_block _ _)) k6
 ·have r':=r.stay (Ext.aK hw4)
  have kz':Keep Z w w4:=((E6.mono fun _ _ h=>h.elim).trans kz).trans ((Ext.aK hw4).mono fun _ _ h=>h.elim)
  refine⟨kz',_,_,_,_,r'.widen (fun b hb=>hb.imp id fun q=>⟨Nat.le_trans E6.size q.1,Nat.lt_of_lt_of_le q.2 (Ext.aK hw4).size⟩) fun b hb=> ?_⟩
  rcases hb with hb|hb
  ·exact⟨(h.ZB b hb).1,Nat.lt_of_lt_of_le (h.ZB b hb).2 kz'.size⟩
  ·exact⟨Nat.le_trans h.le hb.1,hb.2⟩
end
structure OpR where
 kind:Int
 second:Bool
 a:Int
 b:Int
 tag:Int
def OpR.vals (o:OpR):List Value:=[iv o.kind,.bool o.second,iv o.a,iv o.b,iv o.tag]
def cOp:Cod OpR:=⟨5,fun _ vs o=>vs=o.vals/\I64 o.a,fun _ h=>h⟩
theorem Sl.op {w:World} {A:Option Addr} {n:Nat} {xs:List OpR} (h:Sl cOp w A n xs) {i:Int} (h0:0<=i) (h1:i<n):
  ∃o ad,xs[i.toNat]? =some o/\A=some ad/\bG w (ad.add (i.toNat*5)) o.vals/\I64 o.a:=by
 obtain⟨x,ad,vs,hx,hA,hl,hc,hv,hr⟩:=h.at h0 h1
 subst hv
 exact⟨x,ad,hx,hA,hc,hr⟩
def aK3 (s:dK):List Value:=[.bool s.not,iv s.a,iv s.b,iv s.tag]
def aRn:Cod dK:=⟨4,fun _ vs s=>vs=aK3 s,fun _ h=>h⟩
theorem Sl.said {w:World} {A:Option Addr} {n:Nat} {xs:List dK} (h:Sl aRn w A n xs) {i:Int} (h0:0<=i) (h1:i<n):
  ∃s ad,xs[i.toNat]? =some s/\A=some ad/\bG w (ad.add (i.toNat*4)) (aK3 s):=by
 obtain⟨x,ad,vs,hx,hA,hl,hc,hv⟩:=h.at h0 h1
 subst hv
 exact⟨x,ad,hx,hA,hc⟩
instance (fs:List Flat) (a b:Int):Decidable (Aa fs a b):=by unfold Aa;infer_instance
def stepS (fs:List Flat) (s:List dK×List Int) (o:OpR):List dK×List Int:=
 if (o.kind=1\/o.kind=2)/\Aa fs o.a o.b then(s.1++[⟨o.a,o.b,o.tag,decide (o.kind=2)⟩],s.2)
 else if o.kind=3 then(s.1,s.2++[(s.1.length:Int)])
 else if o.kind=4 then Ji s.1 s.2 o.a
 else s
def yA (fs:List Flat) (ops:List OpR):List dK×List Int:=ops.foldl (stepS fs) ([],[])
theorem aI9 {fs:List Flat} {ops:List OpR} {i:Nat} {o:OpR} (h:ops[i]? =some o):yA fs (ops.take (i+1))=stepS fs (yA fs (ops.take i)) o:=by
 unfold yA
 rw[lJ h,List.foldl_append]
 rfl
structure aEs (s:List dK×List Int):Prop where
 le:∀d∈s.2,0<=d/\d<=s.1.length
 rise:s.2.Pairwise (·<=·)
theorem aEs.pop {st:List dK} {ms:List Int} {k:Int} (h:aEs (st,ms)):aEs (Ji st ms k):=by
 unfold Ji
 split
 ·rename_i hk
  refine⟨fun d hd=> ?_,h.rise.sublist (List.take_sublist _ _)⟩
  have hd0:=h.le d (List.mem_of_mem_take hd)
  have hlt:ms.length-k.toNat<ms.length:=by omega
  have hg:ms.getD (ms.length-k.toNat) 0=ms[ms.length-k.toNat]:=by rw[List.getD_eq_getElem?_getD,List.getElem?_eq_getElem hlt];rfl
  rw[hg]
  have hm:0<=ms[ms.length-k.toNat]/\ms[ms.length-k.toNat]<=(st.length:Int):=h.le _ (List.getElem_mem hlt)
  obtain⟨j,hj⟩:=List.mem_iff_getElem?.1 hd
  rw[List.getElem?_take] at hj
  split at hj
  ·rename_i hjl
   obtain⟨hj1,hj2⟩:=List.getElem?_eq_some_iff.1 hj
   have hle:ms[j]<=ms[ms.length-k.toNat]:=List.pairwise_iff_getElem.1 h.rise j (ms.length-k.toNat) hj1 hlt hjl
   rw[hj2] at hle
   refine⟨hd0.1,?_⟩
   show d<=((st.take _).length:Int)
   rw[List.length_take]
   omega
  ·cases hj
 ·exact h
theorem aEs.step {fs:List Flat} {s:List dK×List Int} (h:aEs s) (o:OpR):aEs (stepS fs s o):=by
 unfold stepS
 split
 ·refine⟨fun d hd=> ?_,h.rise⟩
  have:=h.le d hd
  simp only[List.length_append,List.length_cons,List.length_nil]
  omega
 ·split
  ·refine⟨fun d hd=> ?_,?_⟩
   ·rcases List.mem_append.1 hd with hd|hd
    ·exact h.le d hd
    ·simp only[List.mem_cons,List.not_mem_nil,or_false] at hd
     subst hd
     exact⟨by omega,Int.le_refl _⟩
   ·rw[List.pairwise_append]
    refine⟨h.rise,List.pairwise_singleton _ _,fun x hx y hy=> ?_⟩
    simp only[List.mem_cons,List.not_mem_nil,or_false] at hy
    subst hy
    exact(h.le x hx).2
  ·split
   ·exact h.pop
   ·exact h
theorem aNi {st:List dK} {ms:List Int} {k:Int}:(Ji st ms k).1.length<=st.length/\(Ji st ms k).2.length<=ms.length:=by
 unfold Ji
 split
 ·rw[List.length_take,List.length_take]
  omega
 ·exact⟨Nat.le_refl _,Nat.le_refl _⟩
theorem aL2 (fs:List Flat) (s:List dK×List Int) (o:OpR):(stepS fs s o).1.length<=s.1.length+1/\(stepS fs s o).2.length<=s.2.length+1:=by
 unfold stepS
 split
 ·simp
 ·split
  ·simp
  ·split
   ·have:=aNi (st:=s.1) (ms:=s.2) (k:=o.a)
    omega
   ·omega
theorem aHb (fs:List Flat) (ops:List OpR):∀i,i<=ops.length->aEs (yA fs (ops.take i))/\(yA fs (ops.take i)).1.length<=i/\(yA fs (ops.take i)).2.length<=i
 |0,_=>⟨⟨fun d hd=>(by cases hd),List.Pairwise.nil⟩,Nat.le_refl _,Nat.le_refl _⟩
 |i+1,h=>by
  obtain⟨h1,h2,h3⟩:=aHb fs ops i (by omega)
  rw[aI9 (List.getElem?_eq_getElem (show i<ops.length by omega))]
  have:=aL2 fs (yA fs (ops.take i)) (ops[i]'(by omega))
  exact⟨h1.step _,by omega,by omega⟩
section
variable {B0:Nat} {w w':World} {p:Addr} {fs:List Flat} {Z:Nat->Prop} {A A':Nat->Option Addr} {n c n' c':Nat->Nat} {nv:List Value} {st st':List dK} {ms ms':List Int}
theorem Es.wide (h:Es w' p fs (FN Z w w') A n c nv st ms B0):xP B0 w' p fs (FN Z w w') st ms:=⟨A,n,c,nv,h⟩
theorem aKc {k:Int} (h:xP B0 w p fs Z st ms) (hm:ms.length<=1048576) (hk:I64 k) (ok:aEs (st,ms)):
  Calls P F.qK #[.pointer (some p),iv k] w (cO fun v w'=>∃e:Int,v= iv e/\((k<0\/ms.length<k)/\e=81\/¬(k<0\/ms.length<k)/\e=0)/\Keep Z w w'/\xP B0 w' p fs (FN Z w w') (Ji st ms k).1 (Ji st ms k).2):=by
 obtain⟨A,n,c,nv,h⟩:=h
 have e1:=h.n1
 have e2:=h.n2
 refine cO.mono (Um p k (fun e w'=>((k<0\/ms.length<k)/\e=81\/¬(k<0\/ms.length<k)/\e=0)/\Keep Z w w'/\xP B0 w' p fs (FN Z w w') (Ji st ms k).1 (Ji st ms k).2) w ?_) (by rintro _ w' ⟨e,rfl,h⟩;exact⟨e,rfl,h⟩)
 unfold xA
 have same:Ji st ms k=(st,ms)->Keep Z w w/\xP B0 w p fs (FN Z w w) (Ji st ms k).1 (Ji st ms k).2:=fun e=>by
  rw[e]
  exact⟨Keep.refl _ _,A,n,c,nv,h.widen (fun _ hb=> .inl hb) fun b hb=>hb.elim (h.ZB b) fun q=>by omega⟩
 have J:∀b:Bool,(b=true↔(k<0\/ms.length<k))->kX (fun e w'=>((k<0\/ms.length<k)/\e=81\/¬(k<0\/ms.length<k)/\e=0)/\Keep Z w w'/\xP B0 w' p fs (FN Z w w') (Ji st ms k).1 (Ji st ms k).2) w k p b:=by
  intro b hb
  refine⟨fun hb1=> ?_,fun hb1=>⟨fun hpos=> ?_,fun hneg=> ?_⟩⟩
  ·have hh:=hb.1 hb1
   exact⟨.inl ⟨hh,rfl⟩,same (by unfold Ji;rw[if_neg (by omega)])⟩
  ·have hh:¬(k<0\/ms.length<k):=fun q=>by rw[hb.2 q] at hb1;cases hb1
   have ew:IntKind.wrap .i64 ((ms.length:Int)-k)=ms.length-k:=wrap_small (by omega) (by omega)
   have hj:((ms.length:Int)-k).toNat=ms.length-k.toNat:=by omega
   have hlt:ms.length-k.toNat<ms.length:=by omega
   obtain⟨ad,v,hA,hv,hcell,_⟩:=(h.yK.row 2 (rl (by decide))).get (i:=(ms.length:Int)-k) (by omega) (by omega)
   have hv':v=iv (ms[ms.length-k.toNat]):=by
    have:(ms.map iv)[((ms.length:Int)-k).toNat]? =some v:=hv
    rw[hj,List.getElem?_map,List.getElem?_eq_getElem hlt] at this
    exact(Option.some.inj this).symm
   subst hv'
   have hd:0<=ms[ms.length-k.toNat]/\ms[ms.length-k.toNat]<=(st.length:Int):=ok.le _ (List.getElem_mem hlt)
   generalize hdd:ms[ms.length-k.toNat]=d at hd hcell
   have le1:=(h.yK.row 1 (rl (by decide))).le
   have le2:=(h.yK.row 2 (rl (by decide))).le
   have es:Ji st ms k=(st.take d.toNat,ms.take (ms.length-k.toNat)):=by
    unfold Ji
    rw[if_pos ⟨hpos,by omega⟩,List.getD_eq_getElem?_getD,List.getElem?_eq_getElem hlt,hdd]
    rfl
   refine⟨_,_,_,h.c2,_,_,_,h.c1,_,_,_,h.c2,?_⟩
   rw[ew]
   refine⟨by omega,by omega,ad,hA,d,hcell,hd.1,by omega,fun w5 hw5=> ?_⟩
   rw[hj]
   have h5:=h.stay (Ext.aK hw5)
   refine⟨⟨_,h5.c1⟩,h5.yK.froz 1 (rl (by decide)),fun w1 hw1 w2 hw2=> ?_⟩
   obtain⟨f1,k1⟩:=h5.yK.cut (k:=1) (rl (by decide)) (m:=d.toNat) (d:=c 1) (by omega) (by omega) (Nat.le_refl _) hw1
   rw[Qp] at f1
   have f1':Vz (Ws p) B0 w1 A (upd n 1 d.toNat) (upd c 1 (c 1)) (Jg nv (st.take d.toNat) ms):=f1.congr fun j _=>aJj _ (by show((st.flatMap uX).take (d.toNat*4))=_;rw[Xi (f:=uX) (s:=4) (fun _=>rfl)]) j
   rw[Qp] at f1'
   obtain⟨r1,kz1⟩:=h5.step f1' (k1.mono fun i _ hi=> .inl (by rw[hi];exact Addr.add_block _ _)) fun b _ hb=>hb
   have r2:=r1.stay (Ext.aK hw2)
   have e22:=r2.n2
   refine⟨_,_,_,r2.c2,by omega,by omega,⟨_,r2.c2⟩,r2.yK.froz 2 (rl (by decide)),fun w3 hw3=> ?_⟩
   obtain⟨f3,k3⟩:=r2.yK.cut (k:=2) (rl (by decide)) (m:=ms.length-k.toNat) (d:=c 2) (by omega) (by omega) (Nat.le_refl _) hw3
   rw[Qp] at f3
   have f3':Vz (Ws p) B0 w3 A (upd (upd n 1 d.toNat) 2 (ms.length-k.toNat)) (upd c 2 (c 2)) (Jg nv (st.take d.toNat) (ms.take (ms.length-k.toNat))):=f3.congr fun j hj=>aI6 _ (by show((ms.map iv).take ((ms.length-k.toNat)*1))=_;rw[Nat.mul_one,<-List.map_take]) j hj
   rw[Qp] at f3'
   obtain⟨r3,kz3⟩:=r2.step f3' (k3.mono fun i _ hi=> .inl (by rw[hi];exact Addr.add_block _ _)) fun b _ hb=>hb
   have D5:=Ext.aK hw5
   have D2:=Ext.aK hw2
   have s51:=kz1.size
   have K:Keep Z w w3:=(D5.mono fun _ _ h=>h.elim).trans ((kz1.trans (D2.mono fun _ _ h=>h.elim)).over kz3 fun i hi hh=>hh.elim id fun q=>by omega)
   refine⟨.inr ⟨hh,rfl⟩,K,?_⟩
   rw[es]
   refine⟨_,_,_,_,r3.widen (fun b hb=> ?_) fun b hb=> ?_⟩
   ·have z5:=D5.size
    have z2:=D2.size
    have z3:=kz3.size
    rcases hb with(hb|hb)|hb
    ·exact .inl hb
    ·exact .inr ⟨by omega,by omega⟩
    ·exact .inr ⟨by omega,hb.2⟩
   ·rcases hb with hb|hb
    ·exact⟨(h.ZB b hb).1,Nat.lt_of_lt_of_le (h.ZB b hb).2 K.size⟩
    ·exact⟨Nat.le_trans h.le hb.1,hb.2⟩
  ·have hh:¬(k<0\/ms.length<k):=fun q=>by rw[hb.2 q] at hb1;cases hb1
   exact⟨.inr ⟨hh,rfl⟩,same (by unfold Ji;rw[if_neg (by omega)])⟩
 refine⟨fun hneg=>J true ⟨fun _=> .inl hneg,fun _=>rfl⟩,fun hpos=>⟨_,_,_,h.c2,J _ ?_⟩⟩
 rw[decide_eq_true_iff]
 exact⟨fun q=> .inr q,fun q=>q.elim (fun q=>absurd q hpos) id⟩
end
def wX (p1:Addr) (A1:Option Addr) (n1 c1:Nat) (K:Option Addr->Nat->Nat->World->Prop) (w:World):Prop:=
 ∀(p2:Addr) (w1:World),New w (.cells #[] T.int) p2 w1->(∃I1:Nat->Option Addr->Nat->Nat->Int->World->Prop,(∃k1,I1 k1 (some p2) 0 0 0 w1)/\∀k1 (A3:Option Addr) (n3 c3:Nat) (x1:Int) (w2:World),I1 k1 A3 n3 c3 x1 w2->((x1<(n1:Int)->(0<=x1/\x1<(n1:Int)/\∃a1,A1=some a1/\∃x2,w2.cell? (a1.add (x1.toNat*1))=some (iv x2)/\∀(p3:Addr) (w3:World),New w2 (.cells #[iv x2] T.int) p3 w3->(∃(A4:Option Addr) (n4 c4:Nat) (w4:World),(Builtin.append_ #[T.bH,T.bH] T.bH #[.slice A3 n3 c3,.slice (some p3) 1 1]).run P w3= .ok (.slice A4 n4 c4) w4/\(∃k2,k2<k1/\I1 k2 A4 n4 c4 (IntKind.wrap .i64 (x1+1)) w4))))/\(¬(x1<(n1:Int))->(∀(p4:Addr) (w5:World),New w2 (.cells #[iv (-71),iv (-72)] T.int) p4 w5->(∃(A5:Option Addr) (n5 c5:Nat) (w6:World),(Builtin.append_ #[T.bH,T.bH] T.bH #[.slice A3 n3 c3,.slice (some p4) 2 2]).run P w5= .ok (.slice A5 n5 c5) w6/\(∃A6 n6 c6,w6.cell? (p1.add 0)=some (.slice A6 n6 c6)/\∀(p5:Addr) (w7:World),New w6 (.cells #[.slice A5 n5 c5] T.bH) p5 w7->(∃(A7:Option Addr) (n7 c7:Nat) (w8:World),(Builtin.append_ #[T.nO,T.nO] T.nO #[.slice A6 n6 c6,.slice (some p5) 1 1]).run P w7= .ok (.slice A7 n7 c7) w8/\((∃u1,w8.cell? (p1.add 0)=some u1)/\w8.frozen? (p1.add 0)=false/\∀w9,w9=w8.setCell (p1.add 0) (.slice A7 n7 c7)->(∃A8 n8 c8,w9.cell? (p1.add 1)=some (.slice A8 n8 c8)/\∀(p6:Addr) (w10:World),New w9 (.cells #[.slice A1 n1 c1] T.bH) p6 w10->(∃(A9:Option Addr) (n9 c9:Nat) (w11:World),(Builtin.append_ #[T.nO,T.nO] T.nO #[.slice A8 n8 c8,.slice (some p6) 1 1]).run P w10= .ok (.slice A9 n9 c9) w11/\((∃u2,w11.cell? (p1.add 1)=some u2)/\w11.frozen? (p1.add 1)=false/\∀w12,w12=w11.setCell (p1.add 1) (.slice A9 n9 c9)->(0<=(n1:Int)/\(n1:Int)<=(c5:Int)/\K A5 ((n1:Int).toNat) c5 w12))))))))))))
theorem Uy (p1:Addr) (A1:Option Addr) (n1 c1:Nat) (K:Option Addr->Nat->Nat->World->Prop) (w:World) (H:wX p1 A1 n1 c1 K w):Calls P F.uU #[.pointer (some p1),.slice A1 n1 c1] w (cO fun v w'=>∃A2 n2 c2,v=(.slice A2 n2 c2)/\K A2 n2 c2 w'):=by
 unfold wX at H;refine bT (P:=P) Tryz.func14 rfl [(0,.pointer (some p1)),(1,.slice A1 n1 c1)] 48 rfl rfl (aa rfl (aa rfl az)) (aG (aF (ag rfl (aH (nc (y2 0 1 rfl) (aG (aF (sz rfl rfl (xl 0 0 (.cells #[] T.int) rfl) ?_))))))));intro p2 w1 hN;replace H:=H _ _ hN;refine ag rfl (aH (nc (y3 0 1 5 rfl) (aG (aG (aF (ag rfl (aH (nc (y4 0 1 5 6 rfl) (aY ?_)))))))));obtain⟨I1,⟨k1,hi⟩,H⟩:=H;refine fK (fun k1 a w'=>∃A3 n3 c3,∃x1,Ok 48 [(0,.pointer (some p1)),(1,.slice A1 n1 c1),(5,.slice A3 n3 c3),(6,iv x1)] a/\I1 k1 A3 n3 c3 x1 w') (fun a ha=>⟨k1,some p2,0,0,0,ha.weaken cs,hi⟩) ?_;rintro k1 a w2 ⟨A3,n3,c3,x1,ha,hI⟩;replace H:=H k1 A3 n3 c3 x1 w2 hI;refine cu ha ?_;refine aG (aG (aF (mv rfl (mv rfl (sv rfl rfl (xb rfl (fun _=>bW TF.bP)) (bo rfl rfl iY (aH (nc (y5 0 1 5 6 11 rfl) ?_))))))));refine bC rfl (fun hb=> ?_) (fun hb=> ?_)
 ·replace H:=H.1 hb;refine aX (nc (y4 0 1 5 6 rfl) (aG (aY (aF (mv rfl (mv rfl (mv rfl ?_)))))));obtain⟨h1,h2,a1,e1,H⟩:=H;refine ix rfl rfl (aU TF.aV TF.size_int e1 h1 h2) ?_;obtain⟨x2,h3,H⟩:=H;refine ld rfl (aJ TF.aP h3) (sz rfl rfl (xl 1 1 (.cells #[iv x2] T.int) rfl) ?_);intro p3 w3 hN;obtain⟨A4,n4,c4,w4,h4,H⟩:=H _ _ hN;refine sv rfl rfl (xb rfl (fun _=>dY h4)) (ag rfl (aH (bZ (nc (y4 0 1 5 6 rfl) (aF (mv rfl (bo rfl rfl kC (ag rfl (aH ?_)))))))));obtain⟨k2,hk,H⟩:=H;exact bD fun a ha=>⟨k2,hk,A4,n4,c4,IntKind.wrap .i64 (x1+1),ha.weaken cs,H⟩
 ·replace H:=H.2 hb;refine eU (aT (aT (bQ (nc (y3 0 1 5 rfl) (aG (aF (mv rfl (sz rfl rfl (xl 2 2 (.cells #[iv (-71),iv (-72)] T.int) rfl) ?_))))))));intro p4 w5 hN;obtain⟨A5,n5,c5,w6,h5,H⟩:=H _ _ hN;refine sv rfl rfl (xb rfl (fun _=>dY h5)) (ag rfl (aH (nc (y3 0 1 5 rfl) (aG (aF (mv rfl (mv rfl (nk rfl (fa rfl (TF.sW _ _) ?_)))))))));obtain⟨A6,n6,c6,h6,H⟩:=H;refine ld rfl (aJ TF.jK h6) (mv rfl (sz rfl rfl (xl 1 1 (.cells #[.slice A5 n5 c5] T.bH) rfl) ?_));intro p5 w7 hN;obtain⟨A7,n7,c7,w8,h7,H⟩:=H _ _ hN;refine sv rfl rfl (xb rfl (fun _=>dY h7)) (nk rfl (fa rfl (TF.sW _ _) ?_));obtain⟨⟨u1,h8⟩,h9,H⟩:=H;refine oO rfl (aI rfl) (xs rfl rfl (dM TF.Zp rfl rfl h8 h9)) ?_;intro w9 hw;replace H:=H _ hw;clear hw;refine aH (nc (y3 0 1 5 rfl) (aG (aF (mv rfl (mv rfl (nk rfl (fa rfl (TF.tH _ _) ?_)))))));obtain⟨A8,n8,c8,h10,H⟩:=H;refine ld rfl (aJ TF.jK h10) (mv rfl (sz rfl rfl (xl 1 1 (.cells #[.slice A1 n1 c1] T.bH) rfl) ?_));intro p6 w10 hN;obtain⟨A9,n9,c9,w11,h11,H⟩:=H _ _ hN;refine sv rfl rfl (xb rfl (fun _=>dY h11)) (nk rfl (fa rfl (TF.tH _ _) ?_));obtain⟨⟨u2,h12⟩,h13,H⟩:=H;refine oO rfl (aI rfl) (xs rfl rfl (dM TF.Zp rfl rfl h12 h13)) ?_;intro w12 hw;replace H:=H _ hw;clear hw;refine aH (nc (y2 1 5 rfl) (aG (aF (mv rfl (mv rfl (sv rfl rfl (xb rfl (fun _=>bW TF.bP)) ?_))))));obtain⟨h14,h15,H⟩:=H;exact sv rfl rfl (fun a ha=>Ad (ha.ev rfl) rfl (yP (ha.ev rfl)) rfl (xI TF.aV TF.size_int h14 h15)) (ag rfl (aH (nc (kp 4 rfl zz) (bK (aN (res1 rfl rfl) ⟨_,rfl,_,_,_,rfl,H⟩)))))
def nI (k1:Nat) (I1:Nat->Option Addr->Nat->Nat->Int->World->Prop) (x1:Int) (A7:Option Addr) (n7 c7:Nat) (w9:World):Prop:=
 ∃k2,k2<k1/\I1 k2 A7 n7 c7 (IntKind.wrap .i64 (x1+1)) w9
def wF (p1:Addr) (A1:Option Addr) (n1 c1:Nat) (K:Option Addr->Nat->Nat->World->Prop) (w:World):Prop:=
 ∀(p2:Addr) (w1:World),New w (.cells #[] T.fJ) p2 w1->(∃I1:Nat->Option Addr->Nat->Nat->Int->World->Prop,(∃k1,I1 k1 (some p2) 0 0 0 w1)/\∀k1 (A3:Option Addr) (n3 c3:Nat) (x1:Int) (w2:World),I1 k1 A3 n3 c3 x1 w2->((x1<(n1:Int)->(∃X1:Nat->Prop,0<=x1/\x1<(n1:Int)/\∃a1,A1=some a1/\∃x2,w2.cell? ((a1.add (x1.toNat*2)).add 0)=some (iv x2)/\¬X1 ((a1.add (x1.toNat*2)).add 0).block/\0<=x1/\x1<(n1:Int)/\∃a2,A1=some a2/\∃A4 n4 c4,w2.cell? ((a2.add (x1.toNat*2)).add 1)=some (.slice A4 n4 c4)/\∀w4,aO w2 w4->Calls P F.uU #[.pointer (some p1),.slice A4 n4 c4] w4 (cO fun v1 w3=>∃A5 n5 c5,v1=(.slice A5 n5 c5)/\Keep X1 w2 w3/\∀w11,aO w3 w11->∀(p3:Addr) (w6:World),New w11 (.cells #[iv x2,.slice A5 n5 c5] T.fJ) p3 w6->(∀w10,aO w6 w10->∃(A6:Option Addr) (n6 c6:Nat) (w7:World),(Builtin.append_ #[T.fB,T.fB] T.fB #[.slice A3 n3 c3,.slice (some p3) 1 1]).run P w10= .ok (.slice A6 n6 c6) w7/\(∀w8,aO w7 w8->((nI k1 I1 x1) A6 n6 c6 w8))))))/\(¬(x1<(n1:Int))->(∀(p4:Addr) (w12:World),New w2 (.cells #[iv 73,.slice none 0 0,iv 74,.slice none 0 0] T.fJ) p4 w12->(∃(A8:Option Addr) (n8 c8:Nat) (w13:World),(Builtin.append_ #[T.fB,T.fB] T.fB #[.slice A3 n3 c3,.slice (some p4) 2 2]).run P w12= .ok (.slice A8 n8 c8) w13/\(∃A9 n9 c9,w13.cell? (p1.add 2)=some (.slice A9 n9 c9)/\∀(p5:Addr) (w14:World),New w13 (.cells #[.slice A8 n8 c8] T.fB) p5 w14->(∃(A10:Option Addr) (n10 c10:Nat) (w15:World),(Builtin.append_ #[T.lN,T.lN] T.lN #[.slice A9 n9 c9,.slice (some p5) 1 1]).run P w14= .ok (.slice A10 n10 c10) w15/\((∃u1,w15.cell? (p1.add 2)=some u1)/\w15.frozen? (p1.add 2)=false/\∀w16,w16=w15.setCell (p1.add 2) (.slice A10 n10 c10)->(∃A11 n11 c11,w16.cell? (p1.add 3)=some (.slice A11 n11 c11)/\∀(p6:Addr) (w17:World),New w16 (.cells #[.slice A1 n1 c1] T.fB) p6 w17->(∃(A12:Option Addr) (n12 c12:Nat) (w18:World),(Builtin.append_ #[T.lN,T.lN] T.lN #[.slice A11 n11 c11,.slice (some p6) 1 1]).run P w17= .ok (.slice A12 n12 c12) w18/\((∃u2,w18.cell? (p1.add 3)=some u2)/\w18.frozen? (p1.add 3)=false/\∀w19,w19=w18.setCell (p1.add 3) (.slice A12 n12 c12)->(0<=(n1:Int)/\(n1:Int)<=(c8:Int)/\K A8 ((n1:Int).toNat) c8 w19))))))))))))
theorem Tt (p1:Addr) (A1:Option Addr) (n1 c1:Nat) (K:Option Addr->Nat->Nat->World->Prop) (w:World) (H:wF p1 A1 n1 c1 K w):Calls P F.sS #[.pointer (some p1),.slice A1 n1 c1] w (cO fun v w'=>∃A2 n2 c2,v=(.slice A2 n2 c2)/\K A2 n2 c2 w'):=by
 unfold wF at H;refine bT (P:=P) Tryz.func8 rfl [(0,.pointer (some p1)),(1,.slice A1 n1 c1)] 59 rfl rfl (aa rfl (aa rfl az)) (aG (aF (ag rfl (aH (nc (y2 0 1 rfl) (aG (aF (sz rfl rfl (xl 0 0 (.cells #[] T.fJ) rfl) ?_))))))));intro p2 w1 hN;replace H:=H _ _ hN;refine ag rfl (aH (nc (y3 0 1 5 rfl) (aG (aG (aF (ag rfl (aH (nc (y4 0 1 5 6 rfl) (aY ?_)))))))));obtain⟨I1,⟨k1,hi⟩,H⟩:=H;refine fK (fun k1 a w'=>∃A3 n3 c3,∃x1,Ok 59 [(0,.pointer (some p1)),(1,.slice A1 n1 c1),(5,.slice A3 n3 c3),(6,iv x1)] a/\I1 k1 A3 n3 c3 x1 w') (fun a ha=>⟨k1,some p2,0,0,0,ha.weaken cs,hi⟩) ?_;rintro k1 a w2 ⟨A3,n3,c3,x1,ha,hI⟩;replace H:=H k1 A3 n3 c3 x1 w2 hI;refine cu ha ?_;refine aG (aG (aF (mv rfl (mv rfl (sv rfl rfl (xb rfl (fun _=>bW TF.dS)) (bo rfl rfl iY (aH (nc (y5 0 1 5 6 11 rfl) ?_))))))));refine bC rfl (fun hb=> ?_) (fun hb=> ?_)
 ·replace H:=H.1 hb;refine aX (nc (y4 0 1 5 6 rfl) ?_);refine fA (fun a w=>∃A7 n7 c7,Ok 59 [(0,.pointer (some p1)),(1,.slice A1 n1 c1),(5,.slice A7 n7 c7),(6,iv x1)] a/\nI k1 I1 x1 A7 n7 c7 w) ?_ ?_
  ·rintro a w9 ⟨A7,n7,c7,ha,H⟩;unfold nI at H;refine cu ha ?_;refine aF (mv rfl (bo rfl rfl kC (ag rfl (aH ?_))));obtain⟨k2,hk,H⟩:=H;exact bD fun a ha=>⟨k2,hk,A7,n7,c7,IntKind.wrap .i64 (x1+1),ha.weaken cs,H⟩
  ·refine aY ?_;obtain⟨X1,H⟩:=H;refine iM follows X1 [0,1,2,3,4,5,6,7,8,9,10,11,13,16] [5] 17 rfl rfl (by kernel_rfl) (fun _ _ d _ _ h=>by cases d<;>exact h) (fun cm W D=> ?_);refine gZ 0 cm rfl rfl D W fun _ D W=>(gZ 1 cm rfl rfl D W fun _ D W=>(gZ 2 cm rfl rfl D W fun _ D W=> ?_));obtain⟨h1,h2,a1,e1,H⟩:=H;refine Ie 3 cm rfl rfl rfl (aU TF.dN TF.bY e1 h1 h2) D W fun _ D W=>(lH 4 cm rfl rfl (TF.kU _ _) D W fun _ D W=> ?_);obtain⟨x2,h3,hx',H⟩:=H;replace h3:=And.intro h3 hx';clear hx';refine vl 5 cm rfl rfl (fun hw=>(aJ TF.aP (hw.cell h3))) D W fun _ D W=>(gZ 6 cm rfl rfl D W fun _ D W=>(gZ 7 cm rfl rfl D W fun _ D W=>(gZ 8 cm rfl rfl D W fun _ D W=> ?_)));obtain⟨h4,h5,a2,e2,H⟩:=H;refine Ie 9 cm rfl rfl rfl (aU TF.dN TF.bY e2 h4 h5) D W fun _ D W=>(lH 10 cm rfl rfl (TF.fF _ _) D W fun _ D W=> ?_);obtain⟨A4,n4,c4,h6,H⟩:=H;refine Qg (E:=aO w2) (i:=11) cm (fun _ _=>aO.trans) rfl (by kernel_rfl) D rfl rfl (aI rfl) (fun w' hw a ha=>nT (ha.ev rfl) (aJ TF.bM ((hw.cell _).trans h6))) rfl ?_;intro _ hd;replace D:=D.trans hd;replace W:=cm.held _ _ W hd;clear hd;refine ar 12 ?_;replace H:=H _ D;refine Vx rfl rfl rfl (aI rfl) (xc rfl rfl FF.Me) rfl true (by kernel_rfl) H ?_;rintro _ w3 ⟨A5,n5,c5,rfl,H⟩ _ D;have W:=H.1.drawn D;replace H:=H.2;refine⟨fun _=>W,?_⟩;refine Qj 13 cm rfl rfl rfl (fun w'=>xp (.agg #[iv x2,.slice A5 n5 c5]) rfl) D fun _ D=>(ar 14 ?_);replace H:=H _ D;refine lS (f:=(fun p=> .slice (some p) 1 1)) rfl rfl rfl (aI rfl) (xl 1 1 (.cells #[iv x2,.slice A5 n5 c5] T.fJ) rfl) rfl false (by kernel_rfl) ?_;intro p3 w6 hN _ D;replace H:=H _ _ hN;refine⟨fun h=>(by cases h),?_⟩;refine ar 15 ?_;obtain⟨A6,n6,c6,w7,h9,H⟩:=H _ D;refine Ap rfl rfl rfl (aI rfl) (xb rfl (fun _=>dY h9)) rfl false (by kernel_rfl) ?_;intro _ D;refine⟨fun h=>(by cases h),?_⟩;refine Bo 16 cm rfl rfl D fun _ D=>(dJ (by kernel_rfl) D ?_);intro w8 D;replace H:=H _ D;clear D cm;exact bZ (bD fun a ha=>⟨A6,n6,c6,ha.weaken cs,H⟩)
 ·replace H:=H.2 hb;refine eU (aT (aT (bQ (nc (y3 0 1 5 rfl) (aG (aF (mv rfl (sv rfl rfl (xp (.agg #[iv 73,.slice none 0 0]) rfl) (sv rfl rfl (xp (.agg #[iv 74,.slice none 0 0]) rfl) (sz rfl rfl (xl 2 2 (.cells #[iv 73,.slice none 0 0,iv 74,.slice none 0 0] T.fJ) rfl) ?_))))))))));intro p4 w12 hN;obtain⟨A8,n8,c8,w13,h10,H⟩:=H _ _ hN;refine sv rfl rfl (xb rfl (fun _=>dY h10)) (ag rfl (aH (nc (y3 0 1 5 rfl) (aG (aF (mv rfl (mv rfl (nk rfl (fa rfl (TF.sV _ _) ?_)))))))));obtain⟨A9,n9,c9,h11,H⟩:=H;refine ld rfl (aJ TF.oU h11) (mv rfl (sz rfl rfl (xl 1 1 (.cells #[.slice A8 n8 c8] T.fB) rfl) ?_));intro p5 w14 hN;obtain⟨A10,n10,c10,w15,h12,H⟩:=H _ _ hN;refine sv rfl rfl (xb rfl (fun _=>dY h12)) (nk rfl (fa rfl (TF.sV _ _) ?_));obtain⟨⟨u1,h13⟩,h14,H⟩:=H;refine oO rfl (aI rfl) (xs rfl rfl (dM TF.Qs rfl rfl h13 h14)) ?_;intro w16 hw;replace H:=H _ hw;clear hw;refine aH (nc (y3 0 1 5 rfl) (aG (aF (mv rfl (mv rfl (nk rfl (fa rfl (TF.qA _ _) ?_)))))));obtain⟨A11,n11,c11,h15,H⟩:=H;refine ld rfl (aJ TF.oU h15) (mv rfl (sz rfl rfl (xl 1 1 (.cells #[.slice A1 n1 c1] T.fB) rfl) ?_));intro p6 w17 hN;obtain⟨A12,n12,c12,w18,h16,H⟩:=H _ _ hN;refine sv rfl rfl (xb rfl (fun _=>dY h16)) (nk rfl (fa rfl (TF.qA _ _) ?_));obtain⟨⟨u2,h17⟩,h18,H⟩:=H;refine oO rfl (aI rfl) (xs rfl rfl (dM TF.Qs rfl rfl h17 h18)) ?_;intro w19 hw;replace H:=H _ hw;clear hw;refine aH (nc (y2 1 5 rfl) (aG (aF (mv rfl (mv rfl (sv rfl rfl (xb rfl (fun _=>bW TF.dS)) ?_))))));obtain⟨h19,h20,H⟩:=H;exact sv rfl rfl (fun a ha=>Ad (ha.ev rfl) rfl (yP (ha.ev rfl)) rfl (xI TF.dN TF.bY h19 h20)) (ag rfl (aH (nc (kp 4 rfl zz) (bK (aN (res1 rfl rfl) ⟨_,rfl,_,_,_,rfl,H⟩)))))
def yF (A1:Option Addr) (n1 c1:Nat) (A2:Option Addr) (n2 c2:Nat) (K:Bool->World->Prop) (w:World):Prop:=
 ((n1:Int)≠(n2:Int)->(K false w))/\(¬((n1:Int)≠(n2:Int))->(∃I1:Nat->Int->World->Prop,(∃k1,I1 k1 0 w)/\∀k1 (x1:Int) (w1:World),I1 k1 x1 w1->((x1<(n1:Int)->(0<=x1/\x1<(n1:Int)/\∃a1,A1=some a1/\∃x2,w1.cell? (a1.add (x1.toNat*1))=some (iv x2)/\0<=x1/\x1<(n2:Int)/\∃a2,A2=some a2/\∃x3,w1.cell? (a2.add (x1.toNat*1))=some (iv x3)/\∀w2,aO w1 w2->((x2≠x3->(K false w2))/\(¬(x2≠x3)->(∃k2,k2<k1/\I1 k2 (IntKind.wrap .i64 (x1+1)) w2)))))/\(¬(x1<(n1:Int))->(K true w1)))))
theorem Vq (A1:Option Addr) (n1 c1:Nat) (A2:Option Addr) (n2 c2:Nat) (K:Bool->World->Prop) (w:World) (H:yF A1 n1 c1 A2 n2 c2 K w):Calls P F.lF #[.slice A1 n1 c1,.slice A2 n2 c2] w (cO fun v w'=>∃b1,v=(.bool b1)/\K b1 w'):=by
 unfold yF at H;refine bT (P:=P) Tryz.func21 rfl [(0,.slice A1 n1 c1),(1,.slice A2 n2 c2)] 26 rfl rfl (aa rfl (aa rfl az)) (aG (aF (ag rfl (aH (nc (y2 0 1 rfl) (aG (aG (aF (mv rfl (sv rfl rfl (xb rfl (fun _=>bW TF.bP)) (mv rfl (sv rfl rfl (xb rfl (fun _=>bW TF.bP)) (bo rfl rfl qR (aH (nc (y3 0 1 10 rfl) ?_)))))))))))))));refine bC rfl (fun hb=> ?_) (fun hb=> ?_)
 ·replace H:=H.1 hb;exact aG (aF (ag rfl (aH (nc (kp 4 rfl zz) (bK (aQ (aN (res1 rfl rfl) ⟨_,rfl,_,rfl,H⟩)))))))
 ·replace H:=H.2 hb;refine aX (nc (y2 0 1 rfl) (aG (aG (aF (ag rfl (aH (nc (y3 0 1 5 rfl) (aY ?_))))))));obtain⟨I1,⟨k1,hi⟩,H⟩:=H;refine fK (fun k1 a w'=>∃x1,Ok 26 [(0,.slice A1 n1 c1),(1,.slice A2 n2 c2),(5,iv x1)] a/\I1 k1 x1 w') (fun a ha=>⟨k1,0,ha.weaken cs,hi⟩) ?_;rintro k1 a w1 ⟨x1,ha,hI⟩;replace H:=H k1 x1 w1 hI;refine cu ha ?_;refine aG (aG (aF (mv rfl (mv rfl (sv rfl rfl (xb rfl (fun _=>bW TF.bP)) (bo rfl rfl iY (aH (nc (y4 0 1 5 14 rfl) ?_))))))));refine bC rfl (fun hb=> ?_) (fun hb=> ?_)
  ·replace H:=H.1 hb;refine aX (nc (y3 0 1 5 rfl) (aG (aY (aG ?_))));refine bU follows [0,1,2,3,4,5,6,7,8] [3,7] 9 rfl rfl (by kernel_rfl) (fun _ _ d _ _ h=>by cases d<;>exact h) (fun cm W D=> ?_);refine gZ 0 cm rfl rfl D W fun _ D W=>(gZ 1 cm rfl rfl D W fun _ D W=> ?_);obtain⟨h1,h2,a1,e1,H⟩:=H;refine Ie 2 cm rfl rfl rfl (aU TF.aV TF.size_int e1 h1 h2) D W fun _ D W=> ?_;obtain⟨x2,h3,H⟩:=H;refine vl 3 cm rfl rfl (fun hw=>(aJ TF.aP ((hw.cell _).trans h3))) D W fun _ D W=>(gZ 4 cm rfl rfl D W fun _ D W=>(gZ 5 cm rfl rfl D W fun _ D W=> ?_));obtain⟨h4,h5,a2,e2,H⟩:=H;refine Ie 6 cm rfl rfl rfl (aU TF.aV TF.size_int e2 h4 h5) D W fun _ D W=> ?_;obtain⟨x3,h6,H⟩:=H;refine vl 7 cm rfl rfl (fun hw=>(aJ TF.aP ((hw.cell _).trans h6))) D W fun _ D W=>(Qj 8 cm rfl rfl rfl (fun w' a ha=>fZ (ha.ev rfl) (ha.ev rfl) qR) D fun _ D=>(dJ (by kernel_rfl) D ?_));intro w2 D;replace H:=H _ D;clear D cm;refine nc (y4 0 1 5 25 rfl) ?_;refine bC rfl (fun hb=> ?_) (fun hb=> ?_)
   ·replace H:=H.1 hb;exact aG (aF (ag rfl (aH (nc (kp 4 rfl zz) (bK (bF (aQ (aQ (bF (aQ (aN (res1 rfl rfl) ⟨_,rfl,_,rfl,H⟩)))))))))))
   ·replace H:=H.2 hb;refine aX (bZ (nc (y3 0 1 5 rfl) (aF (mv rfl (bo rfl rfl kC (ag rfl (aH ?_)))))));obtain⟨k2,hk,H⟩:=H;exact bD fun a ha=>⟨k2,hk,IntKind.wrap .i64 (x1+1),ha.weaken cs,H⟩
  ·replace H:=H.2 hb;exact eU (aT (aT (bQ (nc zz (aG (aF (ag rfl (aH (nc (kp 4 rfl zz) (bK (aN (res1 rfl rfl) ⟨_,rfl,_,rfl,H⟩)))))))))))
def jA (K:Bool->World->Prop) (k1:Nat) (I1:Nat->Int->World->Prop) (x1:Int) (b3:Bool) (w6:World):Prop:=
 (b3=true->(K false w6))/\(b3=false->(∃k2,k2<k1/\I1 k2 (IntKind.wrap .i64 (x1+1)) w6))
def kV (K:Bool->World->Prop) (k4:Nat) (I3:Nat->Int->World->Prop) (x5:Int) (b4:Bool) (w12:World):Prop:=
 (b4=true->(K false w12))/\(b4=false->(∃k5,k5<k4/\I3 k5 (IntKind.wrap .i64 (x5+1)) w12))
def oL (K:Bool->World->Prop) (w10:World) (k3:Nat) (I2:Nat->Int->World->Prop) (x4:Int) (b6:Bool):Prop:=
 (b6=true->(K false w10))/\(b6=false->(∃k6,k6<k3/\I2 k6 (IntKind.wrap .i64 (x4+1)) w10))
def gJ (K:Bool->World->Prop) (k8:Nat) (I5:Nat->Int->World->Prop) (x11:Int) (b7:Bool) (w23:World):Prop:=
 (b7=true->(K false w23))/\(b7=false->(∃k9,k9<k8/\I5 k9 (IntKind.wrap .i64 (x11+1)) w23))
def oM (K:Bool->World->Prop) (w18:World) (k7:Nat) (I4:Nat->Int->World->Prop) (x10:Int) (b9:Bool):Prop:=
 (b9=true->(K false w18))/\(b9=false->(∃k10,k10<k7/\I4 k10 (IntKind.wrap .i64 (x10+1)) w18))
def wY (p1:Addr) (K:Bool->World->Prop) (w:World):Prop:=
 ∃I1:Nat->Int->World->Prop,(∃k1,I1 k1 0 w)/\∀k1 (x1:Int) (w1:World),I1 k1 x1 w1->(∃A1 n1 c1,w1.cell? (p1.add 0)=some (.slice A1 n1 c1)/\(x1<(n1:Int)->(∃A2 n2 c2,w1.cell? (p1.add 1)=some (.slice A2 n2 c2)/\0<=x1/\x1<(n2:Int)/\∃a1,A2=some a1/\∃A3 n3 c3,w1.cell? (a1.add (x1.toNat*1))=some (.slice A3 n3 c3)/\∃A4 n4 c4,w1.cell? (p1.add 0)=some (.slice A4 n4 c4)/\0<=x1/\x1<(n4:Int)/\∃a2,A4=some a2/\∃A5 n5 c5,w1.cell? (a2.add (x1.toNat*1))=some (.slice A5 n5 c5)/\0<=(n3:Int)/\(n3:Int)<=(c5:Int)/\∃A6 n6 c6,w1.cell? (p1.add 1)=some (.slice A6 n6 c6)/\0<=x1/\x1<(n6:Int)/\∃a3,A6=some a3/\∃A7 n7 c7,w1.cell? (a3.add (x1.toNat*1))=some (.slice A7 n7 c7)/\∀w3,aO w1 w3->Calls P F.lF #[.slice A5 ((n3:Int).toNat) c5,.slice A7 n7 c7] w3 (cO fun v1 w2=>∃b2,v1=(.bool b2)/\((!b2)=true->(∀w5,aO w2 w5->((jA K k1 I1 x1) true w5)))/\((!b2)=false->(0<=(n3:Int)/\(n3:Int)<(n5:Int)/\∃a4,A5=some a4/\∃x2,w2.cell? (a4.add ((n3:Int).toNat*1))=some (iv x2)/\(x2≠(-71)->(∀w7,aO w2 w7->((jA K k1 I1 x1) true w7)))/\(¬(x2≠(-71))->(0<=IntKind.wrap .i64 ((n3:Int)+1)/\IntKind.wrap .i64 ((n3:Int)+1)<(n5:Int)/\∃a5,A5=some a5/\∃x3,w2.cell? (a5.add ((IntKind.wrap .i64 ((n3:Int)+1)).toNat*1))=some (iv x3)/\∀w8,aO w2 w8->((jA K k1 I1 x1) (decide (x3≠(-72))) w8))))))))/\(¬(x1<(n1:Int))->(∃I2:Nat->Int->World->Prop,(∃k3,I2 k3 0 w1)/\∀k3 (x4:Int) (w9:World),I2 k3 x4 w9->(∃A8 n8 c8,w9.cell? (p1.add 2)=some (.slice A8 n8 c8)/\(x4<(n8:Int)->(∃A9 n9 c9,w9.cell? (p1.add 3)=some (.slice A9 n9 c9)/\0<=x4/\x4<(n9:Int)/\∃a6,A9=some a6/\∃A10 n10 c10,w9.cell? (a6.add (x4.toNat*1))=some (.slice A10 n10 c10)/\∃A11 n11 c11,w9.cell? (p1.add 2)=some (.slice A11 n11 c11)/\0<=x4/\x4<(n11:Int)/\∃a7,A11=some a7/\∃A12 n12 c12,w9.cell? (a7.add (x4.toNat*1))=some (.slice A12 n12 c12)/\∃I3:Nat->Int->World->Prop,(∃k4,I3 k4 0 w9)/\∀k4 (x5:Int) (w10:World),I3 k4 x5 w10->((x5<(n10:Int)->(0<=x5/\x5<(n12:Int)/\∃a8,A12=some a8/\∃x6,w10.cell? ((a8.add (x5.toNat*2)).add 0)=some (iv x6)/\∃A13 n13 c13,w10.cell? (p1.add 3)=some (.slice A13 n13 c13)/\0<=x4/\x4<(n13:Int)/\∃a9,A13=some a9/\∃A14 n14 c14,w10.cell? (a9.add (x4.toNat*1))=some (.slice A14 n14 c14)/\0<=x5/\x5<(n14:Int)/\∃a10,A14=some a10/\∃x7,w10.cell? ((a10.add (x5.toNat*2)).add 0)=some (iv x7)/\(x6≠x7->(∀w11,aO w10 w11->((kV K k4 I3 x5) true w11)))/\(¬(x6≠x7)->(0<=x5/\x5<(n12:Int)/\∃a11,A12=some a11/\∃A15 n15 c15,w10.cell? ((a11.add (x5.toNat*2)).add 1)=some (.slice A15 n15 c15)/\∃A16 n16 c16,w10.cell? (p1.add 3)=some (.slice A16 n16 c16)/\0<=x4/\x4<(n16:Int)/\∃a12,A16=some a12/\∃A17 n17 c17,w10.cell? (a12.add (x4.toNat*1))=some (.slice A17 n17 c17)/\0<=x5/\x5<(n17:Int)/\∃a13,A17=some a13/\∃A18 n18 c18,w10.cell? ((a13.add (x5.toNat*2)).add 1)=some (.slice A18 n18 c18)/\∀w14,aO w10 w14->Calls P F.lF #[.slice A15 n15 c15,.slice A18 n18 c18] w14 (cO fun v2 w13=>∃b5,v2=(.bool b5)/\∀w16,aO w13 w16->((kV K k4 I3 x5) (!b5) w16))))))/\(¬(x5<(n10:Int))->(0<=(n10:Int)/\(n10:Int)<(n12:Int)/\∃a14,A12=some a14/\∃x8,w10.cell? ((a14.add ((n10:Int).toNat*2)).add 0)=some (iv x8)/\(x8≠73->((oL K w10 k3 I2 x4) true))/\(¬(x8≠73)->(0<=IntKind.wrap .i64 ((n10:Int)+1)/\IntKind.wrap .i64 ((n10:Int)+1)<(n12:Int)/\∃a15,A12=some a15/\∃x9,w10.cell? ((a15.add ((IntKind.wrap .i64 ((n10:Int)+1)).toNat*2)).add 0)=some (iv x9)/\(oL K w10 k3 I2 x4) (decide (x9≠74)))))))))/\(¬(x4<(n8:Int))->(∃I4:Nat->Int->World->Prop,(∃k7,I4 k7 0 w9)/\∀k7 (x10:Int) (w17:World),I4 k7 x10 w17->(∃A19 n19 c19,w17.cell? (p1.add 4)=some (.slice A19 n19 c19)/\(x10<(n19:Int)->(∃A20 n20 c20,w17.cell? (p1.add 5)=some (.slice A20 n20 c20)/\0<=x10/\x10<(n20:Int)/\∃a16,A20=some a16/\∃A21 n21 c21,w17.cell? (a16.add (x10.toNat*1))=some (.slice A21 n21 c21)/\∃A22 n22 c22,w17.cell? (p1.add 4)=some (.slice A22 n22 c22)/\0<=x10/\x10<(n22:Int)/\∃a17,A22=some a17/\∃A23 n23 c23,w17.cell? (a17.add (x10.toNat*1))=some (.slice A23 n23 c23)/\∃I5:Nat->Int->World->Prop,(∃k8,I5 k8 0 w17)/\∀k8 (x11:Int) (w18:World),I5 k8 x11 w18->((x11<(n21:Int)->(0<=x11/\x11<(n23:Int)/\∃a18,A23=some a18/\∃x12,∃x13,∃x14,∃x15,∃A24 n24 c24,bG w18 (a18.add (x11.toNat*5)) [iv x12,iv x13,iv x14,iv x15,.slice A24 n24 c24]/\∀(p2:Addr) (w19:World),New w18 (.cells #[iv 0,iv 0,iv 0,iv 0,.slice none 0 0] T.iT) p2 w19->(oH w19 p2 5/\∀w20,w20=cZ w19 p2 [iv x12,iv x13,iv x14,iv x15,.slice A24 n24 c24]->(∃A25 n25 c25,w20.cell? (p1.add 5)=some (.slice A25 n25 c25)/\0<=x10/\x10<(n25:Int)/\∃a19,A25=some a19/\∃A26 n26 c26,w20.cell? (a19.add (x10.toNat*1))=some (.slice A26 n26 c26)/\0<=x11/\x11<(n26:Int)/\∃a20,A26=some a20/\∃x16,∃x17,∃x18,∃x19,∃A27 n27 c27,bG w20 (a20.add (x11.toNat*5)) [iv x16,iv x17,iv x18,iv x19,.slice A27 n27 c27]/\∀(p3:Addr) (w21:World),New w20 (.cells #[iv 0,iv 0,iv 0,iv 0,.slice none 0 0] T.iT) p3 w21->(oH w21 p3 5/\∀w22,w22=cZ w21 p3 [iv x16,iv x17,iv x18,iv x19,.slice A27 n27 c27]->(∃x20,w22.cell? (p2.add 0)=some (iv x20)/\∃x21,w22.cell? (p3.add 0)=some (iv x21)/\(x20≠x21->((gJ K k8 I5 x11) true w22))/\(¬(x20≠x21)->(∃x22,w22.cell? (p2.add 1)=some (iv x22)/\∃x23,w22.cell? (p3.add 1)=some (iv x23)/\(x22≠x23->((gJ K k8 I5 x11) true w22))/\(¬(x22≠x23)->(∃x24,w22.cell? (p2.add 2)=some (iv x24)/\∃x25,w22.cell? (p3.add 2)=some (iv x25)/\(x24≠x25->((gJ K k8 I5 x11) true w22))/\(¬(x24≠x25)->(∃x26,w22.cell? (p2.add 3)=some (iv x26)/\∃x27,w22.cell? (p3.add 3)=some (iv x27)/\(x26≠x27->((gJ K k8 I5 x11) true w22))/\(¬(x26≠x27)->(∃A28 n28 c28,w22.cell? (p2.add 4)=some (.slice A28 n28 c28)/\∃A29 n29 c29,w22.cell? (p3.add 4)=some (.slice A29 n29 c29)/\Calls P F.lF #[.slice A28 n28 c28,.slice A29 n29 c29] w22 (cO fun v3 w24=>∃b8,v3=(.bool b8)/\(gJ K k8 I5 x11) (!b8) w24)))))))))))))))/\(¬(x11<(n21:Int))->(0<=(n21:Int)/\(n21:Int)<(n23:Int)/\∃a21,A23=some a21/\∃x28,w18.cell? ((a21.add ((n21:Int).toNat*5)).add 0)=some (iv x28)/\(x28≠75->((oM K w18 k7 I4 x10) true))/\(¬(x28≠75)->(0<=IntKind.wrap .i64 ((n21:Int)+1)/\IntKind.wrap .i64 ((n21:Int)+1)<(n23:Int)/\∃a22,A23=some a22/\∃x29,w18.cell? ((a22.add ((IntKind.wrap .i64 ((n21:Int)+1)).toNat*5)).add 0)=some (iv x29)/\(oM K w18 k7 I4 x10) (decide (x29≠76)))))))))/\(¬(x10<(n19:Int))->(K true w17)))))))))
theorem Uo (p1:Addr) (K:Bool->World->Prop) (w:World) (H:wY p1 K w):Calls P F.mG #[.pointer (some p1)] w (cO fun v w'=>∃b1,v=(.bool b1)/\K b1 w'):=by
 unfold wY at H;refine bT (P:=P) Tryz.func12 rfl [(0,.pointer (some p1))] 240 rfl rfl (fun p hp=>by rcases List.mem_singleton.1 hp with rfl;rfl) (aG (aF (ag rfl (aH (nc (kp 0 rfl zz) (aG (aG (aF (ag rfl (aH (nc (y2 0 3 rfl) (aY ?_))))))))))));obtain⟨I1,⟨k1,hi⟩,H⟩:=H;refine fK (fun k1 a w'=>∃x1,Ok 240 [(0,.pointer (some p1)),(3,iv x1)] a/\I1 k1 x1 w') (fun a ha=>⟨k1,0,ha.weaken cs,hi⟩) ?_;rintro k1 a w1 ⟨x1,ha,hI⟩;replace H:=H k1 x1 w1 hI;refine cu ha ?_;refine aG (aG (aF (mv rfl (mv rfl (nk rfl (fa rfl (TF.sW _ _) ?_))))));obtain⟨A1,n1,c1,h1,H⟩:=H;refine ld rfl (aJ TF.jK h1) (sv rfl rfl (xb rfl (fun _=>bW TF.aCi)) (bo rfl rfl iY (aH (nc (y3 0 3 22 rfl) ?_))));refine bC rfl (fun hb=> ?_) (fun hb=> ?_)
 ·replace H:=H.1 hb;refine aX (nc (y2 0 3 rfl) (aG (aY (aG (aF (mv rfl (nk rfl (fa rfl (TF.tH _ _) ?_))))))));obtain⟨A2,n2,c2,h2,H⟩:=H;refine ld rfl (aJ TF.jK h2) (mv rfl ?_);obtain⟨h3,h4,a1,e1,H⟩:=H;refine ix rfl rfl (aU TF.kY TF.fH e1 h3 h4) ?_;obtain⟨A3,n3,c3,h5,H⟩:=H;refine ld rfl (aJ TF.bM h5) (sv rfl rfl (xb rfl (fun _=>bW TF.bP)) (ag rfl (aH (nc (y3 0 3 4 rfl) (aG (aF (mv rfl (nk rfl (fa rfl (TF.sW _ _) ?_)))))))));obtain⟨A4,n4,c4,h6,H⟩:=H;refine ld rfl (aJ TF.jK h6) (mv rfl ?_);obtain⟨h7,h8,a2,e2,H⟩:=H;refine ix rfl rfl (aU TF.kY TF.fH e2 h7 h8) ?_;obtain⟨A5,n5,c5,h9,H⟩:=H;refine ld rfl (aJ TF.bM h9) (ag rfl (aH (nc (y4 0 3 4 5 rfl) ?_)));refine fA (fun a w=>∃b3,Ok 240 [(0,.pointer (some p1)),(3,iv x1),(66,.bool b3)] a/\jA K k1 I1 x1 b3 w) ?_ ?_
  ·rintro a w6 ⟨b3,ha,H⟩;unfold jA at H;refine cu ha ?_;refine eG rfl (fun hb=> ?_) (fun hb=> ?_)
   ·replace H:=H.1 hb;exact aG (aF (ag rfl (aH (nc (kp 2 rfl zz) (bK (bF (aQ (aQ (bF (aQ (aN (res1 rfl rfl) ⟨_,rfl,_,rfl,H⟩)))))))))))
   ·replace H:=H.2 hb;refine aX (bZ (nc (y2 0 3 rfl) (aF (mv rfl (bo rfl rfl kC (ag rfl (aH ?_)))))));obtain⟨k2,hk,H⟩:=H;exact bD fun a ha=>⟨k2,hk,IntKind.wrap .i64 (x1+1),ha.weaken cs,H⟩
  ·refine bU follows [0,1,2,3,4,5,6,7,8,9,11,12,13,14,15,17,18,19,20,21,22,23,25,26] [6,9] 27 rfl rfl (by kernel_rfl) (fun _ _ d _ _ h=>by cases d<;>exact h) (fun cm W D=> ?_);refine gZ 0 cm rfl rfl D W fun _ D W=>(gZ 1 cm rfl rfl D W fun _ D W=> ?_);obtain⟨h10,h11,H⟩:=H;refine pv 2 cm rfl rfl rfl (fun w' a ha=>Ad (ha.ev rfl) rfl (yP (ha.ev rfl)) rfl (xI TF.aV TF.size_int h10 h11)) D W fun _ D W=>(gZ 3 cm rfl rfl D W fun _ D W=>(Gh 4 cm rfl rfl D W fun _ D W=>(lH 5 cm rfl rfl (TF.tH _ _) D W fun _ D W=> ?_)));obtain⟨A6,n6,c6,h14,H⟩:=H;refine vl 6 cm rfl rfl (fun hw=>(aJ TF.jK ((hw.cell _).trans h14))) D W fun _ D W=>(gZ 7 cm rfl rfl D W fun _ D W=> ?_);obtain⟨h15,h16,a3,e3,H⟩:=H;refine Ie 8 cm rfl rfl rfl (aU TF.kY TF.fH e3 h15 h16) D W fun _ D W=> ?_;obtain⟨A7,n7,c7,h17,H⟩:=H;refine vl 9 cm rfl rfl (fun hw=>(aJ TF.bM ((hw.cell _).trans h17))) D W fun _ D W=>(ar 10 ?_);replace H:=H _ D;refine Vx rfl rfl rfl (aI rfl) (xc rfl rfl FF.mJ) rfl false (by kernel_rfl) H ?_;rintro _ w2 ⟨b2,rfl,H⟩ _ D;refine⟨fun h=>(by cases h),?_⟩;refine Qj 11 cm rfl rfl rfl (fun w' a ha=>aHw (ha.ev rfl) sK) D fun _ D=> ?_;rcases tf (!b2) with hb|hb
   ·replace H:=H.1 hb;refine Qj 12 cm rfl rfl rfl (fun w' a ha=>aGb (iC (ha.ev rfl)) hb) D fun _ D=>(psd 13 cm rfl rfl rfl rfl rfl D fun _ D=>(psd 14 cm rfl rfl rfl rfl rfl D fun _ D=>(psd 15 cm rfl rfl rfl rfl rfl D fun _ D=>(ar 16 (aCr rfl rfl rfl (En rfl rfl rfl rfl) rfl false (by kernel_rfl) ?_)))));intro _ hd;replace D:=D.trans hd;refine⟨fun h=>(by cases h),?_⟩;clear hd;refine psd 17 cm rfl rfl rfl rfl rfl D fun _ D=>(aDp 18 cm rfl rfl rfl D fun _ D=>(aBv 19 cm rfl rfl D fun _ D=>(psd 20 cm rfl rfl rfl rfl rfl D fun _ D=>(psd 21 cm rfl rfl rfl rfl rfl D fun _ D=>(psd 22 cm rfl rfl rfl rfl rfl D fun _ D=>(psd 23 cm rfl rfl rfl rfl rfl D fun _ D=>(ar 24 (aCr rfl rfl rfl (En rfl rfl rfl rfl) rfl false (by kernel_rfl) ?_))))))));intro _ hd;replace D:=D.trans hd;refine⟨fun h=>(by cases h),?_⟩;clear hd;refine psd 25 cm rfl rfl rfl rfl rfl D fun _ D=>(aDp 26 cm rfl rfl rfl D fun _ D=>(dJ (by kernel_rfl) D ?_));intro w5 D;replace H:=H _ D;clear D cm;exact bD fun a ha=>⟨true,ha.weaken cs,H⟩
   ·replace H:=H.2 hb;refine Qj 12 cm rfl rfl rfl (fun w' a ha=>aGk (iC (ha.ev rfl)) hb) D fun _ D=>(aLm 13 cm rfl rfl rfl rfl D fun _ D=>(aLm 14 cm rfl rfl rfl rfl D fun _ D=> ?_));obtain⟨h20,h21,a4,e4,H⟩:=H;refine aQd 15 cm rfl rfl rfl rfl rfl (aU TF.aV TF.size_int e4 h20 h21) D fun _ D=>(ar 16 ?_);obtain⟨x2,h22,H⟩:=H;refine Ap rfl rfl rfl (dW rfl rfl rfl) (fun a ha=>nT (ha.ev rfl) (aJ TF.aP ((D.cell _).trans h22))) rfl false (by kernel_rfl) ?_;intro _ hd;replace D:=D.trans hd;refine⟨fun h=>(by cases h),?_⟩;clear hd;refine aGj 17 cm rfl rfl rfl rfl rfl (fun w' a ha=>fZ (ha.ev rfl) (ha.ev rfl) qR) D fun _ D=>(aCs 18 cm rfl rfl rfl D fun _ D=> ?_);rcases Classical.em (x2≠(-71)) with hb|hb
    ·replace H:=H.1 hb;refine Qj 19 cm rfl rfl rfl (fun w' a ha=>o_t (iC (ha.ev rfl)) hb) D fun _ D=>(psd 20 cm rfl rfl rfl rfl rfl D fun _ D=>(psd 21 cm rfl rfl rfl rfl rfl D fun _ D=>(psd 22 cm rfl rfl rfl rfl rfl D fun _ D=>(psd 23 cm rfl rfl rfl rfl rfl D fun _ D=>(ar 24 (aCr rfl rfl rfl (En rfl rfl rfl rfl) rfl false (by kernel_rfl) ?_))))));intro _ hd;replace D:=D.trans hd;refine⟨fun h=>(by cases h),?_⟩;clear hd;refine psd 25 cm rfl rfl rfl rfl rfl D fun _ D=>(aDp 26 cm rfl rfl rfl D fun _ D=>(dJ (by kernel_rfl) D ?_));intro w7 D;replace H:=H _ D;clear D cm;exact bD fun a ha=>⟨true,ha.weaken cs,H⟩
    ·replace H:=H.2 hb;refine Qj 19 cm rfl rfl rfl (fun w' a ha=>o_f (iC (ha.ev rfl)) hb) D fun _ D=>(aLm 20 cm rfl rfl rfl rfl D fun _ D=>(aLm 21 cm rfl rfl rfl rfl D fun _ D=>(aGj 22 cm rfl rfl rfl rfl rfl (fun w' a ha=>fZ (ha.ev rfl) (ha.ev rfl) kC) D fun _ D=> ?_)));obtain⟨h23,h24,a5,e5,H⟩:=H;refine aQd 23 cm rfl rfl rfl rfl rfl (aU TF.aV TF.size_int e5 h23 h24) D fun _ D=>(ar 24 ?_);obtain⟨x3,h25,H⟩:=H;refine Ap rfl rfl rfl (dW rfl rfl rfl) (fun a ha=>nT (ha.ev rfl) (aJ TF.aP ((D.cell _).trans h25))) rfl false (by kernel_rfl) ?_;intro _ hd;replace D:=D.trans hd;refine⟨fun h=>(by cases h),?_⟩;clear hd;refine aGj 25 cm rfl rfl rfl rfl rfl (fun w' a ha=>fZ (ha.ev rfl) (ha.ev rfl) qR) D fun _ D=>(aCs 26 cm rfl rfl rfl D fun _ D=>(dJ (by kernel_rfl) D ?_));intro w8 D;replace H:=H _ D;clear D cm;exact bD fun a ha=>⟨(decide (x3≠(-72))),ha.weaken cs,H⟩
 ·replace H:=H.2 hb;refine eU (aT (aT (bQ (nc (kp 0 rfl zz) (aG (aG (aF (ag rfl (aH (nc (y2 0 6 rfl) (aY ?_)))))))))));obtain⟨I2,⟨k3,hi⟩,H⟩:=H;refine fK (fun k3 a w'=>∃x4,Ok 240 [(0,.pointer (some p1)),(6,iv x4)] a/\I2 k3 x4 w') (fun a ha=>⟨k3,0,ha.weaken cs,hi⟩) ?_;rintro k3 a w9 ⟨x4,ha,hI⟩;replace H:=H k3 x4 w9 hI;refine cu ha ?_;refine aG (aG (aF (mv rfl (mv rfl (nk rfl (fa rfl (TF.sV _ _) ?_))))));obtain⟨A8,n8,c8,h26,H⟩:=H;refine ld rfl (aJ TF.oU h26) (sv rfl rfl (xb rfl (fun _=>bW TF.Yl)) (bo rfl rfl iY (aH (nc (y3 0 6 73 rfl) ?_))));refine bC rfl (fun hb=> ?_) (fun hb=> ?_)
  ·replace H:=H.1 hb;refine aX (nc (y2 0 6 rfl) (aG (aY (aG (aF (mv rfl (nk rfl (fa rfl (TF.qA _ _) ?_))))))));obtain⟨A9,n9,c9,h27,H⟩:=H;refine ld rfl (aJ TF.oU h27) (mv rfl ?_);obtain⟨h28,h29,a6,e6,H⟩:=H;refine ix rfl rfl (aU TF.yL TF.vJ e6 h28 h29) ?_;obtain⟨A10,n10,c10,h30,H⟩:=H;refine ld rfl (aJ TF.fD h30) (sv rfl rfl (xb rfl (fun _=>bW TF.dS)) (ag rfl (aH (nc (y3 0 6 7 rfl) (aG (aF (mv rfl (nk rfl (fa rfl (TF.sV _ _) ?_)))))))));obtain⟨A11,n11,c11,h31,H⟩:=H;refine ld rfl (aJ TF.oU h31) (mv rfl ?_);obtain⟨h32,h33,a7,e7,H⟩:=H;refine ix rfl rfl (aU TF.yL TF.vJ e7 h32 h33) ?_;obtain⟨A12,n12,c12,h34,H⟩:=H;refine ld rfl (aJ TF.fD h34) (ag rfl (aH (nc (y4 0 6 7 8 rfl) (aG (aG (aF (ag rfl (aH (nc (y5 0 6 7 8 9 rfl) (aY ?_))))))))));obtain⟨I3,⟨k4,hi⟩,H⟩:=H;refine fK (fun k4 a w'=>∃x5,Ok 240 [(0,.pointer (some p1)),(6,iv x4),(7,iv (n10:Int)),(8,.slice A12 n12 c12),(9,iv x5)] a/\I3 k4 x5 w') (fun a ha=>⟨k4,0,ha.weaken cs,hi⟩) ?_;rintro k4 a w10 ⟨x5,ha,hI⟩;replace H:=H k4 x5 w10 hI;refine cu ha ?_;refine aG (aG (aF (mv rfl (mv rfl (bo rfl rfl iY (aH (nc (y6 0 6 7 8 9 93 rfl) ?_)))))));refine bC rfl (fun hb=> ?_) (fun hb=> ?_)
   ·replace H:=H.1 hb;refine aX (nc (y5 0 6 7 8 9 rfl) (aG (aY ?_)));refine fA (fun a w=>∃b4,Ok 240 [(0,.pointer (some p1)),(6,iv x4),(7,iv (n10:Int)),(8,.slice A12 n12 c12),(9,iv x5),(132,.bool b4)] a/\kV K k4 I3 x5 b4 w) ?_ ?_
    ·rintro a w12 ⟨b4,ha,H⟩;unfold kV at H;refine cu ha ?_;refine eG rfl (fun hb=> ?_) (fun hb=> ?_)
     ·replace H:=H.1 hb;exact aG (aF (ag rfl (aH (nc (kp 2 rfl zz) (bK (bF (aQ (aQ (bF (aQ (bF (aQ (aQ (bF (aQ (aN (res1 rfl rfl) ⟨_,rfl,_,rfl,H⟩))))))))))))))))
     ·replace H:=H.2 hb;refine aX (bZ (nc (y5 0 6 7 8 9 rfl) (aF (mv rfl (bo rfl rfl kC (ag rfl (aH ?_)))))));obtain⟨k5,hk,H⟩:=H;exact bD fun a ha=>⟨k5,hk,IntKind.wrap .i64 (x5+1),ha.weaken cs,H⟩
    ·refine bU follows [0,1,2,3,4,5,6,7,8,9,10,11,12,13,14,15,16,17,18,19,20,21,22,23,24,25,26,27,28,29,30,31,32,33,35,36] [4,8,11,15,22,26,29,33] 37 rfl rfl (by kernel_rfl) (fun _ _ d _ _ h=>by cases d<;>exact h) (fun cm W D=> ?_);refine gZ 0 cm rfl rfl D W fun _ D W=>(gZ 1 cm rfl rfl D W fun _ D W=> ?_);obtain⟨h35,h36,a8,e8,H⟩:=H;refine Ie 2 cm rfl rfl rfl (aU TF.dN TF.bY e8 h35 h36) D W fun _ D W=>(lH 3 cm rfl rfl (TF.kU _ _) D W fun _ D W=> ?_);obtain⟨x6,h37,H⟩:=H;refine vl 4 cm rfl rfl (fun hw=>(aJ TF.aP ((hw.cell _).trans h37))) D W fun _ D W=>(gZ 5 cm rfl rfl D W fun _ D W=>(Gh 6 cm rfl rfl D W fun _ D W=>(lH 7 cm rfl rfl (TF.qA _ _) D W fun _ D W=> ?_)));obtain⟨A13,n13,c13,h38,H⟩:=H;refine vl 8 cm rfl rfl (fun hw=>(aJ TF.oU ((hw.cell _).trans h38))) D W fun _ D W=>(gZ 9 cm rfl rfl D W fun _ D W=> ?_);obtain⟨h39,h40,a9,e9,H⟩:=H;refine Ie 10 cm rfl rfl rfl (aU TF.yL TF.vJ e9 h39 h40) D W fun _ D W=> ?_;obtain⟨A14,n14,c14,h41,H⟩:=H;refine vl 11 cm rfl rfl (fun hw=>(aJ TF.fD ((hw.cell _).trans h41))) D W fun _ D W=>(gZ 12 cm rfl rfl D W fun _ D W=> ?_);obtain⟨h42,h43,a10,e10,H⟩:=H;refine Ie 13 cm rfl rfl rfl (aU TF.dN TF.bY e10 h42 h43) D W fun _ D W=>(lH 14 cm rfl rfl (TF.kU _ _) D W fun _ D W=> ?_);obtain⟨x7,h44,H⟩:=H;refine vl 15 cm rfl rfl (fun hw=>(aJ TF.aP ((hw.cell _).trans h44))) D W fun _ D W=>(pv 16 cm rfl rfl rfl (fun w' a ha=>fZ (ha.ev rfl) (ha.ev rfl) qR) D W fun _ D W=> ?_);rcases Classical.em (x6≠x7) with hb|hb
     ·replace H:=H.1 hb;refine pv 17 cm rfl rfl rfl (fun w' a ha=>o_t (iC (ha.ev rfl)) hb) D W fun _ D W=>(ps 18 cm rfl rfl rfl rfl rfl D W fun _ D W=>(ps 19 cm rfl rfl rfl rfl rfl D W fun _ D W=>(ps 20 cm rfl rfl rfl rfl rfl D W fun _ D W=>(ps 21 cm rfl rfl rfl rfl rfl D W fun _ D W=>(ps 22 cm rfl rfl rfl rfl rfl D W fun _ D W=>(ps 23 cm rfl rfl rfl rfl rfl D W fun _ D W=>(ps 24 cm rfl rfl rfl rfl rfl D W fun _ D W=>(ps 25 cm rfl rfl rfl rfl rfl D W fun _ D W=>(ps 26 cm rfl rfl rfl rfl rfl D W fun _ D W=>(ps 27 cm rfl rfl rfl rfl rfl D W fun _ D W=>(ps 28 cm rfl rfl rfl rfl rfl D W fun _ D W=>(ps 29 cm rfl rfl rfl rfl rfl D W fun _ D W=>(ps 30 cm rfl rfl rfl rfl rfl D W fun _ D W=>(ps 31 cm rfl rfl rfl rfl rfl D W fun _ D W=>(ps 32 cm rfl rfl rfl rfl rfl D W fun _ D W=>(ps 33 cm rfl rfl rfl rfl rfl D W fun _ D W=>(ar 34 (aCr rfl rfl rfl (En rfl rfl rfl rfl) rfl false (by kernel_rfl) ?_))))))))))))))))));intro _ hd;replace D:=D.trans hd;refine⟨fun h=>(by cases h),?_⟩;clear hd;refine psd 35 cm rfl rfl rfl rfl rfl D fun _ D=>(aDp 36 cm rfl rfl rfl D fun _ D=>(dJ (by kernel_rfl) D ?_));intro w11 D;replace H:=H _ D;clear D cm;exact bD fun a ha=>⟨true,ha.weaken cs,H⟩
     ·replace H:=H.2 hb;refine pv 17 cm rfl rfl rfl (fun w' a ha=>o_f (iC (ha.ev rfl)) hb) D W fun _ D W=>(zX 18 cm rfl rfl rfl rfl D W fun _ D W=>(zX 19 cm rfl rfl rfl rfl D W fun _ D W=> ?_));obtain⟨h45,h46,a11,e11,H⟩:=H;refine Zk 20 cm rfl rfl rfl rfl rfl (aU TF.dN TF.bY e11 h45 h46) D W fun _ D W=>(Ti 21 cm rfl rfl rfl rfl (TF.fF _ _) D W fun _ D W=> ?_);obtain⟨A15,n15,c15,h47,H⟩:=H;refine vlg 22 cm rfl rfl rfl rfl (fun hw=>(aJ TF.bM ((hw.cell _).trans h47))) D W fun _ D W=>(zX 23 cm rfl rfl rfl rfl D W fun _ D W=>(aPk 24 cm rfl rfl rfl rfl D W fun _ D W=>(Ti 25 cm rfl rfl rfl rfl (TF.qA _ _) D W fun _ D W=> ?_)));obtain⟨A16,n16,c16,h48,H⟩:=H;refine vlg 26 cm rfl rfl rfl rfl (fun hw=>(aJ TF.oU ((hw.cell _).trans h48))) D W fun _ D W=>(zX 27 cm rfl rfl rfl rfl D W fun _ D W=> ?_);obtain⟨h49,h50,a12,e12,H⟩:=H;refine Zk 28 cm rfl rfl rfl rfl rfl (aU TF.yL TF.vJ e12 h49 h50) D W fun _ D W=> ?_;obtain⟨A17,n17,c17,h51,H⟩:=H;refine vlg 29 cm rfl rfl rfl rfl (fun hw=>(aJ TF.fD ((hw.cell _).trans h51))) D W fun _ D W=>(zX 30 cm rfl rfl rfl rfl D W fun _ D W=> ?_);obtain⟨h52,h53,a13,e13,H⟩:=H;refine Zk 31 cm rfl rfl rfl rfl rfl (aU TF.dN TF.bY e13 h52 h53) D W fun _ D W=>(Ti 32 cm rfl rfl rfl rfl (TF.fF _ _) D W fun _ D W=> ?_);obtain⟨A18,n18,c18,h54,H⟩:=H;refine vlg 33 cm rfl rfl rfl rfl (fun hw=>(aJ TF.bM ((hw.cell _).trans h54))) D W fun _ D W=>(ar 34 ?_);replace H:=H _ D;refine Vx rfl rfl rfl (dW rfl rfl rfl) (xc rfl rfl FF.mJ) rfl false (by kernel_rfl) H ?_;rintro _ w13 ⟨b5,rfl,H⟩ _ D;refine⟨fun h=>(by cases h),?_⟩;refine aGj 35 cm rfl rfl rfl rfl rfl (fun w' a ha=>aHw (ha.ev rfl) sK) D fun _ D=>(aCs 36 cm rfl rfl rfl D fun _ D=>(dJ (by kernel_rfl) D ?_));intro w16 D;replace H:=H _ D;clear D cm;exact bD fun a ha=>⟨(!b5),ha.weaken cs,H⟩
   ·replace H:=H.2 hb;refine eU (aT (aT (bQ (nc (y4 0 6 7 8 rfl) ?_))));refine fM (fun a=>∃b6,Ok 240 [(0,.pointer (some p1)),(6,iv x4),(147,.bool b6)] a/\oL K w10 k3 I2 x4 b6) ?_ ?_
    ·rintro a ⟨b6,ha,H⟩;unfold oL at H;refine cu ha ?_;refine eG rfl (fun hb=> ?_) (fun hb=> ?_)
     ·replace H:=H.1 hb;exact aG (aF (ag rfl (aH (nc (kp 2 rfl zz) (bK (bF (aQ (aQ (bF (aQ (aN (res1 rfl rfl) ⟨_,rfl,_,rfl,H⟩)))))))))))
     ·replace H:=H.2 hb;refine aX (bZ (nc (y2 0 6 rfl) (aF (mv rfl (bo rfl rfl kC (ag rfl (aH ?_)))))));obtain⟨k6,hk,H⟩:=H;exact bD fun a ha=>⟨k6,hk,IntKind.wrap .i64 (x4+1),ha.weaken cs,H⟩
    ·refine aF (mv rfl (mv rfl ?_));obtain⟨h57,h58,a14,e14,H⟩:=H;refine ix rfl rfl (aU TF.dN TF.bY e14 h57 h58) (fa rfl (TF.kU _ _) ?_);obtain⟨x8,h59,H⟩:=H;refine ld rfl (aJ TF.aP h59) (bo rfl rfl qR ?_);rcases Classical.em (x8≠73) with hb|hb
     ·replace H:=H.1 hb;exact sv rfl rfl (xt rfl hb) (sk rfl rfl rfl rfl (sk rfl rfl rfl rfl (sk rfl rfl rfl rfl (sk rfl rfl rfl rfl (sk rfl rfl rfl rfl (sk rfl rfl rfl rfl (sk rfl rfl rfl rfl (pt rfl rfl (aH (bD fun a ha=>⟨⟨true,ha.weaken cs,H⟩,rfl⟩))))))))))
     ·replace H:=H.2 hb;refine sv rfl rfl (xf rfl hb) (Bv rfl rfl rfl (Bv rfl rfl rfl (Qh rfl rfl rfl rfl kC ?_)));obtain⟨h60,h61,a15,e15,H⟩:=H;refine ixg rfl rfl rfl rfl (aU TF.dN TF.bY e15 h60 h61) (Zu rfl rfl rfl (TF.kU _ _) ?_);obtain⟨x9,h62,H⟩:=H;exact Qo rfl rfl rfl (aJ TF.aP h62) (Qh rfl rfl rfl rfl qR (pf rfl rfl (aH (bD fun a ha=>⟨⟨(decide (x9≠74)),ha.weaken cs,H⟩,rfl⟩))))
  ·replace H:=H.2 hb;refine eU (aT (aT (bQ (nc (kp 0 rfl zz) (aG (aG (aF (ag rfl (aH (nc (y2 0 10 rfl) (aY ?_)))))))))));obtain⟨I4,⟨k7,hi⟩,H⟩:=H;refine fK (fun k7 a w'=>∃x10,Ok 240 [(0,.pointer (some p1)),(10,iv x10)] a/\I4 k7 x10 w') (fun a ha=>⟨k7,0,ha.weaken cs,hi⟩) ?_;rintro k7 a w17 ⟨x10,ha,hI⟩;replace H:=H k7 x10 w17 hI;refine cu ha ?_;refine aG (aG (aF (mv rfl (mv rfl (nk rfl (fa rfl (TF.Je _ _) ?_))))));obtain⟨A19,n19,c19,h63,H⟩:=H;refine ld rfl (aJ TF.zT h63) (sv rfl rfl (xb rfl (fun _=>bW TF.Xu)) (bo rfl rfl iY (aH (nc (y3 0 10 154 rfl) ?_))));refine bC rfl (fun hb=> ?_) (fun hb=> ?_)
   ·replace H:=H.1 hb;refine aX (nc (y2 0 10 rfl) (aG (aY (aG (aF (mv rfl (nk rfl (fa rfl (TF.Jd _ _) ?_))))))));obtain⟨A20,n20,c20,h64,H⟩:=H;refine ld rfl (aJ TF.zT h64) (mv rfl ?_);obtain⟨h65,h66,a16,e16,H⟩:=H;refine ix rfl rfl (aU TF.Gu TF.Ez e16 h65 h66) ?_;obtain⟨A21,n21,c21,h67,H⟩:=H;refine ld rfl (aJ TF.lZ h67) (sv rfl rfl (xb rfl (fun _=>bW TF.lD)) (ag rfl (aH (nc (y3 0 10 11 rfl) (aG (aF (mv rfl (nk rfl (fa rfl (TF.Je _ _) ?_)))))))));obtain⟨A22,n22,c22,h68,H⟩:=H;refine ld rfl (aJ TF.zT h68) (mv rfl ?_);obtain⟨h69,h70,a17,e17,H⟩:=H;refine ix rfl rfl (aU TF.Gu TF.Ez e17 h69 h70) ?_;obtain⟨A23,n23,c23,h71,H⟩:=H;refine ld rfl (aJ TF.lZ h71) (ag rfl (aH (nc (y4 0 10 11 12 rfl) (aG (aG (aF (ag rfl (aH (nc (y5 0 10 11 12 13 rfl) (aY ?_))))))))));obtain⟨I5,⟨k8,hi⟩,H⟩:=H;refine fK (fun k8 a w'=>∃x11,Ok 240 [(0,.pointer (some p1)),(10,iv x10),(11,iv (n21:Int)),(12,.slice A23 n23 c23),(13,iv x11)] a/\I5 k8 x11 w') (fun a ha=>⟨k8,0,ha.weaken cs,hi⟩) ?_;rintro k8 a w18 ⟨x11,ha,hI⟩;replace H:=H k8 x11 w18 hI;refine cu ha ?_;refine aG (aG (aF (mv rfl (mv rfl (bo rfl rfl iY (aH (nc (y6 0 10 11 12 13 174 rfl) ?_)))))));refine bC rfl (fun hb=> ?_) (fun hb=> ?_)
    ·replace H:=H.1 hb;refine aX (nc (y5 0 10 11 12 13 rfl) (aG (aY (aG (aF (mv rfl (mv rfl ?_)))))));obtain⟨h72,h73,a18,e18,H⟩:=H;refine ix rfl rfl (aU TF.eX TF.dP e18 h72 h73) ?_;obtain⟨x12,x13,x14,x15,A24,n24,c24,h74,H⟩:=H;refine ld rfl (gW (vs:=[iv x12,iv x13,iv x14,iv x15,.slice A24 n24 c24]) TF.Ey TF.dP h74) (iP (f:=(fun p=> .pointer (some p))) rfl rfl (aI rfl) (fun a ha=>mV (nC TF.Ol)) ?_);intro p2 w19 hN;obtain⟨h76,H⟩:=H _ _ hN;refine oO rfl (aI rfl) (xs rfl rfl (kN TF.dP (by simp[Value.oneCell']) h76)) ?_;intro w20 hw;replace H:=H _ hw;clear hw;refine aH (nc (y6 0 10 11 12 13 14 rfl) (aG (aF (mv rfl (nk rfl (fa rfl (TF.Jd _ _) ?_))))));obtain⟨A25,n25,c25,h77,H⟩:=H;refine ld rfl (aJ TF.zT h77) (mv rfl ?_);obtain⟨h78,h79,a19,e19,H⟩:=H;refine ix rfl rfl (aU TF.Gu TF.Ez e19 h78 h79) ?_;obtain⟨A26,n26,c26,h80,H⟩:=H;refine ld rfl (aJ TF.lZ h80) (mv rfl ?_);obtain⟨h81,h82,a20,e20,H⟩:=H;refine ix rfl rfl (aU TF.eX TF.dP e20 h81 h82) ?_;obtain⟨x16,x17,x18,x19,A27,n27,c27,h83,H⟩:=H;refine ld rfl (gW (vs:=[iv x16,iv x17,iv x18,iv x19,.slice A27 n27 c27]) TF.Ey TF.dP h83) (iP (f:=(fun p=> .pointer (some p))) rfl rfl (aI rfl) (fun a ha=>mV (nC TF.Ol)) ?_);intro p3 w21 hN;obtain⟨h85,H⟩:=H _ _ hN;refine oO rfl (aI rfl) (xs rfl rfl (kN TF.dP (by simp[Value.oneCell']) h85)) ?_;intro w22 hw;replace H:=H _ hw;clear hw;refine aH (nc (y7 0 10 11 12 13 14 15 rfl) ?_);refine fA (fun a w=>∃b7,Ok 240 [(0,.pointer (some p1)),(10,iv x10),(11,iv (n21:Int)),(12,.slice A23 n23 c23),(13,iv x11),(224,.bool b7)] a/\gJ K k8 I5 x11 b7 w) ?_ ?_
     ·rintro a w23 ⟨b7,ha,H⟩;unfold gJ at H;refine cu ha ?_;refine eG rfl (fun hb=> ?_) (fun hb=> ?_)
      ·replace H:=H.1 hb;exact aG (aF (ag rfl (aH (nc (kp 2 rfl zz) (bK (bF (aQ (aQ (bF (aQ (bF (aQ (aQ (bF (aQ (aN (res1 rfl rfl) ⟨_,rfl,_,rfl,H⟩))))))))))))))))
      ·replace H:=H.2 hb;refine aX (bZ (nc (y5 0 10 11 12 13 rfl) (aF (mv rfl (bo rfl rfl kC (ag rfl (aH ?_)))))));obtain⟨k9,hk,H⟩:=H;exact bD fun a ha=>⟨k9,hk,IntKind.wrap .i64 (x11+1),ha.weaken cs,H⟩
     ·refine aF (fa rfl (TF.wI _ _) ?_);obtain⟨x20,h86,H⟩:=H;refine ld rfl (aJ TF.aP h86) (fa rfl (TF.wI _ _) ?_);obtain⟨x21,h87,H⟩:=H;refine ld rfl (aJ TF.aP h87) (bo rfl rfl qR ?_);rcases Classical.em (x20≠x21) with hb|hb
      ·replace H:=H.1 hb;exact sv rfl rfl (xt rfl hb) (sk rfl rfl rfl rfl (sk rfl rfl rfl rfl (sk rfl rfl rfl rfl (sk rfl rfl rfl rfl (sk rfl rfl rfl rfl (pt rfl rfl (mv rfl (sk rfl rfl rfl rfl (sk rfl rfl rfl rfl (sk rfl rfl rfl rfl (sk rfl rfl rfl rfl (sk rfl rfl rfl rfl (pt rfl rfl (mv rfl (sk rfl rfl rfl rfl (sk rfl rfl rfl rfl (sk rfl rfl rfl rfl (sk rfl rfl rfl rfl (sk rfl rfl rfl rfl (pt rfl rfl (mv rfl (sk rfl rfl rfl rfl (sk rfl rfl rfl rfl (sk rfl rfl rfl rfl (sk rfl rfl rfl rfl (sk rfl rfl rfl rfl (sk rfl rfl rfl rfl (pt rfl rfl (aH (bD fun a ha=>⟨true,ha.weaken cs,H⟩))))))))))))))))))))))))))))))
      ·replace H:=H.2 hb;refine sv rfl rfl (xf rfl hb) (Zu rfl rfl rfl (TF.jH _ _) ?_);obtain⟨x22,h88,H⟩:=H;refine Qo rfl rfl rfl (aJ TF.aP h88) (Zu rfl rfl rfl (TF.jH _ _) ?_);obtain⟨x23,h89,H⟩:=H;refine Qo rfl rfl rfl (aJ TF.aP h89) (Qh rfl rfl rfl rfl qR (pf rfl rfl ?_));rcases Classical.em (x22≠x23) with hb|hb
       ·replace H:=H.1 hb;exact sv rfl rfl (xt rfl hb) (sk rfl rfl rfl rfl (sk rfl rfl rfl rfl (sk rfl rfl rfl rfl (sk rfl rfl rfl rfl (sk rfl rfl rfl rfl (pt rfl rfl (mv rfl (sk rfl rfl rfl rfl (sk rfl rfl rfl rfl (sk rfl rfl rfl rfl (sk rfl rfl rfl rfl (sk rfl rfl rfl rfl (pt rfl rfl (mv rfl (sk rfl rfl rfl rfl (sk rfl rfl rfl rfl (sk rfl rfl rfl rfl (sk rfl rfl rfl rfl (sk rfl rfl rfl rfl (sk rfl rfl rfl rfl (pt rfl rfl (aH (bD fun a ha=>⟨true,ha.weaken cs,H⟩)))))))))))))))))))))))
       ·replace H:=H.2 hb;refine sv rfl rfl (xf rfl hb) (Zu rfl rfl rfl (TF.jI _ _) ?_);obtain⟨x24,h90,H⟩:=H;refine Qo rfl rfl rfl (aJ TF.aP h90) (Zu rfl rfl rfl (TF.jI _ _) ?_);obtain⟨x25,h91,H⟩:=H;refine Qo rfl rfl rfl (aJ TF.aP h91) (Qh rfl rfl rfl rfl qR (pf rfl rfl ?_));rcases Classical.em (x24≠x25) with hb|hb
        ·replace H:=H.1 hb;exact sv rfl rfl (xt rfl hb) (sk rfl rfl rfl rfl (sk rfl rfl rfl rfl (sk rfl rfl rfl rfl (sk rfl rfl rfl rfl (sk rfl rfl rfl rfl (pt rfl rfl (mv rfl (sk rfl rfl rfl rfl (sk rfl rfl rfl rfl (sk rfl rfl rfl rfl (sk rfl rfl rfl rfl (sk rfl rfl rfl rfl (sk rfl rfl rfl rfl (pt rfl rfl (aH (bD fun a ha=>⟨true,ha.weaken cs,H⟩))))))))))))))))
        ·replace H:=H.2 hb;refine sv rfl rfl (xf rfl hb) (Zu rfl rfl rfl (TF.Eg _ _) ?_);obtain⟨x26,h92,H⟩:=H;refine Qo rfl rfl rfl (aJ TF.aP h92) (Zu rfl rfl rfl (TF.Eg _ _) ?_);obtain⟨x27,h93,H⟩:=H;refine Qo rfl rfl rfl (aJ TF.aP h93) (Qh rfl rfl rfl rfl qR (pf rfl rfl ?_));rcases Classical.em (x26≠x27) with hb|hb
         ·replace H:=H.1 hb;exact sv rfl rfl (xt rfl hb) (sk rfl rfl rfl rfl (sk rfl rfl rfl rfl (sk rfl rfl rfl rfl (sk rfl rfl rfl rfl (sk rfl rfl rfl rfl (sk rfl rfl rfl rfl (pt rfl rfl (aH (bD fun a ha=>⟨true,ha.weaken cs,H⟩)))))))))
         ·replace H:=H.2 hb;refine sv rfl rfl (xf rfl hb) (Zu rfl rfl rfl (TF.jZ _ _) ?_);obtain⟨A28,n28,c28,h94,H⟩:=H;refine Qo rfl rfl rfl (aJ TF.bM h94) (Zu rfl rfl rfl (TF.jZ _ _) ?_);obtain⟨A29,n29,c29,h95,H⟩:=H;refine Qo rfl rfl rfl (aJ TF.bM h95) (Eu rfl rfl (dW rfl rfl rfl) (xc rfl rfl FF.mJ) H ?_);rintro _ w24 ⟨b8,rfl,H⟩;exact svg rfl rfl rfl rfl (xu rfl sK) (pf rfl rfl (aH (bD fun a ha=>⟨(!b8),ha.weaken cs,H⟩)))
    ·replace H:=H.2 hb;refine eU (aT (aT (bQ (nc (y4 0 10 11 12 rfl) ?_))));refine fM (fun a=>∃b9,Ok 240 [(0,.pointer (some p1)),(10,iv x10),(239,.bool b9)] a/\oM K w18 k7 I4 x10 b9) ?_ ?_
     ·rintro a ⟨b9,ha,H⟩;unfold oM at H;refine cu ha ?_;refine eG rfl (fun hb=> ?_) (fun hb=> ?_)
      ·replace H:=H.1 hb;exact aG (aF (ag rfl (aH (nc (kp 2 rfl zz) (bK (bF (aQ (aQ (bF (aQ (aN (res1 rfl rfl) ⟨_,rfl,_,rfl,H⟩)))))))))))
      ·replace H:=H.2 hb;refine aX (bZ (nc (y2 0 10 rfl) (aF (mv rfl (bo rfl rfl kC (ag rfl (aH ?_)))))));obtain⟨k10,hk,H⟩:=H;exact bD fun a ha=>⟨k10,hk,IntKind.wrap .i64 (x10+1),ha.weaken cs,H⟩
     ·refine aF (mv rfl (mv rfl ?_));obtain⟨h96,h97,a21,e21,H⟩:=H;refine ix rfl rfl (aU TF.eX TF.dP e21 h96 h97) (fa rfl (TF.wI _ _) ?_);obtain⟨x28,h98,H⟩:=H;refine ld rfl (aJ TF.aP h98) (bo rfl rfl qR ?_);rcases Classical.em (x28≠75) with hb|hb
      ·replace H:=H.1 hb;exact sv rfl rfl (xt rfl hb) (sk rfl rfl rfl rfl (sk rfl rfl rfl rfl (sk rfl rfl rfl rfl (sk rfl rfl rfl rfl (sk rfl rfl rfl rfl (sk rfl rfl rfl rfl (sk rfl rfl rfl rfl (pt rfl rfl (aH (bD fun a ha=>⟨⟨true,ha.weaken cs,H⟩,rfl⟩))))))))))
      ·replace H:=H.2 hb;refine sv rfl rfl (xf rfl hb) (Bv rfl rfl rfl (Bv rfl rfl rfl (Qh rfl rfl rfl rfl kC ?_)));obtain⟨h99,h100,a22,e22,H⟩:=H;refine ixg rfl rfl rfl rfl (aU TF.eX TF.dP e22 h99 h100) (Zu rfl rfl rfl (TF.wI _ _) ?_);obtain⟨x29,h101,H⟩:=H;exact Qo rfl rfl rfl (aJ TF.aP h101) (Qh rfl rfl rfl rfl qR (pf rfl rfl (aH (bD fun a ha=>⟨⟨(decide (x29≠76)),ha.weaken cs,H⟩,rfl⟩))))
   ·replace H:=H.2 hb;exact eU (aT (aT (bQ (nc zz (aG (aF (ag rfl (aH (nc (kp 2 rfl zz) (bK (aN (res1 rfl rfl) ⟨_,rfl,_,rfl,H⟩)))))))))))
def Sz (x1:Int) (K:Int->World->Prop) (w:World):Prop:=
 K x1 w
theorem aB3 (x1:Int) (K:Int->World->Prop) (w:World) (H:Sz x1 K w):Calls P F.jT #[iv x1] w (cO fun v w'=>∃x2,v=(iv x2)/\K x2 w'):=by
 unfold Sz at H;exact bT (P:=P) Tryz.func11 rfl [(0,iv x1)] 4 rfl rfl (fun p hp=>by rcases List.mem_singleton.1 hp with rfl;rfl) (aG (aF (ag rfl (aH (nc (kp 0 rfl zz) (aG (aF (mv rfl (ag rfl (aH (nc (kp 2 rfl zz) (bK (aN (res1 rfl rfl) ⟨_,rfl,_,rfl,H⟩)))))))))))))
def hty (k:Nat):TypeId:=if k<2 then T.bH else if k<4 then T.fB else T.kK
def aRv (w:World) (x y:Value):Prop:=∃A n c B d xs,x= .slice A (n+2) c/\y= .slice B n d/\Sm n/\n+2<=c/\Ints w A (n+2) (xs++[-71,-72])/\Ints w B n xs
def aRa (w:World) (x y:Value):Prop:=∃A n c B d xs,x= .slice A (n+2) c/\y= .slice B n d/\Sm n/\Sl mO w A (n+2) (xs++[⟨73,[]⟩,⟨74,[]⟩])/\Sl mO w B n xs
def aQu (w:World) (x y:Value):Prop:=∃A n c B d xs,x= .slice A (n+2) c/\y= .slice B n d/\Sm n/\Sl Ef w A (n+2) (xs++[⟨75,0,0,0,[]⟩,⟨76,0,0,0,[]⟩])/\Sl Ef w B n xs
def Uc (E:World->Value->Value->Prop) (H:Nat->Prop) (w:World) (us vs:List Value):Prop:=us.length=vs.length/\∀(i:Nat) x y,us[i]? =some x->vs[i]? =some y->St H w fun w=>E w x y
theorem Uc.iI {E:World->Value->Value->Prop} {H H':Nat->Prop} {w w':World} {us vs:List Value} (h:Uc E H w us vs) (k:dU H w H' w'):Uc E H' w' us vs:=⟨h.1,fun i x y hx hy=>(h.2 i x y hx hy).iI k⟩
theorem Uc.snoc {E:World->Value->Value->Prop} {H:Nat->Prop} {w:World} {us vs:List Value} {x y:Value} (h:Uc E H w us vs) (k:St H w fun w=>E w x y):Uc E H w (us++[x]) (vs++[y]):=by
 refine⟨by simp[h.1],fun i x' y' hx hy=> ?_⟩
 rcases Nat.lt_or_ge i us.length with hi|hi
 ·rw[List.getElem?_append_left hi] at hx
  rw[List.getElem?_append_left (by rw[<-h.1];exact hi)] at hy
  exact h.2 i x' y' hx hy
 ·rw[List.getElem?_append_right hi] at hx
  rw[List.getElem?_append_right (by rw[<-h.1];exact hi),<-h.1] at hy
  cases hq:i-us.length with
  |zero=>rw[hq] at hx hy;simp at hx hy;subst hx hy;exact k
  |succ j=>rw[hq] at hx;simp at hx
structure Qr (W0 w:World) (p:Addr) (A:Nat->Option Addr) (n c:Nat->Nat) (vs:Nat->List Value) (H:Nat->Prop):Prop where
 rws:Rws 6 hty W0 w p A n c vs
 sub:∀b,HX 6 p A b->H b
 lo:∀b,H b->W0.heap.size<=b/\b<w.heap.size
 nums:Uc aRv H w (vs 0) (vs 1)
 flats:Uc aRa H w (vs 2) (vs 3)
 links:Uc aQu H w (vs 4) (vs 5)
section
variable {W0 w w':World} {p:Addr} {A:Nat->Option Addr} {n c:Nat->Nat} {vs:Nat->List Value} {H:Nat->Prop}
theorem Qr.stay (h:Qr W0 w p A n c vs H) (k:Ext w w'):Qr W0 w' p A n c vs H:=
 ⟨h.rws.stay (by decide) k,h.sub,fun b hb=>⟨(h.lo b hb).1,Nat.lt_of_lt_of_le (h.lo b hb).2 k.size⟩,h.nums.iI (dU.iL k),h.flats.iI (dU.iL k),h.links.iI (dU.iL k)⟩
theorem Qr.step {X H':Nat->Prop} (h:Qr W0 w p A n c vs H) (k:Keep X w w') (hX:∀b,b<w.heap.size->X b->H b/\¬HX 6 p A b) (g:dU H w H' w') (sub:∀b,HX 6 p A b->H' b) (lo:∀b,H' b->W0.heap.size<=b/\b<w'.heap.size):Qr W0 w' p A n c vs H':=by
 have k':Keep (fun b=>X b/\b<w.heap.size) w w':=k.mono fun i hi hx=>⟨hx,hi⟩
 exact⟨h.rws.keep (by decide) k' (fun i hi hx=>(hX i hx.2 hx.1).2 hi) (fun i hi hx=>by have:=(h.lo i (hX i hx.2 hx.1).1).1;omega),sub,lo,h.nums.iI g,h.flats.iI g,h.links.iI g⟩
theorem Qr.old (h:Qr W0 w p A n c vs H) {φ:World->Prop} (hφ:∀w',Ext W0 w'->φ w'):St H w φ:=fun w' hw=>hφ w' (h.rws.ext.over hw fun i hi hx=>by have:=(h.lo i hx).1;omega)
theorem aQ6:iV P T.nO=some (hty 0):=by kernel_rfl
theorem aQa:iV P T.lN=some (hty 2):=by kernel_rfl
theorem iSl (k:Nat):wP P (hty k)=some (1,24,1):=by
 unfold hty
 split
 ·kernel_rfl
 ·split
  ·kernel_rfl
  ·kernel_rfl
theorem aRq:wP P T.int=some (1,8,1):=by kernel_rfl
theorem aQn:wP P T.fJ=some (2,32,2):=by kernel_rfl
theorem eInt:iV P T.bH=some T.int:=by kernel_rfl
theorem aQb:iV P T.fB=some T.fJ:=by kernel_rfl
theorem aDc {wS:World} {e:TypeId} {s:Nat} {B:Option Addr} {m d:Nat} {us:List Value} (h:Qr W0 wS p A n c vs H) (hO:Own w wS.heap.size e s B m d us):∀b,At B b->¬H b:=fun b hb k=>by
 have:=(h.lo b k).2
 have:=(hO.at hb).1
 omega
theorem Qr.aQm {w6:World} (h6:Qr W0 w6 p A n c vs H) {k:Nat} (hk:k+1<6) {t T5 T6:TypeId} (ht:iV P t=some (hty k)) (ht':hty (k+1)=hty k) {x y:Value} (hx:x.oneCell'=true) (hy:y.oneCell'=true) (hn:n k+1<=1099511627776) (hn1:n (k+1)+1<=1099511627776)
  {p5:Addr} {w7:World} (hN7:New w6 (.cells #[x] T5) p5 w7):
  ∃A1 c1 w8,(Builtin.append_ #[t,t] t #[.slice (A k) (n k) (c k),.slice (some p5) 1 1]).run P w7= .ok (.slice A1 (n k+1) c1) w8/\(∃u,w8.cell? (p.add k)=some u)/\w8.frozen? (p.add k)=false/\
   ∀w9,w9=w8.setCell (p.add k) (.slice A1 (n k+1) c1)->w9.cell? (p.add (k+1))=some (.slice (A (k+1)) (n (k+1)) (c (k+1)))/\
   ∀(p6:Addr) (w10:World),New w9 (.cells #[y] T6) p6 w10->∃A2 c2 w11,(Builtin.append_ #[t,t] t #[.slice (A (k+1)) (n (k+1)) (c (k+1)),.slice (some p6) 1 1]).run P w10= .ok (.slice A2 (n (k+1)+1) c2) w11/\(∃u,w11.cell? (p.add (k+1))=some u)/\w11.frozen? (p.add (k+1))=false/\
   ∀w12,w12=w11.setCell (p.add (k+1)) (.slice A2 (n (k+1)+1) c2)->∃A' c' vs' H',Rws 6 hty W0 w12 p A' (upd (upd n k (n k+1)) (k+1) (n (k+1)+1)) c' vs'/\(∀b,HX 6 p A' b->H' b)/\(∀b,H b->H' b)/\(∀b,H' b->W0.heap.size<=b/\b<w12.heap.size)/\Keep (HX 6 p A) w6 w12/\(∀b,b<w6.heap.size->HX 6 p A' b->HX 6 p A b)/\dU H w6 H' w12/\
    vs' k=vs k++[x]/\vs' (k+1)=vs (k+1)++[y]/\∀j,j≠k->j≠k+1->vs' j=vs j:=by
 obtain⟨A1,c1,w8,hr1,hs1,hz1,hpush⟩:=h6.rws.push (k:=k) (by omega) ht (iSl k) (by decide) hx (by omega) hN7 (c2:=1)
 refine⟨A1,c1,w8,hr1,hs1,hz1,fun w9 hw9=> ?_⟩
 obtain⟨r9,adv9⟩:=hpush w9 hw9
 refine⟨by simpa [upd] using r9.cell (k+1) hk,fun p6 w10 hN10=> ?_⟩
 obtain⟨A2,c2,w11,hr2,hs2,hz2,hpush2⟩:=r9.push (k:=k+1) hk (by rw[ht'];exact ht) (iSl (k+1)) (by decide) hy (by simp[upd];omega) hN10 (c2:=1)
 simp only[upd_ne _ _ (show k+1≠k by omega)] at hr2 hs2 hz2 hpush2
 refine⟨A2,c2,w11,hr2,hs2,hz2,fun w12 hw12=> ?_⟩
 obtain⟨r12,adv12⟩:=hpush2 w12 hw12
 have iI:=adv9.trans adv12
 refine⟨_,_,_,fun b=>H b\/HX 6 p (upd (upd A k A1) (k+1) A2) b,r12,fun b hb=> .inr hb,fun b hb=> .inl hb,?_,iI.keep,iI.grow,iI.wide fun i _ hi=>h6.sub i hi,?_,?_,fun j h1 h2=> ?_⟩
 ·rintro b (hb|hb)
  ·exact⟨(h6.lo b hb).1,Nat.lt_of_lt_of_le (h6.lo b hb).2 iI.keep.size⟩
  ·exact r12.hx (by decide) b hb
 ·simp[upd]
 ·simp[upd]
 ·simp[upd,h1,h2]
theorem aH0 {xs:List Int} {B:Option Addr} {m:Nat} (d:Nat) (h:Qr W0 w p A n c vs H) (hx:∀w',Ext W0 w'->Ints w' B m xs) (hm:Sm m) (hn:n 0+1<=1099511627776) (hn1:n 1+1<=1099511627776):
  Calls P F.uU #[.pointer (some p),.slice B m d] w (cO fun v w'=>∃C e A' c' vs' H',v= .slice C m e/\Qr W0 w' p A' (upd (upd n 0 (n 0+1)) 1 (n 1+1)) c' vs' H'/\(∀b,H b->H' b)/\Keep (HX 6 p A) w w'/\(∀b,b<w.heap.size->HX 6 p A' b->HX 6 p A b)/\dU H w H' w'/\m<=e/\St H' w' (fun w=>Ints w C m xs)):=by
 refine cO.mono (Uy p B m d (fun C k e w'=>k=m/\∃A' c' vs' H',Qr W0 w' p A' (upd (upd n 0 (n 0+1)) 1 (n 1+1)) c' vs' H'/\(∀b,H b->H' b)/\Keep (HX 6 p A) w w'/\(∀b,b<w.heap.size->HX 6 p A' b->HX 6 p A b)/\dU H w H' w'/\m<=e/\St H' w' (fun w=>Ints w C m xs)) w ?_)
  (by rintro _ w' ⟨C,k,e,rfl,rfl,A',c',vs',H',h⟩;exact⟨C,e,A',c',vs',H',rfl,h⟩)
 unfold wX
 intro p2 w1 hN
 have hxw:=(hx w h.rws.ext)
 have hl:=hxw.1
 have hm':=hm
 unfold Sm at hm'
 refine⟨fun q C k e i w2=>q=m-i.toNat/\i=k/\k<=m/\Ext w w2/\Own w2 w.heap.size T.int 1 C k e ((xs.take k).map (.int .i64)),⟨m,by simp,rfl,by omega,Ext.eY hN,by simpa using Own.new hN⟩,?_⟩
 rintro q C k e i w2 ⟨rfl,rfl,hle,E2,hO⟩
 refine⟨fun hlt=> ?_,fun hge=> ?_⟩
 ·obtain⟨x,a1,hxi,hA,hc⟩:=(hxw.ext E2).int (i:=k) (by omega) hlt
  refine⟨by omega,hlt,a1,hA,x,hc,fun p3 w3 hN3=> ?_⟩
  have E3:=E2.new hN3
  obtain⟨C',e',w4,hr,hO4,hK,_⟩:=(hO.keep (Ext.eY hN3) (fun _ _ h=>h)).append (m:=1) (c2:=1) (ty:=T.bH) eInt aRq (by decide) (by decide) (by decide) (news:=[iv x]) rfl (hN3.cells rfl) (by intro u hu;simp at hu;subst hu;rfl) (by omega) E3.size
  refine⟨C',k+1,e',w4,hr,m-(k+1),by omega,?_⟩
  rw[wrap_small (by omega) (by omega)]
  refine⟨by omega,by omega,by omega,E3.over hK (fun b hb hA=>by have:=((hO.keep (Ext.eY hN3) (fun _ _ h=>h)).at hA).1;omega),?_⟩
  rw[List.take_add_one,show xs[k]? =some x by simpa using hxi]
  simpa using hO4
 ·have hk:k=m:=by omega
  subst hk
  intro p4 w5 hN5
  have E5:=E2.new hN5
  have hO5:=hO.keep (Ext.eY hN5) (fun _ _ h=>h)
  obtain⟨C',e',w6,hr,hO6,hK,_⟩:=hO5.append (m:=2) (c2:=2) (ty:=T.bH) eInt aRq (by decide) (by decide) (by decide) (news:=[iv (-71),iv (-72)]) rfl (hN5.cells rfl) (by intro u hu;simp at hu;rcases hu with rfl|rfl<;>rfl) (by omega) E5.size
  have E6:Ext w w6:=E5.over hK (fun b hb hA=>by have:=(hO5.at hA).1;omega)
  rw[List.take_of_length_le (by omega)] at hO6
  have hO6:Own w6 w.heap.size T.int 1 C' (k+2) e' ((xs++[-71,-72]).map (.int .i64)):=by simpa using hO6
  have h6:=h.stay E6
  refine⟨C',k+2,e',w6,hr,A 0,n 0,c 0,h6.rws.cell 0 (by decide),fun p5 w7 hN7=> ?_⟩
  obtain⟨A1,c1,w8,hr1,hs1,hz1,hpush⟩:=h6.aQm (k:=0) (by decide) (T6:=T.bH) aQ6 rfl (x:= .slice C' (k+2) e') (y:= .slice B k d) rfl rfl hn hn1 hN7
  refine⟨A1,n 0+1,c1,w8,hr1,hs1,hz1,fun w9 hw9=> ?_⟩
  obtain⟨hcell,hpush⟩:=hpush w9 hw9
  refine⟨A 1,n 1,c 1,hcell,fun p6 w10 hN10=> ?_⟩
  obtain⟨A2,c2,w11,hr2,hs2,hz2,hpush2⟩:=hpush p6 w10 hN10
  refine⟨A2,n 1+1,c2,w11,hr2,hs2,hz2,fun w12 hw12=> ?_⟩
  obtain⟨A',c',vs',H',hR,hsub,hH,hlo,hkx,hgx,iI,v0,v1,v2⟩:=hpush2 w12 hw12
  obtain⟨hO12,hno⟩:=hO6.iI (aDc h hO6) iI
  have hst:St H' w12 fun w=>Ints w C' (k+2) (xs++[-71,-72]):=Own.st (c:=aEq .i64) hO12 hno (fun w' _=>aOc w' _) (by decide)
  have hcap:=hO6.cap
  have hold:Qr W0 w12 p A' (upd (upd n 0 (n 0+1)) 1 (n 1+1)) c' vs' H':=by
   have hlo':St H' w12 fun w=>Ints w B k xs:=fun w' hw=>hx w' (hR.ext.over hw fun i hi hx=>by have:=(hlo i hx).1;omega)
   refine⟨hR,hsub,hlo,?_,?_,?_⟩
   ·rw[v0,v1]
    exact(h6.nums.iI iI).snoc fun w' hw=>⟨C',k,e',B,d,xs,rfl,rfl,hm,hcap,hst w' hw,hlo' w' hw⟩
   ·rw[v2 2 (by decide) (by decide),v2 3 (by decide) (by decide)];exact h6.flats.iI iI
   ·rw[v2 4 (by decide) (by decide),v2 5 (by decide) (by decide)];exact h6.links.iI iI
  refine⟨by omega,by omega,by simp,A',c',vs',H',hold,hH,(E6.mono (fun _ _ h=>h.elim)).trans hkx,fun b hb hh=> ?_,(dU.iL E6).trans iI,by omega,?_⟩
  ·exact hgx b (Nat.lt_of_lt_of_le hb E6.size) hh
  ·refine hst.imp fun w' hq=> ?_
   have:=hq.take (k:=k) (by omega)
   rwa [List.take_append_of_le_length (by omega),List.take_of_length_le (by omega)] at this
end
section
variable {W0 w w':World} {p:Addr} {A:Nat->Option Addr} {n c:Nat->Nat} {vs:Nat->List Value} {H:Nat->Prop}
theorem Sl.aF5 {W0:World} {B:Option Addr} {m:Nat} {fs:List Flat} (hx:∀w',Ext W0 w'->Sl mO w' B m fs) {i:Nat} (hi:i<m):
  ∃x ad C k d,fs[i]? =some x/\B=some ad/\ad.block<W0.heap.size/\(∀w',Ext W0 w'->bG w' (ad.add (i*2)) [iv x.fn,.slice C k d]/\Ints w' C k x.args)/\Sm k:=by
 obtain⟨x,ad,C,k,d,h1,h2,h3,h4,h5⟩:=(hx W0 (Ext.refl W0)).flat (i:=i) (by omega) (by omega)
 have hb:=World.block_lt_of_cell? W0 _ (h3 0 _ rfl)
 rw[Addr.add_block,Addr.add_block] at hb
 exact⟨x,ad,C,k,d,by simpa using h1,h2,hb,fun w' hw=>⟨by simpa using hw.cells h3,h5.ext hw⟩,h4⟩
theorem Qr.grow (h:Qr W0 w p A n c vs H) {wS:World} (hS:W0.heap.size<=wS.heap.size) (hSw:wS.heap.size<=w.heap.size) {t e:TypeId} {s by_:Nat} {C:Option Addr} {k d m c2:Nat} {us news:List Value} {a:Addr} (hO:Own w wS.heap.size e s C k d us) (hC:∀b,At C b->H b) (hno:∀b,At C b->¬HX 6 p A b)
  (ht:iV P t=some e) (hi:wP P e=some (s,by_,s)) (hs:0<s) (hs2:s<=64) (hb2:by_<=64) (hl:news.length=m*s) (hc:bG w a news) (h1:∀u∈news,u.oneCell'=true) (hn:k+m<=2199023255552):
  ∃C' d' w',(Builtin.append_ #[t,t] t #[.slice C k d,.slice (some a) m c2]).run P w= .ok (.slice C' (k+m) d') w'/\∀w2,aO w' w2->∃H',Qr W0 w2 p A n c vs H'/\(∀b,At C' b->H' b)/\(∀b,At C' b->¬HX 6 p A b)/\Own w2 wS.heap.size e s C' (k+m) d' (us++news)/\dU H w H' w2/\(∀b,H b->H' b):=by
 obtain⟨C',d',w',hr,hO',hK,hA'⟩:=hO.append (m:=m) (c2:=c2) (ty:=t) ht hi hs hs2 hb2 hl hc h1 hn hSw
 refine⟨C',d',w',hr,fun w2 hw2=>⟨fun b=>H b\/At C' b,?_,fun b hb=> .inr hb,fun b hb=> ?_,hO'.keep (Ext.aK hw2) (fun _ _ h=>h),⟨(hK.drawn hw2).mono fun i _ hi=>hC i hi,?_⟩,fun b hb=> .inl hb⟩⟩
 ·refine h.step (hK.drawn hw2) (fun b _ hb=>⟨hC b hb,hno b hb⟩) ⟨(hK.drawn hw2).mono fun i _ hi=>hC i hi,?_⟩ (fun b hb=> .inl (h.sub b hb)) ?_
  ·rintro i hi (k|k)
   ·exact k
   ·rcases hA' i k with q|q
    ·exact hC i q
    ·omega
  ·rintro b (k|k)
   ·exact⟨(h.lo b k).1,Nat.lt_of_lt_of_le (h.lo b k).2 (hK.drawn hw2).size⟩
   ·have:=hO'.at k
    rw[hw2.heap]
    omega
 ·rcases hA' b hb with q|q
  ·exact hno b q
  ·intro k
   have:=(h.rws.hx (by decide) b k).2
   omega
 ·rintro i hi (k|k)
  ·exact k
  ·rcases hA' i k with q|q
   ·exact hC i q
   ·omega
structure Cnt (n n':Nat->Nat) (a b c:Nat):Prop where
 n0:n' 0=n 0+a
 n1:n' 1=n 1+a
 n2:n' 2=n 2+b
 n3:n' 3=n 3+b
 n4:n' 4=n 4+c
 n5:n' 5=n 5+c
theorem aGp {fs:List Flat} {B:Option Addr} {m:Nat} (d:Nat) (h:Qr W0 w p A n c vs H) (hx:∀w',Ext W0 w'->Sl mO w' B m fs) (hm:Sm m) (hn:n 0+m<=1099511627776) (hn1:n 1+m<=1099511627776) (hn2:n 2+1<=1099511627776) (hn3:n 3+1<=1099511627776):
  Calls P F.sS #[.pointer (some p),.slice B m d] w (cO fun v w'=>∃C e A' n' c' vs' H',v= .slice C m e/\Qr W0 w' p A' n' c' vs' H'/\Cnt n n' m 1 0/\dU H w H' w'/\m<=e/\St H' w' (fun w=>Sl mO w C m fs)):=by
 refine cO.mono (Tt p B m d (fun C k e w'=>k=m/\∃A' n' c' vs' H',Qr W0 w' p A' n' c' vs' H'/\Cnt n n' m 1 0/\dU H w H' w'/\m<=e/\St H' w' (fun w=>Sl mO w C m fs)) w ?_)
  (by rintro _ w' ⟨C,k,e,rfl,rfl,A',n',c',vs',H',h⟩;exact⟨C,e,A',n',c',vs',H',rfl,h⟩)
 unfold wF
 intro p2 w1 hN
 have hl:=(hx w h.rws.ext).1
 have hm':=hm
 unfold Sm at hm'
 have hO0:Own w1 w.heap.size T.fJ 2 (some p2) 0 0 []:=Own.new hN
 have hp2:=hN.block
 refine⟨fun q C k e i w2=>q=m-i.toNat/\i=k/\k<=m/\∃A' n' c' vs' H' us,Qr W0 w2 p A' n' c' vs' H'/\Cnt n n' k 0 0/\(∀b,At C b->H' b)/\dU H w H' w2/\Own w2 w.heap.size T.fJ 2 C k e us/\(∀b,At C b->¬HX 6 p A' b)/\St H' w2 (fun w=>Yi mO w us (fs.take k)),
  ⟨m,by simp,rfl,by omega,A,n,c,vs,fun b=>H b\/b=w.heap.size,[],?_,⟨rfl,rfl,rfl,rfl,rfl,rfl⟩,?_,?_,hO0,fun b hb hh=>aDc h hO0 b hb (h.sub b hh),fun w' _=>Yi.nil _ _⟩,?_⟩
 ·have adv0:dU H w (fun b=>H b\/b=w.heap.size) w1:=⟨(Keep.refl H w).new hN,fun i hi hh=>hh.elim id fun hh=>by omega⟩
  refine⟨h.rws.stay (by decide) (Ext.eY hN),fun b hb=> .inl (h.sub b hb),?_,h.nums.iI adv0,h.flats.iI adv0,h.links.iI adv0⟩
  have:=hN.size
  have:=h.rws.ext.size
  rintro b (hb|rfl)
  ·have:=h.lo b hb
   omega
  ·omega
 ·rintro b ⟨a,ha,rfl⟩
  cases ha
  exact .inr hp2
 ·refine⟨(Keep.refl H w).new hN,?_⟩
  rintro i hi (k|rfl)
  ·exact k
  ·omega
 rintro q C k e i w2 ⟨rfl,rfl,hle,A',n',c',vs',H2,us,h2,hcnt,hC,adv2,hO,hno,hst⟩
 have hsz:=adv2.keep.size
 have hS:=h.rws.ext.size
 refine⟨fun hlt=> ?_,fun hge=> ?_⟩
 ·obtain⟨x,ad,D,j,dd,hxi,hA,hab,hc,hj⟩:=Sl.aF5 hx (i:=k) (by omega)
  obtain⟨hc2,hi2⟩:=hc w2 h2.rws.ext
  have hblk:∀o,¬HX 6 p A' ((ad.add (k*2)).add o).block:=fun o hh=>by
   have:=(h2.rws.hx (by decide) _ hh).1
   rw[Addr.add_block,Addr.add_block] at this
   omega
  refine⟨HX 6 p A',by omega,hlt,ad,hA,x.fn,by simpa using hc2 0 _ rfl,hblk 0,by omega,hlt,ad,hA,D,j,dd,by simpa using hc2 1 _ rfl,fun w4 hw4=> ?_⟩
  have h4:=h2.stay (Ext.aK hw4)
  have g0:=hcnt.n0
  have g1:=hcnt.n1
  refine(aH0 dd h4 (fun w' hw=>(hc w' hw).2) hj (by omega) (by omega)).mono ?_
  rintro _ w3 ⟨_,rfl,E,g,A3,c3,vs3,H3,rfl,h3,hsub3,hk3,hg3,adv3,hg,hst3⟩
  refine⟨_,rfl,E,j,g,rfl,(Keep.aK hw4).trans hk3,fun w11 hw11 p3 w6 hN6 w10 hw10=> ?_⟩
  have E310:Ext w3 w10:=((Ext.aK hw11).new hN6).drawn hw10
  have hO4:=hO.keep (Ext.aK hw4) (fun _ _ h=>h)
  have hO3:Own w10 w.heap.size T.fJ 2 C k e us:=(hO4.keep hk3 hno).keep E310 (fun _ _ h=>h)
  have hno3:∀b,At C b->¬HX 6 p A3 b:=fun b hb hh=>hno b hb (hg3 b (hO4.at hb).2 hh)
  have hc10:bG w10 p3 [iv x.fn,.slice E j g]:=(Ext.aK hw10).cells (hN6.cells rfl)
  have h10:=h3.stay E310
  have hz10:w.heap.size<=w10.heap.size:=by have:=hw4.heap;have:=adv3.keep.size;have:=E310.size;have:=(Ext.aK hw4).size;omega
  obtain⟨C',e',w7,hr,hgrow⟩:=h10.grow hS hz10 hO3 (fun b hb=>hsub3 b (hC b hb)) hno3 aQb aQn (by decide) (by decide) (by decide) (m:=1) (c2:=1) (news:=[iv x.fn,.slice E j g]) rfl hc10 (by intro u hu;simp at hu;rcases hu with rfl|rfl<;>rfl) (by omega)
  refine⟨C',k+1,e',w7,hr,fun w8 hw8=> ?_⟩
  obtain⟨H4,h8,hC8,hno8,hO8,adv8,hsub8⟩:=hgrow w8 hw8
  unfold nI
  refine⟨m-(k+1),by omega,?_⟩
  rw[wrap_small (by omega) (by omega)]
  have adv28:dU H2 w2 H4 w8:=((dU.aK hw4).trans adv3).trans ((dU.iL E310).trans adv8)
  refine⟨by omega,by omega,by omega,A3,_,c3,vs3,H4,_,h8,⟨?_,?_,?_,?_,?_,?_⟩,hC8,adv2.trans adv28,hO8,hno8,?_⟩
  ·simp only[upd];simp;omega
  ·simp only[upd];simp;omega
  ·simpa [upd] using hcnt.n2
  ·simpa [upd] using hcnt.n3
  ·simpa [upd] using hcnt.n4
  ·simpa [upd] using hcnt.n5
  ·intro w' hw
   rw[List.take_add_one,hxi]
   refine((hst.iI adv28) w' hw).snoc rfl ⟨E,j,g,rfl,hj,?_⟩
   exact(hst3.iI ((dU.iL E310).trans adv8)) w' hw
 ·have hk:k=m:=by omega
  subst hk
  rw[List.take_of_length_le (by omega)] at hst
  intro p4 w12 hN12
  have E12:Ext w2 w12:=Ext.eY hN12
  have h12:=h2.stay E12
  have hO12:=hO.keep E12 (fun _ _ h=>h)
  have hz12:=E12.size
  obtain⟨C',e',w13,hr,hgrow⟩:=h12.grow hS (by omega) hO12 hC hno aQb aQn (by decide) (by decide) (by decide) (m:=2) (c2:=2) (news:=[iv 73,.slice none 0 0,iv 74,.slice none 0 0]) rfl (hN12.cells rfl) (by intro u hu;simp at hu;rcases hu with rfl|rfl|rfl|rfl<;>rfl) (by omega)
  obtain⟨H4,h13,hC13,hno13,hO13,adv13,hsub13⟩:=hgrow w13 (aO.refl w13)
  have adv213:dU H2 w2 H4 w13:=(dU.iL E12).trans adv13
  have hst13:St H4 w13 fun w=>Yi mO w (us++[iv 73,.slice none 0 0,iv 74,.slice none 0 0]) (fs++[⟨73,[]⟩,⟨74,[]⟩]):=fun w' hw=>by
   refine((hst.iI adv213) w' hw).app ⟨rfl,fun i x hx=> ?_⟩
   match i,hx with
   |0,hx=>cases hx;exact⟨none,0,0,rfl,by decide,Sl.nil _ _ _⟩
   |1,hx=>cases hx;exact⟨none,0,0,rfl,by decide,Sl.nil _ _ _⟩
  have g2:=hcnt.n2
  have g3:=hcnt.n3
  refine⟨C',k+2,e',w13,hr,A' 2,n' 2,c' 2,h13.rws.cell 2 (by decide),fun p5 w14 hN14=> ?_⟩
  obtain⟨A1,c1,w15,hr1,hs1,hz1,hpush⟩:=h13.aQm (k:=2) (by decide) (T6:=T.fB) aQa rfl (x:= .slice C' (k+2) e') (y:= .slice B k d) rfl rfl (by omega) (show n' 3+1<=1099511627776 by omega) hN14
  refine⟨A1,n' 2+1,c1,w15,hr1,hs1,hz1,fun w16 hw16=> ?_⟩
  obtain⟨hcell,hpush⟩:=hpush w16 hw16
  refine⟨A' 3,n' 3,c' 3,hcell,fun p6 w17 hN17=> ?_⟩
  obtain⟨A2,c2,w18,hr2,hs2,hz2,hpush2⟩:=hpush p6 w17 hN17
  refine⟨A2,n' 3+1,c2,w18,hr2,hs2,hz2,fun w19 hw19=> ?_⟩
  obtain⟨A5,c5,vs5,H5,hR,hsub5,hH5,hlo5,hkx,hgx,adv5,v0,v1,v2⟩:=hpush2 w19 hw19
  have hcap:=hO13.cap
  --our own row leaves the set
  have hO19:=hO13.keep hkx hno13
  have hno5:∀b,At C' b->¬HX 6 p A5 b:=fun b hb hh=>hno13 b hb (hgx b (hO13.at hb).2 hh)
  have adv6:dU H4 w13 (fun b=>H5 b/\¬At C' b) w19:=⟨adv5.keep,fun i hi hh=>adv5.grow i hi hh.1⟩
  have hfin:St (fun b=>H5 b/\¬At C' b) w19 fun w=>Sl mO w C' (k+2) (fs++[⟨73,[]⟩,⟨74,[]⟩]):=Own.st (c:=mO) hO19 (fun b hb hh=>hh.2 hb) (hst13.iI adv6) (by decide)
  have hold:Qr W0 w19 p A5 (upd (upd n' 2 (n' 2+1)) 3 (n' 3+1)) c5 vs5 (fun b=>H5 b/\¬At C' b):=by
   refine⟨hR,fun b hb=>⟨hsub5 b hb,fun hh=>hno5 b hh hb⟩,fun b hb=>hlo5 b hb.1,?_,?_,?_⟩
   ·rw[v2 0 (by decide) (by decide),v2 1 (by decide) (by decide)];exact h13.nums.iI adv6
   ·rw[v0,v1]
    exact(h13.flats.iI adv6).snoc fun w' hw=>⟨C',k,e',B,d,fs,rfl,rfl,hm,hfin w' hw,hx w' (hR.ext.over hw fun i hi hx=>by have:=(hlo5 i hx.1).1;omega)⟩
   ·rw[v2 4 (by decide) (by decide),v2 5 (by decide) (by decide)];exact h13.links.iI adv6
  refine⟨by omega,by omega,by simp,A5,_,c5,vs5,_,hold,⟨?_,?_,?_,?_,?_,?_⟩,adv2.trans (adv213.trans adv6),by omega,?_⟩
  ·simpa [upd] using hcnt.n0
  ·simpa [upd] using hcnt.n1
  ·simp only[upd];simp;omega
  ·simp only[upd];simp;omega
  ·simpa [upd] using hcnt.n4
  ·simpa [upd] using hcnt.n5
  ·refine hfin.imp fun w' hq=> ?_
   have:=hq.take (k:=k) (by omega)
   rwa [List.take_append_of_le_length (by omega),List.take_of_length_le (by omega)] at this
theorem Vl {B C:Option Addr} {k m:Nat} (d e:Nat) {xs ys:List Int} (h:Ints w B k xs) (h2:Ints w C m ys) (hk:Sm k):
  Calls P F.lF #[.slice B k d,.slice C m e] w (cO fun v w'=>∃b,v= .bool b/\(b=true↔xs=ys)/\Ext w w'):=by
 refine Vq B k d C m e (fun b w'=>(b=true↔xs=ys)/\Ext w w') w ?_
 unfold yF
 have e1:=h.1
 have e2:=h2.1
 refine⟨fun hne=>⟨⟨fun q=>(by cases q),fun q=>absurd (congrArg List.length q) (by omega)⟩,Ext.refl w⟩,fun hne=> ?_⟩
 refine⟨fun q i w'=>q=k-i.toNat/\0<=i/\i<=k/\(∀j:Nat,(j:Int)<i->xs[j]? =ys[j]?)/\Ext w w',⟨k,by omega,by omega,by omega,fun j hj=>by omega,Ext.refl w⟩,?_⟩
 rintro q i w1 ⟨rfl,i0,i1,hall,E1⟩
 refine⟨fun hlt=> ?_,fun hge=>⟨⟨fun _=> ?_,fun _=>rfl⟩,E1⟩⟩
 ·obtain⟨x,a,hx,hA,hc⟩:=(h.ext E1).int i0 hlt
  obtain⟨y,a',hy,hA',hc'⟩:=(h2.ext E1).int i0 (by omega)
  refine⟨i0,hlt,a,hA,x,hc,i0,by omega,a',hA',y,hc',fun w2 hw2=>⟨fun hxy=>⟨⟨fun q=>(by cases q),fun q=> ?_⟩,E1.drawn hw2⟩,fun hxy=> ?_⟩⟩
  ·subst q
   rw[hx] at hy
   cases hy
   exact absurd rfl hxy
  ·rw[gI i0 hlt hk]
   refine⟨k-(i+1).toNat,by omega,rfl,by omega,by omega,fun j hj=> ?_,E1.drawn hw2⟩
   rcases Int.lt_or_eq_of_le (show(j:Int)<=i by omega) with hj|hj
   ·exact hall j hj
   ·rw[show j=i.toNat by omega,hx,hy,Decidable.not_not.1 hxy]
 ·apply List.ext_getElem?
  intro j
  rcases Nat.lt_or_ge j k with hj|hj
  ·exact hall j (by omega)
  ·rw[List.getElem?_eq_none_iff.2 (by omega),List.getElem?_eq_none_iff.2 (by omega)]
end
section
variable {W0 w w':World} {p:Addr} {A:Nat->Option Addr} {n c:Nat->Nat} {vs:Nat->List Value} {H:Nat->Prop}
theorem Own.get {base:Nat} {e:TypeId} {B:Option Addr} {m d:Nat} {us:List Value} (h:Own w base e 1 B m d us) {i:Int} (h0:0<=i) (h1:i<m):∃a v,B=some a/\us[i.toNat]? =some v/\w.cell? (a.add (i.toNat*1))=some v:=by
 have hl:=h.1
 have hi:i.toNat<us.length:=by omega
 rcases h.cells with h0|⟨a,ha,hc⟩
 ·rw[h0] at hi;simp at hi
 ·exact⟨a,us[i.toNat],ha,List.getElem?_eq_getElem hi,by rw[Nat.mul_one];exact hc _ _ (List.getElem?_eq_getElem hi)⟩
theorem Uc.get {E:World->Value->Value->Prop} {us vs:List Value} {base:Nat} {e e':TypeId} {B C:Option Addr} {m m' d d':Nat} (h:Uc E H w us vs) (hu:Own w base e 1 B m d us) (hv:Own w base e' 1 C m' d' vs) {i:Int} (h0:0<=i) (h1:i<m):
  (i<m')/\∃a a' x y,B=some a/\C=some a'/\w.cell? (a.add (i.toNat*1))=some x/\w.cell? (a'.add (i.toNat*1))=some y/\E w x y:=by
 have e1:=h.1
 have e2:=hu.1
 have e3:=hv.1
 have hlt:i<m':=by omega
 obtain⟨a,x,ha,hx,hc⟩:=hu.get h0 h1
 obtain⟨a',y,ha',hy,hc'⟩:=hv.get h0 hlt
 exact⟨hlt,a,a',x,y,ha,ha',hc,hc',(h.2 _ x y hx hy).now⟩
abbrev aLp (w:World):Bool->World->Prop:=fun b w'=>b=true/\Ext w w'
theorem aH7 (h:Qr W0 w p A n c vs H) (hs:∀k,k<6->Sm (n k)):
  Calls P F.mG #[.pointer (some p)] w (cO fun v w'=>v= .bool true/\Ext w w'):=by
 refine cO.mono (Uo p (aLp w) w ?_) (by rintro _ _ ⟨b,rfl,rfl,h⟩;exact⟨rfl,h⟩)
 unfold wY
 refine⟨fun q i w1=>q=n 0-i.toNat/\0<=i/\Ext w w1,⟨n 0,by simp,by omega,Ext.refl w⟩,?_⟩
 rintro q i w1 ⟨rfl,i0,E1⟩
 have h1:=h.stay E1
 refine⟨A 0,n 0,c 0,h1.rws.cell 0 (by decide),fun hlt=> ?_,fun hge=> ?_⟩
 ·obtain⟨hlt',a,a',x,y,hA,hA',hx,hy,B,k,cc,C,d,xs,rfl,rfl,hk,hcap,hB,hC⟩:=h1.nums.get (h1.rws.own 0 (by decide)) (h1.rws.own 1 (by decide)) i0 hlt
  have hk':=hk
  unfold Sm at hk'
  have step:∀w2,Ext w w2->jA (aLp w) (n 0-i.toNat) (fun q i w1=>q=n 0-i.toNat/\0<=i/\Ext w w1) i false w2:=fun w2 E2=>by
   refine⟨fun q=>(by cases q),fun _=> ?_⟩
   rw[gI i0 hlt (hs 0 (by decide))]
   exact⟨n 0-(i+1).toNat,by omega,rfl,by omega,E2⟩
  refine⟨A 1,n 1,c 1,h1.rws.cell 1 (by decide),i0,hlt',a',hA',C,k,d,hy,A 0,n 0,c 0,h1.rws.cell 0 (by decide),i0,hlt,a,hA,B,k+2,cc,hx,by omega,by omega,A 1,n 1,c 1,h1.rws.cell 1 (by decide),i0,hlt',a',hA',C,k,d,hy,fun w3 hw3=> ?_⟩
  have e3:=hC.1
  have hB1:Ints w3 B k xs:=by
   have:=(hB.ext (Ext.aK hw3)).take (k:=k) (by omega)
   rwa [List.take_append_of_le_length (by omega),List.take_of_length_le (by omega)] at this
  refine(Vl cc d hB1 (hC.ext (Ext.aK hw3)) hk).mono ?_
  rintro _ w2 ⟨_,rfl,b,rfl,hb,E2⟩
  have E12:Ext w1 w2:=(Ext.aK hw3).trans E2
  have hb':b=true:=hb.2 rfl
  subst hb'
  obtain⟨u,a4,hu,hB4,hcu⟩:=(hB.ext E12).int (i:=k) (by omega) (by omega)
  rw[show((k:Int)).toNat=xs.length by omega] at hu
  simp at hu
  obtain⟨u2,a5,hu2,hB5,hcu2⟩:=(hB.ext E12).int (i:=k+1) (by omega) (by omega)
  rw[show((k:Int)+1).toNat=xs.length+1 by omega] at hu2
  simp at hu2
  subst hu hu2
  refine⟨_,rfl,true,rfl,fun q=>(by cases q),fun _=>⟨by omega,by omega,a4,hB4,-71,hcu,fun q=>absurd rfl q,fun _=> ?_⟩⟩
  rw[wrap_small (i:=(k:Int)+1) (by omega) (by omega)]
  refine⟨by omega,by omega,a5,hB5,-72,hcu2,fun w8 hw8=> ?_⟩
  exact step w8 ((E1.trans E12).drawn hw8)
 --the flats
 refine⟨fun q i w1=>q=n 2-i.toNat/\0<=i/\Ext w w1,⟨n 2,by simp,by omega,E1⟩,?_⟩
 rintro q i w2 ⟨rfl,i0,E2⟩
 have h2:=h.stay E2
 refine⟨A 2,n 2,c 2,h2.rws.cell 2 (by decide),fun hlt=> ?_,fun hge=> ?_⟩
 ·obtain⟨hlt',a,a',x,y,hA,hA',hx,hy,B,k,cc,C,d,fs,rfl,rfl,hk,hB,hC⟩:=h2.flats.get (h2.rws.own 2 (by decide)) (h2.rws.own 3 (by decide)) i0 hlt
  have hk':=hk
  unfold Sm at hk'
  have e3:=hC.1
  refine⟨A 3,n 3,c 3,h2.rws.cell 3 (by decide),i0,hlt',a',hA',C,k,d,hy,A 2,n 2,c 2,h2.rws.cell 2 (by decide),i0,hlt,a,hA,B,k+2,cc,hx,?_⟩
  refine⟨fun q j w3=>q=k-j.toNat/\0<=j/\j<=k/\Ext w2 w3,⟨k,by simp,by omega,by omega,Ext.refl _⟩,?_⟩
  rintro q j w3 ⟨rfl,j0,j1,E3⟩
  have h3:=h2.stay E3
  have step:∀w4,Ext w2 w4->j<k->kV (aLp w) (k-j.toNat) (fun q j w3=>q=k-j.toNat/\0<=j/\j<=k/\Ext w2 w3) j false w4:=fun w4 E4 hj=>by
   refine⟨fun q=>(by cases q),fun _=> ?_⟩
   rw[gI j0 hj hk]
   exact⟨k-(j+1).toNat,by omega,rfl,by omega,by omega,E4⟩
  refine⟨fun hj=> ?_,fun hj=> ?_⟩
  ·obtain⟨f,a8,D,s,t,hf,hB8,hc8,hs8,hi8⟩:=(hB.ext E3).flat j0 (by omega)
   obtain⟨g,a9,D',s',t',hg,hC9,hc9,hs9,hi9⟩:=(hC.ext E3).flat j0 hj
   rw[List.getElem?_append_left (by omega),hg] at hf
   cases hf
   have r:=h3.rws.cell 3 (by decide)
   have hy3:=E3.cell hy
   refine⟨j0,by omega,a8,hB8,_,hc8 0 _ rfl,A 3,n 3,c 3,r,i0,hlt',a',hA',C,k,d,hy3,j0,hj,a9,hC9,_,hc9 0 _ rfl,fun q=>absurd rfl q,fun _=>⟨j0,by omega,a8,hB8,D,s,t,hc8 1 _ rfl,A 3,n 3,c 3,r,i0,hlt',a',hA',C,k,d,hy3,j0,hj,a9,hC9,D',s',t',hc9 1 _ rfl,fun w14 hw14=> ?_⟩⟩
   refine(Vl t t' (hi8.ext (Ext.aK hw14)) (hi9.ext (Ext.aK hw14)) hs8).mono ?_
   rintro _ w13 ⟨_,rfl,b,rfl,hb,E13⟩
   have hb':b=true:=hb.2 rfl
   subst hb'
   exact⟨_,rfl,true,rfl,fun w16 hw16=>step w16 (((E3.drawn hw14).trans E13).drawn hw16) hj⟩
  ·obtain⟨f,a8,D,s,t,hf,hB8,hc8,_,_⟩:=(hB.ext E3).flat (i:=k) (by omega) (by omega)
   rw[show((k:Int)).toNat=fs.length by omega] at hf
   simp at hf
   obtain⟨f2,a9,D',s',t',hf2,hB9,hc9,_,_⟩:=(hB.ext E3).flat (i:=k+1) (by omega) (by omega)
   rw[show((k:Int)+1).toNat=fs.length+1 by omega] at hf2
   simp at hf2
   subst hf hf2
   refine⟨by omega,by omega,a8,hB8,_,hc8 0 _ rfl,fun q=>absurd rfl q,fun _=> ?_⟩
   rw[wrap_small (i:=(k:Int)+1) (by omega) (by omega)]
   refine⟨by omega,by omega,a9,hB9,_,hc9 0 _ rfl,?_⟩
   refine⟨fun q=>absurd (of_decide_eq_true q) (fun k=>k rfl),fun _=> ?_⟩
   rw[gI i0 hlt (hs 2 (by decide))]
   exact⟨n 2-(i+1).toNat,by omega,rfl,by omega,E2.trans E3⟩
 --the links
 refine⟨fun q i w1=>q=n 4-i.toNat/\0<=i/\Ext w w1,⟨n 4,by simp,by omega,E2⟩,?_⟩
 rintro q i w2 ⟨rfl,i0,E2⟩
 have h2:=h.stay E2
 refine⟨A 4,n 4,c 4,h2.rws.cell 4 (by decide),fun hlt=> ?_,fun hge=>⟨rfl,E2⟩⟩
 obtain⟨hlt',a,a',x,y,hA,hA',hx,hy,B,k,cc,C,d,fs,rfl,rfl,hk,hB,hC⟩:=h2.links.get (h2.rws.own 4 (by decide)) (h2.rws.own 5 (by decide)) i0 hlt
 have hk':=hk
 unfold Sm at hk'
 have e3:=hC.1
 refine⟨A 5,n 5,c 5,h2.rws.cell 5 (by decide),i0,hlt',a',hA',C,k,d,hy,A 4,n 4,c 4,h2.rws.cell 4 (by decide),i0,hlt,a,hA,B,k+2,cc,hx,?_⟩
 refine⟨fun q j w3=>q=k-j.toNat/\0<=j/\j<=k/\Ext w2 w3,⟨k,by simp,by omega,by omega,Ext.refl _⟩,?_⟩
 rintro q j w3 ⟨rfl,j0,j1,E3⟩
 have step:∀w4,Ext w2 w4->j<k->gJ (aLp w) (k-j.toNat) (fun q j w3=>q=k-j.toNat/\0<=j/\j<=k/\Ext w2 w3) j false w4:=fun w4 E4 hj=>by
  refine⟨fun q=>(by cases q),fun _=> ?_⟩
  rw[gI j0 hj hk]
  exact⟨k-(j+1).toNat,by omega,rfl,by omega,by omega,E4⟩
 refine⟨fun hj=> ?_,fun hj=> ?_⟩
 ·obtain⟨f,a8,D,s,t,hf,hB8,hc8,hs8,hi8⟩:=(hB.ext E3).link j0 (by omega)
  refine⟨j0,by omega,a8,hB8,_,_,_,_,D,s,t,hc8,fun p2 w19 hN19=>⟨hN19.soft rfl,fun w20 hw20=> ?_⟩⟩
  have hN20:=hN19.store hw20 rfl
  have E20:Ext w2 w20:=E3.new hN20
  have h20:=h2.stay E20
  obtain⟨g,a9,D',s',t',hg,hC9,hc9,hs9,hi9⟩:=(hC.ext E20).link j0 hj
  rw[List.getElem?_append_left (by omega),hg] at hf
  cases hf
  refine⟨A 5,n 5,c 5,h20.rws.cell 5 (by decide),i0,hlt',a',hA',C,k,d,E20.cell hy,j0,hj,a9,hC9,_,_,_,_,D',s',t',hc9,fun p3 w21 hN21=>⟨hN21.soft rfl,fun w22 hw22=> ?_⟩⟩
  have hN22:=hN21.store hw22 rfl
  have E2022:Ext w20 w22:=Ext.eY hN22
  have c2:=E2022.cells (hN20.cells rfl)
  have c3:=hN22.cells rfl
  refine⟨_,c2 0 _ rfl,_,c3 0 _ rfl,fun q=>absurd rfl q,fun _=>⟨_,c2 1 _ rfl,_,c3 1 _ rfl,fun q=>absurd rfl q,fun _=>⟨_,c2 2 _ rfl,_,c3 2 _ rfl,fun q=>absurd rfl q,fun _=>⟨_,c2 3 _ rfl,_,c3 3 _ rfl,fun q=>absurd rfl q,fun _=>⟨D,s,t,c2 4 _ rfl,D',s',t',c3 4 _ rfl,?_⟩⟩⟩⟩⟩
  refine(Vl t t' ((hi8.ext (Ext.eY hN20)).ext E2022) (hi9.ext E2022) hs8).mono ?_
  rintro _ w13 ⟨_,rfl,b,rfl,hb,E13⟩
  have hb':b=true:=hb.2 rfl
  subst hb'
  exact⟨_,rfl,true,rfl,step w13 ((E20.trans E2022).trans E13) hj⟩
 ·obtain⟨f,a8,D,s,t,hf,hB8,hc8,_,_⟩:=(hB.ext E3).link (i:=k) (by omega) (by omega)
  rw[show((k:Int)).toNat=fs.length by omega] at hf
  simp at hf
  obtain⟨f2,a9,D',s',t',hf2,hB9,hc9,_,_⟩:=(hB.ext E3).link (i:=k+1) (by omega) (by omega)
  rw[show((k:Int)+1).toNat=fs.length+1 by omega] at hf2
  simp at hf2
  subst hf hf2
  refine⟨by omega,by omega,a8,hB8,_,hc8 0 _ rfl,fun q=>absurd rfl q,fun _=> ?_⟩
  rw[wrap_small (i:=(k:Int)+1) (by omega) (by omega)]
  refine⟨by omega,by omega,a9,hB9,_,hc9 0 _ rfl,?_⟩
  refine⟨fun q=>absurd (of_decide_eq_true q) (fun k=>k rfl),fun _=> ?_⟩
  rw[gI i0 hlt (hs 4 (by decide))]
  exact⟨n 4-(i+1).toNat,by omega,rfl,by omega,E2.trans E3⟩
end
def aAo (links:List Dk) (k x y:Int):Prop:=∃q,links[k.toNat]? =some q/\q.a=x/\q.b=y
def Rule (nodes:List Flat) (given links:List Dk) (l:Dk):Prop:=
 (l.kind=1/\l.kids=[]/\∃g∈given,g.kind=1/\g.a=l.a/\g.b=l.b/\g.tag=l.tag)\/
 (l.tag=0/\((l.kind=2/\l.kids=[]/\l.a=l.b)\/
  (l.kind=3/\∃k,l.kids=[k]/\aAo links k l.b l.a)\/
  (l.kind=4/\∃k m,l.kids=[k,m]/\∃x,aAo links k l.a x/\aAo links m x l.b)\/
  (l.kind=5/\∃m n,nodes[l.a.toNat]? =some m/\nodes[l.b.toNat]? =some n/\0<=m.fn/\m.fn=n.fn/\m.args.length=n.args.length/\l.kids.length=m.args.length/\
   ∀(i:Nat) k x y,l.kids[i]? =some k->m.args[i]? =some x->n.args[i]? =some y->aAo links k x y)))
def Fol (nodes:List Flat) (given links:List Dk) (at_:Int):Prop:=
 ∃l,links[at_.toNat]? =some l/\0<=l.a/\0<=l.b/\l.a<nodes.length/\l.b<nodes.length/\(∀k∈l.kids,0<=k/\k<at_)/\Rule nodes given links l
theorem aQo {nodes:List Flat} {given links:List Dk} {l:Dk} (h:l.kind=1):Rule nodes given links l↔l.kids=[]/\∃g∈given,g.kind=1/\g.a=l.a/\g.b=l.b/\g.tag=l.tag:=by
 refine⟨fun hr=> ?_,fun hr=> .inl ⟨h,hr⟩⟩
 rcases hr with hr|⟨_,hr|hr|hr|hr⟩
 ·exact hr.2
 all_goals exact absurd hr.1 (by omega)
theorem aNc {nodes:List Flat} {given links:List Dk} {l:Dk} (h:l.kind≠1) (ht:l.tag≠0):¬Rule nodes given links l:=by
 intro hr
 rcases hr with hr|hr
 ·exact h hr.1
 ·exact ht hr.1
theorem rule2 {nodes:List Flat} {given links:List Dk} {l:Dk} (h:l.kind=2) (ht:l.tag=0):Rule nodes given links l↔l.kids=[]/\l.a=l.b:=by
 refine⟨fun hr=> ?_,fun hr=> .inr ⟨ht,.inl ⟨h,hr⟩⟩⟩
 rcases hr with hr|⟨_,hr|hr|hr|hr⟩
 ·exact absurd hr.1 (by omega)
 ·exact hr.2
 all_goals exact absurd hr.1 (by omega)
theorem aQp {nodes:List Flat} {given links:List Dk} {l:Dk} (h:l.kind=3) (ht:l.tag=0):Rule nodes given links l↔∃k,l.kids=[k]/\aAo links k l.b l.a:=by
 refine⟨fun hr=> ?_,fun hr=> .inr ⟨ht,.inr (.inl ⟨h,hr⟩)⟩⟩
 rcases hr with hr|⟨_,hr|hr|hr|hr⟩
 ·exact absurd hr.1 (by omega)
 ·exact absurd hr.1 (by omega)
 ·exact hr.2
 all_goals exact absurd hr.1 (by omega)
theorem aQf {nodes:List Flat} {given links:List Dk} {l:Dk} (h:l.kind=4) (ht:l.tag=0):Rule nodes given links l↔∃k m,l.kids=[k,m]/\∃x,aAo links k l.a x/\aAo links m x l.b:=by
 refine⟨fun hr=> ?_,fun hr=> .inr ⟨ht,.inr (.inr (.inl ⟨h,hr⟩))⟩⟩
 rcases hr with hr|⟨_,hr|hr|hr|hr⟩
 ·exact absurd hr.1 (by omega)
 ·exact absurd hr.1 (by omega)
 ·exact absurd hr.1 (by omega)
 ·exact hr.2
 ·exact absurd hr.1 (by omega)
def aNp (links:List Dk) (m n:Flat) (kids:List Int):Prop:=
 0<=m.fn/\m.fn=n.fn/\m.args.length=n.args.length/\kids.length=m.args.length/\∀(i:Nat) k x y,kids[i]? =some k->m.args[i]? =some x->n.args[i]? =some y->aAo links k x y
theorem aRp {nodes:List Flat} {given links:List Dk} {l:Dk} {m n:Flat} (h:l.kind=5) (ht:l.tag=0) (hm:nodes[l.a.toNat]? =some m) (hn:nodes[l.b.toNat]? =some n):Rule nodes given links l↔aNp links m n l.kids:=by
 refine⟨fun hr=> ?_,fun hr=> .inr ⟨ht,.inr (.inr (.inr ⟨h,m,n,hm,hn,hr⟩))⟩⟩
 rcases hr with hr|⟨_,hr|hr|hr|hr⟩
 ·exact absurd hr.1 (by omega)
 ·exact absurd hr.1 (by omega)
 ·exact absurd hr.1 (by omega)
 ·exact absurd hr.1 (by omega)
 ·obtain⟨_,m',n',hm',hn',hr⟩:=hr
  rw[hm] at hm'
  rw[hn] at hn'
  cases hm'
  cases hn'
  exact hr
theorem aL1 {nodes:List Flat} {given links:List Dk} {l:Dk} (h1:l.kind≠1) (h2:l.kind≠2) (h3:l.kind≠3) (h4:l.kind≠4) (h5:l.kind≠5):¬Rule nodes given links l:=by
 intro hr
 rcases hr with hr|⟨_,hr|hr|hr|hr⟩
 ·exact h1 hr.1
 ·exact h2 hr.1
 ·exact h3 hr.1
 ·exact h4 hr.1
 ·exact h5 hr.1
def Base (nodes:List Flat) (l:Dk) (at_:Int):Prop:=(0<=l.a/\0<=l.b/\l.a<nodes.length/\l.b<nodes.length)/\∀k∈l.kids,0<=k/\k<at_
theorem aO5 {nodes:List Flat} {given links:List Dk} {l:Dk} {at_:Int} (h:links[at_.toNat]? =some l):Fol nodes given links at_↔Base nodes l at_/\Rule nodes given links l:=by
 refine⟨?_,fun⟨⟨⟨h1,h2,h3,h4⟩,h5⟩,h6⟩=>⟨l,h,h1,h2,h3,h4,h5,h6⟩⟩
 rintro⟨l',hl',h1,h2,h3,h4,h5,h6⟩
 rw[h] at hl'
 cases hl'
 exact⟨⟨⟨h1,h2,h3,h4⟩,h5⟩,h6⟩
def aCm (nodes:List Flat) (given links:List Dk) (r e:Int):Prop:=
 (¬Sound nodes/\r=0/\e=80)\/
 (Sound nodes/\e=0/\((r= -1/\∀i:Nat,i<links.length->Fol nodes given links i)\/(0<=r/\r<links.length/\¬Fol nodes given links r/\∀i:Nat,(i:Int)<r->Fol nodes given links i)))
abbrev aP6 (nodes:List Flat) (given links:List Dk) (at_:Int) (w0:World):Bool->World->Prop:=fun b w'=>(b=true↔Fol nodes given links at_)/\Ext w0 w'
end Go.Proofs.YtnbakpoahcndpaaGreatDoor
