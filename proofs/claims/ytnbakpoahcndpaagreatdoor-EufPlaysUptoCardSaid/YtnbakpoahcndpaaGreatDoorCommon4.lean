/- Towards the laws of this seat. Gathered by a program (pack.py) out of smaller texts. -/
import Derived.Test.YtnbakpoahcndpaaGreatDoorCommon3
import Derived.Sort.OwnSortedInts
import Derived.Maps.RangeRun
import Derived.Maps.Range
set_option linter.unusedSectionVars false
set_option linter.unusedVariables false
set_option linter.unusedSimpArgs false
set_option maxHeartbeats 2000000
set_option maxRecDepth 20000
namespace Go.Proofs.YtnbakpoahcndpaaGreatDoor
open Wk
theorem aD4 {P:Program} {e:TypeId} {z:Value} (h:(P.info? e).bind (·.zero)=some z):∃i,P.info? e=some i/\i.zero=some z:=Option.bind_eq_some_iff.1 h
theorem Wq {w:World} {N:Nat} (hN:N<=1048576):∃w',(Instr.makeSlice T.nO (iv (N:Int)) (iv (N:Int))).run P w= .ok (.slice (some ⟨w.heap.size,0,none⟩) N N) w'/\Own w' w.heap.size T.bH 1 (some ⟨w.heap.size,0,none⟩) N N (List.replicate N (.slice none 0 0))/\Ext w w':=by
 obtain⟨w',vs,h1,h2,h3,h4⟩:=aAr (P:=P) (w:=w) (t:=T.nO) (e:=T.bH) (s:=1) (by_:=24) (n:=N) (by kernel_rfl) (by kernel_rfl) (by omega) (by omega)
 obtain⟨i,hi,hz⟩:=aD4 (P:=P) (e:=T.bH) (z:= .slice none 0 0) (by kernel_rfl)
 have:=h4 i hi _ hz
 rw[Nat.mul_one] at this
 have e:(Value.slice none 0 0).cells= #[.slice none 0 0]:=by rfl
 rw[e,toList_madeCells_one] at this
 rw[this] at h2
 exact⟨w',h1,h2,h3⟩
theorem aAa {w:World} {N:Nat} (hN:N<=1048576):∃w',(Instr.makeSlice T.jR (iv (N:Int)) (iv (N:Int))).run P w= .ok (.slice (some ⟨w.heap.size,0,none⟩) N N) w'/\Own w' w.heap.size T.jG 5 (some ⟨w.heap.size,0,none⟩) N N ((List.replicate N wR).flatMap Edge.vals)/\Ext w w':=by
 obtain⟨w',vs,h1,h2,h3,h4⟩:=aAr (P:=P) (w:=w) (t:=T.jR) (e:=T.jG) (s:=5) (by_:=40) (n:=N) (by kernel_rfl) (by kernel_rfl) (by omega) (by omega)
 obtain⟨i,hi,hz⟩:=aD4 (P:=P) (e:=T.jG) (z:= .agg wR.vals.toArray) (by kernel_rfl)
 have:=h4 i hi _ hz
 have e:(Value.agg wR.vals.toArray).cells=wR.vals.toArray:=by rfl
 rw[e,aJ2] at this
 rw[this] at h2
 exact⟨w',h1,h2,h3⟩
structure Laid (w1 w7:World) (p U Y:Addr) (m N:Nat):Prop where
 hp:bG w7 p [.slice none 0 0,.slice none 0 0,.slice none 0 0,.slice none 0 0,.slice none 0 0,.slice (some U) N N,.map (some m),.slice (some Y) N N,.slice none 0 0,.slice none 0 0,.slice none 0 0]
 sp:oH w7 p 11
 hU:Own w7 w1.heap.size T.bH 1 (some U) N N (List.replicate N (.slice none 0 0))
 hY:Own w7 w1.heap.size T.jG 5 (some Y) N N ((List.replicate N wR).flatMap Edge.vals)
 hm:rQ Value.string iv w7 m ([]:List (ByteArray×Int))
 ext:Ext w1 w7
 pB:w1.heap.size<=p.block
 mB:w1.heap.size<=m
 pl:p.block<w7.heap.size
 d1:p.block≠U.block
 d2:p.block≠Y.block
 d3:p.block≠m
 d4:U.block≠Y.block
 d5:U.block≠m
 d6:Y.block≠m
theorem Laid.of {w1 wm wm' wu wu' wy wy' wp wp' w7:World} {p:Addr} {m N:Nat} (E1:Ext w1 wm) (hm:aAe wm m wm') (E2:Ext wm' w7) (E3:Ext w1 wu) (hu:Own wu' wu.heap.size T.bH 1 (some ⟨wu.heap.size,0,none⟩) N N (List.replicate N (.slice none 0 0))) (E4:Ext wu' w7) (E5:Ext w1 wy) (hy:Own wy' wy.heap.size T.jG 5 (some ⟨wy.heap.size,0,none⟩) N N ((List.replicate N wR).flatMap Edge.vals)) (E6:Ext wy' w7)
  (E7:Ext w1 wp) (hp:New wp (.cells #[.slice none 0 0,.slice none 0 0,.slice none 0 0,.slice none 0 0,.slice none 0 0,.slice (some ⟨wu.heap.size,0,none⟩) N N,.map (some m),.slice (some ⟨wy.heap.size,0,none⟩) N N,.slice none 0 0,.slice none 0 0,.slice none 0 0] T.rO) p wp') (E8:Ext wp' w7)
  (d1:wp.heap.size≠wu.heap.size) (d2:wp.heap.size≠wy.heap.size) (d3:wp.heap.size≠wm.heap.size) (d4:wu.heap.size≠wy.heap.size) (d5:wu.heap.size≠wm.heap.size) (d6:wy.heap.size≠wm.heap.size) (E:Ext w1 w7):
  Laid w1 w7 p ⟨wu.heap.size,0,none⟩ ⟨wy.heap.size,0,none⟩ m N:=by
 have bp:=hp.block
 have bm:=hm.at_
 have sp:=hp.size
 have s8:=E8.size
 exact⟨E8.cells (hp.cells rfl),E8.soft (hp.soft rfl) (fun h=>h),(hu.keep E4 (fun _ _ h=>h)).xE E3.size,(hy.keep E6 (fun _ _ h=>h)).xE E5.size,(rQ.new hm).keep E2 (fun h=>h),E,by rw[bp];exact E7.size,by rw[bm];exact E1.size,by omega,by rw[bp];exact d1,by rw[bp];exact d2,by rw[bp,bm];exact d3,d4,by rw[bm];exact d5,by rw[bm];exact d6⟩
theorem L2.aM1 {fs:List Flat} {nv:NV} {W0 i:Nat} {g:GS} {us:List Edge} {x:Flat} (L:L2 fs nv W0 i g us) (hx:fs[i]? =some x) (h:¬0<=x.fn) (hC:fs.length*(W0+2)+1<=549755813888):L2 fs nv W0 (i+1) g us:=by
 have hi:=(List.getElem?_eq_some_iff.1 hx).1
 have hnx:nodeAt g (i:Int)=x:=by
  unfold nodeAt
  rw[L.nodes,Int.toNat_natCast,List.getD_eq_getElem?_getD,hx]
  rfl
 have hf:fs.length*(W0+1)+(i+1)<=549755813888:=by
  have:fs.length*(W0+2)=fs.length*(W0+1)+fs.length:=by rw[show W0+2=(W0+1)+1 by omega,Nat.mul_succ]
  omega
 have b1:=L.bd.chg
 have b2:=L.bd.work
 exact⟨L.nodes,L.nvals,(L.inv.aM1 (by rw[hnx];exact h)).up (aD3 fs (by omega)),⟨by omega,by omega,hf,L.bd.wfew⟩,L.allc,L.stand,L.marks⟩
section
variable {B0:Nat}
theorem L2.live {fs:List Flat} {nv:NV} {W0:Nat} {g:GS} {us:List Edge} (L:L2 fs nv W0 fs.length g us) (hW:Ns fs fs.length<=W0) (hC:fs.length*(W0+2)+1<=549755813888):zM (fs.length*(W0+2)+1) W0 {g with changes:=[]} us:=by
 have e:fs.length*(W0+2)=fs.length*(W0+1)+fs.length:=by rw[show W0+2=(W0+1)+1 by omega,Nat.mul_succ]
 have hm:(fs.length-us.length)*(W0+1)<=fs.length*(W0+1):=Nat.mul_le_mul_right _ (by omega)
 have hn:=L.nodes
 refine⟨?_,⟨?_,?_,hC,L.bd.wfew⟩,⟨?_,?_,?_⟩,?_,?_⟩
 ·show GInv W0 g.nodes.length _ us []
  have el:g.nodes.length=fs.length:=by rw[hn]
  rw[el]
  exact(L.inv.up hW).chg []
 ·show 0+(g.nodes.length-us.length)*(W0+1)<=_
  rw[hn];omega
 ·show 0+(g.nodes.length-us.length)*(W0+1)<=_
  rw[hn];omega
 ·show∀s∈g.stand,_
  rw[L.stand];simp
 ·show∀s∈g.stand,_
  rw[L.stand];simp
 ·intro u hu hc
  rw[L.allc u hu] at hc
  cases hc
 ·show Chain _ _ _ us g.stand g.marks
  rw[L.marks]
  exact .base _ _ _
 ·show g.nodes.length*(W0+1)+1<=_
  rw[hn];omega
theorem aNd {w:World} {A1:Option Addr} {c1:Nat} {fs:List Flat} {W0:Nat} (hx:∀w',Ext w w'->Sl mO w' A1 fs.length fs) (hB:B0<=w.heap.size) (tab:yG B0 w) (few:fs.length<=1048576) (h64:∀x∈fs,I64 x.fn) (hW:Ns fs fs.length<=W0) (hW0:W0<=1048576) (hC:fs.length*(W0+2)+1<=549755813888):
  Calls P F.Vb #[.slice A1 fs.length c1] w (cO fun v w'=>(¬Sound fs/\v= .tuple #[.pointer none,iv 80]/\Ext w w')\/(Sound fs/\∃p U M H g us,v= .tuple #[.pointer (some p),iv 0]/\Gr (fs.length*(W0+2)+1) W0 B0 w' p U M fs.length H g us/\g.nodes=fs/\g.stand=[]/\g.marks=[]/\dU (fun _=>False) w H w')):=by
 refine cO.mono (aKt A1 fs.length c1 (fun q e w'=>(¬Sound fs/\q=none/\e=80/\Ext w w')\/(Sound fs/\∃p U M H g us,q=some p/\e=0/\Gr (fs.length*(W0+2)+1) W0 B0 w' p U M fs.length H g us/\g.nodes=fs/\g.stand=[]/\g.marks=[]/\dU (fun _=>False) w H w')) w ?_) (by
  rintro _ w' ⟨q,e,rfl,h⟩
  rcases h with⟨h1,rfl,rfl,h2⟩|⟨h1,p,U,M,H,g,us,rfl,rfl,h2⟩
  ·exact .inl ⟨h1,rfl,h2⟩
  ·exact .inr ⟨h1,p,U,M,H,g,us,rfl,h2⟩)
 generalize hKd:(fun(q:Option Addr) (e:Int) w'=>(¬Sound fs/\q=none/\e=80/\Ext w w')\/(Sound fs/\∃p U M H g us,q=some p/\e=0/\Gr (fs.length*(W0+2)+1) W0 B0 w' p U M fs.length H g us/\g.nodes=fs/\g.stand=[]/\g.marks=[]/\dU (fun _=>False) w H w'))=K
 have smN:Sm fs.length:=by unfold Sm;omega
 unfold aCe
 refine(aIf c1 (hx w (Ext.refl w)) smN).mono ?_
 rintro _ w1 ⟨_,rfl,b,rfl,hb,E1⟩
 refine⟨_,rfl,b,rfl,fun hn=> ?_,fun hn=> ?_⟩
 ·rw[<-hKd]
  exact .inl ⟨fun hs=>(by rw[hb.2 hs] at hn;cases hn),rfl,rfl,E1⟩
 have hsound:Sound fs:=hb.1 (by cases b<;>simp at hn⊢)
 have tab1:yG B0 w1:=zH tab E1 hB (fun _ _ h=>h.elim)
 have main:∀w7 p U Y m,Laid w1 w7 p U Y m fs.length->rV fs.length A1 K p w7:=by
  intro w7 p U Y m La
  have hB1:B0<=w1.heap.size:=Nat.le_trans hB E1.size
  have tab7:yG B0 w7:=zH tab1 La.ext hB1 (fun _ _ h=>h.elim)
  have g0:=aOa La.hp La.sp La.hU La.hY La.hm hB1 La.pB La.mB La.pl La.d1 La.d2 La.d3 La.d4 La.d5 La.d6 tab7
  have lU:=La.hU.lt_
  have lY:=La.hY.lt_
  have pB:=La.pB
  have mB:=La.mB
  have sz1:=E1.size
  have adv0:dU (fun _=>False) w (fun b=>b=p.block\/b=U.block\/b=Y.block\/b=m) w7:=⟨E1.trans La.ext,fun i hi hh=>by rcases hh with rfl|rfl|rfl|rfl<;>omega⟩
  have e0:g00 fs.length=zL fs ⟨none,[]⟩ fs.length 0:=by
   unfold g00 zL
   simp[idx]
  rw[e0] at g0
  refine⟨fun k i w'=>k=fs.length-i.toNat/\0<=i/\i<=fs.length/\∃A n c H nv,dF B0 w' p U m fs.length A n c H (zL fs nv fs.length i.toNat)/\dU (fun _=>False) w H w',⟨_,rfl,by omega,by omega,_,_,_,_,_,g0,adv0⟩,?_⟩
  rintro k1 i w2 ⟨rfl,i0,i1,A,n,c,H,nv,gi,advi⟩
  refine⟨fun hlt=> ?_,fun hge=> ?_⟩
  ·obtain⟨x,ad,C,k,d,hxi,hA,hcell,hk,hI⟩:=(hx w2 advi.keep).flat i0 hlt
   refine⟨i0,hlt,ad,hA,_,_,_,_,hcell,fun p8 w3 hN3=> ?_⟩
   obtain⟨g3,adv3,q3⟩:=Loc.new gi hN3 (us:=[iv 0,.slice none 0 0]) rfl
   refine⟨q3.soft,fun w4 hw4=> ?_⟩
   obtain⟨g4,adv4,q4,kp4⟩:=q3.set g3 (vs:=[iv x.fn,.slice C k d]) rfl hw4
   have E24:Ext w2 w4:=(Ext.eY hN3).over kp4 (fun i hi hh=>by rw[hN3.block] at hh;omega)
   have hi':i.toNat<fs.length:=by omega
   obtain⟨X1,A13,n13,c13,r1,r2,r3,rfl⟩:=aNu (k1:=fs.length-i.toNat) (I1:=fun k i w'=>k=fs.length-i.toNat/\0<=i/\i<=fs.length/\∃A n c H nv,dF B0 w' p U m fs.length A n c H (zL fs nv fs.length i.toNat)/\dU (fun _=>False) w H w') (d:=d) g4 hi' smN hxi (hI.ext E24) hk rfl (fun w' A' n' c' H' nv' g' adv' _=>by
    refine⟨fs.length-(i.toNat+1),by omega,?_⟩
    rw[toNat_cast i0,gI (n:=fs.length) i0 hlt smN]
    refine⟨by omega,by omega,by omega,A',n',c',H',nv',?_,advi.trans (adv3.trans (adv4.trans adv'))⟩
    rw[show(i+1).toNat=i.toNat+1 by omega]
    exact g')
   rw[toNat_cast i0] at r3
   exact⟨_,A13,n13,c13,r1,r2,x.fn,q4.cells 0 _ rfl,fun h=>h,C,k,d,q4.cells 1 _ rfl,r3⟩
  ·have hi:i.toNat=fs.length:=by omega
   rw[hi] at gi
   have e4:=gi.n4
   rw[show(zL fs nv fs.length fs.length).nodes=fs from List.take_length] at e4
   refine⟨A 4,n 4,c 4,gi.cell (show 4<9 by omega),?_⟩
   rw[<-e4]
   have hf:fs.length*(W0+1)<=549755813888:=by
    have:fs.length*(W0+2)=fs.length*(W0+1)+fs.length:=by rw[show W0+2=(W0+1)+1 by omega,Nat.mul_succ]
    omega
   have L0:L2 fs nv W0 0 (zL fs nv fs.length fs.length) []:=⟨List.take_length,rfl,aMe (W0:=W0) hsound few h64,⟨by
     show 0+((fs.take fs.length).length-0)*(W0+1)<=_
     rw[List.take_length,Nat.sub_zero];omega,by
     show 0+((fs.take fs.length).length-0)*(W0+1)<=_
     rw[List.take_length,Nat.sub_zero];omega,by omega,hW0⟩,by simp,rfl,rfl⟩
   refine⟨fun k i w'=>k=fs.length-i.toNat/\0<=i/\i<=fs.length/\∃A n c H g us,dF B0 w' p U m fs.length A n c H g/\L2 fs nv W0 i.toNat g us/\dU (fun _=>False) w H w',⟨_,rfl,by omega,by omega,A,n,c,H,_,[],gi,L0,advi⟩,?_⟩
   have hA4:A 4=nv.adr:=gi.nad
   rintro k3 i w3 ⟨rfl,i0,i1,A3,n3,c3,H3,g,us,g3,L,adv3⟩
   refine⟨fun hlt=> ?_,fun hge=> ?_⟩
   ·have hi':i.toNat<fs.length:=by omega
    obtain⟨x,hxi⟩:∃x,fs[i.toNat]? =some x:=⟨_,List.getElem?_eq_getElem hi'⟩
    obtain⟨a,C,k,d,ha,ev,hcell,hk,hkl⟩:=g3.aJg (i:=i.toNat) (x:=x) (by rw[L.nodes];exact hxi)
    rw[L.nvals] at ha ev
    refine⟨i0,hlt,a,by rw[hA4];exact ha,_,_,_,_,hcell,fun p20 w4 hN4=> ?_⟩
    obtain⟨g4,adv4,q4⟩:=Loc.new g3 hN4 (us:=[iv 0,.slice none 0 0]) rfl
    refine⟨q4.soft,fun w5 hw5=> ?_⟩
    obtain⟨g5,adv5,q5,_⟩:=q4.set g4 (vs:=[iv x.fn,.slice C k d]) rfl hw5
    have next:∀w' A' n' c' H' g' us',dF B0 w' p U m fs.length A' n' c' H' g'->L2 fs nv W0 (i.toNat+1) g' us'->dU (fun _=>False) w H' w'->yC (fs.length-i.toNat) (fun k i w'=>k=fs.length-i.toNat/\0<=i/\i<=fs.length/\∃A n c H g us,dF B0 w' p U m fs.length A n c H g/\L2 fs nv W0 i.toNat g us/\dU (fun _=>False) w H w') i w':=by
     intro w' A' n' c' H' g' us' h1 h2 h3
     refine⟨fs.length-(i.toNat+1),by omega,?_⟩
     rw[gI (n:=fs.length) i0 hlt smN]
     exact⟨by omega,by omega,by omega,A',n',c',H',g',us',h1,by rw[show(i+1).toNat=i.toNat+1 by omega];exact h2,h3⟩
    refine⟨x.fn,q5.cells 0 _ rfl,fun hneg=>next w5 A3 n3 c3 _ g us g5 (L.aM1 hxi (by omega) hC) (adv3.trans (adv4.trans adv5)),fun hpos=>⟨C,k,d,q5.cells 1 _ rfl,?_⟩⟩
    have key:=aKm (d:=d) (i:=i.toNat) g5 L rfl hxi (by omega) hW hW0 hC ev hkl (J:=yC (fs.length-i.toNat) (fun k i w'=>k=fs.length-i.toNat/\0<=i/\i<=fs.length/\∃A n c H g us,dF B0 w' p U m fs.length A n c H g/\L2 fs nv W0 i.toNat g us/\dU (fun _=>False) w H w') i) (wS:=w) (HS:=H) (fun w' A' n' c' H' g' us' h1 h2 h3 _=>next w' A' n' c' H' g' us' h1 h2 (adv3.trans (adv4.trans (adv5.trans h3))))
    rw[toNat_cast i0] at key
    exact key
   ·have hi:i.toNat=fs.length:=by omega
    rw[hi] at L
    have c9:=g3.cell (show 7<9 by omega)
    refine⟨⟨_,c9⟩,g3.yK.froz 7 (show 7<9+fs.length by omega),fun w4 hw4=> ?_⟩
    obtain⟨A5,n5,c5,H5,g5,adv5,_⟩:=g3.clear hw4
    rw[<-hKd]
    exact .inr ⟨hsound,p,U,m,H5,_,us,rfl,rfl,⟨⟨A5,n5,c5,g5⟩,L.live hW hC,by show g.nodes.length=_;rw[L.nodes]⟩,L.nodes,L.stand,L.marks,adv3.trans adv5⟩
 have dsz:∀{a b:World},aO a b->b.heap.size=a.heap.size:=fun h=>by rw[h.heap]
 have msz:∀{a b:World} {m:Nat},aAe a m b->b.heap.size=a.heap.size+1:=fun h=>by rw[h.is];simp
 have D:=fun {a b:World} (h:aO a b)=>Ext.aK h
 have EM:=fun {a b:World} {m:Nat} (h:aAe a m b)=>(Ext.refl a).aO0 h
 refine⟨fun v0 hv0 m1 v1 hM=>⟨fun v2 hv2=> ?_,fun v2 hv2=> ?_⟩,fun v0 hv0=> ?_,fun v0 hv0=> ?_⟩
 ·obtain⟨v3,r1,o1,e1⟩:=Wq (w:=v2) few
  refine⟨_,_,_,v3,r1,fun v4 hv4=> ?_⟩
  obtain⟨v5,r2,o2,e2⟩:=aAa (w:=v4) few
  refine⟨_,_,_,v5,r2,fun v6 hv6 p1 v7 hN v8 hv8=> ?_⟩
  have x6:=((D hv6).new hN).drawn hv8
  have x5:=(e2).trans x6
  have x4:=(D hv4).trans x5
  have x3:=(e1).trans x4
  have x2:=(D hv2).trans x3
  have x1:=(EM hM).trans x2
  have x0:=(D hv0).trans x1
  have b0:=D hv0
  have b1:=b0.trans (EM hM)
  have b2:=b1.trans (D hv2)
  have b3:=b2.trans (e1)
  have b4:=b3.trans (D hv4)
  have b5:=b4.trans (e2)
  have b6:=b5.trans (D hv6)
  have y0:=dsz hv0
  have y2:=dsz hv2
  have y4:=dsz hv4
  have y6:=dsz hv6
  have z0:=msz hM
  have z1:=o1.lt_
  have z2:=o2.lt_
  refine main _ _ _ _ _ (Laid.of b0 hM x2 b2 o1 x4 b4 o2 x6 b6 hN (D hv8) ?_ ?_ ?_ ?_ ?_ ?_ x0)<;>simp only at z1 z2<;>omega
 ·obtain⟨v3,r1,o1,e1⟩:=aAa (w:=v2) few
  refine⟨_,_,_,v3,r1,fun v4 hv4=> ?_⟩
  obtain⟨v5,r2,o2,e2⟩:=Wq (w:=v4) few
  refine⟨_,_,_,v5,r2,fun v6 hv6 p1 v7 hN v8 hv8=> ?_⟩
  have x6:=((D hv6).new hN).drawn hv8
  have x5:=(e2).trans x6
  have x4:=(D hv4).trans x5
  have x3:=(e1).trans x4
  have x2:=(D hv2).trans x3
  have x1:=(EM hM).trans x2
  have x0:=(D hv0).trans x1
  have b0:=D hv0
  have b1:=b0.trans (EM hM)
  have b2:=b1.trans (D hv2)
  have b3:=b2.trans (e1)
  have b4:=b3.trans (D hv4)
  have b5:=b4.trans (e2)
  have b6:=b5.trans (D hv6)
  have y0:=dsz hv0
  have y2:=dsz hv2
  have y4:=dsz hv4
  have y6:=dsz hv6
  have z0:=msz hM
  have z1:=o1.lt_
  have z2:=o2.lt_
  refine main _ _ _ _ _ (Laid.of b0 hM x2 b4 o2 x6 b2 o1 x4 b6 hN (D hv8) ?_ ?_ ?_ ?_ ?_ ?_ x0)<;>simp only at z1 z2<;>omega
 ·obtain⟨v1,r0,o0,e0⟩:=Wq (w:=v0) few
  refine⟨_,_,_,v1,r0,fun v2 hv2=> ?_,fun v2 hv2=> ?_⟩
  ·intro m1 v3 hM v4 hv4
   obtain⟨v5,r2,o2,e2⟩:=aAa (w:=v4) few
   refine⟨_,_,_,v5,r2,fun v6 hv6 p1 v7 hN v8 hv8=> ?_⟩
   have x6:=((D hv6).new hN).drawn hv8
   have x5:=(e2).trans x6
   have x4:=(D hv4).trans x5
   have x3:=(EM hM).trans x4
   have x2:=(D hv2).trans x3
   have x1:=(e0).trans x2
   have x0:=(D hv0).trans x1
   have b0:=D hv0
   have b1:=b0.trans (e0)
   have b2:=b1.trans (D hv2)
   have b3:=b2.trans (EM hM)
   have b4:=b3.trans (D hv4)
   have b5:=b4.trans (e2)
   have b6:=b5.trans (D hv6)
   have y0:=dsz hv0
   have y2:=dsz hv2
   have y4:=dsz hv4
   have y6:=dsz hv6
   have z0:=o0.lt_
   have z1:=msz hM
   have z2:=o2.lt_
   refine main _ _ _ _ _ (Laid.of b2 hM x4 b0 o0 x2 b4 o2 x6 b6 hN (D hv8) ?_ ?_ ?_ ?_ ?_ ?_ x0)<;>simp only at z0 z2<;>omega
  ·obtain⟨v3,r1,o1,e1⟩:=aAa (w:=v2) few
   refine⟨_,_,_,v3,r1,fun v4 hv4=> ?_⟩
   intro m1 v5 hM v6 hv6
   intro p1 v7 hN v8 hv8
   have x6:=((D hv6).new hN).drawn hv8
   have x5:=(EM hM).trans x6
   have x4:=(D hv4).trans x5
   have x3:=(e1).trans x4
   have x2:=(D hv2).trans x3
   have x1:=(e0).trans x2
   have x0:=(D hv0).trans x1
   have b0:=D hv0
   have b1:=b0.trans (e0)
   have b2:=b1.trans (D hv2)
   have b3:=b2.trans (e1)
   have b4:=b3.trans (D hv4)
   have b5:=b4.trans (EM hM)
   have b6:=b5.trans (D hv6)
   have y0:=dsz hv0
   have y2:=dsz hv2
   have y4:=dsz hv4
   have y6:=dsz hv6
   have z0:=o0.lt_
   have z1:=o1.lt_
   have z2:=msz hM
   refine main _ _ _ _ _ (Laid.of b4 hM x6 b0 o0 x2 b2 o1 x4 b6 hN (D hv8) ?_ ?_ ?_ ?_ ?_ ?_ x0)<;>simp only at z0 z1<;>omega
 ·obtain⟨v1,r0,o0,e0⟩:=aAa (w:=v0) few
  refine⟨_,_,_,v1,r0,fun v2 hv2=> ?_,fun v2 hv2=> ?_⟩
  ·intro m1 v3 hM v4 hv4
   obtain⟨v5,r2,o2,e2⟩:=Wq (w:=v4) few
   refine⟨_,_,_,v5,r2,fun v6 hv6 p1 v7 hN v8 hv8=> ?_⟩
   have x6:=((D hv6).new hN).drawn hv8
   have x5:=(e2).trans x6
   have x4:=(D hv4).trans x5
   have x3:=(EM hM).trans x4
   have x2:=(D hv2).trans x3
   have x1:=(e0).trans x2
   have x0:=(D hv0).trans x1
   have b0:=D hv0
   have b1:=b0.trans (e0)
   have b2:=b1.trans (D hv2)
   have b3:=b2.trans (EM hM)
   have b4:=b3.trans (D hv4)
   have b5:=b4.trans (e2)
   have b6:=b5.trans (D hv6)
   have y0:=dsz hv0
   have y2:=dsz hv2
   have y4:=dsz hv4
   have y6:=dsz hv6
   have z0:=o0.lt_
   have z1:=msz hM
   have z2:=o2.lt_
   refine main _ _ _ _ _ (Laid.of b2 hM x4 b4 o2 x6 b0 o0 x2 b6 hN (D hv8) ?_ ?_ ?_ ?_ ?_ ?_ x0)<;>simp only at z0 z2<;>omega
  ·obtain⟨v3,r1,o1,e1⟩:=Wq (w:=v2) few
   refine⟨_,_,_,v3,r1,fun v4 hv4=> ?_⟩
   intro m1 v5 hM v6 hv6
   intro p1 v7 hN v8 hv8
   have x6:=((D hv6).new hN).drawn hv8
   have x5:=(EM hM).trans x6
   have x4:=(D hv4).trans x5
   have x3:=(e1).trans x4
   have x2:=(D hv2).trans x3
   have x1:=(e0).trans x2
   have x0:=(D hv0).trans x1
   have b0:=D hv0
   have b1:=b0.trans (e0)
   have b2:=b1.trans (D hv2)
   have b3:=b2.trans (e1)
   have b4:=b3.trans (D hv4)
   have b5:=b4.trans (EM hM)
   have b6:=b5.trans (D hv6)
   have y0:=dsz hv0
   have y2:=dsz hv2
   have y4:=dsz hv4
   have y6:=dsz hv6
   have z0:=o0.lt_
   have z1:=o1.lt_
   have z2:=msz hM
   refine main _ _ _ _ _ (Laid.of b4 hM x6 b2 o1 x4 b0 o0 x2 b6 hN (D hv8) ?_ ?_ ?_ ?_ ?_ ?_ x0)<;>simp only at z0 z1<;>omega
end
inductive CC (ns:List Flat) (E:Int->Int->Prop):Int->Int->Prop
 |base {x y:Int}:Vn ns.length x->Vn ns.length y->E x y->CC ns E x y
 |refl {x:Int}:Vn ns.length x->CC ns E x x
 |symm {x y:Int}:CC ns E x y->CC ns E y x
 |trans {x y z:Int}:CC ns E x y->CC ns E y z->CC ns E x z
 |wZ {p q:Int}:Vn ns.length p->Vn ns.length q->0<=(fG ns p).fn->(fG ns p).fn=(fG ns q).fn->(fG ns p).args.length=(fG ns q).args.length->(∀(i:Nat) a b,(fG ns p).args[i]? =some a->(fG ns q).args[i]? =some b->CC ns E a b)->CC ns E p q
theorem CC.val {ns:List Flat} {E:Int->Int->Prop} {x y:Int} (h:CC ns E x y):Vn ns.length x/\Vn ns.length y:=by
 induction h with
 |base h1 h2 _=>exact⟨h1,h2⟩
 |refl h=>exact⟨h,h⟩
 |symm _ ih=>exact⟨ih.2,ih.1⟩
 |trans _ _ ih1 ih2=>exact⟨ih1.1,ih2.2⟩
 |wZ h1 h2=>exact⟨h1,h2⟩
theorem CC.mono {ns:List Flat} {E E':Int->Int->Prop} (hE:∀x y,E x y->E' x y) {x y:Int} (h:CC ns E x y):CC ns E' x y:=by
 induction h with
 |base h1 h2 h3=>exact .base h1 h2 (hE _ _ h3)
 |refl h=>exact .refl h
 |symm _ ih=>exact ih.symm
 |trans _ _ ih1 ih2=>exact ih1.trans ih2
 |wZ h1 h2 h3 h4 h5 _ ih=>exact .wZ h1 h2 h3 h4 h5 ih
theorem CC.least {ns:List Flat} {E:Int->Int->Prop} {f:Int->Int} (hE:∀x y,Vn ns.length x->Vn ns.length y->E x y->f x=f y) (hc:∀p q,Kt ns (fun a b=>f a=f b) p q->f p=f q) {x y:Int} (h:CC ns E x y):f x=f y:=by
 induction h with
 |base h1 h2 h3=>exact hE _ _ h1 h2 h3
 |refl h=>rfl
 |symm _ ih=>exact ih.symm
 |trans _ _ ih1 ih2=>exact ih1.trans ih2
 |wZ h1 h2 h3 h4 h5 _ ih=>exact hc _ _ ⟨h1,h2,h3,h4,h5,ih⟩
def aGq (st:List dK) (T:Int->Prop) (x y:Int):Prop:=∃s∈st,s.not=false/\T s.tag/\s.a=x/\s.b=y
abbrev aGv (st:List dK):Int->Int->Prop:=aGq st fun _=>True
theorem GInv.closed {W:Nat} {g:GS} {us:List Edge} (h:GInv W g.nodes.length g us []) {p q:Int} (k:Kt g.nodes (fun a b=>fd g a=fd g b) p q):fd g p=fd g q:=by
 have hs:fC g p=fC g q:=by
  unfold fC
  rw[show(nodeAt g p).fn=(nodeAt g q).fn from k.fn]
  congr 1
  refine List.ext_getElem? fun i=> ?_
  rw[List.getElem?_map,List.getElem?_map]
  have hl:=k.len
  rcases Nat.lt_or_ge i (fG g.nodes p).args.length with hi|hi
  ·have h1:(nodeAt g p).args[i]? =some ((fG g.nodes p).args[i]):=List.getElem?_eq_getElem hi
   have h2:(nodeAt g q).args[i]? =some ((fG g.nodes q).args[i]'(by omega)):=List.getElem?_eq_getElem (show i<(fG g.nodes q).args.length by omega)
   rw[h1,h2]
   exact congrArg some (k.args i _ _ h1 h2)
  ·have h1:(nodeAt g p).args[i]? =none:=List.getElem?_eq_none hi
   have h2:(nodeAt g q).args[i]? =none:=List.getElem?_eq_none (Nat.le_trans (Nat.le_of_eq k.len.symm) hi)
   rw[h1,h2]
 obtain⟨q1,a1,b1⟩:=h.table p k.v1 k.v1.2 k.app
 obtain⟨q2,a2,b2⟩:=h.table q k.v2 k.v2.2 (by rw[Wx,<-k.fn];exact k.app)
 rw[hs] at a1
 rw[a1] at a2
 cases a2
 exact b1.done.trans b2.done.symm
theorem GInv.aQ8 {W m:Nat} {g:GS} {us:List Edge} {E:Int->Int->Prop} (h:GInv W m g us []) (hsrc:∀u∈us,u.wZ=false->E u.a u.b):∀(k:Nat) (x y:Int),yE (us.take k) x y->x=y\/CC g.nodes E x y:=by
 intro k
 induction k using Nat.strongRecOn with
 |ind k ih=>
  intro x y hc
  induction hc with
  |refl x=>exact .inl rfl
  | @edge u hu=>
   obtain⟨j,hj⟩:=List.mem_iff_getElem?.1 hu
   have hjk:j<k:=by
    have:=(List.getElem?_eq_some_iff.1 hj).1
    rw[List.length_take] at this
    omega
   rw[List.getElem?_take,if_pos hjk] at hj
   obtain⟨v1,v2⟩:=h.forest.val u (List.mem_of_getElem? hj)
   right
   cases hcg:u.wZ with
   |false=>exact .base v1 v2 (hsrc u (List.mem_of_getElem? hj) hcg)
   |true=>
    have c:=(h.just j u hj).1 hcg
    refine .wZ c.v1 c.v2 c.app c.fn c.len fun i a b ha hb=> ?_
    rcases ih j hjk a b (c.args i a b ha hb) with e|e
    ·subst e
     exact .refl (qB h.sound c.v1 (List.mem_of_getElem? ha))
    ·exact e
  |symm _ ih'=>exact ih'.imp (fun e=>e.symm) fun e=>e.symm
  |trans _ _ i1 i2=>
   rcases i1 with rfl|i1
   ·exact i2
   ·rcases i2 with rfl|i2
    ·exact .inr i1
    ·exact .inr (i1.trans i2)
theorem aQt {W:Nat} {g:GS} {us:List Edge} {st:List dK} (h:GInv W g.nodes.length g us []) (s:Sem g us st) {x y:Int} (hx:Vn g.nodes.length x) (hy:Vn g.nodes.length y):fd g x=fd g y↔CC g.nodes (aGv st) x y:=by
 constructor
 ·intro e
  have hc:=h.conn1 x y hx hy e
  have:=h.aQ8 (E:=aGv st) (fun u hu hc=>by
   obtain⟨t,h1,h2,h3,h4,h5⟩:=s.src u hu hc
   exact⟨t,h1,h2,trivial,h3,h4⟩) us.length x y (by rw[List.take_length];exact hc)
  rcases this with rfl|k
  ·exact .refl hx
  ·exact k
 ·intro k
  exact CC.least (fun x y _ _ ⟨t,h1,h2,_,h3,h4⟩=>by rw[<-h3,<-h4];exact s.eqs t h1 h2) (fun p q c=>h.closed c) k
def Cb:Nat->List Int->List Int->List Int×List Int
 |0,u,d=>(u,d)
 |f+1,u,d=>if u≠[]/\d≠[]/\endOf u=endOf d then Cb f u.dropLast d.dropLast else(u,d)
def rJ (g:GS) (a b:Int):List Int×List Int:=Cb g.nodes.length (pathOf g a) (pathOf g b)
theorem aDs {l:List Int} (h:l≠[]):l=l.dropLast++[endOf l]:=by
 conv=>lhs;rw[<-List.dropLast_concat_getLast h]
 congr 2
 unfold endOf
 rw[List.getLastD_eq_getLast?,List.getLast?_eq_some_getLast h]
 rfl
theorem aEa:∀(f:Nat) (u d:List Int),u.length<=f\/d.length<=f->∃c,u=(Cb f u d).1++c/\d=(Cb f u d).2++c/\((Cb f u d).1≠[]->(Cb f u d).2≠[]->endOf (Cb f u d).1≠endOf (Cb f u d).2)/\(u≠[]->d≠[]->endOf u=endOf d->c≠[])
 |0,u,d,h=>by
  have e0:Cb 0 u d=(u,d):=rfl
  rw[e0]
  refine⟨[],by simp,by simp,fun h1 h2=> ?_,fun h1 h2=> ?_⟩
  ·rcases h with h|h
   ·exact absurd (List.length_eq_zero_iff.1 (Nat.le_zero.1 h)) h1
   ·exact absurd (List.length_eq_zero_iff.1 (Nat.le_zero.1 h)) h2
  ·rcases h with h|h
   ·exact absurd (List.length_eq_zero_iff.1 (Nat.le_zero.1 h)) h1
   ·exact absurd (List.length_eq_zero_iff.1 (Nat.le_zero.1 h)) h2
 |f+1,u,d,h=>by
  by_cases hc:u≠[]/\d≠[]/\endOf u=endOf d
  ·obtain⟨h1,h2,h3⟩:=hc
   have lu:=List.length_pos_iff.2 h1
   have ld:=List.length_pos_iff.2 h2
   obtain⟨c,k1,k2,k3,_⟩:=aEa f u.dropLast d.dropLast (by rw[List.length_dropLast,List.length_dropLast];omega)
   have e:Cb (f+1) u d=Cb f u.dropLast d.dropLast:=by
    show(if _ then _ else _)=_
    rw[if_pos ⟨h1,h2,h3⟩]
   rw[e]
   refine⟨c++[endOf u],?_,?_,k3,fun _ _ _=>by simp⟩
   ·rw[<-List.append_assoc,<-k1]
    exact aDs h1
   ·rw[<-List.append_assoc,<-k2,h3]
    exact aDs h2
  ·have e:Cb (f+1) u d=(u,d):=by
    show(if _ then _ else _)=_
    rw[if_neg hc]
   rw[e]
   refine⟨[],by simp,by simp,fun h1 h2 h3=>hc ⟨h1,h2,h3⟩,fun h1 h2 h3=>absurd ⟨h1,h2,h3⟩ hc⟩
theorem aAv {W m:Nat} {g:GS} {us l:List Edge} (h:GInv W m g us l) {a b:Int} (ha:Vn g.nodes.length a) (hb:Vn g.nodes.length b) (e:fd g a=fd g b):
  ∃c,c≠[]/\Up g.why a ((rJ g a b).1++c)/\Up g.why b ((rJ g a b).2++c)/\(∀z∈(rJ g a b).1,z∉(rJ g a b).2)/\(∀z∈(rJ g a b).1,Vn g.nodes.length z/\0<=(aW g.why z).to)/\(∀z∈(rJ g a b).2,Vn g.nodes.length z/\0<=(aW g.why z).to):=by
 obtain⟨ua,va⟩:=h.way ha
 obtain⟨ub,vb⟩:=h.way hb
 have la:=tV _ _ ua.nodup fun y hy=>(va y hy).1
 have hends:=h.forest.ends a b _ _ ha hb e ua ub
 obtain⟨c,k1,k2,k3,k4⟩:=aEa g.nodes.length (pathOf g a) (pathOf g b) (.inl la)
 have hc:=k4 ua.ne ub.ne hends
 have to_:∀(x:Int) (l:List Int),Up g.why x l->∀p,l=p++c->∀z∈p,0<=(aW g.why z).to:=by
  intro x l hu
  induction hu with
  | @stop x h0=>
   intro p hp z hz
   have:=congrArg List.length hp
   simp at this
   have hcl:=List.length_pos_iff.2 hc
   have:p=[]:=List.length_eq_zero_iff.1 (by omega)
   rw[this] at hz
   simp at hz
  | @step x l h0 h1 ih=>
   intro p hp z hz
   cases p with
   |nil=>simp at hz
   |cons y p=>
    injection hp with e1 e2
    subst e1
    rcases List.mem_cons.1 hz with rfl|hz
    ·exact h0
    ·exact ih p e2 z hz
 refine⟨c,hc,by have:=ua;rw[k1] at this;exact this,by have:=ub;rw[k2] at this;exact this,?_,fun z hz=>⟨(va z (by rw[k1];exact List.mem_append.2 (.inl hz))).1,to_ a _ ua _ k1 z hz⟩,fun z hz=>⟨(vb z (by rw[k2];exact List.mem_append.2 (.inl hz))).1,to_ b _ ub _ k2 z hz⟩⟩
 intro z h1 h2
 obtain⟨p1,q1,e1⟩:=List.append_of_mem h1
 obtain⟨p2,q2,e2⟩:=List.append_of_mem h2
 have e1':(Cb g.nodes.length (pathOf g a) (pathOf g b)).1=p1++z::q1:=e1
 have e2':(Cb g.nodes.length (pathOf g a) (pathOf g b)).2=p2++z::q2:=e2
 --from z on both go the same way
 have tail:∀(x:Int) (l:List Int),Up g.why x l->∀(p r:List Int),l=p++z::r->Up g.why z (z::r):=by
  intro x l hu
  induction hu with
  | @stop x h0=>
   intro p r hp
   cases p with
   |nil=>
    have h3:=List.cons.inj hp
    rw[<-h3.1,<-h3.2]
    exact .stop h0
   |cons y p=>have h3:=(List.cons.inj hp).2;simp at h3
  | @step x l h0 h1 ih=>
   intro p r hp
   cases p with
   |nil=>
    have h3:=List.cons.inj hp
    rw[<-h3.1,<-h3.2]
    exact .step h0 h1
   |cons y p=>exact ih p r (List.cons.inj hp).2
 have t1:=tail a _ ua p1 (q1++c) (by rw[k1,e1'];simp)
 have t2:=tail b _ ub p2 (q2++c) (by rw[k2,e2'];simp)
 have q12:=(List.cons.inj (t1.det t2)).2
 have q12':q1=q2:=List.append_cancel_right q12
 subst q12'
 refine k3 (by rw[e1'];simp) (by rw[e2'];simp) ?_
 rw[e1',e2',aAx (by simp),aAx (by simp)]
theorem aAg {why:List Edge} {R:Int->Int->Prop} (hr:∀x,R x x) (ht:∀x y z,R x y->R y z->R x z) {x:Int} {l:List Int} (h:Up why x l):∀{p c:List Int},l=p++c->c≠[]->(∀z∈p,R z (aW why z).to)->R x (c.headD 0):=by
 induction h with
 | @stop x h0=>
  intro p c e hc _
  cases p with
  |nil=>
   have:c=[x]:=by simpa using e.symm
   rw[this];exact hr x
  |cons y p=>
   have h3:=congrArg List.length e
   have:=List.length_pos_iff.2 hc
   simp only[List.length_cons,List.length_nil,List.cons_append,List.length_append] at h3
   omega
 | @step x l h0 h1 ih=>
  intro p c e hc hp
  cases p with
  |nil=>
   have:c=x::l:=by simpa using e.symm
   rw[this];exact hr x
  |cons y p=>
   have h3:=List.cons.inj e
   refine ht _ _ _ ?_ (ih h3.2 hc fun z hz=>hp z (List.mem_cons_of_mem _ hz))
   rw[h3.1]
   exact hp y (by simp)
theorem aHg {why:List Edge} {R:Int->Int->Prop} (hr:∀x,R x x) (ht:∀x y z,R x y->R y z->R x z) {x n:Int} {l:List Int} (h:Up why x l):∀{p c:List Int},l=p++c->c≠[]->n∈p->(∀z∈p,z≠n->R z (aW why z).to)->R x n/\R (aW why n).to (c.headD 0):=by
 induction h with
 | @stop x h0=>
  intro p c e hc hn _
  cases p with
  |nil=>simp at hn
  |cons y p=>
   have h3:=congrArg List.length e
   have:=List.length_pos_iff.2 hc
   simp only[List.length_cons,List.length_nil,List.cons_append,List.length_append] at h3
   omega
 | @step x l h0 h1 ih=>
  intro p c e hc hn hp
  cases p with
  |nil=>simp at hn
  |cons y p=>
   have h3:=List.cons.inj e
   have nd:(x::l).Nodup:=(Up.step h0 h1).nodup
   by_cases hyn:y=n
   ·subst hyn
    rw[h3.1]
    rw[h3.1] at h1 nd
    refine⟨hr y,aAg hr ht h1 h3.2 hc fun z hz=>hp z (List.mem_cons_of_mem _ hz) fun q=> ?_⟩
    subst q
    exact(List.nodup_cons.1 nd).1 (by rw[h3.2];simp[hz])
   ·have hn':n∈p:=(List.mem_cons.1 hn).resolve_left fun q=>hyn q.symm
    obtain⟨k1,k2⟩:=ih h3.2 hc hn' fun z hz=>hp z (List.mem_cons_of_mem _ hz)
    refine⟨ht _ _ _ ?_ k1,k2⟩
    rw[h3.1]
    exact hp y (by simp) hyn
def At_ (why us:List Edge) (n:Int) (j:Nat):Prop:=∃u,us[j]? =some u/\∃y,Ends u n y/\Out why n y u
section
variable {W m:Nat} {g:GS} {us l:List Edge}
theorem aIm (h:GInv W m g us l) {n:Int} (hn:Vn g.nodes.length n) (h0:0<=(aW g.why n).to):∃j,j<us.length/\At_ g.why us n j:=by
 obtain⟨u,hu,y,h1,h2⟩:=h.forest.only n hn h0
 obtain⟨j,hj⟩:=List.mem_iff_getElem?.1 hu
 exact⟨j,(List.getElem?_eq_some_iff.1 hj).1,u,hj,y,h1,h2⟩
theorem Jv {n:Int} {j:Nat} (h:At_ g.why us n j):∃u,us[j]? =some u/\Ends u n (aW g.why n).to/\(aW g.why n).wZ=u.wZ/\(aW g.why n).tag=u.tag/\(aW g.why n).a=u.a/\(aW g.why n).b=u.b:=by
 obtain⟨u,hu,y,h1,h2⟩:=h
 have:=Xx h2
 rw[this]
 unfold Out at h2
 refine⟨u,hu,h1,?_,?_,?_,?_⟩<;>rw[h2]
theorem aQ2 (h:GInv W m g us l) {n n':Int} {j:Nat} (hn:Vn g.nodes.length n) (hn':Vn g.nodes.length n') (h1:At_ g.why us n j) (h2:At_ g.why us n' j):n=n':=by
 obtain⟨u,hu,e1,_⟩:=Jv h1
 obtain⟨u',hu',e2,_⟩:=Jv h2
 rw[hu] at hu'
 cases hu'
 rcases Decidable.em (n=n') with q|q
 ·exact q
 exfalso
 have:n'=(aW g.why n).to/\n=(aW g.why n').to:=by
  rcases e1 with⟨a1,a2⟩|⟨a1,a2⟩<;>rcases e2 with⟨b1,b2⟩|⟨b1,b2⟩
  ·exact absurd (a1.trans b1.symm) q
  ·exact⟨b1.trans a2.symm,a1.trans b2.symm⟩
  ·exact⟨b1.trans a2.symm,a1.trans b2.symm⟩
  ·exact absurd (a1.trans b1.symm) q
 obtain⟨ln,u1,_⟩:=h.forest.way n hn
 have nd:=u1.nodup
 cases u1 with
 |stop h0=>have:=hn'.1;omega
 |step h0 u2=>
  rw[<-this.1] at u2
  cases u2 with
  |stop h3=>have:=hn.1;omega
  |step h3 u4=>
   rw[<-this.2] at u4
   obtain⟨t,ht⟩:=u4.head
   exact(List.nodup_cons.1 nd).1 (by rw[ht];simp)
theorem aPu {n:Int} {j k:Nat} (h:At_ g.why us n j) (hk:j<k):yE (us.take k) n (aW g.why n).to:=by
 obtain⟨u,hu,e,_⟩:=Jv h
 refine yE.ends (u:=u) ?_ e
 exact List.mem_of_getElem? (i:=j) (by rw[List.getElem?_take,if_pos hk];exact hu)
theorem aIl (h:GInv W m g us l) {a b:Int} (ha:Vn g.nodes.length a) (hb:Vn g.nodes.length b) {k:Nat} (hc:yE (us.take k) a b):
  ∀n,n∈(rJ g a b).1\/n∈(rJ g a b).2->∀j,At_ g.why us n j->j<k:=by
 have e:fd g a=fd g b:=(hc.mono fun u hu=>List.mem_of_mem_take hu).to h.conn2
 obtain⟨c,c0,u1,u2,dis,v1,v2⟩:=aAv h ha hb e
 have vv:∀n,n∈(rJ g a b).1\/n∈(rJ g a b).2->Vn g.nodes.length n/\0<=(aW g.why n).to:=fun n hn=>hn.elim (v1 n) (v2 n)
 have key:∀d K,K=k+d->(∀n,n∈(rJ g a b).1\/n∈(rJ g a b).2->∀j,At_ g.why us n j->j<K)->∀n,n∈(rJ g a b).1\/n∈(rJ g a b).2->∀j,At_ g.why us n j->j<k:=by
  intro d
  induction d with
  |zero=>intro K hK hall;subst hK;exact hall
  |succ d ih=>
   intro K hK hall
   refine ih (k+d) rfl fun n hn j hj=> ?_
   have hjK:=hall n hn j hj
   rcases Nat.lt_or_ge j (k+d) with q|q
   ·exact q
   exfalso
   have hjd:j=k+d:=by omega
   subst hjd
   --the others are older
   have other:∀z,z∈(rJ g a b).1\/z∈(rJ g a b).2->z≠n->yE (us.take (k+d)) z (aW g.why z).to:=by
    intro z hz hzn
    obtain⟨vz,tz⟩:=vv z hz
    obtain⟨i,_,hi⟩:=aIm h vz tz
    have hiK:=hall z hz i hi
    refine aPu hi ?_
    have:i≠k+d:=fun q=>hzn (by rw[q] at hi;exact aQ2 h vz (vv n hn).1 hi hj)
    omega
   have hab:yE (us.take (k+d)) a b:=hc.mono fun u hu=>by
    have:us.take k=(us.take (k+d)).take k:=by rw[List.take_take,Nat.min_eq_left (by omega)]
    rw[this] at hu
    exact List.mem_of_mem_take hu
   obtain⟨u,hu,eu,_⟩:=Jv hj
   have hno:=(h.just (k+d) u hu).2
   have hcn:yE (us.take (k+d)) n (aW g.why n).to:=by
    rcases hn with hn|hn
    ·have n2:n∉(rJ g a b).2:=dis n hn
     obtain⟨q1,q2⟩:=aHg (R:=yE (us.take (k+d))) yE.refl (fun _ _ _=>yE.trans) u1 rfl c0 hn fun z hz hzn=>other z (.inl hz) hzn
     have q3:=aAg (R:=yE (us.take (k+d))) yE.refl (fun _ _ _=>yE.trans) u2 rfl c0 fun z hz=>other z (.inr hz) fun q=>n2 (q▸hz)
     exact q1.symm.trans (hab.trans (q3.trans q2.symm))
    ·have n1:n∉(rJ g a b).1:=fun q=>dis n q hn
     obtain⟨q1,q2⟩:=aHg (R:=yE (us.take (k+d))) yE.refl (fun _ _ _=>yE.trans) u2 rfl c0 hn fun z hz hzn=>other z (.inr hz) hzn
     have q3:=aAg (R:=yE (us.take (k+d))) yE.refl (fun _ _ _=>yE.trans) u1 rfl c0 fun z hz=>other z (.inl hz) fun q=>n1 (q▸hz)
     exact q1.symm.trans (hab.symm.trans (q3.trans q2.symm))
   apply hno
   rcases eu with⟨e1,e2⟩|⟨e1,e2⟩
   ·rw[<-e1,<-e2];exact hcn
   ·rw[<-e1,<-e2];exact hcn.symm
 intro n hn j hj
 obtain⟨u,hu,_⟩:=Jv hj
 have hju:=(List.getElem?_eq_some_iff.1 hu).1
 exact key (us.length-k) (k+(us.length-k)) rfl (fun n hn j hj=>by
  obtain⟨u,hu,_⟩:=Jv hj
  have hju:=(List.getElem?_eq_some_iff.1 hu).1
  omega) n hn j hj
def Cov (g:GS) (S:Int->Prop) (a b:Int):Prop:=∀n,n∈(rJ g a b).1\/n∈(rJ g a b).2->S n
theorem aQ7 {st:List dK} {S T:Int->Prop} (h:GInv W m g us l) (hs:Sem g us st) (hT:∀n,S n->Vn g.nodes.length n->0<=(aW g.why n).to->(aW g.why n).wZ=false->T (aW g.why n).tag)
  (hC:∀n,S n->Vn g.nodes.length n->0<=(aW g.why n).to->(aW g.why n).wZ=true->∀(i:Nat) x y,(fG g.nodes (aW g.why n).a).args[i]? =some x->(fG g.nodes (aW g.why n).b).args[i]? =some y->Cov g S x y):
  ∀(k:Nat) (a b:Int),Vn g.nodes.length a->Vn g.nodes.length b->yE (us.take k) a b->Cov g S a b->CC g.nodes (aGq st T) a b:=by
 intro k
 induction k using Nat.strongRecOn with
 |ind k ih=>
  intro a b ha hb hc hcov
  have e:fd g a=fd g b:=(hc.mono fun u hu=>List.mem_of_mem_take hu).to h.conn2
  obtain⟨c,c0,u1,u2,dis,v1,v2⟩:=aAv h ha hb e
  have hidx:=aIl h ha hb hc
  have one:∀n,n∈(rJ g a b).1\/n∈(rJ g a b).2->CC g.nodes (aGq st T) n (aW g.why n).to:=by
   intro n hn
   obtain⟨vn,tn⟩:=hn.elim (v1 n) (v2 n)
   obtain⟨j,hj,hat⟩:=aIm h vn tn
   have hjk:=hidx n hn j hat
   obtain⟨u,hu,eu,e1,e2,e3,e4⟩:=Jv hat
   obtain⟨w1,w2⟩:=h.forest.val u (List.mem_of_getElem? hu)
   have hS:=hcov n hn
   have hcc:CC g.nodes (aGq st T) u.a u.b:=by
    cases hcg:u.wZ with
    |false=>
     obtain⟨t,t1,t2,t3,t4,t5⟩:=hs.src u (List.mem_of_getElem? hu) hcg
     refine .base w1 w2 ⟨t,t1,t2,?_,t3,t4⟩
     have:=hT n hS vn tn (by rw[e1];exact hcg)
     rw[e2] at this
     rw[t5]
     exact this
    |true=>
     have cg:=(h.just j u hu).1 hcg
     refine .wZ cg.v1 cg.v2 cg.app cg.fn cg.len fun i x y hx hy=> ?_
     have:=hC n hS vn tn (by rw[e1];exact hcg) i x y (by rw[e3];exact hx) (by rw[e4];exact hy)
     exact ih j hjk x y (qB h.sound cg.v1 (List.mem_of_getElem? hx)) (qB h.sound cg.v2 (List.mem_of_getElem? hy)) (cg.args i x y hx hy) this
   rcases eu with⟨q1,q2⟩|⟨q1,q2⟩
   ·rw[q2,q1];exact hcc
   ·rw[q2,q1];exact hcc.symm
  have r1:=aAg (R:=fun x y=>x=y\/CC g.nodes (aGq st T) x y) (fun _=> .inl rfl) (fun x y z h1 h2=>by
   rcases h1 with rfl|h1
   ·exact h2
   ·rcases h2 with rfl|h2
    ·exact .inr h1
    ·exact .inr (h1.trans h2)) u1 rfl c0 fun z hz=> .inr (one z (.inl hz))
  have r2:=aAg (R:=fun x y=>x=y\/CC g.nodes (aGq st T) x y) (fun _=> .inl rfl) (fun x y z h1 h2=>by
   rcases h1 with rfl|h1
   ·exact h2
   ·rcases h2 with rfl|h2
    ·exact .inr h1
    ·exact .inr (h1.trans h2)) u2 rfl c0 fun z hz=> .inr (one z (.inr hz))
  rcases r1 with r1|r1<;>rcases r2 with r2|r2
  ·rw[r1,r2]
   have:Vn g.nodes.length (c.headD 0):=by rw[<-r1];exact ha
   exact .refl this
  ·rw[r1];exact r2.symm
  ·rw[r2];exact r1
  ·exact r1.trans r2.symm
end
def Lp (p1:Addr) (x1:Int) (K:Option Addr->Nat->Nat->World->Prop) (w:World):Prop:=
 ∀(p2:Addr) (w1:World),New w (.cells #[iv x1] T.int) p2 w1->(∃I1:Nat->Int->Option Addr->Nat->Nat->World->Prop,(∃k1,I1 k1 x1 (some p2) 1 1 w1)/\∀k1 (x2:Int) (A2:Option Addr) (n2 c2:Nat) (w2:World),I1 k1 x2 A2 n2 c2 w2->(∃A3 n3 c3,w2.cell? (p1.add 7)=some (.slice A3 n3 c3)/\0<=x2/\x2<(n3:Int)/\∃a1,A3=some a1/\∃x3,w2.cell? ((a1.add (x2.toNat*5)).add 0)=some (iv x3)/\(0<=x3->(∃A4 n4 c4,w2.cell? (p1.add 7)=some (.slice A4 n4 c4)/\0<=x2/\x2<(n4:Int)/\∃a2,A4=some a2/\∃x4,w2.cell? ((a2.add (x2.toNat*5)).add 0)=some (iv x4)/\∀(p3:Addr) (w3:World),New w2 (.cells #[iv x4] T.int) p3 w3->(∃(A5:Option Addr) (n5 c5:Nat) (w4:World),(Builtin.append_ #[T.bH,T.bH] T.bH #[.slice A2 n2 c2,.slice (some p3) 1 1]).run P w3= .ok (.slice A5 n5 c5) w4/\(∃k2,k2<k1/\I1 k2 x4 A5 n5 c5 w4))))/\(¬(0<=x3)->(K A2 n2 c2 w2))))
theorem aC6 (p1:Addr) (x1:Int) (K:Option Addr->Nat->Nat->World->Prop) (w:World) (H:Lp p1 x1 K w):Calls P F.Dz #[.pointer (some p1),iv x1] w (cO fun v w'=>∃A1 n1 c1,v=(.slice A1 n1 c1)/\K A1 n1 c1 w'):=by
 unfold Lp at H;refine bT (P:=P) Tryz.func95 rfl [(0,.pointer (some p1)),(1,iv x1)] 30 rfl rfl (aa rfl (aa rfl az)) (aG (aF (ag rfl (aH (nc (y2 0 1 rfl) (aG (aF (mv rfl (sz rfl rfl (xl 1 1 (.cells #[iv x1] T.int) rfl) ?_)))))))));intro p2 w1 hN;replace H:=H _ _ hN;refine ag rfl (aH (nc (y3 0 1 5 rfl) (aG (aY ?_))));obtain⟨I1,⟨k1,hi⟩,H⟩:=H;refine fK (fun k1 a w'=>∃x2,∃A2 n2 c2,Ok 30 [(0,.pointer (some p1)),(1,iv x2),(5,.slice A2 n2 c2)] a/\I1 k1 x2 A2 n2 c2 w') (fun a ha=>⟨k1,x1,some p2,1,1,ha.weaken cs,hi⟩) ?_;rintro k1 a w2 ⟨x2,A2,n2,c2,ha,hI⟩;replace H:=H k1 x2 A2 n2 c2 w2 hI;refine cu ha ?_;refine aG (aG (aF (mv rfl (nk rfl (fa rfl (TF.jX _ _) ?_)))));obtain⟨A3,n3,c3,h1,H⟩:=H;refine ld rfl (aJ TF.jW h1) (mv rfl ?_);obtain⟨h2,h3,a1,e1,H⟩:=H;refine ix rfl rfl (aU TF.iD TF.dQ e1 h2 h3) (fa rfl (TF.nX _ _) ?_);obtain⟨x3,h4,H⟩:=H;refine ld rfl (aJ TF.aP h4) (bo rfl rfl Kq (aH (nc (y4 0 1 5 16 rfl) ?_)));refine bC rfl (fun hb=> ?_) (fun hb=> ?_)
 ·replace H:=H.1 hb;refine aX (nc (y3 0 1 5 rfl) (aY (aG (aF (mv rfl (nk rfl (fa rfl (TF.jX _ _) ?_)))))));obtain⟨A4,n4,c4,h5,H⟩:=H;refine ld rfl (aJ TF.jW h5) (mv rfl ?_);obtain⟨h6,h7,a2,e2,H⟩:=H;refine ix rfl rfl (aU TF.iD TF.dQ e2 h6 h7) (fa rfl (TF.nX _ _) ?_);obtain⟨x4,h8,H⟩:=H;refine ld rfl (aJ TF.aP h8) (ag rfl (aH (nc (y3 0 1 5 rfl) (aF (mv rfl (mv rfl (sz rfl rfl (xl 1 1 (.cells #[iv x4] T.int) rfl) ?_)))))));intro p3 w3 hN;obtain⟨A5,n5,c5,w4,h9,H⟩:=H _ _ hN;refine sv rfl rfl (xb rfl (fun _=>dY h9)) (ag rfl (aH (bZ ?_)));obtain⟨k2,hk,H⟩:=H;exact bD fun a ha=>⟨k2,hk,x4,A5,n5,c5,ha.weaken cs,H⟩
 ·replace H:=H.2 hb;exact eU (aT (aT (bQ (nc (kp 5 rfl zz) (aG (aF (mv rfl (ag rfl (aH (nc (kp 4 rfl zz) (bK (aN (res1 rfl rfl) ⟨_,rfl,_,_,_,rfl,H⟩))))))))))))
def pK (n5:Nat) (c5:Nat) (n6:Nat) (c6:Nat) (k1:Nat) (I1:Nat->Option Addr->Nat->Nat->Option Addr->Nat->Nat->World->Prop) (A5:Option Addr) (A6:Option Addr) (K:Option Addr->Nat->Nat->Option Addr->Nat->Nat->World->Prop) (b1:Bool) (w5:World):Prop:=
 (b1=true->(0<=IntKind.wrap .i64 ((n5:Int)-1)/\IntKind.wrap .i64 ((n5:Int)-1)<=(c5:Int)/\0<=IntKind.wrap .i64 ((n6:Int)-1)/\IntKind.wrap .i64 ((n6:Int)-1)<=(c6:Int)/\∀w8,aO w5 w8->(∃k2,k2<k1/\I1 k2 A5 ((IntKind.wrap .i64 ((n5:Int)-1)).toNat) c5 A6 ((IntKind.wrap .i64 ((n6:Int)-1)).toNat) c6 w8)))/\(b1=false->(K A5 n5 c5 A6 n6 c6 w5))
def Ej (p1:Addr) (x1:Int) (x2:Int) (K:Option Addr->Nat->Nat->Option Addr->Nat->Nat->World->Prop) (w:World):Prop:=
 Calls P F.Dz #[.pointer (some p1),iv x1] w (cO fun v1 w1=>∃A3 n3 c3,v1=(.slice A3 n3 c3)/\Calls P F.Dz #[.pointer (some p1),iv x2] w1 (cO fun v2 w2=>∃A4 n4 c4,v2=(.slice A4 n4 c4)/\∃I1:Nat->Option Addr->Nat->Nat->Option Addr->Nat->Nat->World->Prop,(∃k1,I1 k1 A3 n3 c3 A4 n4 c4 w2)/\∀k1 (A5:Option Addr) (n5 c5:Nat) (A6:Option Addr) (n6 c6:Nat) (w3:World),I1 k1 A5 n5 c5 A6 n6 c6 w3->((0<(n5:Int)->((0<(n6:Int)->(0<=IntKind.wrap .i64 ((n5:Int)-1)/\IntKind.wrap .i64 ((n5:Int)-1)<(n5:Int)/\∃a1,A5=some a1/\∃x3,w3.cell? (a1.add ((IntKind.wrap .i64 ((n5:Int)-1)).toNat*1))=some (iv x3)/\0<=IntKind.wrap .i64 ((n6:Int)-1)/\IntKind.wrap .i64 ((n6:Int)-1)<(n6:Int)/\∃a2,A6=some a2/\∃x4,w3.cell? (a2.add ((IntKind.wrap .i64 ((n6:Int)-1)).toNat*1))=some (iv x4)/\∀w4,aO w3 w4->((pK n5 c5 n6 c6 k1 I1 A5 A6 K) (decide (x3=x4)) w4)))/\(¬(0<(n6:Int))->(∀w6,aO w3 w6->((pK n5 c5 n6 c6 k1 I1 A5 A6 K) false w6)))))/\(¬(0<(n5:Int))->(∀w7,aO w3 w7->((pK n5 c5 n6 c6 k1 I1 A5 A6 K) false w7))))))
theorem Zx (p1:Addr) (x1:Int) (x2:Int) (K:Option Addr->Nat->Nat->Option Addr->Nat->Nat->World->Prop) (w:World) (H:Ej p1 x1 x2 K w):Calls P F.xY #[.pointer (some p1),iv x1,iv x2] w (cO fun v w'=>∃A1 n1 c1,∃A2 n2 c2,v=(.tuple #[.slice A1 n1 c1,.slice A2 n2 c2])/\K A1 n1 c1 A2 n2 c2 w'):=by
 unfold Ej at H;refine bT (P:=P) Tryz.func82 rfl [(0,.pointer (some p1)),(1,iv x1),(2,iv x2)] 49 rfl rfl (aa rfl (aa rfl (aa rfl az))) (aG (aF (ag rfl (ag rfl (aH (nc (y3 0 1 2 rfl) (aG (aF (mv rfl (mv rfl (sc rfl rfl FF.Iz H ?_)))))))))));rintro _ w1 ⟨A3,n3,c3,rfl,H⟩;refine mv rfl (mv rfl (sc rfl rfl FF.Iz H ?_));rintro _ w2 ⟨A4,n4,c4,rfl,H⟩;refine ag rfl (ag rfl (aH (nc (y2 6 7 rfl) (aG (aY ?_)))));obtain⟨I1,⟨k1,hi⟩,H⟩:=H;refine fK (fun k1 a w'=>∃A5 n5 c5,∃A6 n6 c6,Ok 49 [(6,.slice A5 n5 c5),(7,.slice A6 n6 c6)] a/\I1 k1 A5 n5 c5 A6 n6 c6 w') (fun a ha=>⟨k1,A3,n3,c3,A4,n4,c4,ha.weaken cs,hi⟩) ?_;rintro k1 a w3 ⟨A5,n5,c5,A6,n6,c6,ha,hI⟩;replace H:=H k1 A5 n5 c5 A6 n6 c6 w3 hI;refine cu ha ?_;refine aG ?_;refine fA (fun a w=>∃b1,Ok 49 [(6,.slice A5 n5 c5),(7,.slice A6 n6 c6),(36,.bool b1)] a/\pK n5 c5 n6 c6 k1 I1 A5 A6 K b1 w) ?_ ?_
 ·rintro a w5 ⟨b1,ha,H⟩;unfold pK at H;refine cu ha ?_;refine eG rfl (fun hb=> ?_) (fun hb=> ?_)
  ·replace H:=H.1 hb;refine aX (nc (y2 6 7 rfl) (aY ?_));refine bU follows [0,1,2,3,4,5,6,7,8,9,10,11] [] 12 rfl rfl (by kernel_rfl) (fun _ _ d _ _ h=>by cases d<;>exact h) (fun cm W D=> ?_);refine aBv 0 cm rfl rfl D fun _ D=>(aBv 1 cm rfl rfl D fun _ D=>(Qj 2 cm rfl rfl rfl (fun w' a ha=>kQ (ha.evs rfl) (fun _=>bW TF.bP)) D fun _ D=>(Qj 3 cm rfl rfl rfl (fun w' a ha=>fZ (ha.ev rfl) (ha.ev rfl) Pn) D fun _ D=> ?_)));obtain⟨h7,h8,H⟩:=H;refine Qj 4 cm rfl rfl rfl (fun w' a ha=>Ad (ha.ev rfl) rfl (yP (ha.ev rfl)) rfl (xI TF.aV TF.size_int h7 h8)) D fun _ D=>(aBv 5 cm rfl rfl D fun _ D=>(aBv 6 cm rfl rfl D fun _ D=>(Qj 7 cm rfl rfl rfl (fun w' a ha=>kQ (ha.evs rfl) (fun _=>bW TF.bP)) D fun _ D=>(Qj 8 cm rfl rfl rfl (fun w' a ha=>fZ (ha.ev rfl) (ha.ev rfl) Pn) D fun _ D=> ?_))));obtain⟨h11,h12,H⟩:=H;refine Qj 9 cm rfl rfl rfl (fun w' a ha=>Ad (ha.ev rfl) rfl (yP (ha.ev rfl)) rfl (xI TF.aV TF.size_int h11 h12)) D fun _ D=>(Bo 10 cm rfl rfl D fun _ D=>(Bo 11 cm rfl rfl D fun _ D=>(dJ (by kernel_rfl) D ?_)));intro w8 D;replace H:=H _ D;clear D cm;refine bZ ?_;obtain⟨k2,hk,H⟩:=H;exact bD fun a ha=>⟨k2,hk,A5,(IntKind.wrap .i64 ((n5:Int)-1)).toNat,c5,A6,(IntKind.wrap .i64 ((n6:Int)-1)).toNat,c6,ha.weaken cs,H⟩
  ·replace H:=H.2 hb;exact eU (aT (aT (bQ (nc (y2 6 7 rfl) (aG (aF (mv rfl (mv rfl (ag rfl (ag rfl (aH (nc (y2 6 7 rfl) (bK (aN (Jk rfl rfl rfl) ⟨_,rfl,_,_,_,_,_,_,rfl,H⟩))))))))))))))
 ·refine bU follows [0,1,2,3,4,5,6,7,8,9,10,11,12,13,14,15,16,17,18,19,20,21,22] [14,20] 23 rfl rfl (by kernel_rfl) (fun _ _ d _ _ h=>by cases d<;>exact h) (fun cm W D=> ?_);refine gZ 0 cm rfl rfl D W fun _ D W=>(pv 1 cm rfl rfl rfl (fun w' a ha=>kQ (ha.evs rfl) (fun _=>bW TF.bP)) D W fun _ D W=>(pv 2 cm rfl rfl rfl (fun w' a ha=>fZ (ha.ev rfl) (ha.ev rfl) aBu) D W fun _ D W=> ?_));rcases Classical.em (0<(n5:Int)) with hb|hb
  ·replace H:=H.1 hb;refine pv 3 cm rfl rfl rfl (fun w' a ha=>o_t (iC (ha.ev rfl)) hb) D W fun _ D W=>(zX 4 cm rfl rfl rfl rfl D W fun _ D W=>(pvg 5 cm rfl rfl rfl rfl rfl (fun w' a ha=>kQ (ha.evs rfl) (fun _=>bW TF.bP)) D W fun _ D W=>(pvg 6 cm rfl rfl rfl rfl rfl (fun w' a ha=>fZ (ha.ev rfl) (ha.ev rfl) aBu) D W fun _ D W=>(ppt 7 cm rfl rfl rfl D W fun _ D W=> ?_))));rcases Classical.em (0<(n6:Int)) with hb|hb
   ·replace H:=H.1 hb;refine pv 8 cm rfl rfl rfl (fun w' a ha=>o_t (iC (ha.ev rfl)) hb) D W fun _ D W=>(zX 9 cm rfl rfl rfl rfl D W fun _ D W=>(zX 10 cm rfl rfl rfl rfl D W fun _ D W=>(pvg 11 cm rfl rfl rfl rfl rfl (fun w' a ha=>kQ (ha.evs rfl) (fun _=>bW TF.bP)) D W fun _ D W=>(pvg 12 cm rfl rfl rfl rfl rfl (fun w' a ha=>fZ (ha.ev rfl) (ha.ev rfl) Pn) D W fun _ D W=> ?_))));obtain⟨h1,h2,a1,e1,H⟩:=H;refine Zk 13 cm rfl rfl rfl rfl rfl (aU TF.aV TF.size_int e1 h1 h2) D W fun _ D W=> ?_;obtain⟨x3,h3,H⟩:=H;refine vlg 14 cm rfl rfl rfl rfl (fun hw=>(aJ TF.aP ((hw.cell _).trans h3))) D W fun _ D W=>(zX 15 cm rfl rfl rfl rfl D W fun _ D W=>(zX 16 cm rfl rfl rfl rfl D W fun _ D W=>(pvg 17 cm rfl rfl rfl rfl rfl (fun w' a ha=>kQ (ha.evs rfl) (fun _=>bW TF.bP)) D W fun _ D W=>(pvg 18 cm rfl rfl rfl rfl rfl (fun w' a ha=>fZ (ha.ev rfl) (ha.ev rfl) Pn) D W fun _ D W=> ?_))));obtain⟨h4,h5,a2,e2,H⟩:=H;refine Zk 19 cm rfl rfl rfl rfl rfl (aU TF.aV TF.size_int e2 h4 h5) D W fun _ D W=> ?_;obtain⟨x4,h6,H⟩:=H;refine vlg 20 cm rfl rfl rfl rfl (fun hw=>(aJ TF.aP ((hw.cell _).trans h6))) D W fun _ D W=>(aGj 21 cm rfl rfl rfl rfl rfl (fun w' a ha=>fZ (ha.ev rfl) (ha.ev rfl) iR) D fun _ D=>(aDp 22 cm rfl rfl rfl D fun _ D=>(dJ (by kernel_rfl) D ?_)));intro w4 D;replace H:=H _ D;clear D cm;exact bD fun a ha=>⟨(decide (x3=x4)),ha.weaken cs,H⟩
   ·replace H:=H.2 hb;refine pv 8 cm rfl rfl rfl (fun w' a ha=>o_f (iC (ha.ev rfl)) hb) D W fun _ D W=>(ps 9 cm rfl rfl rfl rfl rfl D W fun _ D W=>(ps 10 cm rfl rfl rfl rfl rfl D W fun _ D W=>(ps 11 cm rfl rfl rfl rfl rfl D W fun _ D W=>(ps 12 cm rfl rfl rfl rfl rfl D W fun _ D W=>(ps 13 cm rfl rfl rfl rfl rfl D W fun _ D W=>(ps 14 cm rfl rfl rfl rfl rfl D W fun _ D W=>(ps 15 cm rfl rfl rfl rfl rfl D W fun _ D W=>(ps 16 cm rfl rfl rfl rfl rfl D W fun _ D W=>(ps 17 cm rfl rfl rfl rfl rfl D W fun _ D W=>(ps 18 cm rfl rfl rfl rfl rfl D W fun _ D W=>(ps 19 cm rfl rfl rfl rfl rfl D W fun _ D W=>(ps 20 cm rfl rfl rfl rfl rfl D W fun _ D W=>(psd 21 cm rfl rfl rfl rfl rfl D fun _ D=>(aCs 22 cm rfl rfl rfl D fun _ D=>(dJ (by kernel_rfl) D ?_)))))))))))))));intro w6 D;replace H:=H _ D;clear D cm;exact bD fun a ha=>⟨false,ha.weaken cs,H⟩
  ·replace H:=H.2 hb;refine pv 3 cm rfl rfl rfl (fun w' a ha=>o_f (iC (ha.ev rfl)) hb) D W fun _ D W=>(ps 4 cm rfl rfl rfl rfl rfl D W fun _ D W=>(ps 5 cm rfl rfl rfl rfl rfl D W fun _ D W=>(ps 6 cm rfl rfl rfl rfl rfl D W fun _ D W=>(ppf 7 cm rfl rfl rfl D W fun _ D W=>(gZ 8 cm rfl rfl D W fun _ D W=>(ps 9 cm rfl rfl rfl rfl rfl D W fun _ D W=>(ps 10 cm rfl rfl rfl rfl rfl D W fun _ D W=>(ps 11 cm rfl rfl rfl rfl rfl D W fun _ D W=>(ps 12 cm rfl rfl rfl rfl rfl D W fun _ D W=>(ps 13 cm rfl rfl rfl rfl rfl D W fun _ D W=>(ps 14 cm rfl rfl rfl rfl rfl D W fun _ D W=>(ps 15 cm rfl rfl rfl rfl rfl D W fun _ D W=>(ps 16 cm rfl rfl rfl rfl rfl D W fun _ D W=>(ps 17 cm rfl rfl rfl rfl rfl D W fun _ D W=>(ps 18 cm rfl rfl rfl rfl rfl D W fun _ D W=>(ps 19 cm rfl rfl rfl rfl rfl D W fun _ D W=>(ps 20 cm rfl rfl rfl rfl rfl D W fun _ D W=>(psd 21 cm rfl rfl rfl rfl rfl D fun _ D=>(aCs 22 cm rfl rfl rfl D fun _ D=>(dJ (by kernel_rfl) D ?_))))))))))))))))))));intro w7 D;replace H:=H _ D;clear D cm;exact bD fun a ha=>⟨false,ha.weaken cs,H⟩
def xO (k3:Nat) (I3:Nat->Option Addr->Nat->Nat->Int->World->Prop) (x16:Int) (A17:Option Addr) (n17 c17:Nat) (w20:World):Prop:=
 ∃k4,k4<k3/\I3 k4 A17 n17 c17 (IntKind.wrap .i64 (x16+1)) w20
def jF (k2:Nat) (I2:Nat->Option Addr->Nat->Nat->Int->World->Prop) (x7:Int) (A9:Option Addr) (n9 c9:Nat) (w10:World):Prop:=
 ∃k5,k5<k2/\I2 k5 A9 n9 c9 (IntKind.wrap .i64 (x7+1)) w10
def Lj (p1:Addr) (x1:Int) (x2:Int) (m1:Option Nat) (K:World->Prop) (w:World):Prop:=
 ∃A1 n1 c1,w.cell? (p1.add 4)=some (.slice A1 n1 c1)/\∃(A2:Option Addr) (n2 c2:Nat) (w1:World),(Instr.makeSlice T.aE8 (iv (n1:Int)) (iv (n1:Int))).run P w= .ok (.slice A2 n2 c2) w1/\(∀(p2:Addr) (w2:World),New w1 (.cells #[iv x1,iv x2] T.uQ) p2 w2->(∃I1:Nat->Option Addr->Nat->Nat->World->Prop,(∃k1,I1 k1 (some p2) 1 1 w2)/\∀k1 (A3:Option Addr) (n3 c3:Nat) (w3:World),I1 k1 A3 n3 c3 w3->((0<(n3:Int)->(0<=IntKind.wrap .i64 ((n3:Int)-1)/\IntKind.wrap .i64 ((n3:Int)-1)<(n3:Int)/\∃a1,A3=some a1/\∃x3,∃x4,bG w3 (a1.add ((IntKind.wrap .i64 ((n3:Int)-1)).toNat*2)) [iv x3,iv x4]/\∀(p3:Addr) (w4:World),New w3 (.cells #[iv 0,iv 0] T.uQ) p3 w4->(oH w4 p3 2/\∀w5,w5=cZ w4 p3 [iv x3,iv x4]->(0<=IntKind.wrap .i64 ((n3:Int)-1)/\IntKind.wrap .i64 ((n3:Int)-1)<=(c3:Int)/\∃x5,w5.cell? (p3.add 0)=some (iv x5)/\∃x6,w5.cell? (p3.add 1)=some (iv x6)/\Calls P F.xY #[.pointer (some p1),iv x5,iv x6] w5 (cO fun v1 w6=>∃A4 n4 c4,∃A5 n5 c5,v1=(.tuple #[.slice A4 n4 c4,.slice A5 n5 c5])/\Calls P F.kD #[.slice A4 n4 c4] w6 (cO fun v2 w7=>∃A6 n6 c6,v2=(.slice A6 n6 c6)/\∃(A7:Option Addr) (n7 c7:Nat) (w8:World),(Builtin.append_ #[T.bH,T.bH] T.bH #[.slice A6 n6 c6,.slice A5 n5 c5]).run P w7= .ok (.slice A7 n7 c7) w8/\(∃I2:Nat->Option Addr->Nat->Nat->Int->World->Prop,(∃k2,I2 k2 A3 ((IntKind.wrap .i64 ((n3:Int)-1)).toNat) c3 0 w8)/\∀k2 (A8:Option Addr) (n8 c8:Nat) (x7:Int) (w9:World),I2 k2 A8 n8 c8 x7 w9->((x7<(n7:Int)->(0<=x7/\x7<(n7:Int)/\∃a2,A7=some a2/\∃x8,w9.cell? (a2.add (x7.toNat*1))=some (iv x8)/\0<=x8/\x8<(n2:Int)/\∃a3,A2=some a3/\∃b1,w9.cell? (a3.add (x8.toNat*1))=some (.bool b1)/\(b1=true->((jF k2 I2 x7) A8 n8 c8 w9))/\(b1=false->(0<=x8/\x8<(n2:Int)/\∃a4,A2=some a4/\(∃u1,w9.cell? (a4.add (x8.toNat*1))=some u1)/\w9.frozen? (a4.add (x8.toNat*1))=false/\∀w11,w11=w9.setCell (a4.add (x8.toNat*1)) (.bool true)->(∃A10 n10 c10,w11.cell? (p1.add 7)=some (.slice A10 n10 c10)/\0<=x8/\x8<(n10:Int)/\∃a5,A10=some a5/\∃x9,∃b2,∃x10,∃x11,∃x12,bG w11 (a5.add (x8.toNat*5)) [iv x9,.bool b2,iv x10,iv x11,iv x12]/\∀(p4:Addr) (w12:World),New w11 (.cells #[iv 0,.bool false,iv 0,iv 0,iv 0] T.jG) p4 w12->(oH w12 p4 5/\∀w13,w13=cZ w12 p4 [iv x9,.bool b2,iv x10,iv x11,iv x12]->(∃b3,w13.cell? (p4.add 1)=some (.bool b3)/\((!b3)=true->(∃x13,w13.cell? (p4.add 4)=some (iv x13)/\∃x14,(Instr.lookup T.rC (.map m1) (iv x13) false).run P w13= .ok (iv x14) w13/\∃w14:World,(Instr.mapUpdate T.rC (.map m1) (iv x13) (iv (IntKind.wrap .i64 (x14+1)))).run P w13= .ok () w14/\((jF k2 I2 x7) A8 n8 c8 w14)))/\((!b3)=false->(∃A11 n11 c11,w13.cell? (p1.add 4)=some (.slice A11 n11 c11)/\∃x15,w13.cell? (p4.add 2)=some (iv x15)/\0<=x15/\x15<(n11:Int)/\∃a6,A11=some a6/\∃A12 n12 c12,w13.cell? ((a6.add (x15.toNat*2)).add 1)=some (.slice A12 n12 c12)/\∀w15,aO w13 w15->(∃I3:Nat->Option Addr->Nat->Nat->Int->World->Prop,(∃k3,I3 k3 A8 n8 c8 0 w15)/\∀k3 (A13:Option Addr) (n13 c13:Nat) (x16:Int) (w16:World),I3 k3 A13 n13 c13 x16 w16->((x16<(n12:Int)->(0<=x16/\x16<(n12:Int)/\∃a7,A12=some a7/\∃x17,w16.cell? (a7.add (x16.toNat*1))=some (iv x17)/\∃A14 n14 c14,w16.cell? (p1.add 4)=some (.slice A14 n14 c14)/\∃x18,w16.cell? (p4.add 3)=some (iv x18)/\0<=x18/\x18<(n14:Int)/\∃a8,A14=some a8/\∃A15 n15 c15,w16.cell? ((a8.add (x18.toNat*2)).add 1)=some (.slice A15 n15 c15)/\0<=x16/\x16<(n15:Int)/\∃a9,A15=some a9/\∃x19,w16.cell? (a9.add (x16.toNat*1))=some (iv x19)/\∀w22,aO w16 w22->∀(p5:Addr) (w17:World),New w22 (.cells #[iv x17,iv x19] T.uQ) p5 w17->(∀w21,aO w17 w21->∃(A16:Option Addr) (n16 c16:Nat) (w18:World),(Builtin.append_ #[T.mQ,T.mQ] T.mQ #[.slice A13 n13 c13,.slice (some p5) 1 1]).run P w21= .ok (.slice A16 n16 c16) w18/\(∀w19,aO w18 w19->((xO k3 I3 x16) A16 n16 c16 w19)))))/\(¬(x16<(n12:Int))->((jF k2 I2 x7) A13 n13 c13 w16)))))))))))))/\(¬(x7<(n7:Int))->(∃k6,k6<k1/\I1 k6 A8 n8 c8 w9))))))))))/\(¬(0<(n3:Int))->(K w3)))))
theorem aDa (p1:Addr) (x1:Int) (x2:Int) (m1:Option Nat) (K:World->Prop) (w:World) (H:Lj p1 x1 x2 m1 K w):Calls P F.vU #[.pointer (some p1),iv x1,iv x2,.map m1] w (cO fun v w'=>v=(.tuple #[])/\K w'):=by
 unfold Lj at H;refine bT (P:=P) Tryz.func64 rfl [(0,.pointer (some p1)),(1,iv x1),(2,iv x2),(3,.map m1)] 116 rfl rfl (aa rfl (aa rfl (aa rfl (aa rfl az)))) (aG (aF (mv rfl (nk rfl (fa rfl (TF.jB _ _) ?_)))));obtain⟨A1,n1,c1,h1,H⟩:=H;refine ld rfl (aJ TF.fD h1) (sv rfl rfl (xb rfl (fun _=>bW TF.dS)) ?_);obtain⟨A2,n2,c2,w1,h2,H⟩:=H;refine sv rfl rfl (fun a ha=>pW (ha.ev rfl) (ha.ev rfl) h2) (ag rfl (aH (nc (y5 0 1 2 3 8 rfl) (aG (aF (mv rfl (mv rfl (sv rfl rfl (xp (.agg #[iv x1,iv x2]) rfl) (sz rfl rfl (xl 1 1 (.cells #[iv x1,iv x2] T.uQ) rfl) ?_)))))))));intro p2 w2 hN;replace H:=H _ _ hN;refine ag rfl (aH (nc (y4 0 3 8 9 rfl) (aY ?_)));obtain⟨I1,⟨k1,hi⟩,H⟩:=H;refine fK (fun k1 a w'=>∃A3 n3 c3,Ok 116 [(0,.pointer (some p1)),(3,.map m1),(8,.slice A2 n2 c2),(9,.slice A3 n3 c3)] a/\I1 k1 A3 n3 c3 w') (fun a ha=>⟨k1,some p2,1,1,ha.weaken cs,hi⟩) ?_;rintro k1 a w3 ⟨A3,n3,c3,ha,hI⟩;replace H:=H k1 A3 n3 c3 w3 hI;refine cu ha ?_;refine aG (aG (aF (mv rfl (sv rfl rfl (xb rfl (fun _=>bW TF.Gn)) (bo rfl rfl aBu (aH (nc (y5 0 3 8 9 30 rfl) ?_)))))));refine bC rfl (fun hb=> ?_) (fun hb=> ?_)
 ·replace H:=H.1 hb;refine aX (nc (y4 0 3 8 9 rfl) (aY (aG (aF (mv rfl (mv rfl (sv rfl rfl (xb rfl (fun _=>bW TF.Gn)) (bo rfl rfl Pn ?_))))))));obtain⟨h3,h4,a1,e1,H⟩:=H;refine ix rfl rfl (aU TF.Xp TF.Ox e1 h3 h4) ?_;obtain⟨x3,x4,h5,H⟩:=H;refine ld rfl (gW (vs:=[iv x3,iv x4]) TF.aH8 TF.Ox h5) (iP (f:=(fun p=> .pointer (some p))) rfl rfl (aI rfl) (fun a ha=>mV (nC TF.aGu)) ?_);intro p3 w4 hN;obtain⟨h7,H⟩:=H _ _ hN;refine oO rfl (aI rfl) (xs rfl rfl (kN TF.Ox (by simp[Value.oneCell']) h7)) ?_;intro w5 hw;replace H:=H _ hw;clear hw;refine aH (nc (y5 0 3 8 9 10 rfl) (aG (aF (mv rfl (mv rfl (sv rfl rfl (xb rfl (fun _=>bW TF.Gn)) (bo rfl rfl Pn ?_)))))));obtain⟨h8,h9,H⟩:=H;refine sv rfl rfl (fun a ha=>Ad (ha.ev rfl) rfl (yP (ha.ev rfl)) rfl (xI TF.Xp TF.Ox h8 h9)) (ag rfl (aH (nc (y5 0 3 8 9 10 rfl) (aG (aF (mv rfl (fa rfl (TF.aFz _ _) ?_)))))));obtain⟨x5,h12,H⟩:=H;refine ld rfl (aJ TF.aP h12) (fa rfl (TF.aFv _ _) ?_);obtain⟨x6,h13,H⟩:=H;refine ld rfl (aJ TF.aP h13) (sc rfl rfl FF.Dw H ?_);rintro _ w6 ⟨A4,n4,c4,A5,n5,c5,rfl,H⟩;refine mv rfl (sv rfl rfl (xe rfl rfl) (sv rfl rfl (xe rfl rfl) (ag rfl (ag rfl (aH (nc (y6 0 3 8 9 11 12 rfl) (aG (aF (mv rfl (sc rfl rfl FF.qV H ?_))))))))));rintro _ w7 ⟨A6,n6,c6,rfl,H⟩;refine mv rfl ?_;obtain⟨A7,n7,c7,w8,h14,H⟩:=H;refine sv rfl rfl (xb rfl (fun _=>dY h14)) (sv rfl rfl (xb rfl (fun _=>bW TF.bP)) (mv rfl (aH (nc (y7 0 3 8 9 54 55 56 rfl) (aY ?_)))));obtain⟨I2,⟨k2,hi⟩,H⟩:=H;refine fK (fun k2 a w'=>∃A8 n8 c8,∃x7,Ok 116 [(0,.pointer (some p1)),(3,.map m1),(8,.slice A2 n2 c2),(9,.slice A8 n8 c8),(54,.slice A7 n7 c7),(55,iv (n7:Int)),(56,iv x7)] a/\I2 k2 A8 n8 c8 x7 w') (fun a ha=>⟨k2,A3,(IntKind.wrap .i64 ((n3:Int)-1)).toNat,c3,0,ha.weaken cs,hi⟩) ?_;rintro k2 a w9 ⟨A8,n8,c8,x7,ha,hI⟩;replace H:=H k2 A8 n8 c8 x7 w9 hI;refine cu ha ?_;refine aG (aF (bo rfl rfl iY (aH (nc (y8 0 3 8 9 54 55 56 57 rfl) (aG ?_)))));refine bC rfl (fun hb=> ?_) (fun hb=> ?_)
  ·replace H:=H.1 hb;refine aX (nc (y7 0 3 8 9 54 55 56 rfl) ?_);refine fA (fun a w=>∃A9 n9 c9,Ok 116 [(0,.pointer (some p1)),(3,.map m1),(8,.slice A2 n2 c2),(9,.slice A9 n9 c9),(54,.slice A7 n7 c7),(55,iv (n7:Int)),(56,iv x7)] a/\jF k2 I2 x7 A9 n9 c9 w) ?_ ?_
   ·rintro a w10 ⟨A9,n9,c9,ha,H⟩;unfold jF at H;refine cu ha ?_;refine aF (bo rfl rfl kC (mv rfl (aH ?_)));obtain⟨k5,hk,H⟩:=H;exact bD fun a ha=>⟨k5,hk,A9,n9,c9,IntKind.wrap .i64 (x7+1),ha.weaken cs,H⟩
   ·refine aY (aG (aF ?_));obtain⟨h15,h16,a2,e2,H⟩:=H;refine ix rfl rfl (aU TF.aV TF.size_int e2 h15 h16) ?_;obtain⟨x8,h17,H⟩:=H;refine ld rfl (aJ TF.aP h17) (ag rfl (aH (nc (y8 0 3 8 9 14 54 55 56 rfl) (aG (aG (aF (mv rfl (mv rfl ?_))))))));obtain⟨h18,h19,a3,e3,H⟩:=H;refine ix rfl rfl (aU TF.aC9 TF.size_bool e3 h18 h19) ?_;obtain⟨b1,h20,H⟩:=H;refine ld rfl (aJ TF.Ah h20) (aH (nc (y9 0 3 8 9 14 54 55 56 63 rfl) ?_));refine eG rfl (fun hb=> ?_) (fun hb=> ?_)
    ·replace H:=H.1 hb;exact eU (aT (bQ (bD fun a ha=>⟨A8,n8,c8,ha.weaken cs,H⟩)))
    ·replace H:=H.2 hb;refine aX (nc (y8 0 3 8 9 14 54 55 56 rfl) (aG (aF (mv rfl (mv rfl ?_)))));obtain⟨h21,h22,a4,e4,H⟩:=H;refine ix rfl rfl (aU TF.aC9 TF.size_bool e4 h21 h22) ?_;obtain⟨⟨u1,h23⟩,h24,H⟩:=H;refine oO rfl (aI rfl) (xs rfl rfl (dM TF.size_bool rfl rfl h23 h24)) ?_;intro w11 hw;replace H:=H _ hw;clear hw;refine aH (nc (y8 0 3 8 9 14 54 55 56 rfl) (aG (aF (mv rfl (nk rfl (fa rfl (TF.jX _ _) ?_))))));obtain⟨A10,n10,c10,h25,H⟩:=H;refine ld rfl (aJ TF.jW h25) (mv rfl ?_);obtain⟨h26,h27,a5,e5,H⟩:=H;refine ix rfl rfl (aU TF.iD TF.dQ e5 h26 h27) ?_;obtain⟨x9,b2,x10,x11,x12,h28,H⟩:=H;refine ld rfl (gW (vs:=[iv x9,.bool b2,iv x10,iv x11,iv x12]) TF.uY TF.dQ h28) (iP (f:=(fun p=> .pointer (some p))) rfl rfl (aI rfl) (fun a ha=>mV (nC TF.Oo)) ?_);intro p4 w12 hN;obtain⟨h30,H⟩:=H _ _ hN;refine oO rfl (aI rfl) (xs rfl rfl (kN TF.dQ (by simp[Value.oneCell']) h30)) ?_;intro w13 hw;replace H:=H _ hw;clear hw;refine aH (nc (y8 0 3 8 9 15 54 55 56 rfl) (aG (aG (aF (fa rfl (TF.aAd _ _) ?_)))));obtain⟨b3,h31,H⟩:=H;refine ld rfl (aJ TF.Ah h31) (sv rfl rfl (xu rfl sK) (aH (nc (y9 0 3 8 9 15 54 55 56 76 rfl) ?_)));refine eG rfl (fun hb=> ?_) (fun hb=> ?_)
     ·replace H:=H.1 hb;refine aG (aF (mv rfl (fa rfl (TF.Zn _ _) ?_)));obtain⟨x13,h32,H⟩:=H;refine ld rfl (aJ TF.aP h32) ?_;obtain⟨x14,h33,H⟩:=H;refine sv rfl rfl (fun a ha=>aF4 (ha.ev rfl) (ha.ev rfl) h33) (bo rfl rfl kC ?_);obtain⟨w14,h34,H⟩:=H;exact aL7 rfl (aI rfl) (fun a ha=>aAh (ha.ev rfl) (ha.ev rfl) (ha.ev rfl) h34) (aH (nc (y7 0 3 8 9 54 55 56 rfl) (eU (aT (bQ (bD fun a ha=>⟨A8,n8,c8,ha.weaken cs,H⟩))))))
     ·replace H:=H.2 hb;refine aX (nc (y8 0 3 8 9 15 54 55 56 rfl) (aG ?_));refine bU follows [0,1,2,3,4,5,6,7,8,9,10] [3,5,8] 11 rfl rfl (by kernel_rfl) (fun _ _ d _ _ h=>by cases d<;>exact h) (fun cm W D=> ?_);refine gZ 0 cm rfl rfl D W fun _ D W=>(Gh 1 cm rfl rfl D W fun _ D W=>(lH 2 cm rfl rfl (TF.jB _ _) D W fun _ D W=> ?_));obtain⟨A11,n11,c11,h35,H⟩:=H;refine vl 3 cm rfl rfl (fun hw=>(aJ TF.fD ((hw.cell _).trans h35))) D W fun _ D W=>(lH 4 cm rfl rfl (TF.yV _ _) D W fun _ D W=> ?_);obtain⟨x15,h36,H⟩:=H;refine vl 5 cm rfl rfl (fun hw=>(aJ TF.aP ((hw.cell _).trans h36))) D W fun _ D W=> ?_;obtain⟨h37,h38,a6,e6,H⟩:=H;refine Ie 6 cm rfl rfl rfl (aU TF.dN TF.bY e6 h37 h38) D W fun _ D W=>(lH 7 cm rfl rfl (TF.fF _ _) D W fun _ D W=> ?_);obtain⟨A12,n12,c12,h39,H⟩:=H;refine vl 8 cm rfl rfl (fun hw=>(aJ TF.bM ((hw.cell _).trans h39))) D W fun _ D W=>(Qj 9 cm rfl rfl rfl (fun w' a ha=>kQ (ha.evs rfl) (fun _=>bW TF.bP)) D fun _ D=>(aBv 10 cm rfl rfl D fun _ D=>(dJ (by kernel_rfl) D ?_)));intro w15 D;replace H:=H _ D;clear D cm;refine nc (y11 0 3 8 9 15 54 55 56 90 91 92 rfl) (aY ?_);obtain⟨I3,⟨k3,hi⟩,H⟩:=H;refine fK (fun k3 a w'=>∃A13 n13 c13,∃x16,Ok 116 [(0,.pointer (some p1)),(3,.map m1),(8,.slice A2 n2 c2),(9,.slice A13 n13 c13),(15,.pointer (some p4)),(54,.slice A7 n7 c7),(55,iv (n7:Int)),(56,iv x7),(90,.slice A12 n12 c12),(91,iv (n12:Int)),(92,iv x16)] a/\I3 k3 A13 n13 c13 x16 w') (fun a ha=>⟨k3,A8,n8,c8,0,ha.weaken cs,hi⟩) ?_;rintro k3 a w16 ⟨A13,n13,c13,x16,ha,hI⟩;replace H:=H k3 A13 n13 c13 x16 w16 hI;refine cu ha ?_;refine aG (aF (bo rfl rfl iY (aH (nc (y12 0 3 8 9 15 54 55 56 90 91 92 93 rfl) (aG ?_)))));refine bC rfl (fun hb=> ?_) (fun hb=> ?_)
      ·replace H:=H.1 hb;refine aX (nc (y11 0 3 8 9 15 54 55 56 90 91 92 rfl) ?_);refine fA (fun a w=>∃A17 n17 c17,Ok 116 [(0,.pointer (some p1)),(3,.map m1),(8,.slice A2 n2 c2),(9,.slice A17 n17 c17),(15,.pointer (some p4)),(54,.slice A7 n7 c7),(55,iv (n7:Int)),(56,iv x7),(90,.slice A12 n12 c12),(91,iv (n12:Int)),(92,iv x16)] a/\xO k3 I3 x16 A17 n17 c17 w) ?_ ?_
       ·rintro a w20 ⟨A17,n17,c17,ha,H⟩;unfold xO at H;refine cu ha ?_;refine aF (bo rfl rfl kC (mv rfl (aH ?_)));obtain⟨k4,hk,H⟩:=H;exact bD fun a ha=>⟨k4,hk,A17,n17,c17,IntKind.wrap .i64 (x16+1),ha.weaken cs,H⟩
       ·refine aY (aG (aF (mv rfl ?_)));obtain⟨h40,h41,a7,e7,H⟩:=H;refine ix rfl rfl (aU TF.aV TF.size_int e7 h40 h41) ?_;obtain⟨x17,h42,H⟩:=H;refine ld rfl (aJ TF.aP h42) (ag rfl (ag rfl (aH (nc (y13 0 3 8 9 15 16 17 54 55 56 90 91 92 rfl) ?_))));refine bU follows [0,1,2,3,4,5,6,7,8,9,10,11,12,13,14,17] [5,7,10,13] 18 rfl rfl (by kernel_rfl) (fun _ _ d _ _ h=>by cases d<;>exact h) (fun cm W D=> ?_);refine gZ 0 cm rfl rfl D W fun _ D W=>(gZ 1 cm rfl rfl D W fun _ D W=>(gZ 2 cm rfl rfl D W fun _ D W=>(Gh 3 cm rfl rfl D W fun _ D W=>(lH 4 cm rfl rfl (TF.jB _ _) D W fun _ D W=> ?_))));obtain⟨A14,n14,c14,h43,H⟩:=H;refine vl 5 cm rfl rfl (fun hw=>(aJ TF.fD ((hw.cell _).trans h43))) D W fun _ D W=>(lH 6 cm rfl rfl (TF.Eb _ _) D W fun _ D W=> ?_);obtain⟨x18,h44,H⟩:=H;refine vl 7 cm rfl rfl (fun hw=>(aJ TF.aP ((hw.cell _).trans h44))) D W fun _ D W=> ?_;obtain⟨h45,h46,a8,e8,H⟩:=H;refine Ie 8 cm rfl rfl rfl (aU TF.dN TF.bY e8 h45 h46) D W fun _ D W=>(lH 9 cm rfl rfl (TF.fF _ _) D W fun _ D W=> ?_);obtain⟨A15,n15,c15,h47,H⟩:=H;refine vl 10 cm rfl rfl (fun hw=>(aJ TF.bM ((hw.cell _).trans h47))) D W fun _ D W=>(gZ 11 cm rfl rfl D W fun _ D W=> ?_);obtain⟨h48,h49,a9,e9,H⟩:=H;refine Ie 12 cm rfl rfl rfl (aU TF.aV TF.size_int e9 h48 h49) D W fun _ D W=> ?_;obtain⟨x19,h50,H⟩:=H;refine vl 13 cm rfl rfl (fun hw=>(aJ TF.aP ((hw.cell _).trans h50))) D W fun _ D W=>(Qj 14 cm rfl rfl rfl (fun w'=>xp (.agg #[iv x17,iv x19]) rfl) D fun _ D=>(ar 15 ?_));replace H:=H _ D;refine lS (f:=(fun p=> .slice (some p) 1 1)) rfl rfl rfl (aI rfl) (xl 1 1 (.cells #[iv x17,iv x19] T.uQ) rfl) rfl false (by kernel_rfl) ?_;intro p5 w17 hN _ D;replace H:=H _ _ hN;refine⟨fun h=>(by cases h),?_⟩;refine ar 16 ?_;obtain⟨A16,n16,c16,w18,h51,H⟩:=H _ D;refine Ap rfl rfl rfl (aI rfl) (xb rfl (fun _=>dY h51)) rfl false (by kernel_rfl) ?_;intro _ D;refine⟨fun h=>(by cases h),?_⟩;refine Bo 17 cm rfl rfl D fun _ D=>(dJ (by kernel_rfl) D ?_);intro w19 D;replace H:=H _ D;clear D cm;exact bZ (bD fun a ha=>⟨A16,n16,c16,ha.weaken cs,H⟩)
      ·replace H:=H.2 hb;exact eU (aT (aT (bQ (bZ (bD fun a ha=>⟨A13,n13,c13,ha.weaken cs,H⟩)))))
  ·replace H:=H.2 hb;refine eU (aT (aT (bQ (bZ ?_))));obtain⟨k6,hk,H⟩:=H;exact bD fun a ha=>⟨k6,hk,A8,n8,c8,ha.weaken cs,H⟩
 ·replace H:=H.2 hb;exact eU (aT (aT (bQ (pR (res0 rfl) ⟨_,rfl,rfl,H⟩))))
def pF (k1:Nat) (I1:Nat->Int->World->Prop) (x2:Int) (w6:World):Prop:=
 ∃k2,k2<k1/\I1 k2 (IntKind.wrap .i64 (x2+1)) w6
def Kr (p1:Addr) (A1:Option Addr) (n1 c1:Nat) (K:Option Addr->World->Prop) (w:World):Prop:=
 ∃A2 n2 c2,w.cell? (p1.add 4)=some (.slice A2 n2 c2)/\Calls P F.Vb #[.slice A2 n2 c2] w (cO fun v1 w1=>∃q2,∃x1,v1=(.tuple #[.pointer q2,iv x1])/\∃A3 n3 c3,w1.cell? (p1.add 8)=some (.slice A3 n3 c3)/\∃I1:Nat->Int->World->Prop,(∃k1,I1 k1 0 w1)/\∀k1 (x2:Int) (w2:World),I1 k1 x2 w2->((x2<(n3:Int)->(0<=x2/\x2<(n3:Int)/\∃a1,A3=some a1/\∃x3,∃x4,∃x5,∃b1,bG w2 (a1.add (x2.toNat*4)) [iv x3,iv x4,iv x5,.bool b1]/\∀(p2:Addr) (w3:World),New w2 (.cells #[iv 0,iv 0,iv 0,.bool false] T.qW) p2 w3->(oH w3 p2 4/\∀w4,w4=cZ w3 p2 [iv x3,iv x4,iv x5,.bool b1]->(∃x6,w4.cell? (p2.add 2)=some (iv x6)/\Calls P F.qG #[.slice A1 n1 c1,iv x6] w4 (cO fun v2 w5=>∃b2,v2=(.bool b2)/\((!b2)=true->((pF k1 I1 x2) w5))/\((!b2)=false->(∃b3,w5.cell? (p2.add 3)=some (.bool b3)/\(b3=true->(∃x7,w5.cell? (p2.add 0)=some (iv x7)/\∃x8,w5.cell? (p2.add 1)=some (iv x8)/\∃x9,w5.cell? (p2.add 2)=some (iv x9)/\Calls P F.oV #[.pointer q2,iv x7,iv x8,iv x9] w5 (cO fun v3 w7=>∃x10,v3=(iv x10)/\(pF k1 I1 x2) w7)))/\(b3=false->(∃x11,w5.cell? (p2.add 0)=some (iv x11)/\∃x12,w5.cell? (p2.add 1)=some (iv x12)/\∃x13,w5.cell? (p2.add 2)=some (iv x13)/\Calls P F.rD #[.pointer q2,iv x11,iv x12,iv x13] w5 (cO fun v4 w8=>∃x14,v4=(iv x14)/\(pF k1 I1 x2) w8))))))))))/\(¬(x2<(n3:Int))->(K q2 w2))))
theorem aCj (p1:Addr) (A1:Option Addr) (n1 c1:Nat) (K:Option Addr->World->Prop) (w:World) (H:Kr p1 A1 n1 c1 K w):Calls P F.Md #[.pointer (some p1),.slice A1 n1 c1] w (cO fun v w'=>∃q1,v=(.pointer q1)/\K q1 w'):=by
 unfold Kr at H;refine bT (P:=P) Tryz.func85 rfl [(0,.pointer (some p1)),(1,.slice A1 n1 c1)] 53 rfl rfl (aa rfl (aa rfl az)) (aG (aF (ag rfl (aH (nc (y2 0 1 rfl) (aG (aF (mv rfl (nk rfl (fa rfl (TF.jB _ _) ?_))))))))));obtain⟨A2,n2,c2,h1,H⟩:=H;refine ld rfl (aJ TF.fD h1) (sc rfl rfl FF.Ob H ?_);rintro _ w1 ⟨q2,x1,rfl,H⟩;refine mv rfl (sv rfl rfl (xe rfl rfl) (sv rfl rfl (xe rfl rfl) (ag rfl (ag rfl (aH (nc (y3 0 1 5 rfl) (aG (aG (aF (mv rfl (nk rfl (fa rfl (TF.jV _ _) ?_))))))))))));obtain⟨A3,n3,c3,h2,H⟩:=H;refine ld rfl (aJ TF.oJ h2) (sv rfl rfl (xb rfl (fun _=>bW TF.Gg)) (mv rfl (aH (nc (y5 1 5 20 21 22 rfl) (aY ?_)))));obtain⟨I1,⟨k1,hi⟩,H⟩:=H;refine fK (fun k1 a w'=>∃x2,Ok 53 [(1,.slice A1 n1 c1),(5,.pointer q2),(20,.slice A3 n3 c3),(21,iv (n3:Int)),(22,iv x2)] a/\I1 k1 x2 w') (fun a ha=>⟨k1,0,ha.weaken cs,hi⟩) ?_;rintro k1 a w2 ⟨x2,ha,hI⟩;replace H:=H k1 x2 w2 hI;refine cu ha ?_;refine aG (aF (bo rfl rfl iY (aH (nc (y6 1 5 20 21 22 23 rfl) (aG ?_)))));refine bC rfl (fun hb=> ?_) (fun hb=> ?_)
 ·replace H:=H.1 hb;refine aX (nc (y5 1 5 20 21 22 rfl) ?_);refine fA (fun a w=>Ok 53 [(1,.slice A1 n1 c1),(5,.pointer q2),(20,.slice A3 n3 c3),(21,iv (n3:Int)),(22,iv x2)] a/\pF k1 I1 x2 w) ?_ ?_
  ·rintro a w6 ⟨ha,H⟩;unfold pF at H;refine cu ha ?_;refine aF (bo rfl rfl kC (mv rfl (aH ?_)));obtain⟨k2,hk,H⟩:=H;exact bD fun a ha=>⟨k2,hk,IntKind.wrap .i64 (x2+1),ha.weaken cs,H⟩
  ·refine aY (aG (aF ?_));obtain⟨h3,h4,a1,e1,H⟩:=H;refine ix rfl rfl (aU TF.zC TF.mD e1 h3 h4) ?_;obtain⟨x3,x4,x5,b1,h5,H⟩:=H;refine ld rfl (gW (vs:=[iv x3,iv x4,iv x5,.bool b1]) TF.Rt TF.mD h5) (iP (f:=(fun p=> .pointer (some p))) rfl rfl (aI rfl) (fun a ha=>mV (nC TF.Vy)) ?_);intro p2 w3 hN;obtain⟨h7,H⟩:=H _ _ hN;refine oO rfl (aI rfl) (xs rfl rfl (kN TF.mD (by simp[Value.oneCell']) h7)) ?_;intro w4 hw;replace H:=H _ hw;clear hw;refine aH (nc (y6 1 5 8 20 21 22 rfl) (aY (aG (aF (mv rfl (fa rfl (TF.Dx _ _) ?_))))));obtain⟨x6,h8,H⟩:=H;refine ld rfl (aJ TF.aP h8) (sc rfl rfl FF.He H ?_);rintro _ w5 ⟨b2,rfl,H⟩;refine sv rfl rfl (xu rfl sK) (ag rfl (aH (nc (y7 1 5 8 20 21 22 34 rfl) ?_)));refine eG rfl (fun hb=> ?_) (fun hb=> ?_)
   ·replace H:=H.1 hb;exact aX (bZ (bZ (bD fun a ha=>⟨ha.weaken cs,H⟩)))
   ·replace H:=H.2 hb;refine aG (aF (fa rfl (TF.Rx _ _) ?_));obtain⟨b3,h9,H⟩:=H;refine ld rfl (aJ TF.Ah h9) (ag rfl (aH (nc (y7 1 5 8 20 21 22 40 rfl) ?_)));refine eG rfl (fun hb=> ?_) (fun hb=> ?_)
    ·replace H:=H.1 hb;refine aF (mv rfl (fa rfl (TF.qN _ _) ?_));obtain⟨x7,h10,H⟩:=H;refine ld rfl (aJ TF.aP h10) (fa rfl (TF.sJ _ _) ?_);obtain⟨x8,h11,H⟩:=H;refine ld rfl (aJ TF.aP h11) (fa rfl (TF.Dx _ _) ?_);obtain⟨x9,h12,H⟩:=H;refine ld rfl (aJ TF.aP h12) (sc rfl rfl FF.Fv H ?_);rintro _ w7 ⟨x10,rfl,H⟩;exact aH (bZ (bZ (bD fun a ha=>⟨ha.weaken cs,H⟩)))
    ·replace H:=H.2 hb;refine aF (mv rfl (fa rfl (TF.qN _ _) ?_));obtain⟨x11,h13,H⟩:=H;refine ld rfl (aJ TF.aP h13) (fa rfl (TF.sJ _ _) ?_);obtain⟨x12,h14,H⟩:=H;refine ld rfl (aJ TF.aP h14) (fa rfl (TF.Dx _ _) ?_);obtain⟨x13,h15,H⟩:=H;refine ld rfl (aJ TF.aP h15) (sc rfl rfl FF.Hf H ?_);rintro _ w8 ⟨x14,rfl,H⟩;exact aH (bZ (bZ (bD fun a ha=>⟨ha.weaken cs,H⟩)))
 ·replace H:=H.2 hb;exact eU (aT (aT (bQ (nc (kp 5 rfl zz) (aG (aF (mv rfl (ag rfl (aH (nc (kp 4 rfl zz) (bK (aN (res1 rfl rfl) ⟨_,rfl,_,rfl,H⟩))))))))))))
def Jq (p1:Addr) (m1:Option Nat) (v1:Value) (K:Option Addr->Nat->Nat->World->Prop) (w:World):Prop:=
 ∃(p2:Addr) (w1:World),(Instr.range T.rC (.map m1)).run P w= .ok (.pointer (some p2)) w1/\(∃I1:Nat->Option Addr->Nat->Nat->World->Prop,(∃k1,I1 k1 none 0 0 w1)/\∀k1 (A2:Option Addr) (n2 c2:Nat) (w2:World),I1 k1 A2 n2 c2 w2->(∃(b1:Bool) (vs1:List Value) (w3:World),(Instr.next (.pointer (some p2)) false T.t).run P w2= .ok (.tuple ((.bool b1)::vs1).toArray) w3/\((b1=true->(∃x1,∃x2,(Instr.entry (.pointer (some p2))).run P w3= .ok (.tuple #[iv x1,iv x2]) w3/\∀(p3:Addr) (w4:World),New w3 (.cells #[iv x1] T.int) p3 w4->(∃(A3:Option Addr) (n3 c3:Nat) (w5:World),(Builtin.append_ #[T.bH,T.bH] T.bH #[.slice A2 n2 c2,.slice (some p3) 1 1]).run P w4= .ok (.slice A3 n3 c3) w5/\(∃k2,k2<k1/\I1 k2 A3 n3 c3 w5))))/\(b1=false->(Calls P F.qI #[.slice A2 n2 c2] w3 (cO fun v2 w6=>v2=(.tuple #[])/\∃I2:Nat->Option Addr->Nat->Nat->Int->World->Prop,(∃k3,I2 k3 A2 n2 c2 0 w6)/\∀k3 (A4:Option Addr) (n4 c4:Nat) (x3:Int) (w7:World),I2 k3 A4 n4 c4 x3 w7->((x3<(n4:Int)->(Calls P F.kD #[.slice A4 n4 c4] w7 (cO fun v3 w8=>∃A5 n5 c5,v3=(.slice A5 n5 c5)/\Calls P F.sD #[.slice A5 n5 c5,iv x3,iv (IntKind.wrap .i64 (x3+1))] w8 (cO fun v4 w9=>∃A6 n6 c6,v4=(.slice A6 n6 c6)/\Calls P F.Md #[.pointer (some p1),.slice A6 n6 c6] w9 (cO fun v5 w10=>∃q1,v5=(.pointer q1)/\∃(f1:FuncId) (cs1:List Value),v1= .func (.func f1) #[] cs1.toArray/\callable P f1=true/\Calls P f1 ([.pointer q1]++cs1:List Value).toArray w10 (cO fun v6 w11=>∃b2,v6=(.bool b2)/\(b2=true->(∃k4,k4<k3/\I2 k4 A6 n6 c6 x3 w11))/\(b2=false->(∃k5,k5<k3/\I2 k5 A4 n4 c4 (IntKind.wrap .i64 (x3+1)) w11))))))))/\(¬(x3<(n4:Int))->(K A4 n4 c4 w7)))))))))
theorem aC2 (p1:Addr) (m1:Option Nat) (v1:Value) (K:Option Addr->Nat->Nat->World->Prop) (w:World) (H:Jq p1 m1 v1 K w):Calls P F.zA #[.pointer (some p1),.map m1,v1] w (cO fun v w'=>∃A1 n1 c1,v=(.slice A1 n1 c1)/\K A1 n1 c1 w'):=by
 unfold Jq at H;refine bT (P:=P) Tryz.func65 rfl [(0,.pointer (some p1)),(1,.map m1),(2,v1)] 42 rfl rfl (aa rfl (aa rfl (aa rfl az))) (aG (aF (ag rfl (aH (nc (y3 0 1 2 rfl) (aG (aF (ag rfl (aH (nc (y4 0 1 2 7 rfl) (aG (aG (aF (mv rfl ?_))))))))))))));obtain⟨p2,w1,h1,H⟩:=H;refine sv rfl rfl (fun a ha=>aOq (ha.ev rfl) h1) (aH (nc (y4 0 2 7 12 rfl) (aY ?_)));obtain⟨I1,⟨k1,hi⟩,H⟩:=H;refine fK (fun k1 a w'=>∃A2 n2 c2,Ok 42 [(0,.pointer (some p1)),(2,v1),(7,.slice A2 n2 c2),(12,.pointer (some p2))] a/\I1 k1 A2 n2 c2 w') (fun a ha=>⟨k1,none,0,0,ha.weaken cs,hi⟩) ?_;rintro k1 a w2 ⟨A2,n2,c2,ha,hI⟩;replace H:=H k1 A2 n2 c2 w2 hI;refine cu ha ?_;refine aG (aF ?_);obtain⟨b1,vs1,w3,h2,H⟩:=H;refine sv rfl rfl (fun a ha=>aRb (ha.ev rfl) h2) (sv rfl rfl (xe rfl rfl) (aH (nc (y5 0 2 7 12 14 rfl) (aG ?_))));refine eG rfl (fun hb=> ?_) (fun hb=> ?_)
 ·replace H:=H.1 hb;refine aX (nc (y4 0 2 7 12 rfl) (aY (aG (aF ?_))));obtain⟨x1,x2,h3,H⟩:=H;refine sv rfl rfl (fun a ha=>aPg (ha.ev rfl) h3) (sv rfl rfl (xe rfl rfl) (ag rfl (aH (nc (y5 0 2 7 8 12 rfl) (aF (mv rfl (mv rfl (sz rfl rfl (xl 1 1 (.cells #[iv x1] T.int) rfl) ?_))))))));intro p3 w4 hN;obtain⟨A3,n3,c3,w5,h4,H⟩:=H _ _ hN;refine sv rfl rfl (xb rfl (fun _=>dY h4)) (ag rfl (aH (bZ ?_)));obtain⟨k2,hk,H⟩:=H;exact bD fun a ha=>⟨k2,hk,A3,n3,c3,ha.weaken cs,H⟩
 ·replace H:=H.2 hb;refine eU (aT (aT (bQ (nc (y3 0 2 7 rfl) (aG (aF (mv rfl (sc rfl rfl FF.Nc H ?_))))))));rintro _ w6 ⟨rfl,H⟩;refine aH (nc (y3 0 2 7 rfl) (aG (aG (aF (ag rfl (aH (nc (y4 0 2 7 9 rfl) (aY ?_))))))));obtain⟨I2,⟨k3,hi⟩,H⟩:=H;refine fK (fun k3 a w'=>∃A4 n4 c4,∃x3,Ok 42 [(0,.pointer (some p1)),(2,v1),(7,.slice A4 n4 c4),(9,iv x3)] a/\I2 k3 A4 n4 c4 x3 w') (fun a ha=>⟨k3,A2,n2,c2,0,ha.weaken cs,hi⟩) ?_;rintro k3 a w7 ⟨A4,n4,c4,x3,ha,hI⟩;replace H:=H k3 A4 n4 c4 x3 w7 hI;refine cu ha ?_;refine aG (aG (aF (mv rfl (mv rfl (sv rfl rfl (xb rfl (fun _=>bW TF.bP)) (bo rfl rfl iY (aH (nc (y5 0 2 7 9 26 rfl) ?_))))))));refine bC rfl (fun hb=> ?_) (fun hb=> ?_)
  ·replace H:=H.1 hb;refine aX (nc (y4 0 2 7 9 rfl) (aY (aG (aF (mv rfl (sc rfl rfl FF.qV H ?_))))));rintro _ w8 ⟨A5,n5,c5,rfl,H⟩;refine mv rfl (mv rfl (bo rfl rfl kC (sc rfl rfl FF.Jj H ?_)));rintro _ w9 ⟨A6,n6,c6,rfl,H⟩;refine ag rfl (aH (nc (y5 0 2 7 9 10 rfl) (aG (aF (mv rfl (mv rfl (mv rfl (sc rfl rfl FF.Xc H ?_))))))));rintro _ w10 ⟨q1,rfl,H⟩;obtain⟨f1,cs1,e1,h5,H⟩:=H;refine Eu rfl rfl (aI rfl) (fun a ha=>aFa ((ha.ev rfl).trans e1) (ha.evs rfl) h5) H ?_;rintro _ w11 ⟨b2,rfl,H⟩;refine aH (nc (y6 0 2 7 9 10 37 rfl) ?_);refine eG rfl (fun hb=> ?_) (fun hb=> ?_)
   ·replace H:=H.1 hb;refine aF (mv rfl (ag rfl (aH (bZ ?_))));obtain⟨k4,hk,H⟩:=H;exact bD fun a ha=>⟨k4,hk,A6,n6,c6,x3,ha.weaken cs,H⟩
   ·replace H:=H.2 hb;refine aF (mv rfl (bo rfl rfl kC (ag rfl (aH (bZ ?_)))));obtain⟨k5,hk,H⟩:=H;exact bD fun a ha=>⟨k5,hk,A4,n4,c4,IntKind.wrap .i64 (x3+1),ha.weaken cs,H⟩
  ·replace H:=H.2 hb;exact eU (aT (aT (bQ (nc (kp 7 rfl zz) (aG (aF (mv rfl (ag rfl (aH (nc (kp 6 rfl zz) (bK (aN (res1 rfl rfl) ⟨_,rfl,_,_,_,rfl,H⟩))))))))))))
def Ih (p1:Addr) (p2:Addr) (p3:Addr) (K:Bool->World->Prop) (w:World):Prop:=
 ∃x1,w.cell? p2=some (iv x1)/\∃x2,(∀w',aO w w'->Calls P F.bV #[.pointer (some (p1.add 0)),iv x1] w' fun x w''=>x= .returned (iv x2)/\aO w' w'')/\∃x3,w.cell? p3=some (iv x3)/\∃x4,(∀w',aO w w'->Calls P F.bV #[.pointer (some (p1.add 0)),iv x3] w' fun x w''=>x= .returned (iv x4)/\aO w' w'')/\∀w1,aO w w1->(K (decide (x2=x4)) w1)
theorem aB7 (p1:Addr) (p2:Addr) (p3:Addr) (K:Bool->World->Prop) (w:World) (H:Ih p1 p2 p3 K w):Calls P F.Yu #[.pointer (some p1),.pointer (some p2),.pointer (some p3)] w (cO fun v w'=>∃b1,v=(.bool b1)/\K b1 w'):=by
 unfold Ih at H;refine bT (P:=P) Tryz.func66 rfl [(0,.pointer (some p1)),(1,.pointer (some p2)),(2,.pointer (some p3))] 16 rfl rfl (aa rfl (aa rfl (aa rfl az))) (aG (aF (ag rfl (aH (nc (y3 0 1 2 rfl) (aG ?_))))));refine bU follows [0,1,2,3,4,5,6,7,8,9,10,11] [3,4,8,9] 12 rfl rfl (by kernel_rfl) (fun _ _ d _ _ h=>by cases d<;>exact h) (fun cm W D=> ?_);refine gZ 0 cm rfl rfl D W fun _ D W=>(Gh 1 cm rfl rfl D W fun _ D W=>(lH 2 cm rfl rfl (TF.bI _ _) D W fun _ D W=> ?_));obtain⟨x1,h1,H⟩:=H;refine vl 3 cm rfl rfl (fun hw=>(aJ TF.aP ((hw.cell _).trans h1))) D W fun _ D W=> ?_;obtain⟨x2,h2,H⟩:=H;refine Ql (i:=4) cm rfl (by kernel_rfl) W rfl rfl (aI rfl) (fun w' hw a ha=>nD (ha.ev rfl) (ha.evs rfl) FF.bJ) h2 rfl ?_;intro _ hd W;replace D:=D.trans hd;clear hd;refine gZ 5 cm rfl rfl D W fun _ D W=>(Gh 6 cm rfl rfl D W fun _ D W=>(lH 7 cm rfl rfl (TF.bI _ _) D W fun _ D W=> ?_));obtain⟨x3,h3,H⟩:=H;refine vl 8 cm rfl rfl (fun hw=>(aJ TF.aP ((hw.cell _).trans h3))) D W fun _ D W=> ?_;obtain⟨x4,h4,H⟩:=H;refine Ql (i:=9) cm rfl (by kernel_rfl) W rfl rfl (aI rfl) (fun w' hw a ha=>nD (ha.ev rfl) (ha.evs rfl) FF.bJ) h4 rfl ?_;intro _ hd W;replace D:=D.trans hd;clear hd;refine Qj 10 cm rfl rfl rfl (fun w' a ha=>fZ (ha.ev rfl) (ha.ev rfl) iR) D fun _ D=>(Bo 11 cm rfl rfl D fun _ D=>(dJ (by kernel_rfl) D ?_));intro w1 D;replace H:=H _ D;clear D cm;exact nc (kp 4 rfl zz) (bK (aN (res1 rfl rfl) ⟨_,rfl,_,rfl,H⟩))
def Ny (p1:Addr) (x1:Int) (x2:Int) (K:Option Addr->Nat->Nat->Int->World->Prop) (w:World):Prop:=
 ∀(p2:Addr) (w1:World),New w (.cells #[iv x1] T.int) p2 w1->(∀(p3:Addr) (w2:World),New w1 (.cells #[iv x2] T.int) p3 w2->(∃x4,w2.cell? p2=some (iv x4)/\∃x5,w2.cell? p3=some (iv x5)/\Calls P F.lX #[.pointer (some p1),iv x4,iv x5] w2 (cO fun v1 w3=>∃b1,v1=(.bool b1)/\((!b1)=true->(K none 0 0 80 w3))/\((!b1)=false->(∃x6,w3.cell? p2=some (iv x6)/\∃x7,(∀w',aO w3 w'->Calls P F.bV #[.pointer (some (p1.add 0)),iv x6] w' fun x w''=>x= .returned (iv x7)/\aO w' w'')/\∃x8,w3.cell? p3=some (iv x8)/\∃x9,(∀w',aO w3 w'->Calls P F.bV #[.pointer (some (p1.add 0)),iv x8] w' fun x w''=>x= .returned (iv x9)/\aO w' w'')/\∀w4,aO w3 w4->((x7≠x9->(K none 0 0 82 w4))/\(¬(x7≠x9)->(∀(m1:Nat) (w5:World),aAe w4 m1 w5->(∃x10,w5.cell? p2=some (iv x10)/\∃x11,w5.cell? p3=some (iv x11)/\Calls P F.vU #[.pointer (some p1),iv x10,iv x11,.map (some m1)] w5 (cO fun v2 w6=>v2=(.tuple #[])/\Calls P F.zA #[.pointer (some p1),.map (some m1),.func (.func F.Yu) #[] #[.pointer (some p2),.pointer (some p3)]] w6 (cO fun v3 w7=>∃A2 n2 c2,v3=(.slice A2 n2 c2)/\K A2 n2 c2 0 w7)))))))))))
theorem aD7 (p1:Addr) (x1:Int) (x2:Int) (K:Option Addr->Nat->Nat->Int->World->Prop) (w:World) (H:Ny p1 x1 x2 K w):Calls P F.Hl #[.pointer (some p1),iv x1,iv x2] w (cO fun v w'=>∃A1 n1 c1,∃x3,v=(.tuple #[.slice A1 n1 c1,iv x3])/\K A1 n1 c1 x3 w'):=by
 unfold Ny at H;refine bT (P:=P) Tryz.func44 rfl [(0,.pointer (some p1)),(1,iv x1),(2,iv x2)] 35 rfl rfl (aa rfl (aa rfl (aa rfl az))) (aG (aF (iP (f:=(fun p=> .pointer (some p))) rfl rfl (aI rfl) (fun a ha=>uM (ha.ev rfl) uO) ?_)));intro p2 w1 hN;replace H:=H _ _ hN;refine iP (f:=(fun p=> .pointer (some p))) rfl rfl (aI rfl) (fun a ha=>uM (ha.ev rfl) uO) ?_;intro p3 w2 hN;replace H:=H _ _ hN;refine ag rfl (ag rfl (aH (nc (y3 0 4 5 rfl) (aG (aG (aF (mv rfl ?_)))))));obtain⟨x4,h3,H⟩:=H;refine ld rfl (aJ TF.aP h3) ?_;obtain⟨x5,h4,H⟩:=H;refine ld rfl (aJ TF.aP h4) (sc rfl rfl FF.jL H ?_);rintro _ w3 ⟨b1,rfl,H⟩;refine sv rfl rfl (xu rfl sK) (aH (nc (y4 0 4 5 13 rfl) ?_));refine eG rfl (fun hb=> ?_) (fun hb=> ?_)
 ·replace H:=H.1 hb;exact aG (aF (ag rfl (ag rfl (aH (nc (y2 6 7 rfl) (bK (aQ (aN (Jk rfl rfl rfl) ⟨_,rfl,_,_,_,_,rfl,H⟩))))))))
 ·replace H:=H.2 hb;refine aX (nc (y3 0 4 5 rfl) (aG (aG ?_)));refine bU follows [0,1,2,3,4,5,6,7,8,9,10] [3,4,8,9] 11 rfl rfl (by kernel_rfl) (fun _ _ d _ _ h=>by cases d<;>exact h) (fun cm W D=> ?_);refine gZ 0 cm rfl rfl D W fun _ D W=>(Gh 1 cm rfl rfl D W fun _ D W=>(lH 2 cm rfl rfl (TF.bI _ _) D W fun _ D W=> ?_));obtain⟨x6,h5,H⟩:=H;refine vl 3 cm rfl rfl (fun hw=>(aJ TF.aP ((hw.cell _).trans h5))) D W fun _ D W=> ?_;obtain⟨x7,h6,H⟩:=H;refine Ql (i:=4) cm rfl (by kernel_rfl) W rfl rfl (aI rfl) (fun w' hw a ha=>nD (ha.ev rfl) (ha.evs rfl) FF.bJ) h6 rfl ?_;intro _ hd W;replace D:=D.trans hd;clear hd;refine gZ 5 cm rfl rfl D W fun _ D W=>(Gh 6 cm rfl rfl D W fun _ D W=>(lH 7 cm rfl rfl (TF.bI _ _) D W fun _ D W=> ?_));obtain⟨x8,h7,H⟩:=H;refine vl 8 cm rfl rfl (fun hw=>(aJ TF.aP ((hw.cell _).trans h7))) D W fun _ D W=> ?_;obtain⟨x9,h8,H⟩:=H;refine Ql (i:=9) cm rfl (by kernel_rfl) W rfl rfl (aI rfl) (fun w' hw a ha=>nD (ha.ev rfl) (ha.evs rfl) FF.bJ) h8 rfl ?_;intro _ hd W;replace D:=D.trans hd;clear hd;refine Qj 10 cm rfl rfl rfl (fun w' a ha=>fZ (ha.ev rfl) (ha.ev rfl) qR) D fun _ D=>(dJ (by kernel_rfl) D ?_);intro w4 D;replace H:=H _ D;clear D cm;refine nc (y4 0 4 5 24 rfl) ?_;refine bC rfl (fun hb=> ?_) (fun hb=> ?_)
  ·replace H:=H.1 hb;exact aG (aF (ag rfl (ag rfl (aH (nc (y2 6 7 rfl) (bK (aQ (aN (Jk rfl rfl rfl) ⟨_,rfl,_,_,_,_,rfl,H⟩))))))))
  ·replace H:=H.2 hb;refine aX (nc (y3 0 4 5 rfl) (aG (aF (aE0 rfl rfl (aI rfl) (fun a ha=>Ew Fa) ?_))));intro m1 w5 hN;replace H:=H _ _ hN;refine ag rfl (aH (nc (y4 0 4 5 8 rfl) (aG (aF (mv rfl ?_)))));obtain⟨x10,h9,H⟩:=H;refine ld rfl (aJ TF.aP h9) ?_;obtain⟨x11,h10,H⟩:=H;refine ld rfl (aJ TF.aP h10) (mv rfl (sc rfl rfl FF.tK H ?_));rintro _ w6 ⟨rfl,H⟩;refine aH (nc (y4 0 4 5 8 rfl) (aG (aF (mv rfl (mv rfl (sv rfl rfl (fun a ha=>Oe (ha.evs rfl) (ha.evs rfl)) (sc rfl rfl FF.zG H ?_)))))));rintro _ w7 ⟨A2,n2,c2,rfl,H⟩;exact ag rfl (ag rfl (aH (nc (y2 6 7 rfl) (bK (aN (Jk rfl rfl rfl) ⟨_,rfl,_,_,_,_,rfl,H⟩)))))
def yZ (p1:Addr) (p2:Addr) (p3:Addr) (K:Bool->World->Prop) (w:World):Prop:=
 ∃x1,w.cell? p2=some (iv x1)/\∃x2,w.cell? p3=some (iv x2)/\Calls P F.vK #[.pointer (some p1),iv x1,iv x2] w (cO fun v1 w1=>∃x3,v1=(iv x3)/\K (decide (0<=x3)) w1)
theorem Xn (p1:Addr) (p2:Addr) (p3:Addr) (K:Bool->World->Prop) (w:World) (H:yZ p1 p2 p3 K w):Calls P F.Oy #[.pointer (some p1),.pointer (some p2),.pointer (some p3)] w (cO fun v w'=>∃b1,v=(.bool b1)/\K b1 w'):=by
 unfold yZ at H;refine bT (P:=P) Tryz.func67 rfl [(0,.pointer (some p1)),(1,.pointer (some p2)),(2,.pointer (some p3))] 10 rfl rfl (aa rfl (aa rfl (aa rfl az))) (aG (aF (ag rfl (aH (nc (y3 0 1 2 rfl) (aG (aF (mv rfl ?_))))))));obtain⟨x1,h1,H⟩:=H;refine ld rfl (aJ TF.aP h1) ?_;obtain⟨x2,h2,H⟩:=H;refine ld rfl (aJ TF.aP h2) (sc rfl rfl FF.wV H ?_);rintro _ w1 ⟨x3,rfl,H⟩;exact bo rfl rfl Kq (ag rfl (aH (nc (kp 4 rfl zz) (bK (aN (res1 rfl rfl) ⟨_,rfl,_,rfl,H⟩)))))
def oC (p4:Addr) (p2:Addr) (p1:Addr) (p3:Addr) (K:Option Addr->Nat->Nat->Int->World->Prop) (w10:World):Prop:=
 ∀(m1:Nat) (w11:World),aAe w10 m1 w11->(∃x18,w11.cell? (p4.add 2)=some (iv x18)/\∃w12:World,(Instr.mapUpdate T.rC (.map (some m1)) (iv x18) (iv 1)).run P w11= .ok () w12/\(∃x19,w12.cell? (p4.add 0)=some (iv x19)/\∃x20,w12.cell? p2=some (iv x20)/\Calls P F.vU #[.pointer (some p1),iv x19,iv x20,.map (some m1)] w12 (cO fun v3 w13=>v3=(.tuple #[])/\∃x21,w13.cell? (p4.add 1)=some (iv x21)/\∃x22,w13.cell? p3=some (iv x22)/\Calls P F.vU #[.pointer (some p1),iv x21,iv x22,.map (some m1)] w13 (cO fun v4 w14=>v4=(.tuple #[])/\Calls P F.zA #[.pointer (some p1),.map (some m1),.func (.func F.Oy) #[] #[.pointer (some p2),.pointer (some p3)]] w14 (cO fun v5 w15=>∃A3 n3 c3,v5=(.slice A3 n3 c3)/\K A3 n3 c3 0 w15)))))
def Bg (p1:Addr) (x1:Int) (x2:Int) (K:Option Addr->Nat->Nat->Int->World->Prop) (w:World):Prop:=
 ∀(p2:Addr) (w1:World),New w (.cells #[iv x1] T.int) p2 w1->(∀(p3:Addr) (w2:World),New w1 (.cells #[iv x2] T.int) p3 w2->(∃x4,w2.cell? p2=some (iv x4)/\∃x5,w2.cell? p3=some (iv x5)/\Calls P F.lX #[.pointer (some p1),iv x4,iv x5] w2 (cO fun v1 w3=>∃b1,v1=(.bool b1)/\((!b1)=true->(K none 0 0 80 w3))/\((!b1)=false->(∃x6,w3.cell? p2=some (iv x6)/\∃x7,w3.cell? p3=some (iv x7)/\Calls P F.vK #[.pointer (some p1),iv x6,iv x7] w3 (cO fun v2 w4=>∃x8,v2=(iv x8)/\(x8<0->(K none 0 0 91 w4))/\(¬(x8<0)->(∃A2 n2 c2,w4.cell? (p1.add 8)=some (.slice A2 n2 c2)/\0<=x8/\x8<(n2:Int)/\∃a1,A2=some a1/\∃x9,∃x10,∃x11,∃b2,bG w4 (a1.add (x8.toNat*4)) [iv x9,iv x10,iv x11,.bool b2]/\∀(p4:Addr) (w5:World),New w4 (.cells #[iv 0,iv 0,iv 0,.bool false] T.qW) p4 w5->(oH w5 p4 4/\∀w6,w6=cZ w5 p4 [iv x9,iv x10,iv x11,.bool b2]->(∃x12,w6.cell? (p4.add 0)=some (iv x12)/\∃x13,(∀w',aO w6 w'->Calls P F.bV #[.pointer (some (p1.add 0)),iv x12] w' fun x w''=>x= .returned (iv x13)/\aO w' w'')/\∃x14,w6.cell? p2=some (iv x14)/\∃x15,(∀w',aO w6 w'->Calls P F.bV #[.pointer (some (p1.add 0)),iv x14] w' fun x w''=>x= .returned (iv x15)/\aO w' w'')/\∀w7,aO w6 w7->((x13≠x15->(∃x16,w7.cell? (p4.add 1)=some (iv x16)/\∃x17,w7.cell? (p4.add 0)=some (iv x17)/\(∃u1,w7.cell? (p4.add 0)=some u1)/\w7.frozen? (p4.add 0)=false/\∀w8,w8=w7.setCell (p4.add 0) (iv x16)->((∃u2,w8.cell? (p4.add 1)=some u2)/\w8.frozen? (p4.add 1)=false/\∀w9,w9=w8.setCell (p4.add 1) (iv x17)->((oC p4 p2 p1 p3 K) w9))))/\(¬(x13≠x15)->((oC p4 p2 p1 p3 K) w7)))))))))))))
theorem Zf (p1:Addr) (x1:Int) (x2:Int) (K:Option Addr->Nat->Nat->Int->World->Prop) (w:World) (H:Bg p1 x1 x2 K w):Calls P F.vV #[.pointer (some p1),iv x1,iv x2] w (cO fun v w'=>∃A1 n1 c1,∃x3,v=(.tuple #[.slice A1 n1 c1,iv x3])/\K A1 n1 c1 x3 w'):=by
 unfold Bg at H;refine bT (P:=P) Tryz.func46 rfl [(0,.pointer (some p1)),(1,iv x1),(2,iv x2)] 67 rfl rfl (aa rfl (aa rfl (aa rfl az))) (aG (aF (iP (f:=(fun p=> .pointer (some p))) rfl rfl (aI rfl) (fun a ha=>uM (ha.ev rfl) uO) ?_)));intro p2 w1 hN;replace H:=H _ _ hN;refine iP (f:=(fun p=> .pointer (some p))) rfl rfl (aI rfl) (fun a ha=>uM (ha.ev rfl) uO) ?_;intro p3 w2 hN;replace H:=H _ _ hN;refine ag rfl (ag rfl (aH (nc (y3 0 4 5 rfl) (aG (aG (aF (mv rfl ?_)))))));obtain⟨x4,h3,H⟩:=H;refine ld rfl (aJ TF.aP h3) ?_;obtain⟨x5,h4,H⟩:=H;refine ld rfl (aJ TF.aP h4) (sc rfl rfl FF.jL H ?_);rintro _ w3 ⟨b1,rfl,H⟩;refine sv rfl rfl (xu rfl sK) (aH (nc (y4 0 4 5 15 rfl) ?_));refine eG rfl (fun hb=> ?_) (fun hb=> ?_)
 ·replace H:=H.1 hb;exact aG (aF (ag rfl (ag rfl (aH (nc (y2 6 7 rfl) (bK (aQ (aN (Jk rfl rfl rfl) ⟨_,rfl,_,_,_,_,rfl,H⟩))))))))
 ·replace H:=H.2 hb;refine aX (nc (y3 0 4 5 rfl) (aG (aF (mv rfl ?_))));obtain⟨x6,h5,H⟩:=H;refine ld rfl (aJ TF.aP h5) ?_;obtain⟨x7,h6,H⟩:=H;refine ld rfl (aJ TF.aP h6) (sc rfl rfl FF.wV H ?_);rintro _ w4 ⟨x8,rfl,H⟩;refine ag rfl (aH (nc (y4 0 4 5 8 rfl) (aG (aG (aF (mv rfl (bo rfl rfl iY (aH (nc (y5 0 4 5 8 21 rfl) ?_)))))))));refine bC rfl (fun hb=> ?_) (fun hb=> ?_)
  ·replace H:=H.1 hb;exact aG (aF (ag rfl (ag rfl (aH (nc (y2 6 7 rfl) (bK (aQ (aN (Jk rfl rfl rfl) ⟨_,rfl,_,_,_,_,rfl,H⟩))))))))
  ·replace H:=H.2 hb;refine aX (nc (y4 0 4 5 8 rfl) (aG (aF (mv rfl (nk rfl (fa rfl (TF.jV _ _) ?_))))));obtain⟨A2,n2,c2,h7,H⟩:=H;refine ld rfl (aJ TF.oJ h7) (mv rfl ?_);obtain⟨h8,h9,a1,e1,H⟩:=H;refine ix rfl rfl (aU TF.zC TF.mD e1 h8 h9) ?_;obtain⟨x9,x10,x11,b2,h10,H⟩:=H;refine ld rfl (gW (vs:=[iv x9,iv x10,iv x11,.bool b2]) TF.Rt TF.mD h10) (iP (f:=(fun p=> .pointer (some p))) rfl rfl (aI rfl) (fun a ha=>mV (nC TF.Vy)) ?_);intro p4 w5 hN;obtain⟨h12,H⟩:=H _ _ hN;refine oO rfl (aI rfl) (xs rfl rfl (kN TF.mD (by simp[Value.oneCell']) h12)) ?_;intro w6 hw;replace H:=H _ hw;clear hw;refine aH (nc (y4 0 4 5 9 rfl) ?_);refine fA (fun a w=>Ok 67 [(0,.pointer (some p1)),(4,.pointer (some p2)),(5,.pointer (some p3)),(9,.pointer (some p4))] a/\oC p4 p2 p1 p3 K w) ?_ ?_
   ·rintro a w10 ⟨ha,H⟩;unfold oC at H;refine cu ha ?_;refine aG (aF (aE0 rfl rfl (aI rfl) (fun a ha=>Ew Fa) ?_));intro m1 w11 hN;replace H:=H _ _ hN;refine fa rfl (TF.Dx _ _) ?_;obtain⟨x18,h23,H⟩:=H;refine ld rfl (aJ TF.aP h23) ?_;obtain⟨w12,h24,H⟩:=H;refine aL7 rfl (aI rfl) (fun a ha=>aJc (ha.ev rfl) (ha.ev rfl) (ha.ev rfl) h24) (mv rfl (ag rfl (aH (nc (y5 0 4 5 9 10 rfl) (aG (aF (mv rfl (fa rfl (TF.qN _ _) ?_))))))));obtain⟨x19,h25,H⟩:=H;refine ld rfl (aJ TF.aP h25) ?_;obtain⟨x20,h26,H⟩:=H;refine ld rfl (aJ TF.aP h26) (mv rfl (sc rfl rfl FF.tK H ?_));rintro _ w13 ⟨rfl,H⟩;refine aH (nc (y5 0 4 5 9 10 rfl) (aG (aF (mv rfl (fa rfl (TF.sJ _ _) ?_)))));obtain⟨x21,h27,H⟩:=H;refine ld rfl (aJ TF.aP h27) ?_;obtain⟨x22,h28,H⟩:=H;refine ld rfl (aJ TF.aP h28) (mv rfl (sc rfl rfl FF.tK H ?_));rintro _ w14 ⟨rfl,H⟩;refine aH (nc (y4 0 4 5 10 rfl) (aG (aF (mv rfl (mv rfl (sv rfl rfl (fun a ha=>Oe (ha.evs rfl) (ha.evs rfl)) (sc rfl rfl FF.zG H ?_)))))));rintro _ w15 ⟨A3,n3,c3,rfl,H⟩;exact ag rfl (ag rfl (aH (nc (y2 6 7 rfl) (bK (aN (Jk rfl rfl rfl) ⟨_,rfl,_,_,_,_,rfl,H⟩)))))
   ·refine aG ?_;refine bU follows [0,1,2,3,4,5,6,7,8,9,10,11] [4,5,9,10] 12 rfl rfl (by kernel_rfl) (fun _ _ d _ _ h=>by cases d<;>exact h) (fun cm W D=> ?_);refine gZ 0 cm rfl rfl D W fun _ D W=>(Gh 1 cm rfl rfl D W fun _ D W=>(lH 2 cm rfl rfl (TF.bI _ _) D W fun _ D W=>(lH 3 cm rfl rfl (TF.qN _ _) D W fun _ D W=> ?_)));obtain⟨x12,h13,H⟩:=H;refine vl 4 cm rfl rfl (fun hw=>(aJ TF.aP ((hw.cell _).trans h13))) D W fun _ D W=> ?_;obtain⟨x13,h14,H⟩:=H;refine Ql (i:=5) cm rfl (by kernel_rfl) W rfl rfl (aI rfl) (fun w' hw a ha=>nD (ha.ev rfl) (ha.evs rfl) FF.bJ) h14 rfl ?_;intro _ hd W;replace D:=D.trans hd;clear hd;refine gZ 6 cm rfl rfl D W fun _ D W=>(Gh 7 cm rfl rfl D W fun _ D W=>(lH 8 cm rfl rfl (TF.bI _ _) D W fun _ D W=> ?_));obtain⟨x14,h15,H⟩:=H;refine vl 9 cm rfl rfl (fun hw=>(aJ TF.aP ((hw.cell _).trans h15))) D W fun _ D W=> ?_;obtain⟨x15,h16,H⟩:=H;refine Ql (i:=10) cm rfl (by kernel_rfl) W rfl rfl (aI rfl) (fun w' hw a ha=>nD (ha.ev rfl) (ha.evs rfl) FF.bJ) h16 rfl ?_;intro _ hd W;replace D:=D.trans hd;clear hd;refine Qj 11 cm rfl rfl rfl (fun w' a ha=>fZ (ha.ev rfl) (ha.ev rfl) qR) D fun _ D=>(dJ (by kernel_rfl) D ?_);intro w7 D;replace H:=H _ D;clear D cm;refine nc (y5 0 4 5 9 40 rfl) ?_;refine bC rfl (fun hb=> ?_) (fun hb=> ?_)
    ·replace H:=H.1 hb;refine aF (fa rfl (TF.sJ _ _) ?_);obtain⟨x16,h17,H⟩:=H;refine ld rfl (aJ TF.aP h17) (fa rfl (TF.qN _ _) ?_);obtain⟨x17,h18,H⟩:=H;refine ld rfl (aJ TF.aP h18) (fa rfl (TF.qN _ _) ?_);obtain⟨⟨u1,h19⟩,h20,H⟩:=H;refine oO rfl (aI rfl) (xs rfl rfl (dM TF.size_int rfl rfl h19 h20)) ?_;intro w8 hw;replace H:=H _ hw;clear hw;refine fa rfl (TF.sJ _ _) ?_;obtain⟨⟨u2,h21⟩,h22,H⟩:=H;refine oO rfl (aI rfl) (xs rfl rfl (dM TF.size_int rfl rfl h21 h22)) ?_;intro w9 hw;replace H:=H _ hw;clear hw;exact aH (bD fun a ha=>⟨ha.weaken cs,H⟩)
    ·replace H:=H.2 hb;exact aX (bD fun a ha=>⟨ha.weaken cs,H⟩)
def zD (p1:Addr) (K:Bool->World->Prop) (w:World):Prop:=
 Calls P F.xK #[.pointer (some p1)] w (cO fun v1 w1=>∃b2,v1=(.bool b2)/\K b2 w1)
theorem Xe (p1:Addr) (K:Bool->World->Prop) (w:World) (H:zD p1 K w):Calls P F.Qe #[.pointer (some p1)] w (cO fun v w'=>∃b1,v=(.bool b1)/\K b1 w'):=by
 unfold zD at H;refine bT (P:=P) Tryz.func68 rfl [(0,.pointer (some p1))] 5 rfl rfl (fun p hp=>by rcases List.mem_singleton.1 hp with rfl;rfl) (aG (aF (ag rfl (aH (nc (kp 0 rfl zz) (aG (aF (mv rfl (sc rfl rfl FF.Ht H ?_)))))))));rintro _ w1 ⟨b2,rfl,H⟩;exact ag rfl (aH (nc (kp 2 rfl zz) (bK (aN (res1 rfl rfl) ⟨_,rfl,_,rfl,H⟩))))
def Be (p1:Addr) (K:Option Addr->Nat->Nat->Int->World->Prop) (w:World):Prop:=
 Calls P F.xZ #[.pointer (some p1)] w (cO fun v1 w1=>∃x2,v1=(iv x2)/\(x2<0->(K none 0 0 91 w1))/\(¬(x2<0)->(∃A2 n2 c2,w1.cell? (p1.add 8)=some (.slice A2 n2 c2)/\0<=x2/\x2<(n2:Int)/\∃a1,A2=some a1/\∃x3,∃x4,∃x5,∃b1,bG w1 (a1.add (x2.toNat*4)) [iv x3,iv x4,iv x5,.bool b1]/\∀(p2:Addr) (w2:World),New w1 (.cells #[iv 0,iv 0,iv 0,.bool false] T.qW) p2 w2->(oH w2 p2 4/\∀w3,w3=cZ w2 p2 [iv x3,iv x4,iv x5,.bool b1]->(∀(m1:Nat) (w4:World),aAe w3 m1 w4->(∃x6,w4.cell? (p2.add 2)=some (iv x6)/\∃w5:World,(Instr.mapUpdate T.rC (.map (some m1)) (iv x6) (iv 1)).run P w4= .ok () w5/\(∃x7,w5.cell? (p2.add 0)=some (iv x7)/\∃x8,w5.cell? (p2.add 1)=some (iv x8)/\Calls P F.vU #[.pointer (some p1),iv x7,iv x8,.map (some m1)] w5 (cO fun v2 w6=>v2=(.tuple #[])/\Calls P F.zA #[.pointer (some p1),.map (some m1),.func (.func F.Qe) #[] #[]] w6 (cO fun v3 w7=>∃A3 n3 c3,v3=(.slice A3 n3 c3)/\K A3 n3 c3 0 w7)))))))))
theorem Zl (p1:Addr) (K:Option Addr->Nat->Nat->Int->World->Prop) (w:World) (H:Be p1 K w):Calls P F.vW #[.pointer (some p1)] w (cO fun v w'=>∃A1 n1 c1,∃x1,v=(.tuple #[.slice A1 n1 c1,iv x1])/\K A1 n1 c1 x1 w'):=by
 unfold Be at H;refine bT (P:=P) Tryz.func48 rfl [(0,.pointer (some p1))] 32 rfl rfl (fun p hp=>by rcases List.mem_singleton.1 hp with rfl;rfl) (aG (aF (ag rfl (ag rfl (aH (nc (kp 0 rfl zz) (aG (aF (mv rfl (sc rfl rfl FF.Ea H ?_))))))))));rintro _ w1 ⟨x2,rfl,H⟩;refine ag rfl (aH (nc (y2 0 4 rfl) (aG (aG (aF (mv rfl (bo rfl rfl iY (aH (nc (y3 0 4 10 rfl) ?_)))))))));refine bC rfl (fun hb=> ?_) (fun hb=> ?_)
 ·replace H:=H.1 hb;exact aG (aF (ag rfl (ag rfl (aH (nc (y2 2 3 rfl) (bK (aQ (aN (Jk rfl rfl rfl) ⟨_,rfl,_,_,_,_,rfl,H⟩))))))))
 ·replace H:=H.2 hb;refine aX (nc (y2 0 4 rfl) (aG (aF (mv rfl (nk rfl (fa rfl (TF.jV _ _) ?_))))));obtain⟨A2,n2,c2,h1,H⟩:=H;refine ld rfl (aJ TF.oJ h1) (mv rfl ?_);obtain⟨h2,h3,a1,e1,H⟩:=H;refine ix rfl rfl (aU TF.zC TF.mD e1 h2 h3) ?_;obtain⟨x3,x4,x5,b1,h4,H⟩:=H;refine ld rfl (gW (vs:=[iv x3,iv x4,iv x5,.bool b1]) TF.Rt TF.mD h4) (iP (f:=(fun p=> .pointer (some p))) rfl rfl (aI rfl) (fun a ha=>mV (nC TF.Vy)) ?_);intro p2 w2 hN;obtain⟨h6,H⟩:=H _ _ hN;refine oO rfl (aI rfl) (xs rfl rfl (kN TF.mD (by simp[Value.oneCell']) h6)) ?_;intro w3 hw;replace H:=H _ hw;clear hw;refine aH (nc (y2 0 5 rfl) (aG (aF (aE0 rfl rfl (aI rfl) (fun a ha=>Ew Fa) ?_))));intro m1 w4 hN;replace H:=H _ _ hN;refine fa rfl (TF.Dx _ _) ?_;obtain⟨x6,h7,H⟩:=H;refine ld rfl (aJ TF.aP h7) ?_;obtain⟨w5,h8,H⟩:=H;refine aL7 rfl (aI rfl) (fun a ha=>aJc (ha.ev rfl) (ha.ev rfl) (ha.ev rfl) h8) (mv rfl (ag rfl (aH (nc (y3 0 5 6 rfl) (aG (aF (mv rfl (fa rfl (TF.qN _ _) ?_))))))));obtain⟨x7,h9,H⟩:=H;refine ld rfl (aJ TF.aP h9) (fa rfl (TF.sJ _ _) ?_);obtain⟨x8,h10,H⟩:=H;refine ld rfl (aJ TF.aP h10) (mv rfl (sc rfl rfl FF.tK H ?_));rintro _ w6 ⟨rfl,H⟩;refine aH (nc (y2 0 6 rfl) (aG (aF (mv rfl (mv rfl (sc rfl rfl FF.zG H ?_))))));rintro _ w7 ⟨A3,n3,c3,rfl,H⟩;exact ag rfl (ag rfl (aH (nc (y2 2 3 rfl) (bK (aN (Jk rfl rfl rfl) ⟨_,rfl,_,_,_,_,rfl,H⟩)))))
section
variable {B0:Nat} {w w' w0:World} {p U:Addr} {M N:Nat} {A:Nat->Option Addr} {n c:Nat->Nat} {H:Nat->Prop} {g:GS}
theorem Row.aN1 {base:Nat} {A:Option Addr} {n c:Nat} {l:List Int} (h:Row w base T.int 1 A n c (l.map iv)) {x:Int} {q:Addr} (hc:bG w q [iv x]) (hn:n+1<=1099511627776) (hb:base<=w.heap.size):
  ∃A' c' w',(Builtin.append_ #[T.bH,T.bH] T.bH #[.slice A n c,.slice (some q) 1 1]).run P w= .ok (.slice A' (n+1) c') w'/\Row w' base T.int 1 A' (n+1) c' ((l++[x]).map iv)/\Keep (At A) w w'/\∀b,At A' b->At A b\/w.heap.size<=b:=by
 have:=h.append (P:=P) (t:=T.bH) (ty:=T.bH) (m:=1) (c2:=1) aBn aBl (by decide) (news:=[iv x]) rfl hc (by intro u hu;simp at hu;subst hu;rfl) (by omega) (by omega) hb
 simpa using this
theorem aIc {why:List Edge} {x:Int} {l:List Int} (h:Up why x l):∀{i:Nat} {z:Int},l[i]? =some z->((aW why z).to<0/\i+1=l.length)\/(0<=(aW why z).to/\l[i+1]? =some (aW why z).to):=by
 induction h with
 | @stop x h0=>
  intro i z hz
  cases i with
  |zero=>simp at hz;subst hz;exact .inl ⟨h0,rfl⟩
  |succ i=>simp at hz
 | @step x l h0 h1 ih=>
  intro i z hz
  cases i with
  |zero=>
   simp at hz
   subst hz
   obtain⟨t,ht⟩:=h1.head
   exact .inr ⟨h0,by rw[ht];rfl⟩
  |succ i=>
   rcases ih (i:=i) (z:=z) (by simpa using hz) with⟨k1,k2⟩|⟨k1,k2⟩
   ·exact .inl ⟨k1,by simp[k2]⟩
   ·exact .inr ⟨k1,by simpa using k2⟩
theorem aLj {W m:Nat} {us l:List Edge} {a:Int} (h:dF B0 w p U M N A n c H g) (k:GInv W m g us l) (ha:Vn g.nodes.length a):
  Calls P F.Dz #[.pointer (some p),iv a] w (cO fun v w'=>∃B d,v= .slice B (pathOf g a).length d/\Row w' w.heap.size T.int 1 B (pathOf g a).length d ((pathOf g a).map iv)/\Ext w w'):=by
 refine cO.mono (aC6 p a (fun B m d w'=>m=(pathOf g a).length/\Row w' w.heap.size T.int 1 B (pathOf g a).length d ((pathOf g a).map iv)/\Ext w w') w ?_) (by rintro _ w' ⟨B,m,d,rfl,rfl,h1,h2⟩;exact⟨B,d,rfl,h1,h2⟩)
 obtain⟨up,vv⟩:=k.way ha
 have hlen:=tV _ _ up.nodup fun y hy=>(vv y hy).1
 have few:=k.few
 have h0:(pathOf g a)[0]? =some a:=by obtain⟨t,ht⟩:=up.head;rw[ht];rfl
 unfold Lp
 intro p2 w1 hN1
 refine⟨fun kk x B m d w'=>∃i,kk=(pathOf g a).length-i/\(pathOf g a)[i]? =some x/\m=i+1/\Row w' w.heap.size T.int 1 B m d (((pathOf g a).take (i+1)).map iv)/\Ext w w',⟨_,0,rfl,h0,rfl,?_,Ext.eY hN1⟩,?_⟩
 ·have:=Row.new (s:=1) (n:=1) (vs:=[iv a]) hN1 rfl rfl
  rw[lJ h0]
  simpa using this
 ·rintro kk x B m d w2 ⟨i,rfl,hx,rfl,hR,hE⟩
  have g2:=h.stay hE
  have vx:=(vv x (List.mem_of_getElem? hx)).1
  obtain⟨q1,q2,q3,a5,q4,q5,q6⟩:=g2.edge vx.1 (aCu k.forest.len vx)
  have hi:=(List.getElem?_eq_some_iff.1 hx).1
  refine⟨_,_,_,q1,vx.1,q2,a5,q4,_,q5 0 _ rfl,fun hto=>⟨_,_,_,q1,vx.1,q2,a5,q4,_,q5 0 _ rfl,fun p3 w3 hN3=> ?_⟩,fun hto=> ?_⟩
  ·rcases aIc up hx with⟨k1,_⟩|⟨k1,k2⟩
   ·omega
   have E3:=Ext.eY hN3
   obtain⟨B',c',w4,hr,hR',hK,hB'⟩:=(hR.keep E3 (fun _ _ h=>h)).aN1 (x:=(aW g.why x).to) (q:=p3) (hN3.cells rfl) (by omega) (hE.trans E3).size
   refine⟨B',_,c',w4,hr,(pathOf g a).length-(i+1),by omega,i+1,rfl,k2,rfl,?_,?_⟩
   ·rw[lJ k2];exact hR'
   ·refine(hE.trans E3).over hK fun b hb hh=> ?_
    have:=(hR.at hh).1
    omega
  ·rcases aIc up hx with⟨_,k2⟩|⟨k1,_⟩
   ·rw[k2,List.take_length] at hR
    exact⟨k2,hR,hE⟩
   ·omega
theorem aI5 {base:Nat} {A:Option Addr} {c:Nat} {l:List Int} (h:Row w base T.int 1 A l.length c (l.map iv)) (hl:0<l.length) (hs:l.length<=1099511627776):IntKind.wrap .i64 ((l.length:Int)-1)=((l.length-1:Nat):Int)/\∃a,A=some a/\w.cell? (a.add ((l.length-1)*1))=some (iv (endOf l)):=by
 refine⟨by rw[wrap_small (by omega) (by omega)];omega,?_⟩
 obtain⟨a,v,hA,hv,hc,_⟩:=h.get (i:=((l.length-1:Nat):Int)) (by omega) (by omega)
 rw[Int.toNat_natCast] at hv hc
 refine⟨a,hA,?_⟩
 rw[hc]
 have hne:l≠[]:=List.length_pos_iff.1 hl
 have:l[l.length-1]? =some (endOf l):=by
  conv=>lhs;rw[aDs hne]
  rw[List.getElem?_append_right (by simp),List.length_dropLast]
  simp
 rw[List.getElem?_map,this] at hv
 exact hv.symm
theorem aFt {W m:Nat} {us l:List Edge} {a b:Int} (h:dF B0 w p U M N A n c H g) (k:GInv W m g us l) (ha:Vn g.nodes.length a) (hb:Vn g.nodes.length b):
  Calls P F.xY #[.pointer (some p),iv a,iv b] w (cO fun v w'=>∃B d C e,v= .tuple #[.slice B (rJ g a b).1.length d,.slice C (rJ g a b).2.length e]/\Row w' w.heap.size T.int 1 B (rJ g a b).1.length d ((rJ g a b).1.map iv)/\Row w' w.heap.size T.int 1 C (rJ g a b).2.length e ((rJ g a b).2.map iv)/\Ext w w'):=by
 refine cO.mono (Zx p a b (fun B m d C m' e w'=>m=(rJ g a b).1.length/\m'=(rJ g a b).2.length/\Row w' w.heap.size T.int 1 B (rJ g a b).1.length d ((rJ g a b).1.map iv)/\Row w' w.heap.size T.int 1 C (rJ g a b).2.length e ((rJ g a b).2.map iv)/\Ext w w') w ?_) (by rintro _ w' ⟨B,m,d,C,m',e,rfl,rfl,rfl,h1,h2,h3⟩;exact⟨B,d,C,e,rfl,h1,h2,h3⟩)
 have few:=k.few
 obtain⟨ua,va⟩:=k.way ha
 obtain⟨ub,vb⟩:=k.way hb
 have la:=tV _ _ ua.nodup fun y hy=>(va y hy).1
 have lb:=tV _ _ ub.nodup fun y hy=>(vb y hy).1
 unfold Ej
 refine(aLj h k ha).mono ?_
 rintro _ w1 ⟨_,rfl,B1,d1,rfl,R1,E1⟩
 refine⟨_,rfl,B1,_,d1,rfl,?_⟩
 refine(aLj (h.stay E1) k hb).mono ?_
 rintro _ w2 ⟨_,rfl,B2,d2,rfl,R2,E2⟩
 refine⟨_,rfl,B2,_,d2,rfl,?_⟩
 refine⟨fun kk B m d C m' e w'=>∃f u t,kk=u.length/\m=u.length/\m'=t.length/\Cb f u t=rJ g a b/\(u.length<=f\/t.length<=f)/\u.length<=1048576/\t.length<=1048576/\Row w' w.heap.size T.int 1 B u.length d (u.map iv)/\Row w' w.heap.size T.int 1 C t.length e (t.map iv)/\Ext w w',⟨_,g.nodes.length,pathOf g a,pathOf g b,rfl,rfl,rfl,rfl,.inl la,by omega,by omega,R1.keep E2 (fun _ _ h=>h),R2.xE E1.size,E1.trans E2⟩,?_⟩
 rintro kk B m d C m' e w3 ⟨f,u,t,rfl,rfl,rfl,hst,hf,lu,lt,RB,RC,E3⟩
 have stop:(¬(u≠[]/\t≠[]/\endOf u=endOf t))->Cb f u t=(u,t):=fun hn=>by
  cases f with
  |zero=>rfl
  |succ f=>
   show(if _ then _ else _)=_
   rw[if_neg hn]
 have no:∀w4,aO w3 w4->(¬(u≠[]/\t≠[]/\endOf u=endOf t))->u.length=(rJ g a b).1.length/\t.length=(rJ g a b).2.length/\Row w4 w.heap.size T.int 1 B (rJ g a b).1.length d ((rJ g a b).1.map iv)/\Row w4 w.heap.size T.int 1 C (rJ g a b).2.length e ((rJ g a b).2.map iv)/\Ext w w4:=by
  intro w4 hw4 hn
  rw[<-hst,stop hn]
  exact⟨rfl,rfl,RB.keep (Ext.aK hw4) (fun _ _ h=>h),RC.keep (Ext.aK hw4) (fun _ _ h=>h),E3.drawn hw4⟩
 refine⟨fun hu=>⟨fun ht=> ?_,fun ht w6 hw6=>⟨fun q=>(by cases q),fun _=>no w6 hw6 ?_⟩⟩,fun hu w7 hw7=>⟨fun q=>(by cases q),fun _=>no w7 hw7 ?_⟩⟩
 ·obtain⟨e1,a1,hA1,hc1⟩:=aI5 RB (by omega) (by omega)
  obtain⟨e2,a2,hA2,hc2⟩:=aI5 RC (by omega) (by omega)
  rw[e1,e2,Int.toNat_natCast,Int.toNat_natCast]
  refine⟨by omega,by omega,a1,hA1,_,hc1,by omega,by omega,a2,hA2,_,hc2,fun w4 hw4=>⟨fun q=> ?_,fun q=> ?_⟩⟩
  ·have heq:=of_decide_eq_true q
   have cb:=RB.le
   have cc:=RC.le
   rw[e1,e2,Int.toNat_natCast,Int.toNat_natCast]
   refine⟨by omega,by omega,by omega,by omega,fun w8 hw8=> ?_⟩
   have hne1:u≠[]:=List.length_pos_iff.1 (by omega)
   have hne2:t≠[]:=List.length_pos_iff.1 (by omega)
   have E8:=Ext.aK (hw4.trans hw8)
   cases f with
   |zero=>omega
   |succ f=>
    have es:Cb (f+1) u t=Cb f u.dropLast t.dropLast:=by
     show(if _ then _ else _)=_
     rw[if_pos ⟨hne1,hne2,heq⟩]
    have d1:(u.map iv).take ((u.length-1)*1)=u.dropLast.map iv:=by rw[Nat.mul_one,<-List.map_take,List.dropLast_eq_take]
    have d2:(t.map iv).take ((t.length-1)*1)=t.dropLast.map iv:=by rw[Nat.mul_one,<-List.map_take,List.dropLast_eq_take]
    have r1:=(RB.cut (m:=u.length-1) (d:=d) (by omega) (by omega) (Nat.le_refl _)).keep E8 (fun _ _ h=>h)
    have r2:=(RC.cut (m:=t.length-1) (d:=e) (by omega) (by omega) (Nat.le_refl _)).keep E8 (fun _ _ h=>h)
    rw[d1] at r1
    rw[d2] at r2
    refine⟨u.length-1,by omega,f,u.dropLast,t.dropLast,by simp,by simp,by simp,by rw[<-es];exact hst,by simp;omega,by simp;omega,by simp;omega,?_,?_,E3.trans E8⟩
    ·rw[List.length_dropLast];exact r1
    ·rw[List.length_dropLast];exact r2
  ·exact no w4 hw4 fun hh=>(of_decide_eq_false q) (by rw[hh.2.2])
 ·exact fun hh=>ht (by have:=List.length_pos_iff.2 hh.2.1;omega)
 ·exact fun hh=>hu (by have:=List.length_pos_iff.2 hh.1;omega)
end
def Sn (seen:List Bool) (n:Int):Prop:=seen.getD n.toNat false=true
def aBf (g:GS) (n:Nat):Nat:=if (aW g.why (n:Int)).wZ=true then(fG g.nodes (aW g.why (n:Int)).a).args.length else 0
def aEv (g:GS) (seen:List Bool):Nat:=((List.range g.nodes.length).map fun i:Nat=>if seen.getD i false=true then 0 else aBf g i).sum
theorem aNy (g:GS) {seen:List Bool} {n:Nat} (hn:n<g.nodes.length) (hl:seen.length=g.nodes.length) (h0:seen.getD n false=false):aEv g (seen.set n true)+aBf g n=aEv g seen:=by
 have:=Rw (fun i:Nat=>if seen.getD i false=true then 0 else aBf g i) (fun i:Nat=>if (seen.set n true).getD i false=true then 0 else aBf g i) n (List.range g.nodes.length) List.nodup_range (List.mem_range.2 hn) (fun x _ hx=>by
  show(if (seen.set n true).getD x false=true then 0 else aBf g x)=(if seen.getD x false=true then 0 else aBf g x)
  rw[getD_set_ne (fun q=>hx q.symm)])
 simp only[h0] at this
 rw[iW (by omega)] at this
 simp only[if_true] at this
 show(List.map _ _).sum+_=(List.map _ _).sum
 simpa using this
theorem aP4 {g:GS} {W:Nat} (h:∀x∈g.nodes,x.args.length<=W) (n:Nat):aBf g n<=W:=by
 unfold aBf
 split
 ·unfold fG
  rw[List.getD_eq_getElem?_getD]
  cases hq:g.nodes[(aW g.why (n:Int)).a.toNat]? with
  |none=>simp
  |some x=>exact h x (List.mem_of_getElem? hq)
 ·omega
theorem aO7 {g:GS} {W:Nat} (h:∀x∈g.nodes,x.args.length<=W) (seen:List Bool):aEv g seen<=g.nodes.length*W:=by
 have h1:=Xq (fun i:Nat=>if seen.getD i false=true then 0 else aBf g i) (fun _=>W) (List.range g.nodes.length) (fun x _=>by
  show(if _ then 0 else aBf g x)<=W
  have:=aP4 h x
  split<;>omega)
 rw[aAu,List.length_range] at h1
 exact h1
structure Il (g:GS) (a b:Int) (ks0:List (Int×Int)) (seen:List Bool) (ks:List (Int×Int)) (L:List (Int×Int)) (Ex:Int->Nat->Prop):Prop where
 len:seen.length=g.nodes.length
 tg:∀n,Sn seen n->Vn g.nodes.length n->0<=(aW g.why n).to->(aW g.why n).wZ=false->(fQ ks (aW g.why n).tag).isSome=true
 cg:∀n,Sn seen n->Vn g.nodes.length n->0<=(aW g.why n).to->(aW g.why n).wZ=true->∀(i:Nat) x y,(fG g.nodes (aW g.why n).a).args[i]? =some x->(fG g.nodes (aW g.why n).b).args[i]? =some y->Cov g (Sn seen) x y\/(x,y)∈L\/Ex n i
 ini:Cov g (Sn seen) a b\/(a,b)∈L
 val:∀q∈L,Vn g.nodes.length q.1/\Vn g.nodes.length q.2/\fd g q.1=fd g q.2
 old:∀k,(fQ ks0 k).isSome=true->(fQ ks k).isSome=true
 src:∀t∈ks.map (·.1),t∈ks0.map (·.1)\/∃z,Vn g.nodes.length z/\(aW g.why z).tag=t
theorem aFc {seen:List Bool} {n:Int} (z:Int) (h:Sn seen z):Sn (seen.set n.toNat true) z:=by
 unfold Sn at*
 by_cases q:n.toNat=z.toNat
 ·rw[<-q]
  rw[<-q] at h
  rw[iW]
  rw[List.getD_eq_getElem?_getD] at h
  rcases Nat.lt_or_ge n.toNat seen.length with hl|hl
  ·exact hl
  ·rw[List.getElem?_eq_none hl] at h
   cases h
 ·rw[getD_set_ne q];exact h
theorem Xr {seen:List Bool} {n z:Int} (hn:0<=n) (hz:0<=z) (h:Sn (seen.set n.toNat true) z):Sn seen z\/z=n:=by
 unfold Sn at*
 by_cases q:n.toNat=z.toNat
 ·right;omega
 ·rw[getD_set_ne q] at h;exact .inl h
theorem Cov.mono {g:GS} {S S':Int->Prop} (h:∀z,S z->S' z) {a b:Int} (c:Cov g S a b):Cov g S' a b:=fun n hn=>h n (c n hn)
theorem Ug {ks:List (Int×Int)} {t v k:Int} (h:(fQ ks k).isSome=true):(fQ (Dj ks t v) k).isSome=true:=by
 rw[tX]
 split
 ·rfl
 ·exact h
theorem aNw {ks:List (Int×Int)} {k v t:Int} (h:t∈(Dj ks k v).map (·.1)):t=k\/t∈ks.map (·.1):=by
 induction ks with
 |nil=>simp[Dj] at h;exact .inl h
 |cons x ks ih=>
  by_cases hx:x.1=k
  ·simp only[Dj,hx,if_true,List.map_cons,List.mem_cons] at h
   exact h.imp id fun h=>List.mem_cons_of_mem _ h
  ·simp only[Dj,hx,if_false,List.map_cons,List.mem_cons] at h
   rcases h with h|h
   ·exact .inr (by simp[h])
   ·exact(ih h).imp id fun h=>List.mem_cons_of_mem _ h
section
variable {g:GS} {a b:Int} {ks0 ks:List (Int×Int)} {seen:List Bool} {L L':List (Int×Int)} {Ex Ex':Int->Nat->Prop}
theorem Il.start {k0:List (Int×Int)} (ha:Vn g.nodes.length a) (hb:Vn g.nodes.length b) (e:fd g a=fd g b):Il g a b k0 (List.replicate g.nodes.length false) k0 [(a,b)] (fun _ _=>False):=by
 have no:∀n,¬Sn (List.replicate g.nodes.length false) n:=fun n h=>by
  unfold Sn at h
  rw[List.getD_eq_getElem?_getD,List.getElem?_replicate] at h
  split at h<;>cases h
 exact⟨by simp,fun n h=>absurd h (no n),fun n h=>absurd h (no n),.inr (by simp),fun q hq=>by simp at hq;subst hq;exact⟨ha,hb,e⟩,fun _ h=>h,fun _ h=> .inl h⟩
theorem Il.perm (h:Il g a b ks0 seen ks L Ex) (hL:∀q,q∈L↔q∈L'):Il g a b ks0 seen ks L' Ex:=
 ⟨h.len,h.tg,fun n h1 h2 h3 h4 i x y hx hy=>(h.cg n h1 h2 h3 h4 i x y hx hy).imp id fun k=>k.imp (fun k=>(hL _).1 k) id,h.ini.imp id fun k=>(hL _).1 k,fun q hq=>h.val q ((hL q).2 hq),h.old,h.src⟩
theorem Il.mark (h:Il g a b ks0 seen ks L fun _ _=>False) {n:Int} (vn:Vn g.nodes.length n) (hc:(aW g.why n).wZ=false) (v:Int):Il g a b ks0 (seen.set n.toNat true) (Dj ks (aW g.why n).tag v) L fun _ _=>False:=by
 refine⟨by rw[List.length_set];exact h.len,fun z h1 h2 h3 h4=> ?_,fun z h1 h2 h3 h4 i x y hx hy=> ?_,h.ini.imp (fun k=>k.mono aFc) id,h.val,fun k hk=>Ug (h.old k hk),fun t ht=>(aNw ht).elim (fun e=> .inr ⟨n,vn,e.symm⟩) fun ht=>h.src t ht⟩
 ·rcases Xr vn.1 h2.1 h1 with q|q
  ·exact Ug (h.tg z q h2 h3 h4)
  ·rw[q,tX,if_pos rfl];rfl
 ·rcases Xr vn.1 h2.1 h1 with q|q
  ·exact(h.cg z q h2 h3 h4 i x y hx hy).imp (fun k=>k.mono aFc) id
  ·rw[q,hc] at h4;cases h4
theorem Il.open_ (h:Il g a b ks0 seen ks L fun _ _=>False) {n:Int} (vn:Vn g.nodes.length n) (hc:(aW g.why n).wZ=true):Il g a b ks0 (seen.set n.toNat true) ks L fun z i=>z=n/\0<=i:=by
 refine⟨by rw[List.length_set];exact h.len,fun z h1 h2 h3 h4=> ?_,fun z h1 h2 h3 h4 i x y hx hy=> ?_,h.ini.imp (fun k=>k.mono aFc) id,h.val,h.old,h.src⟩
 ·rcases Xr vn.1 h2.1 h1 with q|q
  ·exact h.tg z q h2 h3 h4
  ·rw[q,hc] at h4;cases h4
 ·rcases Xr vn.1 h2.1 h1 with q|q
  ·rcases h.cg z q h2 h3 h4 i x y hx hy with k|k|k
   ·exact .inl (k.mono aFc)
   ·exact .inr (.inl k)
   ·exact k.elim
  ·exact .inr (.inr ⟨q,Nat.zero_le _⟩)
theorem Il.add {n:Int} {j:Nat} (h:Il g a b ks0 seen ks L fun z i=>z=n/\j<=i) {x y:Int} (hx:(fG g.nodes (aW g.why n).a).args[j]? =some x) (hy:(fG g.nodes (aW g.why n).b).args[j]? =some y) (vx:Vn g.nodes.length x) (vy:Vn g.nodes.length y) (e:fd g x=fd g y):
  Il g a b ks0 seen ks (L++[(x,y)]) fun z i=>z=n/\j+1<=i:=by
 refine⟨h.len,h.tg,fun z h1 h2 h3 h4 i x' y' hx' hy'=> ?_,h.ini.imp id fun k=>by simp[k],fun q hq=> ?_,h.old,h.src⟩
 ·rcases h.cg z h1 h2 h3 h4 i x' y' hx' hy' with k|k|⟨rfl,k⟩
  ·exact .inl k
  ·exact .inr (.inl (by simp[k]))
  ·rcases Nat.lt_or_ge j i with q|q
   ·exact .inr (.inr ⟨rfl,q⟩)
   ·have:i=j:=by omega
    subst this
    rw[hx] at hx'
    rw[hy] at hy'
    cases hx'
    cases hy'
    exact .inr (.inl (by simp))
 ·rcases List.mem_append.1 hq with hq|hq
  ·exact h.val q hq
  ·simp at hq;subst hq;exact⟨vx,vy,e⟩
theorem Il.close {n:Int} {j:Nat} (h:Il g a b ks0 seen ks L fun z i=>z=n/\j<=i) (hj:(fG g.nodes (aW g.why n).a).args.length<=j):Il g a b ks0 seen ks L fun _ _=>False:=by
 refine⟨h.len,h.tg,fun z h1 h2 h3 h4 i x y hx hy=> ?_,h.ini,h.val,h.old,h.src⟩
 rcases h.cg z h1 h2 h3 h4 i x y hx hy with k|k|⟨rfl,k⟩
 ·exact .inl k
 ·exact .inr (.inl k)
 ·have:=(List.getElem?_eq_some_iff.1 hx).1
  omega
theorem Il.done {x y:Int} (h:Il g a b ks0 seen ks ((x,y)::L) fun _ _=>False) (hc:Cov g (Sn seen) x y):Il g a b ks0 seen ks L fun _ _=>False:=by
 refine⟨h.len,h.tg,fun z h1 h2 h3 h4 i x' y' hx hy=> ?_,?_,fun q hq=>h.val q (List.mem_cons_of_mem _ hq),h.old,h.src⟩
 ·rcases h.cg z h1 h2 h3 h4 i x' y' hx hy with k|k|k
  ·exact .inl k
  ·rcases List.mem_cons.1 k with k|k
   ·cases k;exact .inl hc
   ·exact .inr (.inl k)
  ·exact k.elim
 ·rcases h.ini with k|k
  ·exact .inl k
  ·rcases List.mem_cons.1 k with k|k
   ·cases k;exact .inl hc
   ·exact .inr k
theorem Il.cc {W m:Nat} {us l:List Edge} (h:Il g a b ks0 seen ks [] fun _ _=>False) (k:GInv W m g us l) (s:Sem g us g.stand) (ha:Vn g.nodes.length a) (hb:Vn g.nodes.length b) (e:fd g a=fd g b):CC g.nodes (aGq g.stand fun t=>(fQ ks t).isSome=true) a b:=by
 have hc:Cov g (Sn seen) a b:=h.ini.resolve_right (by simp)
 refine aQ7 k s (S:=Sn seen) (fun n h1 h2 h3 h4=>h.tg n h1 h2 h3 h4) (fun n h1 h2 h3 h4 i x y hx hy=> ?_) us.length a b ha hb (by rw[List.take_length];exact k.conn1 a b ha hb e) hc
 rcases h.cg n h1 h2 h3 h4 i x y hx hy with q|q|q
 ·exact q
 ·simp at q
 ·exact q.elim
end
theorem aKq {α β:Type} [DecidableEq α] {mk:α->Value} {mv:β->Value} {P:Program} {kt:TypeId} {kind:TypeDesc} {w:World} {M:Nat} {l:List (α×β)} {t e:TypeId} (h:rQ mk mv w M l) (K:aAl P kt kind mk) (ht:P.underlying t=some (.map kt e)) {z:Value} (hz:(zeroValue e).run P w= .ok z w) (k:α):
  (Instr.lookup t (.map (some M)) (mk k) false).run P w= .ok (match fQ l k with|some v=>mv v|none=>z) w:=by
 obtain⟨es,clock,h1,h2,h3⟩:=h
 have hg:=MapKept.run_getObj_map (P:=P) h1
 rcases findNow_spec K k es.toList l 0 h2 with⟨g1,g2,_⟩|⟨j,v,g0,g1,g2,_⟩
 ·simp[Instr.lookup,run_underlying ht,hg,K.check,zO K g2,hz,g1,Result.andThen]
 ·simp[Instr.lookup,run_underlying ht,hg,K.check,zO K g2,g1,Result.andThen]
theorem aGo:P.underlying T.rC=some (.map T.int T.int):=by kernel_rfl
theorem aHh:aAl P T.int (.int .i64) (Value.int .i64):=aLv (by kernel_rfl)
def bv (q:Int×Int):List Value:=[iv q.1,iv q.2]
theorem aOg (q:Int×Int):(bv q).length=2:=rfl
structure TF (w:World) (m1:Nat) (Y:Addr) (w':World) (D:Option Addr) (d:Nat) (ns:List Int) (Z:Option Addr) (zc:Nat) (seen:List Bool) (ks wl:List (Int×Int)):Prop where
 kw:Keep (fun b=>b=m1) w w'
 yb:Y.block=w.heap.size
 sn:Own w' w.heap.size T.bool 1 (some Y) seen.length seen.length (seen.map Value.bool)
 wk:Row w' (w.heap.size+1) T.uQ 2 D wl.length d (wl.flatMap bv)
 nz:Row w' (w.heap.size+1) T.int 1 Z ns.length zc (ns.map iv)
 ap:∀b,At D b->¬At Z b
 mp:rQ (Value.int .i64) iv w' m1 ks
 mw:m1<w.heap.size
section
variable {w w' w'':World} {m1:Nat} {Y:Addr} {D:Option Addr} {d:Nat} {ns:List Int} {Z:Option Addr} {zc:Nat} {seen:List Bool} {ks wl:List (Int×Int)}
theorem TF.ext (h:TF w m1 Y w' D d ns Z zc seen ks wl) (k:Ext w' w''):TF w m1 Y w'' D d ns Z zc seen ks wl:=
 ⟨h.kw.over k (fun _ _ h=>h.elim),h.yb,h.sn.keep k (fun _ _ h=>h),h.wk.keep k (fun _ _ h=>h),h.nz.keep k (fun _ _ h=>h),h.ap,h.mp.keep k (fun h=>h),h.mw⟩
theorem TF.see (h:TF w m1 Y w' D d ns Z zc seen ks wl) {n:Nat} (hn:n<seen.length) (hw:w''=w'.setCell (Y.add (n*1)) (.bool true)):TF w m1 Y w'' D d ns Z zc (seen.set n true) ks wl:=by
 have hk:=jE hw
 rw[Addr.add_block] at hk
 have yb:=h.yb
 have mw:=h.mw
 refine⟨h.kw.over hk (fun i hi hh=>by omega),h.yb,?_,h.wk.keep hk (fun b hb hh=>by have:=(h.wk.at hb).1;omega),h.nz.keep hk (fun b hb hh=>by have:=(h.nz.at hb).1;omega),h.ap,h.mp.keep hk (fun hh=>by omega),h.mw⟩
 rw[Nat.mul_one] at hw
 have:=h.sn.set1 rfl hn hw
 rw[<-List.map_set] at this
 rw[List.length_set]
 exact this
theorem TF.aR9 (h:TF w m1 Y w' D d ns Z zc seen ks wl) {ks':List (Int×Int)} (hm:rQ (Value.int .i64) iv w'' m1 ks') (hk:Keep (fun b=>b=m1) w' w''):TF w m1 Y w'' D d ns Z zc seen ks' wl:=by
 have yb:=h.yb
 have mw:=h.mw
 exact⟨h.kw.trans hk,h.yb,h.sn.keep hk (fun b hb hh=>by have:=(h.sn.at hb).1;omega),h.wk.keep hk (fun b hb hh=>by have:=(h.wk.at hb).1;omega),h.nz.keep hk (fun b hb hh=>by have:=(h.nz.at hb).1;omega),h.ap,hm,h.mw⟩
theorem aOy:wP P T.uQ=some (2,16,2):=by kernel_rfl
theorem aPb:iV P T.mQ=some T.uQ:=by kernel_rfl
theorem TF.push (h:TF w m1 Y w' D d ns Z zc seen ks wl) {x:Int×Int} {q:Addr} (hc:bG w' q (bv x)) (hl:wl.length+1<=1099511627776) (hz:w.heap.size+1<=w'.heap.size):
  ∃D' d' w'',(Builtin.append_ #[T.mQ,T.mQ] T.mQ #[.slice D wl.length d,.slice (some q) 1 1]).run P w'= .ok (.slice D' (wl.length+1) d') w''/\TF w m1 Y w'' D' d' ns Z zc seen ks (wl++[x])/\Keep (At D) w' w''/\∀b,At D' b->At D b\/w'.heap.size<=b:=by
 obtain⟨D',d',w'',hr,hR,hK,hD'⟩:=h.wk.append (P:=P) (t:=T.mQ) (ty:=T.mQ) (m:=1) (c2:=1) aPb aOy (by decide) (news:=bv x) rfl hc (by intro u hu;simp[bv] at hu;rcases hu with rfl|rfl<;>rfl) (by omega) (by omega) hz
 have yb:=h.yb
 have mw:=h.mw
 refine⟨D',d',w'',hr,⟨h.kw.over hK (fun i hi hh=>by have:=(h.wk.at hh).1;omega),h.yb,h.sn.keep hK (fun b hb hh=>by obtain⟨a,ha,rfl⟩:=hb;cases ha;have:=(h.wk.at hh).1;omega),?_,h.nz.keep hK (fun b hb hh=>h.ap b hh hb),fun b hb hh=> ?_,h.mp.keep hK (fun hh=>by have:=(h.wk.at hh).1;omega),h.mw⟩,hK,hD'⟩
 ·rw[List.length_append,List.length_singleton]
  simpa using hR
 ·rcases hD' b hb with q'|q'
  ·exact h.ap b q' hh
  ·have:=(h.nz.at hh).2;omega
end
section
variable {B0:Nat} {w w' w0:World} {p U:Addr} {M N:Nat} {A:Nat->Option Addr} {n c:Nat->Nat} {H:Nat->Prop} {g:GS}
theorem dF.far (h:dF B0 w p U M N A n c H g) {m1:Nat} (mH:H m1) (mX:¬GX p U M N A m1) (k:Keep (fun b=>b=m1) w w'):dF B0 w' p U M N A n c H g:=
 (h.write k (fun b _ hb=>by rw[hb];exact⟨mH,fun hh=>mX (.inl hh),fun hh=>mX (.inr hh)⟩)).1
theorem aMa {W m:Nat} {us l:List Edge} {a b:Int} {m1:Nat} {ks0:List (Int×Int)} {Y:Addr} (h:dF B0 w p U M N A n c H g) (k:GInv W m g us l) (mH:H m1) (mX:¬GX p U M N A m1) (hwd:∀x∈g.nodes,x.args.length<=W) (hC:g.nodes.length*(W+1)+1<=549755813888)
  {w9:World} {D:Option Addr} {d:Nat} {ns:List Int} {Z:Option Addr} {zc:Nat} {seen:List Bool} {ks wl:List (Int×Int)} {cur:Int×Int} (F:TF w m1 Y w9 D d ns Z zc seen ks wl) (sz:w.heap.size+1<=w9.heap.size) (I:Il g a b ks0 seen ks (cur::wl) fun _ _=>False) {z:Int} (vz:Vn g.nodes.length z) (tz:0<=(aW g.why z).to) (hns:Sn seen z=False)
  (hx:∀(i:Nat) x y,(aW g.why z).wZ=true->(fG g.nodes (aW g.why z).a).args[i]? =some x->(fG g.nodes (aW g.why z).b).args[i]? =some y->Vn g.nodes.length x/\Vn g.nodes.length y/\fd g x=fd g y) (hcg:(aW g.why z).wZ=true->Vn g.nodes.length (aW g.why z).a/\Vn g.nodes.length (aW g.why z).b/\(fG g.nodes (aW g.why z).a).args.length=(fG g.nodes (aW g.why z).b).args.length)
  (hbig:wl.length+aBf g z.toNat+1<=1099511627776) {k2:Nat} {I2:Nat->Option Addr->Nat->Nat->Int->World->Prop} {x7:Int}
  (hJ:∀w' D' d' ks' wl' seen',TF w m1 Y w' D' d' ns Z zc seen' ks' wl'->w.heap.size+1<=w'.heap.size->Il g a b ks0 seen' ks' (cur::wl') (fun _ _=>False)->seen'=seen.set z.toNat true->wl'.length=wl.length+aBf g z.toNat->jF k2 I2 x7 D' wl'.length d' w'):
  ∀w11,w11=w9.setCell (Y.add (z.toNat*1)) (.bool true)->(∃A10:Option Addr,∃n10:Nat,∃c10:Nat,w11.cell? (p.add 7)=some (.slice A10 n10 c10)/\0<=z/\z<(n10:Int)/\∃a5,A10=some a5/\∃x9:Int,∃b2:Bool,∃x10:Int,∃x11:Int,∃x12:Int,Wk.bG w11 (a5.add (z.toNat*5)) [iv x9,.bool b2,iv x10,iv x11,iv x12]/\∀(p4:Addr) (w12:World),Wk.New w11 (.cells #[iv 0,.bool false,iv 0,iv 0,iv 0] T.jG) p4 w12->(Wk.oH w12 p4 5/\∀w13,w13=Wk.cZ w12 p4 [iv x9,.bool b2,iv x10,iv x11,iv x12]->(∃b3:Bool,w13.cell? (p4.add 1)=some (.bool b3)/\((!b3)=true->(∃x13:Int,w13.cell? (p4.add 4)=some (iv x13)/\∃x14:Int,(Instr.lookup T.rC (.map (some m1)) (iv x13) false).run P w13= .ok (iv x14) w13/\∃w14:World,(Instr.mapUpdate T.rC (.map (some m1)) (iv x13) (iv (IntKind.wrap .i64 (x14+1)))).run P w13= .ok () w14/\((jF k2 I2 x7) D wl.length d w14)))/\((!b3)=false->(∃A11:Option Addr,∃n11:Nat,∃c11:Nat,w13.cell? (p.add 4)=some (.slice A11 n11 c11)/\∃x15:Int,w13.cell? (p4.add 2)=some (iv x15)/\0<=x15/\x15<(n11:Int)/\∃a6,A11=some a6/\∃A12:Option Addr,∃n12:Nat,∃c12:Nat,w13.cell? ((a6.add (x15.toNat*2)).add 1)=some (.slice A12 n12 c12)/\∀w15,Wk.aO w13 w15->(∃I3:Nat->Option Addr->Nat->Nat->Int->World->Prop,(∃k3,I3 k3 D wl.length d 0 w15)/\∀k3 (A13:Option Addr) (n13:Nat) (c13:Nat) (x16:Int) (w16:World),I3 k3 A13 n13 c13 x16 w16->((x16<(n12:Int)->(0<=x16/\x16<(n12:Int)/\∃a7,A12=some a7/\∃x17:Int,w16.cell? (a7.add (x16.toNat*1))=some (iv x17)/\∃A14:Option Addr,∃n14:Nat,∃c14:Nat,w16.cell? (p.add 4)=some (.slice A14 n14 c14)/\∃x18:Int,w16.cell? (p4.add 3)=some (iv x18)/\0<=x18/\x18<(n14:Int)/\∃a8,A14=some a8/\∃A15:Option Addr,∃n15:Nat,∃c15:Nat,w16.cell? ((a8.add (x18.toNat*2)).add 1)=some (.slice A15 n15 c15)/\0<=x16/\x16<(n15:Int)/\∃a9,A15=some a9/\∃x19:Int,w16.cell? (a9.add (x16.toNat*1))=some (iv x19)/\∀w22,Wk.aO w16 w22->∀(p5:Addr) (w17:World),Wk.New w22 (.cells #[iv x17,iv x19] T.uQ) p5 w17->(∀w21,Wk.aO w17 w21->∃(A16:Option Addr) (n16 c16:Nat) (w18:World),(Builtin.append_ #[T.mQ,T.mQ] T.mQ #[.slice A13 n13 c13,.slice (some p5) 1 1]).run P w21= .ok (.slice A16 n16 c16) w18/\(∀w19,Wk.aO w18 w19->((xO k3 I3 x16) A16 n16 c16 w19)))))/\(¬(x16<(n12:Int))->((jF k2 I2 x7) A13 n13 c13 w16))))))))):=by
 intro w11 hw11
 have z0:=vz.1
 have z1:=vz.2
 have few:=k.few
 have F11:=F.see (n:=z.toNat) (by rw[I.len];omega) hw11
 have sz11:w.heap.size+1<=w11.heap.size:=by rw[hw11];exact Nat.le_trans sz (jE (w':=w9.setCell (Y.add (z.toNat*1)) (.bool true)) rfl).size
 have g11:=h.far mH mX F11.kw
 obtain⟨q1,q2,q3,a5,q4,q5,q6⟩:=g11.edge z0 (aCu k.forest.len vz)
 refine⟨_,_,_,q1,z0,q2,a5,q4,_,_,_,_,_,q5,fun p4 w12 hN12=>⟨hN12.soft rfl,fun w13 hw13=> ?_⟩⟩
 have kp:=iQ hw13
 have E13:Ext w11 w13:=(Ext.eY hN12).over kp (fun i hi hh=>by rw[hN12.block] at hh;omega)
 have F13:=F11.ext E13
 have g13:=h.far mH mX F13.kw
 have c4:bG w13 p4 (aW g.why z).vals:=zF hw13 (by exact hN12.soft rfl)
 have b4:=hN12.block
 refine⟨(aW g.why z).wZ,c4 1 _ rfl,fun hc=> ?_,fun hc=> ?_⟩
 ·have hcf:(aW g.why z).wZ=false:=by simpa using hc
  have hl:=aKq F13.mp aHh aGo (aQ9 w13) (aW g.why z).tag
  have ac:aBf g z.toNat=0:=by unfold aBf;rw[toNat_cast z0,if_neg (by rw[hcf];simp)]
  obtain⟨v,hl⟩:∃v:Int,(Instr.lookup T.rC (.map (some m1)) (iv (aW g.why z).tag) false).run P w13= .ok (iv v) w13:=by
   revert hl
   cases fQ ks (aW g.why z).tag with
   |none=>exact fun hl=>⟨0,hl⟩
   |some v=>exact fun hl=>⟨v,hl⟩
  obtain⟨w14,hr14,hm14,hk14⟩:=F13.mp.update aHh aGo (aW g.why z).tag (IntKind.wrap .i64 (v+1))
  refine⟨_,c4 4 _ rfl,v,hl,w14,hr14,?_⟩
  exact hJ w14 D d _ wl _ (F13.aR9 hm14 hk14) (Nat.le_trans sz11 (Nat.le_trans E13.size hk14.size)) (I.mark vz hcf _) rfl (by rw[ac];rfl)
 ·have hct:(aW g.why z).wZ=true:=by simpa using hc
  obtain⟨va,vb,hlen⟩:=hcg hct
  have ac:aBf g z.toNat=(fG g.nodes (aW g.why z).a).args.length:=by unfold aBf;rw[toNat_cast z0,if_pos hct]
  have na:g.nodes[(aW g.why z).a.toNat]? =some (fG g.nodes (aW g.why z).a):=getD_some (by have:=va.1;have:=va.2;omega)
  have nb:g.nodes[(aW g.why z).b.toNat]? =some (fG g.nodes (aW g.why z).b):=getD_some (by have:=vb.1;have:=vb.2;omega)
  obtain⟨aA,CA,kA,dA,hA1,hA2,hA3,hA4,hA5⟩:=g13.aJg na
  have e4:=g13.n4
  have va0:=va.1
  have va1:=va.2
  have vb0:=vb.1
  have vb1:=vb.2
  refine⟨A 4,n 4,c 4,g13.cell (show 4<9 by omega),_,c4 2 _ rfl,va0,by omega,aA,by rw[g13.nad];exact hA1,CA,kA,dA,by have:=hA3 1 _ rfl;exact this,fun w15 hw15=> ?_⟩
  refine⟨fun k3 D' n' d' j w'=>∃wl',k3=kA-j.toNat/\0<=j/\j<=kA/\n'=wl'.length/\wl'.length=wl.length+j.toNat/\TF w m1 Y w' D' d' ns Z zc (seen.set z.toNat true) ks wl'/\w.heap.size+1<=w'.heap.size/\Il g a b ks0 (seen.set z.toNat true) ks (cur::wl') (fun z' i=>z'=z/\j.toNat<=i)/\bG w' p4 (aW g.why z).vals/\p4.block<w'.heap.size/\(∀b,At D' b->b≠p4.block),
   ⟨_,wl,rfl,by omega,by omega,rfl,by simp,F13.ext (Ext.aK hw15),Nat.le_trans sz11 (Nat.le_trans E13.size (Ext.aK hw15).size),I.open_ vz hct,(Ext.aK hw15).cells c4,?_,fun b hb hh=> ?_⟩,?_⟩
  ·have:=hN12.size
   have:=kp.size
   have:=(Ext.aK hw15).size
   omega
  ·have:=(F11.wk.at hb).2
   omega
  ·rintro k3 D' n' d' j w16 ⟨wl',rfl,j0,j1,rfl,hwl,F16,sz16,I16,c16,b16,ap16⟩
   have g16:=h.far mH mX F16.kw
   refine⟨fun hlt=> ?_,fun hge=> ?_⟩
   ·have hjA:j.toNat<(fG g.nodes (aW g.why z).a).args.length:=by omega
    obtain⟨x,ax,hxa,hCA,hcx⟩:=(g16.aIz na hA2).int j0 hlt
    obtain⟨aB,CB,kB,dB,hB1,hB2,hB3,hB4,hB5⟩:=g16.aJg nb
    have hltB:j<kB:=by omega
    obtain⟨y,ay,hyb,hCB,hcy⟩:=(g16.aIz nb hB2).int j0 hltB
    refine⟨j0,hlt,ax,hCA,_,hcx,A 4,n 4,c 4,g16.cell (show 4<9 by omega),_,c16 3 _ rfl,vb0,by omega,aB,by rw[g16.nad];exact hB1,CB,kB,dB,by have:=hB3 1 _ rfl;exact this,j0,hltB,ay,hCB,_,hcy,fun w22 hw22 p5 w17 hN17 w21 hw21=> ?_⟩
    have E21:Ext w16 w21:=((Ext.aK hw22).new hN17).drawn hw21
    obtain⟨vx,vy,exy⟩:=hx j.toNat x y hct hxa hyb
    obtain⟨D2,d2,w18,hr18,F18,hK18,hD18⟩:=(F16.ext E21).push (x:=(x,y)) (q:=p5) ((Ext.aK hw21).cells (hN17.cells rfl)) (by omega) (Nat.le_trans sz16 E21.size)
    refine⟨D2,_,d2,w18,hr18,fun w19 hw19=>⟨kA-(j.toNat+1),by omega,?_⟩⟩
    have hkA:kA<=1099511627776:=hA4
    rw[gI (n:=kA) j0 hlt hkA]
    have jn:(j+1).toNat=j.toNat+1:=by omega
    refine⟨wl'++[(x,y)],by omega,by omega,by omega,by simp,by rw[List.length_append,List.length_singleton];omega,F18.ext (Ext.aK hw19),?_,?_,?_,?_,fun b hb hh=> ?_⟩
    ·have:=E21.size
     have:=hK18.size
     have:=(Ext.aK hw19).size
     omega
    ·rw[jn]
     exact(I16.add hxa hyb vx vy exy).perm fun q=>by simp
    ·exact(Ext.aK hw19).cells (hK18.own (E21.cells c16) fun hh=>ap16 _ hh rfl)
    ·have:=E21.size
     have:=hK18.size
     have:=(Ext.aK hw19).size
     omega
    ·rcases hD18 b hb with q|q
     ·exact ap16 b q hh
     ·have:=E21.size
      omega
   ·have:j.toNat=kA:=by omega
    refine hJ w16 D' d' ks wl' _ F16 sz16 (I16.close (by omega)) rfl (by omega)
end
section
variable {B0:Nat} {w w' w0:World} {p U:Addr} {M N:Nat} {A:Nat->Option Addr} {n c:Nat->Nat} {H:Nat->Prop} {g:GS}
theorem aKf {w:World} {N:Nat} (hN:N<=1048576):∃w',(Instr.makeSlice T.aE8 (iv (N:Int)) (iv (N:Int))).run P w= .ok (.slice (some ⟨w.heap.size,0,none⟩) N N) w'/\Own w' w.heap.size T.bool 1 (some ⟨w.heap.size,0,none⟩) N N ((List.replicate N false).map Value.bool)/\Ext w w':=by
 obtain⟨w',vs,h1,h2,h3,h4⟩:=aAr (P:=P) (w:=w) (t:=T.aE8) (e:=T.bool) (s:=1) (by_:=1) (n:=N) (by kernel_rfl) (by kernel_rfl) (by omega) (by omega)
 obtain⟨i,hi,hz⟩:=aD4 (P:=P) (e:=T.bool) (z:= .bool false) (by kernel_rfl)
 have:=h4 i hi _ hz
 rw[Nat.mul_one] at this
 have e:(Value.bool false).cells= #[.bool false]:=by rfl
 rw[e,toList_madeCells_one] at this
 rw[this] at h2
 refine⟨w',h1,?_,h3⟩
 rw[List.map_replicate]
 exact h2
theorem aGx {W m:Nat} {us l:List Edge} (k:GInv W m g us l) {z:Int} (vz:Vn g.nodes.length z) (tz:0<=(aW g.why z).to) (hc:(aW g.why z).wZ=true):Kt g.nodes (fun x y=>fd g x=fd g y) (aW g.why z).a (aW g.why z).b:=by
 obtain⟨j,hj,hat⟩:=aIm k vz tz
 obtain⟨u,hu,_,e1,e2,e3,e4⟩:=Jv hat
 have:=(k.just j u hu).1 (by rw[<-e1];exact hc)
 rw[e3,e4]
 exact this.mono fun i x y hx hy q=>(q.mono fun u hu=>List.mem_of_mem_take hu).to k.conn2
theorem aE2 {W m:Nat} {us l:List Edge} {a b:Int} {m1:Nat} {ks0:List (Int×Int)} (h:dF B0 w p U M N A n c H g) (k:GInv W m g us l) (s:Sem g us g.stand) (mH:H m1) (mX:¬GX p U M N A m1) (hwd:∀x∈g.nodes,x.args.length<=W) (hC:g.nodes.length*(W+1)+1<=549755813888) (ha:Vn g.nodes.length a) (hb:Vn g.nodes.length b) (hab:fd g a=fd g b) (hm:rQ (Value.int .i64) iv w m1 ks0):
  Calls P F.vU #[.pointer (some p),iv a,iv b,.map (some m1)] w (cO fun v w'=>v= .tuple #[]/\∃ks,rQ (Value.int .i64) iv w' m1 ks/\Keep (fun b=>b=m1) w w'/\(∀t,(fQ ks0 t).isSome=true->(fQ ks t).isSome=true)/\CC g.nodes (aGq g.stand fun t=>(fQ ks t).isSome=true) a b/\∀t∈ks.map (·.1),t∈ks0.map (·.1)\/∃z,Vn g.nodes.length z/\(aW g.why z).tag=t):=by
 refine cO.mono (aDa p a b (some m1) (fun w'=>∃ks,rQ (Value.int .i64) iv w' m1 ks/\Keep (fun b=>b=m1) w w'/\(∀t,(fQ ks0 t).isSome=true->(fQ ks t).isSome=true)/\CC g.nodes (aGq g.stand fun t=>(fQ ks t).isSome=true) a b/\∀t∈ks.map (·.1),t∈ks0.map (·.1)\/∃z,Vn g.nodes.length z/\(aW g.why z).tag=t) w ?_) (by rintro v w' ⟨rfl,hk⟩;exact⟨rfl,hk⟩)
 have few:=k.few
 have e4:=h.n4
 have hml:=hm.lt
 unfold Lj
 refine⟨A 4,n 4,c 4,h.cell (show 4<9 by omega),?_⟩
 rw[<-e4]
 obtain⟨w1,hr1,hO1,E1⟩:=aKf (w:=w) few
 refine⟨_,_,_,w1,hr1,fun p2 w2 hN2=> ?_⟩
 have E2:=Ext.eY hN2
 have b2:=hN2.block
 have lO:=hO1.lt_
 simp only at lO
 have row2:Row w2 (w.heap.size+1) T.uQ 2 (some p2) 1 1 (bv (a,b)):=(Row.new (s:=2) (n:=1) (vs:=bv (a,b)) hN2 rfl rfl).xE (by omega)
 have hus:=aO7 hwd (List.replicate g.nodes.length false)
 have hmul:g.nodes.length*(W+1)=g.nodes.length*W+g.nodes.length:=Nat.mul_succ _ _
 refine⟨fun k1 D n' d' w'=>∃seen ks wl,k1=wl.length+aEv g seen/\n'=wl.length/\wl.length+aEv g seen<=1+g.nodes.length*W/\TF w m1 ⟨w.heap.size,0,none⟩ w' D d' [] none 0 seen ks wl/\w.heap.size+1<=w'.heap.size/\Il g a b ks0 seen ks wl (fun _ _=>False),⟨_,List.replicate g.nodes.length false,ks0,[(a,b)],rfl,rfl,by simp;omega,⟨(E1.trans E2).mono fun _ _ h=>h.elim,rfl,?_,?_,Row.nil _ _ _ _,fun b _ hh=>(by obtain⟨_,hh,_⟩:=hh;cases hh),(hm.keep E1 (fun h=>h)).keep E2 (fun h=>h),hml⟩,Nat.le_trans lO.2 E2.size,Il.start ha hb hab⟩,?_⟩
 ·rw[List.length_replicate]
  exact hO1.keep E2 (fun _ _ h=>h)
 ·simpa using row2
 rintro k1 D n' d' w3 ⟨seen,ks,wl,rfl,rfl,hbd,F3,sz3,I3⟩
 refine⟨fun hpos=> ?_,fun hneg=> ?_⟩
 ·have hne:wl≠[]:=by intro q;rw[q] at hpos;simp at hpos
  obtain⟨wl',cur,rfl⟩:∃wl' cur,wl=wl'++[cur]:=⟨_,_,(List.dropLast_concat_getLast hne).symm⟩
  have ew:IntKind.wrap .i64 (((wl'++[cur]).length:Int)-1)=(wl'.length:Int):=by
   rw[List.length_append,List.length_singleton] at hbd⊢
   rw[wrap_small (by omega) (by omega)];omega
  rw[ew,Int.toNat_natCast]
  obtain⟨aD,us3,hD,hus3,_,hcD,_⟩:=F3.wk.elem (i:=(wl'.length:Int)) (by omega) (by simp;omega) (by decide)
  rw[Int.toNat_natCast] at hus3 hcD
  have hus3':us3=bv cur:=by
   rw[hus3]
   refine Ba aOg _ _ _ ?_
   rw[List.getElem?_append_right (Nat.le_refl _),Nat.sub_self]
   rfl
  subst hus3'
  have hle:=F3.wk.le
  have hlen1:(wl'++[cur]).length=wl'.length+1:=by simp
  refine⟨by omega,by omega,aD,hD,_,_,hcD,fun p3 w4 hN4=>⟨hN4.soft rfl,fun w5 hw5=> ?_⟩⟩
  have kp5:=iQ hw5
  have E5:Ext w3 w5:=(Ext.eY hN4).over kp5 (fun i hi hh=>by rw[hN4.block] at hh;omega)
  have c5:bG w5 p3 (bv cur):=zF hw5 (by exact hN4.soft rfl)
  have F5:=F3.ext E5
  obtain⟨v1,v2,v3⟩:=I3.val cur (by simp)
  have g5:=h.far mH mX F5.kw
  refine⟨by omega,by omega,cur.1,c5 0 _ rfl,cur.2,c5 1 _ rfl,?_⟩
  refine(aFt g5 k v1 v2).mono ?_
  rintro _ w6 ⟨_,rfl,B,dB,C,dC,rfl,RB,RC,E6⟩
  have IB:Ints w6 B (rJ g cur.1 cur.2).1.length (rJ g cur.1 cur.2).1:=by
   refine⟨rfl,fun i x hx=> ?_⟩
   obtain⟨aB,vB,hB,hvB,hcB,_⟩:=RB.get (i:=(i:Int)) (by omega) (by have:=(List.getElem?_eq_some_iff.1 hx).1;omega)
   rw[Int.toNat_natCast,List.getElem?_map,hx] at hvB
   cases hvB
   refine⟨aB,[iv x],hB,rfl,fun j v hj=> ?_,rfl⟩
   cases j with
   |zero=>simp at hj;subst hj;rw[Addr.add_add];rw[Int.toNat_natCast] at hcB;exact hcB
   |succ j=>simp at hj
  obtain⟨cc,cc0,u1,u2,dis,vv1,vv2⟩:=aAv k v1 v2 v3
  have lB:=tV _ _ u1.nodup fun y hy=>(k.forest.aG0 v1 u1 y hy).1
  have lC:=tV _ _ u2.nodup fun y hy=>(k.forest.aG0 v2 u2 y hy).1
  rw[List.length_append] at lB lC
  refine⟨_,rfl,B,_,dB,C,_,dC,rfl,(aF1 IB (by unfold Sm;omega)).mono ?_⟩
  rintro _ w7 ⟨_,rfl,B7,d7,rfl,O7,E7⟩
  have RC7:=RC.keep E7 (fun _ _ h=>h)
  have sz5:w.heap.size+1<=w5.heap.size:=Nat.le_trans sz3 E5.size
  have sz6:w.heap.size+1<=w6.heap.size:=Nat.le_trans sz5 E6.size
  refine⟨_,rfl,B7,_,d7,rfl,?_⟩
  generalize hns:(rJ g cur.1 cur.2).1++(rJ g cur.1 cur.2).2=ns
  have F7:=(F5.ext E6).ext E7
  --the two ways one behind the other
  have app:∃A7 c7 w8,(Builtin.append_ #[T.bH,T.bH] T.bH #[.slice B7 (rJ g cur.1 cur.2).1.length d7,.slice C (rJ g cur.1 cur.2).2.length dC]).run P w7= .ok (.slice A7 ns.length c7) w8/\Row w8 (w.heap.size+1) T.int 1 A7 ns.length c7 (ns.map iv)/\Ext w6 w8/\(∀b,At A7 b->w6.heap.size<=b):=by
   rcases hC:C with _|aC
   ·rw[hC] at RC7
    have h0:(rJ g cur.1 cur.2).2.length=0/\dC=0:=by
     rcases RC7.2 with⟨_,q1,q2⟩|⟨_,_,_,q,_⟩
     ·exact⟨q1,q2⟩
     ·cases q
    have hnil:(rJ g cur.1 cur.2).2=[]:=List.length_eq_zero_iff.1 h0.1
    rw[hnil,List.append_nil] at hns
    rw[h0.1,h0.2,<-hns]
    refine⟨B7,d7,w7,aEg (P:=P) (t:=T.bH) (ty:=T.bH) O7.row aBn aBl,(O7.row).xE sz6,E7,fun b hb=>(O7.at hb).1⟩
   ·have hcc:bG w7 aC ((rJ g cur.1 cur.2).2.map iv):=by
     rcases RC7.cells with h0|⟨a',ha',hc'⟩
     ·rw[h0];exact Wk.bG.nil
     ·rw[hC] at ha';cases ha';exact hc'
    obtain⟨A7,c7,w8,hr8,hR8,hK8,hA8⟩:=O7.row.append (P:=P) (t:=T.bH) (ty:=T.bH) (m:=(rJ g cur.1 cur.2).2.length) (c2:=dC) aBn aBl (by decide) (news:=(rJ g cur.1 cur.2).2.map iv) (by simp) hcc (by intro u hu;obtain⟨x,_,rfl⟩:=List.mem_map.1 hu;rfl) (by omega) (by omega) E7.size
    have hl:ns.length=(rJ g cur.1 cur.2).1.length+(rJ g cur.1 cur.2).2.length:=by rw[<-hns,List.length_append]
    rw[<-List.map_append,hns,<-hl] at hR8
    rw[hl]
    refine⟨A7,c7,w8,hr8,by rw[<-hl];exact hR8.xE sz6,E7.over hK8 (fun i hi hh=>by have:=(O7.at hh).1;omega),fun b hb=> ?_⟩
    rcases hA8 b hb with q|q
    ·exact(O7.at q).1
    ·exact Nat.le_trans E7.size q
  obtain⟨A7,c7,w8,hr8,R8,E68,nA7⟩:=app
  refine⟨A7,_,c7,w8,hr8,?_⟩
  have F8:=(F5.ext E6).ext E68
  have hnl:ns.length<=2097152:=by rw[<-hns,List.length_append];omega
  have vns:∀z∈ns,Vn g.nodes.length z/\0<=(aW g.why z).to:=fun z hz=>by
   rw[<-hns] at hz
   exact(List.mem_append.1 hz).elim (vv1 z) (vv2 z)
  have hcut:=F8.wk.cut (m:=wl'.length) (d:=d') (by omega) (by omega) (Nat.le_refl _)
  rw[Xi aOg,List.take_left] at hcut
  have I8:Il g a b ks0 seen ks (cur::wl') (fun _ _=>False):=I3.perm fun q=>by simp;exact⟨fun h=>h.symm,fun h=>h.symm⟩
  refine⟨fun k2 D' n2 d2 x7 w'=>∃seen' ks' wl2,k2=ns.length-x7.toNat/\0<=x7/\x7<=ns.length/\n2=wl2.length/\wl2.length+aEv g seen'=wl'.length+aEv g seen/\TF w m1 ⟨w.heap.size,0,none⟩ w' D' d2 ns A7 c7 seen' ks' wl2/\w.heap.size+1<=w'.heap.size/\Il g a b ks0 seen' ks' (cur::wl2) (fun _ _=>False)/\(∀(i:Nat) z,(i:Int)<x7->ns[i]? =some z->Sn seen' z),
   ⟨_,seen,ks,wl',rfl,by omega,by omega,rfl,rfl,⟨F8.kw,rfl,F8.sn,hcut,R8,fun b hb hh=> ?_,F8.mp,hml⟩,Nat.le_trans sz6 E68.size,I8,fun i z hi=>by omega⟩,?_⟩
  ·have h1:=nA7 b hh
   have h2:=(F3.wk.at hb).2
   have:=E5.size
   have:=E6.size
   omega
  rintro k2 D' n2 d2 x7 w9 ⟨seen',ks',wl2,rfl,x0,x1,rfl,hsum,F9,sz9,I9,hseen⟩
  refine⟨fun hlt=> ?_,fun hge=> ?_⟩
  ·have hx7:x7.toNat<ns.length:=by omega
   obtain⟨z,hz⟩:∃z,ns[x7.toNat]? =some z:=⟨_,List.getElem?_eq_getElem hx7⟩
   obtain⟨aZ,vZ,hAZ,hvZ,hcZ,_⟩:=F9.nz.get x0 hlt
   rw[List.getElem?_map,hz] at hvZ
   cases hvZ
   obtain⟨vz,tz⟩:=vns z (List.mem_of_getElem? hz)
   have z0:=vz.1
   have z1:=vz.2
   have hl:=I9.len
   obtain⟨aS,vS,hAS,hvS,hcS,hfS⟩:=F9.sn.row.get (i:=z) z0 (by omega)
   cases hAS
   rw[List.getElem?_map,getD_some (d:=false) (by omega)] at hvS
   cases hvS
   have next:∀w' D2 d3 ks2 wl3 seen2,TF w m1 ⟨w.heap.size,0,none⟩ w' D2 d3 ns A7 c7 seen2 ks2 wl3->w.heap.size+1<=w'.heap.size->Il g a b ks0 seen2 ks2 (cur::wl3) (fun _ _=>False)->wl3.length+aEv g seen2=wl'.length+aEv g seen->(∀t,Sn seen' t->Sn seen2 t)->Sn seen2 z->jF (ns.length-x7.toNat) (fun k2 D' n2 d2 x7 w'=>∃seen' ks' wl2,k2=ns.length-x7.toNat/\0<=x7/\x7<=ns.length/\n2=wl2.length/\wl2.length+aEv g seen'=wl'.length+aEv g seen/\TF w m1 ⟨w.heap.size,0,none⟩ w' D' d2 ns A7 c7 seen' ks' wl2/\w.heap.size+1<=w'.heap.size/\Il g a b ks0 seen' ks' (cur::wl2) (fun _ _=>False)/\(∀(i:Nat) z,(i:Int)<x7->ns[i]? =some z->Sn seen' z)) x7 D2 wl3.length d3 w':=by
    intro w' D2 d3 ks2 wl3 seen2 h1 h2 h3 h4 h5 h6
    refine⟨ns.length-(x7.toNat+1),by omega,?_⟩
    rw[gI (n:=ns.length) x0 hlt (by unfold Sm;omega)]
    refine⟨seen2,ks2,wl3,by omega,by omega,by omega,rfl,h4,h1,h2,h3,fun i t hi ht=> ?_⟩
    rcases Nat.lt_or_ge i x7.toNat with q|q
    ·exact h5 t (hseen i t (by omega) ht)
    ·have:i=x7.toNat:=by omega
     subst this
     rw[hz] at ht
     cases ht
     exact h6
   refine⟨x0,hlt,aZ,hAZ,z,hcZ,z0,by omega,_,rfl,seen'.getD z.toNat false,hcS,fun hs=> ?_,fun hs=>⟨z0,by omega,_,rfl,⟨_,hcS⟩,hfS,?_⟩⟩
   ·exact next w9 D' d2 ks' wl2 seen' F9 sz9 I9 hsum (fun _ h=>h) hs
   ·have hset:=aNy g (seen:=seen') (n:=z.toNat) (by omega) hl hs
    refine aMa h k mH mX hwd (by omega) F9 sz9 I9 vz tz (by unfold Sn;rw[hs];simp) (fun i x y hc hx hy=> ?_) (fun hc=> ?_) (by omega) ?_
    ·have cg:=aGx k vz tz hc
     exact⟨qB k.sound cg.v1 (List.mem_of_getElem? hx),qB k.sound cg.v2 (List.mem_of_getElem? hy),cg.args i x y hx hy⟩
    ·have cg:=aGx k vz tz hc
     exact⟨cg.v1,cg.v2,cg.len⟩
    ·intro w' D2 d3 ks2 wl3 seen2 h1 h2 h3 h4 h5
     subst h4
     refine next w' D2 d3 ks2 wl3 _ h1 h2 h3 (by omega) (fun t ht=>aFc t ht) ?_
     unfold Sn
     exact iW (by omega)
  ·have hx7:x7.toNat=ns.length:=by omega
   have hcov:Cov g (Sn seen') cur.1 cur.2:=fun z hz=>by
    have hz':z∈ns:=by rw[<-hns];exact List.mem_append.2 hz
    obtain⟨i,hi⟩:=List.mem_iff_getElem?.1 hz'
    have:=(List.getElem?_eq_some_iff.1 hi).1
    exact hseen i z (by omega) hi
   rw[List.length_append,List.length_singleton] at hbd
   exact⟨wl2.length+aEv g seen',by rw[List.length_append,List.length_singleton];omega,seen',ks',wl2,rfl,rfl,by omega,⟨F9.kw,F9.yb,F9.sn,F9.wk,Row.nil _ _ _ _,fun b _ hh=>(by obtain⟨_,hh,_⟩:=hh;cases hh),F9.mp,F9.mw⟩,sz9,I9.done hcov⟩
 ·have:wl=[]:=List.length_eq_zero_iff.1 (by omega)
  subst this
  exact⟨ks,F3.mp,F3.kw,I3.old,I3.cc k s ha hb hab,I3.src⟩
end
def wC (A1:Option Addr) (n1 c1:Nat) (x1:Int) (K:Int->World->Prop) (w:World):Prop:=
 ∃I1:Nat->Int->Prop,(∃k1,I1 k1 0)/\∀k1 (x3:Int),I1 k1 x3->((x3<(n1:Int)->(0<=x3/\x3<(n1:Int)/\∃a1,A1=some a1/\∃x4,w.cell? (a1.add (x3.toNat*1))=some (iv x4)/\(x1=x4->(K x3 w))/\(¬(x1=x4)->(∃k2,k2<k1/\I1 k2 (IntKind.wrap .i64 (x3+1))))))/\(¬(x3<(n1:Int))->(K (-1) w)))
theorem Sv (A1:Option Addr) (n1 c1:Nat) (x1:Int) (K:Int->World->Prop) (w:World) (H:wC A1 n1 c1 x1 K w):Calls P F.uG #[.slice A1 n1 c1,iv x1] w (cO fun v w'=>∃x2,v=(iv x2)/\K x2 w'):=by
 unfold wC at H;refine bT (P:=P) Tryz.func114 rfl [(0,.slice A1 n1 c1),(1,iv x1)] 19 rfl rfl (aa rfl (aa rfl az)) (aG (aF (ag rfl (aH (nc (y2 0 1 rfl) (aG (aG (aF (mv rfl (sv rfl rfl (xb rfl (fun _=>bW TF.bP)) (mv rfl (aH (nc (y4 0 1 7 8 rfl) (aY ?_))))))))))))));obtain⟨I1,⟨k1,hi⟩,H⟩:=H;refine Au (fun k1 a=>∃x3,Ok 19 [(0,.slice A1 n1 c1),(1,iv x1),(7,iv (n1:Int)),(8,iv x3)] a/\I1 k1 x3) (fun a ha=>⟨k1,0,ha.weaken cs,hi⟩) ?_;rintro k1 a ⟨x3,ha,hI⟩;replace H:=H k1 x3 hI;refine cu ha ?_;refine aG (aF (bo rfl rfl iY (aH (nc (y5 0 1 7 8 9 rfl) (aG ?_)))));refine bC rfl (fun hb=> ?_) (fun hb=> ?_)
 ·replace H:=H.1 hb;refine aX (nc (y4 0 1 7 8 rfl) (aG (aY (aG (aF (mv rfl (ag rfl (aH (nc (y5 0 1 5 7 8 rfl) (aG (aF (mv rfl (mv rfl (mv rfl ?_))))))))))))));obtain⟨h1,h2,a1,e1,H⟩:=H;refine ix rfl rfl (aU TF.aV TF.size_int e1 h1 h2) ?_;obtain⟨x4,h3,H⟩:=H;refine ld rfl (aJ TF.aP h3) (bo rfl rfl iR (aH (nc (y6 0 1 5 7 8 16 rfl) ?_)));refine bC rfl (fun hb=> ?_) (fun hb=> ?_)
  ·replace H:=H.1 hb;exact aG (aF (mv rfl (ag rfl (aH (nc (kp 4 rfl zz) (bK (bF (aQ (aQ (bF (aQ (aN (res1 rfl rfl) ⟨_,rfl,_,rfl,H⟩))))))))))))
  ·replace H:=H.2 hb;refine aX (bZ (nc (y4 0 1 7 8 rfl) (aF (bo rfl rfl kC (mv rfl (aH ?_))))));obtain⟨k2,hk,H⟩:=H;exact bD fun a ha=>⟨k2,hk,⟨IntKind.wrap .i64 (x3+1),ha.weaken cs,H⟩,rfl⟩
 ·replace H:=H.2 hb;exact eU (aT (aT (bQ (nc zz (aG (aF (ag rfl (aH (nc (kp 4 rfl zz) (bK (aN (res1 rfl rfl) ⟨_,rfl,_,rfl,H⟩)))))))))))
def sO (A1:Option Addr) (n1 c1:Nat) (x1:Int) (K:Bool->World->Prop) (w:World):Prop:=
 Calls P F.uG #[.slice A1 n1 c1,iv x1] w (cO fun v1 w1=>∃x2,v1=(iv x2)/\K (decide (0<=x2)) w1)
theorem Qi (A1:Option Addr) (n1 c1:Nat) (x1:Int) (K:Bool->World->Prop) (w:World) (H:sO A1 n1 c1 x1 K w):Calls P F.qG #[.slice A1 n1 c1,iv x1] w (cO fun v w'=>∃b1,v=(.bool b1)/\K b1 w'):=by
 unfold sO at H;refine bT (P:=P) Tryz.func98 rfl [(0,.slice A1 n1 c1),(1,iv x1)] 9 rfl rfl (aa rfl (aa rfl az)) (aG (aF (ag rfl (aH (nc (y2 0 1 rfl) (aG (aF (mv rfl (mv rfl (sc rfl rfl FF.Kv H ?_))))))))));rintro _ w1 ⟨x2,rfl,H⟩;exact bo rfl rfl Kq (ag rfl (aH (nc (kp 4 rfl zz) (bK (aN (res1 rfl rfl) ⟨_,rfl,_,rfl,H⟩)))))
end Go.Proofs.YtnbakpoahcndpaaGreatDoor
namespace Go.Proofs
open Go.Shelf
namespace YtnbakpoahcndpaaGreatDoor
open Wk
open Go.Sort
theorem Own.aJ8 {w:World} {base:Nat} {e:TypeId} {A:Option Addr} {n c:Nat} {l:List Int} (h:Own w base e 1 A n c (l.map iv)) (hn:0<n):∃g cur,A=some ⟨g,0,none⟩/\base<=g/\w.heap[g]? =some (.cells cur e (0,0))/\n<=c/\c<=maxLen/\cur.size=c*1/\cur.toList.take l.length=l.map (Value.int .i64)/\l.length=n:=by
 have hl:l.length=n:=by have:=h.1;simpa using this
 rcases h.2 with⟨h0,_⟩|⟨g,cap,cur,hv,hb,hg,h1,h2,h3,h4⟩
 ·injection h0 with _ h0 _;omega
 ·injection hv with v1 v2 v3
  subst v3
  exact⟨g,cur,v1,hb,hg,h1,h2,h3,by rw[hl];simpa using h4,hl⟩
theorem aKy {w:World} {base g cap q:Nat} {e:TypeId} {cur:Array Value} {ss ts:List Int} {os:Array Obj} (hl:ts.length=ss.length) (hbase:base<=g) (hb:w.heap[g]? =some (.cells cur e (0,0))) (h1:ss.length<=cap) (h2:cap<=maxLen) (h3:cur.size=cap*1):
  Own (grow (putRow (Value.int .i64) (Sort.ahead w q) g 0 ts.toArray) os) base e 1 (some ⟨g,0,none⟩) ss.length cap (ts.map iv):=ownsRow_sortedI hl hbase hb h1 h2 h3
theorem aIx {w:World} {g q:Nat} {os:Array Obj} (d:Array Int):Keep (fun b=>b=g) w (grow (putRow (Value.int .i64) (Sort.ahead w q) g 0 d) os):=by
 have h:=grownBy_sortedI (w:=w) (g:=g) (n:=q) (os:=os) d
 exact⟨h.size,h.os,h.tape,h.output,fun b hb hx=>h.block b hb (fun e=>hx (Option.some.inj e))⟩
theorem aPd {w:World} {base:Nat} {A:Option Addr} {n c:Nat} {l:List Int} (h:Own w base T.int 1 A n c (l.map iv)) (hn:n<=1099511627776):
  Calls P F.qI #[.slice A n c] w (cO fun v w'=>v= .tuple #[]/\Own w' base T.int 1 A n c ((l.mergeSort fun x y=>decide (x<=y)).map iv)/\Keep (At A) w w'):=by
 have hl:l.length=n:=by have:=h.1;simpa using this
 rcases Nat.eq_zero_or_pos n with h0|h0
 ·subst h0
  have hnil:l=[]:=List.length_eq_zero_iff.1 hl
  subst hnil
  have:=AnyM.slices_Sort_int_none (P:=P) Tryz.laysSort A c w
  refine Calls.mono (show Calls P F.qI _ w _ from this) ?_
  rintro e w' ⟨rfl,rfl⟩
  exact⟨_,rfl,rfl,by simpa using h,Keep.refl _ _⟩
 ·obtain⟨g,cur,rfl,hb,hg,h1,h2,h3,h4,_⟩:=h.aJ8 h0
  have hlt:=(Array.getElem?_eq_some_iff.1 hg).1
  have:=AnyM.slices_Sort_int (P:=P) Tryz.laysSort g 0 c l w (holds_of_blockI hg h4) hlt (by omega)
  rw[hl] at this
  refine Calls.mono (show Calls P F.qI _ w _ from this) ?_
  rintro e w' ⟨rfl,q,os,rfl⟩
  refine⟨_,rfl,rfl,?_,(aIx _).mono fun i _ hi=>⟨_,rfl,hi.symm⟩⟩
  have:=aKy (q:=q) (os:=os) (ss:=l) (ts:=l.mergeSort fun x y=>decide (x<=y)) (by simp) hb hg (by omega) h2 h3
  rw[hl] at this
  exact this
theorem aMc {w:World} {base:Nat} {A:Option Addr} {n c i:Nat} {l:List Int} (h:Own w base T.int 1 A n c (l.map iv)) (hi:i<n) (hc:c<=9223372036854775807):
  Calls P F.sD #[.slice A n c,iv (i:Int),iv ((i+1:Nat):Int)] w (cO fun v w'=>v= .slice A (n-1) c/\Own w' base T.int 1 A n c ((l.take i++l.drop (i+1)++[0]).map iv)/\Keep (At A) w w'):=by
 have hl:l.length=n:=by have:=h.1;simpa using this
 obtain⟨g,cur,rfl,hb,hg,h1,h2,h3,h4,_⟩:=h.aJ8 (by omega)
 have:=AnyG.slices_Delete_int (P:=P) Tryz.laysDelete g 0 c i (i+1) l w (holds_of_blockI hg h4) (by omega) hc (by omega) (by omega)
 rw[hl] at this
 refine Calls.mono (show Calls P F.sD _ w _ from this) ?_
 rintro e w' ⟨rfl,q,rfl⟩
 have e1:i+1-i=1:=by omega
 rw[e1]
 have hts:(l.take i++l.drop (i+1)++[0]).length=l.length:=by simp;omega
 refine⟨_,rfl,rfl,?_,?_⟩
 ·have:=aKy (q:=q) (os:= #[]) (ss:=l) (ts:=l.take i++l.drop (i+1)++[0]) hts hb hg (by omega) h2 h3
  rw[hl,grow_empty] at this
  exact this
 ·have:=(aIx (w:=w) (g:=g) (q:=q) (os:= #[]) (l.take i++l.drop (i+1)++[0]).toArray)
  rw[grow_empty] at this
  exact this.mono fun i _ hi=>⟨_,rfl,hi.symm⟩
theorem aNn {w:World} {A:Option Addr} {n c:Nat} {l:List Int} {x:Int} (h:Ints w A n l) (hn:Sm n):
  Calls P F.uG #[.slice A n c,iv x] w (cO fun v w'=>∃r:Int,v= iv r/\(0<=r↔x∈l)/\w'=w):=by
 refine Sv A n c x (fun r w'=>(0<=r↔x∈l)/\w'=w) w ?_
 have hl:=h.1
 unfold wC
 refine⟨fun k i=>k=n-i.toNat/\0<=i/\i<=n/\∀(j:Nat) y,(j:Int)<i->l[j]? =some y->y≠x,⟨_,rfl,by omega,by omega,fun j y hj=>by omega⟩,?_⟩
 rintro k i ⟨rfl,i0,i1,hall⟩
 refine⟨fun hlt=> ?_,fun hge=>⟨⟨fun q=>by omega,fun q=> ?_⟩,rfl⟩⟩
 ·obtain⟨y,a,hy,hA,hc⟩:=h.int i0 hlt
  refine⟨i0,hlt,a,hA,y,hc,fun e=>⟨⟨fun _=>by rw[e];exact List.mem_of_getElem? hy,fun _=>i0⟩,rfl⟩,fun e=>⟨n-(i.toNat+1),by omega,?_⟩⟩
  rw[gI (n:=n) i0 hlt hn]
  refine⟨by omega,by omega,by omega,fun j z hj hz=> ?_⟩
  rcases Nat.lt_or_ge j i.toNat with q|q
  ·exact hall j z (by omega) hz
  ·have:j=i.toNat:=by omega
   subst this
   rw[hy] at hz
   cases hz
   exact fun q=>e q.symm
 ·obtain⟨j,hj⟩:=List.mem_iff_getElem?.1 q
  have:=(List.getElem?_eq_some_iff.1 hj).1
  exact absurd rfl (hall j x (by omega) hj)
theorem aJh {w:World} {A:Option Addr} {n c:Nat} {l:List Int} {x:Int} (h:Ints w A n l) (hn:Sm n):
  Calls P F.qG #[.slice A n c,iv x] w (cO fun v w'=>∃b,v= .bool b/\(b=true↔x∈l)/\w'=w):=by
 refine Qi A n c x (fun b w'=>(b=true↔x∈l)/\w'=w) w ?_
 unfold sO
 refine(aNn h hn).mono ?_
 rintro _ w1 ⟨_,rfl,r,rfl,hr,rfl⟩
 exact⟨_,rfl,r,rfl,by rw[decide_eq_true_iff];exact hr,rfl⟩
end YtnbakpoahcndpaaGreatDoor
end Go.Proofs
namespace Go.Proofs.YtnbakpoahcndpaaGreatDoor
open Wk
open Go.ChangeMaps (setBlock)
def It {α β:Type} (mk:α->Value) (mv:β->Value) (w:World) (r M:Nat) (l:List (α×β)) (done:List α):Prop:=
 ∃es clock since seen c0,w.heap[M]? =some (.map es clock)/\es.toList.map (fun e=>(e.key,e.val))=l.map (fun x=>(mk x.1,mv x.2))/\((l.map (·.1)).Nodup/\(es.toList.map (·.born)).Nodup)/\w.heap[r]? =some (.mapIter (some M) since seen c0)/\(∀x∈es.toList,x.born<since)/\since<=c0/\since<=clock/\done.Nodup/\
  (∀k∈done,k∈l.map (·.1))/\∀(i:Nat) e x,es.toList[i]? =some e->l[i]? =some x->(seen.contains e.born=true↔x.1∈done)
section
variable {α β:Type} [DecidableEq α] {mk:α->Value} {mv:β->Value} {P:Program} {w w':World} {r M:Nat} {l:List (α×β)} {done:List α}
theorem It.keep {X:Nat->Prop} (h:It mk mv w r M l done) (k:Keep X w w') (h1:¬X r) (h2:¬X M):It mk mv w' r M l done:=by
 obtain⟨es,clock,since,seen,c0,a1,a2,a3,a4,a5⟩:=h
 exact⟨es,clock,since,seen,c0,(k.block M (Array.getElem?_eq_some_iff.1 a1).1 h2).trans a1,a2,a3,(k.block r (Array.getElem?_eq_some_iff.1 a4).1 h1).trans a4,a5⟩
theorem It.start {kt e:TypeId} {t:TypeId} (h:rQ mk mv w M l) (ht:P.underlying t=some (.map kt e)):∃w',(Instr.range t (.map (some M))).run P w= .ok (.pointer (some ⟨w.heap.size,0,none⟩)) w'/\It mk mv w' w.heap.size M l []/\Ext w w'/\w'.heap.size=w.heap.size+1:=by
 obtain⟨es,clock,h1,h2,h3⟩:=h
 have hlt:=(Array.getElem?_eq_some_iff.1 h1).1
 refine⟨_,run_range_map w t kt e M es clock ht h1,⟨es,clock,clock, #[],clock,((MapKept.heap_alloc w _).2 M hlt).trans h1,h2,⟨h3.1,h3.2.1⟩,(MapKept.heap_alloc w _).1,h3.2.2,Nat.le_refl _,Nat.le_refl _,by simp,by simp,fun i e x _ _=>by simp⟩,⟨by simp,rfl,rfl,rfl,fun b hb _=>(MapKept.heap_alloc w _).2 b hb⟩,by simp⟩
theorem It.next (h:It mk mv w r M l done) (ty:TypeId):
  ((∀k∈l.map (·.1),k∈done)/\(Instr.next (.pointer (some ⟨r,0,none⟩)) false ty).run P w= .ok (.tuple #[.bool false]) w)\/
  ∃k v w',(k,v)∈l/\k∉done/\(Instr.next (.pointer (some ⟨r,0,none⟩)) false ty).run P w= .ok (.tuple #[.bool true,mk k,mv v]) w'/\It mk mv w' r M l (done++[k])/\Keep (fun b=>b=r) w w'/\w'.heap.size=w.heap.size/\(Instr.entry (.pointer (some ⟨r,0,none⟩))).run P w'= .ok (.tuple #[mk k,mv v]) w':=by
 obtain⟨es,clock,since,seen,c0,a1,a2,a3,a4,a5,a6,a7,a8,a9,a10⟩:=h
 have hlen:es.toList.length=l.length:=by have:=congrArg List.length a2;simpa using this
 have pairs:∀(i:Nat) e x,es.toList[i]? =some e->l[i]? =some x->e.key=mk x.1/\e.val=mv x.2:=fun i e x he hx=>by
  have:=congrArg (fun z=>z[i]?) a2
  simp only[List.getElem?_map,he,hx,Option.map_some,Option.some.injEq,Prod.mk.injEq] at this
  exact this
 rcases run_next_at (P:=P) w ty r M since c0 seen es clock a4 a1 a5 a6 with⟨h0,hrun⟩|⟨e,he,w1,hal,hrun⟩
 ·refine .inl ⟨fun k hk=> ?_,hrun⟩
  obtain⟨x,hx,rfl⟩:=List.mem_map.1 hk
  obtain⟨i,hi⟩:=List.mem_iff_getElem?.1 hx
  obtain⟨e,he⟩:∃e,es.toList[i]? =some e:=⟨_,List.getElem?_eq_getElem (by have:=(List.getElem?_eq_some_iff.1 hi).1;omega)⟩
  exact(a10 i e x he hi).1 (all_seen es seen h0 e (List.mem_of_getElem? he))
 ·obtain⟨hem,hes⟩:=mem_left he
  obtain⟨i,hi⟩:=List.mem_iff_getElem?.1 hem
  obtain⟨x,hx⟩:∃x,l[i]? =some x:=⟨_,List.getElem?_eq_getElem (by have:=(List.getElem?_eq_some_iff.1 hi).1;omega)⟩
  obtain⟨ek,ev⟩:=pairs i e x hi hx
  have hr1:w1.heap[r]? =some (.mapIter (some M) since seen c0):=by rcases hal with rfl|rfl<;>exact a4
  have hb1:w1.heap[M]? =some (.map es clock):=by rcases hal with rfl|rfl<;>exact a1
  have hne:r≠M:=fun q=>by rw[q] at hr1;rw[hr1] at hb1;cases hb1
  have hset:=Go.MapKept.heap_set (o':= .mapIter (some M) since (seen.push e.born) clock) hr1
  have hb':(setBlock w1 r (.mapIter (some M) since (seen.push e.born) clock)).heap[M]? =some (.map es clock):=(hset.2 M (fun e1=>hne e1.symm)).trans hb1
  have hnd:x.1∉done:=fun q=>by
   have:=(a10 i e x hi hx).2 q
   rw[hes] at this
   cases this
  refine .inr ⟨x.1,x.2,_,List.mem_of_getElem? hx,hnd,by rw[hrun,ek,ev],⟨es,clock,since,seen.push e.born,clock,hb',a2,a3,hset.1,a5,a7,a7,?_,?_,fun j e' x' he' hx'=> ?_⟩,?_,?_,?_⟩
  ·rw[List.nodup_append]
   exact⟨a8,by simp,fun p hp q hq hpq=>by simp at hq;subst hq;subst hpq;exact hnd hp⟩
  ·intro k hk
   rcases List.mem_append.1 hk with hk|hk
   ·exact a9 k hk
   ·simp at hk;subst hk;exact List.mem_map.2 ⟨x,List.mem_of_getElem? hx,rfl⟩
  ·rw[contains_push,List.mem_append,List.mem_singleton,Bool.or_eq_true,a10 j e' x' he' hx']
   refine or_congr Iff.rfl ?_
   rw[beq_iff_eq]
   have li:=(List.getElem?_eq_some_iff.1 hi).1
   have lj:=(List.getElem?_eq_some_iff.1 he').1
   constructor
   ·intro q
    have:i=j:=by
     refine(List.getElem?_inj (by rw[List.length_map];exact li) a3.2).1 ?_
     rw[List.getElem?_map,List.getElem?_map,hi,he']
     simp[q]
    subst this
    rw[hx] at hx'
    cases hx'
    rfl
   ·intro q
    have:j=i:=by
     refine(List.getElem?_inj (by rw[List.length_map];omega) a3.1).1 ?_
     rw[List.getElem?_map,List.getElem?_map,hx,hx']
     simp[q]
    subst this
    rw[hi] at he'
    cases he'
    rfl
  ·rcases hal with rfl|rfl<;>exact⟨by simp[setBlock],rfl,rfl,rfl,fun b _ hb=>hset.2 b (fun e1=>hb e1)⟩
  ·rcases hal with rfl|rfl<;>simp[setBlock]
  ·rw[run_entry_at (P:=P) _ r M since seen es clock e hset.1 hb' hem a3.2,ek,ev]
end
section
variable {B0:Nat} {w w' w0:World} {p U:Addr} {M N:Nat} {A:Nat->Option Addr} {n c:Nat->Nat} {H:Nat->Prop} {g:GS}
theorem aD5 {α:Type} {cd:Cod α} {base:Nat} {e:TypeId} {A:Option Addr} {n cp:Nat} {vs:List Value} {xs:List α} (h:Row w base e cd.size A n cp vs) (k:Yi cd w vs xs) (hs:0<cd.size):Sl cd w A n xs:=by
 have hlen:xs.length=n:=by
  have h1:=h.1
  have h2:=k.1
  rw[h1] at h2
  exact(Nat.eq_of_mul_eq_mul_right hs h2).symm
 refine⟨hlen,fun i x hx=> ?_⟩
 have hi:=(List.getElem?_eq_some_iff.1 hx).1
 obtain⟨a,us,hA,hu,hul,hc,_⟩:=h.elem (i:=(i:Int)) (by omega) (by omega) hs
 rw[Int.toNat_natCast] at hu hc
 refine⟨a,us,hA,hul,hc,?_⟩
 rw[hu]
 exact k.2 i x hx
theorem dF.sl (h:dF B0 w p U M N A n c H g):Sl mO w (A 4) (n 4) g.nodes:=by
 have hr:Row w B0 T.fJ 2 (A 4) (n 4) (c 4) g.nvals.vals:=h.row (show 4<9 by omega)
 exact aD5 (cd:=mO) hr h.nd.now (by decide)
def pick (st:List dK) (tags:List Int):List dK:=st.filter fun s=>decide (s.tag∈tags)
theorem aPv {C W:Nat} {us:List Edge} {D:Option Addr} {m d:Nat} {tags:List Int} (h:dF B0 w p U M N A n c H g) (hl:zM C W g us) (hwd:Ns g.nodes g.nodes.length<=W) (hC:g.nodes.length*(W+2)+1<=549755813888) (hst:g.stand.length<=1048576) (hD:Ints w D m tags) (hm:Sm m):
  Calls P F.Md #[.pointer (some p),.slice D m d] w (cO fun v w'=>∃p' U' M' H' g' us',v= .pointer (some p')/\Gr (g.nodes.length*(W+2)+1) W B0 w' p' U' M' g.nodes.length H' g' us'/\g'.nodes=g.nodes/\g'.stand=pick g.stand tags/\dU (fun _=>False) w H' w'):=by
 refine cO.mono (aCj p D m d (fun q w'=>∃p' U' M' H' g' us',q=some p'/\Gr (g.nodes.length*(W+2)+1) W B0 w' p' U' M' g.nodes.length H' g' us'/\g'.nodes=g.nodes/\g'.stand=pick g.stand tags/\dU (fun _=>False) w H' w') w ?_) (by rintro _ w' ⟨q,rfl,p',U',M',H',g',us',rfl,k⟩;exact⟨p',U',M',H',g',us',rfl,k⟩)
 have e4:=h.n4
 have e6:=h.n6
 unfold Kr
 refine⟨A 4,n 4,c 4,h.cell (show 4<9 by omega),?_⟩
 rw[<-e4]
 refine(aNd (B0:=B0) (c1:=c 4) (fs:=g.nodes) (W0:=W) (fun w' hw'=>by have:=(h.stay hw').sl;rw[<-e4] at this;exact this) h.le h.tab hl.inv.few hl.inv.fn64 hwd hl.bd.wfew hC).mono ?_
 rintro _ w1 ⟨_,rfl,hk⟩
 rcases hk with⟨hns,_⟩|⟨_,p',U',M',H1,g1,us1,rfl,G1,hn1,hs1,hm1,adv1⟩
 ·exact absurd hl.inv.sound hns
 have h1:=h.stay adv1.keep
 refine⟨_,rfl,some p',0,rfl,A 6,n 6,c 6,h1.cell (show 6<9 by omega),?_⟩
 rw[<-e6]
 refine⟨fun k i w'=>k=g.stand.length-i.toNat/\0<=i/\i<=g.stand.length/\∃H' g' us',Gr (g.nodes.length*(W+2)+1) W B0 w' p' U' M' g.nodes.length H' g' us'/\g'.nodes=g.nodes/\g'.stand=pick (g.stand.take i.toNat) tags/\dU (fun _=>False) w H' w',⟨_,rfl,by omega,by omega,H1,g1,us1,G1,hn1,by rw[hs1];rfl,adv1⟩,?_⟩
 rintro k i w2 ⟨rfl,i0,i1,H2,g2,us2,G2,hn2,hs2,adv2⟩
 refine⟨fun hlt=> ?_,fun hge=> ?_⟩
 ·have hi:i.toNat<g.stand.length:=by omega
  obtain⟨s,hs⟩:∃s,g.stand[i.toNat]? =some s:=⟨_,List.getElem?_eq_getElem hi⟩
  have h2:=h.stay adv2.keep
  obtain⟨_,_,a1,hA1,hc1⟩:=h2.said i0 hs
  refine⟨i0,hlt,a1,hA1,_,_,_,_,hc1,fun p2 w3 hN3=>⟨hN3.soft rfl,fun w4 hw4=> ?_⟩⟩
  have kp4:=iQ hw4
  have E4:Ext w2 w4:=(Ext.eY hN3).over kp4 (fun i hi hh=>by rw[hN3.block] at hh;omega)
  have c4:bG w4 p2 s.vals:=zF hw4 (by exact hN3.soft rfl)
  have et:g.stand.take (i.toNat+1)=g.stand.take i.toNat++[s]:=lJ hs
  have adv4:dU (fun _=>False) w H2 w4:=adv2.trans (dU.iL E4)
  obtain⟨⟨A2,n2,c2,r2⟩,l2,hN2⟩:=G2
  have G4:Gr (g.nodes.length*(W+2)+1) W B0 w4 p' U' M' g.nodes.length H2 g2 us2:=⟨⟨A2,n2,c2,r2.stay E4⟩,l2,hN2⟩
  have hlen2:g2.stand.length<=i.toNat:=by
   rw[hs2]
   exact Nat.le_trans (List.length_filter_le _ _) (by rw[List.length_take];omega)
  have next:∀w' H' g' us',Gr (g.nodes.length*(W+2)+1) W B0 w' p' U' M' g.nodes.length H' g' us'->g'.nodes=g.nodes->g'.stand=pick (g.stand.take (i.toNat+1)) tags->dU (fun _=>False) w H' w'->pF (g.stand.length-i.toNat) (fun k i w'=>k=g.stand.length-i.toNat/\0<=i/\i<=g.stand.length/\∃H' g' us',Gr (g.nodes.length*(W+2)+1) W B0 w' p' U' M' g.nodes.length H' g' us'/\g'.nodes=g.nodes/\g'.stand=pick (g.stand.take i.toNat) tags/\dU (fun _=>False) w H' w') i w':=by
   intro w' H' g' us' a1 a2 a3 a4
   refine⟨g.stand.length-(i.toNat+1),by omega,?_⟩
   rw[gI (n:=g.stand.length) i0 hlt (by unfold Sm;omega)]
   exact⟨by omega,by omega,by omega,H',g',us',a1,a2,by rw[show(i+1).toNat=i.toNat+1 by omega];exact a3,a4⟩
  obtain⟨va,vb⟩:=hl.sem.val s (List.mem_of_getElem? hs)
  have there:There g2 s.a s.b:=by unfold There;rw[hn2];exact⟨va.1,vb.1,va.2,vb.2⟩
  refine⟨s.tag,c4 2 _ rfl,(aJh (c:=d) (hD.ext adv4.keep) hm).mono ?_⟩
  rintro _ w5 ⟨_,rfl,b,rfl,hb,rfl⟩
  refine⟨_,rfl,b,rfl,fun hno=> ?_,fun hyes=>⟨s.not,c4 3 _ rfl,fun hnot=>⟨s.a,c4 0 _ rfl,s.b,c4 1 _ rfl,s.tag,c4 2 _ rfl,?_⟩,fun hnot=>⟨s.a,c4 0 _ rfl,s.b,c4 1 _ rfl,s.tag,c4 2 _ rfl,?_⟩⟩⟩
  ·have hnm:s.tag∉tags:=fun q=>by rw[hb.2 q] at hno;cases hno
   refine next w5 H2 g2 us2 G4 hn2 ?_ adv4
   rw[et,hs2]
   simp[pick,hnm]
  ·have hmem:s.tag∈tags:=hb.1 (by cases b<;>simp at hyes⊢)
   have ep:pick (g.stand.take (i.toNat+1)) tags=pick (g.stand.take i.toNat) tags++[s]:=by rw[et];simp[pick,hmem]
   refine(aD2 (r2.stay E4) (by omega)).mono ?_
   rintro _ w6 ⟨_,rfl,e,rfl,A6,n6,c6,H6,g6,r6,adv6,sub6,hres⟩
   refine⟨_,rfl,e,rfl,?_⟩
   rcases hres with⟨hno,_⟩|⟨_,rfl,rfl⟩
   ·exact absurd there hno
   ·refine next w6 H6 _ us2 ⟨⟨A6,n6,c6,r6⟩,l2.differ (by rw[hn2];exact va) (by rw[hn2];exact vb),hN2⟩ hn2 ?_ (adv4.trans adv6)
    show g2.stand++[_]=_
    rw[ep,hs2]
    cases s
    simp only at hnot
    rw[hnot]
  ·have hmem:s.tag∈tags:=hb.1 (by cases b<;>simp at hyes⊢)
   have ep:pick (g.stand.take (i.toNat+1)) tags=pick (g.stand.take i.toNat) tags++[s]:=by rw[et];simp[pick,hmem]
   refine(aF6 G4 (a:=s.a) (b:=s.b) (t:=s.tag) (by omega)).mono ?_
   rintro _ w6 ⟨_,rfl,e,rfl,H6,g6,us6,G6,adv6,sub6,hm6,hn6,hv6,hres⟩
   refine⟨_,rfl,e,rfl,?_⟩
   rcases hres with⟨hno,_⟩|⟨_,rfl,hs6⟩
   ·exact absurd there hno
   ·refine next w6 H6 g6 us6 G6 (hn6.trans hn2) ?_ (adv4.trans adv6)
    rw[hs6,ep,hs2]
    cases s
    simp only at hnot
    rw[hnot]
 ·have hi:i.toNat=g.stand.length:=by omega
  rw[hi,List.take_length] at hs2
  exact⟨p',U',M',H2,g2,us2,rfl,G2,hn2,hs2,adv2⟩
end
theorem aDq:∀{a b:List Int},a.Nodup->(∀t∈a,t∈b)->a.length<=b.length
 |[],b,_,_=>Nat.zero_le _
 |x::a,b,hn,hs=>by
  obtain⟨n1,n2⟩:=List.nodup_cons.1 hn
  have hx:=hs x (by simp)
  have:=aDq (b:=b.erase x) n2 fun t ht=>(List.mem_erase_of_ne (a:=t) (b:=x) (fun q:t=x=>n1 (by rw[<-q];exact ht))).2 (hs t (List.mem_cons_of_mem _ ht))
  rw[List.length_erase_of_mem hx] at this
  have:=List.length_pos_of_mem hx
  simp only[List.length_cons]
  omega
theorem aPo {l:List Int} (hn:l.Nodup):(l.mergeSort fun x y=>decide (x<=y)).Pairwise (·<·):=by
 have h1:(l.mergeSort fun x y=>decide (x<=y)).Pairwise fun x y=>decide (x<=y)=true:=List.pairwise_mergeSort (fun a b c h1 h2=>by simp at*;omega) (fun a b=>by simp;omega) l
 have h2:(l.mergeSort fun x y=>decide (x<=y)).Nodup:=(List.mergeSort_perm l _).nodup_iff.2 hn
 have:=h1.and h2
 exact this.imp fun {a b} h=>by
  have h3:=h.1
  have h4:=h.2
  simp at h3
  omega
theorem aJ6 {l:List Int} (h:l.Pairwise (·<·)) (i:Nat):(l.eraseIdx i).Pairwise (·<·):=h.sublist (List.eraseIdx_sublist _ _)
theorem erase_eq (l:List Int) {i:Nat} (hi:i<l.length):l.take i++l.drop (i+1)=l.eraseIdx i:=by rw[List.eraseIdx_eq_take_drop_succ]
section
variable {B0:Nat} {w w' w0:World} {p U:Addr} {M N:Nat} {A:Nat->Option Addr} {n c:Nat->Nat} {H:Nat->Prop} {g:GS}
theorem Si {base:Nat} {A:Option Addr} {n c:Nat} {l:List Int} (h:Row w base T.int 1 A n c (l.map iv)):Ints w A n l:=by
 have hl:l.length=n:=by have:=h.1;simpa using this
 refine⟨hl,fun i x hx=> ?_⟩
 obtain⟨aB,vB,hB,hvB,hcB,_⟩:=h.get (i:=(i:Int)) (by omega) (by have:=(List.getElem?_eq_some_iff.1 hx).1;omega)
 rw[Int.toNat_natCast,List.getElem?_map,hx] at hvB
 cases hvB
 refine⟨aB,[iv x],hB,rfl,fun j v hj=> ?_,rfl⟩
 cases j with
 |zero=>simp at hj;subst hj;rw[Addr.add_add];rw[Int.toNat_natCast] at hcB;exact hcB
 |succ j=>simp at hj
theorem aHs {C W:Nat} {us:List Edge} {m1:Nat} {ks:List (Int×Int)} {f:FuncId} {cs:List Value} {HP:List Int->Prop} (h:dF B0 w p U M N A n c H g) (hl:zM C W g us) (hwd:Ns g.nodes g.nodes.length<=W) (hC:g.nodes.length*(W+2)+1<=549755813888) (hst:g.stand.length<=1048576) (hm:rQ (Value.int .i64) iv w m1 ks) (hks:ks.length<=2097152)
  (hmono:∀a b:List Int,(∀t∈a,t∈b)->HP a->HP b) (hstart:HP (ks.map (·.1))) (hf:callable P f=true)
  (hcall:∀w' tags p' U' M' H' g' us',Ext w w'->Gr (g.nodes.length*(W+2)+1) W B0 w' p' U' M' g.nodes.length H' g' us'->g'.nodes=g.nodes->g'.stand=pick g.stand tags->Calls P f ([.pointer (some p')]++cs:List Value).toArray w' (cO fun v w''=>∃b,v= .bool b/\(b=true↔HP tags)/\Ext w' w'')):
  Calls P F.zA #[.pointer (some p),.map (some m1),.func (.func f) #[] cs.toArray] w (cO fun v w'=>∃B d out,v= .slice B out.length d/\Row w' w.heap.size T.int 1 B out.length d (out.map iv)/\out.Pairwise (·<·)/\HP out/\(∀j,j<out.length->¬HP (out.eraseIdx j))/\Ext w w'):=by
 refine cO.mono (aC2 p (some m1) (.func (.func f) #[] cs.toArray) (fun B k d w'=>∃out,k=out.length/\Row w' w.heap.size T.int 1 B out.length d (out.map iv)/\out.Pairwise (·<·)/\HP out/\(∀j,j<out.length->¬HP (out.eraseIdx j))/\Ext w w') w ?_) (by rintro _ w' ⟨B,k,d,rfl,out,rfl,hk⟩;exact⟨B,d,out,rfl,hk⟩)
 unfold Jq
 obtain⟨w1,hr1,I1,E1,z1⟩:=It.start hm aGo
 refine⟨_,w1,hr1,?_⟩
 have mlt:=hm.lt
 refine⟨fun k B m d w'=>∃done,k=ks.length-done.length/\m=done.length/\It (Value.int .i64) iv w' w.heap.size m1 ks done/\Own w' w1.heap.size T.int 1 B m d (done.map iv)/\done.length<=ks.length/\Ext w w'/\w1.heap.size<=w'.heap.size,⟨_,[],rfl,rfl,I1,Own.nil _ _ _ _,Nat.zero_le _,E1,Nat.le_refl _⟩,?_⟩
 rintro k B m d w2 ⟨done,rfl,rfl,I2,O2,hle,E2,z2⟩
 have kl:(ks.map (·.1)).length=ks.length:=List.length_map _
 rcases I2.next (P:=P) T.t with⟨hall,hrun⟩|⟨kk,v,w3,hkv,hkd,hrun,I3,K3,z3,hent⟩
 ·refine⟨false,[],w2,hrun,fun q=>(by cases q),fun _=> ?_⟩
  have hnd:done.Nodup:=by obtain⟨_,_,_,_,_,_,_,_,_,_,_,_,h8,_⟩:=I2;exact h8
  have hsub:∀t∈done,t∈ks.map (·.1):=by obtain⟨_,_,_,_,_,_,_,_,_,_,_,_,_,h9,_⟩:=I2;exact h9
  refine(aPd O2 (by omega)).mono ?_
  rintro _ w6 ⟨_,rfl,rfl,O6,K6⟩
  have E6:Ext w w6:=E2.over K6 (fun i hi hh=>by have:=(O2.at hh).1;omega)
  have hp6:∀t,t∈(done.mergeSort fun x y=>decide (x<=y))↔t∈ks.map (·.1):=fun t=>by
   rw[List.mem_mergeSort]
   exact⟨hsub t,hall t⟩
  have len6:(done.mergeSort fun x y=>decide (x<=y)).length=done.length:=List.length_mergeSort _
  refine⟨_,rfl,rfl,fun k B m d x w'=>∃out,k=out.length-x.toNat/\0<=x/\x<=out.length/\m=out.length/\out.length<=2097152/\Row w' w.heap.size T.int 1 B out.length d (out.map iv)/\out.Pairwise (·<·)/\HP out/\(∀j:Nat,(j:Int)<x->¬HP (out.eraseIdx j))/\Ext w w',⟨_,done.mergeSort fun x y=>decide (x<=y),rfl,by omega,by omega,len6.symm,by omega,?_,aPo hnd,hmono _ _ (fun t ht=>(hp6 t).2 ht) hstart,fun j hj=>by omega,E6⟩,?_⟩
  ·rw[len6]
   exact(O6.row).xE E1.size
  ·rintro k3 B4 m4 d4 x w7 ⟨out,rfl,x0,x1,rfl,hbo,R7,hr7,hp7,hb7,E7⟩
   refine⟨fun hlt=> ?_,fun hge=> ?_⟩
   ·have hx:x.toNat<out.length:=by omega
    refine(aF1 (Si R7) (by unfold Sm;omega)).mono ?_
    rintro _ w8 ⟨_,rfl,B5,d5,rfl,O8,E8⟩
    refine⟨_,rfl,B5,_,d5,rfl,?_⟩
    rw[gI (n:=out.length) x0 hlt (by unfold Sm;omega)]
    have hcap:d5<=9223372036854775807:=by
     obtain⟨_,_,_,_,_,_,hm',_⟩:=O8.aJ8 (by omega)
     unfold maxLen at hm'
     omega
    have hdel:=aMc (i:=x.toNat) O8 hx hcap
    rw[show((x.toNat:Nat):Int)=x by omega,show((x.toNat+1:Nat):Int)=x+1 by omega] at hdel
    refine hdel.mono ?_
    rintro _ w9 ⟨_,rfl,rfl,O9,K9⟩
    have E9:Ext w w9:=(E7.trans E8).over K9 (fun i hi hh=>by have:=(O8.at hh).1;have:=E7.size;omega)
    have R9:=((O9.row).xE (b':=w.heap.size) E7.size).cut (m:=out.length-1) (d:=d5) (by omega) (by have:=O9.row.le;omega) (Nat.le_refl _)
    rw[Nat.mul_one,<-List.map_take,erase_eq out hx] at R9
    have le9:(out.eraseIdx x.toNat).length=out.length-1:=by rw[List.length_eraseIdx,if_pos hx]
    rw[<-le9,List.take_left] at R9
    rw[<-le9]
    refine⟨_,rfl,B5,_,d5,rfl,?_⟩
    refine(aPv (h.stay E9) hl hwd hC hst (Si R9) (by unfold Sm;omega)).mono ?_
    rintro _ w10 ⟨_,rfl,p',U',M',H',g',us',rfl,G10,n10,s10,adv10⟩
    have E10:Ext w w10:=E9.trans adv10.keep
    refine⟨_,rfl,some p',rfl,f,cs,rfl,hf,(hcall w10 (out.eraseIdx x.toNat) p' U' M' H' g' us' E10 G10 n10 s10).mono ?_⟩
    rintro _ w11 ⟨_,rfl,b,rfl,hb,E11⟩
    refine⟨_,rfl,b,rfl,fun hbt=> ?_,fun hbf=> ?_⟩
    ·refine⟨out.length-1-x.toNat,by omega,out.eraseIdx x.toNat,by omega,x0,by omega,rfl,by omega,(R9.keep adv10.keep (fun _ _ h=>h)).keep E11 (fun _ _ h=>h),aJ6 hr7 _,hb.1 hbt,fun j hj hh=> ?_,E10.trans E11⟩
     refine hb7 j hj (hmono _ _ (fun t ht=> ?_) hh)
     have:(out.eraseIdx x.toNat).eraseIdx j=(out.eraseIdx j).eraseIdx (x.toNat-1):=by
      apply List.ext_getElem?
      intro i
      simp only[List.getElem?_eraseIdx]
      repeat' split
      all_goals first|rfl|omega|(congr 1;omega)
     rw[this] at ht
     exact(List.eraseIdx_sublist _ _).mem ht
    ·refine⟨out.length-(x.toNat+1),by omega,out,by omega,by omega,by omega,rfl,hbo,((((R7.keep E8 (fun _ _ h=>h)).keep K9 ?_).keep adv10.keep (fun _ _ h=>h)).keep E11 (fun _ _ h=>h)),hr7,hp7,fun j hj=> ?_,E10.trans E11⟩
     ·intro b hb' hh
      have h1:=(R7.at hb').2
      have h2:=(O8.at hh).1
      omega
     ·by_cases q:(j:Int)<x
      ·exact hb7 j q
      ·have:j=x.toNat:=by omega
       subst this
       exact fun hh=>by rw[hb.2 hh] at hbf;cases hbf
   ·have hx:x.toNat=out.length:=by omega
    exact⟨out,rfl,R7,hr7,hp7,fun j hj=>hb7 j (by omega),E7⟩
 ·have hlt:done.length<ks.length:=by
   have hnd:(done++[kk]).Nodup:=by obtain⟨_,_,_,_,_,_,_,_,_,_,_,_,h8,_⟩:=I3;exact h8
   have hsub:∀t∈done++[kk],t∈ks.map (·.1):=by obtain⟨_,_,_,_,_,_,_,_,_,_,_,_,_,h9,_⟩:=I3;exact h9
   have:=aDq hnd hsub
   rw[kl] at this
   simp at this
   omega
  refine⟨true,[iv kk,iv v],w3,hrun,fun _=>⟨kk,v,hent,fun p3 w4 hN4=> ?_⟩,fun q=>(by cases q)⟩
  have O3:=O2.keep K3 (fun b hb hh=>by have:=(O2.at hb).1;omega)
  have E4:=Ext.eY hN4
  have z4:=hN4.size
  obtain⟨A3,c3,w5,hr5,O5,K5,hA5⟩:=(O3.keep E4 (fun _ _ h=>h)).append (P:=P) (t:=T.bH) (ty:=T.bH) (m:=1) (c2:=1) aBn aBl (by decide) (by decide) (by decide) (news:=[iv kk]) rfl (hN4.cells rfl) (by intro u hu;simp at hu;subst hu;rfl) (by omega) (by omega)
  refine⟨A3,_,c3,w5,hr5,ks.length-(done.length+1),by omega,done++[kk],by simp,by simp,(I3.keep E4 (fun h=>h) (fun h=>h)).keep K5 ?_ ?_,?_,by simp;omega,?_,?_⟩
  ·intro hh;have:=(O2.at hh).1;omega
  ·intro hh;have:=(O2.at hh).1;have:=E1.size;omega
  ·rw[List.map_append];exact O5
  ·refine((E2.over K3 (fun i hi hh=>by omega)).trans E4).over K5 (fun i hi hh=>by have:=(O2.at hh).1;omega)
  ·have:=K5.size;omega
end
theorem Xj {st:List dK} {tags:List Int} {s:dK}:s∈pick st tags↔s∈st/\s.tag∈tags:=by simp[pick]
theorem aDt {st:List dK} {a b:List Int} (h:∀t∈a,t∈b) {s:dK} (hs:s∈pick st a):s∈pick st b:=Xj.2 ⟨(Xj.1 hs).1,h _ (Xj.1 hs).2⟩
theorem aMx {st st':List dK} (h:∀s∈st,s∈st') {x y:Int} (k:aGv st x y):aGv st' x y:=let ⟨s,h1,h2⟩:=k;⟨s,h _ h1,h2⟩
theorem aC0 {st:List dK} {tags:List Int} {T:Int->Prop} (h:∀t,T t->t∈tags) {x y:Int} (k:aGq st T x y):aGv (pick st tags) x y:=let ⟨s,h1,h2,h3,h4⟩:=k;⟨s,Xj.2 ⟨h1,h _ h3⟩,h2,trivial,h4⟩
def iH (ns:List Flat) (st:List dK) (a b:Int):Prop:=CC ns (aGv st) a b
def jP (ns:List Flat) (st:List dK) (a b:Int):Prop:=∃s∈st,s.not=true/\((iH ns st s.a a/\iH ns st s.b b)\/(iH ns st s.a b/\iH ns st s.b a))
def mW (ns:List Flat) (st:List dK):Prop:=∃s∈st,s.not=true/\iH ns st s.a s.b
theorem iH.mono {ns:List Flat} {st st':List dK} (h:∀s∈st,s∈st') {a b:Int} (k:iH ns st a b):iH ns st' a b:=CC.mono (fun _ _ e=>aMx h e) k
theorem jP.mono {ns:List Flat} {st st':List dK} (h:∀s∈st,s∈st') {a b:Int} (k:jP ns st a b):jP ns st' a b:=
 let ⟨s,h1,h2,h3⟩:=k
 ⟨s,h s h1,h2,h3.imp (fun q=>⟨q.1.mono h,q.2.mono h⟩) fun q=>⟨q.1.mono h,q.2.mono h⟩⟩
theorem mW.mono {ns:List Flat} {st st':List dK} (h:∀s∈st,s∈st') (k:mW ns st):mW ns st':=
 let ⟨s,h1,h2,h3⟩:=k
 ⟨s,h s h1,h2,h3.mono h⟩
structure Bare (HP:List Int->Prop) (out:List Int):Prop where
 rise:out.Pairwise (·<·)
 holds:HP out
 least:∀j,j<out.length->¬HP (out.eraseIdx j)
theorem Nz {ks:List (Int×Int)} {t:Int} (h:(fQ ks t).isSome=true):t∈ks.map (·.1):=by
 induction ks with
 |nil=>simp[fQ] at h
 |cons x ks ih=>
  by_cases hx:x.1=t
  ·simp[hx]
  ·have:(fQ ks t).isSome=true:=by simpa [fQ,hx] using h
   simpa using .inr (by simpa using ih this)
theorem aGa {N:Nat} {why:List Edge} {ks ks0:List (Int×Int)} (hn:(ks.map (·.1)).Nodup) (h:∀t∈ks.map (·.1),t∈ks0.map (·.1)\/∃z,Vn N z/\(aW why z).tag=t):ks.length<=ks0.length+N:=by
 have:=aDq (b:=ks0.map (·.1)++(List.range N).map fun(i:Nat)=>(aW why (i:Int)).tag) hn fun t ht=>by
  rcases h t ht with q|⟨z,vz,e⟩
  ·exact List.mem_append.2 (.inl q)
  ·refine List.mem_append.2 (.inr (List.mem_map.2 ⟨z.toNat,List.mem_range.2 (by have:=vz.1;have:=vz.2;omega),?_⟩))
   rw[toNat_cast vz.1]
   exact e
 rw[List.length_append,List.length_map,List.length_map,List.length_map,List.length_range] at this
 exact this
section
variable {B0:Nat} {w w' w0:World} {p U:Addr} {M N:Nat} {A:Nat->Option Addr} {n c:Nat->Nat} {H:Nat->Prop} {g:GS}
theorem dF.aF2 (h:dF B0 w p U M N A n c H g) {m:Nat} (hN:aAe w m w'):dF B0 w' p U M N A n c (fun b=>H b\/b=m) g/\¬GX p U M N A m/\Ext w w':=by
 have hb:=hN.at_
 have E:Ext w w':=(Keep.refl _ w).aO0 hN
 have adv0:dU H w (fun b=>H b\/b=m) w':=⟨(Keep.refl H w).aO0 hN,fun i hi hh=>hh.elim id fun hh=>by omega⟩
 have h':=h.stay E
 have hsz:w'.heap.size=w.heap.size+1:=by rw[hN.is];simp
 refine⟨⟨h'.yK,h'.ucell,h'.mcell,h'.map,h'.mno,h'.nad,h.nd.iI adv0.low,fun b hb=> .inl (h.sub b hb),.inl h.subM,?_,h.pU,h'.tab⟩,fun hh=> ?_,E⟩
 ·have h0:=(h.lo _ h.subM).1
  have h1:=h.map.lt
  rintro b (hb|rfl)
  ·have:=h.lo b hb
   omega
  ·omega
 ·rcases hh with hh|hh
  ·have:=(h.yK.fx hh).2
   omega
  ·have:=h.map.lt
   omega
structure aEp (W:Nat) (g:GS):Prop where
 wide:Ns g.nodes g.nodes.length<=W
 args:∀x∈g.nodes,x.args.length<=W
 room:g.nodes.length*(W+2)+1<=549755813888
 stand:g.stand.length<=1048575
theorem aEp.aLl {W:Nat} (h:aEp W g):g.nodes.length*(W+1)+1<=549755813888:=by
 have:=h.room
 have e:g.nodes.length*(W+2)=g.nodes.length*(W+1)+g.nodes.length:=by rw[show W+2=(W+1)+1 by omega,Nat.mul_succ]
 omega
theorem Gr.same_iff {C W:Nat} {us:List Edge} (h:zM C W g us) {x y:Int} (hx:Vn g.nodes.length x) (hy:Vn g.nodes.length y):fd g x=fd g y↔iH g.nodes g.stand x y:=aQt h.inv h.sem hx hy
theorem aA5 {C W:Nat} {us:List Edge} (h:zM C W g us) {a b:Int} (ha:Vn g.nodes.length a) (hb:Vn g.nodes.length b):(∃s∈g.stand,Tj g (fd g a) (fd g b) s)↔jP g.nodes g.stand a b:=by
 constructor
 ·rintro⟨s,hs,h1,h2⟩
  obtain⟨va,vb⟩:=h.sem.val s hs
  exact⟨s,hs,h1,h2.imp (fun q=>⟨(Gr.same_iff h va ha).1 q.1,(Gr.same_iff h vb hb).1 q.2⟩) fun q=>⟨(Gr.same_iff h va hb).1 q.1,(Gr.same_iff h vb ha).1 q.2⟩⟩
 ·rintro⟨s,hs,h1,h2⟩
  obtain⟨va,vb⟩:=h.sem.val s hs
  exact⟨s,hs,h1,h2.imp (fun q=>⟨(Gr.same_iff h va ha).2 q.1,(Gr.same_iff h vb hb).2 q.2⟩) fun q=>⟨(Gr.same_iff h va hb).2 q.1,(Gr.same_iff h vb ha).2 q.2⟩⟩
theorem aA6 {C W:Nat} {us:List Edge} (h:zM C W g us):(∃s∈g.stand,Vg g s)↔mW g.nodes g.stand:=by
 constructor
 ·rintro⟨s,hs,h1,h2⟩
  obtain⟨va,vb⟩:=h.sem.val s hs
  exact⟨s,hs,h1,(Gr.same_iff h va vb).1 h2⟩
 ·rintro⟨s,hs,h1,h2⟩
  obtain⟨va,vb⟩:=h.sem.val s hs
  exact⟨s,hs,h1,(Gr.same_iff h va vb).2 h2⟩
theorem Ry {C W:Nat} {us:List Edge} (h:zM C W g us) (hs:Sm g.stand.length):Known g:=
 ⟨fun x h0 h1=>⟨_,rZ (d:= -1) h.inv.cls.lfirst ⟨h0,h1⟩⟩,fun s hs=>by
  obtain⟨v1,v2⟩:=h.sem.val s hs
  exact⟨v1.1,v2.1,v1.2,v2.2⟩,hs⟩
theorem aDy {l:List dK} {q:dK->Prop} {r:Int} (h:Vf l q r):0<=r↔∃s∈l,q s:=by
 rcases h with⟨rfl,h⟩|⟨h0,s,hs,hq,_⟩
 ·exact⟨fun q=>by omega,fun⟨s,hs,hq⟩=>absurd hq (h s hs)⟩
 ·exact⟨fun _=>⟨s,List.mem_of_getElem? hs,hq⟩,fun _=>h0⟩
theorem aRd {C W:Nat} {us:List Edge} {a b:Int} (h:dF B0 w p U M N A n c H g) (hl:zM C W g us) (wd:aEp W g):
  Calls P F.Hl #[.pointer (some p),iv a,iv b] w (cO fun v w'=>∃B m d e,v= .tuple #[.slice B m d,iv e]/\Ext w w'/\((¬There g a b/\e=80/\m=0)\/(There g a b/\¬iH g.nodes g.stand a b/\e=82/\m=0)\/
   (There g a b/\iH g.nodes g.stand a b/\e=0/\∃out,m=out.length/\Row w' w.heap.size T.int 1 B out.length d (out.map iv)/\Bare (fun tags=>iH g.nodes (pick g.stand tags) a b) out))):=by
 refine cO.mono (aD7 p a b (fun B m d e w'=>Ext w w'/\((¬There g a b/\e=80/\m=0)\/(There g a b/\¬iH g.nodes g.stand a b/\e=82/\m=0)\/
   (There g a b/\iH g.nodes g.stand a b/\e=0/\∃out,m=out.length/\Row w' w.heap.size T.int 1 B out.length d (out.map iv)/\Bare (fun tags=>iH g.nodes (pick g.stand tags) a b) out))) w ?_) (by rintro _ w' ⟨B,m,d,e,rfl,hk⟩;exact⟨B,m,d,e,rfl,hk⟩)
 unfold Ny
 intro p2 w1 hN1 p3 w2 hN2
 have E2:Ext w w2:=(Ext.eY hN1).new hN2
 have c2:w2.cell? p2=some (iv a):=(Ext.eY hN2).cell (by simpa [add0] using hN1.cells rfl 0 _ rfl)
 have c3:w2.cell? p3=some (iv b):=by simpa [add0] using hN2.cells rfl 0 _ rfl
 have h2:=h.stay E2
 refine⟨a,c2,b,c3,(Uf h2 a b).mono ?_⟩
 rintro _ w3 ⟨_,rfl,r,rfl,hr,rfl⟩
 refine⟨_,rfl,r,rfl,fun hn=>⟨E2,.inl ⟨fun ht=> ?_,rfl,rfl⟩⟩,fun hn=> ?_⟩
 ·rw[hr.2 ht] at hn;cases hn
 have ht:There g a b:=hr.1 (by cases r<;>simp at hn⊢)
 have va:Vn g.nodes.length a:=⟨ht.1,ht.2.2.1⟩
 have vb:Vn g.nodes.length b:=⟨ht.2.1,ht.2.2.2⟩
 have ffa:=rZ (d:= -1) hl.inv.cls.lfirst va
 have ffb:=rZ (d:= -1) hl.inv.cls.lfirst vb
 rw[add0]
 refine⟨a,c2,fd g a,fun w' hw'=>tC (h2.stay (Ext.aK hw')) va.1 ffa,b,c3,fd g b,fun w' hw'=>tC (h2.stay (Ext.aK hw')) vb.1 ffb,fun w4 hw4=>⟨fun hne=>⟨E2.drawn hw4,.inr (.inl ⟨ht,fun q=>hne ((Gr.same_iff hl va vb).2 q),rfl,rfl⟩)⟩,fun heq=> ?_⟩⟩
 have heq':fd g a=fd g b:=Decidable.not_not.1 heq
 intro m1 w5 hM5
 have h4:=h2.stay (Ext.aK hw4)
 obtain⟨h5,mX,E5⟩:=h4.aF2 hM5
 have E45:Ext w3 w5:=(Ext.aK hw4).trans E5
 refine⟨a,E45.cell c2,b,E45.cell c3,?_⟩
 have few:=hl.inv.few
 refine(aE2 h5 hl.inv hl.sem (.inr rfl) mX wd.args (aEp.aLl wd) va vb heq' (rQ.new hM5)).mono ?_
 rintro _ w6 ⟨_,rfl,rfl,ks,hm6,K6,_,hcc,hsrc⟩
 have hkl:=aGa (by obtain⟨_,_,_,_,h3,_⟩:=hm6;exact h3) hsrc
 have hmb:=hM5.at_
 have E26:Ext w3 w6:=E45.over K6 (fun i hi hh=>by have:=(Ext.aK hw4).size;omega)
 have E6:Ext w w6:=E2.trans E26
 have d2:w6.cell? p2=some (iv a):=E26.cell c2
 have d3:w6.cell? p3=some (iv b):=E26.cell c3
 refine⟨_,rfl,rfl,?_⟩
 refine(aHs (cs:=[.pointer (some p2),.pointer (some p3)]) (HP:=fun tags=>iH g.nodes (pick g.stand tags) a b) (h.stay E6) hl wd.wide wd.room (by have:=wd.stand;omega) hm6 (by simp at hkl;omega) (fun x y hxy k=>k.mono fun s hs=>aDt hxy hs) (CC.mono (fun x y k=>aC0 (fun t ht=>Nz ht) k) hcc) (by kernel_rfl) ?_).mono ?_
 ·intro w' tags p' U' M' H' g' us' E' G' hn' hs'
  obtain⟨⟨A',n',c',r'⟩,l',_⟩:=G'
  refine cO.mono (aB7 p' p2 p3 (fun b' w''=>(b'=true↔iH g.nodes (pick g.stand tags) a b)/\Ext w' w'') w' ?_) (by rintro _ w'' ⟨b',rfl,hk⟩;exact⟨b',rfl,hk⟩)
  unfold Ih
  have va':Vn g'.nodes.length a:=by rw[hn'];exact va
  have vb':Vn g'.nodes.length b:=by rw[hn'];exact vb
  rw[add0]
  refine⟨a,E'.cell d2,fd g' a,fun w1 hw1=>tC (r'.stay (Ext.aK hw1)) va'.1 (rZ (d:= -1) l'.inv.cls.lfirst va'),b,E'.cell d3,fd g' b,fun w1 hw1=>tC (r'.stay (Ext.aK hw1)) vb'.1 (rZ (d:= -1) l'.inv.cls.lfirst vb'),fun w1 hw1=>⟨?_,Ext.aK hw1⟩⟩
  rw[decide_eq_true_iff,Gr.same_iff l' va' vb',hn',hs']
 ·rintro _ w7 ⟨_,rfl,B,d,out,rfl,R,hr7,hp7,hl7,E7⟩
  exact⟨_,rfl,B,_,d,rfl,E6.trans E7,.inr (.inr ⟨ht,(Gr.same_iff hl va vb).1 heq',rfl,out,rfl,R.xE E6.size,hr7,hp7,hl7⟩)⟩
theorem aIj {C W:Nat} {us:List Edge} (h:dF B0 w p U M N A n c H g) (hl:zM C W g us) (wd:aEp W g):
  Calls P F.vW #[.pointer (some p)] w (cO fun v w'=>∃B m d e,v= .tuple #[.slice B m d,iv e]/\Ext w w'/\((¬mW g.nodes g.stand/\e=91/\m=0)\/
   (mW g.nodes g.stand/\e=0/\∃out,m=out.length/\Row w' w.heap.size T.int 1 B out.length d (out.map iv)/\Bare (fun tags=>mW g.nodes (pick g.stand tags)) out))):=by
 refine cO.mono (Zl p (fun B m d e w'=>Ext w w'/\((¬mW g.nodes g.stand/\e=91/\m=0)\/
   (mW g.nodes g.stand/\e=0/\∃out,m=out.length/\Row w' w.heap.size T.int 1 B out.length d (out.map iv)/\Bare (fun tags=>mW g.nodes (pick g.stand tags)) out))) w ?_) (by rintro _ w' ⟨B,m,d,e,rfl,hk⟩;exact⟨B,m,d,e,rfl,hk⟩)
 unfold Be
 have hsm:Sm g.stand.length:=by have:=wd.stand;unfold Sm;omega
 refine(aFr h (Ry hl hsm)).mono ?_
 rintro _ w1 ⟨_,rfl,r,rfl,hF,E1⟩
 have hfi:=aDy hF
 refine⟨_,rfl,r,rfl,fun hn=>⟨E1,.inl ⟨fun q=> ?_,rfl,rfl⟩⟩,fun hn=> ?_⟩
 ·have:=hfi.2 ((aA6 hl).2 q);omega
 have hr0:0<=r:=by omega
 have hcl:=(aA6 hl).1 (hfi.1 hr0)
 rcases hF with⟨hm1,_⟩|⟨_,s,hs,hq,_⟩
 ·omega
 obtain⟨va,vb⟩:=hl.sem.val s (List.mem_of_getElem? hs)
 have h1:=h.stay E1
 obtain⟨q1,q2,a1,hA1,hc1⟩:=h1.said hr0 hs
 refine⟨_,_,_,q1,hr0,q2,a1,hA1,_,_,_,_,hc1,fun p2 w2 hN2=>⟨hN2.soft rfl,fun w3 hw3 m1 w4 hM4=> ?_⟩⟩
 have kp3:=iQ hw3
 have E13:Ext w1 w3:=(Ext.eY hN2).over kp3 (fun i hi hh=>by rw[hN2.block] at hh;omega)
 have c3:bG w3 p2 s.vals:=zF hw3 (by exact hN2.soft rfl)
 have h3:=h1.stay E13
 obtain⟨h4,mX,E4⟩:=h3.aF2 hM4
 have hmb:=hM4.at_
 obtain⟨w5,hr5,hm5,K5⟩:=(rQ.new (mk:=Value.int .i64) (mv:=iv) hM4).update aHh aGo s.tag 1
 have E35:Ext w3 w5:=E4.over K5 (fun i hi hh=>by omega)
 refine⟨s.tag,(E4.cells c3) 2 _ rfl,w5,hr5,s.a,(E35.cells c3) 0 _ rfl,s.b,(E35.cells c3) 1 _ rfl,?_⟩
 have h5:=h4.far (m1:=m1) (.inr rfl) mX K5
 have few:=hl.inv.few
 refine(aE2 h5 hl.inv hl.sem (.inr rfl) mX wd.args (aEp.aLl wd) va vb hq.2 hm5).mono ?_
 rintro _ w6 ⟨_,rfl,rfl,ks,hm6,K6,hold,hcc,hsrc⟩
 have hkl:=aGa (by obtain⟨_,_,_,_,h3,_⟩:=hm6;exact h3) hsrc
 have l1:(Dj ([]:List (Int×Int)) s.tag 1).length=1:=rfl
 rw[l1] at hkl
 have E36:Ext w3 w6:=E35.over K6 (fun i hi hh=>by omega)
 have E6:Ext w w6:=(E1.trans E13).trans E36
 have htag:s.tag∈ks.map (·.1):=Nz (hold s.tag (by rw[tX,if_pos rfl];rfl))
 refine⟨_,rfl,rfl,?_⟩
 refine(aHs (cs:=[]) (HP:=fun tags=>mW g.nodes (pick g.stand tags)) (h.stay E6) hl wd.wide wd.room (by have:=wd.stand;omega) hm6 (by omega) (fun x y hxy k=>k.mono fun s hs=>aDt hxy hs) ⟨s,Xj.2 ⟨List.mem_of_getElem? hs,htag⟩,hq.1,CC.mono (fun x y k=>aC0 (fun t ht=>Nz ht) k) hcc⟩ (by kernel_rfl) ?_).mono ?_
 ·intro w' tags p' U' M' H' g' us' E' G' hn' hs'
  obtain⟨⟨A',n',c',r'⟩,l',_⟩:=G'
  refine cO.mono (Xe p' (fun b' w''=>(b'=true↔mW g.nodes (pick g.stand tags))/\Ext w' w'') w' ?_) (by rintro _ w'' ⟨b',rfl,hk⟩;exact⟨b',rfl,hk⟩)
  unfold zD
  have hsm':Sm g'.stand.length:=by
   rw[hs']
   have:=List.length_filter_le (fun s:dK=>decide (s.tag∈tags)) g.stand
   unfold pick Sm at*
   omega
  refine(aIw r' (Ry l' hsm')).mono ?_
  rintro _ w'' ⟨_,rfl,b',rfl,hb',E''⟩
  exact⟨_,rfl,b',rfl,by rw[hb',aA6 l',hn',hs'],E''⟩
 ·rintro _ w7 ⟨_,rfl,B,d,out,rfl,R,hr7,hp7,hl7,E7⟩
  exact⟨_,rfl,B,_,d,rfl,E6.trans E7,.inr ⟨hcl,rfl,out,rfl,R.xE E6.size,hr7,hp7,hl7⟩⟩
end
section
variable {B0:Nat} {w w' w0:World} {p U:Addr} {M N:Nat} {A:Nat->Option Addr} {n c:Nat->Nat} {H:Nat->Prop} {g:GS}
theorem aEj {C W:Nat} {us:List Edge} {a b x y:Int} {s:dK} {p2 p3 p4:Addr} (h:dF B0 w p U M N A n c H g) (hl:zM C W g us) (wd:aEp W g) (va:Vn g.nodes.length a) (vb:Vn g.nodes.length b) (vx:Vn g.nodes.length x) (vy:Vn g.nodes.length y) (ex:fd g x=fd g a) (ey:fd g y=fd g b) (hs:s∈g.stand) (hno:s.not=true) (hxy:(x=s.a/\y=s.b)\/(x=s.b/\y=s.a))
  (c2:w.cell? p2=some (iv a)) (c3:w.cell? p3=some (iv b)) (c40:w.cell? (p4.add 0)=some (iv x)) (c41:w.cell? (p4.add 1)=some (iv y)) (c42:w.cell? (p4.add 2)=some (iv s.tag)) {K:Option Addr->Nat->Nat->Int->World->Prop}
  (hK:∀w' B d out,Ext w w'->Row w' w.heap.size T.int 1 B out.length d (out.map iv)->Bare (fun tags=>jP g.nodes (pick g.stand tags) a b) out->K B out.length d 0 w'):oC p4 p2 p p3 K w:=by
 intro m1 w4 hM4
 obtain⟨h4,mX,E4⟩:=h.aF2 hM4
 have hmb:=hM4.at_
 obtain⟨w5,hr5,hm5,K5⟩:=(rQ.new (mk:=Value.int .i64) (mv:=iv) hM4).update aHh aGo s.tag 1
 have E5:Ext w w5:=E4.over K5 (fun i hi hh=>by omega)
 refine⟨s.tag,E4.cell c42,w5,hr5,x,E5.cell c40,a,E5.cell c2,?_⟩
 have h5:=h4.far (m1:=m1) (.inr rfl) mX K5
 have few:=hl.inv.few
 refine(aE2 h5 hl.inv hl.sem (.inr rfl) mX wd.args (aEp.aLl wd) vx va ex hm5).mono ?_
 rintro _ w6 ⟨_,rfl,rfl,ks,hm6,K6,hold,hcc,hsrc⟩
 have E6:Ext w w6:=E5.over K6 (fun i hi hh=>by omega)
 refine⟨_,rfl,rfl,y,E6.cell c41,b,E6.cell c3,?_⟩
 have h6:=h5.far (m1:=m1) (.inr rfl) mX K6
 refine(aE2 h6 hl.inv hl.sem (.inr rfl) mX wd.args (aEp.aLl wd) vy vb ey hm6).mono ?_
 rintro _ w7 ⟨_,rfl,rfl,ks2,hm7,K7,hold2,hcc2,hsrc2⟩
 have E7:Ext w w7:=E6.over K7 (fun i hi hh=>by omega)
 have hkl:ks2.length<=1+g.nodes.length:=by
  have:=aGa (N:=g.nodes.length) (why:=g.why) (ks0:=Dj ([]:List (Int×Int)) s.tag 1) (ks:=ks2) (by obtain⟨_,_,_,_,h3,_⟩:=hm7;exact h3) fun t ht=>by
   rcases hsrc2 t ht with q|q
   ·exact hsrc t q
   ·exact .inr q
  exact this
 have htag:s.tag∈ks2.map (·.1):=Nz (hold2 s.tag (hold s.tag (by rw[tX,if_pos rfl];rfl)))
 have start:jP g.nodes (pick g.stand (ks2.map (·.1))) a b:=by
  have k1:iH g.nodes (pick g.stand (ks2.map (·.1))) x a:=CC.mono (fun x y k=>aC0 (fun t ht=>Nz (hold2 t ht)) k) hcc
  have k2:iH g.nodes (pick g.stand (ks2.map (·.1))) y b:=CC.mono (fun x y k=>aC0 (fun t ht=>Nz ht) k) hcc2
  refine⟨s,Xj.2 ⟨hs,htag⟩,hno,?_⟩
  rcases hxy with⟨rfl,rfl⟩|⟨rfl,rfl⟩
  ·exact .inl ⟨k1,k2⟩
  ·exact .inr ⟨k2,k1⟩
 refine⟨_,rfl,rfl,?_⟩
 refine(aHs (cs:=[.pointer (some p2),.pointer (some p3)]) (HP:=fun tags=>jP g.nodes (pick g.stand tags) a b) (h.stay E7) hl wd.wide wd.room (by have:=wd.stand;omega) hm7 (by omega) (fun x y hxy k=>k.mono fun s hs=>aDt hxy hs) start (by kernel_rfl) ?_).mono ?_
 ·intro w' tags p' U' M' H' g' us' E' G' hn' hs'
  obtain⟨⟨A',n',c',r'⟩,l',_⟩:=G'
  refine cO.mono (Xn p' p2 p3 (fun b' w''=>(b'=true↔jP g.nodes (pick g.stand tags) a b)/\Ext w' w'') w' ?_) (by rintro _ w'' ⟨b',rfl,hk⟩;exact⟨b',rfl,hk⟩)
  unfold yZ
  have va':Vn g'.nodes.length a:=by rw[hn'];exact va
  have vb':Vn g'.nodes.length b:=by rw[hn'];exact vb
  have hsm':Sm g'.stand.length:=by
   rw[hs']
   have h1:=List.length_filter_le (fun s:dK=>decide (s.tag∈tags)) g.stand
   have h2:=wd.stand
   unfold pick Sm
   omega
  refine⟨a,E'.cell (E7.cell c2),b,E'.cell (E7.cell c3),(aDm r' (Ry l' hsm') (a:=a) (b:=b) ⟨va'.1,vb'.1,va'.2,vb'.2⟩).mono ?_⟩
  rintro _ w'' ⟨_,rfl,r,rfl,hF,E''⟩
  refine⟨_,rfl,r,rfl,?_,E''⟩
  rw[decide_eq_true_iff,aDy hF,aA5 l' va' vb',hn',hs']
 ·rintro _ w8 ⟨_,rfl,B,d,out,rfl,R,hr8,hp8,hl8,E8⟩
  exact⟨_,rfl,B,_,d,rfl,hK w8 B d out (E7.trans E8) (R.xE E7.size) ⟨hr8,hp8,hl8⟩⟩
theorem aJi {C W:Nat} {us:List Edge} {a b:Int} (h:dF B0 w p U M N A n c H g) (hl:zM C W g us) (wd:aEp W g):
  Calls P F.vV #[.pointer (some p),iv a,iv b] w (cO fun v w'=>∃B m d e,v= .tuple #[.slice B m d,iv e]/\Ext w w'/\((¬There g a b/\e=80/\m=0)\/(There g a b/\¬jP g.nodes g.stand a b/\e=91/\m=0)\/
   (There g a b/\jP g.nodes g.stand a b/\e=0/\∃out,m=out.length/\Row w' w.heap.size T.int 1 B out.length d (out.map iv)/\Bare (fun tags=>jP g.nodes (pick g.stand tags) a b) out))):=by
 refine cO.mono (Zf p a b (fun B m d e w'=>Ext w w'/\((¬There g a b/\e=80/\m=0)\/(There g a b/\¬jP g.nodes g.stand a b/\e=91/\m=0)\/
   (There g a b/\jP g.nodes g.stand a b/\e=0/\∃out,m=out.length/\Row w' w.heap.size T.int 1 B out.length d (out.map iv)/\Bare (fun tags=>jP g.nodes (pick g.stand tags) a b) out))) w ?_) (by rintro _ w' ⟨B,m,d,e,rfl,hk⟩;exact⟨B,m,d,e,rfl,hk⟩)
 unfold Bg
 intro p2 w1 hN1 p3 w2 hN2
 have E2:Ext w w2:=(Ext.eY hN1).new hN2
 have c2:w2.cell? p2=some (iv a):=(Ext.eY hN2).cell (by simpa [add0] using hN1.cells rfl 0 _ rfl)
 have c3:w2.cell? p3=some (iv b):=by simpa [add0] using hN2.cells rfl 0 _ rfl
 have h2:=h.stay E2
 refine⟨a,c2,b,c3,(Uf h2 a b).mono ?_⟩
 rintro _ w3 ⟨_,rfl,r,rfl,hr,rfl⟩
 refine⟨_,rfl,r,rfl,fun hn=>⟨E2,.inl ⟨fun ht=> ?_,rfl,rfl⟩⟩,fun hn=>⟨a,c2,b,c3,?_⟩⟩
 ·rw[hr.2 ht] at hn;cases hn
 have ht:There g a b:=hr.1 (by cases r<;>simp at hn⊢)
 have va:Vn g.nodes.length a:=⟨ht.1,ht.2.2.1⟩
 have vb:Vn g.nodes.length b:=⟨ht.2.1,ht.2.2.2⟩
 have hsm:Sm g.stand.length:=by have:=wd.stand;unfold Sm;omega
 refine(aDm h2 (Ry hl hsm) ht).mono ?_
 rintro _ w4 ⟨_,rfl,at_,rfl,hF,E4⟩
 have hfi:=aDy hF
 refine⟨_,rfl,at_,rfl,fun hneg=>⟨E2.trans E4,.inr (.inl ⟨ht,fun q=> ?_,rfl,rfl⟩)⟩,fun hpos=> ?_⟩
 ·have:=hfi.2 ((aA5 hl va vb).2 q);omega
 have hr0:0<=at_:=by omega
 have hap:=(aA5 hl va vb).1 (hfi.1 hr0)
 rcases hF with⟨hm1,_⟩|⟨_,s,hs,hq,_⟩
 ·omega
 have hsm':=List.mem_of_getElem? hs
 obtain⟨vsa,vsb⟩:=hl.sem.val s hsm'
 have h4:=h2.stay E4
 obtain⟨q1,q2,a1,hA1,hc1⟩:=h4.said hr0 hs
 refine⟨_,_,_,q1,hr0,q2,a1,hA1,_,_,_,_,hc1,fun p4 w5 hN5=>⟨hN5.soft rfl,fun w6 hw6=> ?_⟩⟩
 have kp6:=iQ hw6
 have E46:Ext w4 w6:=(Ext.eY hN5).over kp6 (fun i hi hh=>by rw[hN5.block] at hh;omega)
 have c6:bG w6 p4 s.vals:=zF hw6 (by exact hN5.soft rfl)
 have s6:oH w6 p4 4:=aAb (by exact hN5.soft rfl) hw6
 have h6:=h4.stay E46
 have b5:=hN5.block
 have E36:Ext w3 w6:=E4.trans E46
 rw[add0]
 refine⟨s.a,c6 0 _ rfl,fd g s.a,fun w' hw'=>tC (h6.stay (Ext.aK hw')) vsa.1 (rZ (d:= -1) hl.inv.cls.lfirst vsa),a,E36.cell c2,fd g a,fun w' hw'=>tC (h6.stay (Ext.aK hw')) va.1 (rZ (d:= -1) hl.inv.cls.lfirst va),fun w7 hw7=> ?_⟩
 have D7:=Ext.aK hw7
 have c7:bG w7 p4 s.vals:=D7.cells c6
 have s7:oH w7 p4 4:=D7.soft s6 (fun h=>h)
 have E37:Ext w3 w7:=E36.trans D7
 have E7:Ext w w7:=E2.trans E37
 have fin:∀w8,Ext w w8->∀B d out w9,Ext w8 w9->Row w9 w8.heap.size T.int 1 B out.length d (out.map iv)->Bare (fun tags=>jP g.nodes (pick g.stand tags) a b) out->(Ext w w9/\((¬There g a b/\(0:Int)=80/\out.length=0)\/(There g a b/\¬jP g.nodes g.stand a b/\(0:Int)=91/\out.length=0)\/
   (There g a b/\jP g.nodes g.stand a b/\(0:Int)=0/\∃out',out.length=out'.length/\Row w9 w.heap.size T.int 1 B out'.length d (out'.map iv)/\Bare (fun tags=>jP g.nodes (pick g.stand tags) a b) out'))):=fun w8 E8 B d out w9 E9 R hb=>⟨E8.trans E9,.inr (.inr ⟨ht,hap,rfl,out,rfl,R.xE E8.size,hb⟩)⟩
 refine⟨fun hne=>⟨s.b,c7 1 _ rfl,s.a,c7 0 _ rfl,⟨_,c7 0 _ rfl⟩,(s7 0 (by decide)).2,fun w8 hw8=> ?_⟩,fun heq=> ?_⟩
 ·have s8:oH w8 p4 4:=Jp s7 hw8
  have k8:=jE hw8
  rw[<-add0 p4] at hw8
  have b40:w8.cell? (p4.add 0)=some (iv s.b):=by rw[hw8];exact World.cell?_setCell_same _ _ _ (c7 0 _ rfl)
  have ne:∀{i j:Nat},i≠j->p4.add i≠p4.add j:=fun hij q=>hij (Et q)
  have b41:w8.cell? (p4.add 1)=some (iv s.b):=by rw[hw8,World.cell?_setCell_other _ _ _ _ (ne (by omega))];exact c7 1 _ rfl
  have b42:w8.cell? (p4.add 2)=some (iv s.tag):=by rw[hw8,World.cell?_setCell_other _ _ _ _ (ne (by omega))];exact c7 2 _ rfl
  refine⟨⟨_,b41⟩,(s8 1 (by decide)).2,fun w9 hw9=> ?_⟩
  have k9:=jE hw9
  rw[Addr.add_block] at k9
  have bsz:w3.heap.size<=p4.block:=by rw[b5];exact E4.size
  have E39:Ext w3 w9:=(E37.over k8 (fun i hi hh=>by omega)).over k9 (fun i hi hh=>by omega)
  have d40:w9.cell? (p4.add 0)=some (iv s.b):=by rw[hw9,World.cell?_setCell_other _ _ _ _ (ne (by omega))];exact b40
  have d41:w9.cell? (p4.add 1)=some (iv s.a):=by rw[hw9];exact World.cell?_setCell_same _ _ _ b41
  have d42:w9.cell? (p4.add 2)=some (iv s.tag):=by rw[hw9,World.cell?_setCell_other _ _ _ _ (ne (by omega))];exact b42
  have hq2:fd g s.a=fd g b/\fd g s.b=fd g a:=hq.2.resolve_left fun q=>hne q.1
  refine aEj (h2.stay E39) hl wd va vb vsb vsa hq2.2 hq2.1 hsm' hq.1 (.inr ⟨rfl,rfl⟩) (E39.cell c2) (E39.cell c3) d40 d41 d42 ?_
  intro w' B d out E' R hb
  exact fin w9 (E2.trans E39) B d out w' E' R hb
 ·have heq':fd g s.a=fd g a:=Decidable.not_not.1 heq
  have hq2:fd g s.b=fd g b:=by
   rcases hq.2 with q|q
   ·exact q.2
   ·exact q.2.trans (heq'.symm.trans q.1)
  refine aEj (h2.stay E37) hl wd va vb vsa vsb heq' hq2 hsm' hq.1 (.inl ⟨rfl,rfl⟩) (E37.cell c2) (E37.cell c3) (c7 0 _ rfl) (c7 1 _ rfl) (c7 2 _ rfl) ?_
  intro w' B d out E' R hb
  exact fin w7 E7 B d out w' E' R hb
end
def Gi (p1:Addr) (K:Int->World->Prop) (w6:World):Prop:=
 ∃A5 n5 c5,w6.cell? (p1.add 1)=some (.slice A5 n5 c5)/\K (IntKind.wrap .i64 ((n5:Int)-1)) w6
def Nw (p1:Addr) (x1:Int) (x2:Int) (x3:Int) (x4:Int) (A1:Option Addr) (n1 c1:Nat) (K:Int->World->Prop) (w:World):Prop:=
 ∀(p2:Addr) (w1:World),New w (.cells #[iv x1,iv x2,iv x3,iv x4,.slice A1 n1 c1] T.iT) p2 w1->(∃A2 n2 c2,w1.cell? (p1.add 1)=some (.slice A2 n2 c2)/\∃x6,∃x7,∃x8,∃x9,∃A3 n3 c3,bG w1 p2 [iv x6,iv x7,iv x8,iv x9,.slice A3 n3 c3]/\∀w9,aO w1 w9->∀(p3:Addr) (w2:World),New w9 (.cells #[iv x6,iv x7,iv x8,iv x9,.slice A3 n3 c3] T.iT) p3 w2->(∀w8,aO w2 w8->∃(A4:Option Addr) (n4 c4:Nat) (w3:World),(Builtin.append_ #[T.kK,T.kK] T.kK #[.slice A2 n2 c2,.slice (some p3) 1 1]).run P w8= .ok (.slice A4 n4 c4) w3/\(∀w7,aO w3 w7->(∃u1,w7.cell? (p1.add 1)=some u1)/\w7.frozen? (p1.add 1)=false/\∀w4,w4=w7.setCell (p1.add 1) (.slice A4 n4 c4)->(∀w5,aO w4 w5->((Gi p1 K) w5)))))
theorem aDj (p1:Addr) (x1:Int) (x2:Int) (x3:Int) (x4:Int) (A1:Option Addr) (n1 c1:Nat) (K:Int->World->Prop) (w:World) (H:Nw p1 x1 x2 x3 x4 A1 n1 c1 K w):Calls P F.vI #[.pointer (some p1),.agg #[iv x1,iv x2,iv x3,iv x4,.slice A1 n1 c1]] w (cO fun v w'=>∃x5,v=(iv x5)/\K x5 w'):=by
 unfold Nw at H;refine bT (P:=P) Tryz.func88 rfl [(0,.pointer (some p1)),(1,.agg #[iv x1,iv x2,iv x3,iv x4,.slice A1 n1 c1])] 21 rfl rfl (aa rfl (aa rfl az)) (aG (aF (iP (f:=(fun p=> .pointer (some p))) rfl rfl (aI rfl) (fun a ha=>uM (ha.ev rfl) uO) ?_)));intro p2 w1 hN;replace H:=H _ _ hN;refine ag rfl (aH (nc (y2 0 3 rfl) ?_));refine fA (fun a w=>Ok 21 [(0,.pointer (some p1))] a/\Gi p1 K w) ?_ ?_
 ·rintro a w6 ⟨ha,H⟩;unfold Gi at H;refine cu ha ?_;refine aG (aF (mv rfl (nk rfl (fa rfl (TF.rE _ _) ?_))));obtain⟨A5,n5,c5,h7,H⟩:=H;exact ld rfl (aJ TF.lZ h7) (sv rfl rfl (xb rfl (fun _=>bW TF.lD)) (bo rfl rfl Pn (ag rfl (aH (nc (kp 4 rfl zz) (bK (aN (res1 rfl rfl) ⟨_,rfl,_,rfl,H⟩)))))))
 ·refine iM follows (fun _=>False) [0,1,2,3,4,5,8,9] [4] 11 rfl rfl (by kernel_rfl) (fun _ _ d _ _ h=>by cases d<;>exact h) (fun cm W D=> ?_);refine gZ 0 cm rfl rfl D W fun _ D W=>(gZ 1 cm rfl rfl D W fun _ D W=>(Gh 2 cm rfl rfl D W fun _ D W=>(lH 3 cm rfl rfl (TF.rE _ _) D W fun _ D W=> ?_)));obtain⟨A2,n2,c2,h2,H⟩:=H;refine vl 4 cm rfl rfl (fun hw=>(aJ TF.lZ (hw.cell ⟨h2,fun h=>h⟩))) D W fun _ D W=> ?_;obtain⟨x6,x7,x8,x9,A3,n3,c3,h3,H⟩:=H;refine Qg (E:=aO w1) (i:=5) cm (fun _ _=>aO.trans) rfl (by kernel_rfl) D rfl rfl (aI rfl) (fun w' hw a ha=>nT (ha.ev rfl) (gW (vs:=[iv x6,iv x7,iv x8,iv x9,.slice A3 n3 c3]) TF.Ey TF.dP (hw.cells h3))) rfl ?_;intro _ hd;replace D:=D.trans hd;replace W:=cm.held _ _ W hd;clear hd;refine ar 6 ?_;replace H:=H _ D;refine lS (f:=(fun p=> .slice (some p) 1 1)) rfl rfl rfl (aI rfl) (xl 1 1 (.cells #[iv x6,iv x7,iv x8,iv x9,.slice A3 n3 c3] T.iT) rfl) rfl true (by kernel_rfl) ?_;intro p3 w2 hN _ D;replace H:=H _ _ hN;replace W:=(W.new hN).drawn D;refine⟨fun _=>W,?_⟩;refine ar 7 ?_;obtain⟨A4,n4,c4,w3,h4,H⟩:=H _ D;refine Ap rfl rfl rfl (aI rfl) (xb rfl (fun _=>dY h4)) rfl false (by kernel_rfl) ?_;intro _ D;refine⟨fun h=>(by cases h),?_⟩;refine Ut 8 cm rfl rfl D fun _ D=>(Fb 9 cm rfl rfl (TF.rE _ _) D fun _ D=>(ar 10 ?_));obtain⟨⟨u1,h5⟩,h6,H⟩:=H _ D;refine mY rfl rfl (aI rfl) (xs rfl rfl (dM TF.Ez rfl rfl h5 h6)) rfl false (by kernel_rfl) ?_;intro w4 hw _ D;replace H:=H _ hw;clear hw;refine⟨fun h=>(by cases h),?_⟩;refine dJ (by kernel_rfl) D ?_;intro w5 D;replace H:=H _ D;clear D cm;exact bD fun a ha=>⟨ha.weaken cs,H⟩
def zV (K:Int->World->Prop) (x6:Int) (w6:World):Prop:=
 K x6 w6
def Gt (p1:Addr) (x1:Int) (K:Int->World->Prop) (w:World):Prop:=
 ∃A1 n1 c1,w.cell? (p1.add 1)=some (.slice A1 n1 c1)/\0<=x1/\x1<(n1:Int)/\∃a1,A1=some a1/\∃x3,w.cell? ((a1.add (x1.toNat*5)).add 2)=some (iv x3)/\∃A2 n2 c2,w.cell? (p1.add 1)=some (.slice A2 n2 c2)/\0<=x1/\x1<(n2:Int)/\∃a2,A2=some a2/\∃x4,w.cell? ((a2.add (x1.toNat*5)).add 1)=some (iv x4)/\∀w7,aO w w7->∀(p2:Addr) (w1:World),New w7 (.cells #[iv x1] T.int) p2 w1->(∀w3,aO w1 w3->Calls P F.vI #[.pointer (some p1),.agg #[iv 3,iv x3,iv x4,iv 0,.slice (some p2) 1 1]] w3 (cO fun v1 w2=>∃x5,v1=(iv x5)/\∀w5,aO w2 w5->((zV K) x5 w5)))
theorem aA8 (p1:Addr) (x1:Int) (K:Int->World->Prop) (w:World) (H:Gt p1 x1 K w):Calls P F.yT #[.pointer (some p1),iv x1] w (cO fun v w'=>∃x2,v=(iv x2)/\K x2 w'):=by
 unfold Gt at H;refine bT (P:=P) Tryz.func87 rfl [(0,.pointer (some p1)),(1,iv x1)] 26 rfl rfl (aa rfl (aa rfl az)) (aG (aF (ag rfl (aH (nc (y2 0 1 rfl) ?_)))));refine fA (fun a w=>∃x6,Ok 26 [(4,iv x6)] a/\zV K x6 w) ?_ ?_
 ·rintro a w6 ⟨x6,ha,H⟩;unfold zV at H;refine cu ha ?_;exact bK (aN (res1 rfl rfl) ⟨_,rfl,_,rfl,H⟩)
 ·refine iM follows (fun _=>False) [0,1,2,3,4,5,6,7,8,9,10,11,12,13,14,15,16,17,19,21] [4,8,12,16] 22 rfl rfl (by kernel_rfl) (fun _ _ d _ _ h=>by cases d<;>exact h) (fun cm W D=> ?_);refine gZ 0 cm rfl rfl D W fun _ D W=>(gZ 1 cm rfl rfl D W fun _ D W=>(Gh 2 cm rfl rfl D W fun _ D W=>(lH 3 cm rfl rfl (TF.rE _ _) D W fun _ D W=> ?_)));obtain⟨A1,n1,c1,h1,H⟩:=H;refine vl 4 cm rfl rfl (fun hw=>(aJ TF.lZ (hw.cell ⟨h1,fun h=>h⟩))) D W fun _ D W=>(gZ 5 cm rfl rfl D W fun _ D W=> ?_);obtain⟨h2,h3,a1,e1,H⟩:=H;refine Ie 6 cm rfl rfl rfl (aU TF.eX TF.dP e1 h2 h3) D W fun _ D W=>(lH 7 cm rfl rfl (TF.jI _ _) D W fun _ D W=> ?_);obtain⟨x3,h4,H⟩:=H;refine vl 8 cm rfl rfl (fun hw=>(aJ TF.aP (hw.cell ⟨h4,fun h=>h⟩))) D W fun _ D W=>(gZ 9 cm rfl rfl D W fun _ D W=>(Gh 10 cm rfl rfl D W fun _ D W=>(lH 11 cm rfl rfl (TF.rE _ _) D W fun _ D W=> ?_)));obtain⟨A2,n2,c2,h5,H⟩:=H;refine vl 12 cm rfl rfl (fun hw=>(aJ TF.lZ (hw.cell ⟨h5,fun h=>h⟩))) D W fun _ D W=>(gZ 13 cm rfl rfl D W fun _ D W=> ?_);obtain⟨h6,h7,a2,e2,H⟩:=H;refine Ie 14 cm rfl rfl rfl (aU TF.eX TF.dP e2 h6 h7) D W fun _ D W=>(lH 15 cm rfl rfl (TF.jH _ _) D W fun _ D W=> ?_);obtain⟨x4,h8,H⟩:=H;refine vl 16 cm rfl rfl (fun hw=>(aJ TF.aP (hw.cell ⟨h8,fun h=>h⟩))) D W fun _ D W=>(gZ 17 cm rfl rfl D W fun _ D W=>(ar 18 ?_));replace H:=H _ D;refine lS (f:=(fun p=> .slice (some p) 1 1)) rfl rfl rfl (aI rfl) (xl 1 1 (.cells #[iv x1] T.int) rfl) rfl true (by kernel_rfl) ?_;intro p2 w1 hN _ D;replace H:=H _ _ hN;replace W:=(W.new hN).drawn D;refine⟨fun _=>W,?_⟩;refine Qj 19 cm rfl rfl rfl (fun w'=>xp (.agg #[iv 3,iv x3,iv x4,iv 0,.slice (some p2) 1 1]) rfl) D fun _ D=>(ar 20 ?_);replace H:=H _ D;refine Vx rfl rfl rfl (aI rfl) (xc rfl rfl FF.qP) rfl false (by kernel_rfl) H ?_;rintro _ w2 ⟨x5,rfl,H⟩ _ D;refine⟨fun h=>(by cases h),?_⟩;refine Bo 21 cm rfl rfl D fun _ D=>(dJ (by kernel_rfl) D ?_);intro w5 D;replace H:=H _ D;clear D cm;exact bD fun a ha=>⟨x5,ha.weaken cs,H⟩
def Eh (k1:Nat) (I1:Nat->Option Addr->Nat->Nat->Int->World->Prop) (x9:Int) (A8:Option Addr) (n8 c8:Nat) (w12:World):Prop:=
 ∃k2,k2<k1/\I1 k2 A8 n8 c8 (IntKind.wrap .i64 (x9+1)) w12
def sQ (p1:Addr) (x1:Int) (K:Int->World->Prop) (x24:Int) (w19:World):Prop:=
 ∃m2:Option Nat,w19.cell? (p1.add 2)=some (.map m2)/\∃w20:World,(Instr.mapUpdate T.rC (.map m2) (iv x1) (iv x24)).run P w19= .ok () w20/\(K x24 w20)
def sN (p3:Addr) (x1:Int) (p1:Addr) (K:Int->World->Prop) (x17:Int) (w16:World):Prop:=
 ∃x22,w16.cell? (p3.add 2)=some (iv x22)/\(x22≠x1->(Calls P F.yT #[.pointer (some p1),iv x17] w16 (cO fun v4 w18=>∃x23,v4=(iv x23)/\(sQ p1 x1 K) x23 w18)))/\(¬(x22≠x1)->((sQ p1 x1 K) x17 w16))
def Jz (p1:Addr) (x1:Int) (K:Int->World->Prop) (w:World):Prop:=
 ∃m1:Option Nat,w.cell? (p1.add 2)=some (.map m1)/\∃x3,∃b1,(Instr.lookup T.rC (.map m1) (iv x1) true).run P w= .ok (.tuple #[iv x3,.bool b1]) w/\(b1=true->(K x3 w))/\(b1=false->(∃q1,w.cell? (p1.add 0)=some (.pointer q1)/\∃p2,q1=some p2/\∃A1 n1 c1,w.cell? (p2.add 7)=some (.slice A1 n1 c1)/\0<=x1/\x1<(n1:Int)/\∃a1,A1=some a1/\∃x4,∃b2,∃x5,∃x6,∃x7,bG w (a1.add (x1.toNat*5)) [iv x4,.bool b2,iv x5,iv x6,iv x7]/\∀(p3:Addr) (w1:World),New w (.cells #[iv 0,.bool false,iv 0,iv 0,iv 0] T.jG) p3 w1->(oH w1 p3 5/\∀w2,w2=cZ w1 p3 [iv x4,.bool b2,iv x5,iv x6,iv x7]->(∃b3,w2.cell? (p3.add 1)=some (.bool b3)/\(b3=true->(∀(p4:Addr) (w3:World),New w2 (.cells #[] T.int) p4 w3->(∃q2,w3.cell? (p1.add 0)=some (.pointer q2)/\∃p5,q2=some p5/\∃A2 n2 c2,w3.cell? (p5.add 4)=some (.slice A2 n2 c2)/\∃x8,w3.cell? (p3.add 2)=some (iv x8)/\0<=x8/\x8<(n2:Int)/\∃a2,A2=some a2/\∃A3 n3 c3,w3.cell? ((a2.add (x8.toNat*2)).add 1)=some (.slice A3 n3 c3)/\∀w4,aO w3 w4->(∃I1:Nat->Option Addr->Nat->Nat->Int->World->Prop,(∃k1,I1 k1 (some p4) 0 0 0 w4)/\∀k1 (A4:Option Addr) (n4 c4:Nat) (x9:Int) (w5:World),I1 k1 A4 n4 c4 x9 w5->((x9<(n3:Int)->(0<=x9/\x9<(n3:Int)/\∃a3,A3=some a3/\∃x10,w5.cell? (a3.add (x9.toNat*1))=some (iv x10)/\∃q3,w5.cell? (p1.add 0)=some (.pointer q3)/\∃p6,q3=some p6/\∃A5 n5 c5,w5.cell? (p6.add 4)=some (.slice A5 n5 c5)/\∃x11,w5.cell? (p3.add 3)=some (iv x11)/\0<=x11/\x11<(n5:Int)/\∃a4,A5=some a4/\∃A6 n6 c6,w5.cell? ((a4.add (x11.toNat*2)).add 1)=some (.slice A6 n6 c6)/\0<=x9/\x9<(n6:Int)/\∃a5,A6=some a5/\∃x12,w5.cell? (a5.add (x9.toNat*1))=some (iv x12)/\∀w7,aO w5 w7->Calls P F.Ed #[.pointer (some p1),iv x10,iv x12] w7 (cO fun v1 w6=>∃x13,v1=(iv x13)/\∀w14,aO w6 w14->∀(p7:Addr) (w9:World),New w14 (.cells #[iv x13] T.int) p7 w9->(∀w13,aO w9 w13->∃(A7:Option Addr) (n7 c7:Nat) (w10:World),(Builtin.append_ #[T.bH,T.bH] T.bH #[.slice A4 n4 c4,.slice (some p7) 1 1]).run P w13= .ok (.slice A7 n7 c7) w10/\(∀w11,aO w10 w11->((Eh k1 I1 x9) A7 n7 c7 w11))))))/\(¬(x9<(n3:Int))->(∃x14,w5.cell? (p3.add 2)=some (iv x14)/\∃x15,w5.cell? (p3.add 3)=some (iv x15)/\Calls P F.vI #[.pointer (some p1),.agg #[iv 5,iv x14,iv x15,iv 0,.slice A4 n4 c4]] w5 (cO fun v2 w15=>∃x16,v2=(iv x16)/\(sN p3 x1 p1 K) x16 w15))))))))/\(b3=false->(∃x18,w2.cell? (p3.add 2)=some (iv x18)/\∃x19,w2.cell? (p3.add 3)=some (iv x19)/\∃x20,w2.cell? (p3.add 4)=some (iv x20)/\Calls P F.vI #[.pointer (some p1),.agg #[iv 1,iv x18,iv x19,iv x20,.slice none 0 0]] w2 (cO fun v3 w17=>∃x21,v3=(iv x21)/\(sN p3 x1 p1 K) x21 w17)))))))
theorem aCy (p1:Addr) (x1:Int) (K:Int->World->Prop) (w:World) (H:Jz p1 x1 K w):Calls P F.Dp #[.pointer (some p1),iv x1] w (cO fun v w'=>∃x2,v=(iv x2)/\K x2 w'):=by
 unfold Jz at H;refine bT (P:=P) Tryz.func86 rfl [(0,.pointer (some p1)),(1,iv x1)] 107 rfl rfl (aa rfl (aa rfl az)) (aG (aF (ag rfl (aH (nc (y2 0 1 rfl) (aG (aG (aF (mv rfl (nk rfl (fa rfl (TF.Yw _ _) ?_)))))))))));obtain⟨m1,h1,H⟩:=H;refine ld rfl (aJ TF.Yt h1) (mv rfl ?_);obtain⟨x3,b1,h2,H⟩:=H;refine sv rfl rfl (fun a ha=>aF4 (ha.ev rfl) (ha.ev rfl) h2) (mv rfl (sv rfl rfl (xe rfl rfl) (sv rfl rfl (xe rfl rfl) (ag rfl (ag rfl (aH (nc (y4 0 1 5 6 rfl) (aG (aF (mv rfl (aH (nc (y4 0 1 5 21 rfl) ?_))))))))))));refine eG rfl (fun hb=> ?_) (fun hb=> ?_)
 ·replace H:=H.1 hb;exact aG (aF (mv rfl (ag rfl (aH (nc (kp 4 rfl zz) (bK (aQ (aN (res1 rfl rfl) ⟨_,rfl,_,rfl,H⟩))))))))
 ·replace H:=H.2 hb;refine aX (nc (y2 0 1 rfl) (aG (aF (mv rfl (nk rfl (fa rfl (TF.Hy _ _) ?_))))));obtain⟨q1,h3,H⟩:=H;refine ld rfl (aJ TF.jU h3) ?_;obtain⟨p2,e1,H⟩:=H;refine sv rfl rfl (fun a ha=>dH ((ha.ev rfl).trans (by rw[e1]))) (fa rfl (TF.jX _ _) ?_);obtain⟨A1,n1,c1,h4,H⟩:=H;refine ld rfl (aJ TF.jW h4) (mv rfl ?_);obtain⟨h5,h6,a1,e2,H⟩:=H;refine ix rfl rfl (aU TF.iD TF.dQ e2 h5 h6) ?_;obtain⟨x4,b2,x5,x6,x7,h7,H⟩:=H;refine ld rfl (gW (vs:=[iv x4,.bool b2,iv x5,iv x6,iv x7]) TF.uY TF.dQ h7) (iP (f:=(fun p=> .pointer (some p))) rfl rfl (aI rfl) (fun a ha=>mV (nC TF.Oo)) ?_);intro p3 w1 hN;obtain⟨h9,H⟩:=H _ _ hN;refine oO rfl (aI rfl) (xs rfl rfl (kN TF.dQ (by simp[Value.oneCell']) h9)) ?_;intro w2 hw;replace H:=H _ hw;clear hw;refine aH (nc (y3 0 1 7 rfl) (aG (aF (ag rfl (aH (nc (y3 0 1 7 rfl) ?_))))));refine fA (fun a w=>∃x17,Ok 107 [(0,.pointer (some p1)),(1,iv x1),(7,.pointer (some p3)),(8,iv x17)] a/\sN p3 x1 p1 K x17 w) ?_ ?_
  ·rintro a w16 ⟨x17,ha,H⟩;unfold sN at H;refine cu ha ?_;refine fA (fun a w=>∃x24,Ok 107 [(0,.pointer (some p1)),(1,iv x1),(8,iv x24)] a/\sQ p1 x1 K x24 w) ?_ ?_
   ·rintro a w19 ⟨x24,ha,H⟩;unfold sQ at H;refine cu ha ?_;refine aG (aF (mv rfl (nk rfl (fa rfl (TF.Yw _ _) ?_))));obtain⟨m2,h38,H⟩:=H;refine ld rfl (aJ TF.Yt h38) (mv rfl (mv rfl ?_));obtain⟨w20,h39,H⟩:=H;exact aL7 rfl (aI rfl) (fun a ha=>aAh (ha.ev rfl) (ha.ev rfl) (ha.ev rfl) h39) (aH (nc (kp 8 rfl zz) (aG (aF (mv rfl (ag rfl (aH (nc (kp 4 rfl zz) (bK (aN (res1 rfl rfl) ⟨_,rfl,_,rfl,H⟩))))))))))
   ·refine aG (aF (fa rfl (TF.yV _ _) ?_));obtain⟨x22,h37,H⟩:=H;refine ld rfl (aJ TF.aP h37) (mv rfl (bo rfl rfl qR (aH (nc (y4 0 1 8 96 rfl) ?_))));refine bC rfl (fun hb=> ?_) (fun hb=> ?_)
    ·replace H:=H.1 hb;refine aF (mv rfl (mv rfl (sc rfl rfl FF.Fh H ?_)));rintro _ w18 ⟨x23,rfl,H⟩;exact ag rfl (aH (bD fun a ha=>⟨x23,ha.weaken cs,H⟩))
    ·replace H:=H.2 hb;exact aX (bD fun a ha=>⟨x17,ha.weaken cs,H⟩)
  ·refine aG (aF (fa rfl (TF.aAd _ _) ?_));obtain⟨b3,h10,H⟩:=H;refine ld rfl (aJ TF.Ah h10) (aH (nc (y4 0 1 7 34 rfl) ?_));refine eG rfl (fun hb=> ?_) (fun hb=> ?_)
   ·replace H:=H.1 hb;refine aG (aF (sz rfl rfl (xl 0 0 (.cells #[] T.int) rfl) ?_));intro p4 w3 hN;replace H:=H _ _ hN;refine ag rfl (aH (nc (y4 0 1 7 9 rfl) (aG (aG ?_))));refine bU follows [0,1,2,3,4,5,6,7,8,9,10,11,12,13] [3,6,8,11] 14 rfl rfl (by kernel_rfl) (fun _ _ d _ _ h=>by cases d<;>exact h) (fun cm W D=> ?_);refine gZ 0 cm rfl rfl D W fun _ D W=>(Gh 1 cm rfl rfl D W fun _ D W=>(lH 2 cm rfl rfl (TF.Hy _ _) D W fun _ D W=> ?_));obtain⟨q2,h11,H⟩:=H;refine vl 3 cm rfl rfl (fun hw=>(aJ TF.jU ((hw.cell _).trans h11))) D W fun _ D W=> ?_;obtain⟨p5,e3,H⟩:=H;refine pv 4 cm rfl rfl rfl (fun w' a ha=>dH ((ha.ev rfl).trans (by rw[e3]))) D W fun _ D W=>(lH 5 cm rfl rfl (TF.jB _ _) D W fun _ D W=> ?_);obtain⟨A2,n2,c2,h12,H⟩:=H;refine vl 6 cm rfl rfl (fun hw=>(aJ TF.fD ((hw.cell _).trans h12))) D W fun _ D W=>(lH 7 cm rfl rfl (TF.yV _ _) D W fun _ D W=> ?_);obtain⟨x8,h13,H⟩:=H;refine vl 8 cm rfl rfl (fun hw=>(aJ TF.aP ((hw.cell _).trans h13))) D W fun _ D W=> ?_;obtain⟨h14,h15,a2,e4,H⟩:=H;refine Ie 9 cm rfl rfl rfl (aU TF.dN TF.bY e4 h14 h15) D W fun _ D W=>(lH 10 cm rfl rfl (TF.fF _ _) D W fun _ D W=> ?_);obtain⟨A3,n3,c3,h16,H⟩:=H;refine vl 11 cm rfl rfl (fun hw=>(aJ TF.bM ((hw.cell _).trans h16))) D W fun _ D W=>(Qj 12 cm rfl rfl rfl (fun w' a ha=>kQ (ha.evs rfl) (fun _=>bW TF.bP)) D fun _ D=>(aBv 13 cm rfl rfl D fun _ D=>(dJ (by kernel_rfl) D ?_)));intro w4 D;replace H:=H _ D;clear D cm;refine nc (y7 0 1 7 9 47 48 49 rfl) (aY ?_);obtain⟨I1,⟨k1,hi⟩,H⟩:=H;refine fK (fun k1 a w'=>∃A4 n4 c4,∃x9,Ok 107 [(0,.pointer (some p1)),(1,iv x1),(7,.pointer (some p3)),(9,.slice A4 n4 c4),(47,.slice A3 n3 c3),(48,iv (n3:Int)),(49,iv x9)] a/\I1 k1 A4 n4 c4 x9 w') (fun a ha=>⟨k1,some p4,0,0,0,ha.weaken cs,hi⟩) ?_;rintro k1 a w5 ⟨A4,n4,c4,x9,ha,hI⟩;replace H:=H k1 A4 n4 c4 x9 w5 hI;refine cu ha ?_;refine aG (aF (bo rfl rfl iY (aH (nc (y8 0 1 7 9 47 48 49 50 rfl) (aG ?_)))));refine bC rfl (fun hb=> ?_) (fun hb=> ?_)
    ·replace H:=H.1 hb;refine aX (nc (y7 0 1 7 9 47 48 49 rfl) ?_);refine fA (fun a w=>∃A8 n8 c8,Ok 107 [(0,.pointer (some p1)),(1,iv x1),(7,.pointer (some p3)),(9,.slice A8 n8 c8),(47,.slice A3 n3 c3),(48,iv (n3:Int)),(49,iv x9)] a/\Eh k1 I1 x9 A8 n8 c8 w) ?_ ?_
     ·rintro a w12 ⟨A8,n8,c8,ha,H⟩;unfold Eh at H;refine cu ha ?_;refine aF (bo rfl rfl kC (mv rfl (aH ?_)));obtain⟨k2,hk,H⟩:=H;exact bD fun a ha=>⟨k2,hk,A8,n8,c8,IntKind.wrap .i64 (x9+1),ha.weaken cs,H⟩
     ·refine aY (aG (aF (mv rfl ?_)));obtain⟨h17,h18,a3,e5,H⟩:=H;refine ix rfl rfl (aU TF.aV TF.size_int e5 h17 h18) ?_;obtain⟨x10,h19,H⟩:=H;refine ld rfl (aJ TF.aP h19) (ag rfl (ag rfl (aH (nc (y9 0 1 7 9 10 11 47 48 49 rfl) ?_))));refine bU follows [0,1,2,3,4,5,6,7,8,9,10,11,12,13,14,15,16,17,21] [6,9,11,14,17] 22 rfl rfl (by kernel_rfl) (fun _ _ d _ _ h=>by cases d<;>exact h) (fun cm W D=> ?_);refine gZ 0 cm rfl rfl D W fun _ D W=>(gZ 1 cm rfl rfl D W fun _ D W=>(gZ 2 cm rfl rfl D W fun _ D W=>(gZ 3 cm rfl rfl D W fun _ D W=>(Gh 4 cm rfl rfl D W fun _ D W=>(lH 5 cm rfl rfl (TF.Hy _ _) D W fun _ D W=> ?_)))));obtain⟨q3,h20,H⟩:=H;refine vl 6 cm rfl rfl (fun hw=>(aJ TF.jU ((hw.cell _).trans h20))) D W fun _ D W=> ?_;obtain⟨p6,e6,H⟩:=H;refine pv 7 cm rfl rfl rfl (fun w' a ha=>dH ((ha.ev rfl).trans (by rw[e6]))) D W fun _ D W=>(lH 8 cm rfl rfl (TF.jB _ _) D W fun _ D W=> ?_);obtain⟨A5,n5,c5,h21,H⟩:=H;refine vl 9 cm rfl rfl (fun hw=>(aJ TF.fD ((hw.cell _).trans h21))) D W fun _ D W=>(lH 10 cm rfl rfl (TF.Eb _ _) D W fun _ D W=> ?_);obtain⟨x11,h22,H⟩:=H;refine vl 11 cm rfl rfl (fun hw=>(aJ TF.aP ((hw.cell _).trans h22))) D W fun _ D W=> ?_;obtain⟨h23,h24,a4,e7,H⟩:=H;refine Ie 12 cm rfl rfl rfl (aU TF.dN TF.bY e7 h23 h24) D W fun _ D W=>(lH 13 cm rfl rfl (TF.fF _ _) D W fun _ D W=> ?_);obtain⟨A6,n6,c6,h25,H⟩:=H;refine vl 14 cm rfl rfl (fun hw=>(aJ TF.bM ((hw.cell _).trans h25))) D W fun _ D W=>(gZ 15 cm rfl rfl D W fun _ D W=> ?_);obtain⟨h26,h27,a5,e8,H⟩:=H;refine Ie 16 cm rfl rfl rfl (aU TF.aV TF.size_int e8 h26 h27) D W fun _ D W=> ?_;obtain⟨x12,h28,H⟩:=H;refine vl 17 cm rfl rfl (fun hw=>(aJ TF.aP ((hw.cell _).trans h28))) D W fun _ D W=>(ar 18 ?_);replace H:=H _ D;refine Vx rfl rfl rfl (aI rfl) (xc rfl rfl FF.Jc) rfl false (by kernel_rfl) H ?_;rintro _ w6 ⟨x13,rfl,H⟩ _ D;refine⟨fun h=>(by cases h),?_⟩;refine ar 19 ?_;replace H:=H _ D;refine lS (f:=(fun p=> .slice (some p) 1 1)) rfl rfl rfl (aI rfl) (xl 1 1 (.cells #[iv x13] T.int) rfl) rfl false (by kernel_rfl) ?_;intro p7 w9 hN _ D;replace H:=H _ _ hN;refine⟨fun h=>(by cases h),?_⟩;refine ar 20 ?_;obtain⟨A7,n7,c7,w10,h31,H⟩:=H _ D;refine Ap rfl rfl rfl (aI rfl) (xb rfl (fun _=>dY h31)) rfl false (by kernel_rfl) ?_;intro _ D;refine⟨fun h=>(by cases h),?_⟩;refine Bo 21 cm rfl rfl D fun _ D=>(dJ (by kernel_rfl) D ?_);intro w11 D;replace H:=H _ D;clear D cm;exact bZ (bD fun a ha=>⟨A7,n7,c7,ha.weaken cs,H⟩)
    ·replace H:=H.2 hb;refine eU (aT (aT (bQ (nc (y4 0 1 7 9 rfl) (aF (mv rfl (fa rfl (TF.yV _ _) ?_)))))));obtain⟨x14,h32,H⟩:=H;refine ld rfl (aJ TF.aP h32) (fa rfl (TF.Eb _ _) ?_);obtain⟨x15,h33,H⟩:=H;refine ld rfl (aJ TF.aP h33) (mv rfl (sv rfl rfl (xp (.agg #[iv 5,iv x14,iv x15,iv 0,.slice A4 n4 c4]) rfl) (sc rfl rfl FF.qP H ?_)));rintro _ w15 ⟨x16,rfl,H⟩;exact ag rfl (aH (bD fun a ha=>⟨x16,ha.weaken cs,H⟩))
   ·replace H:=H.2 hb;refine aF (mv rfl (fa rfl (TF.yV _ _) ?_));obtain⟨x18,h34,H⟩:=H;refine ld rfl (aJ TF.aP h34) (fa rfl (TF.Eb _ _) ?_);obtain⟨x19,h35,H⟩:=H;refine ld rfl (aJ TF.aP h35) (fa rfl (TF.Zn _ _) ?_);obtain⟨x20,h36,H⟩:=H;refine ld rfl (aJ TF.aP h36) (sv rfl rfl (xp (.agg #[iv 1,iv x18,iv x19,iv x20,.slice none 0 0]) rfl) (sc rfl rfl FF.qP H ?_));rintro _ w17 ⟨x21,rfl,H⟩;exact ag rfl (aH (bD fun a ha=>⟨x21,ha.weaken cs,H⟩))
def Ei (k5:Nat) (I3:Nat->Int->Int->World->Prop) (x14:Int) (x19:Int) (w18:World):Prop:=
 ∃k6,k6<k5/\I3 k6 x19 (IntKind.wrap .i64 (x14+1)) w18
def Mc (p1:Addr) (x1:Int) (x2:Int) (K:Int->World->Prop) (w:World):Prop:=
 ∃q1,w.cell? (p1.add 0)=some (.pointer q1)/\Calls P F.xY #[.pointer q1,iv x1,iv x2] w (cO fun v1 w1=>∃A1 n1 c1,∃A2 n2 c2,v1=(.tuple #[.slice A1 n1 c1,.slice A2 n2 c2])/\∃I1:Nat->Option Addr->Nat->Nat->Int->World->Prop,(∃k1,I1 k1 none 0 0 0 w1)/\∀k1 (A3:Option Addr) (n3 c3:Nat) (x4:Int) (w2:World),I1 k1 A3 n3 c3 x4 w2->((x4<(n1:Int)->(0<=x4/\x4<(n1:Int)/\∃a1,A1=some a1/\∃x5,w2.cell? (a1.add (x4.toNat*1))=some (iv x5)/\Calls P F.Dp #[.pointer (some p1),iv x5] w2 (cO fun v2 w3=>∃x6,v2=(iv x6)/\∀(p2:Addr) (w4:World),New w3 (.cells #[iv x6] T.int) p2 w4->(∃(A4:Option Addr) (n4 c4:Nat) (w5:World),(Builtin.append_ #[T.bH,T.bH] T.bH #[.slice A3 n3 c3,.slice (some p2) 1 1]).run P w4= .ok (.slice A4 n4 c4) w5/\(∃k2,k2<k1/\I1 k2 A4 n4 c4 (IntKind.wrap .i64 (x4+1)) w5)))))/\(¬(x4<(n1:Int))->(∃I2:Nat->Option Addr->Nat->Nat->Int->World->Prop,(∃k3,I2 k3 A3 n3 c3 0 w2)/\∀k3 (A5:Option Addr) (n5 c5:Nat) (x7:Int) (w6:World),I2 k3 A5 n5 c5 x7 w6->((x7<(n2:Int)->(0<=IntKind.wrap .i64 ((IntKind.wrap .i64 ((n2:Int)-1))-x7)/\IntKind.wrap .i64 ((IntKind.wrap .i64 ((n2:Int)-1))-x7)<(n2:Int)/\∃a2,A2=some a2/\∃x8,w6.cell? (a2.add ((IntKind.wrap .i64 ((IntKind.wrap .i64 ((n2:Int)-1))-x7)).toNat*1))=some (iv x8)/\Calls P F.Dp #[.pointer (some p1),iv x8] w6 (cO fun v3 w7=>∃x9,v3=(iv x9)/\Calls P F.yT #[.pointer (some p1),iv x9] w7 (cO fun v4 w8=>∃x10,v4=(iv x10)/\∀(p3:Addr) (w9:World),New w8 (.cells #[iv x10] T.int) p3 w9->(∃(A6:Option Addr) (n6 c6:Nat) (w10:World),(Builtin.append_ #[T.bH,T.bH] T.bH #[.slice A5 n5 c5,.slice (some p3) 1 1]).run P w9= .ok (.slice A6 n6 c6) w10/\(∃k4,k4<k3/\I2 k4 A6 n6 c6 (IntKind.wrap .i64 (x7+1)) w10))))))/\(¬(x7<(n2:Int))->(((n5:Int)=0->(Calls P F.vI #[.pointer (some p1),.agg #[iv 2,iv x1,iv x2,iv 0,.slice none 0 0]] w6 (cO fun v5 w11=>∃x11,v5=(iv x11)/\K x11 w11)))/\(¬((n5:Int)=0)->(0<=(0:Int)/\(0:Int)<(n5:Int)/\∃a3,A5=some a3/\∃x12,w6.cell? (a3.add ((0:Int).toNat*1))=some (iv x12)/\0<=(1:Int)/\(1:Int)<=(n5:Int)/\∃I3:Nat->Int->Int->World->Prop,(∃k5,I3 k5 x12 0 w6)/\∀k5 (x13:Int) (x14:Int) (w12:World),I3 k5 x13 x14 w12->((x14<((n5-(1:Int).toNat:Nat):Int)->(0<=x14/\x14<((n5-(1:Int).toNat:Nat):Int)/\∃a4,Jl A5 c5 ((1:Int).toNat) 1=some a4/\∃x15,w12.cell? (a4.add (x14.toNat*1))=some (iv x15)/\∃A7 n7 c7,w12.cell? (p1.add 1)=some (.slice A7 n7 c7)/\0<=x13/\x13<(n7:Int)/\∃a5,A7=some a5/\∃x16,w12.cell? ((a5.add (x13.toNat*5)).add 1)=some (iv x16)/\∃A8 n8 c8,w12.cell? (p1.add 1)=some (.slice A8 n8 c8)/\0<=x15/\x15<(n8:Int)/\∃a6,A8=some a6/\∃x17,w12.cell? ((a6.add (x15.toNat*5)).add 2)=some (iv x17)/\∀w19,aO w12 w19->∀(p4:Addr) (w13:World),New w19 (.cells #[iv x13,iv x15] T.int) p4 w13->(∀w15,aO w13 w15->Calls P F.vI #[.pointer (some p1),.agg #[iv 4,iv x16,iv x17,iv 0,.slice (some p4) 2 2]] w15 (cO fun v6 w14=>∃x18,v6=(iv x18)/\∀w17,aO w14 w17->((Ei k5 I3 x14) x18 w17)))))/\(¬(x14<((n5-(1:Int).toNat:Nat):Int))->(K x13 w12))))))))))))
theorem aCl (p1:Addr) (x1:Int) (x2:Int) (K:Int->World->Prop) (w:World) (H:Mc p1 x1 x2 K w):Calls P F.Ed #[.pointer (some p1),iv x1,iv x2] w (cO fun v w'=>∃x3,v=(iv x3)/\K x3 w'):=by
 unfold Mc at H;refine bT (P:=P) Tryz.func70 rfl [(0,.pointer (some p1)),(1,iv x1),(2,iv x2)] 102 rfl rfl (aa rfl (aa rfl (aa rfl az))) (aG (aF (ag rfl (aH (nc (y3 0 1 2 rfl) (aG (aF (mv rfl (nk rfl (fa rfl (TF.Hy _ _) ?_))))))))));obtain⟨q1,h1,H⟩:=H;refine ld rfl (aJ TF.jU h1) (mv rfl (mv rfl (sc rfl rfl FF.Dw H ?_)));rintro _ w1 ⟨A1,n1,c1,A2,n2,c2,rfl,H⟩;refine mv rfl (sv rfl rfl (xe rfl rfl) (sv rfl rfl (xe rfl rfl) (ag rfl (ag rfl (aH (nc (y5 0 1 2 7 8 rfl) (aG (aF (ag rfl (aH (nc (y6 0 1 2 7 8 9 rfl) (aG (aG (aF (mv rfl (sv rfl rfl (xb rfl (fun _=>bW TF.bP)) (mv rfl (aH (nc (y8 0 1 2 8 9 26 27 28 rfl) (aY ?_))))))))))))))))))));obtain⟨I1,⟨k1,hi⟩,H⟩:=H;refine fK (fun k1 a w'=>∃A3 n3 c3,∃x4,Ok 102 [(0,.pointer (some p1)),(1,iv x1),(2,iv x2),(8,.slice A2 n2 c2),(9,.slice A3 n3 c3),(26,.slice A1 n1 c1),(27,iv (n1:Int)),(28,iv x4)] a/\I1 k1 A3 n3 c3 x4 w') (fun a ha=>⟨k1,none,0,0,0,ha.weaken cs,hi⟩) ?_;rintro k1 a w2 ⟨A3,n3,c3,x4,ha,hI⟩;replace H:=H k1 A3 n3 c3 x4 w2 hI;refine cu ha ?_;refine aG (aF (bo rfl rfl iY (aH (nc (y9 0 1 2 8 9 26 27 28 29 rfl) (aG ?_)))));refine bC rfl (fun hb=> ?_) (fun hb=> ?_)
 ·replace H:=H.1 hb;refine aX (nc (y8 0 1 2 8 9 26 27 28 rfl) (aG (aY (aG (aF ?_)))));obtain⟨h2,h3,a1,e1,H⟩:=H;refine ix rfl rfl (aU TF.aV TF.size_int e1 h2 h3) ?_;obtain⟨x5,h4,H⟩:=H;refine ld rfl (aJ TF.aP h4) (ag rfl (aH (nc (y9 0 1 2 8 9 11 26 27 28 rfl) (aF (mv rfl (mv rfl (mv rfl (sc rfl rfl FF.Ja H ?_))))))));rintro _ w3 ⟨x6,rfl,H⟩;refine sz rfl rfl (xl 1 1 (.cells #[iv x6] T.int) rfl) ?_;intro p2 w4 hN;obtain⟨A4,n4,c4,w5,h5,H⟩:=H _ _ hN;refine sv rfl rfl (xb rfl (fun _=>dY h5)) (ag rfl (aH (bZ (nc (y8 0 1 2 8 9 26 27 28 rfl) (aF (bo rfl rfl kC (mv rfl (aH ?_))))))));obtain⟨k2,hk,H⟩:=H;exact bD fun a ha=>⟨k2,hk,A4,n4,c4,IntKind.wrap .i64 (x4+1),ha.weaken cs,H⟩
 ·replace H:=H.2 hb;refine eU (aT (aT (bQ (nc (y5 0 1 2 8 9 rfl) (aG (aG (aF (mv rfl (sv rfl rfl (xb rfl (fun _=>bW TF.bP)) (mv rfl (aH (nc (y7 0 1 2 8 9 40 41 rfl) (aY ?_)))))))))))));obtain⟨I2,⟨k3,hi⟩,H⟩:=H;refine fK (fun k3 a w'=>∃A5 n5 c5,∃x7,Ok 102 [(0,.pointer (some p1)),(1,iv x1),(2,iv x2),(8,.slice A2 n2 c2),(9,.slice A5 n5 c5),(40,iv (n2:Int)),(41,iv x7)] a/\I2 k3 A5 n5 c5 x7 w') (fun a ha=>⟨k3,A3,n3,c3,0,ha.weaken cs,hi⟩) ?_;rintro k3 a w6 ⟨A5,n5,c5,x7,ha,hI⟩;replace H:=H k3 A5 n5 c5 x7 w6 hI;refine cu ha ?_;refine aG (aF (bo rfl rfl iY (aH (nc (y8 0 1 2 8 9 40 41 42 rfl) (aG ?_)))));refine bC rfl (fun hb=> ?_) (fun hb=> ?_)
  ·replace H:=H.1 hb;refine aX (nc (y7 0 1 2 8 9 40 41 rfl) (aG (aY (aG (aF (mv rfl (ag rfl (aH (nc (y8 0 1 2 8 9 12 40 41 rfl) (aF (mv rfl (mv rfl (mv rfl (mv rfl (mv rfl (sv rfl rfl (xb rfl (fun _=>bW TF.bP)) (bo rfl rfl Pn (mv rfl (bo rfl rfl Pn ?_)))))))))))))))))));obtain⟨h6,h7,a2,e2,H⟩:=H;refine ix rfl rfl (aU TF.aV TF.size_int e2 h6 h7) ?_;obtain⟨x8,h8,H⟩:=H;refine ld rfl (aJ TF.aP h8) (sc rfl rfl FF.Ja H ?_);rintro _ w7 ⟨x9,rfl,H⟩;refine sc rfl rfl FF.Fh H ?_;rintro _ w8 ⟨x10,rfl,H⟩;refine sz rfl rfl (xl 1 1 (.cells #[iv x10] T.int) rfl) ?_;intro p3 w9 hN;obtain⟨A6,n6,c6,w10,h9,H⟩:=H _ _ hN;refine sv rfl rfl (xb rfl (fun _=>dY h9)) (ag rfl (aH (bZ (nc (y7 0 1 2 8 9 40 41 rfl) (aF (bo rfl rfl kC (mv rfl (aH ?_))))))));obtain⟨k4,hk,H⟩:=H;exact bD fun a ha=>⟨k4,hk,A6,n6,c6,IntKind.wrap .i64 (x7+1),ha.weaken cs,H⟩
  ·replace H:=H.2 hb;refine eU (aT (aT (bQ (nc (y4 0 1 2 9 rfl) (aG (aG (aF (mv rfl (sv rfl rfl (xb rfl (fun _=>bW TF.bP)) (bo rfl rfl iR (aH (nc (y5 0 1 2 9 62 rfl) ?_))))))))))));refine bC rfl (fun hb=> ?_) (fun hb=> ?_)
   ·replace H:=H.1 hb;refine aG (aF (mv rfl (mv rfl (mv rfl (sv rfl rfl (xp (.agg #[iv 2,iv x1,iv x2,iv 0,.slice none 0 0]) rfl) (sc rfl rfl FF.qP H ?_))))));rintro _ w11 ⟨x11,rfl,H⟩;exact ag rfl (aH (nc (kp 6 rfl zz) (bK (aQ (aN (res1 rfl rfl) ⟨_,rfl,_,rfl,H⟩)))))
   ·replace H:=H.2 hb;refine aX (nc (y2 0 9 rfl) (aG (aF (mv rfl ?_))));obtain⟨h10,h11,a3,e3,H⟩:=H;refine ix rfl rfl (aU TF.aV TF.size_int e3 h10 h11) ?_;obtain⟨x12,h12,H⟩:=H;refine ld rfl (aJ TF.aP h12) (ag rfl (aH (nc (y3 0 9 13 rfl) (aG (aG (aF (mv rfl ?_)))))));obtain⟨h13,h14,H⟩:=H;refine sv rfl rfl (fun a ha=>Ad (ha.ev rfl) (yP (ha.ev rfl)) rfl rfl (aG3 TF.aV TF.size_int h13 h14)) (sv rfl rfl (xb rfl (fun _=>bW TF.bP)) (mv rfl (aH (nc (y5 0 13 72 73 74 rfl) (aY ?_)))));obtain⟨I3,⟨k5,hi⟩,H⟩:=H;refine fK (fun k5 a w'=>∃x13,∃x14,Ok 102 [(0,.pointer (some p1)),(13,iv x13),(72,(.slice (Jl A5 c5 ((1:Int).toNat) 1) (n5-(1:Int).toNat) (c5-(1:Int).toNat))),(73,(iv ((n5-(1:Int).toNat:Nat):Int))),(74,iv x14)] a/\I3 k5 x13 x14 w') (fun a ha=>⟨k5,x12,0,ha.weaken cs,hi⟩) ?_;rintro k5 a w12 ⟨x13,x14,ha,hI⟩;replace H:=H k5 x13 x14 w12 hI;refine cu ha ?_;refine aG (aF (bo rfl rfl iY (aH (nc (y6 0 13 72 73 74 75 rfl) (aG ?_)))));refine bC rfl (fun hb=> ?_) (fun hb=> ?_)
    ·replace H:=H.1 hb;refine aX (nc (y5 0 13 72 73 74 rfl) ?_);refine fA (fun a w=>∃x19,Ok 102 [(0,.pointer (some p1)),(13,iv x19),(72,(.slice (Jl A5 c5 ((1:Int).toNat) 1) (n5-(1:Int).toNat) (c5-(1:Int).toNat))),(73,(iv ((n5-(1:Int).toNat:Nat):Int))),(74,iv x14)] a/\Ei k5 I3 x14 x19 w) ?_ ?_
     ·rintro a w18 ⟨x19,ha,H⟩;unfold Ei at H;refine cu ha ?_;refine aF (bo rfl rfl kC (mv rfl (aH ?_)));obtain⟨k6,hk,H⟩:=H;exact bD fun a ha=>⟨k6,hk,x19,IntKind.wrap .i64 (x14+1),ha.weaken cs,H⟩
     ·refine aY (aG (aF ?_));obtain⟨h17,h18,a4,e4,H⟩:=H;refine ix rfl rfl (aU TF.aV TF.size_int e4 h17 h18) ?_;obtain⟨x15,h19,H⟩:=H;refine ld rfl (aJ TF.aP h19) (ag rfl (aH (nc (y6 0 13 15 72 73 74 rfl) ?_)));refine iM follows (fun _=>False) [0,1,2,3,4,5,6,7,8,9,10,11,12,13,14,15,16,17,18,20,22] [4,8,12,16] 23 rfl rfl (by kernel_rfl) (fun _ _ d _ _ h=>by cases d<;>exact h) (fun cm W D=> ?_);refine gZ 0 cm rfl rfl D W fun _ D W=>(gZ 1 cm rfl rfl D W fun _ D W=>(Gh 2 cm rfl rfl D W fun _ D W=>(lH 3 cm rfl rfl (TF.rE _ _) D W fun _ D W=> ?_)));obtain⟨A7,n7,c7,h20,H⟩:=H;refine vl 4 cm rfl rfl (fun hw=>(aJ TF.lZ (hw.cell ⟨h20,fun h=>h⟩))) D W fun _ D W=>(gZ 5 cm rfl rfl D W fun _ D W=> ?_);obtain⟨h21,h22,a5,e5,H⟩:=H;refine Ie 6 cm rfl rfl rfl (aU TF.eX TF.dP e5 h21 h22) D W fun _ D W=>(lH 7 cm rfl rfl (TF.jH _ _) D W fun _ D W=> ?_);obtain⟨x16,h23,H⟩:=H;refine vl 8 cm rfl rfl (fun hw=>(aJ TF.aP (hw.cell ⟨h23,fun h=>h⟩))) D W fun _ D W=>(gZ 9 cm rfl rfl D W fun _ D W=>(Gh 10 cm rfl rfl D W fun _ D W=>(lH 11 cm rfl rfl (TF.rE _ _) D W fun _ D W=> ?_)));obtain⟨A8,n8,c8,h24,H⟩:=H;refine vl 12 cm rfl rfl (fun hw=>(aJ TF.lZ (hw.cell ⟨h24,fun h=>h⟩))) D W fun _ D W=>(gZ 13 cm rfl rfl D W fun _ D W=> ?_);obtain⟨h25,h26,a6,e6,H⟩:=H;refine Ie 14 cm rfl rfl rfl (aU TF.eX TF.dP e6 h25 h26) D W fun _ D W=>(lH 15 cm rfl rfl (TF.jI _ _) D W fun _ D W=> ?_);obtain⟨x17,h27,H⟩:=H;refine vl 16 cm rfl rfl (fun hw=>(aJ TF.aP (hw.cell ⟨h27,fun h=>h⟩))) D W fun _ D W=>(gZ 17 cm rfl rfl D W fun _ D W=>(gZ 18 cm rfl rfl D W fun _ D W=>(ar 19 ?_)));replace H:=H _ D;refine lS (f:=(fun p=> .slice (some p) 2 2)) rfl rfl rfl (aI rfl) (xl 2 2 (.cells #[iv x13,iv x15] T.int) rfl) rfl true (by kernel_rfl) ?_;intro p4 w13 hN _ D;replace H:=H _ _ hN;replace W:=(W.new hN).drawn D;refine⟨fun _=>W,?_⟩;refine Qj 20 cm rfl rfl rfl (fun w'=>xp (.agg #[iv 4,iv x16,iv x17,iv 0,.slice (some p4) 2 2]) rfl) D fun _ D=>(ar 21 ?_);replace H:=H _ D;refine Vx rfl rfl rfl (aI rfl) (xc rfl rfl FF.qP) rfl false (by kernel_rfl) H ?_;rintro _ w14 ⟨x18,rfl,H⟩ _ D;refine⟨fun h=>(by cases h),?_⟩;refine Bo 22 cm rfl rfl D fun _ D=>(dJ (by kernel_rfl) D ?_);intro w17 D;replace H:=H _ D;clear D cm;exact bZ (bD fun a ha=>⟨x18,ha.weaken cs,H⟩)
    ·replace H:=H.2 hb;exact eU (aT (aT (bQ (nc (kp 13 rfl zz) (aG (aF (mv rfl (ag rfl (aH (nc (kp 6 rfl zz) (bK (aN (res1 rfl rfl) ⟨_,rfl,_,rfl,H⟩))))))))))))
def Io (p1:Addr) (x1:Int) (x2:Int) (K:Option Addr->Nat->Nat->Int->World->Prop) (w:World):Prop:=
 Calls P F.lX #[.pointer (some p1),iv x1,iv x2] w (cO fun v1 w1=>∃b1,v1=(.bool b1)/\((!b1)=true->(K none 0 0 80 w1))/\((!b1)=false->(∃x4,(∀w',aO w1 w'->Calls P F.bV #[.pointer (some (p1.add 0)),iv x1] w' fun x w''=>x= .returned (iv x4)/\aO w' w'')/\∃x5,(∀w',aO w1 w'->Calls P F.bV #[.pointer (some (p1.add 0)),iv x2] w' fun x w''=>x= .returned (iv x5)/\aO w' w'')/\∀w2,aO w1 w2->((x4≠x5->(K none 0 0 82 w2))/\(¬(x4≠x5)->(∀(m1:Nat) (w3:World),aAe w2 m1 w3->(∀(p2:Addr) (w4:World),New w3 (.cells #[.pointer (some p1),.slice none 0 0,.map (some m1)] T.aAw) p2 w4->(Calls P F.Ed #[.pointer (some p2),iv x1,iv x2] w4 (cO fun v2 w5=>∃x6,v2=(iv x6)/\∃A2 n2 c2,w5.cell? (p2.add 1)=some (.slice A2 n2 c2)/\0<=IntKind.wrap .i64 (x6+1)/\IntKind.wrap .i64 (x6+1)<=(c2:Int)/\K A2 ((IntKind.wrap .i64 (x6+1)).toNat) c2 0 w5)))))))))
theorem aBx (p1:Addr) (x1:Int) (x2:Int) (K:Option Addr->Nat->Nat->Int->World->Prop) (w:World) (H:Io p1 x1 x2 K w):Calls P F.Am #[.pointer (some p1),iv x1,iv x2] w (cO fun v w'=>∃A1 n1 c1,∃x3,v=(.tuple #[.slice A1 n1 c1,iv x3])/\K A1 n1 c1 x3 w'):=by
 unfold Io at H;refine bT (P:=P) Tryz.func51 rfl [(0,.pointer (some p1)),(1,iv x1),(2,iv x2)] 41 rfl rfl (aa rfl (aa rfl (aa rfl az))) (aG (aF (ag rfl (ag rfl (aH (nc (y3 0 1 2 rfl) (aG (aG (aF (mv rfl (mv rfl (mv rfl (sc rfl rfl FF.jL H ?_)))))))))))));rintro _ w1 ⟨b1,rfl,H⟩;refine sv rfl rfl (xu rfl sK) (aH (nc (y4 0 1 2 14 rfl) ?_));refine eG rfl (fun hb=> ?_) (fun hb=> ?_)
 ·replace H:=H.1 hb;exact aG (aF (ag rfl (ag rfl (aH (nc (y2 6 7 rfl) (bK (aQ (aN (Jk rfl rfl rfl) ⟨_,rfl,_,_,_,_,rfl,H⟩))))))))
 ·replace H:=H.2 hb;refine aX (nc (y3 0 1 2 rfl) (aG (aG ?_)));refine bU follows [0,1,2,3,4,5,6,7,8,9,10] [4,9] 11 rfl rfl (by kernel_rfl) (fun _ _ d _ _ h=>by cases d<;>exact h) (fun cm W D=> ?_);refine gZ 0 cm rfl rfl D W fun _ D W=>(Gh 1 cm rfl rfl D W fun _ D W=>(lH 2 cm rfl rfl (TF.bI _ _) D W fun _ D W=>(gZ 3 cm rfl rfl D W fun _ D W=> ?_)));obtain⟨x4,h1,H⟩:=H;refine Ql (i:=4) cm rfl (by kernel_rfl) W rfl rfl (aI rfl) (fun w' hw a ha=>nD (ha.ev rfl) (ha.evs rfl) FF.bJ) h1 rfl ?_;intro _ hd W;replace D:=D.trans hd;clear hd;refine gZ 5 cm rfl rfl D W fun _ D W=>(Gh 6 cm rfl rfl D W fun _ D W=>(lH 7 cm rfl rfl (TF.bI _ _) D W fun _ D W=>(gZ 8 cm rfl rfl D W fun _ D W=> ?_)));obtain⟨x5,h2,H⟩:=H;refine Ql (i:=9) cm rfl (by kernel_rfl) W rfl rfl (aI rfl) (fun w' hw a ha=>nD (ha.ev rfl) (ha.evs rfl) FF.bJ) h2 rfl ?_;intro _ hd W;replace D:=D.trans hd;clear hd;refine Qj 10 cm rfl rfl rfl (fun w' a ha=>fZ (ha.ev rfl) (ha.ev rfl) qR) D fun _ D=>(dJ (by kernel_rfl) D ?_);intro w2 D;replace H:=H _ D;clear D cm;refine nc (y4 0 1 2 25 rfl) ?_;refine bC rfl (fun hb=> ?_) (fun hb=> ?_)
  ·replace H:=H.1 hb;exact aG (aF (ag rfl (ag rfl (aH (nc (y2 6 7 rfl) (bK (aQ (aN (Jk rfl rfl rfl) ⟨_,rfl,_,_,_,_,rfl,H⟩))))))))
  ·replace H:=H.2 hb;refine aX (nc (y3 0 1 2 rfl) (aG (aF (mv rfl (aE0 rfl rfl (aI rfl) (fun a ha=>Ew Fa) ?_)))));intro m1 w3 hN;replace H:=H _ _ hN;refine sv rfl rfl (xp (.agg #[.pointer (some p1),.slice none 0 0,.map (some m1)]) rfl) (iP (f:=(fun p=> .pointer (some p))) rfl rfl (aI rfl) (fun a ha=>uM (ha.ev rfl) uO) ?_);intro p2 w4 hN;replace H:=H _ _ hN;refine ag rfl (aH (nc (y3 1 2 8 rfl) (aG (aF (mv rfl (mv rfl (mv rfl (sc rfl rfl FF.Jc H ?_))))))));rintro _ w5 ⟨x6,rfl,H⟩;refine ag rfl (aH (nc (y2 8 9 rfl) (aG (aF (mv rfl (nk rfl (fa rfl (TF.rE _ _) ?_)))))));obtain⟨A2,n2,c2,h4,H⟩:=H;refine ld rfl (aJ TF.lZ h4) (mv rfl (bo rfl rfl kC ?_));obtain⟨h5,h6,H⟩:=H;exact sv rfl rfl (fun a ha=>Ad (ha.ev rfl) rfl (yP (ha.ev rfl)) rfl (xI TF.eX TF.dP h5 h6)) (ag rfl (ag rfl (aH (nc (y2 6 7 rfl) (bK (aN (Jk rfl rfl rfl) ⟨_,rfl,_,_,_,_,rfl,H⟩))))))
def PX (pp:Addr) (m1:Nat) (AL:Option Addr) (b:Nat):Prop:=b=pp.block\/b=m1\/At AL b
structure PS (X:Nat->Prop) (Bp:Nat) (w:World) (p pp:Addr) (m1:Nat) (AL:Option Addr) (nL cL:Nat) (lv:List Value) (ls:List Dk) (of:List (Int×Int)):Prop where
 c0:w.cell? (pp.add 0)=some (.pointer (some p))
 c1:w.cell? (pp.add 1)=some (.slice AL nL cL)
 f1:w.frozen? (pp.add 1)=false
 c2:w.cell? (pp.add 2)=some (.map (some m1))
 row:Row w Bp T.iT 5 AL nL cL lv
 sl:St (fun b=>PX pp m1 AL b\/X b) w fun w=>Yi Ef w lv ls
 mp:rQ (Value.int .i64) iv w m1 of
 sep1:¬At AL pp.block
 sep2:¬At AL m1
 sep3:pp.block≠m1
 ppB:Bp<=pp.block
 mB:Bp<=m1
 ppl:pp.block<w.heap.size
 xlo:∀b,X b->b<w.heap.size
 xno:∀b,X b->¬PX pp m1 AL b
section
variable {X:Nat->Prop} {Bp:Nat} {w w':World} {p pp:Addr} {m1:Nat} {AL:Option Addr} {nL cL:Nat} {lv:List Value} {ls:List Dk} {of:List (Int×Int)}
theorem PS.ext (h:PS X Bp w p pp m1 AL nL cL lv ls of) (k:Ext w w'):PS X Bp w' p pp m1 AL nL cL lv ls of:=
 ⟨k.cell h.c0,k.cell h.c1,(World.frozen?_of_block (k.block _ (by rw[Addr.add_block];exact h.ppl) (fun h=>h))).trans h.f1,k.cell h.c2,h.row.keep k (fun _ _ h=>h),h.sl.iI (dU.iL k),h.mp.keep k (fun h=>h),h.sep1,h.sep2,h.sep3,h.ppB,h.mB,Nat.lt_of_lt_of_le h.ppl k.size,fun b hb=>Nat.lt_of_lt_of_le (h.xlo b hb) k.size,h.xno⟩
theorem PS.len (h:PS X Bp w p pp m1 AL nL cL lv ls of):ls.length=nL:=by
 have h1:=h.row.1
 have h2:lv.length=ls.length*5:=h.sl.now.1
 omega
theorem PS.lo (h:PS X Bp w p pp m1 AL nL cL lv ls of):∀b,PX pp m1 AL b->Bp<=b/\b<w.heap.size:=by
 rintro b (rfl|rfl|hb)
 ·exact⟨h.ppB,h.ppl⟩
 ·exact⟨h.mB,h.mp.lt⟩
 ·exact h.row.at hb
theorem PS.link (h:PS X Bp w p pp m1 AL nL cL lv ls of) {i:Nat} {x:Dk} (hx:ls[i]? =some x):i<nL/\∃a C k d,AL=some a/\bG w (a.add (i*5)) [iv x.kind,iv x.a,iv x.b,iv x.tag,.slice C k d]:=by
 have hl:=h.len
 have hi:=(List.getElem?_eq_some_iff.1 hx).1
 obtain⟨a,us,hA,hu,_,hcell,_⟩:=h.row.elem (i:=(i:Int)) (by omega) (by omega) (by decide)
 rw[Int.toNat_natCast] at hu hcell
 obtain⟨C,k,d,e,_,_⟩:=h.sl.now.2 i x hx
 rw[show(Ef.size:Nat)=5 from rfl,<-hu] at e
 subst e
 exact⟨by omega,a,C,k,d,hA,hcell⟩
theorem aP3:wP P T.iT=some (5,56,5):=by kernel_rfl
theorem aPp:iV P T.kK=some T.iT:=by kernel_rfl
theorem aFe {x:Dk} {K:Option Addr} {kn kc:Nat} (h:PS X Bp w p pp m1 AL nL cL lv ls of) (hB:Bp<=w.heap.size) (hk:St (fun b=>PX pp m1 AL b\/X b) w fun w=>Ints w K kn x.kids) (hkn:Sm kn) (hn:ls.length+1<=1099511627776):
  Calls P F.vI #[.pointer (some pp),.agg #[iv x.kind,iv x.a,iv x.b,iv x.tag,.slice K kn kc]] w (cO fun v w'=>v= iv (ls.length:Int)/\∃AL' nL' cL' lv',PS X Bp w' p pp m1 AL' nL' cL' lv' (ls++[x]) of/\dU (PX pp m1 AL) w (PX pp m1 AL') w'):=by
 refine cO.mono (aDj pp x.kind x.a x.b x.tag K kn kc (fun r w'=>r=(ls.length:Int)/\∃AL' nL' cL' lv',PS X Bp w' p pp m1 AL' nL' cL' lv' (ls++[x]) of/\dU (PX pp m1 AL) w (PX pp m1 AL') w') w ?_) (by rintro _ w' ⟨r,rfl,rfl,hk⟩;exact⟨rfl,hk⟩)
 have hl:=h.len
 unfold Nw
 intro p2 w1 hN1
 have E1:=Ext.eY hN1
 have h1:=h.ext E1
 refine⟨AL,nL,cL,h1.c1,_,_,_,_,_,_,_,hN1.cells rfl,fun w9 hw9 p3 w2 hN2 w8 hw8=> ?_⟩
 have E8:Ext w w8:=((E1.drawn hw9).new hN2).drawn hw8
 have h8:=h.ext E8
 obtain⟨A',c',w3,hr,hR,hK,hA'⟩:=h8.row.append (P:=P) (t:=T.kK) (ty:=T.kK) (m:=1) (c2:=1) aPp aP3 (by decide) (news:=[iv x.kind,iv x.a,iv x.b,iv x.tag,.slice K kn kc]) rfl ((Ext.aK hw8).cells (hN2.cells rfl)) (by intro u hu;simp at hu;rcases hu with rfl|rfl|rfl|rfl|rfl<;>rfl) (by omega) (by omega) (Nat.le_trans hB E8.size)
 refine⟨A',_,c',w3,hr,fun w7 hw7=> ?_⟩
 have sz8:=E8.size
 have noP:¬At AL (pp.add 1).block:=by rw[Addr.add_block];exact h.sep1
 have k3:∀o v,w8.cell? (pp.add o)=some v->w7.cell? (pp.add o)=some v:=fun o v hv=>(hw7.cell _).trans (hK.cell ⟨hv,by rw[Addr.add_block];exact h.sep1⟩)
 have fr7:w7.frozen? (pp.add 1)=false:=(hw7.frozen _).trans ((World.frozen?_of_block (hK.block _ (by rw[Addr.add_block];exact h8.ppl) noP)).trans h8.f1)
 refine⟨⟨_,k3 1 _ h8.c1⟩,fr7,fun w4 hw4 w5 hw5=> ?_⟩
 have kh:=jE hw4
 rw[Addr.add_block] at kh
 have gone:∀b,At A' b->b<w8.heap.size->At AL b:=fun b hb hlt=>(hA' b hb).resolve_right (by omega)
 --the way from w8 to w5
 have K85:Keep (PX pp m1 AL) w8 w5:=((hK.mono fun i _ hi=> .inr (.inr hi)).trans (Keep.aK hw7)).trans ((kh.mono fun i _ hi=> .inl hi).trans (Keep.aK hw5))
 have iI:dU (PX pp m1 AL) w (PX pp m1 A') w5:=by
  refine⟨(E8.mono fun _ _ h=>h.elim).trans K85,fun i hi hh=> ?_⟩
  rcases hh with hh|hh|hh
  ·exact .inl hh
  ·exact .inr (.inl hh)
  ·exact .inr (.inr (gone i hh (by omega)))
 have sep1':¬At A' pp.block:=fun hh=>h.sep1 (gone _ hh h8.ppl)
 have sep2':¬At A' m1:=fun hh=>h.sep2 (gone _ hh h8.mp.lt)
 have R5:Row w5 Bp T.iT 5 A' (nL+1) c' (lv++[iv x.kind,iv x.a,iv x.b,iv x.tag,.slice K kn kc]):=(((hR.keep (Keep.aK (X:=fun _=>False) hw7) (fun _ _ h=>h)).keep kh (fun b hb hh=>sep1' (by rw[<-hh];exact hb))).keep (Keep.aK (X:=fun _=>False) hw5) (fun _ _ h=>h))
 have ne1:∀{o},o≠1->pp.add 1≠pp.add o:=fun ho q=>ho (Et q).symm
 have cell5:∀o v,o≠1->w8.cell? (pp.add o)=some v->w5.cell? (pp.add o)=some v:=fun o v ho hv=>(hw5.cell _).trans (by rw[hw4,World.cell?_setCell_other _ _ _ _ (ne1 ho)];exact k3 o v hv)
 refine⟨A',nL+1,c',(hw5.cell _).trans (by rw[hw4];exact World.cell?_setCell_same _ _ _ (k3 1 _ h8.c1)),by rw[wrap_small (by omega) (by omega)];omega,A',nL+1,c',_,⟨cell5 0 _ (by omega) h8.c0,(hw5.cell _).trans (by rw[hw4];exact World.cell?_setCell_same _ _ _ (k3 1 _ h8.c1)),(hw5.frozen _).trans (by rw[hw4,World.frozen?_setCell];exact fr7),cell5 2 _ (by omega) h8.c2,R5,?_,?_,sep1',sep2',h.sep3,h.ppB,h.mB,Nat.lt_of_lt_of_le h.ppl iI.keep.size,fun b hb=>Nat.lt_of_lt_of_le (h.xlo b hb) iI.keep.size,fun b hb hh=>h.xno b hb (iI.grow b (h.xlo b hb) hh)⟩,iI⟩
 ·intro w6 hw6
  have Kall:Keep (fun b=>PX pp m1 AL b\/X b) w w6:=(iI.keep.mono fun i _ hi=> .inl hi).over hw6 fun i hi hh=>hh.elim (fun hh=> .inl (iI.grow i hi hh)) .inr
  exact(h.sl w6 Kall).snoc rfl ⟨K,kn,kc,rfl,hkn,hk w6 Kall⟩
 ·refine(((h8.mp.keep hK (fun hh=>h.sep2 hh)).keep (Keep.aK (X:=fun _=>False) hw7) (fun h=>h)).keep kh (fun hh=>h.sep3 hh.symm)).keep (Keep.aK (X:=fun _=>False) hw5) (fun h=>h)
theorem aKz {H:Nat->Prop} {q:Addr} {l:List Int} {n:Nat} (hc:bG w q (l.map iv)) (hn:n=l.length) (hH:¬H q.block):St H w fun w=>Ints w (some q) n l:=by
 intro w' hw'
 have hc':=hw'.own hc hH
 refine⟨hn.symm,fun i x hx=>⟨q,[iv x],rfl,rfl,fun j v hj=> ?_,rfl⟩⟩
 cases j with
 |zero=>
  simp at hj
  subst hj
  rw[Addr.add_add]
  have:=hc' i (iv x) (by rw[List.getElem?_map,hx];rfl)
  simpa [aEq] using this
 |succ j=>simp at hj
theorem aHi {k:Nat} {x:Dk} (h:PS X Bp w p pp m1 AL nL cL lv ls of) (hB:Bp<=w.heap.size) (hx:ls[k]? =some x) (hn:ls.length+1<=1099511627776):
  Calls P F.yT #[.pointer (some pp),iv (k:Int)] w (cO fun v w'=>v= iv (ls.length:Int)/\∃AL' nL' cL' lv',PS X Bp w' p pp m1 AL' nL' cL' lv' (ls++[⟨3,x.b,x.a,0,[(k:Int)]⟩]) of/\dU (PX pp m1 AL) w (PX pp m1 AL') w'):=by
 refine cO.mono (aA8 pp (k:Int) (fun r w'=>r=(ls.length:Int)/\∃AL' nL' cL' lv',PS X Bp w' p pp m1 AL' nL' cL' lv' (ls++[⟨3,x.b,x.a,0,[(k:Int)]⟩]) of/\dU (PX pp m1 AL) w (PX pp m1 AL') w') w ?_) (by rintro _ w' ⟨r,rfl,rfl,hk⟩;exact⟨rfl,hk⟩)
 obtain⟨hlt,a,C,kn,d,hA,hc⟩:=h.link hx
 unfold Gt
 rw[Int.toNat_natCast]
 refine⟨AL,nL,cL,h.c1,by omega,by omega,a,hA,x.b,hc 2 _ rfl,AL,nL,cL,h.c1,by omega,by omega,a,hA,x.a,hc 1 _ rfl,fun w7 hw7 p2 w1 hN1 w3 hw3=> ?_⟩
 have E3:Ext w w3:=((Ext.aK hw7).new hN1).drawn hw3
 have h3:=h.ext E3
 have hst:St (fun b=>PX pp m1 AL b\/X b) w3 fun w=>Ints w (some p2) 1 [(k:Int)]:=aKz ((Ext.aK hw3).cells (hN1.cells rfl)) rfl (fun hh=>by
  have:p2.block<w.heap.size:=hh.elim (fun hh=>(h.lo _ hh).2) (h.xlo _)
  rw[hN1.block] at this
  have:=(Ext.aK hw7).size
  omega)
 refine(aFe (x:=⟨3,x.b,x.a,0,[(k:Int)]⟩) (kc:=1) h3 (Nat.le_trans hB E3.size) hst (by unfold Sm;omega) hn).mono ?_
 rintro _ w2 ⟨_,rfl,rfl,AL',nL',cL',lv',h2,adv2⟩
 exact⟨_,rfl,_,rfl,fun w5 hw5=>⟨rfl,AL',nL',cL',lv',h2.ext (Ext.aK hw5),(dU.iL E3).trans (adv2.trans (dU.aK hw5))⟩⟩
end
def LAt (ls:List Dk) (k x y:Int):Prop:=0<=k/\∃q,ls[k.toNat]? =some q/\q.a=x/\q.b=y
structure Qn (ns:List Flat) (st:List dK) (ls:List Dk) (i:Nat) (l:Dk):Prop where
 va:Vn ns.length l.a
 vb:Vn ns.length l.b
 kids:∀k∈l.kids,0<=k/\k<i
 rule:(l.kind=1/\l.kids=[]/\∃s∈st,s.not=false/\s.a=l.a/\s.b=l.b/\s.tag=l.tag)\/(l.kind=2/\l.tag=0/\l.kids=[]/\l.a=l.b)\/(l.kind=3/\l.tag=0/\∃k,l.kids=[k]/\LAt ls k l.b l.a)\/
  (l.kind=4/\l.tag=0/\∃k m x,l.kids=[k,m]/\LAt ls k l.a x/\LAt ls m x l.b)\/
  (l.kind=5/\l.tag=0/\0<=(fG ns l.a).fn/\(fG ns l.a).fn=(fG ns l.b).fn/\(fG ns l.a).args.length=(fG ns l.b).args.length/\l.kids.length=(fG ns l.a).args.length/\∀(j:Nat) k x y,l.kids[j]? =some k->(fG ns l.a).args[j]? =some x->(fG ns l.b).args[j]? =some y->LAt ls k x y)
theorem LAt.app {ls:List Dk} {k x y:Int} (h:LAt ls k x y) (m:List Dk):LAt (ls++m) k x y:=by
 obtain⟨h0,q,h1,h2⟩:=h
 exact⟨h0,q,by rw[List.getElem?_append_left (List.getElem?_eq_some_iff.1 h1).1];exact h1,h2⟩
theorem LAt.last (ls:List Dk) (l:Dk):LAt (ls++[l]) (ls.length:Int) l.a l.b:=⟨by omega,l,by simp,rfl,rfl⟩
theorem LAt.lt {ls:List Dk} {k x y:Int} (h:LAt ls k x y):0<=k/\k<ls.length:=by
 obtain⟨h0,q,h1,h2⟩:=h
 have:=(List.getElem?_eq_some_iff.1 h1).1
 exact⟨h0,by omega⟩
theorem Qn.app {ns:List Flat} {st:List dK} {ls:List Dk} {i:Nat} {l:Dk} (h:Qn ns st ls i l) (m:List Dk):Qn ns st (ls++m) i l:=by
 refine⟨h.va,h.vb,h.kids,?_⟩
 rcases h.rule with r|r|⟨r1,r2,k,r3,r4⟩|⟨r1,r2,k,q,x,r3,r4,r5⟩|⟨r1,r2,r3,r4,r5,r6,r7⟩
 ·exact .inl r
 ·exact .inr (.inl r)
 ·exact .inr (.inr (.inl ⟨r1,r2,k,r3,r4.app m⟩))
 ·exact .inr (.inr (.inr (.inl ⟨r1,r2,k,q,x,r3,r4.app m,r5.app m⟩)))
 ·exact .inr (.inr (.inr (.inr ⟨r1,r2,r3,r4,r5,r6,fun j k x y a b c=>(r7 j k x y a b c).app m⟩)))
def aEd (ns:List Flat) (st:List dK) (ls:List Dk):Prop:=∀(i:Nat) l,ls[i]? =some l->Qn ns st ls i l
theorem aEd.add {ns:List Flat} {st:List dK} {ls:List Dk} (h:aEd ns st ls) {l:Dk} (hl:Qn ns st ls ls.length l):aEd ns st (ls++[l]):=by
 intro i x hx
 rcases Nat.lt_or_ge i ls.length with q|q
 ·rw[List.getElem?_append_left q] at hx
  exact(h i x hx).app _
 ·rw[List.getElem?_append_right q] at hx
  have:i=ls.length:=by
   have:=(List.getElem?_eq_some_iff.1 hx).1
   simp at this
   omega
  subst this
  simp at hx
  subst hx
  exact hl.app _
def Pz (g:GS):Nat:=3*g.nodes.length+2
def Qd (g:GS) (n:Nat):Nat:=2+Pz g*(fG g.nodes (n:Int)).args.length
def InJ (g:GS) (us:List Edge) (J:Nat) (n:Int):Prop:=∃j,j<J/\At_ g.why us n j
open Classical in
noncomputable def aA9 (g:GS) (us:List Edge) (J:Nat) (of:List (Int×Int)) (i:Nat):Nat:=if (fQ of (i:Int)).isSome=true\/¬InJ g us J (i:Int) then 0 else Qd g i
noncomputable def phi (g:GS) (us:List Edge) (J:Nat) (of:List (Int×Int)):Nat:=((List.range g.nodes.length).map (aA9 g us J of)).sum
theorem Iu {g:GS} {us:List Edge} {J:Nat} {of:List (Int×Int)} {i:Nat} (h:(fQ of (i:Int)).isSome=true):aA9 g us J of i=0:=by unfold aA9;rw[if_pos (.inl h)]
theorem aGf {g:GS} {us:List Edge} {J:Nat} {of:List (Int×Int)} {i:Nat} (h:¬InJ g us J (i:Int)):aA9 g us J of i=0:=by unfold aA9;rw[if_pos (.inr h)]
theorem aDh {g:GS} {us:List Edge} {J:Nat} {of:List (Int×Int)} {i:Nat} (h:fQ of (i:Int)=none) (hJ:InJ g us J (i:Int)):aA9 g us J of i=Qd g i:=by unfold aA9;rw[if_neg (by rw[h];simp[hJ])]
theorem aP2 {g:GS} {us:List Edge} {J:Nat} {of:List (Int×Int)} {i:Nat}:aA9 g us J of i<=Qd g i:=by unfold aA9;split<;>omega
theorem aId (g:GS) {us:List Edge} {J:Nat} {of:List (Int×Int)} {n k:Int} (hn:Vn g.nodes.length n) (h0:fQ of n=none) (hJ:InJ g us J n):phi g us J (Dj of n k)+Qd g n.toNat=phi g us J of:=by
 have n0:=hn.1
 have n1:=hn.2
 have:=Rw (aA9 g us J of) (aA9 g us J (Dj of n k)) n.toNat (List.range g.nodes.length) List.nodup_range (List.mem_range.2 (by omega)) (fun x _ hx=>by
  unfold aA9
  rw[tX,if_neg (show¬n=(x:Int) by omega)])
 rw[aDh (by rw[toNat_cast n0];exact h0) (by rw[toNat_cast n0];exact hJ),Iu (by rw[toNat_cast n0,tX,if_pos rfl];rfl)] at this
 exact this
theorem aOf (g:GS) {us:List Edge} {J:Nat} {of:List (Int×Int)} {n:Int} (hn:Vn g.nodes.length n) (h0:fQ of n=none) (hJ:InJ g us J n):Qd g n.toNat<=phi g us J of:=by
 have:=aId g (k:=0) hn h0 hJ
 omega
theorem aGn (f f' h h':Nat->Nat):∀l:List Nat,(∀x∈l,f' x+h x=f x+h' x)->(l.map f').sum+(l.map h).sum=(l.map f).sum+(l.map h').sum
 |[],_=>rfl
 |x::l,k=>by
  have h1:=k x (by simp)
  have h2:=aGn f f' h h' l fun y hy=>k y (List.mem_cons_of_mem _ hy)
  simp only[List.map_cons,List.sum_cons]
  omega
theorem aLx {g:GS} {us:List Edge} {j J:Nat} {of of':List (Int×Int)} (hj:j<=J) (hm:∀n,(fQ of n).isSome=true->(fQ of' n).isSome=true) (hk:∀n,(fQ of' n).isSome=true->(fQ of n).isSome=true\/InJ g us j n):phi g us J of'+phi g us j of=phi g us J of+phi g us j of':=by
 refine aGn _ _ _ _ _ fun x _=> ?_
 have up:InJ g us j (x:Int)->InJ g us J (x:Int):=fun⟨i,h1,h2⟩=>⟨i,by omega,h2⟩
 cases h1:fQ of (x:Int) with
 |some v=>
  have a1:(fQ of (x:Int)).isSome=true:=by rw[h1];rfl
  have a2:=hm _ a1
  rw[Iu a2,Iu a1,Iu a1,Iu a2]
 |none=>
  cases h2:fQ of' (x:Int) with
  |none=>
   have e:∀J,aA9 g us J of' x=aA9 g us J of x:=fun J=>by unfold aA9;rw[h1,h2]
   rw[e,e]
  |some v=>
   have a2:(fQ of' (x:Int)).isSome=true:=by rw[h2];rfl
   have hi:InJ g us j (x:Int):=(hk _ a2).resolve_left (by rw[h1];simp)
   rw[Iu a2,Iu a2,aDh h1 hi,aDh h1 (up hi)]
   omega
theorem aK7 {W m:Nat} {g:GS} {us l:List Edge} (h:GInv W m g us l) {n:Int} {i j:Nat} (h1:At_ g.why us n i) (h2:At_ g.why us n j):i=j:=by
 obtain⟨u,hu,_,_,_,a1,b1⟩:=Jv h1
 obtain⟨u',hu',_,_,_,a2,b2⟩:=Jv h2
 have ea:u.a=u'.a:=a1.symm.trans a2
 have eb:u.b=u'.b:=b1.symm.trans b2
 rcases Nat.lt_trichotomy i j with q|q|q
 ·exfalso
  refine(h.just j u' hu').2 ?_
  rw[<-ea,<-eb]
  exact .edge (List.mem_of_getElem? (i:=i) (by rw[List.getElem?_take,if_pos q];exact hu))
 ·exact q
 ·exfalso
  refine(h.just i u hu).2 ?_
  rw[ea,eb]
  exact .edge (List.mem_of_getElem? (i:=j) (by rw[List.getElem?_take,if_pos q];exact hu'))
theorem aQz {g:GS} {us:List Edge} {j J:Nat} {of:List (Int×Int)} (hj:j<=J):phi g us j of<=phi g us J of:=by
 refine Xq _ _ _ fun x _=> ?_
 rcases Classical.em (InJ g us j (x:Int)) with q|q
 ·have q':InJ g us J (x:Int):=let ⟨i,h1,h2⟩:=q;⟨i,by omega,h2⟩
  cases h1:fQ of (x:Int) with
  |some v=>
   have a1:(fQ of (x:Int)).isSome=true:=by rw[h1];rfl
   rw[Iu a1];omega
  |none=>rw[aDh h1 q,aDh h1 q'];exact Nat.le_refl _
 ·rw[aGf q];omega
theorem aLz {W m:Nat} {g:GS} {us l:List Edge} (k:GInv W m g us l) {j J:Nat} {of:List (Int×Int)} {n:Int} (hj:j<J) (hn:Vn g.nodes.length n) (hat:At_ g.why us n j) (h0:fQ of n=none):phi g us j of+Qd g n.toNat<=phi g us J of:=by
 have h1:=aId g (k:=0) hn h0 ⟨j,hj,hat⟩
 have h2:phi g us j of=phi g us j (Dj of n 0):=by
  unfold phi
  congr 1
  refine List.map_congr_left fun x _=> ?_
  by_cases hx:n=(x:Int)
  ·have q:¬InJ g us j (x:Int):=fun⟨i,h1,h2⟩=>by
    rw[<-hx] at h2
    have:=aK7 k h2 hat
    omega
   rw[aGf q,aGf q]
  ·unfold aA9
   rw[tX,if_neg hx]
 have h3:=aQz (g:=g) (us:=us) (of:=Dj of n 0) (Nat.le_of_lt hj)
 omega
structure aPa (g:GS) (of:List (Int×Int)) (ls:List Dk):Prop where
 at_:∀n k,fQ of n=some k->LAt ls k n (aW g.why n).to
theorem aPa.app {g:GS} {of:List (Int×Int)} {ls:List Dk} (h:aPa g of ls) (m:List Dk):aPa g of (ls++m):=⟨fun n k hk=>(h.at_ n k hk).app m⟩
structure PT (X:Nat->Prop) (Bp:Nat) (ws:World) (p pp:Addr) (m1:Nat) (g:GS) (w:World) (AL:Option Addr) (nL cL:Nat) (lv:List Value) (ls:List Dk) (of:List (Int×Int)):Prop where
 ps:PS X Bp w p pp m1 AL nL cL lv ls of
 ok:aEd g.nodes g.stand ls
 ofk:aPa g of ls
 ext:Ext ws w
 base:Bp<=w.heap.size
def Post (X:Nat->Prop) (Bp:Nat) (ws:World) (p pp:Addr) (m1:Nat) (g:GS) (us:List Edge) (J d:Nat) (w:World) (AL:Option Addr) (ls:List Dk) (of:List (Int×Int)) (x y r:Int) (w':World):Prop:=
 ∃AL' nL' cL' lv' m of',PT X Bp ws p pp m1 g w' AL' nL' cL' lv' (ls++m) of'/\dU (PX pp m1 AL) w (PX pp m1 AL') w'/\(ls++m).length+phi g us J of'<=ls.length+phi g us J of+d/\(∀n,(fQ of n).isSome=true->(fQ of' n).isSome=true)/\(∀n,(fQ of' n).isSome=true->(fQ of n).isSome=true\/InJ g us J n)/\LAt (ls++m) r x y
def aN3 (Bp:Nat) (ws:World) (p pp:Addr) (m1:Nat) (g:GS) (us:List Edge) (LB J:Nat):Prop:=
 ∀X w AL nL cL lv ls of a b,PT X Bp ws p pp m1 g w AL nL cL lv ls of->Vn g.nodes.length a->Vn g.nodes.length b->yE (us.take J) a b->ls.length+phi g us J of+Pz g<=LB->
  Calls P F.Ed #[.pointer (some pp),iv a,iv b] w (cO fun v w'=>∃r:Int,v= iv r/\Post X Bp ws p pp m1 g us J (Pz g) w AL ls of a b r w')
def aQg (Bp:Nat) (ws:World) (p pp:Addr) (m1:Nat) (g:GS) (us:List Edge) (LB J:Nat):Prop:=
 ∀X w AL nL cL lv ls of n j,PT X Bp ws p pp m1 g w AL nL cL lv ls of->Vn g.nodes.length n->0<=(aW g.why n).to->At_ g.why us n j->j<J->ls.length+phi g us J of<=LB->
  Calls P F.Dp #[.pointer (some pp),iv n] w (cO fun v w'=>∃r:Int,v= iv r/\Post X Bp ws p pp m1 g us J 0 w AL ls of n (aW g.why n).to r w')
section
variable {X:Nat->Prop} {Bp:Nat} {ws w w':World} {p pp:Addr} {m1:Nat} {g:GS} {AL:Option Addr} {nL cL:Nat} {lv:List Value} {ls:List Dk} {of:List (Int×Int)}
theorem PT.step (h:PT X Bp ws p pp m1 g w AL nL cL lv ls of) (k:Ext w w'):PT X Bp ws p pp m1 g w' AL nL cL lv ls of:=⟨h.ps.ext k,h.ok,h.ofk,h.ext.trans k,Nat.le_trans h.base k.size⟩
theorem PS.upd (h:PS X Bp w p pp m1 AL nL cL lv ls of) {of':List (Int×Int)} (hm:rQ (Value.int .i64) iv w' m1 of') (hk:Keep (fun b=>b=m1) w w'):PS X Bp w' p pp m1 AL nL cL lv ls of'/\dU (PX pp m1 AL) w (PX pp m1 AL) w':=by
 have iI:dU (PX pp m1 AL) w (PX pp m1 AL) w':=⟨hk.mono fun i _ hi=> .inr (.inl hi),fun _ _ h=>h⟩
 have np:∀o,¬(pp.add o).block=m1:=fun o=>by rw[Addr.add_block];exact h.sep3
 refine⟨⟨hk.cell ⟨h.c0,np _⟩,hk.cell ⟨h.c1,np _⟩,(World.frozen?_of_block (hk.block _ (by rw[Addr.add_block];exact h.ppl) (np _))).trans h.f1,hk.cell ⟨h.c2,np _⟩,h.row.keep hk (fun b hb hh=>h.sep2 (by rw[<-hh];exact hb)),h.sl.iI ⟨hk.mono fun i _ hi=> .inl (.inr (.inl hi)),fun _ _ h=>h⟩,hm,h.sep1,h.sep2,h.sep3,h.ppB,h.mB,Nat.lt_of_lt_of_le h.ppl hk.size,fun b hb=>Nat.lt_of_lt_of_le (h.xlo b hb) hk.size,h.xno⟩,iI⟩
theorem PT.add (h:PT X Bp ws p pp m1 g w AL nL cL lv ls of) {AL':Option Addr} {nL' cL':Nat} {lv':List Value} {x:Dk} (hp:PS X Bp w' p pp m1 AL' nL' cL' lv' (ls++[x]) of) (iI:dU (PX pp m1 AL) w (PX pp m1 AL') w') (hl:Qn g.nodes g.stand ls ls.length x) (hb:∀b,PX pp m1 AL b->ws.heap.size<=b):PT X Bp ws p pp m1 g w' AL' nL' cL' lv' (ls++[x]) of:=
 ⟨hp,h.ok.add hl,h.ofk.app _,h.ext.over iI.keep (fun i hi hh=>by have:=hb i hh;omega),Nat.le_trans h.base iI.keep.size⟩
theorem PT.lo (h:PT X Bp ws p pp m1 g w AL nL cL lv ls of) (hB:ws.heap.size<=Bp):∀b,PX pp m1 AL b->ws.heap.size<=b:=fun b hb=>Nat.le_trans hB (h.ps.lo b hb).1
theorem PS.far {X' Y:Nat->Prop} (h:PS X Bp w p pp m1 AL nL cL lv ls of) (hk:Keep Y w w') (hY:∀b,b<w.heap.size->Y b->X b) (hX1:∀b,X' b->b<w'.heap.size) (hX2:∀b,b<w.heap.size->X' b->X b):PS X' Bp w' p pp m1 AL nL cL lv ls of:=by
 have no:∀b,b<w.heap.size->PX pp m1 AL b->¬Y b:=fun b hb hp hy=>h.xno b (hY b hb hy) hp
 have np:∀o,¬Y (pp.add o).block:=fun o=>by rw[Addr.add_block];exact no _ h.ppl (.inl rfl)
 have hlo:=h.lo
 refine⟨hk.cell ⟨h.c0,np _⟩,hk.cell ⟨h.c1,np _⟩,(World.frozen?_of_block (hk.block _ (by rw[Addr.add_block];exact h.ppl) (np _))).trans h.f1,hk.cell ⟨h.c2,np _⟩,h.row.keep hk (fun b hb=>no b (h.row.at hb).2 (.inr (.inr hb))),?_,h.mp.keep hk (no _ h.mp.lt (.inr (.inl rfl))),h.sep1,h.sep2,h.sep3,h.ppB,h.mB,Nat.lt_of_lt_of_le h.ppl hk.size,hX1,fun b hb hp=> ?_⟩
 ·refine h.sl.iI ⟨hk.mono fun i hi hh=> .inr (hY i hi hh),fun i hi hh=>hh.imp id (hX2 i hi)⟩
 ·exact h.xno b (hX2 b (hlo b hp).2 hb) hp
theorem PT.far {X' Y:Nat->Prop} (h:PT X Bp ws p pp m1 g w AL nL cL lv ls of) (hk:Keep Y w w') (hY:∀b,b<w.heap.size->Y b->X b) (hX1:∀b,X' b->b<w'.heap.size) (hX2:∀b,b<w.heap.size->X' b->X b) (hx:∀b,b<ws.heap.size->¬Y b):PT X' Bp ws p pp m1 g w' AL nL cL lv ls of:=
 ⟨h.ps.far hk hY hX1 hX2,h.ok,h.ofk,h.ext.over hk (fun i hi hh=>hx i hi hh),Nat.le_trans h.base hk.size⟩
theorem aLg {us:List Edge} {LB J d0:Nat} {n:Int} {p3:Addr} {e:Edge} {w0:World} {AL0:Option Addr} {ls0:List Dk} {of0:List (Int×Int)} {x:Dk} {m:List Dk} (h:PT X Bp ws p pp m1 g w AL nL cL lv (ls0++m++[x]) of) (hB:ws.heap.size<=Bp) (iI:dU (PX pp m1 AL0) w0 (PX pp m1 AL) w) (hn:Vn g.nodes.length n) (hfree:fQ of n=none) (hat:InJ g us J n) (he:(n=x.a/\(aW g.why n).to=x.b)\/(n=x.b/\(aW g.why n).to=x.a)) (hxa:x.a=e.a) (hc:bG w p3 e.vals)
  (vx:Vn g.nodes.length x.a/\Vn g.nodes.length x.b) (hmore:∀n,(fQ of0 n).isSome=true->(fQ of n).isSome=true) (hkeys:∀n,(fQ of n).isSome=true->(fQ of0 n).isSome=true\/InJ g us J n) (hlen:(ls0++m++[x]).length+1+phi g us J of<=ls0.length+phi g us J of0+Qd g n.toNat) (hLB:ls0.length+phi g us J of0<=LB) (hbig:LB+1<=1099511627776) (hcost:Qd g n.toNat<=phi g us J of)
  {K:Int->World->Prop} (hK:∀r w',Post X Bp ws p pp m1 g us J 0 w0 AL0 ls0 of0 n (aW g.why n).to r w'->K r w'):
  sN p3 n pp K ((ls0++m).length:Int) w:=by
 have x_last:(ls0++m++[x])[(ls0++m).length]? =some x:=by simp
 have fin:∀w1 AL1 nL1 cL1 lv1 m1' (r:Int),PT X Bp ws p pp m1 g w1 AL1 nL1 cL1 lv1 (ls0++m1') of->dU (PX pp m1 AL0) w0 (PX pp m1 AL1) w1->(ls0++m1').length+phi g us J of<=ls0.length+phi g us J of0+Qd g n.toNat->LAt (ls0++m1') r n (aW g.why n).to->sQ pp n K r w1:=by
  intro w1 AL1 nL1 cL1 lv1 m1' r h1 a1 b1 l1
  obtain⟨w2,hr2,hm2,hk2⟩:=h1.ps.mp.update aHh aGo n r
  obtain⟨p2,a2⟩:=h1.ps.upd hm2 hk2
  refine⟨some m1,h1.ps.c2,w2,hr2,hK r w2 ⟨AL1,nL1,cL1,lv1,m1',Dj of n r,⟨p2,h1.ok,⟨fun z k hz=> ?_⟩,h1.ext.over hk2 (fun i hi hh=>by have:=h1.lo hB m1 (.inr (.inl rfl));omega),Nat.le_trans h1.base hk2.size⟩,a1.trans a2,?_,fun z hz=>Ug (hmore z hz),fun z hz=> ?_,l1⟩⟩
  ·rw[tX] at hz
   split at hz
   ·rename_i q
    cases hz
    rw[<-q]
    exact l1
   ·exact h1.ofk.at_ z k hz
  ·have:=aId g (k:=r) hn hfree hat
   omega
  ·rw[tX] at hz
   split at hz
   ·rename_i q
    right
    rw[<-q]
    exact hat
   ·exact hkeys z hz
 have ll:(ls0++m++[x]).length=(ls0++m).length+1:=List.length_append
 refine⟨e.a,hc 2 _ rfl,fun hne=> ?_,fun heq=> ?_⟩
 ·have he2:n=x.b/\(aW g.why n).to=x.a:=he.resolve_left fun q=>hne (by rw[<-hxa];exact q.1.symm)
  refine(aHi h.ps h.base (k:=(ls0++m).length) x_last (by omega)).mono ?_
  rintro _ w2 ⟨_,rfl,rfl,AL2,nL2,cL2,lv2,p2,a2⟩
  have lok:Qn g.nodes g.stand (ls0++m++[x]) (ls0++m++[x]).length ⟨3,x.b,x.a,0,[((ls0++m).length:Int)]⟩:=by
   refine⟨vx.2,vx.1,fun k hk=> ?_,.inr (.inr (.inl ⟨rfl,rfl,_,rfl,?_⟩))⟩
   ·simp only[List.mem_singleton] at hk
    subst hk
    omega
   ·exact LAt.last (ls0++m) x
  have h2:=h.add p2 a2 lok (h.lo hB)
  refine⟨_,rfl,_,rfl,?_⟩
  have key:=fin w2 AL2 nL2 cL2 lv2 (m++[x]++[⟨3,x.b,x.a,0,[((ls0++m).length:Int)]⟩]) ((ls0++m++[x]).length:Int) (by simpa using h2) (iI.trans a2) (by simp at hlen⊢;omega) (by
   rw[he2.2,he2.1]
   have:=LAt.last (ls0++m++[x]) ⟨3,x.b,x.a,0,[((ls0++m).length:Int)]⟩
   simpa using this)
  exact key
 ·have hea:e.a=n:=Decidable.not_not.1 heq
  have he2:n=x.a/\(aW g.why n).to=x.b:=by
   rcases he with q|q
   ·exact q
   ·refine⟨by rw[hxa,hea],?_⟩
    have h1:x.a=n:=by rw[hxa,hea]
    rw[q.2,h1,q.1]
  exact fin w AL nL cL lv (m++[x]) ((ls0++m).length:Int) (by simpa using h) iI (by simp at hlen⊢;omega) (by
   rw[he2.2,he2.1]
   have:=LAt.last (ls0++m) x
   simpa using this)
end
theorem aQy {H:Nat->Prop} {w:World} {base:Nat} {A:Option Addr} {n c:Nat} {l:List Int} (h:Row w base T.int 1 A n c (l.map iv)) (hH:∀b,At A b->¬H b):St H w fun w=>Ints w A n l:=fun w' hw'=>Si (h.keep hw' hH)
section
variable {B0:Nat} {Bp:Nat} {ws w w':World} {p U pp:Addr} {M N m1:Nat} {g:GS} {A:Nat->Option Addr} {n c:Nat->Nat} {H:Nat->Prop}
theorem aOx {W m J LB:Nat} {us l:List Edge} (h:dF B0 ws p U M N A n c H g) (k:GInv W m g us l) (s:Sem g us g.stand) (hB:ws.heap.size<=Bp) (hbig:LB+1<=1099511627776) (hs:∀j,j<J->aN3 Bp ws p pp m1 g us LB j):aQg Bp ws p pp m1 g us LB J:=by
 intro X w AL nL cL lv ls of nn j P_ vn tn hat hj hle
 refine aCy pp nn (fun r w'=>Post X Bp ws p pp m1 g us J 0 w AL ls of nn (aW g.why nn).to r w') w ?_
 have hl:=P_.ps.mp.aG9 aHh aGo (aQ9 w) nn
 have few:=k.few
 have n0:=vn.1
 have n1:=vn.2
 unfold Jz
 refine⟨some m1,P_.ps.c2,?_⟩
 cases ho:fQ of nn with
 |some r=>
  rw[ho] at hl
  exact⟨r,true,hl,fun _=>⟨AL,nL,cL,lv,[],of,by rw[List.append_nil];exact P_,dU.refl _ _,by simp,fun _ h=>h,fun _ h=> .inl h,by rw[List.append_nil];exact P_.ofk.at_ nn r ho⟩,fun q=>(by cases q)⟩
 |none=>
  rw[ho] at hl
  refine⟨0,false,hl,fun q=>(by cases q),fun _=> ?_⟩
  have hJ:InJ g us J nn:=⟨j,hj,hat⟩
  have hbel:=aLz k hj vn hat ho
  have gw:=h.stay P_.ext
  obtain⟨q1,q2,q3,a5,q4,q5,q6⟩:=gw.edge n0 (aCu k.forest.len vn)
  refine⟨some p,P_.ps.c0,p,rfl,_,_,_,q1,n0,q2,a5,q4,_,_,_,_,_,q5,fun p3 w1 hN1=>⟨hN1.soft rfl,fun w2 hw2=> ?_⟩⟩
  have kp2:=iQ hw2
  have E2:Ext w w2:=(Ext.eY hN1).over kp2 (fun i hi hh=>by rw[hN1.block] at hh;omega)
  have c3:bG w2 p3 (aW g.why nn).vals:=zF hw2 (by exact hN1.soft rfl)
  have b3:=hN1.block
  have z3:p3.block<w2.heap.size:=by have:=hN1.size;have:=kp2.size;omega
  have P2:=P_.step E2
  have p3no:¬PX pp m1 AL p3.block:=fun hh=>by have:=(P_.ps.lo _ hh).2;omega
  obtain⟨u,hu,eu,e1,e2,e3,e4⟩:=Jv hat
  obtain⟨va',vb'⟩:=k.forest.val u (List.mem_of_getElem? hu)
  have va:Vn g.nodes.length (aW g.why nn).a:=by rw[e3];exact va'
  have vb:Vn g.nodes.length (aW g.why nn).b:=by rw[e4];exact vb'
  have ends:(nn=(aW g.why nn).a/\(aW g.why nn).to=(aW g.why nn).b)\/(nn=(aW g.why nn).b/\(aW g.why nn).to=(aW g.why nn).a):=by rw[e3,e4];exact eu
  refine⟨(aW g.why nn).wZ,c3 1 _ rfl,fun hc p4 w3 hN4=> ?_,fun hc=> ?_⟩
  ·have cg:=(k.just j u hu).1 (by rw[<-e1];exact hc)
   have E3:Ext w2 w3:=Ext.eY hN4
   have P3:=P2.step E3
   have g3:=h.stay P3.ext
   have e4n:=g3.n4
   have va0:=va.1
   have va1:=va.2
   have vb0:=vb.1
   have vb1:=vb.2
   have na:g.nodes[(aW g.why nn).a.toNat]? =some (fG g.nodes (aW g.why nn).a):=getD_some (by omega)
   have nb:g.nodes[(aW g.why nn).b.toNat]? =some (fG g.nodes (aW g.why nn).b):=getD_some (by omega)
   obtain⟨aA,CA,kA,dA,hA1,hA2,hA3,hA4,hA5⟩:=g3.aJg na
   have hlen:(fG g.nodes (aW g.why nn).a).args.length=(fG g.nodes (aW g.why nn).b).args.length:=by rw[e3,e4];exact cg.len
   have hcost:Qd g nn.toNat=2+Pz g*kA:=by
    unfold Qd
    rw[toNat_cast n0,hA5]
    rcases ends with q|q
    ·rw[<-q.1]
    ·rw[hlen,<-q.1]
   refine⟨some p,P3.ps.c0,p,rfl,A 4,n 4,c 4,g3.cell (show 4<9 by omega),_,(E3.cells c3) 2 _ rfl,va0,by omega,aA,by rw[g3.nad];exact hA1,CA,kA,dA,by have:=hA3 1 _ rfl;exact this,fun w4 hw4=> ?_⟩
   have E24:Ext w2 w4:=E3.drawn hw4
   have E4:Ext w w4:=E2.trans E24
   have b4:=hN4.block
   have z4:=hN4.size
   have R4:Row w4 w2.heap.size T.int 1 (some p4) 0 0 (([]:List Int).map iv):=((Own.new hN4).row).keep (Ext.aK hw4) (fun _ _ h=>h)
   have at4:∀b,At (some p4) b->b=w2.heap.size:=fun b hb=>by obtain⟨a,ha,rfl⟩:=hb;cases ha;exact b4
   have P4:PT (fun b=>X b\/At (some p4) b) Bp ws p pp m1 g w4 AL nL cL lv ls of:=P_.far E4 (fun _ _ h=>h.elim) (fun b hb=>by
     rcases hb with hb|hb
     ·exact Nat.lt_of_lt_of_le (P_.ps.xlo b hb) E4.size
     ·have:=at4 b hb;have:=(Ext.aK hw4).size;omega) (fun b hb hh=>by
     rcases hh with hh|hh
     ·exact hh
     ·have:=at4 b hh;have:=E2.size;omega) (fun _ _ h=>h)
   refine⟨fun k1 D n' d i w'=>∃ks AL' nL' cL' lv' m of',k1=kA-i.toNat/\0<=i/\i<=kA/\n'=ks.length/\(ks.length:Int)=i/\PT (fun b=>X b\/At D b) Bp ws p pp m1 g w' AL' nL' cL' lv' (ls++m) of'/\dU (PX pp m1 AL) w (PX pp m1 AL') w'/\Row w' w2.heap.size T.int 1 D ks.length d (ks.map iv)/\bG w' p3 (aW g.why nn).vals/\¬PX pp m1 AL' p3.block/\p3.block<w'.heap.size/\w2.heap.size<=w'.heap.size/\(∀(t:Nat) kk x y,ks[t]? =some kk->(fG g.nodes (aW g.why nn).a).args[t]? =some x->(fG g.nodes (aW g.why nn).b).args[t]? =some y->LAt (ls++m) kk x y)/\(∀kk:Int,kk∈ks->0<=kk/\kk<(ls++m).length)/\(ls++m).length+phi g us j of'<=ls.length+phi g us j of+Pz g*i.toNat/\(∀n,(fQ of n).isSome=true->(fQ of' n).isSome=true)/\(∀n,(fQ of' n).isSome=true->(fQ of n).isSome=true\/InJ g us j n),
    ⟨_,[],AL,nL,cL,lv,[],of,rfl,by omega,by omega,rfl,rfl,by rw[List.append_nil];exact P4,dU.iL E4,R4,Ext.cells E24 c3,p3no,by have:=E24.size;omega,E24.size,fun t kk x y hk=>by simp at hk,fun kk hk=>by simp at hk,by simp,fun _ h=>h,fun _ h=> .inl h⟩,?_⟩
   rintro k1 D n' d i w5 ⟨ks,AL',nL',cL',lv',m,of',rfl,i0,i1,rfl,hki,P5,adv5,R5,c5,p35,z5,sz5,hk5,hr5,hl5,hm5,hn5⟩
   have g5:=h.stay P5.ext
   have fr5:fQ of' nn=none:=by
    cases hq:fQ of' nn with
    |none=>rfl
    |some v=>
     exfalso
     rcases hn5 nn (by rw[hq];rfl) with q|⟨i',h1,h2⟩
     ·rw[ho] at q;cases q
     ·have:=aK7 k h2 hat
      omega
   have hwe:w2.heap.size<=w5.heap.size:=sz5
   have wsz:w.heap.size<=w2.heap.size:=E2.size
   have wssz:ws.heap.size<=w.heap.size:=P_.ext.size
   refine⟨fun hlt=> ?_,fun hge=> ?_⟩
   ·have hiA:i.toNat<(fG g.nodes (aW g.why nn).a).args.length:=by omega
    obtain⟨x,ax,hxa,hCA,hcx⟩:=(g5.aIz na hA2).int i0 hlt
    obtain⟨aB,CB,kB,dB,hB1,hB2,hB3,hB4,hB5⟩:=g5.aJg nb
    have hltB:i<kB:=by omega
    obtain⟨y,ay,hyb,hCB,hcy⟩:=(g5.aIz nb hB2).int i0 hltB
    refine⟨i0,hlt,ax,hCA,x,hcx,some p,P5.ps.c0,p,rfl,A 4,n 4,c 4,g5.cell (show 4<9 by omega),_,c5 3 _ rfl,vb0,by omega,aB,by rw[g5.nad];exact hB1,CB,kB,dB,by have:=hB3 1 _ rfl;exact this,i0,hltB,ay,hCB,y,hcy,fun w7 hw7=> ?_⟩
    have D7:=Ext.aK hw7
    have vx:=qB k.sound va (List.mem_of_getElem? hxa)
    have vy:=qB k.sound vb (List.mem_of_getElem? hyb)
    have hxy:yE (us.take j) x y:=cg.args i.toNat x y (by rw[<-e3];exact hxa) (by rw[<-e4];exact hyb)
    have hmul:Pz g*(i.toNat+1)<=Pz g*kA:=Nat.mul_le_mul_left _ (by omega)
    rw[Nat.mul_succ] at hmul
    have hst:=hs j hj _ w7 AL' nL' cL' lv' (ls++m) of' x y (P5.step D7) vx vy hxy (by omega)
    refine hst.mono ?_
    rintro _ w6 ⟨_,rfl,r,rfl,AL6,nL6,cL6,lv6,m6,of6,P6,adv6,len6,mor6,key6,lat6⟩
    refine⟨_,rfl,r,rfl,fun w14 hw14 p7 w9 hN9 w13 hw13=> ?_⟩
    have E13:Ext w6 w13:=((Ext.aK hw14).new hN9).drawn hw13
    have P13:=P6.step E13
    have noD:∀b,At D b->¬PX pp m1 AL' b:=fun b hb=>P5.ps.xno b (.inr hb)
    have R13:=((R5.keep D7 (fun _ _ h=>h)).keep adv6.keep noD).keep E13 (fun _ _ h=>h)
    have sz67:=adv6.keep.size
    have sz57:=D7.size
    obtain⟨D2,d2,w10,hr10,R10,K10,hD10⟩:=R13.aN1 (x:=r) (q:=p7) ((Ext.aK hw13).cells (hN9.cells rfl)) (by omega) (by have:=E13.size;omega)
    refine⟨D2,_,d2,w10,hr10,fun w11 hw11=>⟨kA-(i.toNat+1),by omega,?_⟩⟩
    rw[gI (n:=kA) i0 hlt hA4]
    have adv57:dU (PX pp m1 AL) w (PX pp m1 AL6) w6:=adv5.trans ((dU.iL D7).trans adv6)
    have P10:PT (fun b=>X b\/At D2 b) Bp ws p pp m1 g w10 AL6 nL6 cL6 lv6 (ls++m++m6) of6:=P13.far K10 (fun b _ hb=> .inr hb) (fun b hb=>by
      rcases hb with hb|hb
      ·exact Nat.lt_of_lt_of_le (P13.ps.xlo b (.inl hb)) K10.size
      ·exact(R10.at hb).2) (fun b hb hh=>by
      rcases hh with hh|hh
      ·exact .inl hh
      ·exact .inr ((hD10 b hh).resolve_right (by omega))) (fun b hb hy=>by have:=(R5.at hy).1;omega)
    have nl:(ls++m++m6)=ls++(m++m6):=List.append_assoc _ _ _
    rw[nl] at P10 lat6 len6
    have in1:(i+1).toNat=i.toNat+1:=by omega
    have p36:¬PX pp m1 AL6 p3.block:=fun hh=>p35 (adv6.grow _ (by omega) hh)
    have advD:dU (PX pp m1 AL6) w13 (PX pp m1 AL6) w10\/True:= .inr trivial
    have adv10:dU (PX pp m1 AL) w (PX pp m1 AL6) w10:=by
     refine⟨(adv57.keep.over (E13.mono fun _ _ h=>h.elim) (fun i hi hh=>hh)).over K10 (fun i hi hh=> ?_),fun i hi hh=>adv57.grow i hi hh⟩
     have:=(R5.at hh).1
     omega
    refine⟨ks++[r],AL6,nL6,cL6,lv6,m++m6,of6,by omega,by omega,by omega,by rw[List.length_append];rfl,by rw[List.length_append,List.length_singleton];omega,P10.step (Ext.aK hw11),adv10.trans (dU.aK hw11),?_,?_,p36,?_,?_,?_,?_,?_,fun n hn=>mor6 n (hm5 n hn),fun n hn=> ?_⟩
    ·rw[List.length_append,List.length_singleton]
     exact R10.keep (Ext.aK hw11) (fun _ _ h=>h)
    ·refine Ext.cells (Ext.aK hw11) (K10.own (Ext.cells E13 (adv6.keep.own (Ext.cells D7 c5) p35)) fun hh=> ?_)
     have:=(R5.at hh).1
     omega
    ·have:=E13.size;have:=K10.size;have:=(Ext.aK hw11).size;omega
    ·have:=E13.size;have:=K10.size;have:=(Ext.aK hw11).size;omega
    ·intro t kk x' y' hkk hx' hy'
     rcases Nat.lt_or_ge t ks.length with q|q
     ·rw[List.getElem?_append_left q] at hkk
      have:=(hk5 t kk x' y' hkk hx' hy').app m6
      rw[nl] at this
      exact this
     ·rw[List.getElem?_append_right q] at hkk
      have ht:t=ks.length:=by
       have:=(List.getElem?_eq_some_iff.1 hkk).1
       simp at this
       omega
      subst ht
      simp at hkk
      subst hkk
      have e:ks.length=i.toNat:=by omega
      rw[e] at hx' hy'
      rw[hxa] at hx'
      rw[hyb] at hy'
      cases hx'
      cases hy'
      exact lat6
    ·intro kk hkk
     rcases List.mem_append.1 hkk with hkk|hkk
     ·have:=hr5 kk hkk
      rw[<-nl,List.length_append]
      omega
     ·simp at hkk
      subst hkk
      exact lat6.lt
    ·rw[in1,Nat.mul_succ]
     omega
    ·rcases key6 n hn with q|q
     ·exact hn5 n q
     ·exact .inr q
   ·have hi:i.toNat=kA:=by omega
    have hkl:ks.length=kA:=by omega
    refine⟨_,c5 2 _ rfl,_,c5 3 _ rfl,?_⟩
    have hst5:St (fun b=>PX pp m1 AL' b\/X b) w5 fun w=>Ints w D ks.length ks:=aQy R5 fun b hb hh=>by
     rcases hh with hh|hh
     ·exact P5.ps.xno b (.inr hb) hh
     ·have:=P_.ps.xlo b hh
      have:=(R5.at hb).1
      omega
    have P5':PT X Bp ws p pp m1 g w5 AL' nL' cL' lv' (ls++m) of':=P5.far (Keep.refl (fun _=>False) w5) (fun _ _ h=>h.elim) (fun b hb=>P5.ps.xlo b (.inl hb)) (fun b _ hb=> .inl hb) (fun _ _ h=>h)
    have hsh:=aLx (g:=g) (us:=us) (j:=j) (J:=J) (Nat.le_of_lt hj) hm5 hn5
    have hge5:=aOf g vn fr5 hJ
    have hbig2:(ls++m).length+1+phi g us J of'+1<=ls.length+phi g us J of+Qd g nn.toNat:=by
     rw[hcost,<-hi]
     omega
    refine(aFe (x:=⟨5,(aW g.why nn).a,(aW g.why nn).b,0,ks⟩) (kc:=d) P5'.ps P5.base hst5 (by unfold Sm;have:=hA4;unfold Sm at this;omega) (by omega)).mono ?_
    rintro _ w15 ⟨_,rfl,rfl,AL7,nL7,cL7,lv7,p7,a7⟩
    have lok:Qn g.nodes g.stand (ls++m) (ls++m).length ⟨5,(aW g.why nn).a,(aW g.why nn).b,0,ks⟩:=by
     refine⟨va,vb,hr5,.inr (.inr (.inr (.inr ⟨rfl,rfl,?_,?_,hlen,by rw[<-hA5];exact hkl,hk5⟩)))⟩
     ·show 0<=(fG g.nodes (aW g.why nn).a).fn
      rw[e3];exact cg.app
     ·show(fG g.nodes (aW g.why nn).a).fn=(fG g.nodes (aW g.why nn).b).fn
      rw[e3,e4];exact cg.fn
    have P7:=P5'.add p7 a7 lok (P5'.lo hB)
    refine⟨_,rfl,_,rfl,?_⟩
    refine aLg (x:=⟨5,(aW g.why nn).a,(aW g.why nn).b,0,ks⟩) (e:=aW g.why nn) (d0:=0) (LB:=LB) (m:=m) P7 hB (adv5.trans a7) vn fr5 hJ ends rfl (a7.keep.own c5 p35) ⟨va,vb⟩ hm5 (fun n hn=>(hn5 n hn).imp id fun⟨i,h1,h2⟩=>⟨i,by omega,h2⟩) ?_ hle hbig hge5 (fun r w' h=>h)
    rw[List.length_append,List.length_singleton]
    omega
  ·have hcf:(aW g.why nn).wZ=false:=by simpa using hc
   obtain⟨t,t1,t2,t3,t4,t5⟩:=s.src u (List.mem_of_getElem? hu) (by rw[<-e1];exact hcf)
   have hge:=aOf g vn ho hJ
   have hcost2:2<=Qd g nn.toNat:=by unfold Qd;omega
   refine⟨_,c3 2 _ rfl,_,c3 3 _ rfl,_,c3 4 _ rfl,?_⟩
   refine(aFe (x:=⟨1,(aW g.why nn).a,(aW g.why nn).b,(aW g.why nn).tag,[]⟩) (kc:=0) P2.ps P2.base (fun w' _=>⟨rfl,fun i x hx=>by simp at hx⟩) (Nat.zero_le _) (by omega)).mono ?_
   rintro _ w17 ⟨_,rfl,rfl,AL7,nL7,cL7,lv7,p7,a7⟩
   have lok:Qn g.nodes g.stand ls ls.length ⟨1,(aW g.why nn).a,(aW g.why nn).b,(aW g.why nn).tag,[]⟩:=by
    refine⟨va,vb,fun kk hk=>by simp at hk,.inl ⟨rfl,rfl,t,t1,t2,?_,?_,?_⟩⟩
    ·show t.a=(aW g.why nn).a
     rw[t3,e3]
    ·show t.b=(aW g.why nn).b
     rw[t4,e4]
    ·show t.tag=(aW g.why nn).tag
     rw[t5,e2]
   have P7:=P2.add p7 a7 lok (P2.lo hB)
   refine⟨_,rfl,_,rfl,?_⟩
   have key:=aLg (x:=⟨1,(aW g.why nn).a,(aW g.why nn).b,(aW g.why nn).tag,[]⟩) (e:=aW g.why nn) (d0:=0) (LB:=LB) (m:=[]) (ls0:=ls) (of0:=of) (w0:=w) (AL0:=AL) (p3:=p3) (J:=J) (us:=us) (n:=nn) (by rw[List.append_nil];exact P7) hB ((dU.iL E2).trans a7) vn ho hJ ends rfl (a7.keep.own c3 p3no) ⟨va,vb⟩ (fun _ h=>h) (fun n hn=> .inl hn) (by
    rw[List.append_nil,List.length_append,List.length_singleton]
    omega) hle hbig hge (K:=fun r w'=>Post X Bp ws p pp m1 g us J 0 w AL ls of nn (aW g.why nn).to r w') (fun r w' h=>h)
   rw[List.append_nil] at key
   exact key
end
end Go.Proofs.YtnbakpoahcndpaaGreatDoor
