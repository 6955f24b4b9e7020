/- Towards: The law LinPicks answers true at every input whose reading is of bulk at most 1048576, and the input reads as it did; the tables that it reads are tied to the program's text. Gathered by a program (pack.py) out of smaller texts. -/
import Derived.Test.YtfedkedpgdphdaaGreatDoorLinPicks1
import Derived.Ground.NamesProg
import Derived.Shelf.Strings.Prefix
import Derived.Shelf.Strings.Trim
import Derived.Shelf.Strings.SlTrimAscii
import Derived.Shelf.Strings.Search2
import Derived.Laws.IdiomStrings
import Derived.Below
set_option linter.unusedSectionVars false
set_option linter.unusedVariables false
set_option linter.unusedSimpArgs false
set_option linter.deprecated false
set_option linter.unnecessarySimpa false
set_option maxHeartbeats 2000000
set_option maxRecDepth 20000
namespace Go.Proofs.YtfedkedpgdphdaaGreatDoor
open Wk
section
variable {w w':World} {A B:Option Addr} {n c m d x y:Nat} {l:List Nat}
theorem aCo {K:Option Addr->Nat->Nat->World->Prop} {k:List Nat} (hL:LR w A n c l) (lim:Pm l) (hK:LR w B m d k) (lik:Pm k) (hmn:m<=n) (hn:Sn (n+1)) (fin:∀A n c w',NF w w' A n c (nv l+nv k)->K A n c w'):kR w K A n c B m d:=by
 have hn0:=hn
 unfold Sn at hn
 have hl:=hL.len
 have hk:=hK.len
 have hB:BB=1000000000:=rfl
 obtain⟨w1,hr,hO1,E1⟩:=LR.Qi (w:=w) hn0
 unfold kR
 rw[wrap_i64 (i:=(n:Int)+1) (by omega) (by omega)]
 refine⟨_,0,n+1,w1,by simpa using hr,fun q A7 n7 c7 x1 i w2=>∃o:List Nat,∃b:Nat,q=n-i.toNat/\0<=i/\i<=n/\n7=i.toNat/\x1=(b:Int)/\b<=1/\LR w2 A7 n7 c7 o/\Lo o/\nv o+BB^i.toNat*b=nv (l.take i.toNat)+nv (k.take i.toNat)/\Ext w w2/\∀b,At A7 b->w.heap.size<=b,⟨n,[],0,by simp,by omega,by omega,by simp,rfl,by omega,hO1,Lo.nil,by simp[nv],E1,fun b hb=>by have:=at_new hb;omega⟩,?_⟩
 rintro q A7 n7 c7 x1 i w2 ⟨o,b,rfl,i0,i1,rfl,rfl,hb,hO,lo,hs,E2,hA7⟩
 obtain⟨j,rfl⟩:=Int.eq_ofNat_of_zero_le i0
 simp only[Int.toNat_natCast] at hs hO
 have hol:=hO.len
 refine⟨fun hlt=> ?_,fun hge=> ?_⟩
 ·have hj:j<n:=by omega
  obtain⟨ad,hA,hv,hc,_⟩:=(hL.ext E2).at_ (i:=(j:Int)) (by omega) (by omega)
  have gx:=lim.lo.lg j
  have gy:=lik.lo.lg j
  simp only[Int.toNat_natCast] at hc
  have step:∀b' d:Nat,b'<=1->d<BB->d+BB*b'=lg l j+lg k j+b->nZ w2 A7 j c7 (n-j) (fun q A7 n7 c7 x1 i w2=>∃o:List Nat,∃b:Nat,q=n-i.toNat/\0<=i/\i<=n/\n7=i.toNat/\x1=(b:Int)/\b<=1/\LR w2 A7 n7 c7 o/\Lo o/\nv o+BB^i.toNat*b=nv (l.take i.toNat)+nv (k.take i.toNat)/\Ext w w2/\∀b,At A7 b->w.heap.size<=b) (j:Int) (b':Int) (d:Int):=fun b' d hb' hd he p w3 hN=>by
   obtain⟨A',c',w4,hr,hR,E4,hB4⟩:=hO.push hA7 E2 hN (by unfold Sn;omega)
   refine⟨A',j+1,c',w4,hr,n-(j+1),by omega,o++[d],b',?_⟩
   rw[wrap_i64 (by omega) (by omega),show((j:Int)+1).toNat=j+1 by omega]
   exact⟨rfl,by omega,by omega,rfl,rfl,hb',hR,lo.append (Lo.cons hd Lo.nil),aHn hol hs he,E4,hB4⟩
  have J:∀s:Nat,s=lg l j+lg k j+b->oD w2 A7 j c7 (n-j) (fun q A7 n7 c7 x1 i w2=>∃o:List Nat,∃b:Nat,q=n-i.toNat/\0<=i/\i<=n/\n7=i.toNat/\x1=(b:Int)/\b<=1/\LR w2 A7 n7 c7 o/\Lo o/\nv o+BB^i.toNat*b=nv (l.take i.toNat)+nv (k.take i.toNat)/\Ext w w2/\∀b,At A7 b->w.heap.size<=b) (j:Int) (s:Int):=fun s hs'=>by
   refine⟨fun hge=> ?_,fun hlt2=> ?_⟩
   ·have ev:IntKind.wrap .u32 ((s:Int)-1000000000)=((s-BB:Nat):Int):=by
     rw[wrap_u32 (by omega) (by omega)];omega
    rw[ev]
    exact step 1 (s-BB) (by omega) (by omega) (by omega)
   ·exact step 0 s (by omega) (by omega) (by omega)
  refine⟨by omega,by omega,ad,hA,_,hc,fun hm=> ?_,fun hm=> ?_⟩
  ·obtain⟨be,hBe,hv',hc',_⟩:=(hK.ext E2).at_ (i:=(j:Int)) (by omega) (by omega)
   refine⟨by omega,hm,be,hBe,_,hc',?_⟩
   simp only[Int.toNat_natCast]
   have ev:IntKind.wrap .u32 (IntKind.wrap .u32 ((lg l j:Int)+(b:Int))+(lg k j:Int))=((lg l j+lg k j+b:Nat):Int):=by
    rw[wrap_u32 (i:=(lg l j:Int)+(b:Int)) (by omega) (by omega),wrap_u32 (by omega) (by omega)];omega
   rw[ev]
   exact J _ rfl
  ·have h0:lg k j=0:=Ox (by omega)
   simp only[Int.toNat_natCast]
   have ev:IntKind.wrap .u32 ((lg l j:Int)+(b:Int))=((lg l j+b:Nat):Int):=by
    rw[wrap_u32 (by omega) (by omega)];omega
   rw[ev]
   exact J _ (by omega)
 ·have hj:j=l.length:=by omega
  subst hj
  obtain⟨e1,e2⟩:=aJo lim (y:=k) (by omega) hol lo hb hs
  refine⟨fun hpos p w5 hN=> ?_,fun hz=> ?_⟩
  ·have hb1:b=1:=by omega
   subst hb1
   obtain⟨A',c',w4,hr,hR,E4,hB4⟩:=hO.push (d:=1) hA7 E2 hN (by unfold Sn;omega)
   refine⟨A',_,c',w4,hr,?_⟩
   exact fin _ _ _ _ ⟨E4,⟨_,hR,(e2 rfl).1,(e2 rfl).2⟩,hB4⟩
  ·have hb0:b=0:=by omega
   subst hb0
   exact fin _ _ _ _ ⟨E2,⟨_,hO,(e1 rfl).1,(e1 rfl).2⟩,hA7⟩
theorem aIz (hx:NR w A n c x) (hy:NR w B m d y) (hn:Sn (n+1)) (hm:Sn (m+1)):Calls P F.Gx #[.slice A n c,.slice B m d] w (aS fun v w'=>∃A n c,v= .slice A n c/\NF w w' A n c (x+y)):=by
 obtain⟨l,hL,lim,rfl⟩:=hx
 obtain⟨k,hK,lik,rfl⟩:=hy
 refine aS.mono (aAi A n c B m d (fun A n c w'=>NF w w' A n c (nv l+nv k)) w ?_) (by rintro _ w' ⟨A,n,c,rfl,h⟩;exact⟨A,n,c,rfl,h⟩)
 refine⟨fun hlt=> ?_,fun hge=> ?_⟩
 ·exact aCo hK lik hL lim (by omega) hm fun A n c w' h=>by rw[Nat.add_comm];exact h
 ·exact aCo hL lim hK lik (by omega) hn fun A n c w' h=>h
theorem Zq {dd:Nat} (hx:NR w A n c x) (h0:0<dd) (hd:dd<4294967296) (hn:Sn n):Calls P F.rC #[.slice A n c,.int .u32 (dd:Int)] w (aS fun v w'=>∃A n c,v= .tuple #[.slice A n c,.int .u32 ((x%dd:Nat):Int)]/\NF w w' A n c (x/dd)):=by
 obtain⟨l,hL,lim,rfl⟩:=hx
 refine aS.mono (Yf A n c (dd:Int) (fun A n c r w'=>r=((nv l%dd:Nat):Int)/\NF w w' A n c (nv l/dd)) w ?_) (by rintro _ w' ⟨A,n,c,r,rfl,rfl,h⟩;exact⟨A,n,c,rfl,h⟩)
 have hn0:=hn
 unfold Sn at hn
 have hl:=hL.len
 have hB:BB=1000000000:=rfl
 obtain⟨w1,hr,hO1,E1⟩:=LR.make (w:=w) hn0
 unfold zW
 have ed:IntKind.wrap .u64 (dd:Int)=(dd:Int):=wrap_u64 (by omega) (by omega)
 rw[ed]
 refine⟨_,n,n,w1,hr,fun q x3 i w2=>∃o:List Nat,∃r:Nat,q=(i+1).toNat/\-1<=i/\i<n/\x3=(r:Int)/\r<dd/\LR w2 (some ⟨w.heap.size,0,none⟩) n n o/\Lo o/\nv (l.drop (i+1).toNat)=dd*nv (o.drop (i+1).toNat)+r/\Ext w w2,⟨n,List.replicate n 0,0,?_⟩,?_⟩
 ·rw[wrap_i64 (by omega) (by omega),show((n:Int)-1+1).toNat=n by omega]
  refine⟨rfl,by omega,by omega,rfl,h0,hO1,Dp n,?_,E1⟩
  rw[List.drop_eq_nil_of_le (by omega),List.drop_eq_nil_of_le (by simp)]
  simp[nv]
 rintro q x3 i w2 ⟨o,r,rfl,i0,i1,rfl,hr,hO,lo,hs,E2⟩
 have hol:=hO.len
 refine⟨fun hpos=> ?_,fun hneg=> ?_⟩
 ·obtain⟨j,rfl⟩:=Int.eq_ofNat_of_zero_le hpos
  obtain⟨ad,hA,hv,hc,_⟩:=(hL.ext E2).at_ (i:=(j:Int)) (by omega) (by omega)
  obtain⟨od,hOd,hov,hoc,hof⟩:=hO.at_ (i:=(j:Int)) (by omega) (by omega)
  have gx:=lim.lo.lg j
  rw[show((j:Int)+1).toNat=j+1 by omega] at hs
  simp only[Int.toNat_natCast] at hc hoc hof
  have ev:IntKind.wrap .u64 (IntKind.wrap .u64 ((r:Int)*1000000000)+IntKind.wrap .u64 (lg l j:Int))=((r*1000000000+lg l j:Nat):Int):=by
   rw[wrap_u64 (i:=(r:Int)*1000000000) (by omega) (by omega),wrap_u64 (i:=(lg l j:Int)) (by omega) (by omega),wrap_u64 (by omega) (by omega)];omega
  have e1:Int.tdiv ((r*1000000000+lg l j:Nat):Int) (dd:Int)=(((r*1000000000+lg l j)/dd:Nat):Int):=(Int.ofNat_tdiv _ _).symm
  have e2:Int.tmod ((r*1000000000+lg l j:Nat):Int) (dd:Int)=(((r*1000000000+lg l j)%dd:Nat):Int):=(Int.ofNat_tmod _ _).symm
  have hq:(r*1000000000+lg l j)/dd<BB:=by
   rw[Nat.div_lt_iff_lt_mul h0]
   have:(r+1)*1000000000<=dd*1000000000:=Nat.mul_le_mul_right _ hr
   rw[hB] at gx⊢
   omega
  have hm:(r*1000000000+lg l j)%dd<dd:=Nat.mod_lt _ h0
  have hqr:=Nat.div_add_mod (r*1000000000+lg l j) dd
  generalize (r*1000000000+lg l j)/dd=Q at*
  generalize (r*1000000000+lg l j)%dd=R at*
  refine⟨by omega,by omega,ad,hA,_,hc,by omega,by omega,by omega,od,hOd,⟨_,hoc⟩,hof,fun w3 hw=>⟨by omega,j,by omega,?_⟩⟩
  simp only[Int.toNat_natCast] at hw⊢
  rw[ev,e1,wrap_u64 (by omega) (by omega),wrap_u32 (by omega) (by omega)] at hw
  rw[ev,e2]
  obtain⟨hO',hK'⟩:=hO.put hOd (j:=j) (d:=Q) (by omega) hw
  rw[wrap_i64 (by omega) (by omega)]
  rw[show((j:Int)-1+1).toNat=j by omega]
  refine⟨o.set j Q,R,rfl,by omega,by omega,rfl,hm,hO',lo.set hq,aAx (by omega) (by omega) hs hqr.symm,E2.over hK' fun i hi ha=> ?_⟩
  have:=at_new ha
  omega
 ·rw[show(i+1).toNat=0 by omega] at hs
  simp only[List.drop_zero] at hs
  have hdv:nv l/dd=nv o:=by rw[hs,Nat.mul_add_div h0,Nat.div_eq_of_lt hr,Nat.add_zero]
  have hmd:nv l%dd=r:=by rw[hs,Nat.mul_add_mod,Nat.mod_eq_of_lt hr]
  rw[hdv,hmd]
  refine aS.mono (Ut hO lo hn0) (by
   rintro _ w4 ⟨rfl,m',rfl,hm',hN⟩
   exact⟨_,_,_,rfl,by rw[wrap_u32 (by omega) (by omega)],E2,hN,fun b hb=>by have:=at_new hb;omega⟩)
end
theorem aIa {o:List Nat} {i:Nat} (h:nv o<BB^i):lg o i=0:=by
 by_cases hi:i<o.length
 ·rw[xN o i (by omega),Pq o i hi] at h
  rcases Nat.eq_zero_or_pos (lg o i) with h0|h0
  ·exact h0
  ·have:=Nat.mul_le_mul_left (BB^i) (show 1<=lg o i+BB*nv (o.drop (i+1)) by omega)
   omega
 ·exact Ox (by omega)
theorem NF.zero (w:World):NF w w none 0 0 0:=⟨Ext.refl w,NR.nil w,fun b ⟨a,ha,_⟩=>by cases ha⟩
section
variable {w w':World} {A B:Option Addr} {n c m d x y:Nat} {l:List Nat}
theorem pY (hx:NR w A n c x) (hy:NR w B m d y) (hn:Sn (n+m)):Calls P F.fH #[.slice A n c,.slice B m d] w (aS fun v w'=>∃A n c,v= .slice A n c/\NF w w' A n c (x*y)):=by
 have zx:=hx.zero
 have zy:=hy.zero
 obtain⟨l,hL,lim,rfl⟩:=hx
 obtain⟨k,hK,lik,rfl⟩:=hy
 refine aS.mono (Zf A n c B m d (fun A n c w'=>NF w w' A n c (nv l*nv k)) w ?_) (by rintro _ w' ⟨A,n,c,rfl,h⟩;exact⟨A,n,c,rfl,h⟩)
 have hn0:=hn
 unfold Sn at hn
 have hl:=hL.len
 have hk:=hK.len
 have hB:BB=1000000000:=rfl
 have hBB:BB*BB=1000000000000000000:=rfl
 have Y1:=xR lik.lo
 have main:mJ (fun A n c w'=>NF w w' A n c (nv l*nv k)) w n m A B false:=by
  refine⟨fun h=>(by cases h),fun _=> ?_⟩
  rw[wrap_i64 (i:=(n:Int)+(m:Int)) (by omega) (by omega)]
  obtain⟨w1,hr,hO1,E1⟩:=LR.make (w:=w) hn0
  rw[Int.natCast_add] at hr
  refine⟨_,n+m,n+m,w1,hr,fun q i w2=>∃o:List Nat,q=n-i.toNat/\0<=i/\i<=n/\LR w2 (some ⟨w.heap.size,0,none⟩) (n+m) (n+m) o/\Lo o/\nv o=nv (l.take i.toNat)*nv k/\Ext w w2,⟨n,List.replicate (n+m) 0,by simp,by omega,by omega,hO1,Dp _,?_,E1⟩,?_⟩
  ·rw[Ns fun x hx=>(List.mem_replicate.1 hx).2];simp[nv]
  rintro q i w2 ⟨o,rfl,i0,i1,hO,lo,hs,E2⟩
  obtain⟨j,rfl⟩:=Int.eq_ofNat_of_zero_le i0
  simp only[Int.toNat_natCast] at hs
  have hol:=hO.len
  refine⟨fun hlt=> ?_,fun hge=> ?_⟩
  ·have hj:j<n:=by omega
   obtain⟨ad,hA,hv,hc,_⟩:=(hL.ext E2).at_ (i:=(j:Int)) (by omega) (by omega)
   have gx:=lim.lo.lg j
   simp only[Int.toNat_natCast] at hc
   have ew:=wrap_i64 (i:=(j:Int)+1) (by omega) (by omega)
   have et:((j:Int)+1).toNat=j+1:=by omega
   have hnext:nv (l.take (j+1))*nv k=nv (l.take j)*nv k+BB^j*(lg l j*nv k):=by
    rw[jX,Nat.add_mul,Nat.mul_assoc]
   refine⟨by omega,by omega,ad,hA,_,hc,fun hz=> ?_,fun hnz=> ?_⟩
   ·refine⟨n-(j+1),by omega,?_⟩
    simp only[ew,et]
    refine⟨o,trivial,by omega,by omega,hO,lo,?_,E2⟩
    rw[hnext,show lg l j=0 by omega,hs];simp
   ·have hlo0:lg o (j+m)=0:=aIa (by
     rw[hs,Nat.pow_add]
     have h1:=xR (lim.lo.take j)
     rw[List.length_take,Nat.min_eq_left (by omega)] at h1
     rw[hk] at Y1
     exact Nat.mul_lt_mul'' h1 Y1)
    refine⟨fun q x3 i2 w4=>∃o:List Nat,∃cr:Nat,q=m-i2.toNat/\0<=i2/\i2<=m/\x3=(cr:Int)/\cr<BB/\LR w4 (some ⟨w.heap.size,0,none⟩) (n+m) (n+m) o/\Lo o/\lg o (j+m)=0/\nv o+BB^(j+i2.toNat)*cr=nv (l.take j)*nv k+BB^j*(lg l j*nv (k.take i2.toNat))/\Ext w w4,⟨m,o,0,by simp,by omega,by omega,rfl,by decide,hO,lo,hlo0,by simp[nv,hs],E2⟩,?_⟩
    rintro q x3 i2 w4 ⟨o',cr,rfl,i20,i21,rfl,hcr,hO',lo',hz',hs',E4⟩
    obtain⟨t,rfl⟩:=Int.eq_ofNat_of_zero_le i20
    simp only[Int.toNat_natCast] at hs'
    have hol':=hO'.len
    refine⟨fun hlt2=> ?_,fun hge2=> ?_⟩
    ·have ht:t<m:=by omega
     obtain⟨be,hBe,_,hbc,_⟩:=(hK.ext E4).at_ (i:=(t:Int)) (by omega) (by omega)
     have ejt:=wrap_i64 (i:=(j:Int)+(t:Int)) (by omega) (by omega)
     obtain⟨od,hOd,_,hoc,hof⟩:=hO'.at_ (i:=(j:Int)+(t:Int)) (by omega) (by omega)
     have tjt:((j:Int)+(t:Int)).toNat=j+t:=by omega
     rw[tjt] at hoc hof
     simp only[Int.toNat_natCast] at hbc
     have gy:=lik.lo.lg t
     have go:=lo'.lg (j+t)
     have hd1:(lg l j*lg k t+lg o' (j+t)+cr)%BB<BB:=Nat.mod_lt _ (by decide)
     have hde:=Nat.mod_add_div (lg l j*lg k t+lg o' (j+t)+cr) BB
     obtain⟨hc1,hc2⟩:=aEd gx gy go hcr hde hd1
     have hle1:lg l j*lg k t<=lg l j*lg k t+lg o' (j+t)+cr:=by omega
     have ev:IntKind.wrap .u64 (IntKind.wrap .u64 (IntKind.wrap .u64 (IntKind.wrap .u64 (lg l j:Int)*IntKind.wrap .u64 (lg k t:Int))+IntKind.wrap .u64 (lg o' (j+t):Int))+(cr:Int))=((lg l j*lg k t+lg o' (j+t)+cr:Nat):Int):=by
      rw[wrap_u64 (i:=(lg l j:Int)) (by omega) (by omega),wrap_u64 (i:=(lg k t:Int)) (by omega) (by omega),wrap_u64 (i:=(lg o' (j+t):Int)) (by omega) (by omega),<-Int.natCast_mul]
      generalize lg l j*lg k t=M at*
      rw[wrap_u64 (i:=(M:Int)) (by omega) (by omega),wrap_u64 (i:=(M:Int)+_) (by omega) (by omega),wrap_u64 (by omega) (by omega)]
      omega
     have e1:Int.tdiv ((lg l j*lg k t+lg o' (j+t)+cr:Nat):Int) 1000000000=(((lg l j*lg k t+lg o' (j+t)+cr)/BB:Nat):Int):=(Int.ofNat_tdiv _ 1000000000).symm
     have e2:Int.tmod ((lg l j*lg k t+lg o' (j+t)+cr:Nat):Int) 1000000000=(((lg l j*lg k t+lg o' (j+t)+cr)%BB:Nat):Int):=(Int.ofNat_tmod _ 1000000000).symm
     refine⟨by omega,hlt2,be,hBe,_,hbc,?_⟩
     simp only[ejt,tjt]
     refine⟨by omega,by omega,od,hOd,_,hoc,by omega,by omega,od,hOd,⟨_,hoc⟩,hof,fun w5 hw=>⟨m-(t+1),by omega,?_⟩⟩
     rw[ev,e2] at hw
     rw[ev,e1]
     clear ev e1 e2
     generalize (lg l j*lg k t+lg o' (j+t)+cr)/BB=Q at*
     generalize (lg l j*lg k t+lg o' (j+t)+cr)%BB=R at*
     rw[wrap_u32 (by omega) (by omega)] at hw
     obtain⟨hO5,hK5⟩:=hO'.put hOd (j:=j+t) (d:=R) (by omega) hw
     rw[wrap_u64 (i:=(Q:Int)) (by omega) (by omega),wrap_i64 (by omega) (by omega),show((t:Int)+1).toNat=t+1 by omega]
     refine⟨o'.set (j+t) R,Q,rfl,by omega,by omega,rfl,hc1,hO5,lo'.set hd1,?_,aE1 (by omega) hs' hde,E4.over hK5 fun i hi ha=> ?_⟩
     ·rw[Rt (by omega),if_neg (by omega)];exact hz'
     ·have:=at_new ha
      omega
    ·have ht:t=m:=by omega
     subst ht
     have ejt:=wrap_i64 (i:=(j:Int)+(t:Int)) (by omega) (by omega)
     obtain⟨od,hOd,_,hoc,hof⟩:=hO'.at_ (i:=(j:Int)+(t:Int)) (by omega) (by omega)
     have tjt:((j:Int)+(t:Int)).toNat=j+t:=by omega
     rw[tjt] at hoc hof
     simp only[ejt,tjt]
     refine⟨by omega,by omega,od,hOd,⟨_,hoc⟩,hof,fun w6 hw=>⟨n-(j+1),by omega,?_⟩⟩
     rw[wrap_u32 (by omega) (by omega)] at hw
     obtain⟨hO6,hK6⟩:=hO'.put hOd (j:=j+t) (d:=cr) (by omega) hw
     simp only[ew,et]
     refine⟨o'.set (j+t) cr,trivial,by omega,by omega,hO6,lo'.set hcr,?_,E4.over hK6 fun i hi ha=> ?_⟩
     ·have h1:=aC6 o' (j+t) cr (by omega)
      rw[hz',Nat.mul_zero,Nat.add_zero] at h1
      rw[List.take_of_length_le (by omega:k.length<=t)] at hs'
      rw[h1,hs',hnext]
     ·have:=at_new ha
      omega
  ·have hj:j=l.length:=by omega
   subst hj
   rw[List.take_length] at hs
   refine aS.mono (Ut hO lo hn0) (by
    rintro _ w4 ⟨rfl,m',rfl,hm',hN⟩
    rw[hs] at hN
    exact⟨_,_,_,rfl,E2,hN,fun b hb=>by have:=at_new hb;omega⟩)
 refine⟨fun h0=>⟨fun _=> ?_,fun h=>(by cases h)⟩,fun h0=> ?_⟩
 ·show NF w w none 0 0 (nv l*nv k)
  rw[zx.1 (by omega),Nat.zero_mul];exact NF.zero w
 ·by_cases hm:m=0
  ·rw[decide_eq_true (by omega)]
   refine⟨fun _=> ?_,fun h=>(by cases h)⟩
   show NF w w none 0 0 (nv l*nv k)
   rw[zy.1 (by omega),Nat.mul_zero];exact NF.zero w
  ·rw[decide_eq_false (by omega)]
   exact main
end
def oC (x2:Int) (n18:Nat) (A18:Option Addr) (k3:Nat) (I2:Nat->Int->World->Prop) (x4:Int) (w40:World):Prop:=
 0<=x2/\x2<(n18:Int)/\∃a2,A18=some a2/\(∃u1,w40.cell? (a2.add (x2.toNat*1))=some u1)/\w40.frozen? (a2.add (x2.toNat*1))=false/\∀w41,w41=w40.setCell (a2.add (x2.toNat*1)) (.int .u32 (IntKind.wrap .u32 x4))->(∃k4,k4<k3/\I2 k4 (IntKind.wrap .i64 (x2-1)) w41)
def lQ (n1:Nat) (x1:Int) (A2:Option Addr) (n2 c2:Nat) (K:Option Addr->Nat->Nat->Option Addr->Nat->Nat->World->Prop) (A8:Option Addr) (n8 c8:Nat) (w8:World):Prop:=
 ∃I1:Nat->Option Addr->Nat->Nat->World->Prop,(∃k1,I1 k1 A8 n8 c8 w8)/\∀k1 (A15:Option Addr) (n15 c15:Nat) (w30:World),I1 k1 A15 n15 c15 w30->(((n15:Int)<(IntKind.wrap .i64 ((n1:Int)+1))->(∀(p3:Addr) (w31:World),New w30 (.cells #[.int .u32 0] T.uint32) p3 w31->(∃(A16:Option Addr) (n16 c16:Nat) (w32:World),(Builtin.append_ #[T.dH,T.dH] T.dH #[.slice A15 n15 c15,.slice (some p3) 1 1]).run P w31= .ok (.slice A16 n16 c16) w32/\(∃k2,k2<k1/\I1 k2 A16 n16 c16 w32))))/\(¬((n15:Int)<(IntKind.wrap .i64 ((n1:Int)+1)))->(∀(p4:Addr) (w33:World),New w30 (.cells #[(.int .u32 (IntKind.wrap .u32 (IntKind.wrap .u64 (Int.tdiv 1000000000 (IntKind.wrap .u64 ((IntKind.wrap .u64 x1)+1))))))] T.uint32) p4 w33->(Calls P F.fH #[.slice A2 n2 c2,.slice (some p4) 1 1] w33 (aS fun v4 w34=>∃A17 n17 c17,v4=(.slice A17 n17 c17)/\∃(A18:Option Addr) (n18 c18:Nat) (w35:World),(Instr.makeSlice T.dH (.int .i64 (IntKind.wrap .i64 ((n15:Int)-(n17:Int)))) (.int .i64 (IntKind.wrap .i64 ((n15:Int)-(n17:Int))))).run P w34= .ok (.slice A18 n18 c18) w35/\(∃I2:Nat->Int->World->Prop,(∃k3,I2 k3 (IntKind.wrap .i64 ((n18:Int)-1)) w35)/\∀k3 (x2:Int) (w36:World),I2 k3 x2 w36->((0<=x2->(0<=x2/\x2<=(n15:Int)/\Calls P F.Ia #[.slice (xC A15 c15 (x2.toNat) 1) (n15-x2.toNat) (c15-x2.toNat),.slice A17 n17 c17] w36 (aS fun v5 w37=>∃x3,v5=(.int .u64 x3)/\0<=x2/\x2<=(n15:Int)/\Calls P F.Hz #[.slice (xC A15 c15 (x2.toNat) 1) (n15-x2.toNat) (c15-x2.toNat),.slice A17 n17 c17,.int .u64 x3] w37 (aS fun v6 w38=>∃b1,v6=(.bool b1)/\(b1=true->(0<=x2/\x2<=(n15:Int)/\Calls P F.Hw #[.slice (xC A15 c15 (x2.toNat) 1) (n15-x2.toNat) (c15-x2.toNat),.slice A17 n17 c17] w38 (aS fun v7 w39=>v7=(.tuple #[])/\(oC x2 n18 A18 k3 I2) (IntKind.wrap .u64 (x3-1)) w39)))/\(b1=false->((oC x2 n18 A18 k3 I2) x3 w38))))))/\(¬(0<=x2)->(0<=(n17:Int)/\(n17:Int)<=(c15:Int)/\Calls P F.Ag #[.slice A15 ((n17:Int).toNat) c15] w36 (aS fun v8 w42=>∃A19 n19 c19,v8=(.slice A19 n19 c19)/\Calls P F.rC #[.slice A19 n19 c19,(.int .u32 (IntKind.wrap .u32 (IntKind.wrap .u64 (Int.tdiv 1000000000 (IntKind.wrap .u64 ((IntKind.wrap .u64 x1)+1))))))] w42 (aS fun v9 w43=>∃A20 n20 c20,∃x5,v9=(.tuple #[.slice A20 n20 c20,.int .u32 x5])/\Calls P F.Ag #[.slice A18 n18 c18] w43 (aS fun v10 w44=>∃A21 n21 c21,v10=(.slice A21 n21 c21)/\K A21 n21 c21 A20 n20 c20 w44))))))))))))
def Ua (A1:Option Addr) (n1 c1:Nat) (A2:Option Addr) (n2 c2:Nat) (K:Option Addr->Nat->Nat->Option Addr->Nat->Nat->World->Prop) (w:World):Prop:=
 0<=IntKind.wrap .i64 ((n2:Int)-1)/\IntKind.wrap .i64 ((n2:Int)-1)<(n2:Int)/\∃a1,A2=some a1/\∃x1,w.cell? (a1.add ((IntKind.wrap .i64 ((n2:Int)-1)).toNat*1))=some (.int .u32 x1)/\(IntKind.wrap .u64 ((IntKind.wrap .u64 x1)+1))≠0/\(∀w11,aP w w11->∃(A5:Option Addr) (n5 c5:Nat) (w1:World),(Instr.makeSlice T.dH (.int .i64 0) (.int .i64 (IntKind.wrap .i64 ((n1:Int)+2)))).run P w11= .ok (.slice A5 n5 c5) w1/\(∀w10,aP w1 w10->∀(p1:Addr) (w2:World),New w10 (.cells #[(.int .u32 (IntKind.wrap .u32 (IntKind.wrap .u64 (Int.tdiv 1000000000 (IntKind.wrap .u64 ((IntKind.wrap .u64 x1)+1))))))] T.uint32) p1 w2->(∀w4,aP w2 w4->Calls P F.fH #[.slice A1 n1 c1,.slice (some p1) 1 1] w4 (aS fun v1 w3=>∃A6 n6 c6,v1=(.slice A6 n6 c6)/\∀w9,aP w3 w9->∃(A7:Option Addr) (n7 c7:Nat) (w6:World),(Builtin.append_ #[T.dH,T.dH] T.dH #[.slice A5 n5 c5,.slice A6 n6 c6]).run P w9= .ok (.slice A7 n7 c7) w6/\(∀w7,aP w6 w7->((lQ n1 x1 A2 n2 c2 K) A7 n7 c7 w7))))))/\(∀w29,aP w w29->∀(p2:Addr) (w12:World),New w29 (.cells #[(.int .u32 (IntKind.wrap .u32 (IntKind.wrap .u64 (Int.tdiv 1000000000 (IntKind.wrap .u64 ((IntKind.wrap .u64 x1)+1))))))] T.uint32) p2 w12->((∀w20,aP w12 w20->∃(A9:Option Addr) (n9 c9:Nat) (w13:World),(Instr.makeSlice T.dH (.int .i64 0) (.int .i64 (IntKind.wrap .i64 ((n1:Int)+2)))).run P w20= .ok (.slice A9 n9 c9) w13/\(∀w15,aP w13 w15->Calls P F.fH #[.slice A1 n1 c1,.slice (some p2) 1 1] w15 (aS fun v2 w14=>∃A10 n10 c10,v2=(.slice A10 n10 c10)/\∀w19,aP w14 w19->∃(A11:Option Addr) (n11 c11:Nat) (w17:World),(Builtin.append_ #[T.dH,T.dH] T.dH #[.slice A9 n9 c9,.slice A10 n10 c10]).run P w19= .ok (.slice A11 n11 c11) w17/\(∀w18,aP w17 w18->((lQ n1 x1 A2 n2 c2 K) A11 n11 c11 w18)))))/\(∀w22,aP w12 w22->Calls P F.fH #[.slice A1 n1 c1,.slice (some p2) 1 1] w22 (aS fun v3 w21=>∃A12 n12 c12,v3=(.slice A12 n12 c12)/\∀w28,aP w21 w28->∃(A13:Option Addr) (n13 c13:Nat) (w24:World),(Instr.makeSlice T.dH (.int .i64 0) (.int .i64 (IntKind.wrap .i64 ((n1:Int)+2)))).run P w28= .ok (.slice A13 n13 c13) w24/\(∀w27,aP w24 w27->∃(A14:Option Addr) (n14 c14:Nat) (w25:World),(Builtin.append_ #[T.dH,T.dH] T.dH #[.slice A13 n13 c13,.slice A12 n12 c12]).run P w27= .ok (.slice A14 n14 c14) w25/\(∀w26,aP w25 w26->((lQ n1 x1 A2 n2 c2 K) A14 n14 c14 w26)))))))
theorem aDw (A1:Option Addr) (n1 c1:Nat) (A2:Option Addr) (n2 c2:Nat) (K:Option Addr->Nat->Nat->Option Addr->Nat->Nat->World->Prop) (w:World) (H:Ua A1 n1 c1 A2 n2 c2 K w):Calls P F.Ye #[.slice A1 n1 c1,.slice A2 n2 c2] w (aS fun v w'=>∃A3 n3 c3,∃A4 n4 c4,v=(.tuple #[.slice A3 n3 c3,.slice A4 n4 c4])/\K A3 n3 c3 A4 n4 c4 w'):=by
 unfold Ua at H;refine aY (P:=P) Tryz.func222 rfl [(0,.slice A1 n1 c1),(1,.slice A2 n2 c2)] 96 rfl rfl (aa rfl (aa rfl az)) (aB (aA (ag rfl (ag rfl (aC (nc (y2 0 1 rfl) (aB (aA (mv rfl (mv rfl (sv rfl rfl (xb rfl (fun _=>bD TF.aU)) (bo rfl rfl jB ?_))))))))))));obtain⟨h1,h2,a1,e1,H⟩:=H;refine ix rfl rfl (bG TF.bJ TF.bH e1 h1 h2) ?_;obtain⟨x1,h3,H⟩:=H;refine ld rfl (aJ TF.dA h3) (sv rfl rfl (fun a ha=>dB (ha.ev rfl) (iC TF.dL TF.dO)) (bo rfl rfl dJ ?_));obtain⟨h4,H⟩:=H;refine bo rfl rfl (Ai h4) (sv rfl rfl (fun a ha=>dB (ha.ev rfl) (iC TF.dO TF.dL)) (ag rfl (aC (nc (y3 0 1 6 rfl) ?_))));refine dI (fun a w=>∃A8 n8 c8,Ok 96 [(0,.slice A1 n1 c1),(1,.slice A2 n2 c2),(6,(.int .u32 (IntKind.wrap .u32 (IntKind.wrap .u64 (Int.tdiv 1000000000 (IntKind.wrap .u64 ((IntKind.wrap .u64 x1)+1))))))),(7,.slice A8 n8 c8)] a/\lQ n1 x1 A2 n2 c2 K A8 n8 c8 w) ?_ ?_
 ·rintro a w8 ⟨A8,n8,c8,ha,H⟩;unfold lQ at H;refine cu ha ?_;refine aB (aV ?_);obtain⟨I1,⟨k1,hi⟩,H⟩:=H;refine dM (fun k1 a w'=>∃A15 n15 c15,Ok 96 [(0,.slice A1 n1 c1),(1,.slice A2 n2 c2),(6,(.int .u32 (IntKind.wrap .u32 (IntKind.wrap .u64 (Int.tdiv 1000000000 (IntKind.wrap .u64 ((IntKind.wrap .u64 x1)+1))))))),(7,.slice A15 n15 c15)] a/\I1 k1 A15 n15 c15 w') (fun a ha=>⟨k1,A8,n8,c8,ha.weaken cs,hi⟩) ?_;rintro k1 a w30 ⟨A15,n15,c15,ha,hI⟩;replace H:=H k1 A15 n15 c15 w30 hI;refine cu ha ?_;refine aB (aB (aA (mv rfl (sv rfl rfl (xb rfl (fun _=>bD TF.aU)) (mv rfl (sv rfl rfl (xb rfl (fun _=>bD TF.aU)) (bo rfl rfl dJ (bo rfl rfl fO (aC (nc (y5 0 1 6 7 39 rfl) ?_))))))))));refine aK rfl (fun hb=> ?_) (fun hb=> ?_)
  ·replace H:=H.1 hb;refine aN (nc (y4 0 1 6 7 rfl) (aV (aA (mv rfl (sz rfl rfl (xl 1 1 (.cells #[.int .u32 0] T.uint32) rfl) ?_)))));intro p3 w31 hN;obtain⟨A16,n16,c16,w32,h17,H⟩:=H _ _ hN;refine sv rfl rfl (xb rfl (fun _=>kG h17)) (ag rfl (aC (bQ ?_)));obtain⟨k2,hk,H⟩:=H;exact aT fun a ha=>⟨k2,hk,A16,n16,c16,ha.weaken cs,H⟩
  ·replace H:=H.2 hb;refine bW (aH (aH (aZ (nc (y3 1 6 7 rfl) (aB (aA (mv rfl (mv rfl (sz rfl rfl (xl 1 1 (.cells #[(.int .u32 (IntKind.wrap .u32 (IntKind.wrap .u64 (Int.tdiv 1000000000 (IntKind.wrap .u64 ((IntKind.wrap .u64 x1)+1))))))] T.uint32) rfl) ?_)))))))));intro p4 w33 hN;replace H:=H _ _ hN;refine sc rfl rfl FF.dD H ?_;rintro _ w34 ⟨A17,n17,c17,rfl,H⟩;refine ag rfl (aC (nc (y3 6 7 8 rfl) (aB (aA (mv rfl (sv rfl rfl (xb rfl (fun _=>bD TF.aU)) (ag rfl (aC (nc (y4 6 7 8 9 rfl) (aB (aA (mv rfl (sv rfl rfl (xb rfl (fun _=>bD TF.aU)) (mv rfl (bo rfl rfl jB ?_)))))))))))))));obtain⟨A18,n18,c18,w35,h18,H⟩:=H;refine sv rfl rfl (fun a ha=>gB (ha.ev rfl) (ha.ev rfl) h18) (ag rfl (aC (nc (y5 6 7 8 9 10 rfl) (aB (aB (aA (mv rfl (sv rfl rfl (xb rfl (fun _=>bD TF.aU)) (bo rfl rfl jB (ag rfl (aC (nc (y6 6 7 8 9 10 11 rfl) (aV ?_)))))))))))));obtain⟨I2,⟨k3,hi⟩,H⟩:=H;refine dM (fun k3 a w'=>∃x2,Ok 96 [(6,(.int .u32 (IntKind.wrap .u32 (IntKind.wrap .u64 (Int.tdiv 1000000000 (IntKind.wrap .u64 ((IntKind.wrap .u64 x1)+1))))))),(7,.slice A15 n15 c15),(8,.slice A17 n17 c17),(9,.int .i64 (n17:Int)),(10,.slice A18 n18 c18),(11,.int .i64 x2)] a/\I2 k3 x2 w') (fun a ha=>⟨k3,IntKind.wrap .i64 ((n18:Int)-1),ha.weaken cs,hi⟩) ?_;rintro k3 a w36 ⟨x2,ha,hI⟩;replace H:=H k3 x2 w36 hI;refine cu ha ?_;refine aB (aB (aA (mv rfl (bo rfl rfl Nr (aC (nc (y7 6 7 8 9 10 11 58 rfl) ?_))))));refine aK rfl (fun hb=> ?_) (fun hb=> ?_)
   ·replace H:=H.1 hb;refine aN (nc (y6 6 7 8 9 10 11 rfl) (aB (aV (aB (aA (mv rfl (mv rfl ?_)))))));obtain⟨h19,h20,H⟩:=H;refine sv rfl rfl (fun a ha=>qR (ha.ev rfl) (qA (ha.ev rfl)) rfl rfl (Uw TF.bJ TF.bH h19 h20)) (mv rfl (sc rfl rfl FF.Xg H ?_));rintro _ w37 ⟨x3,rfl,H⟩;refine ag rfl (aC (nc (y7 6 7 8 9 10 11 12 rfl) ?_));refine dI (fun a w=>∃x4,Ok 96 [(6,(.int .u32 (IntKind.wrap .u32 (IntKind.wrap .u64 (Int.tdiv 1000000000 (IntKind.wrap .u64 ((IntKind.wrap .u64 x1)+1))))))),(7,.slice A15 n15 c15),(8,.slice A17 n17 c17),(9,.int .i64 (n17:Int)),(10,.slice A18 n18 c18),(11,.int .i64 x2),(12,.int .u64 x4)] a/\oC x2 n18 A18 k3 I2 x4 w) ?_ ?_
    ·rintro a w40 ⟨x4,ha,H⟩;unfold oC at H;refine cu ha ?_;refine aA (mv rfl (mv rfl (mv rfl (sv rfl rfl (fun a ha=>dB (ha.ev rfl) (iC TF.dO TF.dL)) ?_))));obtain⟨h31,h32,a2,e2,H⟩:=H;refine ix rfl rfl (bG TF.bJ TF.bH e2 h31 h32) ?_;obtain⟨⟨u1,h33⟩,h34,H⟩:=H;refine gX rfl (aF rfl) (xs rfl rfl (fE TF.bH rfl rfl h33 h34)) ?_;intro w41 hw;replace H:=H _ hw;clear hw;refine aC (bQ (nc (y6 6 7 8 9 10 11 rfl) (aA (mv rfl (bo rfl rfl jB (ag rfl (aC ?_)))))));obtain⟨k4,hk,H⟩:=H;exact aT fun a ha=>⟨k4,hk,IntKind.wrap .i64 (x2-1),ha.weaken cs,H⟩
    ·refine aB (aA (mv rfl (mv rfl ?_)));obtain⟨h23,h24,H⟩:=H;refine sv rfl rfl (fun a ha=>qR (ha.ev rfl) (qA (ha.ev rfl)) rfl rfl (Uw TF.bJ TF.bH h23 h24)) (mv rfl (mv rfl (sc rfl rfl FF.Xh H ?_)));rintro _ w38 ⟨b1,rfl,H⟩;refine aC (nc (y8 6 7 8 9 10 11 12 71 rfl) ?_);refine dG rfl (fun hb=> ?_) (fun hb=> ?_)
     ·replace H:=H.1 hb;refine aB (aA (mv rfl (bo rfl rfl jB (ag rfl (aC (nc (y7 6 7 8 9 10 11 12 rfl) (aA (mv rfl (mv rfl ?_)))))))));obtain⟨h27,h28,H⟩:=H;refine sv rfl rfl (fun a ha=>qR (ha.ev rfl) (qA (ha.ev rfl)) rfl rfl (Uw TF.bJ TF.bH h27 h28)) (mv rfl (sc rfl rfl FF.Xd H ?_));rintro _ w39 ⟨rfl,H⟩;exact aC (aT fun a ha=>⟨IntKind.wrap .u64 (x3-1),ha.weaken cs,H⟩)
     ·replace H:=H.2 hb;exact aN (aT fun a ha=>⟨x3,ha.weaken cs,H⟩)
   ·replace H:=H.2 hb;refine bW (aH (aH (aZ (nc (y4 6 7 9 10 rfl) (aB (aA (mv rfl (mv rfl ?_))))))));obtain⟨h35,h36,H⟩:=H;refine sv rfl rfl (fun a ha=>qR (ha.ev rfl) rfl (qA (ha.ev rfl)) rfl (Ht TF.bJ TF.bH h35 h36)) (sc rfl rfl FF.lV H ?_);rintro _ w42 ⟨A19,n19,c19,rfl,H⟩;refine mv rfl (sc rfl rfl FF.rE H ?_);rintro _ w43 ⟨A20,n20,c20,x5,rfl,H⟩;refine mv rfl (sv rfl rfl (xe rfl rfl) (sv rfl rfl (xe rfl rfl) (ag rfl (ag rfl (aC (nc (y2 10 13 rfl) (aB (aA (mv rfl (sc rfl rfl FF.lV H ?_))))))))));rintro _ w44 ⟨A21,n21,c21,rfl,H⟩;exact mv rfl (ag rfl (ag rfl (aC (nc (y2 4 5 rfl) (aW (aG (wF rfl rfl rfl) ⟨_,rfl,_,_,_,_,_,_,rfl,H⟩))))))
 ·refine dW follows [0,1,2,4,5,9] [] 10 rfl rfl (by kernel_rfl) (fun _ _ d _ _ h=>by cases d<;>exact h) (fun cm W D=> ?_);refine Ez 0 cm rfl rfl D fun _ D=>(Ji 1 cm rfl rfl rfl (fun w' a ha=>Zd (ha.evs rfl) (fun _=>bD TF.aU)) D fun _ D=>(Ji 2 cm rfl rfl rfl (fun w' a ha=>dK (ha.ev rfl) (ha.ev rfl) dJ) D fun _ D=>(Ez 4 cm rfl rfl D fun _ D=>(Ez 5 cm rfl rfl D fun _ D=> ?_))));refine pW (rs:=[3,6]) (by kernel_rfl) rfl (iM ?_ (iM ?_ Af))
  ·replace H:=H.1;obtain⟨A5,n5,c5,w1,h5,H⟩:=H _ D;refine aB0 rfl rfl rfl (aF rfl) (fun a ha=>gB (ha.ev rfl) (ha.ev rfl) h5) rfl false (by kernel_rfl) ?_;intro _ D;refine⟨fun h=>(by cases h),?_⟩;refine ar 6 ?_;replace H:=H _ D;refine kS (f:=(fun p=> .slice (some p) 1 1)) rfl rfl rfl (aF rfl) (xl 1 1 (.cells #[(.int .u32 (IntKind.wrap .u32 (IntKind.wrap .u64 (Int.tdiv 1000000000 (IntKind.wrap .u64 ((IntKind.wrap .u64 x1)+1))))))] T.uint32) rfl) rfl false (by kernel_rfl) ?_;intro p1 w2 hN _ D;replace H:=H _ _ hN;refine⟨fun h=>(by cases h),?_⟩;refine ar 7 ?_;replace H:=H _ D;refine iZ rfl rfl rfl (aF rfl) (xc rfl rfl FF.dD) rfl false (by kernel_rfl) H ?_;rintro _ w3 ⟨A6,n6,c6,rfl,H⟩ _ D;refine⟨fun h=>(by cases h),?_⟩;refine ar 8 ?_;obtain⟨A7,n7,c7,w6,h8,H⟩:=H _ D;refine aB0 rfl rfl rfl (aF rfl) (xb rfl (fun _=>kG h8)) rfl false (by kernel_rfl) ?_;intro _ D;refine⟨fun h=>(by cases h),?_⟩;refine vP 9 cm rfl rfl D fun _ D=>(dU (by kernel_rfl) D ?_);intro w7 D;replace H:=H _ D;clear D cm;exact aT fun a ha=>⟨A7,n7,c7,ha.weaken cs,H⟩
  ·replace H:=H.2;replace H:=H _ D;refine kS (f:=(fun p=> .slice (some p) 1 1)) rfl rfl rfl (aF rfl) (xl 1 1 (.cells #[(.int .u32 (IntKind.wrap .u32 (IntKind.wrap .u64 (Int.tdiv 1000000000 (IntKind.wrap .u64 ((IntKind.wrap .u64 x1)+1))))))] T.uint32) rfl) rfl false (by kernel_rfl) ?_;intro p2 w12 hN _ D;replace H:=H _ _ hN;refine⟨fun h=>(by cases h),?_⟩;refine pW (rs:=[3,7]) (by kernel_rfl) rfl (iM ?_ (iM ?_ Af))
   ·replace H:=H.1;obtain⟨A9,n9,c9,w13,h9,H⟩:=H _ D;refine aB0 rfl rfl rfl (aF rfl) (fun a ha=>gB (ha.ev rfl) (ha.ev rfl) h9) rfl false (by kernel_rfl) ?_;intro _ D;refine⟨fun h=>(by cases h),?_⟩;refine ar 7 ?_;replace H:=H _ D;refine iZ rfl rfl rfl (aF rfl) (xc rfl rfl FF.dD) rfl false (by kernel_rfl) H ?_;rintro _ w14 ⟨A10,n10,c10,rfl,H⟩ _ D;refine⟨fun h=>(by cases h),?_⟩;refine ar 8 ?_;obtain⟨A11,n11,c11,w17,h12,H⟩:=H _ D;refine aB0 rfl rfl rfl (aF rfl) (xb rfl (fun _=>kG h12)) rfl false (by kernel_rfl) ?_;intro _ D;refine⟨fun h=>(by cases h),?_⟩;refine vP 9 cm rfl rfl D fun _ D=>(dU (by kernel_rfl) D ?_);intro w18 D;replace H:=H _ D;clear D cm;exact aT fun a ha=>⟨A11,n11,c11,ha.weaken cs,H⟩
   ·replace H:=H.2;replace H:=H _ D;refine iZ rfl rfl rfl (aF rfl) (xc rfl rfl FF.dD) rfl false (by kernel_rfl) H ?_;rintro _ w21 ⟨A12,n12,c12,rfl,H⟩ _ D;refine⟨fun h=>(by cases h),?_⟩;refine ar 3 ?_;obtain⟨A13,n13,c13,w24,h15,H⟩:=H _ D;refine aB0 rfl rfl rfl (aF rfl) (fun a ha=>gB (ha.ev rfl) (ha.ev rfl) h15) rfl false (by kernel_rfl) ?_;intro _ D;refine⟨fun h=>(by cases h),?_⟩;refine ar 8 ?_;obtain⟨A14,n14,c14,w25,h16,H⟩:=H _ D;refine aB0 rfl rfl rfl (aF rfl) (xb rfl (fun _=>kG h16)) rfl false (by kernel_rfl) ?_;intro _ D;refine⟨fun h=>(by cases h),?_⟩;refine vP 9 cm rfl rfl D fun _ D=>(dU (by kernel_rfl) D ?_);intro w26 D;replace H:=H _ D;clear D cm;exact aT fun a ha=>⟨A14,n14,c14,ha.weaken cs,H⟩
def uH (n2:Nat) (A2:Option Addr) (x7:Int) (jc2:Int->World->Prop) (x6:Int) (k1:Nat) (I1:Nat->Int->Int->World->Prop) (b1:Bool) (w5:World):Prop:=
 (b1=true->(0<=IntKind.wrap .i64 ((n2:Int)-1)/\IntKind.wrap .i64 ((n2:Int)-1)<(n2:Int)/\∃a7,A2=some a7/\∃x10,w5.cell? (a7.add ((IntKind.wrap .i64 ((n2:Int)-1)).toNat*1))=some (.int .u32 x10)/\(1000000000<=(IntKind.wrap .u64 (x7+(IntKind.wrap .u64 x10)))->(jc2 (IntKind.wrap .u64 (x6-1)) w5))/\(¬(1000000000<=(IntKind.wrap .u64 (x7+(IntKind.wrap .u64 x10))))->(∃k2,k2<k1/\I1 k2 (IntKind.wrap .u64 (x6-1)) (IntKind.wrap .u64 (x7+(IntKind.wrap .u64 x10))) w5))))/\(b1=false->(jc2 x6 w5))
def pI (K:Int->World->Prop) (x11:Int) (w7:World):Prop:=
 K x11 w7
def Ph (A1:Option Addr) (n1 c1:Nat) (A2:Option Addr) (n2 c2:Nat) (K:Int->World->Prop) (w:World):Prop:=
 0<=(n2:Int)/\(n2:Int)<(n1:Int)/\∃a1,A1=some a1/\∃x2,w.cell? (a1.add ((n2:Int).toNat*1))=some (.int .u32 x2)/\0<=IntKind.wrap .i64 ((n2:Int)-1)/\IntKind.wrap .i64 ((n2:Int)-1)<(n1:Int)/\∃a2,A1=some a2/\∃x3,w.cell? (a2.add ((IntKind.wrap .i64 ((n2:Int)-1)).toNat*1))=some (.int .u32 x3)/\∀w1,aP w w1->(0<=IntKind.wrap .i64 ((n2:Int)-1)/\IntKind.wrap .i64 ((n2:Int)-1)<(n2:Int)/\∃a3,A2=some a3/\∃x4,w1.cell? (a3.add ((IntKind.wrap .i64 ((n2:Int)-1)).toNat*1))=some (.int .u32 x4)/\(IntKind.wrap .u64 x4)≠0/\0<=IntKind.wrap .i64 ((n2:Int)-1)/\IntKind.wrap .i64 ((n2:Int)-1)<(n2:Int)/\∃a4,A2=some a4/\∃x5,w1.cell? (a4.add ((IntKind.wrap .i64 ((n2:Int)-1)).toNat*1))=some (.int .u32 x5)/\(IntKind.wrap .u64 x5)≠0/\∀w2,aP w1 w2->(∃I1:Nat->Int->Int->World->Prop,(∃k1,I1 k1 (IntKind.wrap .u64 (Int.tdiv (IntKind.wrap .u64 ((IntKind.wrap .u64 ((IntKind.wrap .u64 x2)*1000000000))+(IntKind.wrap .u64 x3))) (IntKind.wrap .u64 x4))) (Int.tmod (IntKind.wrap .u64 ((IntKind.wrap .u64 ((IntKind.wrap .u64 x2)*1000000000))+(IntKind.wrap .u64 x3))) (IntKind.wrap .u64 x5)) w2)/\∀k1 (x6:Int) (x7:Int) (w3:World),I1 k1 x6 x7 w3->((1000000000<=x6->(∀w4,aP w3 w4->((uH n2 A2 x7 (pI K) x6 k1 I1) true w4)))/\(¬(1000000000<=x6)->(0<=IntKind.wrap .i64 ((n2:Int)-2)/\IntKind.wrap .i64 ((n2:Int)-2)<(n2:Int)/\∃a5,A2=some a5/\∃x8,w3.cell? (a5.add ((IntKind.wrap .i64 ((n2:Int)-2)).toNat*1))=some (.int .u32 x8)/\0<=IntKind.wrap .i64 ((n2:Int)-2)/\IntKind.wrap .i64 ((n2:Int)-2)<(n1:Int)/\∃a6,A1=some a6/\∃x9,w3.cell? (a6.add ((IntKind.wrap .i64 ((n2:Int)-2)).toNat*1))=some (.int .u32 x9)/\∀w6,aP w3 w6->((uH n2 A2 x7 (pI K) x6 k1 I1) (decide ((IntKind.wrap .u64 ((IntKind.wrap .u64 (x7*1000000000))+(IntKind.wrap .u64 x9)))<(IntKind.wrap .u64 (x6*(IntKind.wrap .u64 x8))))) w6))))))
theorem aDi (A1:Option Addr) (n1 c1:Nat) (A2:Option Addr) (n2 c2:Nat) (K:Int->World->Prop) (w:World) (H:Ph A1 n1 c1 A2 n2 c2 K w):Calls P F.Ia #[.slice A1 n1 c1,.slice A2 n2 c2] w (aS fun v w'=>∃x1,v=(.int .u64 x1)/\K x1 w'):=by
 unfold Ph at H;refine aY (P:=P) Tryz.func244 rfl [(0,.slice A1 n1 c1),(1,.slice A2 n2 c2)] 75 rfl rfl (aa rfl (aa rfl az)) (aB (aA (ag rfl (aC (nc (y2 0 1 rfl) (aB (aA (mv rfl (sv rfl rfl (xb rfl (fun _=>bD TF.aU)) (ag rfl (aC (nc (y3 0 1 5 rfl) (aB ?_)))))))))))));refine dW follows [0,1,2,3,4,5,6,7,8,9,10,11,12,13] [3,10] 14 rfl rfl (by kernel_rfl) (fun _ _ d _ _ h=>by cases d<;>exact h) (fun cm W D=> ?_);refine lU 0 cm rfl rfl D W fun _ D W=>(lU 1 cm rfl rfl D W fun _ D W=> ?_);obtain⟨h1,h2,a1,e1,H⟩:=H;refine Vu 2 cm rfl rfl rfl (bG TF.bJ TF.bH e1 h1 h2) D W fun _ D W=> ?_;obtain⟨x2,h3,H⟩:=H;refine vl 3 cm rfl rfl (fun hw=>(aJ TF.dA ((hw.cell _).trans h3))) D W fun _ D W=>(pv 4 cm rfl rfl rfl (fun w' a ha=>dB (ha.ev rfl) (iC TF.dL TF.dO)) D W fun _ D W=>(pv 5 cm rfl rfl rfl (fun w' a ha=>dK (ha.ev rfl) (ha.ev rfl) Aq) D W fun _ D W=>(lU 6 cm rfl rfl D W fun _ D W=>(lU 7 cm rfl rfl D W fun _ D W=>(pv 8 cm rfl rfl rfl (fun w' a ha=>dK (ha.ev rfl) (ha.ev rfl) jB) D W fun _ D W=> ?_)))));obtain⟨h4,h5,a2,e2,H⟩:=H;refine Vu 9 cm rfl rfl rfl (bG TF.bJ TF.bH e2 h4 h5) D W fun _ D W=> ?_;obtain⟨x3,h6,H⟩:=H;refine vl 10 cm rfl rfl (fun hw=>(aJ TF.dA ((hw.cell _).trans h6))) D W fun _ D W=>(Ji 11 cm rfl rfl rfl (fun w' a ha=>dB (ha.ev rfl) (iC TF.dL TF.dO)) D fun _ D=>(Ji 12 cm rfl rfl rfl (fun w' a ha=>dK (ha.ev rfl) (ha.ev rfl) dJ) D fun _ D=>(vP 13 cm rfl rfl D fun _ D=>(dU (by kernel_rfl) D ?_))));intro w1 D;replace H:=H _ D;clear D cm;refine nc (y4 0 1 5 6 rfl) (aB ?_);refine dW follows [0,1,2,3,4,5,6,7,8,9,10,11,12,13,14,15,16,17] [5,13] 18 rfl rfl (by kernel_rfl) (fun _ _ d _ _ h=>by cases d<;>exact h) (fun cm W D=> ?_);refine lU 0 cm rfl rfl D W fun _ D W=>(lU 1 cm rfl rfl D W fun _ D W=>(lU 2 cm rfl rfl D W fun _ D W=>(pv 3 cm rfl rfl rfl (fun w' a ha=>dK (ha.ev rfl) (ha.ev rfl) jB) D W fun _ D W=> ?_)));obtain⟨h7,h8,a3,e3,H⟩:=H;refine Vu 4 cm rfl rfl rfl (bG TF.bJ TF.bH e3 h7 h8) D W fun _ D W=> ?_;obtain⟨x4,h9,H⟩:=H;refine vl 5 cm rfl rfl (fun hw=>(aJ TF.dA ((hw.cell _).trans h9))) D W fun _ D W=>(pv 6 cm rfl rfl rfl (fun w' a ha=>dB (ha.ev rfl) (iC TF.dL TF.dO)) D W fun _ D W=> ?_);obtain⟨h10,H⟩:=H;refine pv 7 cm rfl rfl rfl (fun w' a ha=>dK (ha.ev rfl) (ha.ev rfl) (Ai h10)) D W fun _ D W=>(lU 8 cm rfl rfl D W fun _ D W=>(lU 9 cm rfl rfl D W fun _ D W=>(lU 10 cm rfl rfl D W fun _ D W=>(pv 11 cm rfl rfl rfl (fun w' a ha=>dK (ha.ev rfl) (ha.ev rfl) jB) D W fun _ D W=> ?_))));obtain⟨h11,h12,a4,e4,H⟩:=H;refine Vu 12 cm rfl rfl rfl (bG TF.bJ TF.bH e4 h11 h12) D W fun _ D W=> ?_;obtain⟨x5,h13,H⟩:=H;refine vl 13 cm rfl rfl (fun hw=>(aJ TF.dA ((hw.cell _).trans h13))) D W fun _ D W=>(Ji 14 cm rfl rfl rfl (fun w' a ha=>dB (ha.ev rfl) (iC TF.dL TF.dO)) D fun _ D=> ?_);obtain⟨h14,H⟩:=H;refine Ji 15 cm rfl rfl rfl (fun w' a ha=>dK (ha.ev rfl) (ha.ev rfl) (Gt h14)) D fun _ D=>(vP 16 cm rfl rfl D fun _ D=>(vP 17 cm rfl rfl D fun _ D=>(dU (by kernel_rfl) D ?_)));intro w2 D;replace H:=H _ D;clear D cm;refine nc (y5 0 1 5 7 8 rfl) ?_;refine dI (fun a w=>∃x11,Ok 75 [(7,.int .u64 x11)] a/\pI K x11 w) ?_ ?_
 ·rintro a w7 ⟨x11,ha,H⟩;unfold pI at H;refine cu ha ?_;exact aB (aA (mv rfl (ag rfl (aC (nc (kp 4 rfl zz) (aW (aG (res1 rfl rfl) ⟨_,rfl,_,rfl,H⟩)))))))
 ·refine aV ?_;obtain⟨I1,⟨k1,hi⟩,H⟩:=H;refine dM (fun k1 a w'=>∃x6,∃x7,Ok 75 [(0,.slice A1 n1 c1),(1,.slice A2 n2 c2),(5,.int .i64 (n2:Int)),(7,.int .u64 x6),(8,.int .u64 x7)] a/\I1 k1 x6 x7 w') (fun a ha=>⟨k1,IntKind.wrap .u64 (Int.tdiv (IntKind.wrap .u64 ((IntKind.wrap .u64 ((IntKind.wrap .u64 x2)*1000000000))+(IntKind.wrap .u64 x3))) (IntKind.wrap .u64 x4)),Int.tmod (IntKind.wrap .u64 ((IntKind.wrap .u64 ((IntKind.wrap .u64 x2)*1000000000))+(IntKind.wrap .u64 x3))) (IntKind.wrap .u64 x5),ha.weaken cs,hi⟩) ?_;rintro k1 a w3 ⟨x6,x7,ha,hI⟩;replace H:=H k1 x6 x7 w3 hI;refine cu ha ?_;refine aB ?_;refine dI (fun a w=>∃b1,Ok 75 [(0,.slice A1 n1 c1),(1,.slice A2 n2 c2),(5,.int .i64 (n2:Int)),(7,.int .u64 x6),(8,.int .u64 x7),(61,.bool b1)] a/\uH n2 A2 x7 (pI K) x6 k1 I1 b1 w) ?_ ?_
  ·rintro a w5 ⟨b1,ha,H⟩;unfold uH at H;refine cu ha ?_;refine dG rfl (fun hb=> ?_) (fun hb=> ?_)
   ·replace H:=H.1 hb;refine aN (nc (y5 0 1 5 7 8 rfl) (aV (aB (aA (mv rfl (bo rfl rfl jB (ag rfl (aC (nc (y5 0 1 5 7 8 rfl) (aB (aA (mv rfl (mv rfl (mv rfl (bo rfl rfl jB ?_)))))))))))))));obtain⟨h21,h22,a7,e7,H⟩:=H;refine ix rfl rfl (bG TF.bJ TF.bH e7 h21 h22) ?_;obtain⟨x10,h23,H⟩:=H;refine ld rfl (aJ TF.dA h23) (sv rfl rfl (fun a ha=>dB (ha.ev rfl) (iC TF.dL TF.dO)) (bo rfl rfl dJ (ag rfl (aC (nc (y5 0 1 5 7 8 rfl) (aB (aA (mv rfl (bo rfl rfl Nr (aC (nc (y6 0 1 5 7 8 73 rfl) ?_)))))))))));refine aK rfl (fun hb=> ?_) (fun hb=> ?_)
    ·replace H:=H.1 hb;exact bW (Qb rfl (aH (aZ (aT fun a ha=>⟨IntKind.wrap .u64 (x6-1),ha.weaken cs,H⟩))))
    ·replace H:=H.2 hb;refine aN (bQ ?_);obtain⟨k2,hk,H⟩:=H;exact aT fun a ha=>⟨k2,hk,IntKind.wrap .u64 (x6-1),IntKind.wrap .u64 (x7+(IntKind.wrap .u64 x10)),ha.weaken cs,H⟩
   ·replace H:=H.2 hb;exact bW (aH (aH (aZ (aT fun a ha=>⟨x6,ha.weaken cs,H⟩))))
  ·refine dW follows [0,1,2,3,4,5,6,7,8,9,10,11,12,13,14,15,16,17,18,19,20,21] [8,17] 22 rfl rfl (by kernel_rfl) (fun _ _ d _ _ h=>by cases d<;>exact h) (fun cm W D=> ?_);refine lU 0 cm rfl rfl D W fun _ D W=>(pv 1 cm rfl rfl rfl (fun w' a ha=>dK (ha.ev rfl) (ha.ev rfl) Nr) D W fun _ D W=> ?_);rcases Classical.em (1000000000<=x6) with hb|hb
   ·replace H:=H.1 hb;refine pv 2 cm rfl rfl rfl (fun w' a ha=>o_t (eU (ha.ev rfl)) hb) D W fun _ D W=>(ps 3 cm rfl rfl rfl rfl rfl D W fun _ D W=>(ps 4 cm rfl rfl rfl rfl rfl D W fun _ D W=>(ps 5 cm rfl rfl rfl rfl rfl D W fun _ D W=>(ps 6 cm rfl rfl rfl rfl rfl D W fun _ D W=>(ps 7 cm rfl rfl rfl rfl rfl D W fun _ D W=>(ps 8 cm rfl rfl rfl rfl rfl D W fun _ D W=>(ps 9 cm rfl rfl rfl rfl rfl D W fun _ D W=>(ps 10 cm rfl rfl rfl rfl rfl D W fun _ D W=>(ps 11 cm rfl rfl rfl rfl rfl D W fun _ D W=>(ps 12 cm rfl rfl rfl rfl rfl D W fun _ D W=>(ps 13 cm rfl rfl rfl rfl rfl D W fun _ D W=>(ps 14 cm rfl rfl rfl rfl rfl D W fun _ D W=>(ps 15 cm rfl rfl rfl rfl rfl D W fun _ D W=>(ps 16 cm rfl rfl rfl rfl rfl D W fun _ D W=>(ps 17 cm rfl rfl rfl rfl rfl D W fun _ D W=>(Qx 18 cm rfl rfl rfl rfl rfl D fun _ D=>(Qx 19 cm rfl rfl rfl rfl rfl D fun _ D=>(Qx 20 cm rfl rfl rfl rfl rfl D fun _ D=>(aFj 21 cm rfl rfl rfl D fun _ D=>(dU (by kernel_rfl) D ?_))))))))))))))))))));intro w4 D;replace H:=H _ D;clear D cm;exact aT fun a ha=>⟨true,ha.weaken cs,H⟩
   ·replace H:=H.2 hb;refine pv 2 cm rfl rfl rfl (fun w' a ha=>o_f (eU (ha.ev rfl)) hb) D W fun _ D W=>(aGu 3 cm rfl rfl rfl rfl D W fun _ D W=>(aGu 4 cm rfl rfl rfl rfl D W fun _ D W=>(aGu 5 cm rfl rfl rfl rfl D W fun _ D W=>(pvg 6 cm rfl rfl rfl rfl rfl (fun w' a ha=>dK (ha.ev rfl) (ha.ev rfl) jB) D W fun _ D W=> ?_))));obtain⟨h15,h16,a5,e5,H⟩:=H;refine aKy 7 cm rfl rfl rfl rfl rfl (bG TF.bJ TF.bH e5 h15 h16) D W fun _ D W=> ?_;obtain⟨x8,h17,H⟩:=H;refine vlg 8 cm rfl rfl rfl rfl (fun hw=>(aJ TF.dA ((hw.cell _).trans h17))) D W fun _ D W=>(pvg 9 cm rfl rfl rfl rfl rfl (fun w' a ha=>dB (ha.ev rfl) (iC TF.dL TF.dO)) D W fun _ D W=>(pvg 10 cm rfl rfl rfl rfl rfl (fun w' a ha=>dK (ha.ev rfl) (ha.ev rfl) Aq) D W fun _ D W=>(aGu 11 cm rfl rfl rfl rfl D W fun _ D W=>(pvg 12 cm rfl rfl rfl rfl rfl (fun w' a ha=>dK (ha.ev rfl) (ha.ev rfl) Aq) D W fun _ D W=>(aGu 13 cm rfl rfl rfl rfl D W fun _ D W=>(aGu 14 cm rfl rfl rfl rfl D W fun _ D W=>(pvg 15 cm rfl rfl rfl rfl rfl (fun w' a ha=>dK (ha.ev rfl) (ha.ev rfl) jB) D W fun _ D W=> ?_)))))));obtain⟨h18,h19,a6,e6,H⟩:=H;refine aKy 16 cm rfl rfl rfl rfl rfl (bG TF.bJ TF.bH e6 h18 h19) D W fun _ D W=> ?_;obtain⟨x9,h20,H⟩:=H;refine vlg 17 cm rfl rfl rfl rfl (fun hw=>(aJ TF.dA ((hw.cell _).trans h20))) D W fun _ D W=>(aDg 18 cm rfl rfl rfl rfl rfl (fun w' a ha=>dB (ha.ev rfl) (iC TF.dL TF.dO)) D fun _ D=>(aDg 19 cm rfl rfl rfl rfl rfl (fun w' a ha=>dK (ha.ev rfl) (ha.ev rfl) dJ) D fun _ D=>(aDg 20 cm rfl rfl rfl rfl rfl (fun w' a ha=>dK (ha.ev rfl) (ha.ev rfl) kF) D fun _ D=>(aIm 21 cm rfl rfl rfl D fun _ D=>(dU (by kernel_rfl) D ?_)))));intro w6 D;replace H:=H _ D;clear D cm;exact aT fun a ha=>⟨(decide ((IntKind.wrap .u64 ((IntKind.wrap .u64 (x7*1000000000))+(IntKind.wrap .u64 x9)))<(IntKind.wrap .u64 (x6*(IntKind.wrap .u64 x8))))),ha.weaken cs,H⟩
def tK (x4:Int) (n1:Nat) (A1:Option Addr) (w1:World) (k1:Nat) (I1:Nat->Int->Int->Int->World->Prop) (x6:Int) (x8:Int) (x9:Int):Prop:=
 0<=x4/\x4<(n1:Int)/\∃a3,A1=some a3/\(∃u1,w1.cell? (a3.add (x4.toNat*1))=some u1)/\w1.frozen? (a3.add (x4.toNat*1))=false/\∀w2,w2=w1.setCell (a3.add (x4.toNat*1)) (.int .u32 (IntKind.wrap .u32 x9))->(∃k2,k2<k1/\I1 k2 (IntKind.wrap .u64 (Int.tdiv x6 1000000000)) x8 (IntKind.wrap .i64 (x4+1)) w2)
def oW (x4:Int) (n1:Nat) (A1:Option Addr) (w1:World) (x3:Int) (k1:Nat) (I1:Nat->Int->Int->Int->World->Prop) (x6:Int):Prop:=
 0<=x4/\x4<(n1:Int)/\∃a2,A1=some a2/\∃x7,w1.cell? (a2.add (x4.toNat*1))=some (.int .u32 x7)/\((IntKind.wrap .i64 ((IntKind.wrap .i64 ((IntKind.wrap .i64 x7)-x3))-(IntKind.wrap .i64 (Int.tmod x6 1000000000))))<0->((tK x4 n1 A1 w1 k1 I1 x6) 1 (IntKind.wrap .i64 ((IntKind.wrap .i64 ((IntKind.wrap .i64 ((IntKind.wrap .i64 x7)-x3))-(IntKind.wrap .i64 (Int.tmod x6 1000000000))))+1000000000))))/\(¬((IntKind.wrap .i64 ((IntKind.wrap .i64 ((IntKind.wrap .i64 x7)-x3))-(IntKind.wrap .i64 (Int.tmod x6 1000000000))))<0)->((tK x4 n1 A1 w1 k1 I1 x6) 0 (IntKind.wrap .i64 ((IntKind.wrap .i64 ((IntKind.wrap .i64 x7)-x3))-(IntKind.wrap .i64 (Int.tmod x6 1000000000))))))
def Pv (A1:Option Addr) (n1 c1:Nat) (A2:Option Addr) (n2 c2:Nat) (x1:Int) (K:Bool->World->Prop) (w:World):Prop:=
 ∃I1:Nat->Int->Int->Int->World->Prop,(∃k1,I1 k1 0 0 0 w)/\∀k1 (x2:Int) (x3:Int) (x4:Int) (w1:World),I1 k1 x2 x3 x4 w1->((x4<(IntKind.wrap .i64 ((n2:Int)+1))->((x4<(n2:Int)->(0<=x4/\x4<(n2:Int)/\∃a1,A2=some a1/\∃x5,w1.cell? (a1.add (x4.toNat*1))=some (.int .u32 x5)/\(oW x4 n1 A1 w1 x3 k1 I1) (IntKind.wrap .u64 (x2+(IntKind.wrap .u64 (x1*(IntKind.wrap .u64 x5)))))))/\(¬(x4<(n2:Int))->((oW x4 n1 A1 w1 x3 k1 I1) x2))))/\(¬(x4<(IntKind.wrap .i64 ((n2:Int)+1)))->(K (decide (0<x3)) w1)))
theorem aCw (A1:Option Addr) (n1 c1:Nat) (A2:Option Addr) (n2 c2:Nat) (x1:Int) (K:Bool->World->Prop) (w:World) (H:Pv A1 n1 c1 A2 n2 c2 x1 K w):Calls P F.Hz #[.slice A1 n1 c1,.slice A2 n2 c2,.int .u64 x1] w (aS fun v w'=>∃b1,v=(.bool b1)/\K b1 w'):=by
 unfold Pv at H;refine aY (P:=P) Tryz.func245 rfl [(0,.slice A1 n1 c1),(1,.slice A2 n2 c2),(2,.int .u64 x1)] 57 rfl rfl (aa rfl (aa rfl (aa rfl az))) (aB (aA (ag rfl (aC (nc (y3 0 1 2 rfl) (aB (aA (ag rfl (ag rfl (aC (nc (y5 0 1 2 7 8 rfl) (aB (aB (aA (mv rfl (sv rfl rfl (xb rfl (fun _=>bD TF.aU)) (bo rfl rfl dJ (mv rfl (aC (nc (y7 0 1 2 7 8 14 15 rfl) (aV ?_)))))))))))))))))))));obtain⟨I1,⟨k1,hi⟩,H⟩:=H;refine dM (fun k1 a w'=>∃x2,∃x3,∃x4,Ok 57 [(0,.slice A1 n1 c1),(1,.slice A2 n2 c2),(2,.int .u64 x1),(7,.int .u64 x2),(8,.int .i64 x3),(14,(.int .i64 (IntKind.wrap .i64 ((n2:Int)+1)))),(15,.int .i64 x4)] a/\I1 k1 x2 x3 x4 w') (fun a ha=>⟨k1,0,0,0,ha.weaken cs,hi⟩) ?_;rintro k1 a w1 ⟨x2,x3,x4,ha,hI⟩;replace H:=H k1 x2 x3 x4 w1 hI;refine cu ha ?_;refine aB (aA (bo rfl rfl fO (aC (nc (y8 0 1 2 7 8 14 15 16 rfl) (aB ?_)))));refine aK rfl (fun hb=> ?_) (fun hb=> ?_)
 ·replace H:=H.1 hb;refine aN (nc (y7 0 1 2 7 8 14 15 rfl) (aB (aV (aB (aA (mv rfl (ag rfl (aC (nc (y8 0 1 2 7 8 9 14 15 rfl) (aB (aA (mv rfl (ag rfl (aC (nc (y8 0 1 2 8 9 10 14 15 rfl) ?_)))))))))))))));refine bK (fun a=>∃x6,Ok 57 [(0,.slice A1 n1 c1),(1,.slice A2 n2 c2),(2,.int .u64 x1),(8,.int .i64 x3),(9,.int .i64 x4),(10,.int .u64 x6),(14,(.int .i64 (IntKind.wrap .i64 ((n2:Int)+1)))),(15,.int .i64 x4)] a/\oW x4 n1 A1 w1 x3 k1 I1 x6) ?_ ?_
  ·rintro a ⟨x6,ha,H⟩;unfold oW at H;refine cu ha ?_;refine aB (aA (mv rfl (bo rfl rfl (Ai (by decide)) (ag rfl (aC (nc (y9 0 1 2 7 8 9 10 14 15 rfl) (aB (aA (mv rfl (mv rfl ?_))))))))));obtain⟨h4,h5,a2,e2,H⟩:=H;refine ix rfl rfl (bG TF.bJ TF.bH e2 h4 h5) ?_;obtain⟨x7,h6,H⟩:=H;refine ld rfl (aJ TF.dA h6) (sv rfl rfl (fun a ha=>dB (ha.ev rfl) (iC TF.dL TF.wR)) (mv rfl (bo rfl rfl jB (mv rfl (bo rfl rfl (Gt (by decide)) (sv rfl rfl (fun a ha=>dB (ha.ev rfl) (iC TF.dO TF.wR)) (bo rfl rfl jB (ag rfl (aC (nc (y8 0 1 2 7 9 11 14 15 rfl) (aB (aA (ag rfl (aC (nc (y9 0 1 2 7 8 9 11 14 15 rfl) ?_)))))))))))))));refine bK (fun a=>∃x8,∃x9,Ok 57 [(0,.slice A1 n1 c1),(1,.slice A2 n2 c2),(2,.int .u64 x1),(7,.int .u64 (IntKind.wrap .u64 (Int.tdiv x6 1000000000))),(8,.int .i64 x8),(9,.int .i64 x4),(11,.int .i64 x9),(14,(.int .i64 (IntKind.wrap .i64 ((n2:Int)+1)))),(15,.int .i64 x4)] a/\tK x4 n1 A1 w1 k1 I1 x6 x8 x9) ?_ ?_
   ·rintro a ⟨x8,x9,ha,H⟩;unfold tK at H;refine cu ha ?_;refine aA (mv rfl (mv rfl (mv rfl (sv rfl rfl (fun a ha=>dB (ha.ev rfl) (iC TF.wR TF.dL)) ?_))));obtain⟨h7,h8,a3,e3,H⟩:=H;refine ix rfl rfl (bG TF.bJ TF.bH e3 h7 h8) ?_;obtain⟨⟨u1,h9⟩,h10,H⟩:=H;refine gX rfl (aF rfl) (xs rfl rfl (fE TF.bH rfl rfl h9 h10)) ?_;intro w2 hw;replace H:=H _ hw;clear hw;refine aC (bQ (nc (y7 0 1 2 7 8 14 15 rfl) (aA (bo rfl rfl dJ (mv rfl (aC ?_))))));obtain⟨k2,hk,H⟩:=H;exact aT fun a ha=>⟨k2,hk,IntKind.wrap .u64 (Int.tdiv x6 1000000000),x8,IntKind.wrap .i64 (x4+1),ha.weaken cs,H⟩
   ·refine aB (aA (mv rfl (bo rfl rfl fO (aC (nc (y10 0 1 2 7 8 9 11 14 15 46 rfl) ?_)))));refine aK rfl (fun hb=> ?_) (fun hb=> ?_)
    ·replace H:=H.1 hb;exact aB (aA (mv rfl (bo rfl rfl dJ (ag rfl (aC (nc (y8 0 1 2 7 9 11 14 15 rfl) (aA (ag rfl (aC (aT fun a ha=>⟨⟨1,IntKind.wrap .i64 ((IntKind.wrap .i64 ((IntKind.wrap .i64 ((IntKind.wrap .i64 x7)-x3))-(IntKind.wrap .i64 (Int.tmod x6 1000000000))))+1000000000),ha.weaken cs,H⟩,rfl⟩))))))))))
    ·replace H:=H.2 hb;exact aN (aT fun a ha=>⟨⟨0,IntKind.wrap .i64 ((IntKind.wrap .i64 ((IntKind.wrap .i64 x7)-x3))-(IntKind.wrap .i64 (Int.tmod x6 1000000000))),ha.weaken cs,H⟩,rfl⟩)
  ·refine aB (aA (mv rfl (mv rfl (sv rfl rfl (xb rfl (fun _=>bD TF.aU)) (bo rfl rfl fO (aC (nc (y9 0 1 2 8 9 10 14 15 22 rfl) ?_)))))));refine aK rfl (fun hb=> ?_) (fun hb=> ?_)
   ·replace H:=H.1 hb;refine aA (mv rfl (mv rfl (mv rfl (mv rfl ?_))));obtain⟨h1,h2,a1,e1,H⟩:=H;refine ix rfl rfl (bG TF.bJ TF.bH e1 h1 h2) ?_;obtain⟨x5,h3,H⟩:=H;exact ld rfl (aJ TF.dA h3) (sv rfl rfl (fun a ha=>dB (ha.ev rfl) (iC TF.dL TF.dO)) (bo rfl rfl Aq (bo rfl rfl dJ (ag rfl (aC (aT fun a ha=>⟨⟨IntKind.wrap .u64 (x2+(IntKind.wrap .u64 (x1*(IntKind.wrap .u64 x5)))),ha.weaken cs,H⟩,rfl⟩))))))
   ·replace H:=H.2 hb;exact aN (aT fun a ha=>⟨⟨x2,ha.weaken cs,H⟩,rfl⟩)
 ·replace H:=H.2 hb;exact bW (aH (aH (aZ (nc (kp 8 rfl zz) (aB (aA (mv rfl (bo rfl rfl kF (ag rfl (aC (nc (kp 6 rfl zz) (aW (aG (res1 rfl rfl) ⟨_,rfl,_,rfl,H⟩)))))))))))))
def tX (x2:Int) (n1:Nat) (A1:Option Addr) (w1:World) (k1:Nat) (I1:Nat->Int->Int->World->Prop) (x6:Int) (x7:Int):Prop:=
 0<=x2/\x2<(n1:Int)/\∃a3,A1=some a3/\(∃u1,w1.cell? (a3.add (x2.toNat*1))=some u1)/\w1.frozen? (a3.add (x2.toNat*1))=false/\∀w2,w2=w1.setCell (a3.add (x2.toNat*1)) (.int .u32 x7)->(∃k2,k2<k1/\I1 k2 x6 (IntKind.wrap .i64 (x2+1)) w2)
def tY (x2:Int) (n1:Nat) (A1:Option Addr) (w1:World) (k1:Nat) (I1:Nat->Int->Int->World->Prop) (x5:Int):Prop:=
 (1000000000<=x5->((tX x2 n1 A1 w1 k1 I1) 1 (IntKind.wrap .u32 (x5-1000000000))))/\(¬(1000000000<=x5)->((tX x2 n1 A1 w1 k1 I1) 0 x5))
def Oq (A1:Option Addr) (n1 c1:Nat) (A2:Option Addr) (n2 c2:Nat) (K:World->Prop) (w:World):Prop:=
 ∃I1:Nat->Int->Int->World->Prop,(∃k1,I1 k1 0 0 w)/\∀k1 (x1:Int) (x2:Int) (w1:World),I1 k1 x1 x2 w1->((x2<(IntKind.wrap .i64 ((n2:Int)+1))->(0<=x2/\x2<(n1:Int)/\∃a1,A1=some a1/\∃x3,w1.cell? (a1.add (x2.toNat*1))=some (.int .u32 x3)/\(x2<(n2:Int)->(0<=x2/\x2<(n2:Int)/\∃a2,A2=some a2/\∃x4,w1.cell? (a2.add (x2.toNat*1))=some (.int .u32 x4)/\(tY x2 n1 A1 w1 k1 I1) (IntKind.wrap .u32 ((IntKind.wrap .u32 (x3+x1))+x4))))/\(¬(x2<(n2:Int))->((tY x2 n1 A1 w1 k1 I1) (IntKind.wrap .u32 (x3+x1))))))/\(¬(x2<(IntKind.wrap .i64 ((n2:Int)+1)))->(K w1)))
theorem aCx (A1:Option Addr) (n1 c1:Nat) (A2:Option Addr) (n2 c2:Nat) (K:World->Prop) (w:World) (H:Oq A1 n1 c1 A2 n2 c2 K w):Calls P F.Hw #[.slice A1 n1 c1,.slice A2 n2 c2] w (aS fun v w'=>v=(.tuple #[])/\K w'):=by
 unfold Oq at H;refine aY (P:=P) Tryz.func246 rfl [(0,.slice A1 n1 c1),(1,.slice A2 n2 c2)] 38 rfl rfl (aa rfl (aa rfl az)) (aB (aA (ag rfl (aC (nc (y3 0 1 4 rfl) (aB (aA (mv rfl (sv rfl rfl (xb rfl (fun _=>bD TF.aU)) (bo rfl rfl dJ (mv rfl (aC (nc (y5 0 1 4 9 10 rfl) (aV ?_))))))))))))));obtain⟨I1,⟨k1,hi⟩,H⟩:=H;refine dM (fun k1 a w'=>∃x1,∃x2,Ok 38 [(0,.slice A1 n1 c1),(1,.slice A2 n2 c2),(4,.int .u32 x1),(9,(.int .i64 (IntKind.wrap .i64 ((n2:Int)+1)))),(10,.int .i64 x2)] a/\I1 k1 x1 x2 w') (fun a ha=>⟨k1,0,0,ha.weaken cs,hi⟩) ?_;rintro k1 a w1 ⟨x1,x2,ha,hI⟩;replace H:=H k1 x1 x2 w1 hI;refine cu ha ?_;refine aB (aA (bo rfl rfl fO (aC (nc (y6 0 1 4 9 10 11 rfl) (aB ?_)))));refine aK rfl (fun hb=> ?_) (fun hb=> ?_)
 ·replace H:=H.1 hb;refine aN (nc (y5 0 1 4 9 10 rfl) (aB (aV (aB (aA (mv rfl (ag rfl (aC (nc (y6 0 1 4 5 9 10 rfl) (aB (aA (mv rfl (mv rfl ?_)))))))))))));obtain⟨h1,h2,a1,e1,H⟩:=H;refine ix rfl rfl (bG TF.bJ TF.bH e1 h1 h2) ?_;obtain⟨x3,h3,H⟩:=H;refine ld rfl (aJ TF.dA h3) (mv rfl (bo rfl rfl dJ (ag rfl (aC (nc (y6 0 1 5 6 9 10 rfl) ?_)))));refine bK (fun a=>∃x5,Ok 38 [(0,.slice A1 n1 c1),(1,.slice A2 n2 c2),(5,.int .i64 x2),(6,.int .u32 x5),(9,(.int .i64 (IntKind.wrap .i64 ((n2:Int)+1)))),(10,.int .i64 x2)] a/\tY x2 n1 A1 w1 k1 I1 x5) ?_ ?_
  ·rintro a ⟨x5,ha,H⟩;unfold tY at H;refine cu ha ?_;refine aB (aA (ag rfl (aC (nc (y7 0 1 4 5 6 9 10 rfl) ?_))));refine bK (fun a=>∃x6,∃x7,Ok 38 [(0,.slice A1 n1 c1),(1,.slice A2 n2 c2),(4,.int .u32 x6),(5,.int .i64 x2),(6,.int .u32 x7),(9,(.int .i64 (IntKind.wrap .i64 ((n2:Int)+1)))),(10,.int .i64 x2)] a/\tX x2 n1 A1 w1 k1 I1 x6 x7) ?_ ?_
   ·rintro a ⟨x6,x7,ha,H⟩;unfold tX at H;refine cu ha ?_;refine aA (mv rfl (mv rfl (mv rfl ?_)));obtain⟨h7,h8,a3,e3,H⟩:=H;refine ix rfl rfl (bG TF.bJ TF.bH e3 h7 h8) ?_;obtain⟨⟨u1,h9⟩,h10,H⟩:=H;refine gX rfl (aF rfl) (xs rfl rfl (fE TF.bH rfl rfl h9 h10)) ?_;intro w2 hw;replace H:=H _ hw;clear hw;refine aC (bQ (nc (y5 0 1 4 9 10 rfl) (aA (bo rfl rfl dJ (mv rfl (aC ?_))))));obtain⟨k2,hk,H⟩:=H;exact aT fun a ha=>⟨k2,hk,x6,IntKind.wrap .i64 (x2+1),ha.weaken cs,H⟩
   ·refine aB (aA (mv rfl (bo rfl rfl Nr (aC (nc (y8 0 1 4 5 6 9 10 30 rfl) ?_)))));refine aK rfl (fun hb=> ?_) (fun hb=> ?_)
    ·replace H:=H.1 hb;exact aB (aA (mv rfl (bo rfl rfl jB (ag rfl (aC (nc (y6 0 1 5 6 9 10 rfl) (aA (ag rfl (aC (aT fun a ha=>⟨⟨1,IntKind.wrap .u32 (x5-1000000000),ha.weaken cs,H⟩,rfl⟩))))))))))
    ·replace H:=H.2 hb;exact aN (aT fun a ha=>⟨⟨0,x5,ha.weaken cs,H⟩,rfl⟩)
  ·refine aB (aA (mv rfl (mv rfl (sv rfl rfl (xb rfl (fun _=>bD TF.aU)) (bo rfl rfl fO (aC (nc (y7 0 1 5 6 9 10 22 rfl) ?_)))))));refine aK rfl (fun hb=> ?_) (fun hb=> ?_)
   ·replace H:=H.1 hb;refine aA (mv rfl (mv rfl (mv rfl ?_)));obtain⟨h4,h5,a2,e2,H⟩:=H;refine ix rfl rfl (bG TF.bJ TF.bH e2 h4 h5) ?_;obtain⟨x4,h6,H⟩:=H;exact ld rfl (aJ TF.dA h6) (bo rfl rfl dJ (ag rfl (aC (aT fun a ha=>⟨⟨IntKind.wrap .u32 ((IntKind.wrap .u32 (x3+x1))+x4),ha.weaken cs,H⟩,rfl⟩))))
   ·replace H:=H.2 hb;exact aN (aT fun a ha=>⟨⟨IntKind.wrap .u32 (x3+x1),ha.weaken cs,H⟩,rfl⟩)
 ·replace H:=H.2 hb;exact bW (aH (aH (aZ (Js (res0 rfl) ⟨_,rfl,rfl,H⟩))))
theorem LR.aFb {w:World} {A:Option Addr} {n c:Nat} {l:List Nat} (h:LR w A n c l) {j i:Nat} (hj:j+i<n):
  ∃ad,xC A c j 1=some ad/\w.cell? (ad.add (i*1))=some (.int .u32 (lg (l.drop j) i:Int))/\w.frozen? (ad.add (i*1))=false/\∀w' d,w'=w.setCell (ad.add (i*1)) (u32 d)->LR w' A n c (l.set (j+i) d)/\Keep (At A) w w':=by
 obtain⟨a,hA,hv,hc,hf⟩:=h.at_ (i:=((j+i:Nat):Int)) (by omega) (by omega)
 rw[Int.toNat_natCast] at hc hf
 have hle:=h.le
 have e:(a.add (j*1)).add (i*1)=a.add ((j+i)*1):=by rw[Addr.add_add,Nat.add_mul]
 have el:lg (l.drop j) i=lg l (j+i):=by unfold lg;rw[List.getD_eq_getElem?_getD,List.getD_eq_getElem?_getD,List.getElem?_drop]
 refine⟨a.add (j*1),?_,?_,?_,fun w' d hw=> ?_⟩
 ·subst hA
  unfold xC
  rw[if_neg (by omega)]
  rfl
 ·rw[e,el];exact hc
 ·rw[e];exact hf
 ·rw[e] at hw
  exact h.put hA (by omega) hw
theorem Jp {l:List Nat} {j i d:Nat}:(l.set (j+i) d).drop j=(l.drop j).set i d:=by
 rw[List.drop_set,if_neg (by omega),Nat.add_sub_cancel_left]
theorem aBm {o u:List Nat} {i d:Nat} (hi:i<o.length) (hd:o.drop i=u.drop i):nv ((o.set i d).take (i+1))=nv (o.take i)+BB^i*d/\(o.set i d).drop (i+1)=u.drop (i+1)/\lg o i=lg u i:=by
 refine⟨?_,?_,?_⟩
 ·rw[jX,Rt hi,if_pos rfl,List.take_set_of_le (by omega)]
 ·rw[List.drop_set_of_lt (by omega),<-List.drop_drop,hd,List.drop_drop]
 ·have h1:o[i]? =u[i]? :=by rw[<-List.head?_drop,hd,List.head?_drop]
  unfold lg
  rw[List.getD_eq_getElem?_getD,List.getD_eq_getElem?_getD,h1]
section
variable {w w':World} {A B:Option Addr} {n c m d j:Nat} {u v:List Nat}
theorem aIk (hU:LR w A n c u) (lu:Lo u) (hV:LR w B m d v) (lv:Lo v) (hj:j+m+1<=n) (hn:Sn n) (hap:∀b,At A b->¬At B b):
  Calls P F.Hw #[.slice (xC A c j 1) (n-j) (c-j),.slice B m d] w (aS fun r w'=>r= .tuple #[]/\∃o cr,LR w' A n c o/\Lo o/\o.take j=u.take j/\(o.drop j).drop (m+1)=(u.drop j).drop (m+1)/\cr<=1/\nv ((o.drop j).take (m+1))+BB^(m+1)*cr=nv ((u.drop j).take (m+1))+nv v/\Keep (At A) w w'):=by
 refine aS.mono (aCx (xC A c j 1) (n-j) (c-j) B m d (fun w'=>∃o cr,LR w' A n c o/\Lo o/\o.take j=u.take j/\(o.drop j).drop (m+1)=(u.drop j).drop (m+1)/\cr<=1/\nv ((o.drop j).take (m+1))+BB^(m+1)*cr=nv ((u.drop j).take (m+1))+nv v/\Keep (At A) w w') w ?_) (by rintro _ w' ⟨rfl,h⟩;exact⟨rfl,h⟩)
 unfold Sn at hn
 have hul:=hU.len
 have hvl:=hV.len
 have hB:BB=1000000000:=rfl
 unfold Oq
 rw[wrap_i64 (i:=(m:Int)+1) (by omega) (by omega)]
 let I:Nat->Int->Int->World->Prop:=fun q x1 i w1=>∃o:List Nat,∃cr:Nat,q=m+1-i.toNat/\0<=i/\i<=m+1/\x1=(cr:Int)/\cr<=1/\LR w1 A n c o/\Lo o/\o.take j=u.take j/\(o.drop j).drop i.toNat=(u.drop j).drop i.toNat/\nv ((o.drop j).take i.toNat)+BB^i.toNat*cr=nv ((u.drop j).take i.toNat)+nv (v.take i.toNat)/\Keep (At A) w w1
 refine⟨I,⟨m+1,u,0,by simp,by omega,by omega,rfl,by omega,hU,lu,rfl,rfl,by simp[nv],Keep.refl _ w⟩,?_⟩
 rintro q x1 i w1 ⟨o,cr,rfl,i0,i1,rfl,hcr,hO,lo,htk,hdr,hs,K1⟩
 obtain⟨t,rfl⟩:=Int.eq_ofNat_of_zero_le i0
 simp only[Int.toNat_natCast] at hdr hs
 have hol:=hO.len
 refine⟨fun hlt=> ?_,fun hge=> ?_⟩
 ·have ht:t<m+1:=by omega
  obtain⟨ad,hA,hc,hf,hput⟩:=hO.aFb (j:=j) (i:=t) (by omega)
  have hst:=fun d=>aBm (o:=o.drop j) (u:=u.drop j) (i:=t) (d:=d) (by rw[List.length_drop];omega) hdr
  have gu:=(lu.drop j).lg t
  have gv:=lv.lg t
  have he:=(hst 0).2.2
  rw[he] at hc
  have step:∀cr' e:Nat,cr'<=1->e<BB->e+BB*cr'=lg (u.drop j) t+lg v t+cr->tX (t:Int) (n-j) (xC A c j 1) w1 (m+1-t) I (cr':Int) (e:Int):=fun cr' e hcr' hed hee=>by
   refine⟨by omega,by omega,ad,hA,⟨_,hc⟩,hf,fun w2 hw=>⟨m+1-(t+1),by omega,?_⟩⟩
   obtain⟨hO2,K2⟩:=hput w2 e hw
   rw[wrap_i64 (by omega) (by omega)]
   show∃o:List Nat,∃cr:Nat,_
   rw[show((t:Int)+1).toNat=t+1 by omega]
   obtain⟨s1,s2,s3⟩:=hst e
   refine⟨o.set (j+t) e,cr',rfl,by omega,by omega,rfl,hcr',hO2,lo.set hed,?_,?_,?_,K1.over K2 fun _ _ h=>h⟩
   ·rw[List.take_set_of_le (by omega)];exact htk
   ·rw[Jp];exact s2
   ·rw[Jp,s1,jX (u.drop j),jX v,Nat.add_assoc,Jz,hee,Nat.mul_add,Nat.mul_add]
    omega
  have J:∀s:Nat,s=lg (u.drop j) t+lg v t+cr->tY (t:Int) (n-j) (xC A c j 1) w1 (m+1-t) I (s:Int):=fun s hs'=>by
   refine⟨fun hge=> ?_,fun hlt2=> ?_⟩
   ·have ev:IntKind.wrap .u32 ((s:Int)-1000000000)=((s-BB:Nat):Int):=by
     rw[wrap_u32 (by omega) (by omega)];omega
    rw[ev]
    exact step 1 (s-BB) (by omega) (by omega) (by omega)
   ·exact step 0 s (by omega) (by omega) (by omega)
  refine⟨by omega,by omega,ad,hA,_,hc,fun hm=> ?_,fun hm=> ?_⟩
  ·have hV1:LR w1 B m d v:=hV.keep K1 fun b hb ha=>hap b ha hb
   obtain⟨be,hBe,_,hbc,_⟩:=hV1.at_ (i:=(t:Int)) (by omega) (by omega)
   refine⟨by omega,hm,be,hBe,_,hbc,?_⟩
   simp only[Int.toNat_natCast]
   have ev:IntKind.wrap .u32 (IntKind.wrap .u32 ((lg (u.drop j) t:Int)+(cr:Int))+(lg v t:Int))=((lg (u.drop j) t+lg v t+cr:Nat):Int):=by
    rw[wrap_u32 (i:=(lg (u.drop j) t:Int)+(cr:Int)) (by omega) (by omega),wrap_u32 (by omega) (by omega)];omega
   rw[ev]
   exact J _ rfl
  ·have h0:lg v t=0:=Ox (by omega)
   have ev:IntKind.wrap .u32 ((lg (u.drop j) t:Int)+(cr:Int))=((lg (u.drop j) t+cr:Nat):Int):=by
    rw[wrap_u32 (by omega) (by omega)];omega
   rw[ev]
   exact J _ (by omega)
 ·have ht:t=m+1:=by omega
  subst ht
  rw[List.take_of_length_le (by omega:v.length<=m+1)] at hs
  exact⟨o,cr,hO,lo,htk,hdr,hcr,hs,K1⟩
end
def rG:List UInt8->List UInt8
 |[]=>[]
 |c::l=>if c=48 then rG l else c::l
theorem Oc:∀{l:List UInt8},Ls l->Ls (rG l)
 |[],h=>h
 |c::l,h=>by
  unfold rG
  split
  ·exact Oc h.tail
  ·exact h
theorem yP:∀l:List UInt8,dv (rG l)=dv l
 |[]=>rfl
 |c::l=>by
  unfold rG
  split
  ·rename_i hc
   rw[yP l,Oo,hc]
   have:dg 48=0:=rfl
   rw[this,Nat.zero_mul,Nat.zero_add]
  ·rfl
theorem Pg:∀l:List UInt8,(rG l).head?≠some 48
 |[]=>by simp[rG]
 |c::l=>by
  unfold rG
  split
  ·exact Pg l
  ·rename_i h
   simpa using h
theorem aHf {l:List UInt8} (h:Ls l):rG l=[]↔dv l=0:=by
 refine⟨fun e=> ?_,fun e=> ?_⟩
 ·rw[<-yP,e];rfl
 ·refine Classical.byContradiction fun hn=> ?_
  have hd:wZ (rG l) 0:=⟨hn,Oc h,.inr (Pg l),by rw[yP];exact e⟩
  have:=hd.zero
  exact Pg l (by rw[this];rfl)
theorem aEw {l:List UInt8} {n:Nat} (h:Ls l) (hv:dv l=n) (hn:n≠0):wZ (rG l) n:=
 ⟨fun e=>hn (by rw[<-hv,<-yP,e];rfl),Oc h,.inr (Pg l),by rw[yP];exact hv⟩
theorem Un:∀l:List UInt8,(rG l).length<=l.length
 |[]=>Nat.le_refl _
 |c::l=>by
  unfold rG
  split
  ·have:=Un l;simp only[List.length_cons];omega
  ·exact Nat.le_refl _
theorem aI7:(10:Nat)^9=BB:=by decide
theorem Ls.take {l:List UInt8} (h:Ls l) (k:Nat):Ls (l.take k):=fun c hc=>h c (List.mem_of_mem_take hc)
theorem Ls.drop {l:List UInt8} (h:Ls l) (k:Nat):Ls (l.drop k):=fun c hc=>h c (List.mem_of_mem_drop hc)
theorem Ls.append {l m:List UInt8} (h:Ls l) (k:Ls m):Ls (l++m):=fun c hc=>(List.mem_append.1 hc).elim (h c) (k c)
theorem aCn {l:List UInt8} {o:List Nat} {to i d:Nat} (ho:o.length=i) (h9:9<=to) (hto:to<=l.length) (h:nv o+BB^i*dv (l.take to)=dv l) (hd:d=dv ((l.take to).drop (to-9))):
  nv (o++[d])+BB^(i+1)*dv (l.take (to-9))=dv l:=by
 have e:l.take to=l.take (to-9)++(l.take to).drop (to-9):=by
  have:=(List.take_append_drop (to-9) (l.take to)).symm
  rw[List.take_take,Nat.min_eq_left (by omega)] at this
  exact this
 have hl:((l.take to).drop (to-9)).length=9:=by rw[List.length_drop,List.length_take];omega
 rw[e,Uk,hl,aI7,<-hd,Nat.mul_add] at h
 rw[Dh,ho,Nat.pow_succ,Nat.mul_assoc,Nat.mul_comm BB]
 omega
theorem aCm {l:List UInt8} {o:List Nat} {to i:Nat} (ho:o.length=i) (h:nv o+BB^i*dv (l.take to)=dv l):nv (o++[dv (l.take to)])=dv l:=by
 rw[Dh,ho]
 exact h
theorem aEl {l:List UInt8} (h:Ls l) (hl:l.length<=9):dv l<BB:=by
 have h1:=Xp h
 have h2:(10:Nat)^l.length<=10^9:=Nat.pow_le_pow_right (by decide) hl
 rw[aI7] at h2
 omega
def Ub (x:Nat) (k:Nat):UInt8:=UInt8.ofNat (48+x/10^k%10)
theorem aF5 (x k:Nat):Dg (Ub x k)/\dg (Ub x k)=x/10^k%10:=by
 have h:x/10^k%10<10:=Nat.mod_lt _ (by decide)
 generalize hr:x/10^k%10=r at h
 have e:(UInt8.ofNat (48+r)).toNat=48+r:=by rw[UInt8.toNat_ofNat'];exact Nat.mod_eq_of_lt (by omega)
 refine⟨?_,?_⟩
 ·unfold Dg Ub;rw[hr,e];omega
 ·unfold dg Ub;rw[hr,e];omega
def Zr (x:Nat):Nat->List UInt8
 |0=>[]
 |k+1=>Ub x k::Zr x k
theorem Yh (x:Nat):∀k,(Zr x k).length=k
 |0=>rfl
 |k+1=>by simp[Zr,Yh x k]
theorem aE4 (x:Nat):∀k,Ls (Zr x k)
 |0=>fun c h=>by cases h
 |k+1=>fun c h=>by
  rcases List.mem_cons.1 h with rfl|h
  ·exact(aF5 x k).1
  ·exact aE4 x k c h
theorem aEy (x:Nat):∀k,dv (Zr x k)=x%10^k
 |0=>by simp[Zr,dv,Nat.mod_one]
 |k+1=>by
  rw[Zr,Oo,Yh,aEy x k,(aF5 x k).2,Nat.pow_succ,Nat.mod_mul]
  rw[Nat.mul_comm]
  omega
def yT:List Nat->List UInt8
 |[]=>[]
 |x::l=>yT l++Zr x 9
theorem aBb:∀l,(yT l).length=9*l.length
 |[]=>rfl
 |x::l=>by simp[yT,aBb l,Yh];omega
theorem aDy:∀l,Ls (yT l)
 |[]=>fun c h=>by cases h
 |x::l=>(aDy l).append (aE4 x 9)
theorem aEn:∀{l:List Nat},Lo l->dv (yT l)=nv l
 |[],_=>rfl
 |x::l,h=>by
  rw[yT,Uk,Yh,aEy,aEn h.tail,aI7,Nat.mod_eq_of_lt h.head]
  simp only[nv]
  rw[Nat.mul_comm BB]
  omega
theorem aEq {l:List Nat} (h:Pm l) (hn:l≠[]):wZ (rG (yT l)) (nv l):=
 aEw (aDy l) (aEn h.lo) (Nat.pos_iff_ne_zero.1 (h.pos hn))
def Cc (l:List UInt8):Bool:=l.head? ==some 45
def bare (l:List UInt8):List UInt8:=if Cc l then l.drop 1 else l
def upto (c:UInt8) (l:List UInt8):List UInt8:=l.takeWhile (·!=c)
def past (c:UInt8) (l:List UInt8):Option (List UInt8):=match l.dropWhile (·!=c) with
 |[]=>none
 |_::r=>some r
def dgB (c:UInt8):Bool:=decide (48<=c.toNat)&&decide (c.toNat<=57)
def Eo (l:List UInt8):Bool:= !l.isEmpty&&l.all dgB
theorem aGl {c:UInt8}:dgB c=true↔Dg c:=by simp[dgB,Dg]
theorem lJ {l:List UInt8}:Eo l=true↔l≠[]/\Ls l:=by
 cases l<;>simp[Eo,Ls,aGl]
def tx (s:Bool) (a:List UInt8) (b:Option (List UInt8)):List UInt8:=(if s then [45] else [])++(a++b.elim [] (47::·))
def gJ (l:List UInt8):Option Rat:=
 if Eo (upto 47 (bare l))&&(past 47 (bare l)).all fun d=>Eo d&&dv d !=0 then some (mkRat (sg (Cc l) (dv (upto 47 (bare l)))) ((past 47 (bare l)).elim 1 dv)) else none
theorem aC0 (c:UInt8) (l:List UInt8):l=upto c l++(past c l).elim [] (c::·):=by
 unfold upto past
 induction l with
 |nil=>rfl
 |cons x l ih=>
  by_cases h:x=c
  ·subst h;simp
  ·simp only[List.takeWhile_cons,List.dropWhile_cons,bne_iff_ne,ne_eq,h,not_false_eq_true,if_true,List.cons_append]
   rw[<-ih]
theorem aFh {c:UInt8} {a:List UInt8} (ha:∀x∈a,x≠c) (b:Option (List UInt8)):upto c (a++b.elim [] (c::·))=a/\past c (a++b.elim [] (c::·))=b:=by
 unfold upto past
 induction a with
 |nil=>cases b<;>simp
 |cons x a ih=>
  have hx:x≠c:=ha x (by simp)
  have:=ih fun y hy=>ha y (List.mem_cons_of_mem _ hy)
  simp only[List.cons_append,List.takeWhile_cons,List.dropWhile_cons,bne_iff_ne,ne_eq,hx,not_false_eq_true,if_true]
  exact⟨by rw[this.1],this.2⟩
theorem aKn {s:Bool} {a:List UInt8} {b:Option (List UInt8)} (hn:a≠[]) (ha:Ls a):Cc (tx s a b)=s/\bare (tx s a b)=a++b.elim [] (47::·):=by
 unfold bare
 have h1:Cc (tx s a b)=s:=by
  unfold Cc tx
  cases s
  ·cases a with
   |nil=>exact absurd rfl hn
   |cons x a=>
    have:=ha.head
    have h45:x≠45:=fun e=>by subst e;exact aGi (.inl rfl) this
    simp[h45]
  ·simp
 refine⟨h1,?_⟩
 rw[h1]
 unfold tx
 cases s<;>simp
theorem aIs {s:Bool} {a:List UInt8} {b:Option (List UInt8)} (hn:a≠[]) (ha:Ls a):Cc (tx s a b)=s/\upto 47 (bare (tx s a b))=a/\past 47 (bare (tx s a b))=b:=by
 obtain⟨h1,h2⟩:=aKn (s:=s) (b:=b) hn ha
 rw[h2]
 exact⟨h1,aFh (fun x hx e=>by subst e;exact aGi (.inr rfl) (ha _ hx)) b⟩
theorem aE3 {s:Bool} {a:List UInt8} {b:Option (List UInt8)} (hn:a≠[]) (ha:Ls a) (hb:∀d,b=some d->Eo d=true/\dv d≠0):gJ (tx s a b)=some (mkRat (sg s (dv a)) (b.elim 1 dv)):=by
 obtain⟨h1,h2,h3⟩:=aIs (s:=s) (b:=b) hn ha
 unfold gJ
 rw[h1,h2,h3,lJ.2 ⟨hn,ha⟩]
 cases b with
 |none=>rfl
 |some d=>simp[(hb d rfl).1,(hb d rfl).2]
theorem Ny {l:List UInt8} {q:Rat} (h:jG l q):gJ l=some q:=by
 obtain⟨a,b,rfl,ha,hb⟩:=h
 have e:Vz q a b=tx (decide (q.num<0)) a (if q.den=1 then none else some b):=by
  unfold Vz tx
  by_cases h1:q.num<0<;>by_cases h2:q.den=1<;>simp[h1,h2]
 have hq:=(RQ.of q).aLe
 rw[e,aE3 ha.ne ha.ds]
 ·rw[ha.val]
  by_cases h2:q.den=1
  ·rw[if_pos h2]
   rw[h2] at hq
   exact congrArg some hq.symm
  ·rw[if_neg h2]
   show some (mkRat _ (dv b))=_
   rw[hb.val]
   exact congrArg some hq.symm
 ·intro d hd
  by_cases h2:q.den=1
  ·rw[if_pos h2] at hd;cases hd
  ·rw[if_neg h2] at hd
   cases hd
   exact⟨lJ.2 ⟨hb.ne,hb.ds⟩,by rw[hb.val];exact q.den_nz⟩
theorem aCj {l m:List UInt8} {q:Rat} (h:gJ l=some q) (t:jG m q):m=l↔∃r,jG l r:=by
 refine⟨fun e=>⟨q,e▸t⟩,fun⟨r,hr⟩=> ?_⟩
 have:=Ny hr
 rw[h] at this
 cases this
 exact t.uniq hr
theorem aFp {l:List UInt8} (h:gJ l=none):¬∃r,jG l r:=fun⟨r,hr⟩=>by
 have:=Ny hr
 rw[h] at this
 cases this
theorem aBu {l:List UInt8} {q:Rat} (h:gJ l=some q):Eo (upto 47 (bare l))=true/\(∀d,past 47 (bare l)=some d->Eo d=true/\dv d≠0)/\q=mkRat (sg (Cc l) (dv (upto 47 (bare l)))) ((past 47 (bare l)).elim 1 dv):=by
 unfold gJ at h
 split at h
 ·rename_i hc
  simp only[Bool.and_eq_true] at hc
  cases h
  refine⟨hc.1,fun d hd=> ?_,rfl⟩
  have:=hc.2
  rw[hd] at this
  simpa using this
 ·cases h
theorem Xv {l:List UInt8} (h1:Eo (upto 47 (bare l))=true) (h2:∀d,past 47 (bare l)=some d->Eo d=true/\dv d≠0):gJ l=some (mkRat (sg (Cc l) (dv (upto 47 (bare l)))) ((past 47 (bare l)).elim 1 dv)):=by
 unfold gJ
 rw[h1]
 cases hp:past 47 (bare l) with
 |none=>rfl
 |some d=>simp[(h2 d hp).1,(h2 d hp).2]
def short (l:List UInt8):List UInt8:=if rG l=[] then [48] else rG l
theorem aBi {l:List UInt8} (h:Ls l):short l≠[]/\Ls (short l)/\dv (short l)=dv l:=by
 unfold short
 by_cases e:rG l=[]
 ·rw[if_pos e]
  refine⟨by simp,fun c hc=> ?_,?_⟩
  ·simp at hc;subst hc;exact⟨by decide,by decide⟩
  ·rw[<-yP l,e];rfl
 ·rw[if_neg e]
  exact⟨e,Oc h,yP l⟩
theorem aD4 {l:List UInt8} {q:Rat} (h:gJ l=some q):gJ (tx (Cc l) (short (upto 47 (bare l))) ((past 47 (bare l)).map short))=some q:=by
 obtain⟨h1,h2,rfl⟩:=aBu h
 have ha:=aBi (lJ.1 h1).2
 rw[aE3 ha.1 ha.2.1,ha.2.2]
 ·cases hp:past 47 (bare l) with
  |none=>rfl
  |some d=>
   have:=aBi (lJ.1 (h2 d hp).1).2
   simp[this.2.2]
 ·intro d hd
  cases hp:past 47 (bare l) with
  |none=>rw[hp] at hd;cases hd
  |some e=>
   rw[hp] at hd
   cases hd
   have:=aBi (lJ.1 (h2 e hp).1).2
   exact⟨lJ.2 ⟨this.1,this.2.1⟩,by rw[this.2.2];exact(h2 e hp).2⟩
end Go.Proofs.YtfedkedpgdphdaaGreatDoor
namespace Go.Proofs
open Go.Shelf
def Tryz.Zn:Go.Shelf.Ren:=⟨fun|161=>193|231=>223|227=>224|233=>225|235=>226|228=>247|197=>248|151=>249|260=>276|152=>277|137=>290|119=>291|224=>281|225=>280|217=>279|266=>293|n=>n,fun|9=>9|4=>4|3=>3|5=>5|117=>279|116=>278|0=>0|124=>282|105=>294|21=>21|119=>324|46=>265|139=>327|138=>326|n=>n,fun|3=>1|4=>2|n=>n⟩
theorem Tryz.laysTrimLeft:Go.Proofs.Lays.n161 Tryz.prog Tryz.Zn:={
 mixed:=by kernel_rfl
 f119:=Tryz.func291.trans (congrArg some (by kernel_rfl))
 f137:=Tryz.func290.trans (congrArg some (by kernel_rfl))
 f151:=Tryz.func249.trans (congrArg some (by kernel_rfl))
 f152:=Tryz.func277.trans (congrArg some (by kernel_rfl))
 f161:=Tryz.func193.trans (congrArg some (by kernel_rfl))
 f197:=Tryz.func248.trans (congrArg some (by kernel_rfl))
 f217:=Tryz.func279.trans (congrArg some (by kernel_rfl))
 f224:=Tryz.func281.trans (congrArg some (by kernel_rfl))
 f225:=Tryz.func280.trans (congrArg some (by kernel_rfl))
 f227:=Tryz.func224.trans (congrArg some (by kernel_rfl))
 f228:=Tryz.func247.trans (congrArg some (by kernel_rfl))
 f231:=Tryz.func223.trans (congrArg some (by kernel_rfl))
 f233:=Tryz.func225.trans (congrArg some (by kernel_rfl))
 f235:=Tryz.func226.trans (congrArg some (by kernel_rfl))
 f260:=Tryz.func276.trans (congrArg some (by kernel_rfl))
 f266:=Tryz.func293.trans (congrArg some (by kernel_rfl))
 t0:=Tryz.underlying0
 a0:=Tryz.isAgg0
 z0:=Tryz.sizeOf0
 v0:=Tryz.zeroValue0
 t3:=Tryz.underlying3
 a3:=Tryz.isAgg3
 z3:=Tryz.sizeOf3
 v3:=Tryz.zeroValue3
 t4:=Tryz.underlying4
 a4:=Tryz.isAgg4
 z4:=Tryz.sizeOf4
 v4:=Tryz.zeroValue4
 t5:=Tryz.underlying5
 a5:=Tryz.isAgg5
 z5:=Tryz.sizeOf5
 v5:=Tryz.zeroValue5
 t9:=Tryz.underlying9
 a9:=Tryz.isAgg9
 z9:=Tryz.sizeOf9
 v9:=Tryz.zeroValue9
 t21:=Tryz.underlying21
 a21:=Tryz.isAgg21
 z21:=Tryz.sizeOf21
 v21:=Tryz.zeroValue21
 t46:=Tryz.underlying265
 a46:=Tryz.isAgg265
 z46:=Tryz.sizeOf265
 v46:=Tryz.zeroValue265
 t105:=Tryz.underlying294
 a105:=Tryz.isAgg294
 z105:=Tryz.sizeOf294
 v105:=Tryz.zeroValue294
 t116:=Tryz.underlying278
 a116:=Tryz.isAgg278
 z116:=Tryz.sizeOf278
 t117:=Tryz.underlying279
 a117:=Tryz.isAgg279
 z117:=Tryz.sizeOf279
 v117:=Tryz.zeroValue279
 t119:=Tryz.underlying324
 a119:=Tryz.isAgg324
 z119:=Tryz.sizeOf324
 t124:=Tryz.underlying282
 a124:=Tryz.isAgg282
 z124:=Tryz.sizeOf282
 v124:=Tryz.zeroValue282
 t138:=Tryz.underlying326
 a138:=Tryz.isAgg326
 z138:=Tryz.sizeOf326
 v138:=Tryz.zeroValue326
 t139:=Tryz.underlying327
 a139:=Tryz.isAgg327
 z139:=Tryz.sizeOf327
 v139:=Tryz.zeroValue327
 g3:=by kernel_rfl
 g4:=by kernel_rfl}
def Tryz.laysTrim_ren:Go.Shelf.Ren:=⟨fun|160=>235|232=>253|231=>223|227=>224|234=>254|233=>225|236=>255|235=>226|228=>247|271=>278|151=>249|197=>248|120=>292|152=>277|260=>276|137=>290|119=>291|224=>281|225=>280|217=>279|266=>293|n=>n,fun|9=>9|4=>4|3=>3|5=>5|117=>279|116=>278|0=>0|124=>282|21=>21|105=>294|46=>265|119=>324|139=>327|138=>326|n=>n,fun|3=>1|4=>2|n=>n⟩
theorem Tryz.laysTrim:Go.Proofs.Lays.n160 Tryz.prog Tryz.laysTrim_ren:={
 mixed:=by kernel_rfl
 f119:=Tryz.func291.trans (congrArg some (by kernel_rfl))
 f120:=Tryz.func292.trans (congrArg some (by kernel_rfl))
 f137:=Tryz.func290.trans (congrArg some (by kernel_rfl))
 f151:=Tryz.func249.trans (congrArg some (by kernel_rfl))
 f152:=Tryz.func277.trans (congrArg some (by kernel_rfl))
 f160:=Tryz.func235.trans (congrArg some (by kernel_rfl))
 f197:=Tryz.func248.trans (congrArg some (by kernel_rfl))
 f217:=Tryz.func279.trans (congrArg some (by kernel_rfl))
 f224:=Tryz.func281.trans (congrArg some (by kernel_rfl))
 f225:=Tryz.func280.trans (congrArg some (by kernel_rfl))
 f227:=Tryz.func224.trans (congrArg some (by kernel_rfl))
 f228:=Tryz.func247.trans (congrArg some (by kernel_rfl))
 f231:=Tryz.func223.trans (congrArg some (by kernel_rfl))
 f232:=Tryz.func253.trans (congrArg some (by kernel_rfl))
 f233:=Tryz.func225.trans (congrArg some (by kernel_rfl))
 f234:=Tryz.func254.trans (congrArg some (by kernel_rfl))
 f235:=Tryz.func226.trans (congrArg some (by kernel_rfl))
 f236:=Tryz.func255.trans (congrArg some (by kernel_rfl))
 f260:=Tryz.func276.trans (congrArg some (by kernel_rfl))
 f266:=Tryz.func293.trans (congrArg some (by kernel_rfl))
 f271:=Tryz.func278.trans (congrArg some (by kernel_rfl))
 t0:=Tryz.underlying0
 a0:=Tryz.isAgg0
 z0:=Tryz.sizeOf0
 v0:=Tryz.zeroValue0
 t3:=Tryz.underlying3
 a3:=Tryz.isAgg3
 z3:=Tryz.sizeOf3
 v3:=Tryz.zeroValue3
 t4:=Tryz.underlying4
 a4:=Tryz.isAgg4
 z4:=Tryz.sizeOf4
 v4:=Tryz.zeroValue4
 t5:=Tryz.underlying5
 a5:=Tryz.isAgg5
 z5:=Tryz.sizeOf5
 v5:=Tryz.zeroValue5
 t9:=Tryz.underlying9
 a9:=Tryz.isAgg9
 z9:=Tryz.sizeOf9
 v9:=Tryz.zeroValue9
 t21:=Tryz.underlying21
 a21:=Tryz.isAgg21
 z21:=Tryz.sizeOf21
 v21:=Tryz.zeroValue21
 t46:=Tryz.underlying265
 a46:=Tryz.isAgg265
 z46:=Tryz.sizeOf265
 v46:=Tryz.zeroValue265
 t105:=Tryz.underlying294
 a105:=Tryz.isAgg294
 z105:=Tryz.sizeOf294
 v105:=Tryz.zeroValue294
 t116:=Tryz.underlying278
 a116:=Tryz.isAgg278
 z116:=Tryz.sizeOf278
 t117:=Tryz.underlying279
 a117:=Tryz.isAgg279
 z117:=Tryz.sizeOf279
 v117:=Tryz.zeroValue279
 t119:=Tryz.underlying324
 a119:=Tryz.isAgg324
 z119:=Tryz.sizeOf324
 t124:=Tryz.underlying282
 a124:=Tryz.isAgg282
 z124:=Tryz.sizeOf282
 v124:=Tryz.zeroValue282
 t138:=Tryz.underlying326
 a138:=Tryz.isAgg326
 z138:=Tryz.sizeOf326
 v138:=Tryz.zeroValue326
 t139:=Tryz.underlying327
 a139:=Tryz.isAgg327
 z139:=Tryz.sizeOf327
 v139:=Tryz.zeroValue327
 g3:=by kernel_rfl
 g4:=by kernel_rfl}
def Tryz.Wx:Go.Shelf.Ren:=⟨fun|101=>205|208=>237|206=>257|n=>n,fun|9=>9|4=>4|3=>3|n=>n,fun|n=>n⟩
theorem Tryz.laysTrimPrefix:Go.Proofs.Lays.n101 Tryz.prog Tryz.Wx:={
 mixed:=by kernel_rfl
 f101:=Tryz.func205.trans (congrArg some (by kernel_rfl))
 f206:=Tryz.func257.trans (congrArg some (by kernel_rfl))
 f208:=Tryz.func237.trans (congrArg some (by kernel_rfl))
 t3:=Tryz.underlying3
 a3:=Tryz.isAgg3
 z3:=Tryz.sizeOf3
 v3:=Tryz.zeroValue3
 t4:=Tryz.underlying4
 a4:=Tryz.isAgg4
 z4:=Tryz.sizeOf4
 v4:=Tryz.zeroValue4
 t9:=Tryz.underlying9
 a9:=Tryz.isAgg9
 z9:=Tryz.sizeOf9
 v9:=Tryz.zeroValue9}
def Tryz.aB3:Go.Shelf.Ren:=⟨fun|219=>258|217=>279|225=>280|224=>281|267=>282|266=>293|314=>294|n=>n,fun|9=>9|3=>3|4=>4|5=>5|46=>265|146=>329|51=>244|n=>n,fun|1=>0|n=>n⟩
theorem Tryz.laysIndex:Go.Proofs.Lays.n219 Tryz.prog Tryz.aB3:={
 mixed:=by kernel_rfl
 f217:=Tryz.func279.trans (congrArg some (by kernel_rfl))
 f219:=Tryz.func258.trans (congrArg some (by kernel_rfl))
 f224:=Tryz.func281.trans (congrArg some (by kernel_rfl))
 f225:=Tryz.func280.trans (congrArg some (by kernel_rfl))
 f266:=Tryz.func293.trans (congrArg some (by kernel_rfl))
 f267:=Tryz.func282.trans (congrArg some (by kernel_rfl))
 f314:=Tryz.func294.trans (congrArg some (by kernel_rfl))
 t3:=Tryz.underlying3
 a3:=Tryz.isAgg3
 z3:=Tryz.sizeOf3
 v3:=Tryz.zeroValue3
 t4:=Tryz.underlying4
 a4:=Tryz.isAgg4
 z4:=Tryz.sizeOf4
 v4:=Tryz.zeroValue4
 t5:=Tryz.underlying5
 a5:=Tryz.isAgg5
 z5:=Tryz.sizeOf5
 v5:=Tryz.zeroValue5
 t9:=Tryz.underlying9
 a9:=Tryz.isAgg9
 z9:=Tryz.sizeOf9
 v9:=Tryz.zeroValue9
 t46:=Tryz.underlying265
 a46:=Tryz.isAgg265
 z46:=Tryz.sizeOf265
 v46:=Tryz.zeroValue265
 t51:=Tryz.underlying244
 a51:=Tryz.isAgg244
 z51:=Tryz.sizeOf244
 v51:=Tryz.zeroValue244
 t146:=Tryz.underlying329
 a146:=Tryz.isAgg329
 z146:=Tryz.sizeOf329
 v146:=Tryz.zeroValue329
 g1:=by kernel_rfl}
end Go.Proofs
namespace Go.Proofs.YtfedkedpgdphdaaGreatDoor
def Ij (s1:ByteArray) (s2:ByteArray) (K:ByteArray->ByteArray->Bool->World->Prop) (w:World):Prop:=
 Calls P F.stringslite_Cut #[.string s1,.string s2] w (Wk.aS fun v1 w1=>∃s5:ByteArray,∃s6:ByteArray,∃b2:Bool,v1=(.tuple #[.string s5,.string s6,.bool b2])/\K s5 s6 b2 w1)
set_option maxHeartbeats 2000000 in
set_option maxRecDepth 20000 in
theorem aBq (s1:ByteArray) (s2:ByteArray) (K:ByteArray->ByteArray->Bool->World->Prop) (w:World) (H:Ij s1 s2 K w):Calls P F.strings_Cut #[.string s1,.string s2] w (Wk.aS fun v w'=>∃s3:ByteArray,∃s4:ByteArray,∃b1:Bool,v=(.tuple #[.string s3,.string s4,.bool b1])/\K s3 s4 b1 w'):=by
 unfold Ij at H
 refine Wk.aY (P:=P) Tryz.func206 rfl [(0,.string s1),(1,.string s2)] 13 rfl rfl (fun p hp=>by simp only[List.mem_cons,List.not_mem_nil,or_false] at hp;rcases hp with rfl|rfl<;>rfl) ?_
 refine Wk.aB ?_
 refine Wk.aA ?_
 refine Wk.qH rfl rfl (Wk.aF rfl) (fun a ha=>Wk.jZ (ha.ev rfl)) ?_
 refine Wk.qH rfl rfl (Wk.aF rfl) (fun a ha=>Wk.jZ (ha.ev rfl)) ?_
 refine Wk.qH rfl rfl (Wk.aF rfl) (fun a ha=>Wk.jZ (ha.ev rfl)) ?_
 refine Wk.aC ?_
 refine Wk.Gy (Wk.Ou (e':=[(0,.string s1),(1,.string s2)]) (Wk.sub.cons rfl (Wk.sub.cons rfl (Wk.sub.nil))) ?_)
 refine Wk.aB ?_
 refine Wk.aA ?_
 refine Wk.qH rfl rfl (Wk.aF rfl) (fun a ha=>Wk.eU (ha.ev rfl)) ?_
 refine Wk.qH rfl rfl (Wk.aF rfl) (fun a ha=>Wk.eU (ha.ev rfl)) ?_
 refine Wk.uU rfl rfl (Wk.aF rfl) (fun a ha=>Wk.aDm (ha.ev rfl) (ha.evs rfl) FF.Kz) H ?_
 rintro _ w1 ⟨s5,s6,b2,rfl,H⟩
 refine Wk.qH rfl rfl (Wk.aF rfl) (fun a ha=>Wk.Hy (ha.ev rfl) rfl) ?_
 refine Wk.qH rfl rfl (Wk.aF rfl) (fun a ha=>Wk.Hy (ha.ev rfl) rfl) ?_
 refine Wk.qH rfl rfl (Wk.aF rfl) (fun a ha=>Wk.Hy (ha.ev rfl) rfl) ?_
 refine Wk.qH rfl rfl (Wk.aF rfl) (fun a ha=>Wk.jZ (ha.ev rfl)) ?_
 refine Wk.qH rfl rfl (Wk.aF rfl) (fun a ha=>Wk.jZ (ha.ev rfl)) ?_
 refine Wk.qH rfl rfl (Wk.aF rfl) (fun a ha=>Wk.jZ (ha.ev rfl)) ?_
 refine Wk.aC ?_
 refine Wk.Gy (Wk.Ou (e':=[(4,.string s5),(5,.string s6),(6,.bool b2)]) (Wk.sub.cons rfl (Wk.sub.cons rfl (Wk.sub.cons rfl (Wk.sub.nil)))) ?_)
 refine Wk.aW ?_
 exact Wk.aG (Wk.aH0 rfl rfl rfl rfl) ⟨_,rfl,_,_,_,rfl,H⟩
def yE (s1:ByteArray) (s2:ByteArray) (K:ByteArray->ByteArray->Bool->World->Prop) (w:World):Prop:=
 Calls P F.stringslite_Index #[.string s1,.string s2] w (Wk.aS fun v1 w1=>∃x1:Int,v1=(.int .i64 x1)/\(0<=x1->(0<=x1/\x1<=(s1.size:Int)/\0<=IntKind.wrap .i64 (x1+(s2.size:Int))/\IntKind.wrap .i64 (x1+(s2.size:Int))<=(s1.size:Int)/\∀w2,Wk.aP w1 w2->(K (s1.extract 0 x1.toNat) (s1.extract (IntKind.wrap .i64 (x1+(s2.size:Int))).toNat s1.size) true w2)))/\(¬(0<=x1)->(K s1 .empty false w1)))
set_option maxHeartbeats 2000000 in
set_option maxRecDepth 20000 in
theorem Xi (s1:ByteArray) (s2:ByteArray) (K:ByteArray->ByteArray->Bool->World->Prop) (w:World) (H:yE s1 s2 K w):Calls P F.stringslite_Cut #[.string s1,.string s2] w (Wk.aS fun v w'=>∃s3:ByteArray,∃s4:ByteArray,∃b1:Bool,v=(.tuple #[.string s3,.string s4,.bool b1])/\K s3 s4 b1 w'):=by
 unfold yE at H
 refine Wk.aY (P:=P) Tryz.func238 rfl [(0,.string s1),(1,.string s2)] 23 rfl rfl (fun p hp=>by simp only[List.mem_cons,List.not_mem_nil,or_false] at hp;rcases hp with rfl|rfl<;>rfl) ?_
 refine Wk.aB ?_
 refine Wk.aA ?_
 refine Wk.qH rfl rfl (Wk.aF rfl) (fun a ha=>Wk.jZ (ha.ev rfl)) ?_
 refine Wk.qH rfl rfl (Wk.aF rfl) (fun a ha=>Wk.jZ (ha.ev rfl)) ?_
 refine Wk.qH rfl rfl (Wk.aF rfl) (fun a ha=>Wk.jZ (ha.ev rfl)) ?_
 refine Wk.aC ?_
 refine Wk.Gy (Wk.Ou (e':=[(0,.string s1),(1,.string s2)]) (Wk.sub.cons rfl (Wk.sub.cons rfl (Wk.sub.nil))) ?_)
 refine Wk.aB ?_
 refine Wk.aB ?_
 refine Wk.aA ?_
 refine Wk.qH rfl rfl (Wk.aF rfl) (fun a ha=>Wk.eU (ha.ev rfl)) ?_
 refine Wk.qH rfl rfl (Wk.aF rfl) (fun a ha=>Wk.eU (ha.ev rfl)) ?_
 refine Wk.uU rfl rfl (Wk.aF rfl) (fun a ha=>Wk.aDm (ha.ev rfl) (ha.evs rfl) FF.Iq) H ?_
 rintro _ w1 ⟨x1,rfl,H⟩
 refine Wk.qH rfl rfl (Wk.aF rfl) (fun a ha=>Wk.jZ (ha.ev rfl)) ?_
 refine Wk.aC ?_
 refine Wk.Gy (Wk.Ou (e':=[(0,.string s1),(1,.string s2),(7,.int .i64 x1)]) (Wk.sub.cons rfl (Wk.sub.cons rfl (Wk.sub.cons rfl (Wk.sub.nil)))) ?_)
 refine Wk.aB ?_
 refine Wk.aA ?_
 refine Wk.qH rfl rfl (Wk.aF rfl) (fun a ha=>Wk.eU (ha.ev rfl)) ?_
 refine Wk.qH rfl rfl (Wk.aF rfl) (fun a ha=>Wk.dK (ha.ev rfl) (ha.ev rfl) Wk.Nr) ?_
 refine Wk.aC ?_
 refine Wk.Gy (Wk.Ou (e':=[(0,.string s1),(1,.string s2),(7,.int .i64 x1),(12,.bool (decide (0<=x1)))]) (Wk.sub.cons rfl (Wk.sub.cons rfl (Wk.sub.cons rfl (Wk.sub.cons rfl (Wk.sub.nil))))) ?_)
 refine Wk.aK rfl (fun hb=> ?_) (fun hb=> ?_)
 ·replace H:=H.1 hb
  refine Wk.aB ?_
  refine Wk.dW follows [0,1,2,3,4,5,6,7,8,9,10,11] [] 12 rfl rfl (by kernel_rfl) (fun _ _ d _ _ h=>by cases d<;>exact h) (fun cm hW hD=> ?_)
  refine Wk.zI (i:=0) cm rfl (by kernel_rfl) rfl rfl (Wk.aF rfl) (fun w' a ha=>Wk.eU (ha.ev rfl)) rfl ?_
  intro _ hd;replace hD:=hD.trans hd;clear hd
  refine Wk.zI (i:=1) cm rfl (by kernel_rfl) rfl rfl (Wk.aF rfl) (fun w' a ha=>Wk.eU (ha.ev rfl)) rfl ?_
  intro _ hd;replace hD:=hD.trans hd;clear hd
  obtain⟨h1,h2,H⟩:=H
  refine Wk.zI (i:=2) cm rfl (by kernel_rfl) rfl rfl (Wk.aF rfl) (fun w' a ha=>Wk.qR (ha.ev rfl) rfl (Wk.qA (ha.ev rfl)) rfl (Wk.aGh TF.dQ h1 h2)) rfl ?_
  intro _ hd;replace hD:=hD.trans hd;clear hd
  refine Wk.zI (i:=3) cm rfl (by kernel_rfl) rfl rfl (Wk.aF rfl) (fun w' a ha=>Wk.eU (ha.ev rfl)) rfl ?_
  intro _ hd;replace hD:=hD.trans hd;clear hd
  refine Wk.zI (i:=4) cm rfl (by kernel_rfl) rfl rfl (Wk.aF rfl) (fun w' a ha=>Wk.eU (ha.ev rfl)) rfl ?_
  intro _ hd;replace hD:=hD.trans hd;clear hd
  refine Wk.zI (i:=5) cm rfl (by kernel_rfl) rfl rfl (Wk.aF rfl) (fun w' a ha=>Wk.eU (ha.ev rfl)) rfl ?_
  intro _ hd;replace hD:=hD.trans hd;clear hd
  refine Wk.zI (i:=6) cm rfl (by kernel_rfl) rfl rfl (Wk.aF rfl) (fun w' a ha=>Wk.Zd (ha.evs rfl) (fun _=>Wk.Nv TF.dQ)) rfl ?_
  intro _ hd;replace hD:=hD.trans hd;clear hd
  refine Wk.zI (i:=7) cm rfl (by kernel_rfl) rfl rfl (Wk.aF rfl) (fun w' a ha=>Wk.dK (ha.ev rfl) (ha.ev rfl) Wk.dJ) rfl ?_
  intro _ hd;replace hD:=hD.trans hd;clear hd
  obtain⟨h5,h6,H⟩:=H
  refine Wk.zI (i:=8) cm rfl (by kernel_rfl) rfl rfl (Wk.aF rfl) (fun w' a ha=>Wk.qR (ha.ev rfl) (Wk.qA (ha.ev rfl)) rfl rfl (Wk.aDs TF.dQ h5 h6)) rfl ?_
  intro _ hd;replace hD:=hD.trans hd;clear hd
  refine Wk.zI (i:=9) cm rfl (by kernel_rfl) rfl rfl (Wk.aF rfl) (fun w' a ha=>Wk.jZ (ha.ev rfl)) rfl ?_
  intro _ hd;replace hD:=hD.trans hd;clear hd
  refine Wk.zI (i:=10) cm rfl (by kernel_rfl) rfl rfl (Wk.aF rfl) (fun w' a ha=>Wk.jZ (ha.ev rfl)) rfl ?_
  intro _ hd;replace hD:=hD.trans hd;clear hd
  refine Wk.zI (i:=11) cm rfl (by kernel_rfl) rfl rfl (Wk.aF rfl) (fun w' a ha=>Wk.jZ (ha.ev rfl)) rfl ?_
  intro _ hd;replace hD:=hD.trans hd;clear hd
  refine Wk.dU (by kernel_rfl) hD ?_
  intro w2 hD;replace H:=H _ hD;clear hD cm
  refine Wk.Gy (Wk.Ou (e':=[(4,.string (s1.extract 0 x1.toNat)),(5,(.string (s1.extract (IntKind.wrap .i64 (x1+(s2.size:Int))).toNat s1.size))),(6,.bool true)]) (Wk.sub.cons rfl (Wk.sub.cons rfl (Wk.sub.cons rfl (Wk.sub.nil)))) ?_)
  refine Wk.aW ?_
  refine Wk.aI ?_
  exact Wk.aG (Wk.aH0 rfl rfl rfl rfl) ⟨_,rfl,_,_,_,rfl,H⟩
 ·replace H:=H.2 hb
  refine Wk.aN ?_
  refine Wk.Gy (Wk.Ou (e':=[(0,.string s1)]) (Wk.sub.cons rfl (Wk.sub.nil)) ?_)
  refine Wk.aB ?_
  refine Wk.aA ?_
  refine Wk.qH rfl rfl (Wk.aF rfl) (fun a ha=>Wk.eU (ha.ev rfl)) ?_
  refine Wk.qH rfl rfl (Wk.aF rfl) (fun a ha=>Wk.jZ (ha.ev rfl)) ?_
  refine Wk.qH rfl rfl (Wk.aF rfl) (fun a ha=>Wk.jZ (ha.ev rfl)) ?_
  refine Wk.qH rfl rfl (Wk.aF rfl) (fun a ha=>Wk.jZ (ha.ev rfl)) ?_
  refine Wk.aC ?_
  refine Wk.Gy (Wk.Ou (e':=[(4,.string s1),(5,.string .empty),(6,.bool false)]) (Wk.sub.cons rfl (Wk.sub.cons rfl (Wk.sub.cons rfl (Wk.sub.nil)))) ?_)
  refine Wk.aW ?_
  exact Wk.aG (Wk.aH0 rfl rfl rfl rfl) ⟨_,rfl,_,_,_,rfl,H⟩
open Wk
def Rx (s1:ByteArray) (K:Option Addr->Nat->Nat->World->Prop) (w:World):Prop:=
 Calls P F.rX #[.string s1,.string ⟨#[48]⟩] w (aS fun v1 w1=>∃s2:ByteArray,v1=(.string s2)/\∃(A2:Option Addr) (n2 c2:Nat) (w2:World),(Instr.makeSlice T.dH (.int .i64 0) (.int .i64 (IntKind.wrap .i64 ((IntKind.wrap .i64 (Int.tdiv (s2.size:Int) 9))+1)))).run P w1= .ok (.slice A2 n2 c2) w2/\(∃I1:Nat->Option Addr->Nat->Nat->Int->World->Prop,(∃k1,I1 k1 A2 n2 c2 (s2.size:Int) w2)/\∀k1 (A3:Option Addr) (n3 c3:Nat) (x1:Int) (w3:World),I1 k1 A3 n3 c3 x1 w3->((0<x1->(0<=(if 0<IntKind.wrap .i64 (x1-9) then IntKind.wrap .i64 (x1-9) else 0)/\(if 0<IntKind.wrap .i64 (x1-9) then IntKind.wrap .i64 (x1-9) else 0)<=x1/\x1<=(s2.size:Int)/\∃(A4:Option Addr) (n4 c4:Nat) (w4:World),(convert T.string T.uF (.string (s2.extract (if 0<IntKind.wrap .i64 (x1-9) then IntKind.wrap .i64 (x1-9) else 0).toNat x1.toNat))).run P w3= .ok (.slice A4 n4 c4) w4/\(∃I2:Nat->Int->Int->Prop,(∃k2,I2 k2 0 0)/\∀k2 (x2:Int) (x3:Int),I2 k2 x2 x3->((x3<(n4:Int)->(0<=x3/\x3<(n4:Int)/\∃a1,A4=some a1/\∃x4,w4.cell? (a1.add (x3.toNat*1))=some (.int .u8 x4)/\∃k3,k3<k2/\I2 k3 (IntKind.wrap .u32 ((IntKind.wrap .u32 (x2*10))+(IntKind.wrap .u32 (IntKind.wrap .u8 (x4-48))))) (IntKind.wrap .i64 (x3+1))))/\(¬(x3<(n4:Int))->(∀(p1:Addr) (w5:World),New w4 (.cells #[.int .u32 x2] T.uint32) p1 w5->(∃(A5:Option Addr) (n5 c5:Nat) (w6:World),(Builtin.append_ #[T.dH,T.dH] T.dH #[.slice A3 n3 c3,.slice (some p1) 1 1]).run P w5= .ok (.slice A5 n5 c5) w6/\(∃k4,k4<k1/\I1 k4 A5 n5 c5 (IntKind.wrap .i64 (x1-9)) w6))))))))/\(¬(0<x1)->(Calls P F.Ag #[.slice A3 n3 c3] w3 (aS fun v2 w7=>∃A6 n6 c6,v2=(.slice A6 n6 c6)/\K A6 n6 c6 w7))))))
theorem aEo (s1:ByteArray) (K:Option Addr->Nat->Nat->World->Prop) (w:World) (H:Rx s1 K w):Calls P F.Sj #[.string s1] w (aS fun v w'=>∃A1 n1 c1,v=(.slice A1 n1 c1)/\K A1 n1 c1 w'):=by
 unfold Rx at H;refine aY (P:=P) Tryz.func208 rfl [(0,.string s1)] 46 rfl rfl (fun p hp=>by rcases List.mem_singleton.1 hp with rfl;rfl) (aB (aA (ag rfl (aC (nc (kp 0 rfl zz) (aB (aA (mv rfl (sc rfl rfl FF.oV H ?_)))))))));rintro _ w1 ⟨s2,rfl,H⟩;refine ag rfl (aC (nc (kp 0 rfl zz) (aB (aA (mv rfl (sv rfl rfl (xb rfl (fun _=>Nv TF.dQ)) (bo rfl rfl (Ai (by decide)) (bo rfl rfl dJ ?_))))))));obtain⟨A2,n2,c2,w2,h1,H⟩:=H;refine sv rfl rfl (fun a ha=>gB (ha.ev rfl) (ha.ev rfl) h1) (ag rfl (aC (nc (y2 0 3 rfl) (aB (aB (aA (mv rfl (sv rfl rfl (xb rfl (fun _=>Nv TF.dQ)) (ag rfl (aC (nc (y3 0 3 4 rfl) (aV ?_))))))))))));obtain⟨I1,⟨k1,hi⟩,H⟩:=H;refine dM (fun k1 a w'=>∃A3 n3 c3,∃x1,Ok 46 [(0,.string s2),(3,.slice A3 n3 c3),(4,.int .i64 x1)] a/\I1 k1 A3 n3 c3 x1 w') (fun a ha=>⟨k1,A2,n2,c2,(s2.size:Int),ha.weaken cs,hi⟩) ?_;rintro k1 a w3 ⟨A3,n3,c3,x1,ha,hI⟩;replace H:=H k1 A3 n3 c3 x1 w3 hI;refine cu ha ?_;refine aB (aB (aA (mv rfl (bo rfl rfl kF (aC (nc (y4 0 3 4 18 rfl) ?_))))));refine aK rfl (fun hb=> ?_) (fun hb=> ?_)
 ·replace H:=H.1 hb;refine aN (nc (y3 0 3 4 rfl) (aB (aV (aB (aA (ag rfl (aC (nc (y4 0 3 4 5 rfl) (aB (aB (aA (mv rfl (mv rfl (bo rfl rfl jB (sv rfl rfl (xb rfl (fun _=>aK9)) (mv rfl ?_))))))))))))))));obtain⟨h2,h3,h4,H⟩:=H;refine sv rfl rfl (fun a ha=>qR (ha.ev rfl) (qA (ha.ev rfl)) (qA (ha.ev rfl)) rfl (aHm TF.dQ h2 h3 h4)) ?_;obtain⟨A4,n4,c4,w4,h6,H⟩:=H;refine sv rfl rfl (fun a ha=>dB (ha.ev rfl) h6) (sv rfl rfl (xb rfl (fun _=>bD TF.Cj)) (mv rfl (aC (nc (y7 0 3 4 5 27 28 29 rfl) (aV ?_)))));obtain⟨I2,⟨k2,hi⟩,H⟩:=H;refine lC (fun k2 a=>∃x2,∃x3,Ok 46 [(0,.string s2),(3,.slice A3 n3 c3),(4,.int .i64 x1),(5,.int .u32 x2),(27,.slice A4 n4 c4),(28,.int .i64 (n4:Int)),(29,.int .i64 x3)] a/\I2 k2 x2 x3) (fun a ha=>⟨k2,0,0,ha.weaken cs,hi⟩) ?_;rintro k2 a ⟨x2,x3,ha,hI⟩;replace H:=H k2 x2 x3 hI;refine cu ha ?_;refine aB (aA (bo rfl rfl fO (aC (nc (y8 0 3 4 5 27 28 29 30 rfl) (aB ?_)))));refine aK rfl (fun hb=> ?_) (fun hb=> ?_)
  ·replace H:=H.1 hb;refine aN (nc (y7 0 3 4 5 27 28 29 rfl) (aB (aV (aB (aA ?_)))));obtain⟨h7,h8,a1,e1,H⟩:=H;refine ix rfl rfl (bG TF.xM TF.yD e1 h7 h8) ?_;obtain⟨x4,h9,H⟩:=H;refine ld rfl (aJ TF.aCg h9) (ag rfl (aC (nc (y8 0 3 4 5 7 27 28 29 rfl) (aA (mv rfl (bo rfl rfl Aq (mv rfl (bo rfl rfl jB (sv rfl rfl (fun a ha=>dB (ha.ev rfl) (iC TF.Va TF.dL)) (bo rfl rfl dJ (ag rfl (aC (bQ (nc (y7 0 3 4 5 27 28 29 rfl) (aA (bo rfl rfl dJ (mv rfl (aC ?_))))))))))))))))));obtain⟨k3,hk,H⟩:=H;exact aT fun a ha=>⟨k3,hk,⟨IntKind.wrap .u32 ((IntKind.wrap .u32 (x2*10))+(IntKind.wrap .u32 (IntKind.wrap .u8 (x4-48)))),IntKind.wrap .i64 (x3+1),ha.weaken cs,H⟩,rfl⟩
  ·replace H:=H.2 hb;refine bW (aH (aH (aZ (nc (y4 0 3 4 5 rfl) (aA (mv rfl (mv rfl (sz rfl rfl (xl 1 1 (.cells #[.int .u32 x2] T.uint32) rfl) ?_))))))));intro p1 w5 hN;obtain⟨A5,n5,c5,w6,h10,H⟩:=H _ _ hN;refine sv rfl rfl (xb rfl (fun _=>kG h10)) (ag rfl (aC (bQ (nc (y3 0 3 4 rfl) (aA (mv rfl (bo rfl rfl jB (ag rfl (aC ?_)))))))));obtain⟨k4,hk,H⟩:=H;exact aT fun a ha=>⟨k4,hk,A5,n5,c5,IntKind.wrap .i64 (x1-9),ha.weaken cs,H⟩
 ·replace H:=H.2 hb;refine bW (aH (aH (aZ (nc (kp 3 rfl zz) (aB (aA (mv rfl (sc rfl rfl FF.lV H ?_))))))));rintro _ w7 ⟨A6,n6,c6,rfl,H⟩;exact ag rfl (aC (nc (kp 2 rfl zz) (aW (aG (res1 rfl rfl) ⟨_,rfl,_,_,_,rfl,H⟩))))
def zN (A1:Option Addr) (n1 c1:Nat) (K:ByteArray->World->Prop) (w:World):Prop:=
 ((n1:Int)=0->(K ⟨#[48]⟩ w))/\(¬((n1:Int)=0)->(∃(A2:Option Addr) (n2 c2:Nat) (w1:World),(Instr.makeSlice T.uF (.int .i64 (IntKind.wrap .i64 ((n1:Int)*9))) (.int .i64 (IntKind.wrap .i64 ((n1:Int)*9)))).run P w= .ok (.slice A2 n2 c2) w1/\(∃I1:Nat->Int->Int->World->Prop,(∃k1,I1 k1 (n2:Int) 0 w1)/\∀k1 (x1:Int) (x2:Int) (w2:World),I1 k1 x1 x2 w2->((x2<(n1:Int)->(0<=x2/\x2<(n1:Int)/\∃a1,A1=some a1/\∃x3,w2.cell? (a1.add (x2.toNat*1))=some (.int .u32 x3)/\∃I2:Nat->Int->Int->Int->World->Prop,(∃k2,I2 k2 x1 x3 0 w2)/\∀k2 (x4:Int) (x5:Int) (x6:Int) (w3:World),I2 k2 x4 x5 x6 w3->((x6<9->(0<=IntKind.wrap .i64 (x4-1)/\IntKind.wrap .i64 (x4-1)<(n2:Int)/\∃a2,A2=some a2/\(∃u1,w3.cell? (a2.add ((IntKind.wrap .i64 (x4-1)).toNat*1))=some u1)/\w3.frozen? (a2.add ((IntKind.wrap .i64 (x4-1)).toNat*1))=false/\∀w4,w4=w3.setCell (a2.add ((IntKind.wrap .i64 (x4-1)).toNat*1)) (.int .u8 (IntKind.wrap .u8 (IntKind.wrap .u32 (48+(Int.tmod x5 10)))))->(∃k3,k3<k2/\I2 k3 (IntKind.wrap .i64 (x4-1)) (IntKind.wrap .u32 (Int.tdiv x5 10)) (IntKind.wrap .i64 (x6+1)) w4)))/\(¬(x6<9)->(∃k4,k4<k1/\I1 k4 x4 (IntKind.wrap .i64 (x2+1)) w3)))))/\(¬(x2<(n1:Int))->(∃s2:ByteArray,(convert T.uF T.string (.slice A2 n2 c2)).run P w2= .ok (.string s2) w2/\Calls P F.rX #[.string s2,.string ⟨#[48]⟩] w2 (aS fun v1 w5=>∃s3:ByteArray,v1=(.string s3)/\K s3 w5)))))))
theorem Yb (A1:Option Addr) (n1 c1:Nat) (K:ByteArray->World->Prop) (w:World) (H:zN A1 n1 c1 K w):Calls P F.rM #[.slice A1 n1 c1] w (aS fun v w'=>∃s1:ByteArray,v=(.string s1)/\K s1 w'):=by
 unfold zN at H;refine aY (P:=P) Tryz.func155 rfl [(0,.slice A1 n1 c1)] 40 rfl rfl (fun p hp=>by rcases List.mem_singleton.1 hp with rfl;rfl) (aB (aA (ag rfl (aC (nc (kp 0 rfl zz) (aB (aB (aA (mv rfl (sv rfl rfl (xb rfl (fun _=>bD TF.aU)) (bo rfl rfl nN (aC (nc (y2 0 9 rfl) ?_)))))))))))));refine aK rfl (fun hb=> ?_) (fun hb=> ?_)
 ·replace H:=H.1 hb;exact aB (aA (ag rfl (aC (nc (kp 2 rfl zz) (aW (aI (aG (res1 rfl rfl) ⟨_,rfl,_,rfl,H⟩)))))))
 ·replace H:=H.2 hb;refine aN (nc (kp 0 rfl zz) (aB (aA (mv rfl (sv rfl rfl (xb rfl (fun _=>bD TF.aU)) (bo rfl rfl Aq ?_))))));obtain⟨A2,n2,c2,w1,h1,H⟩:=H;refine sv rfl rfl (fun a ha=>gB (ha.ev rfl) (ha.ev rfl) h1) (ag rfl (aC (nc (y2 0 3 rfl) (aB (aA (mv rfl (sv rfl rfl (xb rfl (fun _=>bD TF.Cj)) (ag rfl (aC (nc (y3 0 3 4 rfl) (aB (aB (aA (mv rfl (sv rfl rfl (xb rfl (fun _=>bD TF.aU)) (mv rfl (aC (nc (y5 3 4 16 17 18 rfl) (aV ?_)))))))))))))))))));obtain⟨I1,⟨k1,hi⟩,H⟩:=H;refine dM (fun k1 a w'=>∃x1,∃x2,Ok 40 [(3,.slice A2 n2 c2),(4,.int .i64 x1),(16,.slice A1 n1 c1),(17,.int .i64 (n1:Int)),(18,.int .i64 x2)] a/\I1 k1 x1 x2 w') (fun a ha=>⟨k1,(n2:Int),0,ha.weaken cs,hi⟩) ?_;rintro k1 a w2 ⟨x1,x2,ha,hI⟩;replace H:=H k1 x1 x2 w2 hI;refine cu ha ?_;refine aB (aA (bo rfl rfl fO (aC (nc (y6 3 4 16 17 18 19 rfl) (aB ?_)))));refine aK rfl (fun hb=> ?_) (fun hb=> ?_)
  ·replace H:=H.1 hb;refine aN (nc (y5 3 4 16 17 18 rfl) (aB (aV (aB (aA ?_)))));obtain⟨h2,h3,a1,e1,H⟩:=H;refine ix rfl rfl (bG TF.bJ TF.bH e1 h2 h3) ?_;obtain⟨x3,h4,H⟩:=H;refine ld rfl (aJ TF.dA h4) (ag rfl (aC (nc (y6 3 4 6 16 17 18 rfl) (aB (aA (mv rfl (aC (nc (y7 3 4 6 16 17 18 22 rfl) (aV ?_)))))))));obtain⟨I2,⟨k2,hi⟩,H⟩:=H;refine dM (fun k2 a w'=>∃x4,∃x5,∃x6,Ok 40 [(3,.slice A2 n2 c2),(4,.int .i64 x4),(6,.int .u32 x5),(16,.slice A1 n1 c1),(17,.int .i64 (n1:Int)),(18,.int .i64 x2),(22,.int .i64 x6)] a/\I2 k2 x4 x5 x6 w') (fun a ha=>⟨k2,x1,x3,0,ha.weaken cs,hi⟩) ?_;rintro k2 a w3 ⟨x4,x5,x6,ha,hI⟩;replace H:=H k2 x4 x5 x6 w3 hI;refine cu ha ?_;refine aB (aA (bo rfl rfl fO (aC (nc (y8 3 4 6 16 17 18 22 23 rfl) (aB ?_)))));refine aK rfl (fun hb=> ?_) (fun hb=> ?_)
   ·replace H:=H.1 hb;refine aN (nc (y7 3 4 6 16 17 18 22 rfl) (aB (aV (aB (aA (mv rfl (bo rfl rfl jB (ag rfl (aC (nc (y7 3 4 6 16 17 18 22 rfl) (aB (aA (mv rfl (mv rfl (mv rfl (bo rfl rfl (Gt (by decide)) (bo rfl rfl dJ (sv rfl rfl (fun a ha=>dB (ha.ev rfl) (iC TF.dL TF.Va)) ?_))))))))))))))))));obtain⟨h5,h6,a2,e2,H⟩:=H;refine ix rfl rfl (bG TF.xM TF.yD e2 h5 h6) ?_;obtain⟨⟨u1,h7⟩,h8,H⟩:=H;refine gX rfl (aF rfl) (xs rfl rfl (fE TF.yD rfl rfl h7 h8)) ?_;intro w4 hw;replace H:=H _ hw;clear hw;refine aC (nc (y7 3 4 6 16 17 18 22 rfl) (aA (mv rfl (bo rfl rfl (Ai (by decide)) (ag rfl (aC (bQ (nc (y7 3 4 6 16 17 18 22 rfl) (aA (bo rfl rfl dJ (mv rfl (aC ?_))))))))))));obtain⟨k3,hk,H⟩:=H;exact aT fun a ha=>⟨k3,hk,IntKind.wrap .i64 (x4-1),IntKind.wrap .u32 (Int.tdiv x5 10),IntKind.wrap .i64 (x6+1),ha.weaken cs,H⟩
   ·replace H:=H.2 hb;refine bW (aH (aH (aZ (bQ (nc (y5 3 4 16 17 18 rfl) (aA (bo rfl rfl dJ (mv rfl (aC ?_)))))))));obtain⟨k4,hk,H⟩:=H;exact aT fun a ha=>⟨k4,hk,x4,IntKind.wrap .i64 (x2+1),ha.weaken cs,H⟩
  ·replace H:=H.2 hb;refine bW (aH (aH (aZ (nc (kp 3 rfl zz) (aB (aA (mv rfl ?_)))))));obtain⟨s2,h9,H⟩:=H;refine sv rfl rfl (fun a ha=>dB (ha.ev rfl) h9) (sc rfl rfl FF.oV H ?_);rintro _ w5 ⟨s3,rfl,H⟩;exact ag rfl (aC (nc (kp 2 rfl zz) (aW (aG (res1 rfl rfl) ⟨_,rfl,_,rfl,H⟩))))
def vG (K:Bool->World->Prop) (b2:Bool) (w2:World):Prop:=
 K b2 w2
def Il (s1:ByteArray) (K:Bool->World->Prop) (w:World):Prop:=
 (s1≠.empty->(Calls P F.yZ #[.string s1,.string ⟨#[48,49,50,51,52,53,54,55,56,57]⟩] w (aS fun v1 w1=>∃s2:ByteArray,v1=(.string s2)/\(vG K) (decide (s2= .empty)) w1)))/\(¬(s1≠.empty)->((vG K) false w))
theorem aBe (s1:ByteArray) (K:Bool->World->Prop) (w:World) (H:Il s1 K w):Calls P F.Em #[.string s1] w (aS fun v w'=>∃b1,v=(.bool b1)/\K b1 w'):=by
 unfold Il at H;refine aY (P:=P) Tryz.func207 rfl [(0,.string s1)] 10 rfl rfl (fun p hp=>by rcases List.mem_singleton.1 hp with rfl;rfl) (aB (aA (ag rfl (aC (nc (kp 0 rfl zz) ?_)))));refine dI (fun a w=>∃b2,Ok 10 [(2,.bool b2)] a/\vG K b2 w) ?_ ?_
 ·rintro a w2 ⟨b2,ha,H⟩;unfold vG at H;refine cu ha ?_;exact aW (aG (res1 rfl rfl) ⟨_,rfl,_,rfl,H⟩)
 ·refine aA (mv rfl (bo rfl rfl rW ?_));rcases Classical.em (s1≠.empty) with hb|hb
  ·replace H:=H.1 hb;refine sv rfl rfl (xt rfl hb) (Kw rfl rfl rfl (uU rfl rfl (cZ rfl rfl rfl) (xc rfl rfl FF.uM) H ?_));rintro _ w1 ⟨s2,rfl,H⟩;exact Uu rfl rfl rfl rfl Bq (pt rfl rfl (ag rfl (aC (aT fun a ha=>⟨(decide (s2= .empty)),ha.weaken cs,H⟩))))
  ·replace H:=H.2 hb;exact sv rfl rfl (xf rfl hb) (sk rfl rfl rfl rfl (sk rfl rfl rfl rfl (sk rfl rfl rfl rfl (pf rfl rfl (ag rfl (aC (aT fun a ha=>⟨false,ha.weaken cs,H⟩)))))))
def mZ (K:Int->Bool->World->Prop) (w:World) (k1:Nat) (I1:Nat->Int->Prop) (x2:Int) (b2:Bool):Prop:=
 (b2=true->(K 0 false w))/\(b2=false->(∃k2,k2<k1/\I1 k2 (IntKind.wrap .i64 (x2+1))))
def xH (A1:Option Addr) (n1 c1:Nat) (K:Int->Bool->World->Prop) (w:World):Prop:=
 ∃I1:Nat->Int->Prop,(∃k1,I1 k1 0)/\∀k1 (x2:Int),I1 k1 x2->((x2<(n1:Int)->(0<=x2/\x2<(n1:Int)/\∃a1,A1=some a1/\∃x3,w.cell? (a1.add (x2.toNat*1))=some (.int .u32 x3)/\(x2<(IntKind.wrap .i64 ((n1:Int)-1))->((mZ K w k1 I1 x2) (decide (x3≠0))))/\(¬(x2<(IntKind.wrap .i64 ((n1:Int)-1)))->((mZ K w k1 I1 x2) false))))/\(¬(x2<(n1:Int))->(0<=IntKind.wrap .i64 ((n1:Int)-1)/\IntKind.wrap .i64 ((n1:Int)-1)<(n1:Int)/\∃a2,A1=some a2/\∃x4,w.cell? (a2.add ((IntKind.wrap .i64 ((n1:Int)-1)).toNat*1))=some (.int .u32 x4)/\∃I2:Nat->Int->Int->Prop,(∃k3,I2 k3 (IntKind.wrap .i64 ((IntKind.wrap .i64 ((n1:Int)-1))*9)) x4)/\∀k3 (x5:Int) (x6:Int),I2 k3 x5 x6->((1<x6->(((Int.tmod x6 10)≠0->(K 0 false w))/\(¬((Int.tmod x6 10)≠0)->(∃k4,k4<k3/\I2 k4 (IntKind.wrap .i64 (x5+1)) (IntKind.wrap .u32 (Int.tdiv x6 10))))))/\(¬(1<x6)->(K x5 true w))))))
theorem Vg (A1:Option Addr) (n1 c1:Nat) (K:Int->Bool->World->Prop) (w:World) (H:xH A1 n1 c1 K w):Calls P F.wL #[.slice A1 n1 c1] w (aS fun v w'=>∃x1,∃b1,v=(.tuple #[.int .i64 x1,.bool b1])/\K x1 b1 w'):=by
 unfold xH at H;refine aY (P:=P) Tryz.func217 rfl [(0,.slice A1 n1 c1)] 45 rfl rfl (fun p hp=>by rcases List.mem_singleton.1 hp with rfl;rfl) (aB (aA (ag rfl (ag rfl (aC (nc (kp 0 rfl zz) (aB (aA (mv rfl (sv rfl rfl (xb rfl (fun _=>bD TF.aU)) (ag rfl (aC (nc (y2 0 4 rfl) (aB (aB (aA (mv rfl (sv rfl rfl (xb rfl (fun _=>bD TF.aU)) (mv rfl (aC (nc (y5 0 4 11 12 13 rfl) (aV ?_))))))))))))))))))))));obtain⟨I1,⟨k1,hi⟩,H⟩:=H;refine lC (fun k1 a=>∃x2,Ok 45 [(0,.slice A1 n1 c1),(4,.int .i64 (n1:Int)),(11,.slice A1 n1 c1),(12,.int .i64 (n1:Int)),(13,.int .i64 x2)] a/\I1 k1 x2) (fun a ha=>⟨k1,0,ha.weaken cs,hi⟩) ?_;rintro k1 a ⟨x2,ha,hI⟩;replace H:=H k1 x2 hI;refine cu ha ?_;refine aB (aA (bo rfl rfl fO (aC (nc (y6 0 4 11 12 13 14 rfl) (aB ?_)))));refine aK rfl (fun hb=> ?_) (fun hb=> ?_)
 ·replace H:=H.1 hb;refine aN (nc (y5 0 4 11 12 13 rfl) (aB (aV (aB (aA (mv rfl ?_))))));obtain⟨h1,h2,a1,e1,H⟩:=H;refine ix rfl rfl (bG TF.bJ TF.bH e1 h1 h2) ?_;obtain⟨x3,h3,H⟩:=H;refine ld rfl (aJ TF.dA h3) (ag rfl (ag rfl (aC (nc (y7 0 4 5 6 11 12 13 rfl) ?_))));refine bK (fun a=>∃b2,Ok 45 [(0,.slice A1 n1 c1),(4,.int .i64 (n1:Int)),(11,.slice A1 n1 c1),(12,.int .i64 (n1:Int)),(13,.int .i64 x2),(25,.bool b2)] a/\mZ K w k1 I1 x2 b2) ?_ ?_
  ·rintro a ⟨b2,ha,H⟩;unfold mZ at H;refine cu ha ?_;refine dG rfl (fun hb=> ?_) (fun hb=> ?_)
   ·replace H:=H.1 hb;exact aB (aA (ag rfl (ag rfl (aC (nc (y2 2 3 rfl) (aW (bF (aI (aI (bF (aI (aG (wF rfl rfl rfl) ⟨_,rfl,_,_,rfl,H⟩))))))))))))
   ·replace H:=H.2 hb;refine aN (bQ (nc (y5 0 4 11 12 13 rfl) (aA (bo rfl rfl dJ (mv rfl (aC ?_))))));obtain⟨k2,hk,H⟩:=H;exact aT fun a ha=>⟨k2,hk,⟨IntKind.wrap .i64 (x2+1),ha.weaken cs,H⟩,rfl⟩
  ·refine aA (mv rfl (mv rfl (bo rfl rfl jB (bo rfl rfl fO ?_))));rcases Classical.em (x2<(IntKind.wrap .i64 ((n1:Int)-1))) with hb|hb
   ·replace H:=H.1 hb;exact sv rfl rfl (xt rfl hb) (Kw rfl rfl rfl (Uu rfl rfl rfl rfl zC (pt rfl rfl (aC (aT fun a ha=>⟨⟨(decide (x3≠0)),ha.weaken cs,H⟩,rfl⟩)))))
   ·replace H:=H.2 hb;exact sv rfl rfl (xf rfl hb) (sk rfl rfl rfl rfl (sk rfl rfl rfl rfl (pf rfl rfl (aC (aT fun a ha=>⟨⟨false,ha.weaken cs,H⟩,rfl⟩)))))
 ·replace H:=H.2 hb;refine bW (aH (aH (aZ (nc (y2 0 4 rfl) (aB (aA (mv rfl (bo rfl rfl jB (bo rfl rfl Aq (ag rfl (aC (nc (y3 0 4 7 rfl) (aB (aB (aA (mv rfl (mv rfl (bo rfl rfl jB ?_))))))))))))))))));obtain⟨h4,h5,a2,e2,H⟩:=H;refine ix rfl rfl (bG TF.bJ TF.bH e2 h4 h5) ?_;obtain⟨x4,h6,H⟩:=H;refine ld rfl (aJ TF.dA h6) (ag rfl (aC (nc (y2 7 8 rfl) (aV ?_))));obtain⟨I2,⟨k3,hi⟩,H⟩:=H;refine lC (fun k3 a=>∃x5,∃x6,Ok 45 [(7,.int .i64 x5),(8,.int .u32 x6)] a/\I2 k3 x5 x6) (fun a ha=>⟨k3,IntKind.wrap .i64 ((IntKind.wrap .i64 ((n1:Int)-1))*9),x4,ha.weaken cs,hi⟩) ?_;rintro k3 a ⟨x5,x6,ha,hI⟩;replace H:=H k3 x5 x6 hI;refine cu ha ?_;refine aB (aB (aA (mv rfl (bo rfl rfl kF (aC (nc (y3 7 8 36 rfl) ?_))))));refine aK rfl (fun hb=> ?_) (fun hb=> ?_)
  ·replace H:=H.1 hb;refine aN (nc (y2 7 8 rfl) (aB (aV (aB (aB (aA (mv rfl (bo rfl rfl (Gt (by decide)) (bo rfl rfl zC (aC (nc (y3 7 8 41 rfl) ?_)))))))))));refine aK rfl (fun hb=> ?_) (fun hb=> ?_)
   ·replace H:=H.1 hb;exact aB (aA (ag rfl (ag rfl (aC (nc (y2 2 3 rfl) (aW (aI (bF (aI (aI (bF (aI (aG (wF rfl rfl rfl) ⟨_,rfl,_,_,rfl,H⟩)))))))))))))
   ·replace H:=H.2 hb;refine aN (nc (y2 7 8 rfl) (aA (mv rfl (bo rfl rfl dJ (ag rfl (aC (bQ (nc (y2 7 8 rfl) (aA (mv rfl (bo rfl rfl (Ai (by decide)) (ag rfl (aC ?_)))))))))))));obtain⟨k4,hk,H⟩:=H;exact aT fun a ha=>⟨k4,hk,⟨IntKind.wrap .i64 (x5+1),IntKind.wrap .u32 (Int.tdiv x6 10),ha.weaken cs,H⟩,rfl⟩
  ·replace H:=H.2 hb;exact bW (aH (aH (aZ (nc (kp 7 rfl zz) (aB (aA (mv rfl (ag rfl (ag rfl (aC (nc (y2 2 3 rfl) (aW (aG (wF rfl rfl rfl) ⟨_,rfl,_,_,rfl,H⟩)))))))))))))
def qX (A3:Option Addr) (n3 c3:Nat) (x1:Int) (w1:World) (jc2:Option Addr->Nat->Nat->Int->World->Prop) (x4:Int) (k1:Nat) (I1:Nat->Option Addr->Nat->Nat->Int->World->Prop) (b1:Bool):Prop:=
 (b1=true->(Calls P F.rC #[.slice A3 n3 c3,.int .u32 x1] w1 (aS fun v1 w2=>∃A4 n4 c4,∃x5,v1=(.tuple #[.slice A4 n4 c4,.int .u32 x5])/\(x5≠0->(jc2 A3 n3 c3 x4 w2))/\(¬(x5≠0)->(∃k2,k2<k1/\I1 k2 A4 n4 c4 (IntKind.wrap .i64 (x4+1)) w2)))))/\(b1=false->(jc2 A3 n3 c3 x4 w1))
def kH (K:Int->Option Addr->Nat->Nat->World->Prop) (A5:Option Addr) (n5 c5:Nat) (x6:Int) (w3:World):Prop:=
 K x6 A5 n5 c5 w3
def Bf (A1:Option Addr) (n1 c1:Nat) (x1:Int) (x2:Int) (K:Int->Option Addr->Nat->Nat->World->Prop) (w:World):Prop:=
 ∃I1:Nat->Option Addr->Nat->Nat->Int->World->Prop,(∃k1,I1 k1 A1 n1 c1 0 w)/\∀k1 (A3:Option Addr) (n3 c3:Nat) (x4:Int) (w1:World),I1 k1 A3 n3 c3 x4 w1->((x4<x2->((qX A3 n3 c3 x1 w1 (kH K) x4 k1 I1) (decide (0<(n3:Int)))))/\(¬(x4<x2)->((qX A3 n3 c3 x1 w1 (kH K) x4 k1 I1) false)))
theorem Ze (A1:Option Addr) (n1 c1:Nat) (x1:Int) (x2:Int) (K:Int->Option Addr->Nat->Nat->World->Prop) (w:World) (H:Bf A1 n1 c1 x1 x2 K w):Calls P F.xI #[.slice A1 n1 c1,.int .u32 x1,.int .i64 x2] w (aS fun v w'=>∃x3,∃A2 n2 c2,v=(.tuple #[.int .i64 x3,.slice A2 n2 c2])/\K x3 A2 n2 c2 w'):=by
 unfold Bf at H;refine aY (P:=P) Tryz.func218 rfl [(0,.slice A1 n1 c1),(1,.int .u32 x1),(2,.int .i64 x2)] 32 rfl rfl (aa rfl (aa rfl (aa rfl az))) (aB (aA (ag rfl (ag rfl (aC (nc (y3 0 1 2 rfl) (aB (aA (ag rfl (aC (nc (y4 0 1 2 8 rfl) ?_)))))))))));refine dI (fun a w=>∃A5 n5 c5,∃x6,Ok 32 [(0,.slice A5 n5 c5),(8,.int .i64 x6)] a/\kH K A5 n5 c5 x6 w) ?_ ?_
 ·rintro a w3 ⟨A5,n5,c5,x6,ha,H⟩;unfold kH at H;refine cu ha ?_;exact aB (aA (mv rfl (mv rfl (ag rfl (ag rfl (aC (nc (y2 6 7 rfl) (aW (aG (wF rfl rfl rfl) ⟨_,rfl,_,_,_,_,rfl,H⟩)))))))))
 ·refine aV ?_;obtain⟨I1,⟨k1,hi⟩,H⟩:=H;refine dM (fun k1 a w'=>∃A3 n3 c3,∃x4,Ok 32 [(0,.slice A3 n3 c3),(1,.int .u32 x1),(2,.int .i64 x2),(8,.int .i64 x4)] a/\I1 k1 A3 n3 c3 x4 w') (fun a ha=>⟨k1,A1,n1,c1,0,ha.weaken cs,hi⟩) ?_;rintro k1 a w1 ⟨A3,n3,c3,x4,ha,hI⟩;replace H:=H k1 A3 n3 c3 x4 w1 hI;refine cu ha ?_;refine aB ?_;refine bK (fun a=>∃b1,Ok 32 [(0,.slice A3 n3 c3),(1,.int .u32 x1),(2,.int .i64 x2),(8,.int .i64 x4),(18,.bool b1)] a/\qX A3 n3 c3 x1 w1 (kH K) x4 k1 I1 b1) ?_ ?_
  ·rintro a ⟨b1,ha,H⟩;unfold qX at H;refine cu ha ?_;refine dG rfl (fun hb=> ?_) (fun hb=> ?_)
   ·replace H:=H.1 hb;refine aN (nc (y4 0 1 2 8 rfl) (aV (aB (aA (mv rfl (mv rfl (sc rfl rfl FF.rE H ?_)))))));rintro _ w2 ⟨A4,n4,c4,x5,rfl,H⟩;refine mv rfl (sv rfl rfl (xe rfl rfl) (sv rfl rfl (xe rfl rfl) (ag rfl (ag rfl (aC (nc (y6 0 1 2 8 9 10 rfl) (aB (aB (aA (mv rfl (bo rfl rfl zC (aC (nc (y6 0 1 2 8 9 26 rfl) ?_)))))))))))));refine aK rfl (fun hb=> ?_) (fun hb=> ?_)
    ·replace H:=H.1 hb;exact bW (aH (Qb rfl (aH (aZ (aT fun a ha=>⟨A3,n3,c3,x4,ha.weaken cs,H⟩)))))
    ·replace H:=H.2 hb;refine aN (nc (y4 1 2 8 9 rfl) (aB (aA (mv rfl (ag rfl (aC (nc (y4 0 1 2 8 rfl) (aA (mv rfl (bo rfl rfl dJ (ag rfl (aC (bQ ?_)))))))))))));obtain⟨k2,hk,H⟩:=H;exact aT fun a ha=>⟨k2,hk,A4,n4,c4,IntKind.wrap .i64 (x4+1),ha.weaken cs,H⟩
   ·replace H:=H.2 hb;exact bW (aH (aH (aZ (aT fun a ha=>⟨A3,n3,c3,x4,ha.weaken cs,H⟩))))
  ·refine aA (mv rfl (mv rfl (bo rfl rfl fO ?_)));rcases Classical.em (x4<x2) with hb|hb
   ·replace H:=H.1 hb;exact sv rfl rfl (xt rfl hb) (Kw rfl rfl rfl (svg rfl rfl rfl rfl (xb rfl (fun _=>bD TF.aU)) (Uu rfl rfl rfl rfl kF (pt rfl rfl (aC (aT fun a ha=>⟨⟨(decide (0<(n3:Int))),ha.weaken cs,H⟩,rfl⟩))))))
   ·replace H:=H.2 hb;exact sv rfl rfl (xf rfl hb) (sk rfl rfl rfl rfl (sk rfl rfl rfl rfl (sk rfl rfl rfl rfl (pf rfl rfl (aC (aT fun a ha=>⟨⟨false,ha.weaken cs,H⟩,rfl⟩))))))
def pG (A4:Option Addr) (n4 c4:Nat) (k1:Nat) (I1:Nat->Int->Option Addr->Nat->Nat->Option Addr->Nat->Nat->World->Prop) (x3:Int) (A6:Option Addr) (n6 c6:Nat) (w5:World):Prop:=
 Calls P F.fH #[.slice A4 n4 c4,.slice A4 n4 c4] w5 (aS fun v3 w6=>∃A7 n7 c7,v3=(.slice A7 n7 c7)/\∃k2,k2<k1/\I1 k2 (IntKind.wrap .i64 (Int.tdiv x3 2)) A6 n6 c6 A7 n7 c7 w6)
def Ol (x1:Int) (x2:Int) (K:Option Addr->Nat->Nat->World->Prop) (w:World):Prop:=
 Calls P F.Uo #[] w (aS fun v1 w1=>∃A2 n2 c2,v1=(.slice A2 n2 c2)/\∀(p1:Addr) (w2:World),New w1 (.cells #[.int .u32 x1] T.uint32) p1 w2->(∃I1:Nat->Int->Option Addr->Nat->Nat->Option Addr->Nat->Nat->World->Prop,(∃k1,I1 k1 x2 A2 n2 c2 (some p1) 1 1 w2)/\∀k1 (x3:Int) (A3:Option Addr) (n3 c3:Nat) (A4:Option Addr) (n4 c4:Nat) (w3:World),I1 k1 x3 A3 n3 c3 A4 n4 c4 w3->((0<x3->(((Int.tmod x3 2)=1->(Calls P F.fH #[.slice A3 n3 c3,.slice A4 n4 c4] w3 (aS fun v2 w4=>∃A5 n5 c5,v2=(.slice A5 n5 c5)/\(pG A4 n4 c4 k1 I1 x3) A5 n5 c5 w4)))/\(¬((Int.tmod x3 2)=1)->((pG A4 n4 c4 k1 I1 x3) A3 n3 c3 w3))))/\(¬(0<x3)->(K A3 n3 c3 w3)))))
theorem aC7 (x1:Int) (x2:Int) (K:Option Addr->Nat->Nat->World->Prop) (w:World) (H:Ol x1 x2 K w):Calls P F.Nj #[.int .u32 x1,.int .i64 x2] w (aS fun v w'=>∃A1 n1 c1,v=(.slice A1 n1 c1)/\K A1 n1 c1 w'):=by
 unfold Ol at H;refine aY (P:=P) Tryz.func219 rfl [(0,.int .u32 x1),(1,.int .i64 x2)] 24 rfl rfl (aa rfl (aa rfl az)) (aB (aA (ag rfl (aC (nc (y2 0 1 rfl) (aB (aA (sc rfl rfl FF.Bl H ?_))))))));rintro _ w1 ⟨A2,n2,c2,rfl,H⟩;refine mv rfl (sz rfl rfl (xl 1 1 (.cells #[.int .u32 x1] T.uint32) rfl) ?_);intro p1 w2 hN;replace H:=H _ _ hN;refine ag rfl (ag rfl (aC (nc (y3 1 5 6 rfl) (aB (aV ?_)))));obtain⟨I1,⟨k1,hi⟩,H⟩:=H;refine dM (fun k1 a w'=>∃x3,∃A3 n3 c3,∃A4 n4 c4,Ok 24 [(1,.int .i64 x3),(5,.slice A3 n3 c3),(6,.slice A4 n4 c4)] a/\I1 k1 x3 A3 n3 c3 A4 n4 c4 w') (fun a ha=>⟨k1,x2,A2,n2,c2,some p1,1,1,ha.weaken cs,hi⟩) ?_;rintro k1 a w3 ⟨x3,A3,n3,c3,A4,n4,c4,ha,hI⟩;replace H:=H k1 x3 A3 n3 c3 A4 n4 c4 w3 hI;refine cu ha ?_;refine aB (aB (aA (mv rfl (bo rfl rfl kF (aC (nc (y4 1 5 6 11 rfl) ?_))))));refine aK rfl (fun hb=> ?_) (fun hb=> ?_)
 ·replace H:=H.1 hb;refine aN (nc (y3 1 5 6 rfl) (aB (aV ?_)));refine dI (fun a w=>∃A6 n6 c6,Ok 24 [(1,.int .i64 x3),(5,.slice A6 n6 c6),(6,.slice A4 n4 c4)] a/\pG A4 n4 c4 k1 I1 x3 A6 n6 c6 w) ?_ ?_
  ·rintro a w5 ⟨A6,n6,c6,ha,H⟩;unfold pG at H;refine cu ha ?_;refine aA (mv rfl (mv rfl (sc rfl rfl FF.dD H ?_)));rintro _ w6 ⟨A7,n7,c7,rfl,H⟩;refine ag rfl (aC (bQ (nc (y3 1 5 6 rfl) (aA (mv rfl (bo rfl rfl (Ai (by decide)) (ag rfl (aC ?_))))))));obtain⟨k2,hk,H⟩:=H;exact aT fun a ha=>⟨k2,hk,IntKind.wrap .i64 (Int.tdiv x3 2),A6,n6,c6,A7,n7,c7,ha.weaken cs,H⟩
  ·refine aB (aA (mv rfl (bo rfl rfl (Gt (by decide)) (bo rfl rfl nN (aC (nc (y4 1 5 6 16 rfl) ?_))))));refine aK rfl (fun hb=> ?_) (fun hb=> ?_)
   ·replace H:=H.1 hb;refine aA (mv rfl (mv rfl (sc rfl rfl FF.dD H ?_)));rintro _ w4 ⟨A5,n5,c5,rfl,H⟩;exact ag rfl (aC (aT fun a ha=>⟨A5,n5,c5,ha.weaken cs,H⟩))
   ·replace H:=H.2 hb;exact aN (aT fun a ha=>⟨A3,n3,c3,ha.weaken cs,H⟩)
 ·replace H:=H.2 hb;exact bW (aH (aH (aZ (nc (kp 5 rfl zz) (aB (aA (mv rfl (ag rfl (aC (nc (kp 4 rfl zz) (aW (aG (res1 rfl rfl) ⟨_,rfl,_,_,_,rfl,H⟩))))))))))))
def rU (x4:Int) (x5:Int) (w9:World) (K:Option Addr->Nat->Nat->World->Prop) (A9:Option Addr) (n9 c9:Nat) (A10:Option Addr) (n10 c10:Nat) (k1:Nat) (I1:Nat->Option Addr->Nat->Nat->Option Addr->Nat->Nat->World->Prop) (b5:Bool):Prop:=
 (b5=true->(∃I2:Nat->Int->Int->World->Prop,(∃k2,I2 k2 x4 x5 w9)/\∀k2 (x6:Int) (x7:Int) (w10:World),I2 k2 x6 x7 w10->((0<x7->(x7≠0/\∀w11,aP w10 w11->(∃k3,k3<k2/\I2 k3 x7 (Int.tmod x6 x7) w11)))/\(¬(0<x7)->(Calls P F.rO #[.int .u64 x6] w10 (aS fun v9 w12=>∃A11 n11 c11,v9=(.slice A11 n11 c11)/\K A11 n11 c11 w12))))))/\(b5=false->(Calls P F.wG #[.slice A9 n9 c9,.slice A10 n10 c10] w9 (aS fun v10 w13=>∃A12 n12 c12,∃A13 n13 c13,v10=(.tuple #[.slice A12 n12 c12,.slice A13 n13 c13])/\∃k4,k4<k1/\I1 k4 A10 n10 c10 A13 n13 c13 w13)))
def rD (A1:Option Addr) (n1 c1:Nat) (x1:Int) (w1:World) (K:Option Addr->Nat->Nat->World->Prop) (A2:Option Addr) (n2 c2:Nat) (b2:Bool):Prop:=
 (b2=true->(Calls P F.xI #[.slice A1 n1 c1,.int .u32 2,.int .i64 x1] w1 (aS fun v2 w2=>∃x2,∃A4 n4 c4,v2=(.tuple #[.int .i64 x2,.slice A4 n4 c4])/\Calls P F.xI #[.slice A1 n1 c1,.int .u32 5,.int .i64 x1] w2 (aS fun v3 w3=>∃x3,∃A5 n5 c5,v3=(.tuple #[.int .i64 x3,.slice A5 n5 c5])/\Calls P F.Nj #[.int .u32 2,.int .i64 x2] w3 (aS fun v4 w4=>∃A6 n6 c6,v4=(.slice A6 n6 c6)/\Calls P F.Nj #[.int .u32 5,.int .i64 x3] w4 (aS fun v5 w5=>∃A7 n7 c7,v5=(.slice A7 n7 c7)/\Calls P F.fH #[.slice A6 n6 c6,.slice A7 n7 c7] w5 (aS fun v6 w6=>∃A8 n8 c8,v6=(.slice A8 n8 c8)/\K A8 n8 c8 w6)))))))/\(b2=false->(∃I1:Nat->Option Addr->Nat->Nat->Option Addr->Nat->Nat->World->Prop,(∃k1,I1 k1 A1 n1 c1 A2 n2 c2 w1)/\∀k1 (A9:Option Addr) (n9 c9:Nat) (A10:Option Addr) (n10 c10:Nat) (w7:World),I1 k1 A9 n9 c9 A10 n10 c10 w7->((0<(n10:Int)->(Calls P F.qJ #[.slice A9 n9 c9] w7 (aS fun v7 w8=>∃x4,∃b3,v7=(.tuple #[.int .u64 x4,.bool b3])/\Calls P F.qJ #[.slice A10 n10 c10] w8 (aS fun v8 w9=>∃x5,∃b4,v8=(.tuple #[.int .u64 x5,.bool b4])/\(b3=true->((rU x4 x5 w9 K A9 n9 c9 A10 n10 c10 k1 I1) b4))/\(b3=false->((rU x4 x5 w9 K A9 n9 c9 A10 n10 c10 k1 I1) false))))))/\(¬(0<(n10:Int))->(K A9 n9 c9 w7)))))
def Lp (A1:Option Addr) (n1 c1:Nat) (A2:Option Addr) (n2 c2:Nat) (K:Option Addr->Nat->Nat->World->Prop) (w:World):Prop:=
 Calls P F.wL #[.slice A2 n2 c2] w (aS fun v1 w1=>∃x1,∃b1,v1=(.tuple #[.int .i64 x1,.bool b1])/\(b1=true->((rD A1 n1 c1 x1 w1 K A2 n2 c2) (decide (2<(n2:Int)))))/\(b1=false->((rD A1 n1 c1 x1 w1 K A2 n2 c2) false)))
theorem aB6 (A1:Option Addr) (n1 c1:Nat) (A2:Option Addr) (n2 c2:Nat) (K:Option Addr->Nat->Nat->World->Prop) (w:World) (H:Lp A1 n1 c1 A2 n2 c2 K w):Calls P F.Oh #[.slice A1 n1 c1,.slice A2 n2 c2] w (aS fun v w'=>∃A3 n3 c3,v=(.slice A3 n3 c3)/\K A3 n3 c3 w'):=by
 unfold Lp at H;refine aY (P:=P) Tryz.func189 rfl [(0,.slice A1 n1 c1),(1,.slice A2 n2 c2)] 79 rfl rfl (aa rfl (aa rfl az)) (aB (aA (ag rfl (aC (nc (y2 0 1 rfl) (aB (aB (aA (mv rfl (sc rfl rfl FF.Jo H ?_))))))))));rintro _ w1 ⟨x1,b1,rfl,H⟩;refine mv rfl (sv rfl rfl (xe rfl rfl) (sv rfl rfl (xe rfl rfl) (ag rfl (ag rfl (aC (nc (y4 0 1 5 6 rfl) ?_))))));refine bK (fun a=>∃b2,Ok 79 [(0,.slice A1 n1 c1),(1,.slice A2 n2 c2),(5,.int .i64 x1),(27,.bool b2)] a/\rD A1 n1 c1 x1 w1 K A2 n2 c2 b2) ?_ ?_
 ·rintro a ⟨b2,ha,H⟩;unfold rD at H;refine cu ha ?_;refine dG rfl (fun hb=> ?_) (fun hb=> ?_)
  ·replace H:=H.1 hb;refine aB (aA (mv rfl (mv rfl (sc rfl rfl FF.Ae H ?_))));rintro _ w2 ⟨x2,A4,n4,c4,rfl,H⟩;refine mv rfl (sv rfl rfl (xe rfl rfl) (sv rfl rfl (xe rfl rfl) (ag rfl (ag rfl (aC (nc (y3 0 5 7 rfl) (aB (aA (mv rfl (mv rfl (sc rfl rfl FF.Ae H ?_)))))))))));rintro _ w3 ⟨x3,A5,n5,c5,rfl,H⟩;refine mv rfl (sv rfl rfl (xe rfl rfl) (sv rfl rfl (xe rfl rfl) (ag rfl (ag rfl (aC (nc (y2 7 9 rfl) (aB (aA (mv rfl (sc rfl rfl FF.Iu H ?_))))))))));rintro _ w4 ⟨A6,n6,c6,rfl,H⟩;refine mv rfl (sc rfl rfl FF.Iu H ?_);rintro _ w5 ⟨A7,n7,c7,rfl,H⟩;refine sc rfl rfl FF.dD H ?_;rintro _ w6 ⟨A8,n8,c8,rfl,H⟩;exact ag rfl (aC (nc (kp 4 rfl zz) (aW (aI (aG (res1 rfl rfl) ⟨_,rfl,_,_,_,rfl,H⟩)))))
  ·replace H:=H.2 hb;refine aN (nc (y2 0 1 rfl) (aB (aV ?_)));obtain⟨I1,⟨k1,hi⟩,H⟩:=H;refine dM (fun k1 a w'=>∃A9 n9 c9,∃A10 n10 c10,Ok 79 [(0,.slice A9 n9 c9),(1,.slice A10 n10 c10)] a/\I1 k1 A9 n9 c9 A10 n10 c10 w') (fun a ha=>⟨k1,A1,n1,c1,A2,n2,c2,ha.weaken cs,hi⟩) ?_;rintro k1 a w7 ⟨A9,n9,c9,A10,n10,c10,ha,hI⟩;replace H:=H k1 A9 n9 c9 A10 n10 c10 w7 hI;refine cu ha ?_;refine aB (aB (aA (mv rfl (sv rfl rfl (xb rfl (fun _=>bD TF.aU)) (bo rfl rfl kF (aC (nc (y3 0 1 47 rfl) ?_)))))));refine aK rfl (fun hb=> ?_) (fun hb=> ?_)
   ·replace H:=H.1 hb;refine aN (nc (y2 0 1 rfl) (aV (aB (aA (mv rfl (sc rfl rfl FF.mV H ?_))))));rintro _ w8 ⟨x4,b3,rfl,H⟩;refine mv rfl (sv rfl rfl (xe rfl rfl) (sv rfl rfl (xe rfl rfl) (ag rfl (ag rfl (aC (nc (y4 0 1 11 12 rfl) (aB (aA (mv rfl (sc rfl rfl FF.mV H ?_))))))))));rintro _ w9 ⟨x5,b4,rfl,H⟩;refine mv rfl (sv rfl rfl (xe rfl rfl) (sv rfl rfl (xe rfl rfl) (ag rfl (ag rfl (aC (nc (y6 0 1 11 12 13 14 rfl) (aB ?_)))))));refine bK (fun a=>∃b5,Ok 79 [(0,.slice A9 n9 c9),(1,.slice A10 n10 c10),(11,.int .u64 x4),(13,.int .u64 x5),(61,.bool b5)] a/\rU x4 x5 w9 K A9 n9 c9 A10 n10 c10 k1 I1 b5) ?_ ?_
    ·rintro a ⟨b5,ha,H⟩;unfold rU at H;refine cu ha ?_;refine dG rfl (fun hb=> ?_) (fun hb=> ?_)
     ·replace H:=H.1 hb;refine aB (aV ?_);obtain⟨I2,⟨k2,hi⟩,H⟩:=H;refine dM (fun k2 a w'=>∃x6,∃x7,Ok 79 [(11,.int .u64 x6),(13,.int .u64 x7)] a/\I2 k2 x6 x7 w') (fun a ha=>⟨k2,x4,x5,ha.weaken cs,hi⟩) ?_;rintro k2 a w10 ⟨x6,x7,ha,hI⟩;replace H:=H k2 x6 x7 w10 hI;refine cu ha ?_;refine aB (aB (aA (mv rfl (bo rfl rfl kF (aC (nc (y3 11 13 63 rfl) ?_))))));refine aK rfl (fun hb=> ?_) (fun hb=> ?_)
      ·replace H:=H.1 hb;refine aN (nc (y2 11 13 rfl) (aV ?_));refine dW follows [0,1,2,3,4,5] [] 6 rfl rfl (by kernel_rfl) (fun _ _ d _ _ h=>by cases d<;>exact h) (fun cm W D=> ?_);refine Ez 0 cm rfl rfl D fun _ D=>(Ez 1 cm rfl rfl D fun _ D=>(Ez 2 cm rfl rfl D fun _ D=> ?_));obtain⟨h1,H⟩:=H;refine Ji 3 cm rfl rfl rfl (fun w' a ha=>dK (ha.ev rfl) (ha.ev rfl) (Gt h1)) D fun _ D=>(vP 4 cm rfl rfl D fun _ D=>(vP 5 cm rfl rfl D fun _ D=>(dU (by kernel_rfl) D ?_)));intro w11 D;replace H:=H _ D;clear D cm;refine bQ ?_;obtain⟨k3,hk,H⟩:=H;exact aT fun a ha=>⟨k3,hk,x7,Int.tmod x6 x7,ha.weaken cs,H⟩
      ·replace H:=H.2 hb;refine bW (aH (aH (aZ (nc (kp 11 rfl zz) (aB (aA (mv rfl (sc rfl rfl FF.iW H ?_))))))));rintro _ w12 ⟨A11,n11,c11,rfl,H⟩;exact ag rfl (aC (nc (kp 4 rfl zz) (aW (aI (bF (aI (bF (aI (aG (res1 rfl rfl) ⟨_,rfl,_,_,_,rfl,H⟩)))))))))
     ·replace H:=H.2 hb;refine aN (nc (y2 0 1 rfl) (aB (aA (mv rfl (mv rfl (sc rfl rfl FF.uJ H ?_))))));rintro _ w13 ⟨A12,n12,c12,A13,n13,c13,rfl,H⟩;refine mv rfl (sv rfl rfl (xe rfl rfl) (sv rfl rfl (xe rfl rfl) (ag rfl (ag rfl (aC (nc (y2 1 16 rfl) (aA (mv rfl (mv rfl (ag rfl (ag rfl (aC (bQ ?_)))))))))))));obtain⟨k4,hk,H⟩:=H;exact aT fun a ha=>⟨k4,hk,A10,n10,c10,A13,n13,c13,ha.weaken cs,H⟩
    ·refine aA (mv rfl ?_);rcases tf b3 with hb|hb
     ·replace H:=H.1 hb;exact sv rfl rfl (fun a ha=>Ya (eU (ha.ev rfl)) hb) (Kw rfl rfl rfl (pt rfl rfl (aC (aT fun a ha=>⟨⟨b4,ha.weaken cs,H⟩,rfl⟩))))
     ·replace H:=H.2 hb;exact sv rfl rfl (fun a ha=>Xq (eU (ha.ev rfl)) hb) (sk rfl rfl rfl rfl (pf rfl rfl (aC (aT fun a ha=>⟨⟨false,ha.weaken cs,H⟩,rfl⟩))))
   ·replace H:=H.2 hb;exact bW (aH (aH (aZ (nc (kp 0 rfl zz) (aB (aA (mv rfl (ag rfl (aC (nc (kp 4 rfl zz) (aW (aG (res1 rfl rfl) ⟨_,rfl,_,_,_,rfl,H⟩))))))))))))
 ·refine aA (mv rfl ?_);rcases tf b1 with hb|hb
  ·replace H:=H.1 hb;exact sv rfl rfl (fun a ha=>Ya (eU (ha.ev rfl)) hb) (Kw rfl rfl rfl (svg rfl rfl rfl rfl (xb rfl (fun _=>bD TF.aU)) (Uu rfl rfl rfl rfl kF (pt rfl rfl (aC (aT fun a ha=>⟨⟨(decide (2<(n2:Int))),ha.weaken cs,H⟩,rfl⟩))))))
  ·replace H:=H.2 hb;exact sv rfl rfl (fun a ha=>Xq (eU (ha.ev rfl)) hb) (sk rfl rfl rfl rfl (sk rfl rfl rfl rfl (sk rfl rfl rfl rfl (pf rfl rfl (aC (aT fun a ha=>⟨⟨false,ha.weaken cs,H⟩,rfl⟩))))))
theorem aHe {k t cy br e g R Q br' a b c z:Nat} (hs:a+k*b=c+BB^t*(cy+br)) (hp:R+BB*Q=cy+k*g) (he:e+R+br=z+BB*br'):
  a+BB^t*e+k*(b+BB^t*g)=c+BB^t*z+BB^(t+1)*(Q+br'):=by
 have h1:BB^t*(cy+br+e+k*g)=BB^t*(z+BB*(Q+br')):=by
  congr 1
  rw[Nat.mul_add BB]
  omega
 have h2:k*(BB^t*g)=BB^t*(k*g):=Nat.mul_left_comm _ _ _
 have h3:BB^(t+1)*(Q+br')=BB^t*(BB*(Q+br')):=by rw[Nat.pow_succ,Nat.mul_assoc]
 rw[Nat.mul_add k,h2,h3]
 rw[Nat.mul_add (BB^t) (cy+br+e),Nat.mul_add (BB^t) (cy+br),Nat.mul_add (BB^t) z] at h1
 omega
section
variable {w w':World} {A B:Option Addr} {n c m d j k:Nat} {u v:List Nat}
theorem aIl (hU:LR w A n c u) (lu:Lo u) (hV:LR w B m d v) (lv:Lo v) (hj:j+m+1<=n) (hn:Sn n) (hk:k<=BB) (hap:∀b,At A b->¬At B b):
  Calls P F.Hz #[.slice (xC A c j 1) (n-j) (c-j),.slice B m d,.int .u64 (k:Int)] w (aS fun r w'=>∃(o:List Nat) (br:Nat),r= .bool (decide (0<(br:Int)))/\LR w' A n c o/\Lo o/\o.take j=u.take j/\(o.drop j).drop (m+1)=(u.drop j).drop (m+1)/\br<=1/\nv ((o.drop j).take (m+1))+k*nv v=nv ((u.drop j).take (m+1))+BB^(m+1)*br/\Keep (At A) w w'):=by
 refine aS.mono (aCw (xC A c j 1) (n-j) (c-j) B m d (k:Int) (fun b w'=>∃(o:List Nat) (br:Nat),b=decide (0<(br:Int))/\LR w' A n c o/\Lo o/\o.take j=u.take j/\(o.drop j).drop (m+1)=(u.drop j).drop (m+1)/\br<=1/\nv ((o.drop j).take (m+1))+k*nv v=nv ((u.drop j).take (m+1))+BB^(m+1)*br/\Keep (At A) w w') w ?_) (by rintro _ w' ⟨b,rfl,o,br,rfl,h⟩;exact⟨o,br,rfl,h⟩)
 unfold Sn at hn
 have hul:=hU.len
 have hvl:=hV.len
 have hB:BB=1000000000:=rfl
 have hBB:BB*BB=1000000000000000000:=rfl
 unfold Pv
 rw[wrap_i64 (i:=(m:Int)+1) (by omega) (by omega)]
 let I:Nat->Int->Int->Int->World->Prop:=fun q x2 x3 i w1=>∃o:List Nat,∃cy br:Nat,q=m+1-i.toNat/\0<=i/\i<=m+1/\x2=(cy:Int)/\x3=(br:Int)/\cy<BB/\br<=1/\(i.toNat=m+1->cy=0)/\LR w1 A n c o/\Lo o/\o.take j=u.take j/\(o.drop j).drop i.toNat=(u.drop j).drop i.toNat/\nv ((o.drop j).take i.toNat)+k*nv (v.take i.toNat)=nv ((u.drop j).take i.toNat)+BB^i.toNat*(cy+br)/\Keep (At A) w w1
 refine⟨I,⟨m+1,u,0,0,by simp,by omega,by omega,rfl,rfl,by decide,by omega,fun _=>rfl,hU,lu,rfl,rfl,by simp[nv],Keep.refl _ w⟩,?_⟩
 rintro q x2 x3 i w1 ⟨o,cy,br,rfl,i0,i1,rfl,rfl,hcy,hbr,hz,hO,lo,htk,hdr,hs,K1⟩
 obtain⟨t,rfl⟩:=Int.eq_ofNat_of_zero_le i0
 simp only[Int.toNat_natCast] at hdr hs hz
 have hol:=hO.len
 refine⟨fun hlt=> ?_,fun hge=> ?_⟩
 ·have ht:t<m+1:=by omega
  obtain⟨ad,hA,hc,hf,hput⟩:=hO.aFb (j:=j) (i:=t) (by omega)
  have hst:=fun d=>aBm (o:=o.drop j) (u:=u.drop j) (i:=t) (d:=d) (by rw[List.length_drop];omega) hdr
  have gu:=(lu.drop j).lg t
  have gv:=lv.lg t
  have he:=(hst 0).2.2
  rw[he] at hc
  have hkm:k*lg v t<=999999999000000000:=Nat.le_trans (Nat.mul_le_mul hk (show lg v t<=999999999 by omega)) (by decide)
  have J:∀p:Nat,p=cy+k*lg v t->oW (t:Int) (n-j) (xC A c j 1) w1 (br:Int) (m+1-t) I (p:Int):=fun p hp=>by
   have hp2:p<BB*BB:=by omega
   have e1:Int.tdiv (p:Int) 1000000000=((p/BB:Nat):Int):=(Int.ofNat_tdiv _ 1000000000).symm
   have e2:Int.tmod (p:Int) 1000000000=((p%BB:Nat):Int):=(Int.ofNat_tmod _ 1000000000).symm
   have hR:p%BB<BB:=Nat.mod_lt _ (by decide)
   have hQ:p/BB<BB:=(Nat.div_lt_iff_lt_mul (by decide)).2 hp2
   have hRQ:=Nat.mod_add_div p BB
   have hfin:t=m->p/BB=0:=fun e=>by
    have h0:lg v t=0:=Ox (by omega)
    rw[h0,Nat.mul_zero,Nat.add_zero] at hp
    exact Nat.div_eq_of_lt (by omega)
   generalize p/BB=Q at*
   generalize p%BB=R at*
   unfold oW
   refine⟨by omega,by omega,ad,hA,_,hc,?_⟩
   rw[e2,wrap_i64 (i:=(R:Int)) (by omega) (by omega),wrap_i64 (i:=(lg (u.drop j) t:Int)) (by omega) (by omega),wrap_i64 (i:=(lg (u.drop j) t:Int)-(br:Int)) (by omega) (by omega),wrap_i64 (i:=(lg (u.drop j) t:Int)-(br:Int)-(R:Int)) (by omega) (by omega)]
   have step:∀br' e:Nat,br'<=1->e<BB->e+R+br=lg (u.drop j) t+BB*br'->∀x:Int,x=(e:Int)->tK (t:Int) (n-j) (xC A c j 1) w1 (m+1-t) I (p:Int) (br':Int) x:=fun br' e hbr' hed hee x hx=>by
    subst hx
    refine⟨by omega,by omega,ad,hA,⟨_,hc⟩,hf,fun w2 hw=>⟨m+1-(t+1),by omega,?_⟩⟩
    rw[wrap_u32 (by omega) (by omega)] at hw
    obtain⟨hO2,K2⟩:=hput w2 e hw
    rw[e1,wrap_u64 (i:=(Q:Int)) (by omega) (by omega),wrap_i64 (by omega) (by omega)]
    show∃o:List Nat,∃cy br:Nat,_
    rw[show((t:Int)+1).toNat=t+1 by omega]
    obtain⟨s1,s2,s3⟩:=hst e
    refine⟨o.set (j+t) e,Q,br',rfl,by omega,by omega,rfl,rfl,hQ,hbr',fun ht'=>hfin (by omega),hO2,lo.set hed,?_,?_,?_,K1.over K2 fun _ _ h=>h⟩
    ·rw[List.take_set_of_le (by omega)];exact htk
    ·rw[Jp];exact s2
    ·rw[Jp,s1,jX (u.drop j),jX v]
     exact aHe hs (by rw[hRQ,hp]) hee
   refine⟨fun hneg=> ?_,fun hpos=> ?_⟩
   ·rw[wrap_i64 (by omega) (by omega)]
    exact step 1 (lg (u.drop j) t+BB-R-br) (by omega) (by omega) (by omega) _ (by omega)
   ·exact step 0 (lg (u.drop j) t-R-br) (by omega) (by omega) (by omega) _ (by omega)
  refine⟨fun hm=> ?_,fun hm=> ?_⟩
  ·have hV1:LR w1 B m d v:=hV.keep K1 fun b hb ha=>hap b ha hb
   obtain⟨be,hBe,_,hbc,_⟩:=hV1.at_ (i:=(t:Int)) (by omega) (by omega)
   refine⟨by omega,hm,be,hBe,_,hbc,?_⟩
   simp only[Int.toNat_natCast]
   have ev:IntKind.wrap .u64 ((cy:Int)+IntKind.wrap .u64 ((k:Int)*IntKind.wrap .u64 (lg v t:Int)))=((cy+k*lg v t:Nat):Int):=by
    rw[wrap_u64 (i:=(lg v t:Int)) (by omega) (by omega),<-Int.natCast_mul]
    generalize k*lg v t=M at*
    rw[wrap_u64 (i:=(M:Int)) (by omega) (by omega),wrap_u64 (by omega) (by omega)]
    omega
   rw[ev]
   exact J _ rfl
  ·have h0:lg v t=0:=Ox (by omega)
   exact J cy (by rw[h0];simp)
 ·have ht:t=m+1:=by omega
  subst ht
  rw[List.take_of_length_le (by omega:v.length<=m+1),hz rfl,Nat.zero_add] at hs
  exact⟨o,br,rfl,hO,lo,htk,hdr,hbr,hs,K1⟩
end
structure Kn (un u1 u2 U' v1 v2 V' P:Nat):Prop where
 lun:un<BB
 lu1:u1<BB
 lu2:u2<BB
 lv1:v1<BB
 lv2:v2<BB
 hU:U'<P
 hV:V'<P
 big:BB<=2*v1
 lt:((un*BB+u1)*BB+u2)*P+U'<BB*((v1*BB+v2)*P+V')
section
variable {un u1 u2 U' v1 v2 V' P k r:Nat}
theorem Kn.P0 (h:Kn un u1 u2 U' v1 v2 V' P):0<P:=by have:=h.hU;omega
theorem B0:0<BB:=by decide
theorem Kn.v0 (h:Kn un u1 u2 U' v1 v2 V' P):0<v1:=by have:=h.big;have:=B0;omega
theorem Kn.V0 (h:Kn un u1 u2 U' v1 v2 V' P):0<(v1*BB+v2)*P+V':=by
 have h1:0<(v1*BB+v2)*P:=Nat.mul_pos (Nat.lt_of_lt_of_le (Nat.mul_pos h.v0 B0) (Nat.le_add_right _ _)) h.P0
 omega
theorem Kn.aK4 (h:Kn un u1 u2 U' v1 v2 V' P):un<=v1:=by
 refine Classical.byContradiction fun hn=> ?_
 have h1:(v1+1)*BB*BB*P<=un*BB*BB*P:=Nat.mul_le_mul_right _ (Nat.mul_le_mul_right _ (Nat.mul_le_mul_right _ (by omega)))
 have h2:(v1*BB+v2)*P+V'<(v1+1)*BB*P:=by
  have a:(v1*BB+v2+1)*P<=(v1+1)*BB*P:=Nat.mul_le_mul_right _ (by have:=h.lv2;rw[Nat.add_mul v1 1 BB,Nat.one_mul];omega)
  rw[Nat.add_mul _ 1 P,Nat.one_mul] at a
  have:=h.hV
  omega
 have h3:BB*((v1*BB+v2)*P+V')<BB*((v1+1)*BB*P):=Nat.mul_lt_mul_of_pos_left h2 (by decide)
 have h4:BB*((v1+1)*BB*P)=(v1+1)*BB*BB*P:=by rw[Nat.mul_comm BB,Nat.mul_right_comm]
 have h5:un*BB*BB*P<=((un*BB+u1)*BB+u2)*P:=Nat.mul_le_mul_right _ (Nat.le_trans (Nat.mul_le_mul_right _ (Nat.le_add_right _ _)) (Nat.le_add_right _ _))
 have:=h.lt
 omega
theorem Kn.init (h:Kn un u1 u2 U' v1 v2 V' P):
  (((un*BB+u1)*BB+u2)*P+U')/((v1*BB+v2)*P+V')<=(un*BB+u1)/v1/\(un*BB+u1)/v1<=BB+1:=by
 refine⟨?_,?_⟩
 ·refine(Nat.le_div_iff_mul_le h.v0).2 ?_
  generalize hq:(((un*BB+u1)*BB+u2)*P+U')/((v1*BB+v2)*P+V')=q
  have h1:q*((v1*BB+v2)*P+V')<=((un*BB+u1)*BB+u2)*P+U':=by rw[<-hq];exact Nat.div_mul_le_self _ _
  refine Nat.lt_succ_iff.1 (Nat.lt_of_mul_lt_mul_right (a:=BB*P) ?_)
  have h2:q*v1*(BB*P)<=q*((v1*BB+v2)*P+V'):=by
   rw[Nat.mul_assoc]
   refine Nat.mul_le_mul_left _ ?_
   rw[<-Nat.mul_assoc,Nat.add_mul]
   omega
  have h3:((un*BB+u1)*BB+u2)*P+U'<(un*BB+u1+1)*(BB*P):=by
   have a:((un*BB+u1)*BB+u2+1)*P<=((un*BB+u1+1)*BB)*P:=Nat.mul_le_mul_right _ (by rw[Nat.add_mul (un*BB+u1)];have:=h.lu2;omega)
   rw[Nat.add_mul _ 1 P,Nat.one_mul,Nat.mul_assoc (un*BB+u1+1)] at a
   have:=h.hU
   omega
  exact Nat.lt_of_le_of_lt (Nat.le_trans h2 h1) h3
 ·refine Nat.lt_succ_iff.1 ((Nat.div_lt_iff_lt_mul h.v0).2 ?_)
  have h1:=h.aK4
  have h2:un*BB<=v1*BB:=Nat.mul_le_mul_right _ h1
  have h3:=h.big
  have h4:=h.lu1
  rw[Nat.succ_mul,Nat.add_mul,Nat.one_mul,Nat.mul_comm BB v1]
  omega
theorem Kn.step (h:Kn un u1 u2 U' v1 v2 V' P) (hk:(((un*BB+u1)*BB+u2)*P+U')/((v1*BB+v2)*P+V')<=k) (ht:un*BB+u1=k*v1+r) (hc:BB<=k\/r*BB+u2<k*v2):
  (((un*BB+u1)*BB+u2)*P+U')/((v1*BB+v2)*P+V')<=k-1/\1<=k/\un*BB+u1=(k-1)*v1+(r+v1):=by
 have hk1:1<=k:=by
  rcases hc with q|q
  ·exact Nat.le_trans B0 q
  ·rcases Nat.eq_zero_or_pos k with e|e
   ·rw[e,Nat.zero_mul] at q;omega
   ·exact e
 refine⟨?_,hk1,?_⟩
 ·refine Nat.le_sub_one_of_lt ?_
  rcases hc with q|q
  ·refine Nat.lt_of_lt_of_le ?_ q
   exact(Nat.div_lt_iff_lt_mul h.V0).2 h.lt
  ·refine(Nat.div_lt_iff_lt_mul h.V0).2 ?_
   have h1:(k*v2)*P≥(r*BB+u2+1)*P:=Nat.mul_le_mul_right _ q
   rw[Nat.add_mul _ 1 P,Nat.one_mul] at h1
   have h2:k*((v1*BB+v2)*P+V')=(k*v1)*BB*P+(k*v2)*P+k*V':=by
    rw[Nat.mul_add,Nat.add_mul,Nat.mul_add,<-Nat.mul_assoc,<-Nat.mul_assoc,<-Nat.mul_assoc]
   have h3:((un*BB+u1)*BB+u2)*P=(k*v1)*BB*P+(r*BB+u2)*P:=by
    rw[ht,Nat.add_mul (k*v1),Nat.add_assoc,Nat.add_mul]
   have:=h.hU
   rw[h2]
   omega
 ·rw[ht]
  obtain⟨j,rfl⟩:∃j,k=j+1:=⟨k-1,by omega⟩
  rw[Nat.add_mul,Nat.add_sub_cancel]
  omega
theorem Kn.done (h:Kn un u1 u2 U' v1 v2 V' P) (ht:un*BB+u1=k*v1+r) (hk:k<=BB) (hc:BB<=r\/k*v2<=r*BB+u2):
  k<=(((un*BB+u1)*BB+u2)*P+U')/((v1*BB+v2)*P+V')+1:=by
 have hc':k*v2<=r*BB+u2:=by
  rcases hc with q|q
  ·have h1:k*v2<=BB*BB:=Nat.mul_le_mul hk (Nat.le_of_lt h.lv2)
   have h2:BB*BB<=r*BB:=Nat.mul_le_mul_right _ q
   omega
  ·exact q
 rcases Nat.eq_zero_or_pos k with e|e
 ·rw[e];exact Nat.zero_le _
 obtain⟨j,rfl⟩:∃j,k=j+1:=⟨k-1,by omega⟩
 refine Nat.succ_le_succ ?_
 refine(Nat.le_div_iff_mul_le h.V0).2 ?_
 have h1:(j+1)*((v1*BB+v2)*P+V')=((j+1)*v1)*BB*P+((j+1)*v2)*P+(j+1)*V':=by
  rw[Nat.mul_add,Nat.add_mul (v1*BB),Nat.mul_add,<-Nat.mul_assoc,<-Nat.mul_assoc,<-Nat.mul_assoc]
 have h3:((un*BB+u1)*BB+u2)*P=((j+1)*v1)*BB*P+(r*BB+u2)*P:=by
  rw[ht,Nat.add_mul ((j+1)*v1),Nat.add_assoc,Nat.add_mul]
 have h2:((j+1)*v2)*P<=(r*BB+u2)*P:=Nat.mul_le_mul_right _ hc'
 have h4:(j+1)*V'<=BB*P:=Nat.mul_le_mul hk (Nat.le_of_lt h.hV)
 have h5:BB*P<=(v1*BB+v2)*P:=Nat.mul_le_mul_right _ (Nat.le_trans (Nat.le_mul_of_pos_left BB h.v0) (Nat.le_add_right _ _))
 have h6:(j+1)*((v1*BB+v2)*P+V')=j*((v1*BB+v2)*P+V')+((v1*BB+v2)*P+V'):=by rw[Nat.add_mul,Nat.one_mul]
 omega
end
theorem aIe (l:List Nat) (m:Nat):nv (l.take (m+3))=((lg l (m+2)*BB+lg l (m+1))*BB+lg l m)*BB^m+nv (l.take m):=by
 rw[jX,jX,jX,show BB^(m+2)=BB^m*BB*BB from rfl,show BB^(m+1)=BB^m*BB from rfl]
 generalize BB^m=p
 generalize BB=b
 generalize nv (l.take m)=z
 rw[Nat.add_mul,Nat.add_mul,Nat.add_mul]
 have h1:p*b*b*lg l (m+2)=lg l (m+2)*b*b*p:=by ac_rfl
 have h2:p*b*lg l (m+1)=lg l (m+1)*b*p:=by ac_rfl
 have h3:p*lg l m=lg l m*p:=Nat.mul_comm _ _
 rw[h1,h2,h3]
 omega
theorem aKh (l:List Nat) (m:Nat):nv (l.take (m+2))=(lg l (m+1)*BB+lg l m)*BB^m+nv (l.take m):=by
 rw[jX,jX,Nat.pow_succ,Nat.add_mul]
 have h2:BB^m*BB*lg l (m+1)=lg l (m+1)*BB*BB^m:=by ac_rfl
 have h3:BB^m*lg l m=lg l m*BB^m:=Nat.mul_comm _ _
 rw[h2,h3]
 omega
section
variable {w w':World} {A B:Option Addr} {n c m d j:Nat} {u v:List Nat}
theorem aH3 (hU:LR w A n c u) (lu:Lo u) (hV:LR w B (m+2) d v) (lv:Lo v) (hj:j+(m+2)+1<=n) (hn:Sn n) (hbig:BB<=2*lg v (m+1)) (hlt:nv ((u.drop j).take (m+3))<BB*nv v):
  Calls P F.Ia #[.slice (xC A c j 1) (n-j) (c-j),.slice B (m+2) d] w (aS fun r w'=>∃k:Nat,r= .int .u64 (k:Int)/\nv ((u.drop j).take (m+3))/nv v<=k/\k<=nv ((u.drop j).take (m+3))/nv v+1/\k<=BB/\aP w w'):=by
 have hvl:=hV.len
 have hvt:nv v=nv (v.take (m+2)):=by rw[List.take_of_length_le (by omega)]
 rw[hvt] at hlt⊢
 have lj:=lu.drop j
 generalize hUdef:u.drop j=U at*
 rw[aIe,aKh] at hlt⊢
 have hK:Kn (lg U (m+2)) (lg U (m+1)) (lg U m) (nv (U.take m)) (lg v (m+1)) (lg v m) (nv (v.take m)) (BB^m):=by
  refine⟨lj.lg _,lj.lg _,lj.lg _,lv.lg _,lv.lg _,?_,?_,hbig,hlt⟩
  ·refine Nat.lt_of_lt_of_le (xR (lj.take m)) (Nat.pow_le_pow_right (by decide) ?_)
   rw[List.length_take];omega
  ·refine Nat.lt_of_lt_of_le (xR (lv.take m)) (Nat.pow_le_pow_right (by decide) ?_)
   rw[List.length_take];omega
 have hql:(((lg U (m+2)*BB+lg U (m+1))*BB+lg U m)*BB^m+nv (U.take m))/((lg v (m+1)*BB+lg v m)*BB^m+nv (v.take m))<BB:=(Nat.div_lt_iff_lt_mul hK.V0).2 hlt
 have hi:=hK.init
 have hv0:=hK.v0
 generalize hq:(((lg U (m+2)*BB+lg U (m+1))*BB+lg U m)*BB^m+nv (U.take m))/((lg v (m+1)*BB+lg v m)*BB^m+nv (v.take m))=q at*
 refine aS.mono (aDi (xC A c j 1) (n-j) (c-j) B (m+2) d (fun x w'=>∃k:Nat,x=(k:Int)/\q<=k/\k<=q+1/\k<=BB/\aP w w') w ?_) (by rintro _ w' ⟨x,rfl,k,rfl,h⟩;exact⟨k,rfl,h⟩)
 unfold Sn at hn
 have hul:=hU.len
 have hB:BB=1000000000:=rfl
 have g1:=hK.lun
 have g2:=hK.lu1
 have g3:=hK.lu2
 have g4:=hK.lv1
 have g5:=hK.lv2
 have ru:∀{w1},aP w w1->∀i,j+i<n->∃ad,xC A c j 1=some ad/\w1.cell? (ad.add (i*1))=some (.int .u32 (lg U i:Int)):=fun {w1} D i hi=>by
  have hU1:LR w1 A n c u:=hU.ext (Ext.aO D)
  obtain⟨ad,h1,h2,_⟩:=hU1.aFb (j:=j) (i:=i) hi
  rw[hUdef] at h2
  exact⟨ad,h1,h2⟩
 have rv:∀{w1},aP w w1->∀i,i<m+2->∃ad,B=some ad/\w1.cell? (ad.add (i*1))=some (.int .u32 (lg v i:Int)):=fun {w1} D i hi=>by
  have hV1:LR w1 B (m+2) d v:=hV.ext (Ext.aO D)
  obtain⟨ad,h1,_,h2,_⟩:=hV1.at_ (i:=(i:Int)) (by omega) (by omega)
  rw[Int.toNat_natCast] at h2
  exact⟨ad,h1,h2⟩
 unfold Ph
 have w1e:IntKind.wrap .i64 (((m+2:Nat):Int)-1)=((m+1:Nat):Int):=by rw[wrap_i64 (by omega) (by omega)];omega
 have w2e:IntKind.wrap .i64 (((m+2:Nat):Int)-2)=((m:Nat):Int):=by rw[wrap_i64 (by omega) (by omega)];omega
 simp only[w1e,w2e,Int.toNat_natCast]
 obtain⟨a1,a1e,a1c⟩:=ru (aP.refl w) (m+2) (by omega)
 obtain⟨a2,a2e,a2c⟩:=ru (aP.refl w) (m+1) (by omega)
 refine⟨by omega,by omega,a1,a1e,_,a1c,by omega,by omega,a2,a2e,_,a2c,fun w1 D1=> ?_⟩
 obtain⟨a3,a3e,a3c⟩:=rv D1 (m+1) (by omega)
 have ev1:IntKind.wrap .u64 (lg v (m+1):Int)=(lg v (m+1):Int):=wrap_u64 (by omega) (by omega)
 refine⟨by omega,by omega,a3,a3e,_,a3c,by rw[ev1];omega,by omega,by omega,a3,a3e,_,a3c,by rw[ev1];omega,fun w2 D2=> ?_⟩
 have et:IntKind.wrap .u64 (IntKind.wrap .u64 (IntKind.wrap .u64 (lg U (m+2):Int)*1000000000)+IntKind.wrap .u64 (lg U (m+1):Int))=((lg U (m+2)*1000000000+lg U (m+1):Nat):Int):=by
  rw[wrap_u64 (i:=(lg U (m+2):Int)) (by omega) (by omega),wrap_u64 (i:=(lg U (m+1):Int)) (by omega) (by omega),wrap_u64 (i:=(lg U (m+2):Int)*1000000000) (by omega) (by omega),wrap_u64 (by omega) (by omega)]
  omega
 have e1:Int.tdiv ((lg U (m+2)*1000000000+lg U (m+1):Nat):Int) (lg v (m+1):Int)=(((lg U (m+2)*1000000000+lg U (m+1))/lg v (m+1):Nat):Int):=(Int.ofNat_tdiv _ _).symm
 have e2:Int.tmod ((lg U (m+2)*1000000000+lg U (m+1):Nat):Int) (lg v (m+1):Int)=(((lg U (m+2)*1000000000+lg U (m+1))%lg v (m+1):Nat):Int):=(Int.ofNat_tmod _ _).symm
 have hm:=Nat.mod_lt (lg U (m+2)*1000000000+lg U (m+1)) hv0
 have hdm:=Nat.div_add_mod (lg U (m+2)*1000000000+lg U (m+1)) (lg v (m+1))
 rw[hB] at hi
 rw[et,ev1,e1,e2]
 generalize hk0:(lg U (m+2)*1000000000+lg U (m+1))/lg v (m+1)=k0 at*
 generalize (lg U (m+2)*1000000000+lg U (m+1))%lg v (m+1)=r0 at*
 rw[wrap_u64 (i:=(k0:Int)) (by omega) (by omega)]
 let I:Nat->Int->Int->World->Prop:=fun z x6 x7 w3=>∃k r:Nat,z=k/\x6=(k:Int)/\x7=(r:Int)/\q<=k/\k<=BB+1/\r<BB/\lg U (m+2)*BB+lg U (m+1)=k*lg v (m+1)+r/\aP w w3
 refine⟨I,⟨k0,k0,r0,rfl,rfl,rfl,hi.1,hi.2,by omega,?_,D1.trans D2⟩,?_⟩
 ·rw[Nat.mul_comm k0];exact hdm.symm
 rintro k x6 x7 w3 ⟨k',r,rfl,rfl,rfl,hqk,hkB,hr,heq,D3⟩
 have Jt:∀w5,aP w w5->(BB<=k\/r*BB+lg U m<k*lg v m)->uH (m+2) B (r:Int) (pI (fun x w'=>∃k:Nat,x=(k:Int)/\q<=k/\k<=q+1/\k<=BB/\aP w w')) (k:Int) k I true w5:=fun w5 D5 hc=>by
  subst hq
  obtain⟨s1,s2,s3⟩:=hK.step hqk heq hc
  refine⟨fun _=> ?_,fun h=>(by cases h)⟩
  rw[w1e]
  obtain⟨a7,a7e,a7c⟩:=rv D5 (m+1) (by omega)
  have ek:IntKind.wrap .u64 ((k:Int)-1)=((k-1:Nat):Int):=by rw[wrap_u64 (by omega) (by omega)];omega
  have er:IntKind.wrap .u64 ((r:Int)+(lg v (m+1):Int))=((r+lg v (m+1):Nat):Int):=by rw[wrap_u64 (by omega) (by omega)];omega
  refine⟨by omega,by omega,a7,a7e,_,a7c,?_⟩
  rw[ev1,ek,er]
  refine⟨fun hge=> ?_,fun hlt2=> ?_⟩
  ·exact⟨k-1,rfl,s1,hK.done s3 (by omega) (.inl (by omega)),by omega,D5⟩
  ·exact⟨k-1,by omega,k-1,r+lg v (m+1),rfl,rfl,rfl,s1,by omega,by omega,s3,D5⟩
 refine⟨fun hge w4 D4=>Jt w4 (D3.trans D4) (.inl (by omega)),fun hlt2=> ?_⟩
 obtain⟨a5,a5e,a5c⟩:=rv D3 m (by omega)
 obtain⟨a6,a6e,a6c⟩:=ru D3 m (by omega)
 refine⟨by omega,by omega,a5,a5e,_,a5c,by omega,by omega,a6,a6e,_,a6c,fun w6 D6=> ?_⟩
 have hkv:k*lg v m<=999999999*999999999:=Nat.mul_le_mul (by omega) (by omega)
 have el:IntKind.wrap .u64 (IntKind.wrap .u64 ((r:Int)*1000000000)+IntKind.wrap .u64 (lg U m:Int))=((r*BB+lg U m:Nat):Int):=by
  rw[wrap_u64 (i:=(r:Int)*1000000000) (by omega) (by omega),wrap_u64 (i:=(lg U m:Int)) (by omega) (by omega),wrap_u64 (by omega) (by omega),hB];omega
 have ekv:IntKind.wrap .u64 ((k:Int)*IntKind.wrap .u64 (lg v m:Int))=((k*lg v m:Nat):Int):=by
  rw[wrap_u64 (i:=(lg v m:Int)) (by omega) (by omega),<-Int.natCast_mul,wrap_u64 (by omega) (by omega)]
 rw[el,ekv]
 by_cases hc:r*BB+lg U m<k*lg v m
 ·rw[decide_eq_true (Int.ofNat_lt.2 hc)]
  exact Jt w6 (D3.trans D6) (.inr hc)
 ·rw[decide_eq_false (fun h=>hc (Int.ofNat_lt.1 h))]
  refine⟨fun h=>(by cases h),fun _=> ?_⟩
  subst hq
  exact⟨k,rfl,hqk,hK.done heq (by omega) (.inr (by omega)),by omega,D3.trans D6⟩
end
theorem Xy {t:Nat} (h0:0<t) (hb:t<BB):BB<=2*(t*(BB/(t+1)))/\(t+1)*(BB/(t+1))<=BB/\0<BB/(t+1):=by
 have h1:(t+1)*(BB/(t+1))<=BB:=Nat.mul_div_le BB (t+1)
 have h2:=Nat.div_add_mod BB (t+1)
 have h3:=Nat.mod_lt BB (show 0<t+1 by omega)
 have h4:0<BB/(t+1):=Nat.div_pos (by omega) (by omega)
 refine⟨?_,h1,h4⟩
 generalize BB/(t+1)=b at*
 generalize BB%(t+1)=r at*
 have hB:BB=1000000000:=rfl
 rw[hB] at h1 h2 hb⊢
 rw[Nat.add_mul,Nat.one_mul] at h1 h2
 rcases Nat.lt_or_ge b 2 with hb2|hb2
 ·have:b=1:=by omega
  subst this
  omega
 ·rcases Nat.lt_or_ge t 2 with ht2|ht2
  ·have:t=1:=by omega
   subst this
   omega
  ·obtain⟨b',rfl⟩:∃b',b=b'+2:=⟨b-2,by omega⟩
   obtain⟨t',rfl⟩:∃t',t=t'+2:=⟨t-2,by omega⟩
   have e:(t'+2)*(b'+2)=t'*b'+2*t'+2*b'+4:=by
    rw[Nat.add_mul,Nat.mul_add,Nat.mul_add];omega
   rw[e] at h2⊢
   generalize t'*b'=p at*
   omega
theorem aEm {y:List Nat} {m:Nat} (lo:Lo y) (hm:y.length=m+1) (h0:0<lg y m):
  BB^m<=nv y/\nv y*(BB/(lg y m+1))<BB^(m+1)/\lg y m*(BB/(lg y m+1))*BB^m<=nv y*(BB/(lg y m+1)):=by
 have e:nv y=nv (y.take m)+BB^m*lg y m:=by
  rw[<-jX,List.take_of_length_le (by omega)]
 have hl:nv (y.take m)<BB^m:=by
  have:=xR (lo.take m)
  rwa [List.length_take,Nat.min_eq_left (by omega)] at this
 obtain⟨_,h1,h2⟩:=Xy h0 (lo.lg m)
 generalize BB/(lg y m+1)=b at*
 generalize lg y m=t at*
 generalize nv (y.take m)=z at*
 refine⟨?_,?_,?_⟩
 ·have:=Nat.mul_le_mul_left (BB^m) (show 1<=t from h0)
  omega
 ·have a1:nv y<BB^m*(t+1):=by rw[Nat.mul_add,Nat.mul_one];omega
  have a2:nv y*b<BB^m*(t+1)*b:=Nat.mul_lt_mul_of_pos_right a1 h2
  have a3:BB^m*(t+1)*b<=BB^m*BB:=by rw[Nat.mul_assoc];exact Nat.mul_le_mul_left _ h1
  rw[Nat.pow_succ]
  omega
 ·rw[e,Nat.add_mul,Nat.mul_comm (t*b),<-Nat.mul_assoc]
  exact Nat.le_add_left _ _
theorem aBw {W V k W1 W2 br cr P:Nat} (hV:0<V) (hVP:V<P) (hq:W/V<=k) (hk:k<=W/V+1) (h1:W1+k*V=W+P*br) (hW1:W1<P) (hbr:br<=1):
  (br=0->k=W/V/\W1=W%V)/\(br=1->k=W/V+1/\(W2+P*cr=W1+V->cr<=1->W2<P->W2=W%V)):=by
 have hd:=Nat.div_add_mod W V
 have hm:=Nat.mod_lt W hV
 generalize W/V=q at*
 generalize W%V=r at*
 have hcase:k=q\/k=q+1:=by omega
 refine⟨fun e=> ?_,fun e=> ?_⟩
 ·subst e
  rcases hcase with rfl|rfl
  ·refine⟨rfl,?_⟩
   rw[Nat.mul_comm] at hd
   omega
  ·rw[Nat.add_mul,Nat.mul_comm q] at h1
   omega
 ·subst e
  rcases hcase with rfl|rfl
  ·rw[Nat.mul_comm] at h1
   omega
  ·refine⟨rfl,fun h2 hcr hW2=> ?_⟩
   rw[Nat.add_mul,Nat.mul_comm q] at h1
   have:cr=0\/cr=1:=by omega
   rcases this with rfl|rfl<;>omega
theorem window {u:List Nat} {j m V:Nat} (hj:j<u.length) (lo:Lo u) (h:nv (u.drop (j+1))<V) (hV:V<BB^m):nv (u.drop j)<BB*V/\nv ((u.drop j).take (m+1))=nv (u.drop j)/\nv ((u.drop j).drop (m+1))=0:=by
 have e:=Pq u j hj
 have g:=lo.lg j
 have h1:nv (u.drop j)<BB*V:=by
  have:=Nat.mul_le_mul_left BB (show nv (u.drop (j+1))+1<=V from h)
  rw[Nat.mul_add,Nat.mul_one] at this
  omega
 have hz:nv ((u.drop j).drop (m+1))=0:=by
  by_cases hl:m+1<=(u.drop j).length
  ·have s:=xN (u.drop j) (m+1) hl
   rcases Nat.eq_zero_or_pos (nv ((u.drop j).drop (m+1))) with q|q
   ·exact q
   ·have a:=Nat.mul_le_mul_left (BB^(m+1)) (show 1<=_ from q)
    have b:BB*V<=BB*BB^m:=Nat.mul_le_mul_left _ (Nat.le_of_lt hV)
    rw[Nat.pow_succ,Nat.mul_comm (BB^m)] at a s
    omega
  ·rw[List.drop_eq_nil_of_le (by omega)];rfl
 refine⟨h1,?_,hz⟩
 by_cases hl:m+1<=(u.drop j).length
 ·have s:=xN (u.drop j) (m+1) hl
  rw[hz] at s
  omega
 ·rw[List.take_of_length_le (by omega)]
theorem aHk {X V Q j W r q a:Nat} (h:X=V*(BB^(j+1)*Q)+(a+BB^j*W)) (hW:W=V*q+r):X=V*(BB^j*(q+BB*Q))+(a+BB^j*r):=by
 rw[h,hW,Nat.pow_succ]
 generalize BB^j=p
 generalize BB=b
 have e1:V*(p*b*Q)=V*(p*(b*Q)):=by rw[Nat.mul_assoc p]
 have e2:p*(V*q)=V*(p*q):=Nat.mul_left_comm _ _ _
 rw[e1,Nat.mul_add p,e2,Nat.mul_add p,Nat.mul_add V]
 omega
theorem aJr {l:List Nat} {k:Nat} (h:Pm l) (h1:BB^k<=nv l) (h2:nv l<BB^(k+1)):l.length=k+1:=by
 have a:=xR h.lo
 have hne:l≠[]:=by rintro rfl;have h0:=bpos k;exact absurd h1 (Nat.not_le_of_gt h0)
 have b:=h.ge hne
 have c:k<l.length:=(Nat.pow_lt_pow_iff_right (show 1<BB by decide)).1 (Nat.lt_of_le_of_lt h1 a)
 have d:l.length-1<k+1:=(Nat.pow_lt_pow_iff_right (show 1<BB by decide)).1 (Nat.lt_of_le_of_lt b h2)
 omega
theorem aJ8 {br:Nat} (hbr:br<=1) (h:decide (0<(br:Int))=true):br=1:=by
 have:=of_decide_eq_true h
 omega
theorem aI6 {br:Nat} (h:decide (0<(br:Int))=false):br=0:=by
 have:=of_decide_eq_false h
 omega
theorem aG3 {g q:Nat} (hg:g<=BB) (e:g=q+1):IntKind.wrap .u64 ((g:Int)-1)=(q:Int):=by
 have:BB=1000000000:=rfl
 rw[wrap_u64 (by omega) (by omega)];omega
theorem aFx {o:List Nat} (lo:Lo o) (k:Nat):nv (o.take k)<BB^k:=
 Nat.lt_of_lt_of_le (xR (lo.take k)) (Nat.pow_le_pow_right (by decide) (by rw[List.length_take];exact Nat.min_le_left _ _))
theorem aFn {o:List Nat} {k:Nat} (h:nv (o.drop k)=0):nv o=nv (o.take k):=by
 by_cases hl:k<=o.length
 ·rw[xN o k hl,h];simp
 ·rw[List.take_of_length_le (by omega)]
theorem aE6 {w':World} {A B:Option Addr} {n c d j m:Nat} {u v:List Nat}
  (hU:LR w' A n c u) (lu:Lo u) (hV:LR w' B (m+2) d v) (lv:Lo v) (hj:j+(m+2)+1<=n) (hn:Sn n) (hbig:BB<=2*lg v (m+1)) (hap:∀b,At A b->¬At B b) (hV0:0<nv v) (hlt:nv (u.drop (j+1))<nv v)
  {K:Int->World->Prop}
  (k:∀(w4:World) (o:List Nat),LR w4 A n c o->Lo o->o.take j=u.take j->nv (o.drop j)=nv (u.drop j)%nv v->Keep (At A) w' w4->K ((nv (u.drop j)/nv v:Nat):Int) w4):
  Calls P F.Ia #[.slice (xC A c j 1) (n-j) (c-j),.slice B (m+2) d] w' (aS fun v5 w37=>∃x3:Int,v5= .int .u64 x3/\Calls P F.Hz #[.slice (xC A c j 1) (n-j) (c-j),.slice B (m+2) d,.int .u64 x3] w37 (aS fun v6 w38=>∃b1:Bool,v6= .bool b1/\(b1=true->Calls P F.Hw #[.slice (xC A c j 1) (n-j) (c-j),.slice B (m+2) d] w38 (aS fun v7 w39=>v7= .tuple #[]/\K (IntKind.wrap .u64 (x3-1)) w39))/\(b1=false->K x3 w38))):=by
 have hul:=hU.len
 have hvl:=hV.len
 have hju:j<u.length:=by omega
 have hVm:nv v<BB^(m+2):=by have:=xR lv;rwa [hvl] at this
 obtain⟨hW1,hW2,hW3⟩:=window (u:=u) (j:=j) (m:=m+2) (V:=nv v) hju lu hlt hVm
 refine aS.mono (aH3 hU lu hV lv hj hn hbig (by rw[hW2];exact hW1)) ?_
 rintro _ w37 ⟨g,rfl,hq1,hq2,hgB,D37⟩
 rw[show m+3=m+2+1 from rfl,hW2] at hq1 hq2
 have hU7:LR w37 A n c u:=hU.ext (Ext.aO D37)
 have hV7:LR w37 B (m+2) d v:=hV.ext (Ext.aO D37)
 refine⟨_,rfl,aS.mono (aIl hU7 lu hV7 lv hj hn hgB hap) ?_⟩
 rintro _ w38 ⟨o,br,rfl,hO,lo,htk,hdr,hbr,hs,K38⟩
 rw[hW2] at hs
 have ho3:nv ((o.drop j).drop (m+2+1))=0:=by rw[hdr];exact hW3
 have hof:=aFn ho3
 have hP:=aFx (lo.drop j) (m+2+1)
 have hVP:nv v<BB^(m+2+1):=Nat.lt_of_lt_of_le hVm (Nat.pow_le_pow_right (by decide) (Nat.le_succ _))
 have KA:Keep (At A) w' w38:=(Keep.aO D37:Keep (At A) w' w37).over K38 fun _ _ h=>h
 refine⟨_,rfl,fun hb=> ?_,fun hb=> ?_⟩
 ·have hb1:=aJ8 hbr hb
  have hV8:LR w38 B (m+2) d v:=hV7.keep K38 fun b hb ha=>hap b ha hb
  refine aS.mono (aIk hO lo hV8 lv hj hn hap) ?_
  rintro _ w39 ⟨rfl,o2,cr,hO2,lo2,htk2,hdr2,hcr,hs2,K39⟩
  have hP2:=aFx (lo2.drop j) (m+2+1)
  obtain⟨e1,e2⟩:=(aBw (cr:=cr) (W2:=nv ((o2.drop j).take (m+2+1))) hV0 hVP hq1 hq2 hs hP hbr).2 hb1
  have e3:=e2 hs2 hcr hP2
  have hof2:=aFn (hdr2.symm▸ho3:nv ((o2.drop j).drop (m+2+1))=0)
  rw[aG3 hgB e1]
  exact⟨rfl,k w39 o2 hO2 lo2 (htk2.trans htk) (hof2.trans e3) (KA.over K39 fun _ _ h=>h)⟩
 ·have hb0:=aI6 hb
  obtain⟨e1,e2⟩:=(aBw (cr:=0) (W2:=0) hV0 hVP hq1 hq2 hs hP hbr).1 hb0
  rw[e1]
  exact k w38 o hO lo htk (hof.trans e2) KA
theorem aAo {t:Nat} (h0:0<t) (hb:t<BB):IntKind.wrap .u32 (IntKind.wrap .u64 (Int.tdiv 1000000000 (IntKind.wrap .u64 ((IntKind.wrap .u64 (t:Int))+1))))=((BB/(t+1):Nat):Int):=by
 have hB:BB=1000000000:=rfl
 have e:Int.tdiv 1000000000 ((t+1:Nat):Int)=((BB/(t+1):Nat):Int):=(Int.ofNat_tdiv 1000000000 (t+1)).symm
 have hle:BB/(t+1)<=BB:=Nat.div_le_self _ _
 rw[wrap_u64 (i:=(t:Int)) (by omega) (by omega),wrap_u64 (i:=(t:Int)+1) (by omega) (by omega),<-Int.natCast_succ,e]
 generalize BB/(t+1)=b at*
 rw[wrap_u64 (by omega) (by omega),wrap_u32 (by omega) (by omega)]
theorem Tv {b:Nat} (h0:0<b) (hb:b<BB):Pm [b]:=⟨Lo.cons hb Lo.nil,fun z hz=>by simp at hz;omega⟩
theorem LR.aAz {w w':World} {p:Addr} {b:Nat} (h:New w (.cells #[u32 b] T.uint32) p w'):LR w' (some p) 1 1 [b]:=(Row.new h (n:=1) (s:=1) rfl (vs:=[u32 b]) rfl).Xa (Nat.zero_le _)
theorem aIf {w w8:World} {A8:Option Addr} {n1 n8 c8 Z:Nat} {l8:List Nat} (hn:Sn (n1+5)) (h8:LR w8 A8 n8 c8 l8) (lo8:Lo l8) (hv:nv l8=Z) (hle:n8<=n1+1) (E8:Ext w w8) (f8:∀b,At A8 b->w.heap.size<=b)
  {φ:Option Addr->Nat->Nat->World->Prop} (fin:∀A c w' l,LR w' A (n1+1) c l->Lo l->nv l=Z->Ext w w'->(∀b,At A b->w.heap.size<=b)->φ A (n1+1) c w'):
  ∃I1:Nat->Option Addr->Nat->Nat->World->Prop,(∃k1,I1 k1 A8 n8 c8 w8)/\∀k1 (A15:Option Addr) (n15:Nat) (c15:Nat) (w30:World),I1 k1 A15 n15 c15 w30->(((n15:Int)<(IntKind.wrap .i64 ((n1:Int)+1))->(∀(p3:Addr) (w31:World),Wk.New w30 (.cells #[.int .u32 0] T.uint32) p3 w31->(∃(A16:Option Addr) (n16 c16:Nat) (w32:World),(Builtin.append_ #[T.dH,T.dH] T.dH #[.slice A15 n15 c15,.slice (some p3) 1 1]).run P w31= .ok (.slice A16 n16 c16) w32/\(∃k2,k2<k1/\I1 k2 A16 n16 c16 w32))))/\(¬((n15:Int)<(IntKind.wrap .i64 ((n1:Int)+1)))->φ A15 n15 c15 w30)):=by
 have hn':=hn
 unfold Sn at hn'
 rw[wrap_i64 (i:=(n1:Int)+1) (by omega) (by omega)]
 refine⟨fun k A n c w'=>∃l,k=n1+1-n/\n<=n1+1/\LR w' A n c l/\Lo l/\nv l=Z/\Ext w w'/\∀b,At A b->w.heap.size<=b,⟨_,l8,rfl,hle,h8,lo8,hv,E8,f8⟩,?_⟩
 rintro k A n c w' ⟨l,rfl,hn1,hL,lo,hv',E,f⟩
 refine⟨fun hlt p w31 hN=> ?_,fun hge=> ?_⟩
 ·obtain⟨A',c',w3,hr,hR,E3,hB3⟩:=hL.push (d:=0) f E hN (by unfold Sn;omega)
  exact⟨A',n+1,c',w3,hr,n1+1-(n+1),by omega,l++[0],rfl,by omega,hR,lo.append (Lo.cons (by decide) Lo.nil),by rw[Dh,Nat.mul_zero,Nat.add_zero];exact hv',E3,hB3⟩
 ·have:n=n1+1:=by omega
  subst this
  exact fin A c w' l hL lo hv' E f
theorem aD8 {w w35:World} {A15 A17 A18:Option Addr} {n1 n18 m c15 c17 c18:Nat} {u0 v q0:List Nat} (hn:Sn n1) (hnn:n18+(m+2)=n1)
  (hU:LR w35 A15 n1 c15 u0) (lu:Lo u0) (hV:LR w35 A17 (m+2) c17 v) (lv:Lo v) (hQ:LR w35 A18 n18 c18 q0) (lq:Lo q0) (hqz:nv q0=0)
  (ap1:∀b,At A15 b->¬At A17 b) (ap2:∀b,At A15 b->¬At A18 b) (ap3:∀b,At A18 b->¬At A17 b) (f15:∀b,At A15 b->w.heap.size<=b) (f18:∀b,At A18 b->w.heap.size<=b) (E35:Ext w w35)
  (hbig:BB<=2*lg v (m+1)) (hV0:0<nv v) (hlt:nv (u0.drop n18)<nv v)
  {φ:World->Prop} (fin:∀w36 u q,LR w36 A15 n1 c15 u->Lo u->LR w36 A18 n18 c18 q->Lo q->nv u0=nv v*nv q+nv u->nv u<nv v->Ext w w36->φ w36):
  ∃I2:Nat->Int->World->Prop,(∃k3,I2 k3 (IntKind.wrap .i64 ((n18:Int)-1)) w35)/\∀k3 (x2:Int) (w36:World),I2 k3 x2 w36->((0<=x2->(0<=x2/\x2<=(n1:Int)/\Calls P F.Ia #[.slice (Wk.xC A15 c15 (x2.toNat) 1) (n1-x2.toNat) (c15-x2.toNat),.slice A17 (m+2) c17] w36 (Wk.aS fun v5 w37=>∃x3:Int,v5=(.int .u64 x3)/\0<=x2/\x2<=(n1:Int)/\Calls P F.Hz #[.slice (Wk.xC A15 c15 (x2.toNat) 1) (n1-x2.toNat) (c15-x2.toNat),.slice A17 (m+2) c17,.int .u64 x3] w37 (Wk.aS fun v6 w38=>∃b1:Bool,v6=(.bool b1)/\(b1=true->(0<=x2/\x2<=(n1:Int)/\Calls P F.Hw #[.slice (Wk.xC A15 c15 (x2.toNat) 1) (n1-x2.toNat) (c15-x2.toNat),.slice A17 (m+2) c17] w38 (Wk.aS fun v7 w39=>v7=(.tuple #[])/\(oC x2 n18 A18 k3 I2) (IntKind.wrap .u64 (x3-1)) w39)))/\(b1=false->((oC x2 n18 A18 k3 I2) x3 w38))))))/\(¬(0<=x2)->φ w36)):=by
 unfold Sn at hn
 have hB:BB=1000000000:=rfl
 refine⟨fun k i w'=>∃u q:List Nat,k=(i+1).toNat/\-1<=i/\i<n18/\LR w' A15 n1 c15 u/\Lo u/\LR w' A17 (m+2) c17 v/\LR w' A18 n18 c18 q/\Lo q/\nv (u.drop (i+1).toNat)<nv v/\nv u0=nv v*(BB^(i+1).toNat*nv (q.drop (i+1).toNat))+nv u/\Ext w w',⟨n18,u0,q0,?_⟩,?_⟩
 ·have hql:=hQ.len
  rw[wrap_i64 (by omega) (by omega),show((n18:Int)-1+1).toNat=n18 by omega]
  refine⟨rfl,by omega,by omega,hU,lu,hV,hQ,lq,hlt,?_,E35⟩
  rw[List.drop_eq_nil_of_le (by omega)]
  simp[nv]
 rintro k i w' ⟨u,q,rfl,i0,i1,hU,lu,hV,hQ,lq,hlt,hs,E⟩
 have hul:=hU.len
 have hql:=hQ.len
 refine⟨fun hpos=> ?_,fun hneg=> ?_⟩
 ·obtain⟨j,rfl⟩:=Int.eq_ofNat_of_zero_le hpos
  rw[show((j:Int)+1).toNat=j+1 by omega] at hlt hs
  have hj:j<n18:=by omega
  have hju:j<u.length:=by omega
  have hjq:j<q.length:=by omega
  refine⟨by omega,by omega,?_⟩
  rw[Int.toNat_natCast]
  have hqd:nv (u.drop j)/nv v<BB:=by
   rw[Nat.div_lt_iff_lt_mul hV0,Pq u j hju]
   have g:=lu.lg j
   have:=Nat.mul_le_mul_left BB (show nv (u.drop (j+1))+1<=nv v from hlt)
   rw[Nat.mul_add,Nat.mul_one] at this
   clear hs
   omega
  have key:=aE6 (K:=fun x w4=>oC (j:Int) n18 A18 ((j:Int)+1).toNat (fun k i w'=>∃u q:List Nat,k=(i+1).toNat/\-1<=i/\i<n18/\LR w' A15 n1 c15 u/\Lo u/\LR w' A17 (m+2) c17 v/\LR w' A18 n18 c18 q/\Lo q/\nv (u.drop (i+1).toNat)<nv v/\nv u0=nv v*(BB^(i+1).toNat*nv (q.drop (i+1).toNat))+nv u/\Ext w w') x w4) hU lu hV lv (by clear hs;omega) (by unfold Sn;omega) hbig ap1 hV0 hlt (fun w4 o hO lo htk hod K4=>by
   have hQ4:LR w4 A18 n18 c18 q:=hQ.keep K4 fun b hb ha=>ap2 b ha hb
   have hV4:LR w4 A17 (m+2) c17 v:=hV.keep K4 fun b hb ha=>ap1 b ha hb
   have E4:Ext w w4:=E.over K4 fun i hi ha=>absurd (f15 i ha) (Nat.not_le_of_gt hi)
   obtain⟨qd,hqA,_,hqc,hqf⟩:=hQ4.at_ (i:=(j:Int)) (by clear hs;omega) (by clear hs;omega)
   rw[Int.toNat_natCast] at hqc hqf
   refine⟨by clear hs;omega,by clear hs;omega,qd,hqA,⟨_,hqc⟩,hqf,fun w5 hw=>⟨j,by clear hs;omega,?_⟩⟩
   have hst:=aHk (X:=nv u0) (V:=nv v) (Q:=nv (q.drop (j+1))) (j:=j) (W:=nv (u.drop j)) (r:=nv (u.drop j)%nv v) (q:=nv (u.drop j)/nv v) (a:=nv (u.take j)) (by rw[hs,<-xN u j (Nat.le_of_lt hju)]) (Nat.div_add_mod _ _).symm
   have hodl:=hod
   have hol:=hO.len
   have hm:=Nat.mod_lt (nv (u.drop j)) hV0
   generalize nv (u.drop j)/nv v=dq at*
   generalize nv (u.drop j)%nv v=dr at*
   rw[wrap_u32 (by clear hs hst;omega) (by clear hs hst;omega),Int.toNat_natCast] at hw
   obtain⟨hQ5,K5⟩:=hQ4.put hqA (j:=j) (d:=dq) hj hw
   rw[wrap_i64 (by clear hs hst;omega) (by clear hs hst;omega)]
   show∃u q:List Nat,_
   rw[show((j:Int)-1+1).toNat=j by clear hs hst;omega]
   refine⟨o,q.set j dq,rfl,by clear hs hst;omega,by clear hs hst;omega,hO.keep K5 fun b hb ha=>ap2 b hb ha,lo,hV4.keep K5 fun b hb ha=>ap3 b ha hb,hQ5,lq.set hqd,by rw[hod];exact hm,?_,E4.over K5 fun i hi ha=>absurd (f18 i ha) (Nat.not_le_of_gt hi)⟩
   rw[Pq (q.set j dq) j (by rw[List.length_set];exact hjq),Rt hjq,if_pos rfl,List.drop_set_of_lt (Nat.lt_succ_self j),hst,xN o j (by clear hs hst;omega),htk,hod])
  refine aS.mono key ?_
  rintro v5 w37 ⟨x3,h5,hk⟩
  refine⟨x3,h5,by clear hs;omega,by clear hs;omega,aS.mono hk ?_⟩
  rintro v6 w38 ⟨b1,h6,ht,hf⟩
  exact⟨b1,h6,fun hb=>⟨by clear hs;omega,by clear hs;omega,ht hb⟩,hf⟩
 ·rw[show(i+1).toNat=0 by clear hs;omega] at hlt hs
  simp only[List.drop_zero,Nat.pow_zero,Nat.one_mul] at hlt hs
  exact fin w' u q hU lu hQ lq hs hlt E
theorem aKi {y v:List Nat} {m:Nat} (lo:Lo y) (hm:y.length=m+2) (h0:0<lg y (m+1)) (lim:Pm v) (hv:nv v=nv y*(BB/(lg y (m+1)+1))):v.length=m+2/\BB<=2*lg v (m+1):=by
 obtain⟨n1,n2,n3⟩:=aEm lo hm h0
 obtain⟨b1,b2,b3⟩:=Xy h0 (lo.lg (m+1))
 generalize BB/(lg y (m+1)+1)=b at*
 generalize lg y (m+1)=t at*
 have hl:v.length=m+2:=aJr lim (by
  rw[hv]
  exact Nat.le_trans n1 (Nat.le_mul_of_pos_right _ b3)) (by rw[hv];exact n2)
 refine⟨hl,?_⟩
 have e:nv v=nv (v.take (m+1))+BB^(m+1)*lg v (m+1):=by
  rw[<-jX,List.take_of_length_le (Nat.le_of_eq hl)]
 have hlow:=aFx lim.lo (m+1)
 rw[<-hv,e] at n3
 have hle:t*b<=lg v (m+1):=by
  refine Nat.lt_succ_iff.1 (Nat.lt_of_mul_lt_mul_left (a:=BB^(m+1)) ?_)
  rw[Nat.mul_comm,Nat.mul_succ]
  generalize BB^(m+1)=p at*
  omega
 exact Nat.le_trans b1 (Nat.mul_le_mul_left 2 hle)
theorem aKw {u:List Nat} {k:Nat} (h:nv u<BB^k):nv (u.drop k)=0:=by
 by_cases hl:k<=u.length
 ·rw[xN u k hl] at h
  rcases Nat.eq_zero_or_pos (nv (u.drop k)) with q|q
  ·exact q
  ·have:=Nat.mul_le_mul_left (BB^k) (show 1<=_ from q)
   generalize BB^k=p at*
   omega
 ·rw[List.drop_eq_nil_of_le (by omega)];rfl
theorem aG5 {X Y Q r b:Nat} (hb:0<b) (h:X*b=Y*b*Q+r) (hr:r<Y*b):X/Y=Q/\r/b=X%Y:=by
 have hYb:0<Y*b:=Nat.lt_of_le_of_lt (Nat.zero_le _) hr
 refine⟨?_,?_⟩
 ·rw[<-Nat.mul_div_mul_right X Y hb,h,Nat.mul_add_div hYb,Nat.div_eq_of_lt hr,Nat.add_zero]
 ·have e:(X*b)%(Y*b)=r:=by rw[h,Nat.mul_add_mod,Nat.mod_eq_of_lt hr]
  rw[Nat.mul_mod_mul_right] at e
  rw[<-e,Nat.mul_div_cancel _ hb]
theorem Ig (b:Nat):nv [b]=b:=by simp[nv]
theorem aG0 {w w8:World} {A2 A8:Option Addr} {n1 m c2 n8 c8 X:Nat} {yl l8:List Nat} {K:Option Addr->Nat->Nat->Option Addr->Nat->Nat->World->Prop} (hY:LR w A2 (m+2) c2 yl) (lik:Pm yl) (hn:Sn (n1+m+9)) (hmn:m+2<=n1) (h0:0<lg yl (m+1))
  (h8:LR w8 A8 n8 c8 l8) (lo8:Lo l8) (hv8:nv l8=X*(BB/(lg yl (m+1)+1))) (hX:X<BB^n1) (hle:n8<=n1+1) (E8:Ext w w8) (f8:∀b,At A8 b->w.heap.size<=b)
  (fin:∀A n c B k d w',NF w w' A n c (X/nv yl)->NF w w' B k d (X%nv yl)->K A n c B k d w'):
  lQ n1 (lg yl (m+1):Int) A2 (m+2) c2 K A8 n8 c8 w8:=by
 have hn':=hn
 unfold Sn at hn'
 have hyl:=hY.len
 have gt:=lik.lo.lg (m+1)
 have ew:IntKind.wrap .i64 (((n1+1:Nat):Int)-((m+2:Nat):Int))=((n1+1-(m+2):Nat):Int):=by rw[wrap_i64 (by omega) (by omega)];omega
 have hnn:n1+1-(m+2)+(m+2)=n1+1:=by omega
 have hsn:Sn (n1+1-(m+2)):=by unfold Sn;omega
 have hsn1:Sn (n1+1):=by unfold Sn;omega
 have hsm:Sn (m+2):=by unfold Sn;omega
 have hpw:BB^n1=BB^(n1+1-(m+2))*BB^(m+1):=by rw[<-Nat.pow_add];congr 1;omega
 obtain⟨b1,b2,b3⟩:=Xy h0 gt
 have bB:BB/(lg yl (m+1)+1)<BB:=Nat.div_lt_self (by decide) (Nat.succ_lt_succ h0)
 unfold lQ
 rw[aAo h0 gt]
 have hnv:=fun v=>aKi (v:=v) lik.lo hyl h0
 obtain⟨nl1,nl2,_⟩:=aEm lik.lo hyl h0
 generalize BB/(lg yl (m+1)+1)=b at*
 refine aIf (Z:=X*b) (by unfold Sn;omega) h8 lo8 hv8 hle E8 f8 ?_
 intro A15 c15 w30 l hL lo hv E f p4 w33 hN
 have E33:Ext w w33:=E.over (Ext.bI hN) fun _ _ f=>f
 refine aS.mono (pY ⟨yl,hY.ext E33,lik,rfl⟩ ⟨[b],LR.aAz hN,Tv b3 bB,Ig b⟩ (by unfold Sn;omega)) ?_
 rintro _ w34 ⟨A17,n17,c17,rfl,E34,⟨v,hV,limv,hvv⟩,f17⟩
 obtain⟨hvl,hbig⟩:=hnv v limv hvv
 have hn17:n17=m+2:=hV.len.symm.trans hvl
 subst hn17
 refine⟨A17,m+2,c17,rfl,?_⟩
 rw[ew]
 generalize n1+1-(m+2)=n18 at*
 obtain⟨w35,hr,hQ,E35⟩:=LR.make (w:=w34) (n:=n18) hsn
 refine⟨_,_,_,w35,hr,?_⟩
 have E34':Ext w w34:=E33.over E34 fun _ _ f=>f
 have hL33:LR w33 A15 (n1+1) c15 l:=hL.ext (Ext.bI hN)
 have hL34:LR w34 A15 (n1+1) c15 l:=hL33.ext E34
 have hV0:0<nv v:=by rw[hvv];exact Nat.mul_pos (Nat.lt_of_lt_of_le (bpos _) nl1) b3
 have hlt0:nv (l.drop n18)<nv v:=by
  have s1:=xN l n18 (by have:=hL.len;clear nl1 nl2 hX hpw;omega)
  have a1:X*b<BB^n18*(BB^(m+1)*b):=by rw[<-Nat.mul_assoc,<-hpw];exact Nat.mul_lt_mul_of_pos_right hX b3
  have a2:BB^n18*nv (l.drop n18)<=X*b:=by rw[<-hv,s1];exact Nat.le_add_left _ _
  have a3:=Nat.lt_of_mul_lt_mul_left (Nat.lt_of_le_of_lt a2 a1)
  rw[hvv]
  exact Nat.lt_of_lt_of_le a3 (Nat.mul_le_mul_right _ nl1)
 refine aD8 (w:=w) (n1:=n1+1) (n18:=n18) (m:=m) (u0:=l) (v:=v) hsn1 hnn (hL34.ext E35) lo (hV.ext E35) limv.lo hQ (Dp _) (Ns fun x hx=>(List.mem_replicate.1 hx).2) (fun b hb hb'=> ?_) (fun b hb hb'=> ?_) (fun b hb hb'=> ?_) f (fun b hb=> ?_) (E34'.over E35 fun _ _ f=>f) hbig hV0 hlt0 ?_
 ·exact absurd (f17 b hb') (Nat.not_le_of_gt (Row.at hL33 hb).2)
 ·exact absurd (at_new hb') (Nat.ne_of_lt (Row.at hL34 hb).2)
 ·exact absurd (at_new hb) (Nat.ne_of_lt (Row.at hV hb').2)
 ·rw[at_new hb];exact E34'.size
 ·intro w36 u q hU lu hQ6 lq hs hlt E36
  have hle15:=hU.le
  have cut:LR w36 A15 (m+2) c15 (u.take (m+2)):=by
   have:=Row.cut hU (m:=m+2) (d:=c15) (Nat.le_trans hmn (Nat.le_succ _)) (Nat.le_trans (Nat.le_trans hmn (Nat.le_succ _)) hle15) (Nat.le_refl _)
   rwa [Nat.mul_one,<-List.map_take] at this
  have vlt:nv v<BB^(m+2):=by have:=xR limv.lo;rwa [hvl] at this
  have eu:nv u=nv (u.take (m+2)):=aFn (aKw (Nat.lt_trans hlt vlt))
  have hcc:m+2<=c15:=Nat.le_trans (Nat.le_trans hmn (Nat.le_succ _)) hle15
  refine⟨Int.natCast_nonneg _,Int.ofNat_le.2 hcc,?_⟩
  rw[Int.toNat_natCast]
  refine aS.mono (Ut cut (lu.take _) hsm) ?_
  rintro _ w42 ⟨rfl,m',rfl,hm',hN2⟩
  rw[<-eu] at hN2
  refine⟨A15,m',c15,rfl,?_⟩
  have bb:b<4294967296:=Nat.lt_trans bB (by decide)
  refine aS.mono (Zq (dd:=b) hN2 b3 bb (Nat.le_trans hm' hsm)) ?_
  rintro _ w43 ⟨A20,n20,c20,rfl,hF⟩
  refine⟨A20,n20,c20,_,rfl,?_⟩
  refine aS.mono (Ut (hQ6.ext hF.ext) lq hsn) ?_
  rintro _ w44 ⟨rfl,m2,rfl,_,hN3⟩
  rw[hv,hvv] at hs
  rw[hvv] at hlt
  obtain⟨e1,e2⟩:=aG5 b3 hs hlt
  rw[<-e1] at hN3
  rw[e2] at hF
  exact⟨_,_,_,rfl,fin _ _ _ _ _ _ _ ⟨E36.over hF.ext fun _ _ f=>f,hN3,fun b hb=>by rw[at_new hb];exact E34'.size⟩ (hF.before E36)⟩
theorem LR.over {w0 w:World} {A5 A6:Option Addr} {c5 n6 c6:Nat} {l6:List Nat} (h5:LR w A5 0 c5 []) (f5:∀b,At A5 b->w0.heap.size<=b) (E:Ext w0 w) (h6:LR w A6 n6 c6 l6) (hne:l6≠[]) (hn:Sn n6):
  ∃A7 c7 w6,(Builtin.append_ #[T.dH,T.dH] T.dH #[.slice A5 0 c5,.slice A6 n6 c6]).run P w= .ok (.slice A7 n6 c7) w6/\LR w6 A7 n6 c7 l6/\Ext w0 w6/\∀b,At A7 b->w0.heap.size<=b:=by
 unfold Sn at hn
 rcases Row.cells h6 with h0|⟨a,hA,hc⟩
 ·exact absurd (List.map_eq_nil_iff.1 h0) hne
 subst hA
 have hl:=h6.len
 obtain⟨A',c',w',hr,hR,hK,hB⟩:=Row.append (P:=P) (t:=T.dH) (ty:=T.dH) (by_:=4) (m:=n6) (c2:=c6) (news:=l6.map u32) (a:=a) h5 (by kernel_rfl) (by kernel_rfl) (by decide) (by simp;omega) hc (by intro u hu;obtain⟨x,_,rfl⟩:=List.mem_map.1 hu;rfl) (by omega) (by omega) (Nat.zero_le _)
 rw[Nat.zero_add] at hr hR
 refine⟨A',c',w',hr,by simpa using hR,E.over hK fun i hi ha=>absurd (f5 i ha) (Nat.not_le_of_gt hi),fun b hb=> ?_⟩
 rcases hB b hb with hb|hb
 ·exact f5 b hb
 ·exact Nat.le_trans E.size hb
theorem aJs {w:World} {A B:Option Addr} {n c m d x y:Nat} (hx:NR w A n c x) (hy:NR w B (m+2) d y) (hn:Sn (n+m+9)) (hmn:m+2<=n):
  Calls P F.Ye #[.slice A n c,.slice B (m+2) d] w (aS fun v w'=>∃A n c B k d,v= .tuple #[.slice A n c,.slice B k d]/\NF w w' A n c (x/y)/\NF w w' B k d (x%y)):=by
 obtain⟨l,hL,lim,rfl⟩:=hx
 obtain⟨yl,hY,lik,rfl⟩:=hy
 refine aS.mono (aDw A n c B (m+2) d (fun A n c B k d w'=>NF w w' A n c (nv l/nv yl)/\NF w w' B k d (nv l%nv yl)) w ?_) (by rintro _ w' ⟨A,n,c,B,k,d,rfl,h⟩;exact⟨A,n,c,B,k,d,rfl,h⟩)
 have hn':=hn
 unfold Sn at hn'
 have hl:=hL.len
 have hyl:=hY.len
 have gt:=lik.lo.lg (m+1)
 have h0:0<lg yl (m+1):=by
  refine Nat.pos_of_ne_zero (lik.top _ ?_)
  rw[List.getLast?_eq_getElem?,hyl]
  exact aCb (by omega)
 obtain⟨b1,b2,b3⟩:=Xy h0 gt
 have bB:BB/(lg yl (m+1)+1)<BB:=Nat.div_lt_self (by decide) (Nat.succ_lt_succ h0)
 have w1e:IntKind.wrap .i64 (((m+2:Nat):Int)-1)=((m+1:Nat):Int):=by rw[wrap_i64 (by omega) (by omega)];omega
 have w2e:IntKind.wrap .i64 ((n:Int)+2)=((n+2:Nat):Int):=by rw[wrap_i64 (by omega) (by omega)];omega
 obtain⟨a1,a1e,_,a1c,_⟩:=hY.at_ (i:=((m+1:Nat):Int)) (by omega) (by omega)
 rw[Int.toNat_natCast] at a1c
 have hxl:nv l<BB^n:=by have:=xR lim.lo;rwa [hl] at this
 have hx0:0<nv l:=lim.pos (by rintro rfl;simp at hl;omega)
 have hlim:∀{w' A' n' c'},NR w' A' n' c' (nv l*(BB/(lg yl (m+1)+1)))->∃l',LR w' A' n' c' l'/\Lo l'/\nv l'=nv l*(BB/(lg yl (m+1)+1))/\l'≠[]/\n'<=n+1:=fun {w' A' n' c'} h=>by
  have hb:Lb (nv l*(BB/(lg yl (m+1)+1))) (n+1):=Lb.mul hxl (by unfold Lb;rw[Nat.pow_one];exact bB)
  have:=h.le hb
  obtain⟨l',h1,h2,h3⟩:=h
  refine⟨l',h1,h2.lo,h3,?_,this⟩
  rintro rfl
  have:=Nat.mul_pos hx0 b3
  rw[<-h3] at this
  exact absurd this (Nat.lt_irrefl 0)
 unfold Ua
 rw[w1e,w2e]
 have ed:∀{a b:World},aP a b->Ext a b:=fun h=>Ext.aO h
 have et:∀{a b e:World},Ext a b->Ext b e->Ext a e:=fun h k=>h.over k fun _ _ f=>f
 have fin:∀(w9:World) (A5 A6:Option Addr) (c5 n6 c6:Nat),Ext w w9->LR w9 A5 0 c5 []->(∀b,At A5 b->w.heap.size<=b)->NR w9 A6 n6 c6 (nv l*(BB/(lg yl (m+1)+1)))->
   ∃(A7:Option Addr) (n7 c7:Nat) (w6:World),(Builtin.append_ #[T.dH,T.dH] T.dH #[.slice A5 0 c5,.slice A6 n6 c6]).run P w9= .ok (.slice A7 n7 c7) w6/\(∀w7,Wk.aP w6 w7->lQ n (lg yl (m+1):Int) B (m+2) d (fun A n c B k d w'=>NF w w' A n c (nv l/nv yl)/\NF w w' B k d (nv l%nv yl)) A7 n7 c7 w7):=fun w9 A5 A6 c5 n6 c6 E9 h5 f5 h6=>by
  obtain⟨l6,h61,h62,h63,h64,h65⟩:=hlim h6
  obtain⟨A7,c7,w6,hr,h7,E7,f7⟩:=LR.over h5 f5 E9 h61 h64 (by clear hxl;unfold Sn;omega)
  exact⟨A7,n6,c7,w6,hr,fun w7 D7=>aG0 hY lik hn hmn h0 (h7.ext (ed D7)) h62 h63 hxl h65 (et E7 (ed D7)) f7 fun _ _ _ _ _ _ _ q r=>⟨q,r⟩⟩
 have sn2:Sn (n+2):=by clear hxl;unfold Sn;omega
 have sn1:Sn (n+1):=by clear hxl;unfold Sn;omega
 have nz:IntKind.wrap .u64 (IntKind.wrap .u64 (lg yl (m+1):Int)+1)≠0:=by
  have hB:BB=1000000000:=rfl
  clear hxl
  rw[wrap_u64 (i:=(lg yl (m+1):Int)) (by omega) (by omega),wrap_u64 (by omega) (by omega)];omega
 have hi:(0:Int)<=((m+1:Nat):Int)/\((m+1:Nat):Int)<((m+2:Nat):Int):=by clear hxl;omega
 have fr:∀{a:World},Ext w a->∀b,At (some ⟨a.heap.size,0,none⟩) b->w.heap.size<=b:=fun E b hb=>by rw[at_new hb];exact E.size
 refine⟨hi.1,hi.2,a1,a1e,_,a1c,nz,fun w11 D11=> ?_,fun w29 D29 p2 w12 hN=>⟨fun w20 D20=> ?_,fun w22 D22=> ?_⟩⟩
 ·obtain⟨w1,hr,h5,E5⟩:=LR.Qi (w:=w11) (n:=n+2) sn2
  refine⟨_,_,_,w1,hr,fun w10 D10 p1 w2 hN w4 D4=> ?_⟩
  rw[aAo h0 gt] at hN
  have Ea:=et (ed D10) (et (Ext.bI hN) (ed D4))
  have E4:=et (ed D11) (et E5 Ea)
  refine aS.mono (pY ⟨l,hL.ext E4,lim,rfl⟩ ⟨[_],(LR.aAz hN).ext (ed D4),Tv b3 bB,Ig _⟩ sn1) ?_
  rintro _ w3 ⟨A6,n6,c6,rfl,hF⟩
  refine⟨A6,n6,c6,rfl,fun w9 D9=>fin w9 _ A6 _ n6 c6 (et E4 (et hF.ext (ed D9))) (h5.ext (et Ea (et hF.ext (ed D9)))) (fr (ed D11)) (hF.nr.ext (ed D9))⟩
 ·rw[aAo h0 gt] at hN
  obtain⟨w13,hr,h5,E5⟩:=LR.Qi (w:=w20) (n:=n+2) sn2
  refine⟨_,_,_,w13,hr,fun w15 D15=> ?_⟩
  have E20:=et (ed D29) (et (Ext.bI hN) (ed D20))
  have Eb:=et (ed D20) (et E5 (ed D15))
  have E15:=et E20 (et E5 (ed D15))
  refine aS.mono (pY ⟨l,hL.ext E15,lim,rfl⟩ ⟨[_],(LR.aAz hN).ext Eb,Tv b3 bB,Ig _⟩ sn1) ?_
  rintro _ w3 ⟨A6,n6,c6,rfl,hF⟩
  refine⟨A6,n6,c6,rfl,fun w9 D9=>fin w9 _ A6 _ n6 c6 (et E15 (et hF.ext (ed D9))) (h5.ext (et (ed D15) (et hF.ext (ed D9)))) (fr E20) (hF.nr.ext (ed D9))⟩
 ·rw[aAo h0 gt] at hN
  have E22:=et (ed D29) (et (Ext.bI hN) (ed D22))
  refine aS.mono (pY ⟨l,hL.ext E22,lim,rfl⟩ ⟨[_],(LR.aAz hN).ext (ed D22),Tv b3 bB,Ig _⟩ sn1) ?_
  rintro _ w21 ⟨A6,n6,c6,rfl,hF⟩
  refine⟨A6,n6,c6,rfl,fun w28 D28=> ?_⟩
  obtain⟨w24,hr,h5,E5⟩:=LR.Qi (w:=w28) (n:=n+2) sn2
  have E28:=et E22 (et hF.ext (ed D28))
  refine⟨_,_,_,w24,hr,fun w27 D27=>fin w27 _ A6 _ n6 c6 (et E28 (et E5 (ed D27))) (h5.ext (ed D27)) (fr E28) (hF.nr.ext (et (ed D28) (et E5 (ed D27))))⟩
theorem aEh {x y:Nat}:xQ x y<0↔x<y:=by
 unfold xQ
 split
 ·simp[*]
 ·split<;>simp[*]
theorem aC3 {w:World} {A B:Option Addr} {n c m d x y:Nat} (hx:NR w A n c x) (hy:NR w B m d y) (h0:0<y) (hn:Sn (n+m+9)):
  Calls P F.wG #[.slice A n c,.slice B m d] w (aS fun v w'=>∃A n c B k d,v= .tuple #[.slice A n c,.slice B k d]/\NF w w' A n c (x/y)/\NR w' B k d (x%y)):=by
 refine aS.mono (aAf A n c B m d (fun A n c B k d w'=>NF w w' A n c (x/y)/\NR w' B k d (x%y)) w ?_) (by rintro _ w' ⟨A,n,c,B,k,d,rfl,h⟩;exact⟨A,n,c,B,k,d,rfl,h⟩)
 have hn':=hn
 unfold Sn at hn'
 unfold Fg
 refine aS.mono (aFc hx hy (by unfold Sn;omega)) ?_
 rintro _ w1 ⟨rfl,D1⟩
 refine⟨_,rfl,fun hlt=> ?_,fun hge=> ?_⟩
 ·have h:=aEh.1 hlt
  rw[Nat.div_eq_of_lt h,Nat.mod_eq_of_lt h]
  exact⟨(NF.zero w).after (Ext.aO D1),hx.ext (Ext.aO D1)⟩
 ·have hyx:y<=x:=Nat.le_of_not_lt fun h=>hge (aEh.2 h)
  have hx1:=hx.ext (Ext.aO D1)
  have hy1:=hy.ext (Ext.aO D1)
  have hm0:m≠0:=fun e=>by have:=(hy.zero).1 e;omega
  have hmn:m<=n:=hy.le (k:=n) (Nat.lt_of_le_of_lt hyx hx.lb)
  refine⟨fun h1=> ?_,fun h1=> ?_⟩
  ·have:m=1:=by omega
   subst this
   obtain⟨k,hK,lik,rfl⟩:=hy1
   obtain⟨ad,hA,_,hc,_⟩:=hK.at_ (i:=(0:Int)) (by omega) (by omega)
   have hkl:=hK.len
   obtain⟨e,rfl⟩:∃e,k=[e]:=List.length_eq_one_iff.1 hkl
   have e0:lg [e] (0:Int).toNat=e:=rfl
   rw[e0] at hc
   rw[Ig] at*
   have ge:e<BB:=lik.lo.head
   refine⟨by omega,by omega,ad,hA,_,hc,?_⟩
   refine aS.mono (Zq hx1 h0 (Nat.lt_trans ge (by decide)) (by unfold Sn;omega)) ?_
   rintro _ w2 ⟨A5,n5,c5,rfl,hF⟩
   refine⟨A5,n5,c5,_,rfl,?_⟩
   have hr:x%e<e:=Nat.mod_lt _ h0
   have hB:BB=1000000000:=rfl
   rw[wrap_u64 (Int.natCast_nonneg _) (Int.lt_of_lt_of_le (Int.ofNat_lt.2 hr) (by omega))]
   refine aS.mono (Dy (by omega)) ?_
   rintro _ w3 ⟨A6,n6,c6,rfl,hF2⟩
   exact⟨A6,n6,c6,rfl,(hF.before (Ext.aO D1)).after hF2.ext,hF2.nr⟩
  ·refine aS.mono (Xl hx1) ?_
   rintro _ w4 ⟨D4,⟨rfl,h2,hx2⟩|⟨rfl,h2⟩⟩
   ·refine⟨_,_,rfl,fun _=> ?_,fun h=>(by cases h)⟩
    refine aS.mono (Xl (hy1.ext (Ext.aO D4))) ?_
    rintro _ w5 ⟨D5,⟨rfl,h3,hy2⟩|⟨rfl,h3⟩⟩
    ·have hBB:BB*BB=1000000000000000000:=rfl
     have hq:x/y<=x:=Nat.div_le_self _ _
     have hr:x%y<y:=Nat.mod_lt _ h0
     have e1:Int.tdiv (x:Int) (y:Int)=((x/y:Nat):Int):=(Int.ofNat_tdiv _ _).symm
     have e2:Int.tmod (x:Int) (y:Int)=((x%y:Nat):Int):=(Int.ofNat_tmod _ _).symm
     refine⟨_,_,rfl,by omega,by omega,fun w7 D7=> ?_⟩
     rw[e1,e2,wrap_u64 (Int.natCast_nonneg _) (Int.lt_of_le_of_lt (Int.ofNat_le.2 hq) (by omega))]
     refine aS.mono (Dy (by omega)) ?_
     rintro _ w6 ⟨A7,n7,c7,rfl,hF⟩
     refine⟨A7,n7,c7,rfl,fun w10 D10=> ?_⟩
     refine aS.mono (Dy (by omega)) ?_
     rintro _ w9 ⟨A8,n8,c8,rfl,hF2⟩
     refine⟨A8,n8,c8,rfl,fun w12 D12=> ?_⟩
     exact⟨((hF.before (Ext.aO (((D1.trans D4).trans D5).trans D7))).after (Ext.aO D10)).after (hF2.ext.over (Ext.aO D12) fun _ _ f=>f),hF2.nr.ext (Ext.aO D12)⟩
    ·omega
   ·refine⟨_,_,rfl,fun h=>(by cases h),fun _=> ?_⟩
    obtain⟨m',rfl⟩:∃m',m=m'+2:=⟨m-2,by omega⟩
    refine aS.mono (aJs (hx1.ext (Ext.aO D4)) (hy1.ext (Ext.aO D4)) (by unfold Sn;omega) hmn) ?_
    rintro _ w14 ⟨A',n',c',B',k',d',rfl,hq,hr⟩
    exact⟨A',n',c',B',k',d',rfl,hq.before (Ext.aO (D1.trans D4)),hr.nr⟩
abbrev bl (s:ByteArray):List UInt8:=s.data.toList
abbrev bs (l:List UInt8):ByteArray:=⟨l.toArray⟩
theorem aH1 (s:ByteArray):bs (bl s)=s:=Lib.mk_data s
theorem Xb {a b:ByteArray} (h:bl a=bl b):a=b:=by rw[<-aH1 a,h,aH1]
theorem eY (s:ByteArray):s.size=(bl s).length:=Lib.size_eq s
theorem Ci (s:ByteArray) (a b:Nat):bl (s.extract a b)=((bl s).drop a).take (b-a):=Lib.extract_data s a b
theorem wC (a b:ByteArray):bl (a++b)=bl a++bl b:=by simp[bl]
theorem Ep {s:ByteArray}:s= .empty↔bl s=[]:=⟨fun h=>by subst h;rfl,fun h=>Xb h⟩
theorem aB8 {w w':World} (h:RowKit.Below w.heap.size w w'):Ext w w':=⟨h.size,h.os,h.tape,h.output,fun i hi _=>h.block i hi⟩
theorem aHa (w:World) (o:Obj):Ext w (w.drew.alloc o):=(Ext.aO (aP.drew w)).alloc o
theorem Qk:∀l:List UInt8,Lib.trimLeftB l 48=rG l
 |[]=>rfl
 |c::l=>by
  have:=Qk l
  unfold Lib.trimLeftB at*
  unfold rG
  by_cases h:c=48
  ·simp[h,this]
  ·simp[h]
theorem Pe (s:ByteArray) (w:World):Calls P F.rX #[.string s,.string ⟨#[48]⟩] w (aS fun v w'=>w'=w/\v= .string (bs (rG (bl s)))):=by
 refine(Any.strings_TrimLeft_one (P:=P) Tryz.laysTrimLeft s 48 (by decide) w).mono ?_
 rintro e w' ⟨rfl,rfl⟩
 rw[Qk]
 exact⟨_,rfl,rfl,rfl⟩
theorem aAk (l:List UInt8):Lib.trimPrefix l [45]=bare l:=by
 unfold Lib.trimPrefix Lib.hasPrefix bare Cc
 cases l with
 |nil=>rfl
 |cons c l=>
  have e:([45].isPrefixOf (c::l))=(45==c):=by simp[List.isPrefixOf]
  rw[e]
  by_cases h:c=45
  ·subst h;simp
  ·have h':¬(45:UInt8)=c:=fun e=>h e.symm
   simp[h,h']
theorem Xz (s:ByteArray) (w:World):Calls P F.strings_TrimPrefix #[.string s,.string ⟨#[45]⟩] w (aS fun v w'=>w'=w/\v= .string (bs (bare (bl s)))):=by
 refine(Any.strings_TrimPrefix (P:=P) Tryz.laysTrimPrefix s ⟨#[45]⟩ w).mono ?_
 rintro e w' ⟨rfl,rfl⟩
 have:(⟨#[45]⟩:ByteArray).data.toList=[45]:=rfl
 rw[this,aAk]
 exact⟨_,rfl,rfl,rfl⟩
theorem aCi (c:UInt8):∀l:List UInt8,(Lib.indexByte l c= -1/\past c l=none/\upto c l=l)\/∃k:Nat,Lib.indexByte l c=k/\k<l.length/\upto c l=l.take k/\past c l=some (l.drop (k+1))
 |[]=> .inl ⟨rfl,rfl,rfl⟩
 |b::l=>by
  unfold Lib.indexByte upto past
  by_cases h:b=c
  ·subst h
   exact .inr ⟨0,by simp,by simp,by simp,by simp⟩
  ·have h1:(b==c)=false:=by simpa using h
   rcases aCi c l with⟨e1,e2,e3⟩|⟨k,e1,e2,e3,e4⟩
   ·left
    unfold upto at e3
    unfold past at e2
    unfold bne at*
    simp only[h1,e1,List.takeWhile_cons,List.dropWhile_cons,bne,Bool.not_false,if_true,e3]
    exact⟨rfl,e2,trivial⟩
   ·right
    unfold upto at e3
    unfold past at e4
    refine⟨k+1,?_,by simpa using e2,?_,?_⟩
    ·rw[e1]
     have:((k:Int)== -1)=false:=by
      have:¬(k:Int)= -1:=by omega
      simpa using this
     simp[h1,this]
    ·simp only[h1,List.takeWhile_cons,bne,Bool.not_false,if_true,List.take_succ_cons]
     unfold bne at e3
     rw[e3]
    ·simp only[h1,List.dropWhile_cons,bne,Bool.not_false,if_true,List.drop_succ_cons]
     unfold bne at e4
     exact e4
theorem aHq (s:ByteArray) (c:UInt8) (w:World) (hs:s.size<=1099511627776):Calls P F.strings_Cut #[.string s,.string ⟨#[c]⟩] w (aS fun v w'=>aP w w'/\v= .tuple #[.string (bs (upto c (bl s))),.string (bs ((past c (bl s)).getD [])),.bool (past c (bl s)).isSome]):=by
 refine aS.mono (aBq s ⟨#[c]⟩ (fun a b d w'=>aP w w'/\a=bs (upto c (bl s))/\b=bs ((past c (bl s)).getD [])/\d=(past c (bl s)).isSome) w ?_) (by rintro _ w' ⟨a,b,d,rfl,h,rfl,rfl,rfl⟩;exact⟨h,rfl⟩)
 unfold Ij
 refine aS.mono (Xi s ⟨#[c]⟩ (fun a b d w'=>aP w w'/\a=bs (upto c (bl s))/\b=bs ((past c (bl s)).getD [])/\d=(past c (bl s)).isSome) w ?_) (by rintro _ w' ⟨a,b,d,rfl,h⟩;exact⟨a,b,d,rfl,h⟩)
 unfold yE
 refine Calls.mono (Any.stringslite_Index_one (P:=P) Tryz.laysIndex s c w) ?_
 rintro e w' ⟨rfl,rfl⟩
 refine⟨_,rfl,_,rfl,?_⟩
 have hz:=eY s
 have h1:((⟨#[c]⟩:ByteArray).size:Int)=1:=rfl
 rcases aCi c (bl s) with⟨e1,e2,e3⟩|⟨k,e1,e2,e3,e4⟩
 ·rw[e1,e2,e3,h1]
  exact⟨fun h=>absurd h (by decide),fun _=>⟨aP.refl w',(aH1 s).symm,rfl,rfl⟩⟩
 ·rw[e1,e3,e4,h1,wrap_i64 (by omega) (by omega)]
  refine⟨fun _=>⟨by omega,by omega,by omega,by omega,fun w2 D=>⟨D,?_,?_,rfl⟩⟩,fun h=>absurd (Int.natCast_nonneg k) h⟩
  ·apply Xb
   rw[Ci]
   simp
  ·apply Xb
   rw[Ci,show((k:Int)+1).toNat=k+1 by omega]
   show _=(bl s).drop (k+1)
   rw[List.take_of_length_le (by rw[List.length_drop];omega)]
theorem aGw {c:UInt8}:[48,49,50,51,52,53,54,55,56,57].contains c=dgB c:=by
 rw[Bool.eq_iff_iff,aGl]
 simp only[List.contains_iff_mem,List.mem_cons,List.not_mem_nil,or_false]
 refine⟨fun h=> ?_,fun h=> ?_⟩
 ·rcases h with rfl|rfl|rfl|rfl|rfl|rfl|rfl|rfl|rfl|rfl<;>exact⟨by decide,by decide⟩
 ·have hc:c=UInt8.ofNat c.toNat:=by simp
  have:c.toNat=48\/c.toNat=49\/c.toNat=50\/c.toNat=51\/c.toNat=52\/c.toNat=53\/c.toNat=54\/c.toNat=55\/c.toNat=56\/c.toNat=57:=by
   have:=h.1;have:=h.2;omega
  rw[hc]
  rcases this with e|e|e|e|e|e|e|e|e|e<;>rw[e]<;>decide
theorem aFz {p:UInt8->Bool}:∀{l:List UInt8},l.dropWhile p=[]↔∀x∈l,p x=true
 |[]=>by simp
 |c::l=>by
  have:=aFz (p:=p) (l:=l)
  by_cases h:p c=true
  ·simp[h,this]
  ·simp[h]
theorem aCq (l cs:List UInt8):Lib.trimS l cs=[]↔∀x∈l,cs.contains x=true:=by
 unfold Lib.trimS Lib.trimLeftS Lib.trimRightS
 rw[aFz]
 refine⟨fun h=> ?_,fun h x hx=> ?_⟩
 ·have:l.reverse.dropWhile (fun x=>cs.contains x)=[]:=by
   cases e:l.reverse.dropWhile (fun x=>cs.contains x) with
   |nil=>rfl
   |cons y t=>
    have h1:=List.head_dropWhile_not (fun x=>cs.contains x) (l:=l.reverse) (by rw[e];simp)
    have h2:=h y (by rw[e];simp)
    simp only[e,List.head_cons] at h1
    rw[h1] at h2
    cases h2
  rw[aFz] at this
  intro x hx
  exact this x (by simpa using hx)
 ·refine h x ?_
  have:=List.dropWhile_sublist (fun x=>cs.contains x) (l:=l.reverse)
  have:=this.subset (List.mem_reverse.1 hx)
  simpa using this
theorem aIv (l:List UInt8):Lib.trimS l [48,49,50,51,52,53,54,55,56,57]=[]↔l.all dgB=true:=by
 rw[aCq,List.all_eq_true]
 simp only[aGw]
theorem Wp (s:ByteArray) (w:World) (hs:s.size<=1099511627776):Calls P F.yZ #[.string s,.string ⟨#[48,49,50,51,52,53,54,55,56,57]⟩] w (aS fun v w'=>Ext w w'/\∃t,v= .string t/\(t= .empty↔(bl s).all dgB=true)):=by
 refine(Any.strings_Trim_laid (P:=P) Tryz.laysTrim (by kernel_rfl) s ⟨#[48,49,50,51,52,53,54,55,56,57]⟩ w (by omega) (by decide) (ascii_of_all (by decide))).mono ?_
 rintro e w' ⟨rfl,h⟩
 refine⟨_,rfl,aB8 h,_,rfl,?_⟩
 rw[<-aIv,Ep]
theorem Vy (s:ByteArray) (w:World) (hs:s.size<=1099511627776):Calls P F.Em #[.string s] w (aS fun v w'=>Ext w w'/\v= .bool (Eo (bl s))):=by
 refine aS.mono (aBe s (fun b w'=>Ext w w'/\b=Eo (bl s)) w ?_) (by rintro _ w' ⟨b,rfl,h,rfl⟩;exact⟨h,rfl⟩)
 unfold Il
 refine⟨fun hne=> ?_,fun h=> ?_⟩
 ·refine aS.mono (Wp s w hs) ?_
  rintro _ w1 ⟨E,t,rfl,ht⟩
  refine⟨t,rfl,E,?_⟩
  have:(bl s).isEmpty=false:=by
   rw[List.isEmpty_eq_false_iff]
   exact fun h=>hne (Ep.2 h)
  unfold Eo
  rw[this,Bool.not_false,Bool.true_and,Bool.eq_iff_iff,decide_eq_true_iff]
  exact ht
 ·have:s= .empty:=Classical.byContradiction fun hc=>h hc
  subst this
  exact⟨Ext.refl w,rfl⟩
theorem aKs {p r:Nat} (hp:∀g,g∣p->g=1\/g=p) (h:¬p∣r):Nat.Coprime r p:=by
 rcases hp _ (Nat.gcd_dvd_right r p) with e|e
 ·exact e
 ·exact absurd (by rw[<-e];exact Nat.gcd_dvd_left r p) h
theorem dvd2:∀g,g∣2->g=1\/g=2:=fun g h=>by
 have:=Nat.le_of_dvd (by decide) h
 have h0:g≠0:=fun e=>by subst e;simp at h
 omega
theorem aLr:∀g,g∣5->g=1\/g=5:=fun g h=>by
 have h1:=Nat.le_of_dvd (by decide) h
 have:g=0\/g=1\/g=2\/g=3\/g=4\/g=5:=by omega
 rcases this with rfl|rfl|rfl|rfl|rfl|rfl
 ·exact absurd h (by decide)
 ·exact .inl rfl
 ·exact absurd h (by decide)
 ·exact absurd h (by decide)
 ·exact absurd h (by decide)
 ·exact .inr rfl
structure Strip (p x k a r:Nat):Prop where
 eq:x=p^a*r
 le:a<=k
 end_:a=k\/¬p∣r
theorem Strip.gcd {p x k a r:Nat} (hp:∀g,g∣p->g=1\/g=p) (h:Strip p x k a r):Nat.gcd x (p^k)=p^a:=by
 obtain⟨rfl,h2,h3⟩:=h
 have e:p^k=p^a*p^(k-a):=by rw[<-Nat.pow_add];congr 1;omega
 rw[e,Nat.gcd_mul_left]
 have:Nat.gcd r (p^(k-a))=1:=by
  rcases h3 with q|q
  ·rw[q,Nat.sub_self,Nat.pow_zero,Nat.gcd_one_right]
  ·exact Nat.Coprime.pow_right _ (aKs hp q)
 rw[this,Nat.mul_one]
theorem aJj {x k a b r s:Nat} (h2:Strip 2 x k a r) (h5:Strip 5 x k b s):Nat.gcd x (10^k)=2^a*5^b:=by
 have e:(10:Nat)^k=2^k*5^k:=by rw[<-Nat.mul_pow]
 rw[e,Nat.Coprime.gcd_mul x (Nat.Coprime.pow_left _ (Nat.Coprime.pow_right _ (by decide))),h2.gcd dvd2,h5.gcd aLr]
abbrev Sh (n:Nat):Prop:=n<=68719476736
theorem bb9 (m:Nat):BB^m=10^(9*m):=by rw[Nat.pow_mul,aI7]
theorem NR.pos {w:World} {A:Option Addr} {n c x:Nat} (h:NR w A n c x) (hx:x≠0):0<n:=by
 have:=h.zero
 omega
section
variable {w w':World} {A B:Option Addr} {n c m d x y:Nat} {l:List Nat}
theorem aD0 (h:NR w A n c x) (hx:x≠0) (hn:Sn n):Calls P F.wL #[.slice A n c] w (aS fun v w'=>w'=w/\∃k:Nat,∃b,v= .tuple #[.int .i64 (k:Int),.bool b]/\k<=9*n/\(b=true->x=10^k)):=by
 have hn0:=h.pos hx
 obtain⟨l,hL,lim,rfl⟩:=h
 refine aS.mono (Vg A n c (fun i b w'=>w'=w/\∃k:Nat,i=k/\k<=9*n/\(b=true->nv l=10^k)) w ?_) (by rintro _ w' ⟨i,b,rfl,rfl,k,rfl,h1,h2⟩;exact⟨rfl,k,b,rfl,h1,h2⟩)
 have hl:=hL.len
 unfold Sn at hn
 unfold xH
 have stop:w=w/\∃k:Nat,(0:Int)=k/\k<=9*n/\(false=true->nv l=10^k):=⟨rfl,0,rfl,by omega,fun h=>by cases h⟩
 have e1:IntKind.wrap .i64 ((n:Int)-1)=((n-1:Nat):Int):=by rw[wrap_i64 (by omega) (by omega)];omega
 rw[e1]
 refine⟨fun q i=>q=n-i.toNat/\0<=i/\i<=n/\nv (l.take (min i.toNat (n-1)))=0,⟨n,by simp,by omega,by omega,by simp[nv]⟩,?_⟩
 rintro q i ⟨rfl,i0,i1,hz⟩
 obtain⟨j,rfl⟩:=Int.eq_ofNat_of_zero_le i0
 simp only[Int.toNat_natCast] at hz
 refine⟨fun hlt=> ?_,fun hge=> ?_⟩
 ·obtain⟨ad,hA,hv,hc,_⟩:=hL.at_ (i:=(j:Int)) (by omega) (by omega)
  simp only[Int.toNat_natCast] at hc hv
  refine⟨by omega,hlt,ad,hA,_,hc,?_⟩
  have next:(j<n-1->lg l j=0)->∃k2,k2<n-(j:Int).toNat/\(k2=n-(IntKind.wrap .i64 ((j:Int)+1)).toNat/\0<=IntKind.wrap .i64 ((j:Int)+1)/\IntKind.wrap .i64 ((j:Int)+1)<=n/\nv (l.take (min (IntKind.wrap .i64 ((j:Int)+1)).toNat (n-1)))=0):=fun h0=>by
   rw[wrap_i64 (by omega) (by omega),show((j:Int)+1).toNat=j+1 by omega]
   refine⟨n-(j+1),by simp;omega,rfl,by omega,by omega,?_⟩
   by_cases hj:j<n-1
   ·rw[show min (j+1) (n-1)=j+1 by omega,jX,h0 hj]
    rw[show min j (n-1)=j by omega] at hz
    rw[hz]
    simp
   ·rw[show min (j+1) (n-1)=min j (n-1) by omega]
    exact hz
  refine⟨fun hlow=>⟨fun hb=>stop,fun hb=>next fun _=> ?_⟩,fun hhigh=>⟨fun hb=>(by cases hb),fun _=>next fun h=>by omega⟩⟩
  have:=of_decide_eq_false hb
  omega
 ·have hj:j=n:=by omega
  subst hj
  rw[show min j (j-1)=j-1 by omega] at hz
  obtain⟨ad,hA,hv,hc,_⟩:=hL.at_ (i:=((j-1:Nat):Int)) (by omega) (by omega)
  simp only[Int.toNat_natCast] at hc hv
  have hne:l≠[]:=fun e=>by rw[e] at hl;simp at hl;omega
  have hval:nv l=10^(9*(j-1))*lg l (j-1):=by
   have:=jX l (j-1)
   rw[show j-1+1=l.length by omega,List.take_length,hz,Nat.zero_add,bb9] at this
   exact this
  have ht:lg l (j-1)≠0:=fun e=>by rw[e,Nat.mul_zero] at hval;exact hx hval
  have htB:=lim.lo.lg (j-1)
  have hup:nv l<10^(9*j):=by rw[<-bb9,<-hl];exact xR lim.lo
  have kle:∀k t:Nat,nv l=10^k*t->t≠0->k<9*j:=fun k t h h0=>by
   have:10^k*1<=10^k*t:=Nat.mul_le_mul_left _ (by omega)
   exact(Nat.pow_lt_pow_iff_right (by decide)).1 (show 10^k<10^(9*j) by omega)
  refine⟨by omega,by omega,ad,hA,_,hc,fun q i t=>∃k t':Nat,i=k/\t=(t':Int)/\q=t'/\t'≠0/\t'<BB/\nv l=10^k*t',⟨_,9*(j-1),_,?_,rfl,rfl,ht,htB,hval⟩,?_⟩
  ·rw[wrap_i64 (by omega) (by omega)];omega
  rintro t' i t ⟨k,_,rfl,rfl,rfl,h0,hb,he⟩
  have hk:=kle _ _ he h0
  have hB:BB=1000000000:=rfl
  have em:Int.tmod (t':Int) 10=((t'%10:Nat):Int):=(Int.ofNat_tmod t' 10).symm
  have ed:Int.tdiv (t':Int) 10=((t'/10:Nat):Int):=(Int.ofNat_tdiv t' 10).symm
  have hq:=Nat.div_le_self t' 10
  rw[em,ed]
  refine⟨fun h1=>⟨fun _=>stop,fun hm=> ?_⟩,fun h1=>⟨rfl,k,rfl,by omega,fun _=> ?_⟩⟩
  ·rw[wrap_i64 (by omega) (by omega),wrap_u32 (by omega) (by omega)]
   refine⟨t'/10,by omega,k+1,t'/10,rfl,rfl,rfl,by omega,by omega,?_⟩
   rw[he,Nat.pow_succ,Nat.mul_assoc]
   congr 1
   omega
  ·rw[he,show t'=1 by omega,Nat.mul_one]
theorem aE2 {dd:Nat} (h:NR w A n c x) (hx:x≠0) (h1:1<dd) (hd:dd<BB) (hn:Sn n) (hm:m<=10000000000000):Calls P F.xI #[.slice A n c,.int .u32 (dd:Int),.int .i64 (m:Int)] w (aS fun v w'=>∃k r:Nat,∃B j d,v= .tuple #[.int .i64 (k:Int),.slice B j d]/\Ext w w'/\NR w' B j d r/\j<=n/\Strip dd x m k r):=by
 refine aS.mono (Ze A n c (dd:Int) (m:Int) (fun i B j d w'=>∃k r:Nat,i=k/\Ext w w'/\NR w' B j d r/\j<=n/\Strip dd x m k r) w ?_) (by rintro _ w' ⟨i,B,j,d,rfl,k,r,rfl,h⟩;exact⟨k,r,B,j,d,rfl,h⟩)
 unfold Sn at hn
 unfold Bf
 have hB:BB=1000000000:=rfl
 refine⟨fun q B j d i w'=>∃k r:Nat,i=k/\q=m-k/\k<=m/\r≠0/\x=dd^k*r/\j<=n/\Ext w w'/\NR w' B j d r,⟨m,0,x,rfl,rfl,by omega,hx,by simp,by omega,Ext.refl w,h⟩,?_⟩
 rintro q B j d i w1 ⟨k,r,rfl,rfl,hk,hr,he,hj,E,hR⟩
 have hpos:=hR.pos hr
 have end_:∀w2,Ext w1 w2->(k=m\/¬dd∣r)->kH (fun i B j d w'=>∃k r:Nat,i=k/\Ext w w'/\NR w' B j d r/\j<=n/\Strip dd x m k r) B j d (k:Int) w2:=fun w2 E2 h=>⟨k,r,rfl,E.trans E2,hR.ext E2,hj,he,hk,h⟩
 refine⟨fun hlt=>⟨fun _=> ?_,fun hb=>(by have:=of_decide_eq_false hb;omega)⟩,fun hge=>⟨fun hb=>(by cases hb),fun _=>end_ w1 (Ext.refl w1) (.inl (by omega))⟩⟩
 refine aS.mono (Zq hR (by omega) (by omega) (by unfold Sn;omega)) ?_
 rintro _ w2 ⟨A4,n4,c4,rfl,hF⟩
 refine⟨A4,n4,c4,_,rfl,fun h0=>end_ w2 hF.ext (.inr fun hdv=>h0 (by rw[Nat.mod_eq_zero_of_dvd hdv];rfl)),fun h0=> ?_⟩
 have h0':r%dd=0:=by omega
 have hdr:=Nat.div_add_mod r dd
 rw[h0',Nat.add_zero] at hdr
 rw[wrap_i64 (by omega) (by omega)]
 have hle:n4<=j:=hF.nr.le (Nat.lt_of_le_of_lt (Nat.div_le_self r dd) hR.lb)
 refine⟨m-(k+1),by omega,k+1,r/dd,rfl,rfl,by omega,fun e=>by rw[e,Nat.mul_zero] at hdr;omega,?_,by omega,E.trans hF.ext,hF.nr⟩
 rw[he,Nat.pow_succ,Nat.mul_assoc,hdr]
theorem aEx {dd k N:Nat} (h0:0<dd) (hd:dd<BB) (hk:k<=10000000000000) (hN:Sh N) (hb:Lb (dd^k) N):Calls P F.Nj #[.int .u32 (dd:Int),.int .i64 (k:Int)] w (aS fun v w'=>∃A n c,v= .slice A n c/\Ext w w'/\NR w' A n c (dd^k)):=by
 refine aS.mono (aC7 (dd:Int) (k:Int) (fun A n c w'=>Ext w w'/\NR w' A n c (dd^k)) w ?_) (by rintro _ w' ⟨A,n,c,rfl,h⟩;exact⟨A,n,c,rfl,h⟩)
 unfold Sh at hN
 unfold Ol
 refine aS.mono aFy ?_
 rintro _ w1 ⟨E1,A2,rfl,hO,_⟩
 refine⟨A2,1,1,rfl,fun p w2 hN2=> ?_⟩
 have hsq:NR w2 (some p) 1 1 dd:=⟨[dd],LR.aAz hN2,Tv h0 hd,Ig dd⟩
 have big:∀o s j:Nat,o*s^j=dd^k->0<o->0<s->0<j->Lb s N/\Lb o N:=fun o s j he ho hs hj=>by
  have h1:s^1<=s^j:=Nat.pow_le_pow_right hs hj
  have h2:1*s^j<=o*s^j:=Nat.mul_le_mul_right _ ho
  have h3:o*1<=o*s^j:=Nat.mul_le_mul_left _ (Nat.pow_pos hs)
  rw[Nat.pow_one] at h1
  exact⟨hb.le (by omega),hb.le (by omega)⟩
 refine⟨fun q i A n c B m d w'=>∃j o s:Nat,i=j/\q=j/\j<=k/\0<o/\0<s/\o*s^j=dd^k/\NR w' A n c o/\NR w' B m d s/\Ext w w',⟨k,k,1,dd,rfl,rfl,Nat.le_refl _,by omega,h0,by simp,hO.ext (Ext.bI hN2),hsq,E1.trans (Ext.bI hN2)⟩,?_⟩
 rintro j i A n c B m d w3 ⟨_,o,s,rfl,rfl,hj,ho,hs,he,hA,hB,E3⟩
 have em:Int.tmod (j:Int) 2=((j%2:Nat):Int):=(Int.ofNat_tmod j 2).symm
 have ed:Int.tdiv (j:Int) 2=((j/2:Nat):Int):=(Int.ofNat_tdiv j 2).symm
 rw[em]
 refine⟨fun hpos=> ?_,fun hz=> ?_⟩
 ·obtain⟨ls,lo⟩:=big o s j he ho hs (by omega)
  have nB:=hB.le ls
  have nA:=hA.le lo
  have sq:∀w5 A6 n6 c6 o',Ext w3 w5->NR w5 A6 n6 c6 o'->0<o'->o'*(s*s)^(j/2)=dd^k->pG B m d j (fun q i A n c B m d w'=>∃j o s:Nat,i=j/\q=j/\j<=k/\0<o/\0<s/\o*s^j=dd^k/\NR w' A n c o/\NR w' B m d s/\Ext w w') (j:Int) A6 n6 c6 w5:=fun w5 A6 n6 c6 o' E5 h6 ho' he'=>by
   unfold pG
   refine aS.mono (pY (hB.ext E5) (hB.ext E5) (by unfold Sn;omega)) ?_
   rintro _ w6 ⟨A7,n7,c7,rfl,hF⟩
   rw[ed,wrap_i64 (by omega) (by omega)]
   exact⟨A7,n7,c7,rfl,j/2,by omega,j/2,o',s*s,rfl,rfl,by omega,ho',Nat.mul_pos hs hs,he',h6.ext hF.ext,hF.nr,(E3.trans E5).trans hF.ext⟩
  have hpow:s^j=s^(j%2)*(s*s)^(j/2):=by
   rw[<-Nat.pow_two,<-Nat.pow_mul,<-Nat.pow_add]
   congr 1
   omega
  refine⟨fun h1=> ?_,fun h1=> ?_⟩
  ·refine aS.mono (pY hA hB (by unfold Sn;omega)) ?_
   rintro _ w4 ⟨A5,n5,c5,rfl,hF⟩
   refine⟨A5,n5,c5,rfl,sq w4 A5 n5 c5 (o*s) hF.ext hF.nr (Nat.mul_pos ho hs) ?_⟩
   rw[hpow,show j%2=1 by omega,Nat.pow_one,<-Nat.mul_assoc] at he
   exact he
  ·refine sq w3 A n c o (Ext.refl w3) hA ho ?_
   rw[hpow,show j%2=0 by omega,Nat.pow_zero,Nat.one_mul] at he
   exact he
 ·have:j=0:=by omega
  subst this
  rw[Nat.pow_zero,Nat.mul_one] at he
  rw[<-he]
  exact⟨E3,hA⟩
theorem aGy (hx:NR w A n c x) (hy:NR w B m d y) (x0:x≠0) (y0:y≠0) (hn:Sh n) (hm:Sh m):Calls P F.Oh #[.slice A n c,.slice B m d] w (aS fun v w'=>∃A n c,v= .slice A n c/\Ext w w'/\NR w' A n c (x.gcd y)):=by
 refine aS.mono (aB6 A n c B m d (fun A n c w'=>Ext w w'/\NR w' A n c (x.gcd y)) w ?_) (by rintro _ w' ⟨A,n,c,rfl,h⟩;exact⟨A,n,c,rfl,h⟩)
 unfold Sh at hn hm
 unfold Lp
 refine aS.mono (aD0 hy y0 (by unfold Sn;omega)) ?_
 rintro _ w ⟨rfl,k,b,rfl,hk,hb⟩
 refine⟨_,_,rfl,?_⟩
 have no:rD A n c (k:Int) w (fun A n c w'=>Ext w w'/\NR w' A n c (x.gcd y)) B m d false:=by
  refine⟨fun h=>(by cases h),fun _=> ?_⟩
  refine⟨fun q A n c B m d w'=>∃a b:Nat,q=b/\a≠0/\a.gcd b=x.gcd y/\NR w' A n c a/\NR w' B m d b/\Sh n/\Sh m/\Ext w w',⟨y,x,y,rfl,x0,rfl,hx,hy,hn,hm,Ext.refl w⟩,?_⟩
  rintro q A n c B m d w1 ⟨a,b,rfl,ha,hg,hA,hB,hn,hm,E⟩
  unfold Sh at hn hm
  have hz:=hB.zero
  refine⟨fun hpos=> ?_,fun hneg=> ?_⟩
  ·have hb0:0<q:=by omega
   refine aS.mono (Xl hA) ?_
   rintro v w2 ⟨D2,h2⟩
   have E2:=E.trans (Ext.aO D2)
   obtain⟨X,B1,rfl,hX⟩:∃(X:Nat) (B1:Bool),v= .tuple #[.int .u64 (X:Int),.bool B1]/\(B1=true->X=a/\a<BB*BB):=by
    rcases h2 with⟨rfl,_,h⟩|⟨rfl,_⟩
    ·exact⟨a,true,rfl,fun _=>⟨rfl,h⟩⟩
    ·exact⟨0,false,rfl,fun h=>by cases h⟩
   refine⟨_,_,rfl,?_⟩
   refine aS.mono (Xl (hB.ext (Ext.aO D2))) ?_
   rintro v w3 ⟨D3,h3⟩
   have E3:=E2.trans (Ext.aO D3)
   have E13:=(Ext.aO D2).trans (Ext.aO D3)
   obtain⟨Y,B2,rfl,hY⟩:∃(Y:Nat) (B2:Bool),v= .tuple #[.int .u64 (Y:Int),.bool B2]/\(B2=true->Y=q/\q<BB*BB):=by
    rcases h3 with⟨rfl,_,h⟩|⟨rfl,_⟩
    ·exact⟨q,true,rfl,fun _=>⟨rfl,h⟩⟩
    ·exact⟨0,false,rfl,fun h=>by cases h⟩
   refine⟨_,_,rfl,?_⟩
   have long:∀b,b=false->rU X Y w3 (fun A n c w'=>Ext w w'/\NR w' A n c (x.gcd y)) A n c B m d q (fun q A n c B m d w'=>∃a b:Nat,q=b/\a≠0/\a.gcd b=x.gcd y/\NR w' A n c a/\NR w' B m d b/\Sh n/\Sh m/\Ext w w') b:=by
    rintro _ rfl
    refine⟨fun h=>(by cases h),fun _=> ?_⟩
    refine aS.mono (aC3 (hA.ext E13) (hB.ext E13) hb0 (by unfold Sn;omega)) ?_
    rintro _ w4 ⟨A4,n4,c4,B4,k4,d4,rfl,hF,hR⟩
    have hmod:a%q<q:=Nat.mod_lt _ hb0
    have hle:k4<=m:=hR.le (Nat.lt_trans hmod hB.lb)
    exact⟨A4,n4,c4,B4,k4,d4,rfl,a%q,hmod,q,a%q,rfl,by omega,by rw[Nat.gcd_comm,<-Nat.gcd_rec,Nat.gcd_comm];exact hg,hB.ext (E13.trans hF.ext),hR,hm,by unfold Sh;omega,E3.trans hF.ext⟩
   refine⟨fun h1=> ?_,fun h1=>long false rfl⟩
   obtain⟨rfl,ha2⟩:=hX h1
   cases B2 with
   |false=>exact long false rfl
   |true=>
    obtain⟨rfl,hb2⟩:=hY rfl
    have hBB:BB*BB=1000000000000000000:=rfl
    refine⟨fun _=> ?_,fun h=>(by cases h)⟩
    refine⟨fun q i j w'=>∃a b:Nat,i=a/\j=b/\q=b/\a<BB*BB/\b<BB*BB/\a.gcd b=x.gcd y/\Ext w w',⟨Y,X,Y,rfl,rfl,rfl,ha2,hb2,hg,E3⟩,?_⟩
    rintro q i j w4 ⟨a,b,rfl,rfl,rfl,la,lb,hg,E4⟩
    refine⟨fun hq=>⟨by omega,fun w5 D5=>⟨a%q,Nat.mod_lt _ (by omega),q,a%q,rfl,(Int.ofNat_tmod a q).symm,rfl,lb,Nat.lt_trans (Nat.mod_lt _ (by omega)) lb,by rw[Nat.gcd_comm,<-Nat.gcd_rec,Nat.gcd_comm];exact hg,E4.trans (Ext.aO D5)⟩⟩,fun hq=> ?_⟩
    have:q=0:=by omega
    subst this
    rw[Nat.gcd_zero_right] at hg
    subst hg
    refine aS.mono (Dy (by omega)) ?_
    rintro _ w6 ⟨A6,n6,c6,rfl,hF⟩
    exact⟨A6,n6,c6,rfl,E4.trans hF.ext,hF.nr⟩
  ·have:q=0:=by omega
   subst this
   rw[Nat.gcd_zero_right] at hg
   rw[<-hg]
   exact⟨E,hA⟩
 refine⟨fun h1=> ?_,fun _=>no⟩
 have hp:=hb h1
 by_cases h2:2<(m:Int)
 ·rw[decide_eq_true h2]
  refine⟨fun _=> ?_,fun h=>(by cases h)⟩
  refine aS.mono (aE2 (dd:=2) hx x0 (by decide) (by decide) (by unfold Sn;omega) (by omega)) ?_
  rintro _ w2 ⟨k2,r2,B2,j2,d2,rfl,E2,_,_,S2⟩
  refine⟨_,B2,j2,d2,rfl,?_⟩
  refine aS.mono (aE2 (dd:=5) (hx.ext E2) x0 (by decide) (by decide) (by unfold Sn;omega) (by omega)) ?_
  rintro _ w3 ⟨k3,r3,B3,j3,d3,rfl,E3,_,_,S3⟩
  refine⟨_,B3,j3,d3,rfl,?_⟩
  have le:∀p a r:Nat,x=p^a*r->Lb (p^a) n:=fun p a r h=>by
   refine hx.lb.le ?_
   have:r≠0:=fun e=>by rw[e,Nat.mul_zero] at h;exact x0 h
   have:p^a*1<=p^a*r:=Nat.mul_le_mul_left _ (by omega)
   omega
  have l2:=le 2 k2 r2 S2.eq
  have l5:=le 5 k3 r3 S3.eq
  have a2:=S2.le
  have a5:=S3.le
  refine aS.mono (aEx (dd:=2) (by decide) (by decide) (by omega) hn l2) ?_
  rintro _ w4 ⟨A6,n6,c6,rfl,E4,h6⟩
  refine⟨A6,n6,c6,rfl,?_⟩
  refine aS.mono (aEx (dd:=5) (by decide) (by decide) (by omega) hn l5) ?_
  rintro _ w5 ⟨A7,n7,c7,rfl,E5,h7⟩
  refine⟨A7,n7,c7,rfl,?_⟩
  have n6:=h6.le l2
  have n7:=h7.le l5
  refine aS.mono (pY (h6.ext E5) h7 (by unfold Sn;omega)) ?_
  rintro _ w6 ⟨A8,n8,c8,rfl,hF⟩
  refine⟨A8,n8,c8,rfl,(((E2.trans E3).trans E4).trans E5).trans hF.ext,?_⟩
  rw[hp,aJj S2 S3]
  exact hF.nr
 ·rw[decide_eq_false h2]
  exact no
end
theorem aE8 {w:World} {s:ByteArray} {e:TypeId} {cap:Nat} {f:Nat×Nat} {j:Nat} {c:UInt8} (h:(bl s)[j]? =some c):(w.drew.alloc (.cells (bytesRow s cap) e f)).cell? ((⟨w.heap.size,0,none⟩:Addr).add (j*1))=some (.int .u8 (c.toNat:Int)):=by
 rw[Nat.mul_one,rJ,Nat.zero_add]
 have e1:(w.drew.alloc (.cells (bytesRow s cap) e f)).heap[w.heap.size]? =some (.cells (bytesRow s cap) e f):=by
  show(w.heap.push _)[w.heap.size]? =_
  simp
 unfold World.cell?
 simp only[e1]
 unfold bytesRow
 have hj:=(List.getElem?_eq_some_iff.1 h).1
 rw[Array.getElem?_append_left (by simpa using hj),Array.getElem?_map,<-Array.getElem?_toList,h]
 rfl
theorem aGt (s:ByteArray) (w:World) (hd:Ls (bl s)) (hs:s.size<=1099511627776):Calls P F.Sj #[.string s] w (aS fun v w'=>∃A n c,v= .slice A n c/\Ext w w'/\NR w' A n c (dv (bl s))):=by
 refine aS.mono (aEo s (fun A n c w'=>Ext w w'/\NR w' A n c (dv (bl s))) w ?_) (by rintro _ w' ⟨A,n,c,rfl,h⟩;exact⟨A,n,c,rfl,h⟩)
 unfold Rx
 refine aS.mono (Pe s w) ?_
 rintro _ w ⟨rfl,rfl⟩
 refine⟨_,rfl,?_⟩
 have hle:=Un (bl s)
 have hdl:=Oc hd
 rw[<-yP (bl s)]
 rw[eY] at hs
 generalize hz:rG (bl s)=l at*
 have hsz:((bs l).size:Int)=l.length:=by rw[eY]
 rw[hsz]
 have hB:BB=1000000000:=rfl
 obtain⟨w2,hr,hO,E⟩:=LR.Qi (w:=w) (n:=l.length/9+1) (by unfold Sn;omega)
 have e9:Int.tdiv (l.length:Int) 9=((l.length/9:Nat):Int):=(Int.ofNat_tdiv l.length 9).symm
 have ecap:IntKind.wrap .i64 (IntKind.wrap .i64 (Int.tdiv (l.length:Int) 9)+1)=((l.length/9+1:Nat):Int):=by
  rw[e9,wrap_i64 (i:=((l.length/9:Nat):Int)) (by omega) (by omega),wrap_i64 (by omega) (by omega)];omega
 rw[ecap]
 refine⟨_,0,_,w2,hr,fun q A n c to w'=>∃o:List Nat,q=to.toNat/\-8<=to/\9*(n:Int)+to=l.length/\LR w' A n c o/\Lo o/\Ext w w'/\(∀b,At A b->w.heap.size<=b)/\nv o+BB^n*dv (l.take to.toNat)=dv l,⟨l.length,[],by simp,by omega,by omega,hO,Lo.nil,E,fun b hb=>by have:=at_new hb;omega,by simp[nv]⟩,?_⟩
 rintro q A n c to w3 ⟨o,rfl,t0,t1,hO,lo,E3,hA,hv⟩
 have hol:=hO.len
 refine⟨fun hpos=> ?_,fun hneg=> ?_⟩
 ·obtain⟨t,rfl⟩:=Int.eq_ofNat_of_zero_le (Int.le_of_lt hpos)
  simp only[Int.toNat_natCast] at*
  have elo:(if 0<IntKind.wrap .i64 ((t:Int)-9) then IntKind.wrap .i64 ((t:Int)-9) else 0)=((t-9:Nat):Int):=by
   rw[wrap_i64 (by omega) (by omega)]
   split<;>omega
  rw[elo]
  have hch:bl ((bs l).extract (t-9) t)=(l.take t).drop (t-9):=by rw[Ci,List.drop_take]
  have hchd:Ls ((l.take t).drop (t-9)):=(hdl.take t).drop _
  have hchl:((l.take t).drop (t-9)).length=t-(t-9):=by rw[List.length_drop,List.length_take];omega
  refine⟨by omega,by omega,by omega,_,_,_,_,run_bytes_of_string (P:=P) w3 T.string T.uF T.uint8 _ (by kernel_rfl) (by kernel_rfl) (by kernel_rfl),?_⟩
  simp only[Int.toNat_natCast]
  have hcs:((bs l).extract (t-9) t).size=t-(t-9):=by rw[eY,hch,hchl]
  rw[hcs]
  have hcell:=fun j ch (hj:((l.take t).drop (t-9))[j]? =some ch)=>aE8 (w:=w3) (s:=(bs l).extract (t-9) t) (e:=T.uint8) (cap:=grownCap w3 ((bs l).extract (t-9) t).size 0 T.uint8) (f:=((bytesRow ((bs l).extract (t-9) t) (grownCap w3 ((bs l).extract (t-9) t).size 0 T.uint8)).size,(bytesRow ((bs l).extract (t-9) t) (grownCap w3 ((bs l).extract (t-9) t).size 0 T.uint8)).size+1)) (j:=j) (c:=ch) (by rw[hch];exact hj)
  rw[hcs] at hcell
  have E4:=aHa w3 (.cells (bytesRow ((bs l).extract (t-9) t) (grownCap w3 (t-(t-9)) 0 T.uint8)) T.uint8 ((bytesRow ((bs l).extract (t-9) t) (grownCap w3 (t-(t-9)) 0 T.uint8)).size,(bytesRow ((bs l).extract (t-9) t) (grownCap w3 (t-(t-9)) 0 T.uint8)).size+1))
  generalize w3.drew.alloc (.cells (bytesRow ((bs l).extract (t-9) t) (grownCap w3 (t-(t-9)) 0 T.uint8)) T.uint8 ((bytesRow ((bs l).extract (t-9) t) (grownCap w3 (t-(t-9)) 0 T.uint8)).size,(bytesRow ((bs l).extract (t-9) t) (grownCap w3 (t-(t-9)) 0 T.uint8)).size+1))=w4 at*
  generalize hc9:(l.take t).drop (t-9)=ch at*
  have hch9:ch.length<=9:=by omega
  refine⟨fun q x i=>q=ch.length-i.toNat/\0<=i/\i<=ch.length/\x=(dv (ch.take i.toNat):Int),⟨ch.length,by simp,by omega,by omega,by simp[dv]⟩,?_⟩
  rintro q x i ⟨rfl,i0,i1,rfl⟩
  obtain⟨j,rfl⟩:=Int.eq_ofNat_of_zero_le i0
  simp only[Int.toNat_natCast]
  refine⟨fun hlt=> ?_,fun hge p w5 hN=> ?_⟩
  ·have hj:j<ch.length:=by omega
   have hcj:ch[j]? =some ch[j]:=List.getElem?_eq_getElem hj
   have hdg:=hchd _ (List.getElem_mem hj)
   refine⟨by omega,hlt,_,rfl,_,hcell j _ hcj,ch.length-(j+1),by omega,?_⟩
   rw[wrap_i64 (by omega) (by omega),show((j:Int)+1).toNat=j+1 by omega]
   refine⟨rfl,by omega,by omega,?_⟩
   have hs1:dv (ch.take (j+1))=dv (ch.take j)*10+dg ch[j]:=by rw[List.take_succ,hcj,Option.toList_some,aGa]
   have hlt8:dv (ch.take j)<10^8:=Nat.lt_of_lt_of_le (Xp (hchd.take j)) (Nat.pow_le_pow_right (by decide) (by rw[List.length_take];omega))
   have hd1:=hdg.1
   have hd2:=hdg.2
   have e8:IntKind.wrap .u8 ((ch[j].toNat:Int)-48)=((dg ch[j]:Nat):Int):=by
    unfold dg
    simp only[IntKind.wrap,IntKind.bits,IntKind.signed]
    simp
    omega
   have hdl:=hdg.lt
   rw[hs1,e8,wrap_u32 (i:=((dg ch[j]:Nat):Int)) (by omega) (by omega),wrap_u32 (i:=(dv (ch.take j):Int)*10) (by omega) (by omega),wrap_u32 (by omega) (by omega)]
   omega
  ·have hj:j=ch.length:=by omega
   subst hj
   rw[List.take_length] at hN
   obtain⟨A5,c5,w6,hr6,hR,E6,hA6⟩:=(hO.ext E4).push (w0:=w) hA (E3.trans E4) (w1:=w5) (d:=dv ch) (p:=p) hN (by unfold Sn;omega)
   rw[wrap_i64 (by omega) (by omega)]
   refine⟨A5,n+1,c5,w6,hr6,((t:Int)-9).toNat,by omega,o++[dv ch],rfl,by omega,by omega,hR,lo.append (Lo.cons (aEl hchd hch9) Lo.nil),E6,hA6,?_⟩
   rcases Nat.lt_or_ge t 9 with h9|h9
   ·rw[show((t:Int)-9).toNat=0 by omega,List.take_zero]
    have h0:dv []=0:=rfl
    rw[h0,Nat.mul_zero,Nat.add_zero]
    rw[show t-9=0 by omega,List.drop_zero] at hc9
    rw[<-hc9]
    exact aCm hol hv
   ·rw[show((t:Int)-9).toNat=t-9 by omega]
    exact aCn hol h9 (by omega) hv (by rw[hc9])
 ·have h0:to.toNat=0:=by omega
  rw[h0,List.take_zero] at hv
  have:dv []=0:=rfl
  rw[this,Nat.mul_zero,Nat.add_zero] at hv
  refine aS.mono (Ut hO lo (by unfold Sn;omega)) ?_
  rintro _ w7 ⟨rfl,m,rfl,_,hN⟩
  rw[hv] at hN
  exact⟨A,m,c,rfl,E3,hN⟩
theorem Zg:∀(l:List Nat) (x:Nat),yT (l++[x])=Zr x 9++yT l
 |[],x=>by simp[yT]
 |y::l,x=>by simp[yT,Zg l x]
theorem Zk {w:World} {A:Option Addr} {n c x:Nat} (h:NR w A n c x) (hn:Sh n):Calls P F.rM #[.slice A n c] w (aS fun v w'=>∃t,v= .string t/\Ext w w'/\wZ (bl t) x/\t.size<=9*n+1):=by
 have hz:=h.zero
 obtain⟨l,hL,lim,rfl⟩:=h
 refine aS.mono (Yb A n c (fun t w'=>Ext w w'/\wZ (bl t) (nv l)/\t.size<=9*n+1) w ?_) (by rintro _ w' ⟨t,rfl,h⟩;exact⟨t,rfl,h⟩)
 unfold Sh at hn
 have hl:=hL.len
 unfold zN
 refine⟨fun h0=> ?_,fun hne=> ?_⟩
 ·have:nv l=0:=hz.1 (by omega)
  rw[this]
  have h1:(⟨#[48]⟩:ByteArray).size=1:=rfl
  exact⟨Ext.refl w,⟨by simp,fun c hc=>by simp at hc;subst hc;exact⟨by decide,by decide⟩,.inl rfl,rfl⟩,by omega⟩
 have hne':l≠[]:=fun e=>by rw[e] at hl;simp at hl;omega
 obtain⟨w1,hr,hO1,E1⟩:=KR.make (w:=w) (t:=T.uF) (e:=T.uint8) (k:= .u8) (b:=1) (n:=n*9) (by kernel_rfl) (by kernel_rfl) (by kernel_rfl) (by decide) (by unfold Sn;omega)
 have ew:IntKind.wrap .i64 ((n:Int)*9)=((n*9:Nat):Int):=by rw[wrap_i64 (by omega) (by omega)];omega
 rw[ew]
 refine⟨_,n*9,n*9,w1,hr,fun q at_ i w'=>∃j:Nat,∃os:List UInt8,i=j/\q=n-j/\j<=n/\at_=((n*9-9*j:Nat):Int)/\KR T.uint8 .u8 w' (some ⟨w.heap.size,0,none⟩) (n*9) (n*9) (os.map (·.toNat))/\os.drop (n*9-9*j)=yT (l.take j)/\Ext w w',⟨n,0,List.replicate (n*9) 0,rfl,by omega,by omega,by simp,by simpa using hO1,by simp[yT],E1⟩,?_⟩
 rintro q at_ i w2 ⟨j,os,rfl,rfl,hj,rfl,hO,hd,E2⟩
 have hol:=hO.len
 rw[List.length_map] at hol
 refine⟨fun hlt=> ?_,fun hge=> ?_⟩
 ·obtain⟨ad,hA,hv,hc,_⟩:=(hL.ext E2).at_ (i:=(j:Int)) (by omega) (by omega)
  simp only[Int.toNat_natCast] at hv hc
  have hgl:=lim.lo.lg j
  have hB:BB=1000000000:=rfl
  refine⟨by omega,hlt,ad,hA,_,hc,fun q at_ x i w'=>∃m:Nat,∃os:List UInt8,i=m/\q=9-m/\m<=9/\at_=((n*9-9*j-m:Nat):Int)/\x=((lg l j/10^m:Nat):Int)/\KR T.uint8 .u8 w' (some ⟨w.heap.size,0,none⟩) (n*9) (n*9) (os.map (·.toNat))/\os.drop (n*9-9*j-m)=Zr (lg l j) m++yT (l.take j)/\Ext w w',⟨9,0,os,rfl,rfl,by omega,by simp,by simp,hO,by simpa [Zr] using hd,E2⟩,?_⟩
  rintro q at_ x i w3 ⟨m,os,rfl,rfl,hm,rfl,rfl,hO,hd,E3⟩
  have hol:=hO.len
  rw[List.length_map] at hol
  refine⟨fun h9=> ?_,fun h9=> ?_⟩
  ·have em:IntKind.wrap .i64 (((n*9-9*j-m:Nat):Int)-1)=((n*9-9*j-(m+1):Nat):Int):=by rw[wrap_i64 (by omega) (by omega)];omega
   rw[em]
   simp only[Int.toNat_natCast]
   obtain⟨a2,ha2,_,hc2,hf2⟩:=hO.at_ (i:=((n*9-9*j-(m+1):Nat):Int)) (by omega) (by omega)
   simp only[Int.toNat_natCast] at hc2 hf2
   refine⟨by omega,by omega,a2,ha2,⟨_,hc2⟩,hf2,fun w4 hw4=> ?_⟩
   have hq:lg l j/10^m<BB:=Nat.lt_of_le_of_lt (Nat.div_le_self _ _) hgl
   have ev:IntKind.wrap .u8 (IntKind.wrap .u32 (48+Int.tmod ((lg l j/10^m:Nat):Int) 10))=((Ub (lg l j) m).toNat:Int):=by
    have e1:Int.tmod ((lg l j/10^m:Nat):Int) 10=((lg l j/10^m%10:Nat):Int):=(Int.ofNat_tmod _ 10).symm
    have hlt10:lg l j/10^m%10<10:=Nat.mod_lt _ (by decide)
    have e2:(Ub (lg l j) m).toNat=48+lg l j/10^m%10:=by
     unfold Ub
     rw[UInt8.toNat_ofNat']
     exact Nat.mod_eq_of_lt (by omega)
    rw[e1,e2,wrap_u32 (by omega) (by omega)]
    simp only[IntKind.wrap,IntKind.bits,IntKind.signed]
    simp
    omega
   rw[ev] at hw4
   obtain⟨hO4,hK4⟩:=hO.put ha2 (j:=n*9-9*j-(m+1)) (d:=(Ub (lg l j) m).toNat) (by omega) hw4
   have ed:Int.tdiv ((lg l j/10^m:Nat):Int) 10=((lg l j/10^(m+1):Nat):Int):=by
    rw[Nat.pow_succ,<-Nat.div_div_eq_div_mul]
    exact(Int.ofNat_tdiv _ 10).symm
   have hq2:lg l j/10^(m+1)<BB:=Nat.lt_of_le_of_lt (Nat.div_le_self _ _) hgl
   rw[ed,wrap_u32 (Int.natCast_nonneg _) (Int.lt_of_lt_of_le (Int.ofNat_lt.2 hq2) (by decide)),wrap_i64 (i:=(m:Int)+1) (by omega) (by omega)]
   refine⟨9-(m+1),by omega,m+1,os.set (n*9-9*j-(m+1)) (Ub (lg l j) m),rfl,rfl,by omega,rfl,rfl,?_,?_,E3.over hK4 fun i hi ha=> ?_⟩
   ·rw[List.map_set];exact hO4
   ·have hlt:n*9-9*j-(m+1)<(os.set (n*9-9*j-(m+1)) (Ub (lg l j) m)).length:=by rw[List.length_set];omega
    rw[List.drop_eq_getElem_cons hlt,List.getElem_set_self,List.drop_set_of_lt (by omega),show n*9-9*j-(m+1)+1=n*9-9*j-m by omega,hd]
    rfl
   ·have:=at_new ha;omega
  ·have hm9:m=9:=by omega
   subst hm9
   rw[wrap_i64 (by omega) (by omega)]
   refine⟨n-(j+1),by omega,j+1,os,rfl,rfl,by omega,by omega,hO,?_,E3⟩
   rw[show n*9-9*(j+1)=n*9-9*j-9 by omega,hd,List.take_succ,hv,Option.toList_some,Zg]
 ·have hj:j=n:=by omega
  subst hj
  rw[show j*9-9*j=0 by omega,List.drop_zero,<-hl,List.take_length] at hd
  subst hd
  have hcv:=run_convert_bytes_back (P:=P) w2 T.uF T.string T.uint8 ⟨w.heap.size,0,none⟩ (j*9) (yT l) (by kernel_rfl) (by kernel_rfl) (by kernel_rfl) (fun k hk=>by
   obtain⟨a2,ha2,hv2,hc2,_⟩:=hO.at_ (i:=(k:Int)) (by omega) (by omega)
   cases ha2
   simp only[Int.toNat_natCast,Nat.mul_one] at hv2 hc2
   rw[hc2]
   rw[List.getElem?_map,List.getElem?_eq_getElem hk,Option.map_some,Option.some.injEq] at hv2
   rw[<-hv2])
  rw[aBb,hl,show 9*j=j*9 by omega] at hcv
  refine⟨_,hcv,?_⟩
  refine aS.mono (Pe _ w2) ?_
  rintro _ w5 ⟨rfl,rfl⟩
  refine⟨_,rfl,E2,aEq lim hne',?_⟩
  rw[eY]
  have:=Un (yT l)
  rw[aBb] at this
  show(rG (yT l)).length<=_
  omega
def mQ (k1:Nat) (I1:Nat->Int->Prop) (x1:Int) (c1:Nat) (K:Option Addr->Nat->Nat->World->Prop) (A1:Option Addr) (w:World) (b1:Bool):Prop:=
 (b1=true->(∃k2,k2<k1/\I1 k2 (IntKind.wrap .i64 (x1-1))))/\(b1=false->(0<=x1/\x1<=(c1:Int)/\K A1 x1.toNat c1 w))
def xA (A1:Option Addr) (n1 c1:Nat) (K:Option Addr->Nat->Nat->World->Prop) (w:World):Prop:=
 ∃I1:Nat->Int->Prop,(∃k1,I1 k1 (n1:Int))/\∀k1 (x1:Int),I1 k1 x1->((0<x1->(0<=IntKind.wrap .i64 (x1-1)/\IntKind.wrap .i64 (x1-1)<(n1:Int)/\∃a1,A1=some a1/\∃x2,w.cell? (a1.add ((IntKind.wrap .i64 (x1-1)).toNat*1))=some (.int .i64 x2)/\(mQ k1 I1 x1 c1 K A1 w) (decide (x2=0))))/\(¬(0<x1)->((mQ k1 I1 x1 c1 K A1 w) false)))
theorem Vt (A1:Option Addr) (n1 c1:Nat) (K:Option Addr->Nat->Nat->World->Prop) (w:World) (H:xA A1 n1 c1 K w):Calls P F.iY #[.slice A1 n1 c1] w (aS fun v w'=>∃A2 n2 c2,v=(.slice A2 n2 c2)/\K A2 n2 c2 w'):=by
 unfold xA at H;refine aY (P:=P) Tryz.func233 rfl [(0,.slice A1 n1 c1)] 21 rfl rfl (fun p hp=>by rcases List.mem_singleton.1 hp with rfl;rfl) (aB (aA (ag rfl (aC (nc (kp 0 rfl zz) (aB (aA (mv rfl (sv rfl rfl (xb rfl (fun _=>bD TF.bT)) (ag rfl (aC (nc (y2 0 3 rfl) (aB (aV ?_))))))))))))));obtain⟨I1,⟨k1,hi⟩,H⟩:=H;refine lC (fun k1 a=>∃x1,Ok 21 [(0,.slice A1 n1 c1),(3,.int .i64 x1)] a/\I1 k1 x1) (fun a ha=>⟨k1,(n1:Int),ha.weaken cs,hi⟩) ?_;rintro k1 a ⟨x1,ha,hI⟩;replace H:=H k1 x1 hI;refine cu ha ?_;refine aB ?_;refine bK (fun a=>∃b1,Ok 21 [(0,.slice A1 n1 c1),(3,.int .i64 x1),(15,.bool b1)] a/\mQ k1 I1 x1 c1 K A1 w b1) ?_ ?_
 ·rintro a ⟨b1,ha,H⟩;unfold mQ at H;refine cu ha ?_;refine dG rfl (fun hb=> ?_) (fun hb=> ?_)
  ·replace H:=H.1 hb;refine aN (nc (y2 0 3 rfl) (aV (aA (mv rfl (bo rfl rfl jB (ag rfl (aC (bQ ?_))))))));obtain⟨k2,hk,H⟩:=H;exact aT fun a ha=>⟨k2,hk,⟨IntKind.wrap .i64 (x1-1),ha.weaken cs,H⟩,rfl⟩
  ·replace H:=H.2 hb;refine bW (aH (aH (aZ (nc (y2 0 3 rfl) (aB (aA (mv rfl (mv rfl ?_))))))));obtain⟨h4,h5,H⟩:=H;exact sv rfl rfl (fun a ha=>qR (ha.ev rfl) rfl (qA (ha.ev rfl)) rfl (Ht TF.fU TF.size_int h4 h5)) (ag rfl (aC (nc (kp 2 rfl zz) (aW (aG (res1 rfl rfl) ⟨_,rfl,_,_,_,rfl,H⟩)))))
 ·refine aA (mv rfl (bo rfl rfl kF ?_));rcases Classical.em (0<x1) with hb|hb
  ·replace H:=H.1 hb;refine sv rfl rfl (xt rfl hb) (Kw rfl rfl rfl (Kw rfl rfl rfl (Uu rfl rfl rfl rfl jB ?_)));obtain⟨h1,h2,a1,e1,H⟩:=H;refine ixg rfl rfl rfl rfl (bG TF.fU TF.size_int e1 h1 h2) ?_;obtain⟨x2,h3,H⟩:=H;exact ldg rfl rfl rfl (aJ TF.kL h3) (Uu rfl rfl rfl rfl nN (pt rfl rfl (aC (aT fun a ha=>⟨⟨(decide (x2=0)),ha.weaken cs,H⟩,rfl⟩))))
  ·replace H:=H.2 hb;exact sv rfl rfl (xf rfl hb) (sk rfl rfl rfl rfl (sk rfl rfl rfl rfl (sk rfl rfl rfl rfl (sk rfl rfl rfl rfl (sk rfl rfl rfl rfl (sk rfl rfl rfl rfl (pf rfl rfl (aC (aT fun a ha=>⟨⟨false,ha.weaken cs,H⟩,rfl⟩)))))))))
def jV (x1:Int) (s1:ByteArray) (w2:World) (A3:Option Addr) (n3 c3:Nat) (k1:Nat) (I1:Nat->Option Addr->Nat->Nat->Int->World->Prop) (x2:Int):Prop:=
 ∃I2:Nat->Int->Int->Prop,(∃k2,I2 k2 0 x2)/\∀k2 (x3:Int) (x4:Int),I2 k2 x3 x4->((x4<x1->(0<=x4/\x4<(s1.size:Int)/\∃k3,k3<k2/\I2 k3 (IntKind.wrap .i64 ((IntKind.wrap .i64 (x3*10))+(IntKind.wrap .i64 (IntKind.wrap .u8 ((byteAt s1 x4)-48))))) (IntKind.wrap .i64 (x4+1))))/\(¬(x4<x1)->(∀(p1:Addr) (w3:World),New w2 (.cells #[.int .i64 x3] T.int) p1 w3->(∃(A4:Option Addr) (n4 c4:Nat) (w4:World),(Builtin.append_ #[T.kK,T.kK] T.kK #[.slice A3 n3 c3,.slice (some p1) 1 1]).run P w3= .ok (.slice A4 n4 c4) w4/\(∃k4,k4<k1/\I1 k4 A4 n4 c4 (IntKind.wrap .i64 (x1-9)) w4)))))
def vK (s1:ByteArray) (K:Option Addr->Nat->Nat->World->Prop) (w:World):Prop:=
 ∃(A2:Option Addr) (n2 c2:Nat) (w1:World),(Instr.makeSlice T.kK (.int .i64 0) (.int .i64 0)).run P w= .ok (.slice A2 n2 c2) w1/\(∃I1:Nat->Option Addr->Nat->Nat->Int->World->Prop,(∃k1,I1 k1 A2 n2 c2 (s1.size:Int) w1)/\∀k1 (A3:Option Addr) (n3 c3:Nat) (x1:Int) (w2:World),I1 k1 A3 n3 c3 x1 w2->((0<x1->(((IntKind.wrap .i64 (x1-9))<0->((jV x1 s1 w2 A3 n3 c3 k1 I1) 0))/\(¬((IntKind.wrap .i64 (x1-9))<0)->((jV x1 s1 w2 A3 n3 c3 k1 I1) (IntKind.wrap .i64 (x1-9))))))/\(¬(0<x1)->(Calls P F.iY #[.slice A3 n3 c3] w2 (aS fun v1 w5=>∃A5 n5 c5,v1=(.slice A5 n5 c5)/\K A5 n5 c5 w5)))))
theorem Rz (s1:ByteArray) (K:Option Addr->Nat->Nat->World->Prop) (w:World) (H:vK s1 K w):Calls P F.qB #[.string s1] w (aS fun v w'=>∃A1 n1 c1,v=(.slice A1 n1 c1)/\K A1 n1 c1 w'):=by
 unfold vK at H;refine aY (P:=P) Tryz.func230 rfl [(0,.string s1)] 39 rfl rfl (fun p hp=>by rcases List.mem_singleton.1 hp with rfl;rfl) (aB (aA (ag rfl (aC (nc (kp 0 rfl zz) (aB (aA ?_)))))));obtain⟨A2,n2,c2,w1,h1,H⟩:=H;refine sv rfl rfl (fun a ha=>gB (ha.ev rfl) (ha.ev rfl) h1) (ag rfl (aC (nc (y2 0 3 rfl) (aB (aB (aA (mv rfl (sv rfl rfl (xb rfl (fun _=>Nv TF.dQ)) (ag rfl (aC (nc (y3 0 3 4 rfl) (aV ?_))))))))))));obtain⟨I1,⟨k1,hi⟩,H⟩:=H;refine dM (fun k1 a w'=>∃A3 n3 c3,∃x1,Ok 39 [(0,.string s1),(3,.slice A3 n3 c3),(4,.int .i64 x1)] a/\I1 k1 A3 n3 c3 x1 w') (fun a ha=>⟨k1,A2,n2,c2,(s1.size:Int),ha.weaken cs,hi⟩) ?_;rintro k1 a w2 ⟨A3,n3,c3,x1,ha,hI⟩;replace H:=H k1 A3 n3 c3 x1 w2 hI;refine cu ha ?_;refine aB (aB (aA (mv rfl (bo rfl rfl kF (aC (nc (y4 0 3 4 12 rfl) ?_))))));refine aK rfl (fun hb=> ?_) (fun hb=> ?_)
 ·replace H:=H.1 hb;refine aN (nc (y3 0 3 4 rfl) (aB (aV (aB (aA (mv rfl (bo rfl rfl jB (ag rfl (aC (nc (y4 0 3 4 5 rfl) ?_))))))))));refine bK (fun a=>∃x2,Ok 39 [(0,.string s1),(3,.slice A3 n3 c3),(4,.int .i64 x1),(5,.int .i64 x2)] a/\jV x1 s1 w2 A3 n3 c3 k1 I1 x2) ?_ ?_
  ·rintro a ⟨x2,ha,H⟩;unfold jV at H;refine cu ha ?_;refine aB (aA (ag rfl (aC (nc (y5 0 3 4 5 6 rfl) (aB (aB (aA (mv rfl (ag rfl (aC (nc (y5 0 3 4 6 7 rfl) (aV ?_))))))))))));obtain⟨I2,⟨k2,hi⟩,H⟩:=H;refine lC (fun k2 a=>∃x3,∃x4,Ok 39 [(0,.string s1),(3,.slice A3 n3 c3),(4,.int .i64 x1),(6,.int .i64 x3),(7,.int .i64 x4)] a/\I2 k2 x3 x4) (fun a ha=>⟨k2,0,x2,ha.weaken cs,hi⟩) ?_;rintro k2 a ⟨x3,x4,ha,hI⟩;replace H:=H k2 x3 x4 hI;refine cu ha ?_;refine aB (aB (aA (mv rfl (mv rfl (bo rfl rfl fO (aC (nc (y6 0 3 4 6 7 22 rfl) ?_)))))));refine aK rfl (fun hb=> ?_) (fun hb=> ?_)
   ·replace H:=H.1 hb;refine aN (nc (y5 0 3 4 6 7 rfl) (aB (aV (aA (mv rfl (bo rfl rfl Aq (mv rfl (mv rfl ?_))))))));obtain⟨h3,h4,H⟩:=H;refine sv rfl rfl (fun a ha=>Om (ha.ev rfl) (ha.ev rfl) (Xe TF.dQ h3 h4)) (bo rfl rfl jB (sv rfl rfl (fun a ha=>dB (ha.ev rfl) (iC TF.Va TF.aAt)) (bo rfl rfl dJ (ag rfl (aC (bQ (nc (y5 0 3 4 6 7 rfl) (aA (mv rfl (bo rfl rfl dJ (ag rfl (aC ?_))))))))))));obtain⟨k3,hk,H⟩:=H;exact aT fun a ha=>⟨k3,hk,⟨IntKind.wrap .i64 ((IntKind.wrap .i64 (x3*10))+(IntKind.wrap .i64 (IntKind.wrap .u8 ((byteAt s1 x4)-48)))),IntKind.wrap .i64 (x4+1),ha.weaken cs,H⟩,rfl⟩
   ·replace H:=H.2 hb;refine bW (aH (aH (aZ (nc (y4 0 3 4 6 rfl) (aA (mv rfl (mv rfl (sz rfl rfl (xl 1 1 (.cells #[.int .i64 x3] T.int) rfl) ?_))))))));intro p1 w3 hN;obtain⟨A4,n4,c4,w4,h5,H⟩:=H _ _ hN;refine sv rfl rfl (xb rfl (fun _=>kG h5)) (ag rfl (aC (bQ (nc (y3 0 3 4 rfl) (aA (mv rfl (bo rfl rfl jB (ag rfl (aC ?_)))))))));obtain⟨k4,hk,H⟩:=H;exact aT fun a ha=>⟨k4,hk,A4,n4,c4,IntKind.wrap .i64 (x1-9),ha.weaken cs,H⟩
  ·refine aB (aA (mv rfl (bo rfl rfl fO (aC (nc (y5 0 3 4 5 18 rfl) ?_)))));refine aK rfl (fun hb=> ?_) (fun hb=> ?_)
   ·replace H:=H.1 hb;exact aA (ag rfl (aC (aT fun a ha=>⟨⟨0,ha.weaken cs,H⟩,rfl⟩)))
   ·replace H:=H.2 hb;exact aN (aT fun a ha=>⟨⟨IntKind.wrap .i64 (x1-9),ha.weaken cs,H⟩,rfl⟩)
 ·replace H:=H.2 hb;refine bW (aH (aH (aZ (nc (kp 3 rfl zz) (aB (aA (mv rfl (sc rfl rfl FF.gZ H ?_))))))));rintro _ w5 ⟨A5,n5,c5,rfl,H⟩;exact ag rfl (aC (nc (kp 2 rfl zz) (aW (aG (res1 rfl rfl) ⟨_,rfl,_,_,_,rfl,H⟩))))
def sS (A1:Option Addr) (n1 c1:Nat) (K:ByteArray->World->Prop) (w:World):Prop:=
 ((n1:Int)=0->(K ⟨#[48]⟩ w))/\(¬((n1:Int)=0)->(∃(A2:Option Addr) (n2 c2:Nat) (w1:World),(Instr.makeSlice T.uF (.int .i64 (IntKind.wrap .i64 (9*(n1:Int)))) (.int .i64 (IntKind.wrap .i64 (9*(n1:Int))))).run P w= .ok (.slice A2 n2 c2) w1/\(∃I1:Nat->Int->World->Prop,(∃k1,I1 k1 0 w1)/\∀k1 (x1:Int) (w2:World),I1 k1 x1 w2->((x1<(n1:Int)->(0<=x1/\x1<(n1:Int)/\∃a1,A1=some a1/\∃x2,w2.cell? (a1.add (x1.toNat*1))=some (.int .i64 x2)/\∃I2:Nat->Int->Int->World->Prop,(∃k2,I2 k2 x2 0 w2)/\∀k2 (x3:Int) (x4:Int) (w3:World),I2 k2 x3 x4 w3->((x4<9->(0<=IntKind.wrap .i64 ((IntKind.wrap .i64 ((IntKind.wrap .i64 ((n2:Int)-1))-(IntKind.wrap .i64 (9*x1))))-x4)/\IntKind.wrap .i64 ((IntKind.wrap .i64 ((IntKind.wrap .i64 ((n2:Int)-1))-(IntKind.wrap .i64 (9*x1))))-x4)<(n2:Int)/\∃a2,A2=some a2/\(∃u1,w3.cell? (a2.add ((IntKind.wrap .i64 ((IntKind.wrap .i64 ((IntKind.wrap .i64 ((n2:Int)-1))-(IntKind.wrap .i64 (9*x1))))-x4)).toNat*1))=some u1)/\w3.frozen? (a2.add ((IntKind.wrap .i64 ((IntKind.wrap .i64 ((IntKind.wrap .i64 ((n2:Int)-1))-(IntKind.wrap .i64 (9*x1))))-x4)).toNat*1))=false/\∀w4,w4=w3.setCell (a2.add ((IntKind.wrap .i64 ((IntKind.wrap .i64 ((IntKind.wrap .i64 ((n2:Int)-1))-(IntKind.wrap .i64 (9*x1))))-x4)).toNat*1)) (.int .u8 (IntKind.wrap .u8 (IntKind.wrap .i64 (48+(Int.tmod x3 10)))))->(∃k3,k3<k2/\I2 k3 (IntKind.wrap .i64 (Int.tdiv x3 10)) (IntKind.wrap .i64 (x4+1)) w4)))/\(¬(x4<9)->(∃k4,k4<k1/\I1 k4 (IntKind.wrap .i64 (x1+1)) w3)))))/\(¬(x1<(n1:Int))->(∃I3:Nat->Int->Prop,(∃k5,I3 k5 0)/\∀k5 (x5:Int),I3 k5 x5->(0<=x5/\x5<(n2:Int)/\∃a3,A2=some a3/\∃x6,w2.cell? (a3.add (x5.toNat*1))=some (.int .u8 x6)/\(x6=48->(∃k6,k6<k5/\I3 k6 (IntKind.wrap .i64 (x5+1))))/\(¬(x6=48)->(0<=x5/\x5<=(n2:Int)/\∃s2:ByteArray,(convert T.uF T.string (.slice (xC A2 c2 (x5.toNat) 1) (n2-x5.toNat) (c2-x5.toNat))).run P w2= .ok (.string s2) w2/\K s2 w2)))))))))
theorem Ot (A1:Option Addr) (n1 c1:Nat) (K:ByteArray->World->Prop) (w:World) (H:sS A1 n1 c1 K w):Calls P F.mO #[.slice A1 n1 c1] w (aS fun v w'=>∃s1:ByteArray,v=(.string s1)/\K s1 w'):=by
 unfold sS at H;refine aY (P:=P) Tryz.func194 rfl [(0,.slice A1 n1 c1)] 56 rfl rfl (fun p hp=>by rcases List.mem_singleton.1 hp with rfl;rfl) (aB (aA (ag rfl (aC (nc (kp 0 rfl zz) (aB (aB (aA (mv rfl (sv rfl rfl (xb rfl (fun _=>bD TF.bT)) (bo rfl rfl nN (aC (nc (y2 0 10 rfl) ?_)))))))))))));refine aK rfl (fun hb=> ?_) (fun hb=> ?_)
 ·replace H:=H.1 hb;exact aB (aA (ag rfl (aC (nc (kp 2 rfl zz) (aW (aI (aG (res1 rfl rfl) ⟨_,rfl,_,rfl,H⟩)))))))
 ·replace H:=H.2 hb;refine aN (nc (kp 0 rfl zz) (aB (aA (mv rfl (sv rfl rfl (xb rfl (fun _=>bD TF.bT)) (bo rfl rfl Aq ?_))))));obtain⟨A2,n2,c2,w1,h1,H⟩:=H;refine sv rfl rfl (fun a ha=>gB (ha.ev rfl) (ha.ev rfl) h1) (ag rfl (aC (nc (y2 0 3 rfl) (aB (aB (aA (ag rfl (aC (nc (y3 0 3 4 rfl) (aV ?_))))))))));obtain⟨I1,⟨k1,hi⟩,H⟩:=H;refine dM (fun k1 a w'=>∃x1,Ok 56 [(0,.slice A1 n1 c1),(3,.slice A2 n2 c2),(4,.int .i64 x1)] a/\I1 k1 x1 w') (fun a ha=>⟨k1,0,ha.weaken cs,hi⟩) ?_;rintro k1 a w2 ⟨x1,ha,hI⟩;replace H:=H k1 x1 w2 hI;refine cu ha ?_;refine aB (aB (aA (mv rfl (mv rfl (sv rfl rfl (xb rfl (fun _=>bD TF.bT)) (bo rfl rfl fO (aC (nc (y4 0 3 4 18 rfl) ?_))))))));refine aK rfl (fun hb=> ?_) (fun hb=> ?_)
  ·replace H:=H.1 hb;refine aN (nc (y3 0 3 4 rfl) (aB (aV (aB (aA (mv rfl (mv rfl ?_)))))));obtain⟨h2,h3,a1,e1,H⟩:=H;refine ix rfl rfl (bG TF.fU TF.size_int e1 h2 h3) ?_;obtain⟨x2,h4,H⟩:=H;refine ld rfl (aJ TF.kL h4) (ag rfl (aC (nc (y4 0 3 4 5 rfl) (aB (aA (ag rfl (aC (nc (y5 0 3 4 5 6 rfl) (aV ?_)))))))));obtain⟨I2,⟨k2,hi⟩,H⟩:=H;refine dM (fun k2 a w'=>∃x3,∃x4,Ok 56 [(0,.slice A1 n1 c1),(3,.slice A2 n2 c2),(4,.int .i64 x1),(5,.int .i64 x3),(6,.int .i64 x4)] a/\I2 k2 x3 x4 w') (fun a ha=>⟨k2,x2,0,ha.weaken cs,hi⟩) ?_;rintro k2 a w3 ⟨x3,x4,ha,hI⟩;replace H:=H k2 x3 x4 w3 hI;refine cu ha ?_;refine aB (aB (aA (mv rfl (bo rfl rfl fO (aC (nc (y6 0 3 4 5 6 26 rfl) ?_))))));refine aK rfl (fun hb=> ?_) (fun hb=> ?_)
   ·replace H:=H.1 hb;refine aN (nc (y5 0 3 4 5 6 rfl) (aB (aV (aB (aA (mv rfl (mv rfl (sv rfl rfl (xb rfl (fun _=>bD TF.Cj)) (bo rfl rfl jB (mv rfl (bo rfl rfl Aq (bo rfl rfl jB (mv rfl (bo rfl rfl jB (mv rfl (bo rfl rfl (Gt (by decide)) (bo rfl rfl dJ (sv rfl rfl (fun a ha=>dB (ha.ev rfl) (iC TF.aAt TF.Va)) ?_))))))))))))))))));obtain⟨h5,h6,a2,e2,H⟩:=H;refine ix rfl rfl (bG TF.xM TF.yD e2 h5 h6) ?_;obtain⟨⟨u1,h7⟩,h8,H⟩:=H;refine gX rfl (aF rfl) (xs rfl rfl (fE TF.yD rfl rfl h7 h8)) ?_;intro w4 hw;replace H:=H _ hw;clear hw;refine aC (nc (y5 0 3 4 5 6 rfl) (aA (mv rfl (bo rfl rfl (Ai (by decide)) (ag rfl (aC (bQ (nc (y5 0 3 4 5 6 rfl) (aA (mv rfl (bo rfl rfl dJ (ag rfl (aC ?_)))))))))))));obtain⟨k3,hk,H⟩:=H;exact aT fun a ha=>⟨k3,hk,IntKind.wrap .i64 (Int.tdiv x3 10),IntKind.wrap .i64 (x4+1),ha.weaken cs,H⟩
   ·replace H:=H.2 hb;refine bW (aH (aH (aZ (bQ (nc (y3 0 3 4 rfl) (aA (mv rfl (bo rfl rfl dJ (ag rfl (aC ?_))))))))));obtain⟨k4,hk,H⟩:=H;exact aT fun a ha=>⟨k4,hk,IntKind.wrap .i64 (x1+1),ha.weaken cs,H⟩
  ·replace H:=H.2 hb;refine bW (aH (aH (aZ (nc (kp 3 rfl zz) (aB (aA (ag rfl (aC (nc (y2 3 7 rfl) (aB (aV ?_)))))))))));obtain⟨I3,⟨k5,hi⟩,H⟩:=H;refine lC (fun k5 a=>∃x5,Ok 56 [(3,.slice A2 n2 c2),(7,.int .i64 x5)] a/\I3 k5 x5) (fun a ha=>⟨k5,0,ha.weaken cs,hi⟩) ?_;rintro k5 a ⟨x5,ha,hI⟩;replace H:=H k5 x5 hI;refine cu ha ?_;refine aB (aB (aA (mv rfl (mv rfl ?_))));obtain⟨h9,h10,a3,e3,H⟩:=H;refine ix rfl rfl (bG TF.xM TF.yD e3 h9 h10) ?_;obtain⟨x6,h11,H⟩:=H;refine ld rfl (aJ TF.aCg h11) (bo rfl rfl nN (aC (nc (y3 3 7 49 rfl) ?_)));refine aK rfl (fun hb=> ?_) (fun hb=> ?_)
   ·replace H:=H.1 hb;refine aN (nc (y2 3 7 rfl) (aV (aA (mv rfl (bo rfl rfl dJ (ag rfl (aC (bQ ?_))))))));obtain⟨k6,hk,H⟩:=H;exact aT fun a ha=>⟨k6,hk,⟨IntKind.wrap .i64 (x5+1),ha.weaken cs,H⟩,rfl⟩
   ·replace H:=H.2 hb;refine bW (aH (aH (aZ (nc (y2 3 7 rfl) (aB (aA (mv rfl (mv rfl ?_))))))));obtain⟨h12,h13,H⟩:=H;refine sv rfl rfl (fun a ha=>qR (ha.ev rfl) (qA (ha.ev rfl)) rfl rfl (Uw TF.xM TF.yD h12 h13)) ?_;obtain⟨s2,h16,H⟩:=H;exact sv rfl rfl (fun a ha=>dB (ha.ev rfl) h16) (ag rfl (aC (nc (kp 2 rfl zz) (aW (aG (res1 rfl rfl) ⟨_,rfl,_,rfl,H⟩)))))
def uN (A1:Option Addr) (n1 c1:Nat) (A2:Option Addr) (n2 c2:Nat) (K:Int->World->Prop) (w:World):Prop:=
 ((n1:Int)≠(n2:Int)->(((n1:Int)<(n2:Int)->(K (-1) w))/\(¬((n1:Int)<(n2:Int))->(K 1 w))))/\(¬((n1:Int)≠(n2:Int))->(∃I1:Nat->Int->World->Prop,(∃k1,I1 k1 (IntKind.wrap .i64 ((n1:Int)-1)) w)/\∀k1 (x2:Int) (w1:World),I1 k1 x2 w1->((0<=x2->(0<=x2/\x2<(n1:Int)/\∃a1,A1=some a1/\∃x3,w1.cell? (a1.add (x2.toNat*1))=some (.int .i64 x3)/\0<=x2/\x2<(n2:Int)/\∃a2,A2=some a2/\∃x4,w1.cell? (a2.add (x2.toNat*1))=some (.int .i64 x4)/\∀w2,aP w1 w2->((x3<x4->(K (-1) w2))/\(¬(x3<x4)->(0<=x2/\x2<(n1:Int)/\∃a3,A1=some a3/\∃x5,w2.cell? (a3.add (x2.toNat*1))=some (.int .i64 x5)/\0<=x2/\x2<(n2:Int)/\∃a4,A2=some a4/\∃x6,w2.cell? (a4.add (x2.toNat*1))=some (.int .i64 x6)/\∀w3,aP w2 w3->((x6<x5->(K 1 w3))/\(¬(x6<x5)->(∃k2,k2<k1/\I1 k2 (IntKind.wrap .i64 (x2-1)) w3))))))))/\(¬(0<=x2)->(K 0 w1)))))
theorem Rf (A1:Option Addr) (n1 c1:Nat) (A2:Option Addr) (n2 c2:Nat) (K:Int->World->Prop) (w:World) (H:uN A1 n1 c1 A2 n2 c2 K w):Calls P F.iT #[.slice A1 n1 c1,.slice A2 n2 c2] w (aS fun v w'=>∃x1,v=(.int .i64 x1)/\K x1 w'):=by
 unfold uN at H;refine aY (P:=P) Tryz.func195 rfl [(0,.slice A1 n1 c1),(1,.slice A2 n2 c2)] 41 rfl rfl (aa rfl (aa rfl az)) (aB (aA (ag rfl (aC (nc (y2 0 1 rfl) (aB (aB (aA (mv rfl (sv rfl rfl (xb rfl (fun _=>bD TF.bT)) (mv rfl (sv rfl rfl (xb rfl (fun _=>bD TF.bT)) (bo rfl rfl zC (aC (nc (y3 0 1 10 rfl) ?_)))))))))))))));refine aK rfl (fun hb=> ?_) (fun hb=> ?_)
 ·replace H:=H.1 hb;refine aB (aB (aA (mv rfl (sv rfl rfl (xb rfl (fun _=>bD TF.bT)) (mv rfl (sv rfl rfl (xb rfl (fun _=>bD TF.bT)) (bo rfl rfl fO (aC (nc (kp 15 rfl zz) ?_)))))))));refine aK rfl (fun hb=> ?_) (fun hb=> ?_)
  ·replace H:=H.1 hb;exact aB (aA (ag rfl (aC (nc (kp 4 rfl zz) (aW (aI (aI (aG (res1 rfl rfl) ⟨_,rfl,_,rfl,H⟩))))))))
  ·replace H:=H.2 hb;exact aN (nc zz (aB (aA (ag rfl (aC (nc (kp 4 rfl zz) (aW (aI (aG (res1 rfl rfl) ⟨_,rfl,_,rfl,H⟩)))))))))
 ·replace H:=H.2 hb;refine aN (nc (y2 0 1 rfl) (aB (aB (aA (mv rfl (sv rfl rfl (xb rfl (fun _=>bD TF.bT)) (bo rfl rfl jB (ag rfl (aC (nc (y3 0 1 5 rfl) (aV ?_)))))))))));obtain⟨I1,⟨k1,hi⟩,H⟩:=H;refine dM (fun k1 a w'=>∃x2,Ok 41 [(0,.slice A1 n1 c1),(1,.slice A2 n2 c2),(5,.int .i64 x2)] a/\I1 k1 x2 w') (fun a ha=>⟨k1,IntKind.wrap .i64 ((n1:Int)-1),ha.weaken cs,hi⟩) ?_;rintro k1 a w1 ⟨x2,ha,hI⟩;replace H:=H k1 x2 w1 hI;refine cu ha ?_;refine aB (aB (aA (mv rfl (bo rfl rfl Nr (aC (nc (y4 0 1 5 20 rfl) ?_))))));refine aK rfl (fun hb=> ?_) (fun hb=> ?_)
  ·replace H:=H.1 hb;refine aN (nc (y3 0 1 5 rfl) (aB (aV (aB (aB ?_)))));refine dW follows [0,1,2,3,4,5,6,7,8] [3,7] 9 rfl rfl (by kernel_rfl) (fun _ _ d _ _ h=>by cases d<;>exact h) (fun cm W D=> ?_);refine lU 0 cm rfl rfl D W fun _ D W=>(lU 1 cm rfl rfl D W fun _ D W=> ?_);obtain⟨h1,h2,a1,e1,H⟩:=H;refine Vu 2 cm rfl rfl rfl (bG TF.fU TF.size_int e1 h1 h2) D W fun _ D W=> ?_;obtain⟨x3,h3,H⟩:=H;refine vl 3 cm rfl rfl (fun hw=>(aJ TF.kL ((hw.cell _).trans h3))) D W fun _ D W=>(lU 4 cm rfl rfl D W fun _ D W=>(lU 5 cm rfl rfl D W fun _ D W=> ?_));obtain⟨h4,h5,a2,e2,H⟩:=H;refine Vu 6 cm rfl rfl rfl (bG TF.fU TF.size_int e2 h4 h5) D W fun _ D W=> ?_;obtain⟨x4,h6,H⟩:=H;refine vl 7 cm rfl rfl (fun hw=>(aJ TF.kL ((hw.cell _).trans h6))) D W fun _ D W=>(Ji 8 cm rfl rfl rfl (fun w' a ha=>dK (ha.ev rfl) (ha.ev rfl) fO) D fun _ D=>(dU (by kernel_rfl) D ?_));intro w2 D;replace H:=H _ D;clear D cm;refine nc (y4 0 1 5 31 rfl) ?_;refine aK rfl (fun hb=> ?_) (fun hb=> ?_)
   ·replace H:=H.1 hb;exact aB (aA (ag rfl (aC (nc (kp 4 rfl zz) (aW (aI (bF (aI (aI (bF (aI (aG (res1 rfl rfl) ⟨_,rfl,_,rfl,H⟩))))))))))))
   ·replace H:=H.2 hb;refine aN (nc (y3 0 1 5 rfl) (aB ?_));refine dW follows [0,1,2,3,4,5,6,7,8] [3,7] 9 rfl rfl (by kernel_rfl) (fun _ _ d _ _ h=>by cases d<;>exact h) (fun cm W D=> ?_);refine lU 0 cm rfl rfl D W fun _ D W=>(lU 1 cm rfl rfl D W fun _ D W=> ?_);obtain⟨h7,h8,a3,e3,H⟩:=H;refine Vu 2 cm rfl rfl rfl (bG TF.fU TF.size_int e3 h7 h8) D W fun _ D W=> ?_;obtain⟨x5,h9,H⟩:=H;refine vl 3 cm rfl rfl (fun hw=>(aJ TF.kL ((hw.cell _).trans h9))) D W fun _ D W=>(lU 4 cm rfl rfl D W fun _ D W=>(lU 5 cm rfl rfl D W fun _ D W=> ?_));obtain⟨h10,h11,a4,e4,H⟩:=H;refine Vu 6 cm rfl rfl rfl (bG TF.fU TF.size_int e4 h10 h11) D W fun _ D W=> ?_;obtain⟨x6,h12,H⟩:=H;refine vl 7 cm rfl rfl (fun hw=>(aJ TF.kL ((hw.cell _).trans h12))) D W fun _ D W=>(Ji 8 cm rfl rfl rfl (fun w' a ha=>dK (ha.ev rfl) (ha.ev rfl) kF) D fun _ D=>(dU (by kernel_rfl) D ?_));intro w3 D;replace H:=H _ D;clear D cm;refine nc (y4 0 1 5 40 rfl) ?_;refine aK rfl (fun hb=> ?_) (fun hb=> ?_)
    ·replace H:=H.1 hb;exact aB (aA (ag rfl (aC (nc (kp 4 rfl zz) (aW (bF (aI (aI (bF (aI (aG (res1 rfl rfl) ⟨_,rfl,_,rfl,H⟩)))))))))))
    ·replace H:=H.2 hb;refine aN (bQ (nc (y3 0 1 5 rfl) (aA (mv rfl (bo rfl rfl jB (ag rfl (aC ?_)))))));obtain⟨k2,hk,H⟩:=H;exact aT fun a ha=>⟨k2,hk,IntKind.wrap .i64 (x2-1),ha.weaken cs,H⟩
  ·replace H:=H.2 hb;exact bW (aH (aH (aZ (nc zz (aB (aA (ag rfl (aC (nc (kp 4 rfl zz) (aW (aG (res1 rfl rfl) ⟨_,rfl,_,rfl,H⟩)))))))))))
def Gi (A1:Option Addr) (n1 c1:Nat) (x1:Int) (K:Int->World->Prop) (w:World):Prop:=
 (x1<(n1:Int)->(0<=x1/\x1<(n1:Int)/\∃a1,A1=some a1/\∃x3,w.cell? (a1.add (x1.toNat*1))=some (.int .i64 x3)/\K x3 w))/\(¬(x1<(n1:Int))->(K 0 w))
theorem Vo (A1:Option Addr) (n1 c1:Nat) (x1:Int) (K:Int->World->Prop) (w:World) (H:Gi A1 n1 c1 x1 K w):Calls P F.jW #[.slice A1 n1 c1,.int .i64 x1] w (aS fun v w'=>∃x2,v=(.int .i64 x2)/\K x2 w'):=by
 unfold Gi at H;refine aY (P:=P) Tryz.func250 rfl [(0,.slice A1 n1 c1),(1,.int .i64 x1)] 13 rfl rfl (aa rfl (aa rfl az)) (aB (aA (ag rfl (aC (nc (y2 0 1 rfl) (aB (aB (aA (mv rfl (mv rfl (sv rfl rfl (xb rfl (fun _=>bD TF.bT)) (bo rfl rfl fO (aC (nc (y3 0 1 8 rfl) ?_))))))))))))));refine aK rfl (fun hb=> ?_) (fun hb=> ?_)
 ·replace H:=H.1 hb;refine aB (aA (mv rfl (mv rfl ?_)));obtain⟨h1,h2,a1,e1,H⟩:=H;refine ix rfl rfl (bG TF.fU TF.size_int e1 h1 h2) ?_;obtain⟨x3,h3,H⟩:=H;exact ld rfl (aJ TF.kL h3) (ag rfl (aC (nc (kp 4 rfl zz) (aW (aI (aG (res1 rfl rfl) ⟨_,rfl,_,rfl,H⟩))))))
 ·replace H:=H.2 hb;exact aN (nc zz (aB (aA (ag rfl (aC (nc (kp 4 rfl zz) (aW (aG (res1 rfl rfl) ⟨_,rfl,_,rfl,H⟩))))))))
def iG (w:World) (A1:Option Addr) (n1 c1:Nat) (A2:Option Addr) (n2 c2:Nat) (K:Option Addr->Nat->Nat->World->Prop) (x1:Int):Prop:=
 ∃(A4:Option Addr) (n4 c4:Nat) (w1:World),(Instr.makeSlice T.kK (.int .i64 (IntKind.wrap .i64 (x1+1))) (.int .i64 (IntKind.wrap .i64 (x1+1)))).run P w= .ok (.slice A4 n4 c4) w1/\(∃I1:Nat->Int->Int->World->Prop,(∃k1,I1 k1 0 0 w1)/\∀k1 (x2:Int) (x3:Int) (w2:World),I1 k1 x2 x3 w2->((x3<=x1->(Calls P F.jW #[.slice A1 n1 c1,.int .i64 x3] w2 (aS fun v1 w3=>∃x4,v1=(.int .i64 x4)/\Calls P F.jW #[.slice A2 n2 c2,.int .i64 x3] w3 (aS fun v2 w4=>∃x5,v2=(.int .i64 x5)/\0<=x3/\x3<(n4:Int)/\∃a1,A4=some a1/\(∃u1,w4.cell? (a1.add (x3.toNat*1))=some u1)/\w4.frozen? (a1.add (x3.toNat*1))=false/\∀w5,w5=w4.setCell (a1.add (x3.toNat*1)) (.int .i64 (Int.tmod (IntKind.wrap .i64 ((IntKind.wrap .i64 (x4+x5))+x2)) 1000000000))->(∃k2,k2<k1/\I1 k2 (IntKind.wrap .i64 (Int.tdiv (IntKind.wrap .i64 ((IntKind.wrap .i64 (x4+x5))+x2)) 1000000000)) (IntKind.wrap .i64 (x3+1)) w5)))))/\(¬(x3<=x1)->(Calls P F.iY #[.slice A4 n4 c4] w2 (aS fun v3 w6=>∃A5 n5 c5,v3=(.slice A5 n5 c5)/\K A5 n5 c5 w6)))))
def Az (A1:Option Addr) (n1 c1:Nat) (A2:Option Addr) (n2 c2:Nat) (K:Option Addr->Nat->Nat->World->Prop) (w:World):Prop:=
 ((n1:Int)<(n2:Int)->((iG w A1 n1 c1 A2 n2 c2 K) (n2:Int)))/\(¬((n1:Int)<(n2:Int))->((iG w A1 n1 c1 A2 n2 c2 K) (n1:Int)))
theorem Qo (A1:Option Addr) (n1 c1:Nat) (A2:Option Addr) (n2 c2:Nat) (K:Option Addr->Nat->Nat->World->Prop) (w:World) (H:Az A1 n1 c1 A2 n2 c2 K w):Calls P F.sU #[.slice A1 n1 c1,.slice A2 n2 c2] w (aS fun v w'=>∃A3 n3 c3,v=(.slice A3 n3 c3)/\K A3 n3 c3 w'):=by
 unfold Az at H;refine aY (P:=P) Tryz.func227 rfl [(0,.slice A1 n1 c1),(1,.slice A2 n2 c2)] 44 rfl rfl (aa rfl (aa rfl az)) (aB (aA (ag rfl (aC (nc (y2 0 1 rfl) (aB (aA (mv rfl (sv rfl rfl (xb rfl (fun _=>bD TF.bT)) (ag rfl (aC (nc (y3 0 1 5 rfl) ?_))))))))))));refine bK (fun a=>∃x1,Ok 44 [(0,.slice A1 n1 c1),(1,.slice A2 n2 c2),(5,.int .i64 x1)] a/\iG w A1 n1 c1 A2 n2 c2 K x1) ?_ ?_
 ·rintro a ⟨x1,ha,H⟩;unfold iG at H;refine cu ha ?_;refine aB (aA (mv rfl (bo rfl rfl dJ ?_)));obtain⟨A4,n4,c4,w1,h1,H⟩:=H;refine sv rfl rfl (fun a ha=>gB (ha.ev rfl) (ha.ev rfl) h1) (ag rfl (aC (nc (y4 0 1 5 6 rfl) (aB (aA (ag rfl (aC (nc (y5 0 1 5 6 7 rfl) (aB (aB (aA (ag rfl (aC (nc (y6 0 1 5 6 7 8 rfl) (aV ?_)))))))))))))));obtain⟨I1,⟨k1,hi⟩,H⟩:=H;refine dM (fun k1 a w'=>∃x2,∃x3,Ok 44 [(0,.slice A1 n1 c1),(1,.slice A2 n2 c2),(5,.int .i64 x1),(6,.slice A4 n4 c4),(7,.int .i64 x2),(8,.int .i64 x3)] a/\I1 k1 x2 x3 w') (fun a ha=>⟨k1,0,0,ha.weaken cs,hi⟩) ?_;rintro k1 a w2 ⟨x2,x3,ha,hI⟩;replace H:=H k1 x2 x3 w2 hI;refine cu ha ?_;refine aB (aB (aA (mv rfl (mv rfl (bo rfl rfl aGn (aC (nc (y7 0 1 5 6 7 8 23 rfl) ?_)))))));refine aK rfl (fun hb=> ?_) (fun hb=> ?_)
  ·replace H:=H.1 hb;refine aN (nc (y6 0 1 5 6 7 8 rfl) (aB (aV (aB (aA (mv rfl (mv rfl (sc rfl rfl FF.jA H ?_))))))));rintro _ w3 ⟨x4,rfl,H⟩;refine mv rfl (mv rfl (sc rfl rfl FF.jA H ?_));rintro _ w4 ⟨x5,rfl,H⟩;refine bo rfl rfl dJ (mv rfl (bo rfl rfl dJ (ag rfl (aC (nc (y6 0 1 5 6 8 9 rfl) (aB (aA (mv rfl (mv rfl (mv rfl (bo rfl rfl (Gt (by decide)) ?_)))))))))));obtain⟨h2,h3,a1,e1,H⟩:=H;refine ix rfl rfl (bG TF.fU TF.size_int e1 h2 h3) ?_;obtain⟨⟨u1,h4⟩,h5,H⟩:=H;refine gX rfl (aF rfl) (xs rfl rfl (fE TF.size_int rfl rfl h4 h5)) ?_;intro w5 hw;replace H:=H _ hw;clear hw;refine aC (nc (y6 0 1 5 6 8 9 rfl) (aA (mv rfl (bo rfl rfl (Ai (by decide)) (ag rfl (aC (bQ (nc (y6 0 1 5 6 7 8 rfl) (aA (mv rfl (bo rfl rfl dJ (ag rfl (aC ?_)))))))))))));obtain⟨k2,hk,H⟩:=H;exact aT fun a ha=>⟨k2,hk,IntKind.wrap .i64 (Int.tdiv (IntKind.wrap .i64 ((IntKind.wrap .i64 (x4+x5))+x2)) 1000000000),IntKind.wrap .i64 (x3+1),ha.weaken cs,H⟩
  ·replace H:=H.2 hb;refine bW (aH (aH (aZ (nc (kp 6 rfl zz) (aB (aA (mv rfl (sc rfl rfl FF.gZ H ?_))))))));rintro _ w6 ⟨A5,n5,c5,rfl,H⟩;exact ag rfl (aC (nc (kp 4 rfl zz) (aW (aG (res1 rfl rfl) ⟨_,rfl,_,_,_,rfl,H⟩))))
 ·refine aB (aA (mv rfl (sv rfl rfl (xb rfl (fun _=>bD TF.bT)) (mv rfl (bo rfl rfl kF (aC (nc (y4 0 1 5 15 rfl) ?_)))))));refine aK rfl (fun hb=> ?_) (fun hb=> ?_)
  ·replace H:=H.1 hb;exact aA (mv rfl (sv rfl rfl (xb rfl (fun _=>bD TF.bT)) (ag rfl (aC (aT fun a ha=>⟨⟨(n2:Int),ha.weaken cs,H⟩,rfl⟩)))))
  ·replace H:=H.2 hb;exact aN (aT fun a ha=>⟨⟨(n1:Int),ha.weaken cs,H⟩,rfl⟩)
def jI (x2:Int) (n4:Nat) (A4:Option Addr) (w6:World) (k1:Nat) (I1:Nat->Int->Int->World->Prop) (x5:Int) (x6:Int):Prop:=
 0<=x2/\x2<(n4:Int)/\∃a2,A4=some a2/\(∃u1,w6.cell? (a2.add (x2.toNat*1))=some u1)/\w6.frozen? (a2.add (x2.toNat*1))=false/\∀w7,w7=w6.setCell (a2.add (x2.toNat*1)) (.int .i64 x6)->(∃k2,k2<k1/\I1 k2 x5 (IntKind.wrap .i64 (x2+1)) w7)
def Bc (A1:Option Addr) (n1 c1:Nat) (A2:Option Addr) (n2 c2:Nat) (K:Option Addr->Nat->Nat->World->Prop) (w:World):Prop:=
 ∃(A4:Option Addr) (n4 c4:Nat) (w1:World),(Instr.makeSlice T.kK (.int .i64 (n1:Int)) (.int .i64 (n1:Int))).run P w= .ok (.slice A4 n4 c4) w1/\(∃I1:Nat->Int->Int->World->Prop,(∃k1,I1 k1 0 0 w1)/\∀k1 (x1:Int) (x2:Int) (w2:World),I1 k1 x1 x2 w2->((x2<(n1:Int)->(∃X1:Nat->Prop,0<=x2/\x2<(n1:Int)/\∃a1,A1=some a1/\∃x3,w2.cell? (a1.add (x2.toNat*1))=some (.int .i64 x3)/\¬X1 (a1.add (x2.toNat*1)).block/\∀w4,aP w2 w4->Calls P F.jW #[.slice A2 n2 c2,.int .i64 x2] w4 (aS fun v1 w3=>∃x4,v1=(.int .i64 x4)/\Keep X1 w2 w3/\∀w6,aP w3 w6->(((IntKind.wrap .i64 ((IntKind.wrap .i64 (x3-x4))-x1))<0->((jI x2 n4 A4 w6 k1 I1) 1 (IntKind.wrap .i64 ((IntKind.wrap .i64 ((IntKind.wrap .i64 (x3-x4))-x1))+1000000000))))/\(¬((IntKind.wrap .i64 ((IntKind.wrap .i64 (x3-x4))-x1))<0)->((jI x2 n4 A4 w6 k1 I1) 0 (IntKind.wrap .i64 ((IntKind.wrap .i64 (x3-x4))-x1))))))))/\(¬(x2<(n1:Int))->(Calls P F.iY #[.slice A4 n4 c4] w2 (aS fun v2 w8=>∃A5 n5 c5,v2=(.slice A5 n5 c5)/\K A5 n5 c5 w8)))))
theorem Qw (A1:Option Addr) (n1 c1:Nat) (A2:Option Addr) (n2 c2:Nat) (K:Option Addr->Nat->Nat->World->Prop) (w:World) (H:Bc A1 n1 c1 A2 n2 c2 K w):Calls P F.kP #[.slice A1 n1 c1,.slice A2 n2 c2] w (aS fun v w'=>∃A3 n3 c3,v=(.slice A3 n3 c3)/\K A3 n3 c3 w'):=by
 unfold Bc at H;refine aY (P:=P) Tryz.func228 rfl [(0,.slice A1 n1 c1),(1,.slice A2 n2 c2)] 38 rfl rfl (aa rfl (aa rfl az)) (aB (aA (ag rfl (aC (nc (y2 0 1 rfl) (aB (aA (mv rfl (sv rfl rfl (xb rfl (fun _=>bD TF.bT)) ?_)))))))));obtain⟨A4,n4,c4,w1,h1,H⟩:=H;refine sv rfl rfl (fun a ha=>gB (ha.ev rfl) (ha.ev rfl) h1) (ag rfl (aC (nc (y3 0 1 5 rfl) (aB (aA (ag rfl (aC (nc (y4 0 1 5 6 rfl) (aB (aB (aA (ag rfl (aC (nc (y5 0 1 5 6 7 rfl) (aV ?_)))))))))))))));obtain⟨I1,⟨k1,hi⟩,H⟩:=H;refine dM (fun k1 a w'=>∃x1,∃x2,Ok 38 [(0,.slice A1 n1 c1),(1,.slice A2 n2 c2),(5,.slice A4 n4 c4),(6,.int .i64 x1),(7,.int .i64 x2)] a/\I1 k1 x1 x2 w') (fun a ha=>⟨k1,0,0,ha.weaken cs,hi⟩) ?_;rintro k1 a w2 ⟨x1,x2,ha,hI⟩;replace H:=H k1 x1 x2 w2 hI;refine cu ha ?_;refine aB (aB (aA (mv rfl (mv rfl (sv rfl rfl (xb rfl (fun _=>bD TF.bT)) (bo rfl rfl fO (aC (nc (y6 0 1 5 6 7 15 rfl) ?_))))))));refine aK rfl (fun hb=> ?_) (fun hb=> ?_)
 ·replace H:=H.1 hb;refine aN (nc (y5 0 1 5 6 7 rfl) (aB (aV (aB ?_))));obtain⟨X1,H⟩:=H;refine iI follows X1 [0,1,2,3,4,5,7,8,9,10] [3] 11 rfl rfl (by kernel_rfl) (fun _ _ d _ _ h=>by cases d<;>exact h) (fun cm W D=> ?_);refine lU 0 cm rfl rfl D W fun _ D W=>(lU 1 cm rfl rfl D W fun _ D W=> ?_);obtain⟨h2,h3,a1,e1,H⟩:=H;refine Vu 2 cm rfl rfl rfl (bG TF.fU TF.size_int e1 h2 h3) D W fun _ D W=> ?_;obtain⟨x3,h4,hx',H⟩:=H;replace h4:=And.intro h4 hx';clear hx';refine vl 3 cm rfl rfl (fun hw=>(aJ TF.kL (hw.cell h4))) D W fun _ D W=>(lU 4 cm rfl rfl D W fun _ D W=>(lU 5 cm rfl rfl D W fun _ D W=>(lU 8 cm rfl rfl D W fun _ D W=>(ar 6 ?_))));replace H:=H _ D;refine iZ rfl rfl rfl (aF rfl) (xc rfl rfl FF.jA) rfl true (by kernel_rfl) H ?_;rintro _ w3 ⟨x4,rfl,H⟩ _ D;have W:=H.1.drawn D;replace H:=H.2;refine⟨fun _=>W,?_⟩;refine Ji 7 cm rfl rfl rfl (fun w' a ha=>dK (ha.ev rfl) (ha.ev rfl) jB) D fun _ D=>(Ji 9 cm rfl rfl rfl (fun w' a ha=>dK (ha.ev rfl) (ha.ev rfl) jB) D fun _ D=>(vP 10 cm rfl rfl D fun _ D=>(dU (by kernel_rfl) D ?_)));intro w6 D;replace H:=H _ D;clear D cm;refine nc (y5 0 1 5 7 8 rfl) (aB (aA (ag rfl (aC (nc (y6 0 1 5 6 7 8 rfl) ?_)))));refine bK (fun a=>∃x5,∃x6,Ok 38 [(0,.slice A1 n1 c1),(1,.slice A2 n2 c2),(5,.slice A4 n4 c4),(6,.int .i64 x5),(7,.int .i64 x2),(8,.int .i64 x6)] a/\jI x2 n4 A4 w6 k1 I1 x5 x6) ?_ ?_
  ·rintro a ⟨x5,x6,ha,H⟩;unfold jI at H;refine cu ha ?_;refine aA (mv rfl (mv rfl (mv rfl ?_)));obtain⟨h7,h8,a2,e2,H⟩:=H;refine ix rfl rfl (bG TF.fU TF.size_int e2 h7 h8) ?_;obtain⟨⟨u1,h9⟩,h10,H⟩:=H;refine gX rfl (aF rfl) (xs rfl rfl (fE TF.size_int rfl rfl h9 h10)) ?_;intro w7 hw;replace H:=H _ hw;clear hw;refine aC (bQ (nc (y5 0 1 5 6 7 rfl) (aA (mv rfl (bo rfl rfl dJ (ag rfl (aC ?_)))))));obtain⟨k2,hk,H⟩:=H;exact aT fun a ha=>⟨k2,hk,x5,IntKind.wrap .i64 (x2+1),ha.weaken cs,H⟩
  ·refine aB (aA (mv rfl (bo rfl rfl fO (aC (nc (y7 0 1 5 6 7 8 29 rfl) ?_)))));refine aK rfl (fun hb=> ?_) (fun hb=> ?_)
   ·replace H:=H.1 hb;exact aB (aA (mv rfl (bo rfl rfl dJ (ag rfl (aC (nc (y5 0 1 5 7 8 rfl) (aA (ag rfl (aC (aT fun a ha=>⟨⟨1,IntKind.wrap .i64 ((IntKind.wrap .i64 ((IntKind.wrap .i64 (x3-x4))-x1))+1000000000),ha.weaken cs,H⟩,rfl⟩))))))))))
   ·replace H:=H.2 hb;exact aN (aT fun a ha=>⟨⟨0,IntKind.wrap .i64 ((IntKind.wrap .i64 (x3-x4))-x1),ha.weaken cs,H⟩,rfl⟩)
 ·replace H:=H.2 hb;refine bW (aH (aH (aZ (nc (kp 5 rfl zz) (aB (aA (mv rfl (sc rfl rfl FF.gZ H ?_))))))));rintro _ w8 ⟨A5,n5,c5,rfl,H⟩;exact ag rfl (aC (nc (kp 4 rfl zz) (aW (aG (res1 rfl rfl) ⟨_,rfl,_,_,_,rfl,H⟩))))
def uO (A1:Option Addr) (n1 c1:Nat) (A2:Option Addr) (n2 c2:Nat) (K:Option Addr->Nat->Nat->World->Prop) (w:World):Prop:=
 ∃(A4:Option Addr) (n4 c4:Nat) (w1:World),(Instr.makeSlice T.kK (.int .i64 (IntKind.wrap .i64 ((n1:Int)+(n2:Int)))) (.int .i64 (IntKind.wrap .i64 ((n1:Int)+(n2:Int))))).run P w= .ok (.slice A4 n4 c4) w1/\(∃I1:Nat->Int->World->Prop,(∃k1,I1 k1 0 w1)/\∀k1 (x1:Int) (w2:World),I1 k1 x1 w2->((x1<(n1:Int)->(∃I2:Nat->Int->Int->World->Prop,(∃k2,I2 k2 0 0 w2)/\∀k2 (x2:Int) (x3:Int) (w3:World),I2 k2 x2 x3 w3->((x3<(n2:Int)->(0<=IntKind.wrap .i64 (x1+x3)/\IntKind.wrap .i64 (x1+x3)<(n4:Int)/\∃a1,A4=some a1/\∃x4,w3.cell? (a1.add ((IntKind.wrap .i64 (x1+x3)).toNat*1))=some (.int .i64 x4)/\0<=x1/\x1<(n1:Int)/\∃a2,A1=some a2/\∃x5,w3.cell? (a2.add (x1.toNat*1))=some (.int .i64 x5)/\0<=x3/\x3<(n2:Int)/\∃a3,A2=some a3/\∃x6,w3.cell? (a3.add (x3.toNat*1))=some (.int .i64 x6)/\∀w4,aP w3 w4->(0<=IntKind.wrap .i64 (x1+x3)/\IntKind.wrap .i64 (x1+x3)<(n4:Int)/\∃a4,A4=some a4/\(∃u1,w4.cell? (a4.add ((IntKind.wrap .i64 (x1+x3)).toNat*1))=some u1)/\w4.frozen? (a4.add ((IntKind.wrap .i64 (x1+x3)).toNat*1))=false/\∀w5,w5=w4.setCell (a4.add ((IntKind.wrap .i64 (x1+x3)).toNat*1)) (.int .i64 (Int.tmod (IntKind.wrap .i64 ((IntKind.wrap .i64 (x4+(IntKind.wrap .i64 (x5*x6))))+x2)) 1000000000))->(∃k3,k3<k2/\I2 k3 (IntKind.wrap .i64 (Int.tdiv (IntKind.wrap .i64 ((IntKind.wrap .i64 (x4+(IntKind.wrap .i64 (x5*x6))))+x2)) 1000000000)) (IntKind.wrap .i64 (x3+1)) w5))))/\(¬(x3<(n2:Int))->(0<=IntKind.wrap .i64 (x1+(n2:Int))/\IntKind.wrap .i64 (x1+(n2:Int))<(n4:Int)/\∃a5,A4=some a5/\(∃u2,w3.cell? (a5.add ((IntKind.wrap .i64 (x1+(n2:Int))).toNat*1))=some u2)/\w3.frozen? (a5.add ((IntKind.wrap .i64 (x1+(n2:Int))).toNat*1))=false/\∀w6,w6=w3.setCell (a5.add ((IntKind.wrap .i64 (x1+(n2:Int))).toNat*1)) (.int .i64 x2)->(∃k4,k4<k1/\I1 k4 (IntKind.wrap .i64 (x1+1)) w6))))))/\(¬(x1<(n1:Int))->(Calls P F.iY #[.slice A4 n4 c4] w2 (aS fun v1 w7=>∃A5 n5 c5,v1=(.slice A5 n5 c5)/\K A5 n5 c5 w7)))))
theorem Qq (A1:Option Addr) (n1 c1:Nat) (A2:Option Addr) (n2 c2:Nat) (K:Option Addr->Nat->Nat->World->Prop) (w:World) (H:uO A1 n1 c1 A2 n2 c2 K w):Calls P F.gI #[.slice A1 n1 c1,.slice A2 n2 c2] w (aS fun v w'=>∃A3 n3 c3,v=(.slice A3 n3 c3)/\K A3 n3 c3 w'):=by
 unfold uO at H;refine aY (P:=P) Tryz.func202 rfl [(0,.slice A1 n1 c1),(1,.slice A2 n2 c2)] 64 rfl rfl (aa rfl (aa rfl az)) (aB (aA (ag rfl (aC (nc (y2 0 1 rfl) (aB (aA (mv rfl (sv rfl rfl (xb rfl (fun _=>bD TF.bT)) (mv rfl (sv rfl rfl (xb rfl (fun _=>bD TF.bT)) (bo rfl rfl dJ ?_))))))))))));obtain⟨A4,n4,c4,w1,h1,H⟩:=H;refine sv rfl rfl (fun a ha=>gB (ha.ev rfl) (ha.ev rfl) h1) (ag rfl (aC (nc (y3 0 1 5 rfl) (aB (aB (aA (ag rfl (aC (nc (y4 0 1 5 6 rfl) (aV ?_))))))))));obtain⟨I1,⟨k1,hi⟩,H⟩:=H;refine dM (fun k1 a w'=>∃x1,Ok 64 [(0,.slice A1 n1 c1),(1,.slice A2 n2 c2),(5,.slice A4 n4 c4),(6,.int .i64 x1)] a/\I1 k1 x1 w') (fun a ha=>⟨k1,0,ha.weaken cs,hi⟩) ?_;rintro k1 a w2 ⟨x1,ha,hI⟩;replace H:=H k1 x1 w2 hI;refine cu ha ?_;refine aB (aB (aA (mv rfl (mv rfl (sv rfl rfl (xb rfl (fun _=>bD TF.bT)) (bo rfl rfl fO (aC (nc (y5 0 1 5 6 19 rfl) ?_))))))));refine aK rfl (fun hb=> ?_) (fun hb=> ?_)
 ·replace H:=H.1 hb;refine aN (nc (y4 0 1 5 6 rfl) (aB (aV (aB (aA (ag rfl (aC (nc (y5 0 1 5 6 7 rfl) (aB (aB (aA (ag rfl (aC (nc (y6 0 1 5 6 7 8 rfl) (aV ?_)))))))))))))));obtain⟨I2,⟨k2,hi⟩,H⟩:=H;refine dM (fun k2 a w'=>∃x2,∃x3,Ok 64 [(0,.slice A1 n1 c1),(1,.slice A2 n2 c2),(5,.slice A4 n4 c4),(6,.int .i64 x1),(7,.int .i64 x2),(8,.int .i64 x3)] a/\I2 k2 x2 x3 w') (fun a ha=>⟨k2,0,0,ha.weaken cs,hi⟩) ?_;rintro k2 a w3 ⟨x2,x3,ha,hI⟩;replace H:=H k2 x2 x3 w3 hI;refine cu ha ?_;refine aB (aB (aA (mv rfl (mv rfl (sv rfl rfl (xb rfl (fun _=>bD TF.bT)) (bo rfl rfl fO (aC (nc (y7 0 1 5 6 7 8 25 rfl) ?_))))))));refine aK rfl (fun hb=> ?_) (fun hb=> ?_)
  ·replace H:=H.1 hb;refine aN (nc (y6 0 1 5 6 7 8 rfl) (aB (aV (aB ?_))));refine dW follows [0,1,2,3,4,5,6,7,8,9,10,11,12,13,14,15,16,17,18] [5,9,13] 19 rfl rfl (by kernel_rfl) (fun _ _ d _ _ h=>by cases d<;>exact h) (fun cm W D=> ?_);refine lU 0 cm rfl rfl D W fun _ D W=>(lU 1 cm rfl rfl D W fun _ D W=>(lU 2 cm rfl rfl D W fun _ D W=>(pv 3 cm rfl rfl rfl (fun w' a ha=>dK (ha.ev rfl) (ha.ev rfl) dJ) D W fun _ D W=> ?_)));obtain⟨h2,h3,a1,e1,H⟩:=H;refine Vu 4 cm rfl rfl rfl (bG TF.fU TF.size_int e1 h2 h3) D W fun _ D W=> ?_;obtain⟨x4,h4,H⟩:=H;refine vl 5 cm rfl rfl (fun hw=>(aJ TF.kL ((hw.cell _).trans h4))) D W fun _ D W=>(lU 6 cm rfl rfl D W fun _ D W=>(lU 7 cm rfl rfl D W fun _ D W=> ?_));obtain⟨h5,h6,a2,e2,H⟩:=H;refine Vu 8 cm rfl rfl rfl (bG TF.fU TF.size_int e2 h5 h6) D W fun _ D W=> ?_;obtain⟨x5,h7,H⟩:=H;refine vl 9 cm rfl rfl (fun hw=>(aJ TF.kL ((hw.cell _).trans h7))) D W fun _ D W=>(lU 10 cm rfl rfl D W fun _ D W=>(lU 11 cm rfl rfl D W fun _ D W=> ?_));obtain⟨h8,h9,a3,e3,H⟩:=H;refine Vu 12 cm rfl rfl rfl (bG TF.fU TF.size_int e3 h8 h9) D W fun _ D W=> ?_;obtain⟨x6,h10,H⟩:=H;refine vl 13 cm rfl rfl (fun hw=>(aJ TF.kL ((hw.cell _).trans h10))) D W fun _ D W=>(Ji 14 cm rfl rfl rfl (fun w' a ha=>dK (ha.ev rfl) (ha.ev rfl) Aq) D fun _ D=>(Ji 15 cm rfl rfl rfl (fun w' a ha=>dK (ha.ev rfl) (ha.ev rfl) dJ) D fun _ D=>(Ez 16 cm rfl rfl D fun _ D=>(Ji 17 cm rfl rfl rfl (fun w' a ha=>dK (ha.ev rfl) (ha.ev rfl) dJ) D fun _ D=>(vP 18 cm rfl rfl D fun _ D=>(dU (by kernel_rfl) D ?_))))));intro w4 D;replace H:=H _ D;clear D cm;refine nc (y6 0 1 5 6 8 9 rfl) (aB (aA (mv rfl (mv rfl (mv rfl (bo rfl rfl dJ (mv rfl (bo rfl rfl (Gt (by decide)) ?_))))))));obtain⟨h11,h12,a4,e4,H⟩:=H;refine ix rfl rfl (bG TF.fU TF.size_int e4 h11 h12) ?_;obtain⟨⟨u1,h13⟩,h14,H⟩:=H;refine gX rfl (aF rfl) (xs rfl rfl (fE TF.size_int rfl rfl h13 h14)) ?_;intro w5 hw;replace H:=H _ hw;clear hw;refine aC (nc (y6 0 1 5 6 8 9 rfl) (aA (mv rfl (bo rfl rfl (Ai (by decide)) (ag rfl (aC (bQ (nc (y6 0 1 5 6 7 8 rfl) (aA (mv rfl (bo rfl rfl dJ (ag rfl (aC ?_)))))))))))));obtain⟨k3,hk,H⟩:=H;exact aT fun a ha=>⟨k3,hk,IntKind.wrap .i64 (Int.tdiv (IntKind.wrap .i64 ((IntKind.wrap .i64 (x4+(IntKind.wrap .i64 (x5*x6))))+x2)) 1000000000),IntKind.wrap .i64 (x3+1),ha.weaken cs,H⟩
  ·replace H:=H.2 hb;refine bW (aH (aH (aZ (nc (y5 0 1 5 6 7 rfl) (aA (mv rfl (mv rfl (mv rfl (sv rfl rfl (xb rfl (fun _=>bD TF.bT)) (bo rfl rfl dJ (mv rfl ?_)))))))))));obtain⟨h15,h16,a5,e5,H⟩:=H;refine ix rfl rfl (bG TF.fU TF.size_int e5 h15 h16) ?_;obtain⟨⟨u2,h17⟩,h18,H⟩:=H;refine gX rfl (aF rfl) (xs rfl rfl (fE TF.size_int rfl rfl h17 h18)) ?_;intro w6 hw;replace H:=H _ hw;clear hw;refine aC (bQ (nc (y4 0 1 5 6 rfl) (aA (mv rfl (bo rfl rfl dJ (ag rfl (aC ?_)))))));obtain⟨k4,hk,H⟩:=H;exact aT fun a ha=>⟨k4,hk,IntKind.wrap .i64 (x1+1),ha.weaken cs,H⟩
 ·replace H:=H.2 hb;refine bW (aH (aH (aZ (nc (kp 5 rfl zz) (aB (aA (mv rfl (sc rfl rfl FF.gZ H ?_))))))));rintro _ w7 ⟨A5,n5,c5,rfl,H⟩;exact ag rfl (aC (nc (kp 4 rfl zz) (aW (aG (res1 rfl rfl) ⟨_,rfl,_,_,_,rfl,H⟩))))
def Dz (A1:Option Addr) (n1 c1:Nat) (K:Int->Bool->World->Prop) (w:World):Prop:=
 (2<(n1:Int)->(K 0 false w))/\(¬(2<(n1:Int))->(Calls P F.jW #[.slice A1 n1 c1,.int .i64 1] w (aS fun v1 w1=>∃x2,v1=(.int .i64 x2)/\Calls P F.jW #[.slice A1 n1 c1,.int .i64 0] w1 (aS fun v2 w2=>∃x3,v2=(.int .i64 x3)/\K (IntKind.wrap .i64 ((IntKind.wrap .i64 (x2*1000000000))+x3)) true w2))))
theorem Ui (A1:Option Addr) (n1 c1:Nat) (K:Int->Bool->World->Prop) (w:World) (H:Dz A1 n1 c1 K w):Calls P F.pO #[.slice A1 n1 c1] w (aS fun v w'=>∃x1,∃b1,v=(.tuple #[.int .i64 x1,.bool b1])/\K x1 b1 w'):=by
 unfold Dz at H;refine aY (P:=P) Tryz.func251 rfl [(0,.slice A1 n1 c1)] 13 rfl rfl (fun p hp=>by rcases List.mem_singleton.1 hp with rfl;rfl) (aB (aA (ag rfl (ag rfl (aC (nc (kp 0 rfl zz) (aB (aB (aA (mv rfl (sv rfl rfl (xb rfl (fun _=>bD TF.bT)) (bo rfl rfl kF (aC (nc (y2 0 6 rfl) ?_))))))))))))));refine aK rfl (fun hb=> ?_) (fun hb=> ?_)
 ·replace H:=H.1 hb;exact aB (aA (ag rfl (ag rfl (aC (nc (y2 2 3 rfl) (aW (aI (aG (wF rfl rfl rfl) ⟨_,rfl,_,_,rfl,H⟩))))))))
 ·replace H:=H.2 hb;refine aN (nc (kp 0 rfl zz) (aB (aA (mv rfl (sc rfl rfl FF.jA H ?_)))));rintro _ w1 ⟨x2,rfl,H⟩;refine bo rfl rfl Aq (mv rfl (sc rfl rfl FF.jA H ?_));rintro _ w2 ⟨x3,rfl,H⟩;exact bo rfl rfl dJ (ag rfl (ag rfl (aC (nc (y2 2 3 rfl) (aW (aG (wF rfl rfl rfl) ⟨_,rfl,_,_,rfl,H⟩))))))
def Au (x1:Int) (K:Option Addr->Nat->Nat->World->Prop) (w:World):Prop:=
 ∃(A2:Option Addr) (n2 c2:Nat) (w1:World),(Instr.makeSlice T.kK (.int .i64 0) (.int .i64 0)).run P w= .ok (.slice A2 n2 c2) w1/\(∃I1:Nat->Int->Option Addr->Nat->Nat->World->Prop,(∃k1,I1 k1 x1 A2 n2 c2 w1)/\∀k1 (x2:Int) (A3:Option Addr) (n3 c3:Nat) (w2:World),I1 k1 x2 A3 n3 c3 w2->((0<x2->(∀(p1:Addr) (w3:World),New w2 (.cells #[.int .i64 (Int.tmod x2 1000000000)] T.int) p1 w3->(∃(A4:Option Addr) (n4 c4:Nat) (w4:World),(Builtin.append_ #[T.kK,T.kK] T.kK #[.slice A3 n3 c3,.slice (some p1) 1 1]).run P w3= .ok (.slice A4 n4 c4) w4/\(∃k2,k2<k1/\I1 k2 (IntKind.wrap .i64 (Int.tdiv x2 1000000000)) A4 n4 c4 w4))))/\(¬(0<x2)->(K A3 n3 c3 w2))))
theorem Qu (x1:Int) (K:Option Addr->Nat->Nat->World->Prop) (w:World) (H:Au x1 K w):Calls P F.dS #[.int .i64 x1] w (aS fun v w'=>∃A1 n1 c1,v=(.slice A1 n1 c1)/\K A1 n1 c1 w'):=by
 unfold Au at H;refine aY (P:=P) Tryz.func196 rfl [(0,.int .i64 x1)] 15 rfl rfl (fun p hp=>by rcases List.mem_singleton.1 hp with rfl;rfl) (aB (aA (ag rfl (aC (nc (kp 0 rfl zz) (aB (aA ?_)))))));obtain⟨A2,n2,c2,w1,h1,H⟩:=H;refine sv rfl rfl (fun a ha=>gB (ha.ev rfl) (ha.ev rfl) h1) (ag rfl (aC (nc (y2 0 3 rfl) (aB (aV ?_)))));obtain⟨I1,⟨k1,hi⟩,H⟩:=H;refine dM (fun k1 a w'=>∃x2,∃A3 n3 c3,Ok 15 [(0,.int .i64 x2),(3,.slice A3 n3 c3)] a/\I1 k1 x2 A3 n3 c3 w') (fun a ha=>⟨k1,x1,A2,n2,c2,ha.weaken cs,hi⟩) ?_;rintro k1 a w2 ⟨x2,A3,n3,c3,ha,hI⟩;replace H:=H k1 x2 A3 n3 c3 w2 hI;refine cu ha ?_;refine aB (aB (aA (mv rfl (bo rfl rfl kF (aC (nc (y3 0 3 6 rfl) ?_))))));refine aK rfl (fun hb=> ?_) (fun hb=> ?_)
 ·replace H:=H.1 hb;refine aN (nc (y2 0 3 rfl) (aV (aB (aA (mv rfl (mv rfl (bo rfl rfl (Gt (by decide)) (sz rfl rfl (xl 1 1 (.cells #[.int .i64 (Int.tmod x2 1000000000)] T.int) rfl) ?_))))))));intro p1 w3 hN;obtain⟨A4,n4,c4,w4,h2,H⟩:=H _ _ hN;refine sv rfl rfl (xb rfl (fun _=>kG h2)) (ag rfl (aC (nc (y2 0 3 rfl) (aA (mv rfl (bo rfl rfl (Ai (by decide)) (ag rfl (aC (bQ ?_)))))))));obtain⟨k2,hk,H⟩:=H;exact aT fun a ha=>⟨k2,hk,IntKind.wrap .i64 (Int.tdiv x2 1000000000),A4,n4,c4,ha.weaken cs,H⟩
 ·replace H:=H.2 hb;exact bW (aH (aH (aZ (nc (kp 3 rfl zz) (aB (aA (mv rfl (ag rfl (aC (nc (kp 2 rfl zz) (aW (aG (res1 rfl rfl) ⟨_,rfl,_,_,_,rfl,H⟩))))))))))))
def Et (A1:Option Addr) (n1 c1:Nat) (A2:Option Addr) (n2 c2:Nat) (K:Int->World->Prop) (w:World):Prop:=
 ∃I1:Nat->Int->Int->World->Prop,(∃k1,I1 k1 0 999999999 w)/\∀k1 (x2:Int) (x3:Int) (w1:World),I1 k1 x2 x3 w1->((x2<x3->(Calls P F.dS #[(.int .i64 (IntKind.wrap .i64 (Int.tdiv (IntKind.wrap .i64 ((IntKind.wrap .i64 (x2+x3))+1)) 2)))] w1 (aS fun v1 w2=>∃A3 n3 c3,v1=(.slice A3 n3 c3)/\Calls P F.gI #[.slice A2 n2 c2,.slice A3 n3 c3] w2 (aS fun v2 w3=>∃A4 n4 c4,v2=(.slice A4 n4 c4)/\Calls P F.iT #[.slice A4 n4 c4,.slice A1 n1 c1] w3 (aS fun v3 w4=>∃x4,v3=(.int .i64 x4)/\(x4<=0->(∃k2,k2<k1/\I1 k2 (IntKind.wrap .i64 (Int.tdiv (IntKind.wrap .i64 ((IntKind.wrap .i64 (x2+x3))+1)) 2)) x3 w4))/\(¬(x4<=0)->(∃k3,k3<k1/\I1 k3 x2 (IntKind.wrap .i64 ((IntKind.wrap .i64 (Int.tdiv (IntKind.wrap .i64 ((IntKind.wrap .i64 (x2+x3))+1)) 2))-1)) w4)))))))/\(¬(x2<x3)->(K x2 w1)))
theorem Ud (A1:Option Addr) (n1 c1:Nat) (A2:Option Addr) (n2 c2:Nat) (K:Int->World->Prop) (w:World) (H:Et A1 n1 c1 A2 n2 c2 K w):Calls P F.vI #[.slice A1 n1 c1,.slice A2 n2 c2] w (aS fun v w'=>∃x1,v=(.int .i64 x1)/\K x1 w'):=by
 unfold Et at H;refine aY (P:=P) Tryz.func252 rfl [(0,.slice A1 n1 c1),(1,.slice A2 n2 c2)] 29 rfl rfl (aa rfl (aa rfl az)) (aB (aA (ag rfl (aC (nc (y2 0 1 rfl) (aB (aA (ag rfl (aC (nc (y3 0 1 5 rfl) (aB (aA (ag rfl (aC (nc (y4 0 1 5 6 rfl) (aB (aV ?_)))))))))))))))));obtain⟨I1,⟨k1,hi⟩,H⟩:=H;refine dM (fun k1 a w'=>∃x2,∃x3,Ok 29 [(0,.slice A1 n1 c1),(1,.slice A2 n2 c2),(5,.int .i64 x2),(6,.int .i64 x3)] a/\I1 k1 x2 x3 w') (fun a ha=>⟨k1,0,999999999,ha.weaken cs,hi⟩) ?_;rintro k1 a w1 ⟨x2,x3,ha,hI⟩;replace H:=H k1 x2 x3 w1 hI;refine cu ha ?_;refine aB (aB (aA (mv rfl (mv rfl (bo rfl rfl fO (aC (nc (y5 0 1 5 6 11 rfl) ?_)))))));refine aK rfl (fun hb=> ?_) (fun hb=> ?_)
 ·replace H:=H.1 hb;refine aN (nc (y4 0 1 5 6 rfl) (aV (aB (aA (mv rfl (mv rfl (bo rfl rfl dJ (bo rfl rfl dJ (bo rfl rfl (Ai (by decide)) (ag rfl (aC (nc (y5 0 1 5 6 7 rfl) (aB (aA (mv rfl (mv rfl (sc rfl rfl FF.dF H ?_)))))))))))))))));rintro _ w2 ⟨A3,n3,c3,rfl,H⟩;refine sc rfl rfl FF.fG H ?_;rintro _ w3 ⟨A4,n4,c4,rfl,H⟩;refine ag rfl (aC (nc (y6 0 1 5 6 7 8 rfl) (aB (aA (mv rfl (mv rfl (sc rfl rfl FF.iK H ?_)))))));rintro _ w4 ⟨x4,rfl,H⟩;refine bo rfl rfl aGn (aC (nc (y6 0 1 5 6 7 24 rfl) ?_));refine aK rfl (fun hb=> ?_) (fun hb=> ?_)
  ·replace H:=H.1 hb;refine aA (mv rfl (ag rfl (aC (bQ ?_))));obtain⟨k2,hk,H⟩:=H;exact aT fun a ha=>⟨k2,hk,IntKind.wrap .i64 (Int.tdiv (IntKind.wrap .i64 ((IntKind.wrap .i64 (x2+x3))+1)) 2),x3,ha.weaken cs,H⟩
  ·replace H:=H.2 hb;refine aA (mv rfl (bo rfl rfl jB (ag rfl (aC (bQ ?_)))));obtain⟨k3,hk,H⟩:=H;exact aT fun a ha=>⟨k3,hk,x2,IntKind.wrap .i64 ((IntKind.wrap .i64 (Int.tdiv (IntKind.wrap .i64 ((IntKind.wrap .i64 (x2+x3))+1)) 2))-1),ha.weaken cs,H⟩
 ·replace H:=H.2 hb;exact bW (aH (aH (aZ (nc (kp 5 rfl zz) (aB (aA (mv rfl (ag rfl (aC (nc (kp 4 rfl zz) (aW (aG (res1 rfl rfl) ⟨_,rfl,_,rfl,H⟩))))))))))))
def qL (K:Option Addr->Nat->Nat->Option Addr->Nat->Nat->World->Prop) (A7:Option Addr) (n7 c7:Nat) (A8:Option Addr) (n8 c8:Nat) (w10:World):Prop:=
 K A7 n7 c7 A8 n8 c8 w10
def kY (k1:Nat) (I1:Nat->Option Addr->Nat->Nat->Int->World->Prop) (x3:Int) (A20:Option Addr) (n20 c20:Nat) (w27:World):Prop:=
 ∃k4,k4<k1/\I1 k4 A20 n20 c20 (IntKind.wrap .i64 (x3-1)) w27
def jL (x2:Int) (w2:World) (x1:Int) (K:Option Addr->Nat->Nat->Option Addr->Nat->Nat->World->Prop) (n1:Nat) (A1:Option Addr) (A2:Option Addr) (n2 c2:Nat) (b3:Bool):Prop:=
 (b3=true->(x2≠0/\x2≠0/\∀w4,aP w2 w4->Calls P F.dS #[.int .i64 (IntKind.wrap .i64 (Int.tdiv x1 x2))] w4 (aS fun v3 w3=>∃A5 n5 c5,v3=(.slice A5 n5 c5)/\∀w7,aP w3 w7->Calls P F.dS #[.int .i64 (Int.tmod x1 x2)] w7 (aS fun v4 w6=>∃A6 n6 c6,v4=(.slice A6 n6 c6)/\∀w9,aP w6 w9->((qL K) A5 n5 c5 A6 n6 c6 w9)))))/\(b3=false->(∃(A9:Option Addr) (n9 c9:Nat) (w11:World),(Instr.makeSlice T.kK (.int .i64 (n1:Int)) (.int .i64 (n1:Int))).run P w2= .ok (.slice A9 n9 c9) w11/\(∃(A10:Option Addr) (n10 c10:Nat) (w12:World),(Instr.makeSlice T.kK (.int .i64 0) (.int .i64 0)).run P w11= .ok (.slice A10 n10 c10) w12/\(∃I1:Nat->Option Addr->Nat->Nat->Int->World->Prop,(∃k1,I1 k1 A10 n10 c10 (IntKind.wrap .i64 ((n1:Int)-1)) w12)/\∀k1 (A11:Option Addr) (n11 c11:Nat) (x3:Int) (w13:World),I1 k1 A11 n11 c11 x3 w13->((0<=x3->(∃(A12:Option Addr) (n12 c12:Nat) (w14:World),(Instr.makeSlice T.kK (.int .i64 0) (.int .i64 (IntKind.wrap .i64 ((n11:Int)+1)))).run P w13= .ok (.slice A12 n12 c12) w14/\(0<=x3/\x3<(n1:Int)/\∃a1,A1=some a1/\∃x4,w14.cell? (a1.add (x3.toNat*1))=some (.int .i64 x4)/\∀(p1:Addr) (w15:World),New w14 (.cells #[.int .i64 x4] T.int) p1 w15->(∃(A13:Option Addr) (n13 c13:Nat) (w16:World),(Builtin.append_ #[T.kK,T.kK] T.kK #[.slice A12 n12 c12,.slice (some p1) 1 1]).run P w15= .ok (.slice A13 n13 c13) w16/\(∃I2:Nat->Option Addr->Nat->Nat->Int->World->Prop,(∃k2,I2 k2 A13 n13 c13 0 w16)/\∀k2 (A14:Option Addr) (n14 c14:Nat) (x5:Int) (w17:World),I2 k2 A14 n14 c14 x5 w17->((x5<(n11:Int)->(0<=x5/\x5<(n11:Int)/\∃a2,A11=some a2/\∃x6,w17.cell? (a2.add (x5.toNat*1))=some (.int .i64 x6)/\∀(p2:Addr) (w18:World),New w17 (.cells #[.int .i64 x6] T.int) p2 w18->(∃(A15:Option Addr) (n15 c15:Nat) (w19:World),(Builtin.append_ #[T.kK,T.kK] T.kK #[.slice A14 n14 c14,.slice (some p2) 1 1]).run P w18= .ok (.slice A15 n15 c15) w19/\(∃k3,k3<k2/\I2 k3 A15 n15 c15 (IntKind.wrap .i64 (x5+1)) w19))))/\(¬(x5<(n11:Int))->(Calls P F.iY #[.slice A14 n14 c14] w17 (aS fun v5 w20=>∃A16 n16 c16,v5=(.slice A16 n16 c16)/\Calls P F.iT #[.slice A16 n16 c16,.slice A2 n2 c2] w20 (aS fun v6 w21=>∃x7,v6=(.int .i64 x7)/\(0<=x7->(Calls P F.vI #[.slice A16 n16 c16,.slice A2 n2 c2] w21 (aS fun v7 w22=>∃x8,v7=(.int .i64 x8)/\0<=x3/\x3<(n9:Int)/\∃a3,A9=some a3/\(∃u1,w22.cell? (a3.add (x3.toNat*1))=some u1)/\w22.frozen? (a3.add (x3.toNat*1))=false/\∀w23,w23=w22.setCell (a3.add (x3.toNat*1)) (.int .i64 x8)->(0<=x3/\x3<(n9:Int)/\∃a4,A9=some a4/\∃x9,w23.cell? (a4.add (x3.toNat*1))=some (.int .i64 x9)/\Calls P F.dS #[.int .i64 x9] w23 (aS fun v8 w24=>∃A17 n17 c17,v8=(.slice A17 n17 c17)/\Calls P F.gI #[.slice A2 n2 c2,.slice A17 n17 c17] w24 (aS fun v9 w25=>∃A18 n18 c18,v9=(.slice A18 n18 c18)/\Calls P F.kP #[.slice A16 n16 c16,.slice A18 n18 c18] w25 (aS fun v10 w26=>∃A19 n19 c19,v10=(.slice A19 n19 c19)/\(kY k1 I1 x3) A19 n19 c19 w26)))))))/\(¬(0<=x7)->((kY k1 I1 x3) A16 n16 c16 w21))))))))))))/\(¬(0<=x3)->(Calls P F.iY #[.slice A9 n9 c9] w13 (aS fun v11 w28=>∃A21 n21 c21,v11=(.slice A21 n21 c21)/\K A21 n21 c21 A11 n11 c11 w28))))))))
def Ba (A1:Option Addr) (n1 c1:Nat) (A2:Option Addr) (n2 c2:Nat) (K:Option Addr->Nat->Nat->Option Addr->Nat->Nat->World->Prop) (w:World):Prop:=
 Calls P F.pO #[.slice A1 n1 c1] w (aS fun v1 w1=>∃x1,∃b1,v1=(.tuple #[.int .i64 x1,.bool b1])/\Calls P F.pO #[.slice A2 n2 c2] w1 (aS fun v2 w2=>∃x2,∃b2,v2=(.tuple #[.int .i64 x2,.bool b2])/\(b1=true->((jL x2 w2 x1 K n1 A1 A2 n2 c2) b2))/\(b1=false->((jL x2 w2 x1 K n1 A1 A2 n2 c2) false))))
theorem Ri (A1:Option Addr) (n1 c1:Nat) (A2:Option Addr) (n2 c2:Nat) (K:Option Addr->Nat->Nat->Option Addr->Nat->Nat->World->Prop) (w:World) (H:Ba A1 n1 c1 A2 n2 c2 K w):Calls P F.kX #[.slice A1 n1 c1,.slice A2 n2 c2] w (aS fun v w'=>∃A3 n3 c3,∃A4 n4 c4,v=(.tuple #[.slice A3 n3 c3,.slice A4 n4 c4])/\K A3 n3 c3 A4 n4 c4 w'):=by
 unfold Ba at H;refine aY (P:=P) Tryz.func232 rfl [(0,.slice A1 n1 c1),(1,.slice A2 n2 c2)] 96 rfl rfl (aa rfl (aa rfl az)) (aB (aA (ag rfl (ag rfl (aC (nc (y2 0 1 rfl) (aB (aA (mv rfl (sc rfl rfl FF.vS H ?_))))))))));rintro _ w1 ⟨x1,b1,rfl,H⟩;refine mv rfl (sv rfl rfl (xe rfl rfl) (sv rfl rfl (xe rfl rfl) (ag rfl (ag rfl (aC (nc (y4 0 1 6 7 rfl) (aB (aA (mv rfl (sc rfl rfl FF.vS H ?_))))))))));rintro _ w2 ⟨x2,b2,rfl,H⟩;refine mv rfl (sv rfl rfl (xe rfl rfl) (sv rfl rfl (xe rfl rfl) (ag rfl (ag rfl (aC (nc (y6 0 1 6 7 8 9 rfl) (aB ?_)))))));refine bK (fun a=>∃b3,Ok 96 [(0,.slice A1 n1 c1),(1,.slice A2 n2 c2),(6,.int .i64 x1),(8,.int .i64 x2),(28,.bool b3)] a/\jL x2 w2 x1 K n1 A1 A2 n2 c2 b3) ?_ ?_
 ·rintro a ⟨b3,ha,H⟩;unfold jL at H;refine cu ha ?_;refine dG rfl (fun hb=> ?_) (fun hb=> ?_)
  ·replace H:=H.1 hb;refine dI (fun a w=>∃A7 n7 c7,∃A8 n8 c8,Ok 96 [(4,.slice A7 n7 c7),(5,.slice A8 n8 c8)] a/\qL K A7 n7 c7 A8 n8 c8 w) ?_ ?_
   ·rintro a w10 ⟨A7,n7,c7,A8,n8,c8,ha,H⟩;unfold qL at H;refine cu ha ?_;exact aW (aI (aG (wF rfl rfl rfl) ⟨_,rfl,_,_,_,_,_,_,rfl,H⟩))
   ·refine dW follows [0,1,2,4,5,6,8,9] [] 10 rfl rfl (by kernel_rfl) (fun _ _ d _ _ h=>by cases d<;>exact h) (fun cm W D=> ?_);refine Ez 0 cm rfl rfl D fun _ D=>(Ez 1 cm rfl rfl D fun _ D=> ?_);obtain⟨h1,H⟩:=H;refine Ji 2 cm rfl rfl rfl (fun w' a ha=>dK (ha.ev rfl) (ha.ev rfl) (Ai h1)) D fun _ D=>(Ez 4 cm rfl rfl D fun _ D=>(Ez 5 cm rfl rfl D fun _ D=> ?_));obtain⟨h2,H⟩:=H;refine Ji 6 cm rfl rfl rfl (fun w' a ha=>dK (ha.ev rfl) (ha.ev rfl) (Gt h2)) D fun _ D=>(ar 3 ?_);replace H:=H _ D;refine iZ rfl rfl rfl (aF rfl) (xc rfl rfl FF.dF) rfl false (by kernel_rfl) H ?_;rintro _ w3 ⟨A5,n5,c5,rfl,H⟩ _ D;refine⟨fun h=>(by cases h),?_⟩;refine ar 7 ?_;replace H:=H _ D;refine iZ rfl rfl rfl (aF rfl) (xc rfl rfl FF.dF) rfl false (by kernel_rfl) H ?_;rintro _ w6 ⟨A6,n6,c6,rfl,H⟩ _ D;refine⟨fun h=>(by cases h),?_⟩;refine vP 8 cm rfl rfl D fun _ D=>(vP 9 cm rfl rfl D fun _ D=>(dU (by kernel_rfl) D ?_));intro w9 D;replace H:=H _ D;clear D cm;exact aT fun a ha=>⟨A5,n5,c5,A6,n6,c6,ha.weaken cs,H⟩
  ·replace H:=H.2 hb;refine aN (nc (y2 0 1 rfl) (aB (aA (mv rfl (sv rfl rfl (xb rfl (fun _=>bD TF.bT)) ?_)))));obtain⟨A9,n9,c9,w11,h7,H⟩:=H;refine sv rfl rfl (fun a ha=>gB (ha.ev rfl) (ha.ev rfl) h7) (ag rfl (aC (nc (y3 0 1 10 rfl) (aB (aA ?_)))));obtain⟨A10,n10,c10,w12,h8,H⟩:=H;refine sv rfl rfl (fun a ha=>gB (ha.ev rfl) (ha.ev rfl) h8) (ag rfl (aC (nc (y4 0 1 10 11 rfl) (aB (aB (aA (mv rfl (sv rfl rfl (xb rfl (fun _=>bD TF.bT)) (bo rfl rfl jB (ag rfl (aC (nc (y5 0 1 10 11 12 rfl) (aV ?_)))))))))))));obtain⟨I1,⟨k1,hi⟩,H⟩:=H;refine dM (fun k1 a w'=>∃A11 n11 c11,∃x3,Ok 96 [(0,.slice A1 n1 c1),(1,.slice A2 n2 c2),(10,.slice A9 n9 c9),(11,.slice A11 n11 c11),(12,.int .i64 x3)] a/\I1 k1 A11 n11 c11 x3 w') (fun a ha=>⟨k1,A10,n10,c10,IntKind.wrap .i64 ((n1:Int)-1),ha.weaken cs,hi⟩) ?_;rintro k1 a w13 ⟨A11,n11,c11,x3,ha,hI⟩;replace H:=H k1 A11 n11 c11 x3 w13 hI;refine cu ha ?_;refine aB (aB (aA (mv rfl (bo rfl rfl Nr (aC (nc (y6 0 1 10 11 12 45 rfl) ?_))))));refine aK rfl (fun hb=> ?_) (fun hb=> ?_)
   ·replace H:=H.1 hb;refine aN (nc (y5 0 1 10 11 12 rfl) ?_);refine dI (fun a w=>∃A20 n20 c20,Ok 96 [(0,.slice A1 n1 c1),(1,.slice A2 n2 c2),(10,.slice A9 n9 c9),(11,.slice A20 n20 c20),(12,.int .i64 x3)] a/\kY k1 I1 x3 A20 n20 c20 w) ?_ ?_
    ·rintro a w27 ⟨A20,n20,c20,ha,H⟩;unfold kY at H;refine cu ha ?_;refine aA (mv rfl (bo rfl rfl jB (ag rfl (aC ?_))));obtain⟨k4,hk,H⟩:=H;exact aT fun a ha=>⟨k4,hk,A20,n20,c20,IntKind.wrap .i64 (x3-1),ha.weaken cs,H⟩
    ·refine aV (aB (aA (mv rfl (sv rfl rfl (xb rfl (fun _=>bD TF.bT)) (bo rfl rfl dJ ?_)))));obtain⟨A12,n12,c12,w14,h9,H⟩:=H;refine sv rfl rfl (fun a ha=>gB (ha.ev rfl) (ha.ev rfl) h9) (ag rfl (aC (nc (y6 0 1 10 11 12 13 rfl) (aB (aA (mv rfl (mv rfl (mv rfl ?_))))))));obtain⟨h10,h11,a1,e1,H⟩:=H;refine ix rfl rfl (bG TF.fU TF.size_int e1 h10 h11) ?_;obtain⟨x4,h12,H⟩:=H;refine ld rfl (aJ TF.kL h12) (sz rfl rfl (xl 1 1 (.cells #[.int .i64 x4] T.int) rfl) ?_);intro p1 w15 hN;obtain⟨A13,n13,c13,w16,h13,H⟩:=H _ _ hN;refine sv rfl rfl (xb rfl (fun _=>kG h13)) (ag rfl (aC (nc (y6 0 1 10 11 12 13 rfl) (aB (aB (aA (ag rfl (aC (nc (y7 0 1 10 11 12 13 14 rfl) (aV ?_))))))))));obtain⟨I2,⟨k2,hi⟩,H⟩:=H;refine dM (fun k2 a w'=>∃A14 n14 c14,∃x5,Ok 96 [(0,.slice A1 n1 c1),(1,.slice A2 n2 c2),(10,.slice A9 n9 c9),(11,.slice A11 n11 c11),(12,.int .i64 x3),(13,.slice A14 n14 c14),(14,.int .i64 x5)] a/\I2 k2 A14 n14 c14 x5 w') (fun a ha=>⟨k2,A13,n13,c13,0,ha.weaken cs,hi⟩) ?_;rintro k2 a w17 ⟨A14,n14,c14,x5,ha,hI⟩;replace H:=H k2 A14 n14 c14 x5 w17 hI;refine cu ha ?_;refine aB (aB (aA (mv rfl (mv rfl (sv rfl rfl (xb rfl (fun _=>bD TF.bT)) (bo rfl rfl fO (aC (nc (y8 0 1 10 11 12 13 14 62 rfl) ?_))))))));refine aK rfl (fun hb=> ?_) (fun hb=> ?_)
     ·replace H:=H.1 hb;refine aN (nc (y7 0 1 10 11 12 13 14 rfl) (aB (aV (aA (mv rfl (mv rfl (mv rfl ?_)))))));obtain⟨h14,h15,a2,e2,H⟩:=H;refine ix rfl rfl (bG TF.fU TF.size_int e2 h14 h15) ?_;obtain⟨x6,h16,H⟩:=H;refine ld rfl (aJ TF.kL h16) (sz rfl rfl (xl 1 1 (.cells #[.int .i64 x6] T.int) rfl) ?_);intro p2 w18 hN;obtain⟨A15,n15,c15,w19,h17,H⟩:=H _ _ hN;refine sv rfl rfl (xb rfl (fun _=>kG h17)) (ag rfl (aC (bQ (nc (y7 0 1 10 11 12 13 14 rfl) (aA (mv rfl (bo rfl rfl dJ (ag rfl (aC ?_)))))))));obtain⟨k3,hk,H⟩:=H;exact aT fun a ha=>⟨k3,hk,A15,n15,c15,IntKind.wrap .i64 (x5+1),ha.weaken cs,H⟩
     ·replace H:=H.2 hb;refine bW (aH (aH (aZ (nc (y5 0 1 10 12 13 rfl) (aB (aA (mv rfl (sc rfl rfl FF.gZ H ?_))))))));rintro _ w20 ⟨A16,n16,c16,rfl,H⟩;refine ag rfl (aC (nc (y5 0 1 10 11 12 rfl) (aB (aA (mv rfl (mv rfl (sc rfl rfl FF.iK H ?_)))))));rintro _ w21 ⟨x7,rfl,H⟩;refine bo rfl rfl Nr (aC (nc (y6 0 1 10 11 12 77 rfl) ?_));refine aK rfl (fun hb=> ?_) (fun hb=> ?_)
      ·replace H:=H.1 hb;refine aB (aA (mv rfl (mv rfl (mv rfl (mv rfl (sc rfl rfl FF.Je H ?_))))));rintro _ w22 ⟨x8,rfl,H⟩;obtain⟨h18,h19,a3,e3,H⟩:=H;refine ix rfl rfl (bG TF.fU TF.size_int e3 h18 h19) ?_;obtain⟨⟨u1,h20⟩,h21,H⟩:=H;refine gX rfl (aF rfl) (xs rfl rfl (fE TF.size_int rfl rfl h20 h21)) ?_;intro w23 hw;replace H:=H _ hw;clear hw;refine aC (nc (y5 0 1 10 11 12 rfl) (aA (mv rfl (mv rfl (mv rfl (mv rfl ?_))))));obtain⟨h22,h23,a4,e4,H⟩:=H;refine ix rfl rfl (bG TF.fU TF.size_int e4 h22 h23) ?_;obtain⟨x9,h24,H⟩:=H;refine ld rfl (aJ TF.kL h24) (sc rfl rfl FF.dF H ?_);rintro _ w24 ⟨A17,n17,c17,rfl,H⟩;refine sc rfl rfl FF.fG H ?_;rintro _ w25 ⟨A18,n18,c18,rfl,H⟩;refine sc rfl rfl FF.nI H ?_;rintro _ w26 ⟨A19,n19,c19,rfl,H⟩;exact ag rfl (aC (bQ (aT fun a ha=>⟨A19,n19,c19,ha.weaken cs,H⟩)))
      ·replace H:=H.2 hb;exact aN (bQ (aT fun a ha=>⟨A16,n16,c16,ha.weaken cs,H⟩))
   ·replace H:=H.2 hb;refine bW (aH (aH (aZ (nc (y2 10 11 rfl) (aB (aA (mv rfl (sc rfl rfl FF.gZ H ?_))))))));rintro _ w28 ⟨A21,n21,c21,rfl,H⟩;exact mv rfl (ag rfl (ag rfl (aC (nc (y2 4 5 rfl) (aW (aG (wF rfl rfl rfl) ⟨_,rfl,_,_,_,_,_,_,rfl,H⟩))))))
 ·refine aA (mv rfl ?_);rcases tf b1 with hb|hb
  ·replace H:=H.1 hb;exact sv rfl rfl (fun a ha=>Ya (eU (ha.ev rfl)) hb) (Kw rfl rfl rfl (pt rfl rfl (aC (aT fun a ha=>⟨⟨b2,ha.weaken cs,H⟩,rfl⟩))))
  ·replace H:=H.2 hb;exact sv rfl rfl (fun a ha=>Xq (eU (ha.ev rfl)) hb) (sk rfl rfl rfl rfl (pf rfl rfl (aC (aT fun a ha=>⟨⟨false,ha.weaken cs,H⟩,rfl⟩))))
def Aw (A1:Option Addr) (n1 c1:Nat) (A2:Option Addr) (n2 c2:Nat) (K:Option Addr->Nat->Nat->World->Prop) (w:World):Prop:=
 ∃I1:Nat->Option Addr->Nat->Nat->Option Addr->Nat->Nat->World->Prop,(∃k1,I1 k1 A1 n1 c1 A2 n2 c2 w)/\∀k1 (A4:Option Addr) (n4 c4:Nat) (A5:Option Addr) (n5 c5:Nat) (w1:World),I1 k1 A4 n4 c4 A5 n5 c5 w1->((0<(n5:Int)->(Calls P F.kX #[.slice A4 n4 c4,.slice A5 n5 c5] w1 (aS fun v1 w2=>∃A6 n6 c6,∃A7 n7 c7,v1=(.tuple #[.slice A6 n6 c6,.slice A7 n7 c7])/\∃k2,k2<k1/\I1 k2 A5 n5 c5 A7 n7 c7 w2)))/\(¬(0<(n5:Int))->(K A4 n4 c4 w1)))
theorem Qs (A1:Option Addr) (n1 c1:Nat) (A2:Option Addr) (n2 c2:Nat) (K:Option Addr->Nat->Nat->World->Prop) (w:World) (H:Aw A1 n1 c1 A2 n2 c2 K w):Calls P F.sJ #[.slice A1 n1 c1,.slice A2 n2 c2] w (aS fun v w'=>∃A3 n3 c3,v=(.slice A3 n3 c3)/\K A3 n3 c3 w'):=by
 unfold Aw at H;refine aY (P:=P) Tryz.func231 rfl [(0,.slice A1 n1 c1),(1,.slice A2 n2 c2)] 19 rfl rfl (aa rfl (aa rfl az)) (aB (aA (ag rfl (aC (nc (y2 0 1 rfl) (aB (aV ?_)))))));obtain⟨I1,⟨k1,hi⟩,H⟩:=H;refine dM (fun k1 a w'=>∃A4 n4 c4,∃A5 n5 c5,Ok 19 [(0,.slice A4 n4 c4),(1,.slice A5 n5 c5)] a/\I1 k1 A4 n4 c4 A5 n5 c5 w') (fun a ha=>⟨k1,A1,n1,c1,A2,n2,c2,ha.weaken cs,hi⟩) ?_;rintro k1 a w1 ⟨A4,n4,c4,A5,n5,c5,ha,hI⟩;replace H:=H k1 A4 n4 c4 A5 n5 c5 w1 hI;refine cu ha ?_;refine aB (aB (aA (mv rfl (sv rfl rfl (xb rfl (fun _=>bD TF.bT)) (bo rfl rfl kF (aC (nc (y3 0 1 9 rfl) ?_)))))));refine aK rfl (fun hb=> ?_) (fun hb=> ?_)
 ·replace H:=H.1 hb;refine aN (nc (y2 0 1 rfl) (aV (aB (aA (mv rfl (mv rfl (sc rfl rfl FF.nG H ?_)))))));rintro _ w2 ⟨A6,n6,c6,A7,n7,c7,rfl,H⟩;refine mv rfl (sv rfl rfl (xe rfl rfl) (sv rfl rfl (xe rfl rfl) (ag rfl (ag rfl (aC (nc (y2 1 6 rfl) (aB (aA (mv rfl (ag rfl (aC (nc (y2 0 6 rfl) (aA (mv rfl (ag rfl (aC (bQ ?_)))))))))))))))));obtain⟨k2,hk,H⟩:=H;exact aT fun a ha=>⟨k2,hk,A5,n5,c5,A7,n7,c7,ha.weaken cs,H⟩
 ·replace H:=H.2 hb;exact bW (aH (aH (aZ (nc (kp 0 rfl zz) (aB (aA (mv rfl (ag rfl (aC (nc (kp 4 rfl zz) (aW (aG (res1 rfl rfl) ⟨_,rfl,_,_,_,rfl,H⟩))))))))))))
end Go.Proofs.YtfedkedpgdphdaaGreatDoor
