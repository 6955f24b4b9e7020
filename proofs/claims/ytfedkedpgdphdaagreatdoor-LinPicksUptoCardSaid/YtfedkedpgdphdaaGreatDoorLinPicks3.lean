/- Towards: The law LinPicks answers true at every input whose reading is of bulk at most 1048576, and the input reads as it did; the tables that it reads are tied to the program's text. Gathered by a program (pack.py) out of smaller texts. -/
import Derived.Test.YtfedkedpgdphdaaGreatDoorLinPicks2
set_option linter.unusedSectionVars false
set_option linter.unusedVariables false
set_option linter.unusedSimpArgs false
set_option linter.deprecated false
set_option linter.unnecessarySimpa false
set_option maxHeartbeats 2000000
set_option maxRecDepth 20000
namespace Go.Proofs.YtfedkedpgdphdaaGreatDoor
open Wk
abbrev IR (w:World) (A:Option Addr) (n c:Nat) (l:List Nat):Prop:=KR T.int .i64 w A n c l
def IN (w:World) (A:Option Addr) (n c:Nat) (x:Nat):Prop:=∃l:List Nat,IR w A n c l/\Pm l/\nv l=x
section
variable {w w':World} {A B:Option Addr} {n c m d x y:Nat} {l k:List Nat}
theorem IN.ext (h:IN w A n c x) (e:Ext w w'):IN w' A n c x:=by
 obtain⟨l,h1,h2⟩:=h
 exact⟨l,h1.ext e,h2⟩
theorem IN.zero (h:IN w A n c x):n=0↔x=0:=by
 obtain⟨l,h1,h2,rfl⟩:=h
 rw[h2.zero,<-h1.len]
 exact⟨fun e=>List.eq_nil_of_length_eq_zero e,fun e=>by rw[e];rfl⟩
theorem IN.le (h:IN w A n c x) {k:Nat} (hk:Lb x k):n<=k:=by
 obtain⟨l,h1,h2,rfl⟩:=h
 rw[<-h1.len]
 exact Lb.len h2 hk
theorem IN.lb (h:IN w A n c x):Lb x n:=by
 obtain⟨l,h1,h2,rfl⟩:=h
 rw[<-h1.len]
 exact Lb.of h2.lo
theorem IN.nil (w:World):IN w none 0 0 0:=⟨[],KR.nil w,Pm.nil,rfl⟩
theorem IR.make {n:Nat} (hn:Sn n):∃w',(Instr.makeSlice T.kK (.int .i64 (n:Int)) (.int .i64 (n:Int))).run P w= .ok (.slice (some ⟨w.heap.size,0,none⟩) n n) w'/\IR w' (some ⟨w.heap.size,0,none⟩) n n (List.replicate n 0)/\Ext w w':=KR.make (b:=8) (by kernel_rfl) (by kernel_rfl) (by kernel_rfl) (by decide) hn
theorem IR.Qi {n:Nat} (hn:Sn n):∃w',(Instr.makeSlice T.kK (.int .i64 0) (.int .i64 (n:Int))).run P w= .ok (.slice (some ⟨w.heap.size,0,none⟩) 0 n) w'/\IR w' (some ⟨w.heap.size,0,none⟩) 0 n []/\Ext w w':=KR.Qi (b:=8) (by kernel_rfl) (by kernel_rfl) (by kernel_rfl) (by decide) hn
theorem IR.push {w0 w1:World} {d:Nat} {p:Addr} (h:IR w A n c l) (hA:∀b,At A b->w0.heap.size<=b) (E:Ext w0 w) {T':TypeId} (hN:New w (.cells #[.int .i64 (d:Int)] T') p w1) (hn:Sn n):
  ∃A' c' w',(Builtin.append_ #[T.kK,T.kK] T.kK #[.slice A n c,.slice (some p) 1 1]).run P w1= .ok (.slice A' (n+1) c') w'/\IR w' A' (n+1) c' (l++[d])/\Ext w0 w'/\∀b,At A' b->w0.heap.size<=b:=KR.push (b:=8) (x:=0) h (by kernel_rfl) (by kernel_rfl) (by decide) hA E hN hn
theorem Oe (h:IR w A n c l) (lo:Lo l) (hn:Sn n):Calls P F.iY #[.slice A n c] w (aS fun v w'=>w'=w/\∃m,v= .slice A m c/\m<=n/\IN w A m c (nv l)):=by
 refine aS.mono (Vt A n c (fun B m d w'=>w'=w/\B=A/\d=c/\m<=n/\IN w A m c (nv l)) w ?_) (by rintro _ w' ⟨B,m,d,rfl,rfl,rfl,rfl,h1,h2⟩;exact⟨rfl,m,rfl,h1,h2⟩)
 unfold xA
 unfold Sn at hn
 have hl:=h.len
 have hle:n<=c:=h.le
 have fin:∀j:Nat,j<=n->(∀x∈l.drop j,x=0)->(j=0\/lg l (j-1)≠0)->IN w A j c (nv l):=fun j hj hz ht=>by
  refine⟨l.take j,h.cut hj,⟨lo.take j,fun x hx=> ?_⟩,?_⟩
  ·rcases ht with rfl|ht
   ·simp at hx
   ·rw[List.getLast?_take] at hx
    have hj0:j≠0:=by rintro rfl;simp at hx
    rw[if_neg hj0,aCb (by omega:j-1<l.length)] at hx
    simp at hx
    subst hx
    exact ht
  ·rw[xN l j (by omega),Ns hz];simp
 refine⟨fun q i=>∃j:Nat,i=j/\q=j/\j<=n/\∀x∈l.drop j,x=0,⟨n,n,rfl,rfl,Nat.le_refl _,fun x hx=> ?_⟩,?_⟩
 ·rw[List.drop_eq_nil_of_le (by omega)] at hx;cases hx
 rintro j i ⟨_,rfl,rfl,i1,hz⟩
 have stop:(j=0\/lg l (j-1)≠0)->0<=(j:Int)/\(j:Int)<=(c:Int)/\(w=w/\A=A/\c=c/\(j:Int).toNat<=n/\IN w A (j:Int).toNat c (nv l)):=fun h=>⟨by omega,by omega,rfl,rfl,rfl,by simpa using i1,by simpa using fin j i1 hz h⟩
 refine⟨fun hpos=> ?_,fun hn0=>⟨fun h=>(by cases h),fun _=>stop (.inl (by omega))⟩⟩
 have ew:IntKind.wrap .i64 ((j:Int)-1)=((j-1:Nat):Int):=by rw[wrap_i64 (by omega) (by omega)];omega
 obtain⟨ad,hA,hv,hc,_⟩:=h.at_ (i:=((j-1:Nat):Int)) (by omega) (by omega)
 rw[ew]
 simp only[Int.toNat_natCast] at hc⊢
 refine⟨by omega,by omega,ad,hA,_,hc,fun hb=> ?_,fun hb=>stop (.inr ?_)⟩
 ·have hb:=of_decide_eq_true hb
  refine⟨j-1,by omega,j-1,ew,rfl,by omega,fun x hx=> ?_⟩
  rw[List.drop_eq_getElem_cons (by omega:j-1<l.length),show j-1+1=j by omega] at hx
  rcases List.mem_cons.1 hx with rfl|hx
  ·have:=Zu (List.getElem?_eq_getElem (by omega:j-1<l.length))
   omega
  ·exact hz x hx
 ·have:=of_decide_eq_false hb
  omega
theorem Xo (h:IR w A n c l) (j:Nat):Calls P F.jW #[.slice A n c,.int .i64 (j:Int)] w (aS fun v w'=>w'=w/\v= .int .i64 (lg l j:Int)):=by
 refine aS.mono (Vo A n c (j:Int) (fun v w'=>w'=w/\v=(lg l j:Int)) w ?_) (by rintro _ w' ⟨v,rfl,h,rfl⟩;exact⟨h,rfl⟩)
 have hl:=h.len
 refine⟨fun hlt=> ?_,fun hge=>⟨rfl,?_⟩⟩
 ·obtain⟨ad,hA,hv,hc,_⟩:=h.at_ (i:=(j:Int)) (by omega) hlt
  exact⟨by omega,hlt,ad,hA,_,hc,rfl,rfl⟩
 ·rw[Ox (by omega)];rfl
theorem Yl (hx:IN w A n c x) (hy:IN w B m d y) (hn:Sn n):Calls P F.iT #[.slice A n c,.slice B m d] w (aS fun v w'=>v= .int .i64 (xQ x y)/\aP w w'):=by
 obtain⟨l,hL,lim,rfl⟩:=hx
 obtain⟨k,hK,lik,rfl⟩:=hy
 refine aS.mono (Rf A n c B m d (fun i w'=>i=xQ (nv l) (nv k)/\aP w w') w ?_) (by rintro _ w' ⟨i,rfl,rfl,h⟩;exact⟨rfl,h⟩)
 unfold Sn at hn
 have hl:=hL.len
 have hk:=hK.len
 have cl:=aAr lim lik
 unfold uN
 refine⟨fun hne=>⟨fun hlt=>⟨?_,aP.refl w⟩,fun hge=>⟨?_,aP.refl w⟩⟩,fun he=> ?_⟩
 ·have:=cl.1 (by omega)
  unfold xQ;rw[if_pos this]
 ·have:=cl.2 (by omega)
  unfold xQ;rw[if_neg (by omega),if_pos this]
 have hnm:n=m:=by omega
 refine⟨fun q i w1=>q=(i+1).toNat/\-1<=i/\i<n/\aP w w1/\l.drop (i+1).toNat=k.drop (i+1).toNat,⟨n,?_⟩,?_⟩
 ·rw[wrap_i64 (by omega) (by omega)]
  refine⟨by omega,by omega,by omega,aP.refl w,?_⟩
  rw[List.drop_eq_nil_of_le (by omega),List.drop_eq_nil_of_le (by omega)]
 rintro q i w1 ⟨rfl,i0,i1,D1,hd⟩
 refine⟨fun hpos=> ?_,fun hneg=> ?_⟩
 ·obtain⟨ad,hA,hv,hc,_⟩:=(hL.ext (Ext.aO D1)).at_ (i:=i) (by omega) (by omega)
  obtain⟨be,hB,hv',hc',_⟩:=(hK.ext (Ext.aO D1)).at_ (i:=i) (by omega) (by omega)
  rw[show(i+1).toNat=i.toNat+1 by omega] at hd
  refine⟨hpos,by omega,ad,hA,_,hc,hpos,by omega,be,hB,_,hc',fun w2 D2=>⟨fun hlt=> ?_,fun hge=> ?_⟩⟩
  ·have:=Yd lim.lo lik.lo (by omega) (by omega) hd (by omega)
   refine⟨?_,D1.trans D2⟩
   unfold xQ;rw[if_pos this]
  ·have D12:=D1.trans D2
   obtain⟨ad,hA,hv,hc,_⟩:=(hL.ext (Ext.aO D12)).at_ (i:=i) (by omega) (by omega)
   obtain⟨be,hB,hv',hc',_⟩:=(hK.ext (Ext.aO D12)).at_ (i:=i) (by omega) (by omega)
   refine⟨hpos,by omega,ad,hA,_,hc,hpos,by omega,be,hB,_,hc',fun w3 D3=>⟨fun hgt=> ?_,fun hle=> ?_⟩⟩
   ·have:=Yd lik.lo lim.lo (by omega) (by omega) hd.symm (by omega)
    refine⟨?_,D12.trans D3⟩
    unfold xQ;rw[if_neg (by omega),if_pos this]
   ·have ew:=wrap_i64 (i:=i-1) (by omega) (by omega)
    refine⟨i.toNat,by omega,?_⟩
    rw[ew]
    refine⟨by omega,by omega,by omega,D12.trans D3,?_⟩
    rw[show(i-1+1).toNat=i.toNat by omega]
    obtain⟨a1,a2⟩:=List.getElem?_eq_some_iff.1 hv
    obtain⟨b1,b2⟩:=List.getElem?_eq_some_iff.1 hv'
    rw[List.drop_eq_getElem_cons a1,List.drop_eq_getElem_cons b1,hd,a2,b2]
    congr 1
    omega
 ·rw[show(i+1).toNat=0 by omega] at hd
  simp only[List.drop_zero] at hd
  refine⟨?_,D1⟩
  unfold xQ;rw[hd,if_neg (by omega),if_neg (by omega)]
theorem aHd {x y o:List Nat} {i b e b':Nat} (hi:i<o.length) (h:nv (o.take i)+BB^i*b=nv (x.take i)+nv (y.take i)) (hd:e+BB*b'=lg x i+lg y i+b):nv ((o.set i e).take (i+1))+BB^(i+1)*b'=nv (x.take (i+1))+nv (y.take (i+1)):=by
 rw[(aBm hi (u:=o) (d:=e) rfl).1,jX x,jX y,Nat.add_assoc,Jz,hd,Nat.mul_add,Nat.mul_add]
 omega
theorem aJt (hx:IN w A n c x) (hy:IN w B m d y) (hn:Sn (n+1)) (hm:Sn (m+1)):Calls P F.sU #[.slice A n c,.slice B m d] w (aS fun v w'=>∃A n c,v= .slice A n c/\Ext w w'/\IN w' A n c (x+y)):=by
 obtain⟨l,hL,lim,rfl⟩:=hx
 obtain⟨k,hK,lik,rfl⟩:=hy
 refine aS.mono (Qo A n c B m d (fun A n c w'=>Ext w w'/\IN w' A n c (nv l+nv k)) w ?_) (by rintro _ w' ⟨A,n,c,rfl,h⟩;exact⟨A,n,c,rfl,h⟩)
 unfold Sn at hn hm
 have hl:=hL.len
 have hk:=hK.len
 have hB:BB=1000000000:=rfl
 have main:∀N:Nat,n<=N->m<=N->N+1<=1099511627776->iG w A n c B m d (fun A n c w'=>Ext w w'/\IN w' A n c (nv l+nv k)) (N:Int):=fun N h1 h2 h3=>by
  unfold iG
  have eN:IntKind.wrap .i64 ((N:Int)+1)=((N+1:Nat):Int):=by rw[wrap_i64 (by omega) (by omega)];omega
  rw[eN]
  obtain⟨w1,hr,hO1,E1⟩:=IR.make (w:=w) (n:=N+1) h3
  refine⟨_,N+1,N+1,w1,hr,fun q x1 i w2=>∃(o:List Nat) (b j:Nat),i=j/\q=N+1-j/\j<=N+1/\x1=(b:Int)/\b<=1/\IR w2 (some ⟨w.heap.size,0,none⟩) (N+1) (N+1) o/\Lo o/\nv (o.take j)+BB^j*b=nv (l.take j)+nv (k.take j)/\Ext w w2,⟨N+1,_,0,0,rfl,rfl,by omega,rfl,by omega,hO1,Dp _,by simp[nv],E1⟩,?_⟩
  rintro q x1 i w2 ⟨o,b,j,rfl,rfl,hj,rfl,hb,hO,lo,hs,E2⟩
  have hol:=hO.len
  refine⟨fun hlt=> ?_,fun hge=> ?_⟩
  ·refine aS.mono (Xo (hL.ext E2) j) ?_
   rintro _ w3 ⟨rfl,rfl⟩
   refine⟨_,rfl,aS.mono (Xo (hK.ext E2) j) ?_⟩
   rintro _ w4 ⟨rfl,rfl⟩
   refine⟨_,rfl,?_⟩
   have gx:=lim.lo.lg j
   have gy:=lik.lo.lg j
   obtain⟨od,hOd,_,hoc,hof⟩:=hO.at_ (i:=(j:Int)) (by omega) (by omega)
   simp only[Int.toNat_natCast] at hoc hof⊢
   have ev:IntKind.wrap .i64 (IntKind.wrap .i64 ((lg l j:Int)+(lg k j:Int))+(b:Int))=((lg l j+lg k j+b:Nat):Int):=by
    rw[wrap_i64 (i:=(lg l j:Int)+(lg k j:Int)) (by omega) (by omega),wrap_i64 (by omega) (by omega)];omega
   rw[ev]
   have e1:Int.tdiv ((lg l j+lg k j+b:Nat):Int) 1000000000=(((lg l j+lg k j+b)/BB:Nat):Int):=(Int.ofNat_tdiv _ 1000000000).symm
   have e2:Int.tmod ((lg l j+lg k j+b:Nat):Int) 1000000000=(((lg l j+lg k j+b)%BB:Nat):Int):=(Int.ofNat_tmod _ 1000000000).symm
   rw[e1,e2]
   have hde:=Nat.mod_add_div (lg l j+lg k j+b) BB
   have hd1:(lg l j+lg k j+b)%BB<BB:=Nat.mod_lt _ (by decide)
   have hq:(lg l j+lg k j+b)/BB<=1:=by rw[hB];omega
   generalize (lg l j+lg k j+b)/BB=Q at*
   generalize (lg l j+lg k j+b)%BB=R at*
   refine⟨by omega,by omega,od,hOd,⟨_,hoc⟩,hof,fun w5 hw=> ?_⟩
   obtain⟨hO5,hK5⟩:=hO.put hOd (j:=j) (d:=R) (by omega) hw
   rw[wrap_i64 (i:=(Q:Int)) (by omega) (by omega),wrap_i64 (by omega) (by omega)]
   exact⟨N+1-(j+1),by omega,_,Q,j+1,by omega,rfl,by omega,rfl,hq,hO5,lo.set hd1,aHd (by omega) hs hde,E2.over hK5 fun i hi ha=>by have:=at_new ha;omega⟩
  ·have hj:j=N+1:=by omega
   subst hj
   rw[List.take_of_length_le (by omega),List.take_of_length_le (by omega),List.take_of_length_le (by omega)] at hs
   have b0:b=0:=by
    have X:=xR lim.lo
    have Y:=xR lik.lo
    have X':nv l<BB^N:=Nat.lt_of_lt_of_le X (Nat.pow_le_pow_right (by decide) (by omega))
    have Y':nv k<BB^N:=Nat.lt_of_lt_of_le Y (Nat.pow_le_pow_right (by decide) (by omega))
    have:BB^N*2<=BB^(N+1):=by rw[Nat.pow_succ];exact Nat.mul_le_mul_left _ (by decide)
    rcases Nat.eq_zero_or_pos b with h|h
    ·exact h
    ·have:BB^(N+1)*1<=BB^(N+1)*b:=Nat.mul_le_mul_left _ h
     omega
   rw[b0,Nat.mul_zero,Nat.add_zero] at hs
   refine aS.mono (Oe hO lo (by unfold Sn;omega)) ?_
   rintro _ w6 ⟨rfl,m',rfl,_,hN⟩
   rw[hs] at hN
   exact⟨_,_,_,rfl,E2,hN⟩
 exact⟨fun h=>main m (by omega) (by omega) (by omega),fun h=>main n (by omega) (by omega) (by omega)⟩
theorem aC1 (hx:IN w A n c x) (hy:IN w B m d y) (hle:y<=x) (hn:Sn n):Calls P F.kP #[.slice A n c,.slice B m d] w (aS fun v w'=>∃A n c,v= .slice A n c/\Ext w w'/\IN w' A n c (x-y)):=by
 obtain⟨l,hL,lim,rfl⟩:=hx
 obtain⟨k,hK,lik,rfl⟩:=hy
 refine aS.mono (Qw A n c B m d (fun A n c w'=>Ext w w'/\IN w' A n c (nv l-nv k)) w ?_) (by rintro _ w' ⟨A,n,c,rfl,h⟩;exact⟨A,n,c,rfl,h⟩)
 have hn0:=hn
 unfold Sn at hn
 have hl:=hL.len
 have hk:=hK.len
 have hmn:k.length<=l.length:=Nat.le_of_not_lt fun h=>by have:=(aAr lim lik).1 h;omega
 have hB:BB=1000000000:=rfl
 obtain⟨w1,hr,hO1,E1⟩:=IR.make (w:=w) hn0
 refine⟨_,n,n,w1,hr,fun q x1 i w2=>∃(o:List Nat) (b j:Nat),i=j/\q=n-j/\j<=n/\x1=(b:Int)/\b<=1/\IR w2 (some ⟨w.heap.size,0,none⟩) n n o/\Lo o/\nv (o.take j)+nv (k.take j)=nv (l.take j)+BB^j*b/\Ext w w2,⟨n,_,0,0,rfl,rfl,by omega,rfl,by omega,hO1,Dp n,by simp[nv],E1⟩,?_⟩
 rintro q x1 i w2 ⟨o,b,j,rfl,rfl,hj,rfl,hb,hO,lo,hs,E2⟩
 have hol:=hO.len
 refine⟨fun hlt=> ?_,fun hge=> ?_⟩
 ·obtain⟨ad,hA,hv,hc,_⟩:=(hL.ext E2).at_ (i:=(j:Int)) (by omega) (by omega)
  refine⟨fun _=>False,by omega,hlt,ad,hA,_,hc,id,fun w4 D4=> ?_⟩
  have E4:=E2.drawn D4
  refine aS.mono (Xo (hK.ext E4) j) ?_
  rintro _ w3 ⟨rfl,rfl⟩
  refine⟨_,rfl,Ext.aO D4,fun w6 D6=> ?_⟩
  have E6:=E4.drawn D6
  have hO6:=(hO.ext (Ext.aO D4)).ext (Ext.aO D6)
  have gx:=lim.lo.lg j
  have gy:=lik.lo.lg j
  simp only[Int.toNat_natCast]
  have next:∀e b':Nat,b'<=1->e<BB->e+lg k j+b=lg l j+BB*b'->jI (j:Int) n (some ⟨w.heap.size,0,none⟩) w6 (n-j) (fun q x1 i w2=>∃(o:List Nat) (b j:Nat),i=j/\q=n-j/\j<=n/\x1=(b:Int)/\b<=1/\IR w2 (some ⟨w.heap.size,0,none⟩) n n o/\Lo o/\nv (o.take j)+nv (k.take j)=nv (l.take j)+BB^j*b/\Ext w w2) (b':Int) (e:Int):=fun e b' hb' he hd=>by
   obtain⟨od,hOd,_,hoc,hof⟩:=hO6.at_ (i:=(j:Int)) (by omega) (by omega)
   refine⟨by omega,by omega,od,hOd,⟨_,hoc⟩,hof,fun w7 hw=> ?_⟩
   simp only[Int.toNat_natCast] at hw
   obtain⟨hO7,hK7⟩:=hO6.put hOd (j:=j) (d:=e) (by omega) hw
   rw[wrap_i64 (by omega) (by omega)]
   exact⟨n-(j+1),by omega,_,b',j+1,by omega,rfl,by omega,rfl,hb',hO7,lo.set he,aEu (by omega) (by omega) hs hd,E6.over hK7 fun i hi ha=>by have:=at_new ha;omega⟩
  rw[wrap_i64 (i:=(lg l j:Int)-(lg k j:Int)) (by omega) (by omega),wrap_i64 (i:=(lg l j:Int)-(lg k j:Int)-(b:Int)) (by omega) (by omega)]
  refine⟨fun hneg=> ?_,fun hpos=> ?_⟩
  ·have:=next (lg l j+BB-lg k j-b) 1 (by omega) (by omega) (by omega)
   rw[wrap_i64 (by omega) (by omega)]
   have e:(lg l j:Int)-(lg k j:Int)-(b:Int)+1000000000=((lg l j+BB-lg k j-b:Nat):Int):=by omega
   rw[e]
   exact this
  ·have:=next (lg l j-lg k j-b) 0 (by omega) (by omega) (by omega)
   have e:(lg l j:Int)-(lg k j:Int)-(b:Int)=((lg l j-lg k j-b:Nat):Int):=by omega
   rw[e]
   exact this
 ·have hj:j=l.length:=by omega
  subst hj
  obtain⟨b0,hv⟩:=aGp (by omega) lo hmn hle hs
  refine aS.mono (Oe hO lo hn0) ?_
  rintro _ w6 ⟨rfl,m',rfl,_,hN⟩
  rw[hv] at hN
  exact⟨_,_,_,rfl,E2,hN⟩
end
section
variable {w w':World} {A B:Option Addr} {n c m d x y:Nat} {l k:List Nat}
theorem Qc (hx:IN w A n c x) (hy:IN w B m d y) (hn:Sn (n+m)):Calls P F.gI #[.slice A n c,.slice B m d] w (aS fun v w'=>∃A n c,v= .slice A n c/\Ext w w'/\IN w' A n c (x*y)):=by
 obtain⟨l,hL,lim,rfl⟩:=hx
 obtain⟨k,hK,lik,rfl⟩:=hy
 refine aS.mono (Qq A n c B m d (fun A n c w'=>Ext w w'/\IN w' A n c (nv l*nv k)) w ?_) (by rintro _ w' ⟨A,n,c,rfl,h⟩;exact⟨A,n,c,rfl,h⟩)
 have hn0:=hn
 unfold Sn at hn
 have hl:=hL.len
 have hk:=hK.len
 have hB:BB=1000000000:=rfl
 have hBB:BB*BB=1000000000000000000:=rfl
 have Y1:=xR lik.lo
 unfold uO
 rw[wrap_i64 (i:=(n:Int)+(m:Int)) (by omega) (by omega)]
 obtain⟨w1,hr,hO1,E1⟩:=IR.make (w:=w) hn0
 rw[Int.natCast_add] at hr
 refine⟨_,n+m,n+m,w1,hr,fun q i w2=>∃(o:List Nat) (j:Nat),i=j/\q=n-j/\j<=n/\IR w2 (some ⟨w.heap.size,0,none⟩) (n+m) (n+m) o/\Lo o/\nv o=nv (l.take j)*nv k/\Ext w w2,⟨n,List.replicate (n+m) 0,0,rfl,rfl,by omega,hO1,Dp _,?_,E1⟩,?_⟩
 ·rw[Ns fun x hx=>(List.mem_replicate.1 hx).2];simp[nv]
 rintro q i w2 ⟨o,j,rfl,rfl,hj,hO,lo,hs,E2⟩
 have hol:=hO.len
 refine⟨fun hlt=> ?_,fun hge=> ?_⟩
 ·have hj:j<n:=by omega
  have gx:=lim.lo.lg j
  have hnext:nv (l.take (j+1))*nv k=nv (l.take j)*nv k+BB^j*(lg l j*nv k):=by
   rw[jX,Nat.add_mul,Nat.mul_assoc]
  have hlo0:lg o (j+m)=0:=aIa (by
   rw[hs,Nat.pow_add]
   have h1:=xR (lim.lo.take j)
   rw[List.length_take,Nat.min_eq_left (by omega)] at h1
   rw[hk] at Y1
   exact Nat.mul_lt_mul'' h1 Y1)
  refine⟨fun q x3 i2 w4=>∃(o:List Nat) (cr t:Nat),i2=t/\q=m-t/\t<=m/\x3=(cr:Int)/\cr<BB/\IR w4 (some ⟨w.heap.size,0,none⟩) (n+m) (n+m) o/\Lo o/\lg o (j+m)=0/\nv o+BB^(j+t)*cr=nv (l.take j)*nv k+BB^j*(lg l j*nv (k.take t))/\Ext w w4,⟨m,o,0,0,rfl,rfl,by omega,rfl,by decide,hO,lo,hlo0,by simp[nv,hs],E2⟩,?_⟩
  rintro q x3 i2 w4 ⟨o',cr,t,rfl,rfl,ht,rfl,hcr,hO',lo',hz',hs',E4⟩
  have hol':=hO'.len
  refine⟨fun hlt2=> ?_,fun hge2=> ?_⟩
  ·have ht:t<m:=by omega
   obtain⟨ad,hA,_,hc,_⟩:=(hL.ext E4).at_ (i:=(j:Int)) (by omega) (by omega)
   obtain⟨be,hBe,_,hbc,_⟩:=(hK.ext E4).at_ (i:=(t:Int)) (by omega) (by omega)
   have ejt:IntKind.wrap .i64 ((j:Int)+(t:Int))=((j+t:Nat):Int):=by rw[wrap_i64 (by omega) (by omega)];omega
   obtain⟨od,hOd,_,hoc,hof⟩:=hO'.at_ (i:=((j+t:Nat):Int)) (by omega) (by omega)
   rw[ejt]
   simp only[Int.toNat_natCast] at hoc hof hc hbc⊢
   have gy:=lik.lo.lg t
   have go:=lo'.lg (j+t)
   have hd1:(lg l j*lg k t+lg o' (j+t)+cr)%BB<BB:=Nat.mod_lt _ (by decide)
   have hde:=Nat.mod_add_div (lg l j*lg k t+lg o' (j+t)+cr) BB
   obtain⟨hc1,hc2⟩:=aEd gx gy go hcr hde hd1
   have ev:IntKind.wrap .i64 (IntKind.wrap .i64 ((lg o' (j+t):Int)+IntKind.wrap .i64 ((lg l j:Int)*(lg k t:Int)))+(cr:Int))=((lg l j*lg k t+lg o' (j+t)+cr:Nat):Int):=by
    rw[<-Int.natCast_mul]
    generalize lg l j*lg k t=M at*
    rw[wrap_i64 (i:=(M:Int)) (by omega) (by omega),wrap_i64 (i:=(lg o' (j+t):Int)+_) (by omega) (by omega),wrap_i64 (by omega) (by omega)]
    omega
   have e1:Int.tdiv ((lg l j*lg k t+lg o' (j+t)+cr:Nat):Int) 1000000000=(((lg l j*lg k t+lg o' (j+t)+cr)/BB:Nat):Int):=(Int.ofNat_tdiv _ 1000000000).symm
   have e2:Int.tmod ((lg l j*lg k t+lg o' (j+t)+cr:Nat):Int) 1000000000=(((lg l j*lg k t+lg o' (j+t)+cr)%BB:Nat):Int):=(Int.ofNat_tmod _ 1000000000).symm
   have hOx:∀w5,aP w4 w5->IR w5 (some ⟨w.heap.size,0,none⟩) (n+m) (n+m) o':=fun w5 D=>hO'.ext (Ext.aO D)
   refine⟨by omega,by omega,od,hOd,_,hoc,by omega,by omega,ad,hA,_,hc,by omega,by omega,be,hBe,_,hbc,fun w5 D5=> ?_⟩
   have hO5:=hOx w5 D5
   obtain⟨od,hOd,_,hoc,hof⟩:=hO5.at_ (i:=((j+t:Nat):Int)) (by omega) (by omega)
   simp only[Int.toNat_natCast] at hoc hof
   refine⟨by omega,by omega,od,hOd,⟨_,hoc⟩,hof,fun w6 hw=>⟨m-(t+1),by omega,?_⟩⟩
   rw[ev,e2] at hw
   rw[ev,e1]
   clear ev e1 e2
   generalize (lg l j*lg k t+lg o' (j+t)+cr)/BB=Q at*
   generalize (lg l j*lg k t+lg o' (j+t)+cr)%BB=R at*
   obtain⟨hO6,hK6⟩:=hO5.put hOd (j:=j+t) (d:=R) (by omega) hw
   rw[wrap_i64 (i:=(Q:Int)) (by omega) (by omega),wrap_i64 (by omega) (by omega)]
   refine⟨o'.set (j+t) R,Q,t+1,by omega,rfl,by omega,rfl,hc1,hO6,lo'.set hd1,?_,aE1 (by omega) hs' hde,(E4.drawn D5).over hK6 fun i hi ha=> ?_⟩
   ·rw[Rt (by omega),if_neg (by omega)];exact hz'
   ·have:=at_new ha
    omega
  ·have ht:t=m:=by omega
   subst ht
   have ejt:IntKind.wrap .i64 ((j:Int)+(t:Int))=((j+t:Nat):Int):=by rw[wrap_i64 (by omega) (by omega)];omega
   obtain⟨od,hOd,_,hoc,hof⟩:=hO'.at_ (i:=((j+t:Nat):Int)) (by omega) (by omega)
   rw[ejt]
   simp only[Int.toNat_natCast] at hoc hof⊢
   refine⟨by omega,by omega,od,hOd,⟨_,hoc⟩,hof,fun w6 hw=>⟨n-(j+1),by omega,?_⟩⟩
   obtain⟨hO6,hK6⟩:=hO'.put hOd (j:=j+t) (d:=cr) (by omega) hw
   rw[wrap_i64 (by omega) (by omega)]
   refine⟨o'.set (j+t) cr,j+1,by omega,rfl,by omega,hO6,lo'.set hcr,?_,E4.over hK6 fun i hi ha=> ?_⟩
   ·have h1:=aC6 o' (j+t) cr (by omega)
    rw[hz',Nat.mul_zero,Nat.add_zero] at h1
    rw[List.take_of_length_le (by omega:k.length<=t)] at hs'
    rw[h1,hs',hnext]
   ·have:=at_new ha
    omega
 ·have hj:j=l.length:=by omega
  subst hj
  rw[List.take_length] at hs
  refine aS.mono (Oe hO lo hn0) ?_
  rintro _ w4 ⟨rfl,m',rfl,hm',hN⟩
  rw[hs] at hN
  exact⟨_,_,_,rfl,E2,hN⟩
theorem aCa (h:IN w A n c x):Calls P F.pO #[.slice A n c] w (aS fun v w'=>w'=w/\∃(X:Nat) (b:Bool),v= .tuple #[.int .i64 (X:Int),.bool b]/\(b=true->X=x/\x<BB*BB)):=by
 refine aS.mono (Ui A n c (fun i b w'=>w'=w/\∃X:Nat,i=X/\(b=true->X=x/\x<BB*BB)) w ?_) (by rintro _ w' ⟨i,b,rfl,rfl,X,rfl,h⟩;exact⟨rfl,X,b,rfl,h⟩)
 have lb:=h.lb
 obtain⟨l,hL,lim,rfl⟩:=h
 have hl:=hL.len
 have hB:BB=1000000000:=rfl
 refine⟨fun _=>⟨rfl,0,rfl,fun h=>by cases h⟩,fun h2=> ?_⟩
 refine aS.mono (Xo hL 1) ?_
 rintro _ w1 ⟨rfl,rfl⟩
 refine⟨_,rfl,aS.mono (Xo hL 0) ?_⟩
 rintro _ w2 ⟨rfl,rfl⟩
 have g0:=lim.lo.lg 0
 have g1:=lim.lo.lg 1
 refine⟨_,rfl,rfl,nv l,?_,fun _=>⟨rfl,?_⟩⟩
 ·have e:nv l=lg l 1*1000000000+lg l 0:=by
   match l,hl with
   |[],_=>rfl
   |[a],_=>simp[nv,lg]
   |[a,b],_=>show a+BB*(b+BB*0)=b*1000000000+a;rw[hB];omega
   |_::_::_::_,hl=>simp at hl;omega
  rw[wrap_i64 (i:=(lg l 1:Int)*1000000000) (by omega) (by omega),wrap_i64 (by omega) (by omega),e]
  omega
 ·have:Lb (nv l) 2:=lb.mono (by omega)
  unfold Lb at this
  rwa [Nat.pow_two] at this
theorem sK (hx:x<9223372036854775808):Calls P F.dS #[.int .i64 (x:Int)] w (aS fun v w'=>∃A n c,v= .slice A n c/\Ext w w'/\IN w' A n c x):=by
 refine aS.mono (Qu (x:Int) (fun A n c w'=>Ext w w'/\IN w' A n c x) w ?_) (by rintro _ w' ⟨A,n,c,rfl,h⟩;exact⟨A,n,c,rfl,h⟩)
 have hB:BB=1000000000:=rfl
 obtain⟨w1,hr,hO1,E1⟩:=IR.Qi (w:=w) (n:=0) (by decide)
 refine⟨_,0,0,w1,hr,fun q i A n c w1=>∃(l:List Nat) (y:Nat),i=(y:Int)/\q=y/\IR w1 A n c l/\Lo l/\n<=100/\y*1000000000^n<=x/\x=nv l+BB^n*y/\(y=0->Pm l)/\Ext w w1/\∀b,At A b->w.heap.size<=b,⟨x,[],x,rfl,rfl,hO1,Lo.nil,by omega,by simp,by simp[nv],fun _=>Pm.nil,E1,fun b hb=>by have:=at_new hb;omega⟩,?_⟩
 rintro y i A n c w1 ⟨l,_,rfl,rfl,hL,lo,hn,hyn,he,hlim,E,hA⟩
 refine⟨fun hpos p w2 hN=> ?_,fun hz=> ?_⟩
 ·have hy:y<9223372036854775808:=by
   have:y<=y*1000000000^n:=Nat.le_mul_of_pos_right _ (Nat.pow_pos (by decide))
   omega
  have e1:(Int.tmod (y:Int) 1000000000)=((y%BB:Nat):Int):=by rw[hB];exact(Int.ofNat_tmod y 1000000000).symm
  have e2:(Int.tdiv (y:Int) 1000000000)=((y/BB:Nat):Int):=by rw[hB];exact(Int.ofNat_tdiv y 1000000000).symm
  have hm:y%BB<BB:=Nat.mod_lt _ (by decide)
  have hdv:y/BB<=y:=Nat.div_le_self _ _
  rw[e1] at hN
  have hlen:=hL.len
  have hn3:n<=20:=by
   refine Classical.byContradiction fun h20=> ?_
   have h1:1000000000^20<=1000000000^n:=Nat.pow_le_pow_right (by decide) (by omega)
   have h2:1*1000000000^n<=y*1000000000^n:=Nat.mul_le_mul_right _ (by omega)
   have h3:(18446744073709551616:Nat)<1000000000^20:=by decide
   omega
  obtain⟨A',c',w3,hr,hR,E3,hB3⟩:=hL.push hA E hN (by unfold Sn;omega)
  refine⟨A',n+1,c',w3,hr,y/BB,Nat.div_lt_self (by omega) (by decide),l++[y%BB],y/BB,?_,rfl,hR,lo.append (Lo.cons hm Lo.nil),by omega,?_,?_,fun h0=> ?_,E3,hB3⟩
  ·rw[e2,wrap_i64 (Int.le_trans (by decide) (Int.natCast_nonneg _)) (Int.le_trans (Int.ofNat_le.2 hdv) (by omega))]
  ·refine Nat.le_trans ?_ hyn
   rw[Nat.pow_succ,Nat.mul_left_comm,Nat.mul_comm]
   have:1000000000*(y/BB)<=y:=by rw[<-hB];exact Nat.mul_div_le y BB
   rw[show y/BB*1000000000=1000000000*(y/BB) from Nat.mul_comm _ _]
   exact Nat.mul_le_mul_right _ this
  ·rw[Dh,hlen,Nat.pow_succ,Nat.add_assoc,Nat.mul_assoc,<-Nat.mul_add,Nat.mod_add_div]
   exact he
  ·refine aEf lo hm ?_
   have:=Nat.mod_add_div y BB
   rw[h0] at this
   omega
 ·have:y=0:=by omega
  subst this
  exact⟨E,⟨l,hL,hlim rfl,by rw[he];simp⟩⟩
theorem aGv (hx:IN w A n c x) (hy:IN w B m d y) (y0:0<y) (hlt:x<BB*y) (hn:n<=137438953472) (hm:m<=137438953472):Calls P F.vI #[.slice A n c,.slice B m d] w (aS fun v w'=>Ext w w'/\v= .int .i64 ((x/y:Nat):Int)):=by
 refine aS.mono (Ud A n c B m d (fun v w'=>Ext w w'/\v=((x/y:Nat):Int)) w ?_) (by rintro _ w' ⟨v,rfl,h,rfl⟩;exact⟨h,rfl⟩)
 have hB:BB=1000000000:=rfl
 refine⟨fun q a b w'=>∃lo hi:Nat,a=lo/\b=hi/\q=hi-lo/\lo<=hi/\hi<BB/\y*lo<=x/\x<y*(hi+1)/\Ext w w',⟨999999999,0,999999999,rfl,rfl,rfl,by omega,by omega,by omega,by rw[Nat.mul_comm];exact hlt,Ext.refl w⟩,?_⟩
 rintro q a b w1 ⟨lo,hi,rfl,rfl,rfl,h1,h2,h3,h4,E⟩
 refine⟨fun h=> ?_,fun h=> ?_⟩
 ·have em:IntKind.wrap .i64 (Int.tdiv (IntKind.wrap .i64 (IntKind.wrap .i64 ((lo:Int)+(hi:Int))+1)) 2)=(((lo+hi+1)/2:Nat):Int):=by
   rw[wrap_i64 (i:=(lo:Int)+(hi:Int)) (by omega) (by omega),wrap_i64 (i:=(lo:Int)+(hi:Int)+1) (by omega) (by omega)]
   have:Int.tdiv ((lo:Int)+(hi:Int)+1) 2=(((lo+hi+1)/2:Nat):Int):=(Int.ofNat_tdiv (lo+hi+1) 2).symm
   rw[this,wrap_i64 (by omega) (by omega)]
  rw[em]
  have g1:lo<(lo+hi+1)/2:=by omega
  have g2:(lo+hi+1)/2<=hi:=by omega
  generalize (lo+hi+1)/2=mid at*
  refine aS.mono (sK (x:=mid) (by omega)) ?_
  rintro _ w2 ⟨A3,n3,c3,rfl,E2,hM⟩
  have l3:n3<=1:=hM.le (show Lb mid 1 by unfold Lb;rw[Nat.pow_one];omega)
  refine⟨A3,n3,c3,rfl,aS.mono (Qc (hy.ext (E.trans E2)) hM (by unfold Sn;omega)) ?_⟩
  rintro _ w3 ⟨A4,n4,c4,rfl,E3,hP⟩
  have l4:n4<=m+1:=hP.le (hy.lb.mul (show Lb mid 1 by unfold Lb;rw[Nat.pow_one];omega))
  have E03:=(E.trans E2).trans E3
  refine⟨A4,n4,c4,rfl,aS.mono (Yl hP (hx.ext E03) (by unfold Sn;omega)) ?_⟩
  rintro _ w4 ⟨rfl,D4⟩
  have E04:=E03.drawn D4
  refine⟨_,rfl,fun hc=> ?_,fun hc=> ?_⟩
  ·have hle:y*mid<=x:=by
    unfold xQ at hc
    split at hc
    ·omega
    ·split at hc<;>omega
   exact⟨hi-mid,by omega,mid,hi,rfl,rfl,rfl,g2,h2,hle,h4,E04⟩
  ·have hgt:x<y*mid:=by
    unfold xQ at hc
    split at hc
    ·omega
    ·split at hc<;>omega
   rw[wrap_i64 (by omega) (by omega)]
   exact⟨mid-1-lo,by omega,lo,mid-1,rfl,by omega,rfl,by omega,by omega,h3,by rw[show mid-1+1=mid by omega];exact hgt,E04⟩
 ·have:lo=hi:=by omega
  subst this
  refine⟨E,?_⟩
  have:x/y=lo:=Nat.div_eq_of_lt_le (by rw[Nat.mul_comm];exact h3) (by rw[Nat.mul_comm];exact h4)
  rw[this]
theorem aDt (hx:IN w A n c x) (hy:IN w B m d y) (y0:0<y) (hn:Sh n) (hm:Sh m):Calls P F.kX #[.slice A n c,.slice B m d] w (aS fun v w'=>∃A n c B m d,v= .tuple #[.slice A n c,.slice B m d]/\Ext w w'/\IN w' A n c (x/y)/\IN w' B m d (x%y)):=by
 refine aS.mono (Ri A n c B m d (fun A n c B m d w'=>Ext w w'/\IN w' A n c (x/y)/\IN w' B m d (x%y)) w ?_) (by rintro _ w' ⟨A,n,c,B,m,d,rfl,h⟩;exact⟨A,n,c,B,m,d,rfl,h⟩)
 unfold Sh at hn hm
 have hB:BB=1000000000:=rfl
 have hBB:BB*BB=1000000000000000000:=rfl
 refine aS.mono (aCa hx) ?_
 rintro _ w ⟨rfl,X,b1,rfl,h1⟩
 refine⟨_,_,rfl,aS.mono (aCa hy) ?_⟩
 rintro _ w ⟨rfl,Y,b2,rfl,h2⟩
 refine⟨_,_,rfl,?_⟩
 have long:∀X Y:Int,jL Y w X (fun A n c B m d w'=>Ext w w'/\IN w' A n c (x/y)/\IN w' B m d (x%y)) n A B m d false:=fun X Y=>by
  refine⟨fun h=>(by cases h),fun _=> ?_⟩
  obtain⟨l,hL,lim,hxv⟩:=id hx
  have hl:=hL.len
  obtain⟨w1,hr1,hO1,E1⟩:=IR.make (w:=w) (n:=n) (by unfold Sn;omega)
  obtain⟨w2,hr2,hR2,E2⟩:=IR.Qi (w:=w1) (n:=0) (by decide)
  refine⟨_,n,n,w1,hr1,_,0,0,w2,hr2,fun q Ar nr cr i w'=>∃(o:List Nat) (r:Nat),q=(i+1).toNat/\-1<=i/\i<n/\IR w' (some ⟨w.heap.size,0,none⟩) n n o/\Lo o/\IN w' Ar nr cr r/\r<y/\nv (l.drop (i+1).toNat)=y*nv (o.drop (i+1).toNat)+r/\(∀t:Nat,(t:Int)<=i->lg o t=0)/\Ext w w',⟨n,List.replicate n 0,0,?_⟩,?_⟩
  ·rw[wrap_i64 (by omega) (by omega),show((n:Int)-1+1).toNat=n by omega,List.drop_eq_nil_of_le (by omega),List.drop_eq_nil_of_le (by simp)]
   refine⟨rfl,by omega,by omega,hO1.ext E2,Dp n,⟨[],hR2,Pm.nil,rfl⟩,y0,by simp[nv],fun t _=> ?_,E1.trans E2⟩
   unfold lg
   rw[List.getD_eq_getElem?_getD,List.getElem?_replicate]
   split<;>rfl
  rintro q Ar nr cr i w3 ⟨o,r,rfl,i0,i1,hO,lo,hR,hry,hs,hz,E3⟩
  have hol:=hO.len
  refine⟨fun hpos=> ?_,fun hneg=> ?_⟩
  ·obtain⟨j,rfl⟩:=Int.eq_ofNat_of_zero_le hpos
   rw[show((j:Int)+1).toNat=j+1 by omega] at hs⊢
   have gx:=lim.lo.lg j
   have lnr:nr<=m:=hR.le (Lb.le hy.lb (Nat.le_of_lt hry))
   have en:IntKind.wrap .i64 ((nr:Int)+1)=((nr+1:Nat):Int):=by rw[wrap_i64 (by omega) (by omega)];omega
   rw[en]
   obtain⟨w4,hr4,hN4,E4⟩:=IR.Qi (w:=w3) (n:=nr+1) (by unfold Sn;omega)
   obtain⟨ad,hA,_,hc,_⟩:=(hL.ext (E3.trans E4)).at_ (i:=(j:Int)) (by omega) (by omega)
   refine⟨_,0,_,w4,hr4,by omega,i1,ad,hA,_,hc,fun p1 w5 hN5=> ?_⟩
   simp only[Int.toNat_natCast] at hN5
   obtain⟨A6,c6,w6,hr6,hR6,E6,hA6⟩:=hN4.push (w0:=w3) (fun b hb=>by have:=at_new hb;omega) E4 hN5 (by decide)
   obtain⟨rl,hrl,hrlim,hrv⟩:=id hR
   have hrll:=hrl.len
   refine⟨A6,0+1,c6,w6,hr6,fun q An nn cn t w'=>∃s:Nat,t=s/\q=nr-s/\s<=nr/\nn=s+1/\IR w' An nn cn (lg l j::rl.take s)/\Ext w3 w'/\∀b,At An b->w3.heap.size<=b,⟨nr,0,rfl,rfl,by omega,by omega,by simpa using hR6,E6,hA6⟩,?_⟩
   rintro q An nn cn t w7 ⟨s,rfl,rfl,hs7,rfl,hR7,E7,hA7⟩
   refine⟨fun hlt=> ?_,fun hge=> ?_⟩
   ·obtain⟨a2,ha2,hv2,hc2,_⟩:=(hrl.ext E7).at_ (i:=(s:Int)) (by omega) (by omega)
    simp only[Int.toNat_natCast] at hc2 hv2
    refine⟨by omega,hlt,a2,ha2,_,by simpa using hc2,fun p2 w8 hN8=> ?_⟩
    obtain⟨A9,c9,w9,hr9,hR9,E9,hA9⟩:=hR7.push (w0:=w3) hA7 E7 hN8 (by unfold Sn;omega)
    refine⟨A9,_,c9,w9,hr9,nr-(s+1),by omega,s+1,by rw[wrap_i64 (by omega) (by omega)];omega,rfl,by omega,rfl,?_,E9,hA9⟩
    rw[List.take_succ,hv2]
    exact hR9
   ·have hsn:s=nr:=by omega
    subst hsn
    rw[show rl.take s=rl from List.take_of_length_le (by omega)] at hR7
    have lo7:Lo (lg l j::rl):=Lo.cons gx hrlim.lo
    refine aS.mono (Oe hR7 lo7 (by unfold Sn;omega)) ?_
    rintro _ w10 ⟨rfl,m16,rfl,hm16,hX⟩
    have eX:nv (lg l j::rl)=r*BB+lg l j:=by rw[<-hrv];simp only[nv];rw[Nat.mul_comm,Nat.add_comm]
    rw[eX] at hX
    have E10:=E3.trans E7
    have hlt:r*BB+lg l j<BB*y:=by
     have:(r+1)*BB<=y*BB:=Nat.mul_le_mul_right _ hry
     rw[Nat.mul_comm BB y,Nat.add_mul] at*
     omega
    have ei:IntKind.wrap .i64 ((j:Int)-1)=(j:Int)-1:=wrap_i64 (by omega) (by omega)
    have hdrop:nv (o.drop j)=lg o j+BB*nv (o.drop (j+1)):=Pq o j (by omega)
    refine⟨_,_,_,rfl,aS.mono (Yl hX (hy.ext E10) (by unfold Sn;omega)) ?_⟩
    rintro _ w11 ⟨rfl,D11⟩
    have E11:=E10.drawn D11
    have hO11:=(hO.ext E7).ext (Ext.aO D11)
    refine⟨_,rfl,fun hc=> ?_,fun hc=> ?_⟩
    ·have hge:y<=r*BB+lg l j:=by
      unfold xQ at hc
      split at hc<;>omega
     refine aS.mono (aGv (hX.ext (Ext.aO D11)) (hy.ext E11) y0 hlt (by omega) (by omega)) ?_
     rintro _ w12 ⟨E12,rfl⟩
     have hq:(r*BB+lg l j)/y<BB:=by rw[Nat.div_lt_iff_lt_mul y0];exact hlt
     have hqr:=Nat.div_add_mod (r*BB+lg l j) y
     have hmod:=Nat.mod_lt (r*BB+lg l j) y0
     generalize (r*BB+lg l j)/y=Q at*
     have hO12:=hO11.ext E12
     obtain⟨od,hOd,_,hoc,hof⟩:=hO12.at_ (i:=(j:Int)) (by omega) (by omega)
     simp only[Int.toNat_natCast] at hoc hof
     refine⟨_,rfl,by omega,by omega,od,hOd,⟨_,hoc⟩,hof,fun w13 hw=> ?_⟩
     simp only[Int.toNat_natCast] at hw
     obtain⟨hO13,hK13⟩:=hO12.put hOd (j:=j) (d:=Q) (by omega) hw
     have E13:Ext w w13:=(E11.trans E12).over hK13 fun i hi ha=>by have:=at_new ha;omega
     obtain⟨od,hOd,_,hoc,hof⟩:=hO13.at_ (i:=(j:Int)) (by omega) (by omega)
     simp only[Int.toNat_natCast] at hoc
     rw[Rt (by omega),if_pos rfl] at hoc
     have hX13:IN w13 A6 m16 c6 (r*BB+lg l j)\/True:= .inr trivial
     have keepN:∀A n c z,IN w12 A n c z->(∀b,At A b->b≠w.heap.size)->IN w13 A n c z:=fun A n c z ⟨l,h1,h2⟩ hne=>⟨l,h1.keep hK13 fun b hb hb2=>hne b hb (by have:=at_new hb2;omega),h2⟩
     have hX':=keepN _ _ _ _ ((hX.ext (Ext.aO D11)).ext E12) fun b hb=>by
      have:=hA7 b hb
      have:=E1.size
      have:=E3.size
      have:=(IR.make (w:=w) (n:=n) (by unfold Sn;omega))
      have h3:=(hO.at (b:=w.heap.size) ⟨_,rfl,rfl⟩).2
      omega
     refine⟨by omega,by omega,od,hOd,_,hoc,aS.mono (sK (x:=Q) (by omega)) ?_⟩
     rintro _ w14 ⟨A17,n17,c17,rfl,E14,h17⟩
     have l17:n17<=1:=h17.le (show Lb Q 1 by unfold Lb;rw[Nat.pow_one];omega)
     refine⟨A17,n17,c17,rfl,aS.mono (Qc (hy.ext (E13.trans E14)) h17 (by unfold Sn;omega)) ?_⟩
     rintro _ w15 ⟨A18,n18,c18,rfl,E15,h18⟩
     have hle:y*Q<=r*BB+lg l j:=by omega
     refine⟨A18,n18,c18,rfl,aS.mono (aC1 (hX'.ext (E14.trans E15)) h18 hle (by unfold Sn;omega)) ?_⟩
     rintro _ w16 ⟨A19,n19,c19,rfl,E16,h19⟩
     refine⟨A19,n19,c19,rfl,j,by omega,?_⟩
     dsimp only
     rw[ei,show((j:Int)-1+1).toNat=j by omega]
     have er:r*BB+lg l j-y*Q=(r*BB+lg l j)%y:=by omega
     rw[er] at h19
     have E46:=(E14.trans E15).trans E16
     exact⟨o.set j Q,_,rfl,by omega,by omega,hO13.ext E46,lo.set hq,h19,hmod,aAx (by omega) (by omega) hs hqr.symm,fun t ht=>by rw[Rt (by omega),if_neg (by omega)];exact hz t (by omega),E13.trans E46⟩
    ·have hlt2:r*BB+lg l j<y:=by
      unfold xQ at hc
      split at hc
      ·assumption
      ·split at hc<;>omega
     refine⟨j,by omega,?_⟩
     dsimp only
     rw[ei,show((j:Int)-1+1).toNat=j by omega]
     refine⟨o,_,rfl,by omega,by omega,hO11,lo,hX.ext (Ext.aO D11),hlt2,?_,fun t ht=>hz t (by omega),E11⟩
     have h1:=aAx (o:=o) (q:=0) (r':=r*BB+lg l j) (by omega) (by omega:j<l.length) hs (by rw[Nat.mul_zero,Nat.zero_add])
     have h2:o.set j 0=o:=by
      apply List.ext_getElem?
      intro t
      rw[List.getElem?_set]
      split
      ·rename_i e
       subst e
       rw[if_pos (by omega),aCb (by omega),hz j (by omega)]
      ·rfl
     rw[h2] at h1
     exact h1
  ·rw[show(i+1).toNat=0 by omega] at hs
   simp only[List.drop_zero] at hs
   have hdv:x/y=nv o:=by rw[<-hxv,hs,Nat.mul_add_div y0,Nat.div_eq_of_lt hry,Nat.add_zero]
   have hmd:x%y=r:=by rw[<-hxv,hs,Nat.mul_add_mod,Nat.mod_eq_of_lt hry]
   rw[hdv,hmd]
   refine aS.mono (Oe hO lo (by unfold Sn;omega)) ?_
   rintro _ w4 ⟨rfl,m',rfl,_,hN⟩
   exact⟨_,_,_,rfl,E3,hN,hR⟩
 refine⟨fun e1=> ?_,fun _=>long _ _⟩
 cases b2 with
 |false=>exact long _ _
 |true=>
  obtain⟨rfl,hx2⟩:=h1 e1
  obtain⟨rfl,hy2⟩:=h2 rfl
  have e1:Int.tdiv (X:Int) (Y:Int)=((X/Y:Nat):Int):=(Int.ofNat_tdiv _ _).symm
  have e2:Int.tmod (X:Int) (Y:Int)=((X%Y:Nat):Int):=(Int.ofNat_tmod _ _).symm
  have l1:=Nat.div_le_self X Y
  have l2:=Nat.mod_le X Y
  have hX9:X<9223372036854775808:=by rw[hBB] at hx2;omega
  have c1:=fun w=>sK (w:=w) (x:=X/Y) (Nat.lt_of_le_of_lt l1 hX9)
  have c2:=fun w=>sK (w:=w) (x:=X%Y) (Nat.lt_of_le_of_lt l2 hX9)
  generalize X/Y=Q at*
  generalize X%Y=R at*
  refine⟨fun _=>⟨by omega,by omega,fun w4 D4=> ?_⟩,fun h=>(by cases h)⟩
  rw[e1,e2,wrap_i64 (by omega) (by omega)]
  refine aS.mono (c1 _) ?_
  rintro _ w3 ⟨A5,n5,c5,rfl,E3,h5⟩
  refine⟨A5,n5,c5,rfl,fun w7 D7=>aS.mono (c2 _) ?_⟩
  rintro _ w6 ⟨A6,n6,c6,rfl,E6,h6⟩
  exact⟨A6,n6,c6,rfl,fun w9 D9=>⟨((((Ext.aO D4).trans E3).drawn D7).trans E6).drawn D9,((h5.ext (Ext.aO D7)).ext E6).ext (Ext.aO D9),h6.ext (Ext.aO D9)⟩⟩
theorem aI2 (hx:IN w A n c x) (hy:IN w B m d y) (hn:Sh n) (hm:Sh m):Calls P F.sJ #[.slice A n c,.slice B m d] w (aS fun v w'=>∃A n c,v= .slice A n c/\Ext w w'/\IN w' A n c (x.gcd y)):=by
 refine aS.mono (Qs A n c B m d (fun A n c w'=>Ext w w'/\IN w' A n c (x.gcd y)) w ?_) (by rintro _ w' ⟨A,n,c,rfl,h⟩;exact⟨A,n,c,rfl,h⟩)
 refine⟨fun q A n c B m d w'=>∃a b:Nat,q=b/\a.gcd b=x.gcd y/\IN w' A n c a/\IN w' B m d b/\Sh n/\Sh m/\Ext w w',⟨y,x,y,rfl,rfl,hx,hy,hn,hm,Ext.refl w⟩,?_⟩
 rintro b A n c B m d w1 ⟨a,_,rfl,hg,hA,hB,hn,hm,E⟩
 have hz:=hB.zero
 refine⟨fun h=> ?_,fun h=> ?_⟩
 ·have b0:0<b:=by omega
  refine aS.mono (aDt hA hB b0 hn hm) ?_
  rintro _ w2 ⟨A6,n6,c6,A7,n7,c7,rfl,E2,_,h7⟩
  have hlt:=Nat.mod_lt a b0
  have l7:=h7.le (Lb.le hB.lb (Nat.le_of_lt hlt))
  unfold Sh at hm
  exact⟨A6,n6,c6,A7,n7,c7,rfl,a%b,hlt,b,a%b,rfl,by rw[Nat.gcd_comm,<-Nat.gcd_rec,Nat.gcd_comm];exact hg,hB.ext E2,h7,hm,by unfold Sh;omega,E.trans E2⟩
 ·have:b=0:=by omega
  subst this
  rw[Nat.gcd_zero_right] at hg
  rw[<-hg]
  exact⟨E,hA⟩
end
def qE (K:Option Addr->World->Prop) (p1:Addr) (w3:World):Prop:=
 K (some p1) w3
def Uc (p1:Addr) (b1:Bool) (A1:Option Addr) (n1 c1:Nat) (K:Option Addr->World->Prop) (w:World):Prop:=
 (b1=true->((∃u1,w.cell? (p1.add 0)=some u1)/\w.frozen? (p1.add 0)=false/\∀w1,w1=w.setCell (p1.add 0) (.bool (decide (0<(n1:Int))))->((∃u2,w1.cell? (p1.add 1)=some u2)/\w1.frozen? (p1.add 1)=false/\∀w2,w2=w1.setCell (p1.add 1) (.slice A1 n1 c1)->((qE K p1) w2))))/\(b1=false->((∃u3,w.cell? (p1.add 0)=some u3)/\w.frozen? (p1.add 0)=false/\∀w4,w4=w.setCell (p1.add 0) (.bool false)->((∃u4,w4.cell? (p1.add 1)=some u4)/\w4.frozen? (p1.add 1)=false/\∀w5,w5=w4.setCell (p1.add 1) (.slice A1 n1 c1)->((qE K p1) w5))))
theorem aBn (p1:Addr) (b1:Bool) (A1:Option Addr) (n1 c1:Nat) (K:Option Addr->World->Prop) (w:World) (H:Uc p1 b1 A1 n1 c1 K w):Calls P F.Kr #[.pointer (some p1),.bool b1,.slice A1 n1 c1] w (aS fun v w'=>∃q1,v=(.pointer q1)/\K q1 w'):=by
 unfold Uc at H;refine aY (P:=P) Tryz.func188 rfl [(0,.pointer (some p1)),(1,.bool b1),(2,.slice A1 n1 c1)] 21 rfl rfl (aa rfl (aa rfl (aa rfl az))) (aB (aA (ag rfl (aC (nc (y3 0 1 2 rfl) ?_)))));refine dI (fun a w=>Ok 21 [(0,.pointer (some p1))] a/\qE K p1 w) ?_ ?_
 ·rintro a w3 ⟨ha,H⟩;unfold qE at H;refine cu ha ?_;exact aB (aA (mv rfl (ag rfl (aC (nc (kp 6 rfl zz) (aW (aG (res1 rfl rfl) ⟨_,rfl,_,rfl,H⟩)))))))
 ·refine aA (mv rfl (mv rfl (mv rfl ?_)));rcases tf b1 with hb|hb
  ·replace H:=H.1 hb;refine sv rfl rfl (fun a ha=>Ya (eU (ha.ev rfl)) hb) (Kw rfl rfl rfl (svg rfl rfl rfl rfl (xb rfl (fun _=>bD TF.aU)) (Uu rfl rfl rfl rfl kF (pt rfl rfl (mv rfl (nk rfl (fa rfl (TF.uI _ _) ?_)))))));obtain⟨⟨u1,h1⟩,h2,H⟩:=H;refine gX rfl (aF rfl) (xs rfl rfl (fE TF.size_bool rfl rfl h1 h2)) ?_;intro w1 hw;replace H:=H _ hw;clear hw;refine nk rfl (fa rfl (TF.qM _ _) ?_);obtain⟨⟨u2,h3⟩,h4,H⟩:=H;refine gX rfl (aF rfl) (xs rfl rfl (fE TF.lG rfl rfl h3 h4)) ?_;intro w2 hw;replace H:=H _ hw;clear hw;exact aC (aT fun a ha=>⟨ha.weaken cs,H⟩)
  ·replace H:=H.2 hb;refine sv rfl rfl (fun a ha=>Xq (eU (ha.ev rfl)) hb) (sk rfl rfl rfl rfl (sk rfl rfl rfl rfl (sk rfl rfl rfl rfl (pf rfl rfl (mv rfl (nk rfl (fa rfl (TF.uI _ _) ?_)))))));obtain⟨⟨u3,h5⟩,h6,H⟩:=H;refine gX rfl (aF rfl) (xs rfl rfl (fE TF.size_bool rfl rfl h5 h6)) ?_;intro w4 hw;replace H:=H _ hw;clear hw;refine nk rfl (fa rfl (TF.qM _ _) ?_);obtain⟨⟨u4,h7⟩,h8,H⟩:=H;refine gX rfl (aF rfl) (xs rfl rfl (fE TF.lG rfl rfl h7 h8)) ?_;intro w5 hw;replace H:=H _ hw;clear hw;exact aC (aT fun a ha=>⟨ha.weaken cs,H⟩)
def Jv (p1:Addr) (K:ByteArray->World->Prop) (w:World):Prop:=
 ∃b1,w.cell? (p1.add 0)=some (.bool b1)/\(b1=true->(∃A1 n1 c1,w.cell? (p1.add 1)=some (.slice A1 n1 c1)/\Calls P F.rM #[.slice A1 n1 c1] w (aS fun v1 w1=>∃s2:ByteArray,v1=(.string s2)/\(⟨#[45]⟩:ByteArray).size+s2.size<=9223372036854775807/\K ((⟨#[45]⟩:ByteArray)++s2) w1)))/\(b1=false->(∃A2 n2 c2,w.cell? (p1.add 1)=some (.slice A2 n2 c2)/\Calls P F.rM #[.slice A2 n2 c2] w (aS fun v2 w2=>∃s3:ByteArray,v2=(.string s3)/\K s3 w2)))
theorem Yw (p1:Addr) (K:ByteArray->World->Prop) (w:World) (H:Jv p1 K w):Calls P F.zX #[.pointer (some p1)] w (aS fun v w'=>∃s1:ByteArray,v=(.string s1)/\K s1 w'):=by
 unfold Jv at H;refine aY (P:=P) Tryz.func153 rfl [(0,.pointer (some p1))] 18 rfl rfl (fun p hp=>by rcases List.mem_singleton.1 hp with rfl;rfl) (aB (aA (ag rfl (aC (nc (kp 0 rfl zz) (aB (aB (aA (mv rfl (nk rfl (fa rfl (TF.uI _ _) ?_)))))))))));obtain⟨b1,h1,H⟩:=H;refine ld rfl (aJ TF.gU h1) (aC (nc (y2 0 6 rfl) ?_));refine dG rfl (fun hb=> ?_) (fun hb=> ?_)
 ·replace H:=H.1 hb;refine aB (aA (mv rfl (nk rfl (fa rfl (TF.qM _ _) ?_))));obtain⟨A1,n1,c1,h2,H⟩:=H;refine ld rfl (aJ TF.fJ h2) (sc rfl rfl FF.rV H ?_);rintro _ w1 ⟨s2,rfl,H⟩;obtain⟨h3,H⟩:=H;exact bo rfl rfl (wH h3) (ag rfl (aC (nc (kp 2 rfl zz) (aW (aI (aG (res1 rfl rfl) ⟨_,rfl,_,rfl,H⟩))))))
 ·replace H:=H.2 hb;refine aN (nc (kp 0 rfl zz) (aB (aA (mv rfl (nk rfl (fa rfl (TF.qM _ _) ?_))))));obtain⟨A2,n2,c2,h4,H⟩:=H;refine ld rfl (aJ TF.fJ h4) (sc rfl rfl FF.rV H ?_);rintro _ w2 ⟨s3,rfl,H⟩;exact ag rfl (aC (nc (kp 2 rfl zz) (aW (aG (res1 rfl rfl) ⟨_,rfl,_,rfl,H⟩))))
def Qj (p1:Addr) (K:Int->World->Prop) (w:World):Prop:=
 ∃b1,w.cell? (p1.add 0)=some (.bool b1)/\(b1=true->(K (-1) w))/\(b1=false->(∃A1 n1 c1,w.cell? (p1.add 1)=some (.slice A1 n1 c1)/\((n1:Int)=0->(K 0 w))/\(¬((n1:Int)=0)->(K 1 w))))
theorem aAe (p1:Addr) (K:Int->World->Prop) (w:World) (H:Qj p1 K w):Calls P F.Hq #[.pointer (some p1)] w (aS fun v w'=>∃x1,v=(.int .i64 x1)/\K x1 w'):=by
 unfold Qj at H;refine aY (P:=P) Tryz.func148 rfl [(0,.pointer (some p1))] 15 rfl rfl (fun p hp=>by rcases List.mem_singleton.1 hp with rfl;rfl) (aB (aA (ag rfl (aC (nc (kp 0 rfl zz) (aB (aV (aB (aA (mv rfl (nk rfl (fa rfl (TF.uI _ _) ?_))))))))))));obtain⟨b1,h1,H⟩:=H;refine ld rfl (aJ TF.gU h1) (ag rfl (aC (nc (y2 0 3 rfl) ?_)));refine dG rfl (fun hb=> ?_) (fun hb=> ?_)
 ·replace H:=H.1 hb;exact aB (aA (ag rfl (aC (nc (kp 2 rfl zz) (aW (bF (aI (aG (res1 rfl rfl) ⟨_,rfl,_,rfl,H⟩))))))))
 ·replace H:=H.2 hb;refine aB (aA (mv rfl (nk rfl (fa rfl (TF.qM _ _) ?_))));obtain⟨A1,n1,c1,h2,H⟩:=H;refine ld rfl (aJ TF.fJ h2) (sv rfl rfl (xb rfl (fun _=>bD TF.aU)) (bo rfl rfl nN (ag rfl (aC (nc (kp 8 rfl zz) ?_)))));refine aK rfl (fun hb=> ?_) (fun hb=> ?_)
  ·replace H:=H.1 hb;exact aB (aA (ag rfl (aC (nc (kp 2 rfl zz) (aW (bF (aI (aG (res1 rfl rfl) ⟨_,rfl,_,rfl,H⟩))))))))
  ·replace H:=H.2 hb;exact aN (bQ (nc zz (aB (aA (ag rfl (aC (nc (kp 2 rfl zz) (aW (aG (res1 rfl rfl) ⟨_,rfl,_,rfl,H⟩)))))))))
def Wj (x1:Int) (K:Option Addr->World->Prop) (w:World):Prop:=
 (x1<0->(Calls P F.rO #[(.int .u64 (IntKind.wrap .u64 (0-(IntKind.wrap .u64 x1))))] w (aS fun v1 w1=>∃A1 n1 c1,v1=(.slice A1 n1 c1)/\∀(p1:Addr) (w2:World),New w1 (.cells #[.bool true,.slice A1 n1 c1] T.Hf) p1 w2->(K (some p1) w2))))/\(¬(x1<0)->(Calls P F.rO #[.int .u64 (IntKind.wrap .u64 x1)] w (aS fun v2 w3=>∃A2 n2 c2,v2=(.slice A2 n2 c2)/\∀(p2:Addr) (w4:World),New w3 (.cells #[.bool false,.slice A2 n2 c2] T.Hf) p2 w4->(K (some p2) w4))))
theorem aB5 (x1:Int) (K:Option Addr->World->Prop) (w:World) (H:Wj x1 K w):Calls P F.Jd #[.int .i64 x1] w (aS fun v w'=>∃q1,v=(.pointer q1)/\K q1 w'):=by
 unfold Wj at H;refine aY (P:=P) Tryz.func174 rfl [(0,.int .i64 x1)] 16 rfl rfl (fun p hp=>by rcases List.mem_singleton.1 hp with rfl;rfl) (aB (aA (ag rfl (aC (nc (kp 0 rfl zz) (aB (aB (aA (mv rfl (bo rfl rfl fO (aC (nc (y2 0 4 rfl) ?_))))))))))));refine aK rfl (fun hb=> ?_) (fun hb=> ?_)
 ·replace H:=H.1 hb;refine aB (aA (mv rfl (sv rfl rfl (fun a ha=>dB (ha.ev rfl) (iC TF.wR TF.dO)) (sv rfl rfl (xu rfl aB9) (sc rfl rfl FF.iW H ?_)))));rintro _ w1 ⟨A1,n1,c1,rfl,H⟩;refine sv rfl rfl (xp (.agg #[.bool true,.slice A1 n1 c1]) rfl) (fM (f:=(fun p=> .pointer (some p))) rfl rfl (aF rfl) (fun a ha=>tN (ha.ev rfl) uD) ?_);intro p1 w2 hN;replace H:=H _ _ hN;exact ag rfl (aC (nc (kp 2 rfl zz) (aW (aI (aG (res1 rfl rfl) ⟨_,rfl,_,rfl,H⟩)))))
 ·replace H:=H.2 hb;refine aN (nc (kp 0 rfl zz) (aB (aA (mv rfl (sv rfl rfl (fun a ha=>dB (ha.ev rfl) (iC TF.wR TF.dO)) (sc rfl rfl FF.iW H ?_))))));rintro _ w3 ⟨A2,n2,c2,rfl,H⟩;refine sv rfl rfl (xp (.agg #[.bool false,.slice A2 n2 c2]) rfl) (fM (f:=(fun p=> .pointer (some p))) rfl rfl (aF rfl) (fun a ha=>tN (ha.ev rfl) uD) ?_);intro p2 w4 hN;replace H:=H _ _ hN;exact ag rfl (aC (nc (kp 2 rfl zz) (aW (aG (res1 rfl rfl) ⟨_,rfl,_,rfl,H⟩))))
def aBz (b1:Bool) (A1:Option Addr) (n1 c1:Nat) (b2:Bool) (A2:Option Addr) (n2 c2:Nat) (K:Bool->Option Addr->Nat->Nat->World->Prop) (w:World):Prop:=
 (b1=b2->(Calls P F.Gx #[.slice A1 n1 c1,.slice A2 n2 c2] w (aS fun v1 w1=>∃A4 n4 c4,v1=(.slice A4 n4 c4)/\K b1 A4 n4 c4 w1)))/\(¬(b1=b2)->(Calls P F.yQ #[.slice A1 n1 c1,.slice A2 n2 c2] w (aS fun v2 w2=>∃x1,v2=(.int .i64 x1)/\(0<=x1->(Calls P F.xJ #[.slice A1 n1 c1,.slice A2 n2 c2] w2 (aS fun v3 w3=>∃A5 n5 c5,v3=(.slice A5 n5 c5)/\K b1 A5 n5 c5 w3)))/\(¬(0<=x1)->(Calls P F.xJ #[.slice A2 n2 c2,.slice A1 n1 c1] w2 (aS fun v4 w4=>∃A6 n6 c6,v4=(.slice A6 n6 c6)/\K b2 A6 n6 c6 w4))))))
theorem aFl (b1:Bool) (A1:Option Addr) (n1 c1:Nat) (b2:Bool) (A2:Option Addr) (n2 c2:Nat) (K:Bool->Option Addr->Nat->Nat->World->Prop) (w:World) (H:aBz b1 A1 n1 c1 b2 A2 n2 c2 K w):Calls P F.aAu #[.bool b1,.slice A1 n1 c1,.bool b2,.slice A2 n2 c2] w (aS fun v w'=>∃b3,∃A3 n3 c3,v=(.tuple #[.bool b3,.slice A3 n3 c3])/\K b3 A3 n3 c3 w'):=by
 unfold aBz at H;refine aY (P:=P) Tryz.func187 rfl [(0,.bool b1),(1,.slice A1 n1 c1),(2,.bool b2),(3,.slice A2 n2 c2)] 29 rfl rfl (aa rfl (aa rfl (aa rfl (aa rfl az)))) (aB (aA (ag rfl (ag rfl (aC (nc (y4 0 1 2 3 rfl) (aB (aB (aA (mv rfl (mv rfl (bo rfl rfl (aBh TF.Hu) (aC (nc (y5 0 1 2 3 12 rfl) ?_))))))))))))));refine aK rfl (fun hb=> ?_) (fun hb=> ?_)
 ·replace H:=H.1 hb;refine aB (aA (mv rfl (mv rfl (mv rfl (sc rfl rfl FF.Qr H ?_)))));rintro _ w1 ⟨A4,n4,c4,rfl,H⟩;exact ag rfl (ag rfl (aC (nc (y2 8 9 rfl) (aW (aI (aG (wF rfl rfl rfl) ⟨_,rfl,_,_,_,_,rfl,H⟩))))))
 ·replace H:=H.2 hb;refine aN (nc (y4 0 1 2 3 rfl) (aB (aB (aA (mv rfl (mv rfl (sc rfl rfl FF.vJ H ?_)))))));rintro _ w2 ⟨x1,rfl,H⟩;refine bo rfl rfl Nr (aC (nc (y5 0 1 2 3 20 rfl) ?_));refine aK rfl (fun hb=> ?_) (fun hb=> ?_)
  ·replace H:=H.1 hb;refine aB (aA (mv rfl (mv rfl (mv rfl (sc rfl rfl FF.zA H ?_)))));rintro _ w3 ⟨A5,n5,c5,rfl,H⟩;exact ag rfl (ag rfl (aC (nc (y2 8 9 rfl) (aW (aI (aG (wF rfl rfl rfl) ⟨_,rfl,_,_,_,_,rfl,H⟩))))))
  ·replace H:=H.2 hb;refine aN (nc (y3 1 2 3 rfl) (aB (aA (mv rfl (mv rfl (mv rfl (sc rfl rfl FF.zA H ?_)))))));rintro _ w4 ⟨A6,n6,c6,rfl,H⟩;exact ag rfl (ag rfl (aC (nc (y2 8 9 rfl) (aW (aG (wF rfl rfl rfl) ⟨_,rfl,_,_,_,_,rfl,H⟩)))))
def Bg (K:Option Addr->World->Prop) (q5:Option Addr) (w8:World):Prop:=
 K q5 w8
def Wn (x1:Int) (x2:Int) (K:Option Addr->World->Prop) (w:World):Prop:=
 Calls P F.Jd #[.int .i64 x1] w (aS fun v1 w1=>∃q2,v1=(.pointer q2)/\Calls P F.Jd #[.int .i64 x2] w1 (aS fun v2 w2=>∃q3,v2=(.pointer q3)/\∃p1,q2=some p1/\∃b1,w2.cell? (p1.add 0)=some (.bool b1)/\∃p2,q3=some p2/\∃b2,w2.cell? (p2.add 0)=some (.bool b2)/\∃p3,q2=some p3/\∃A1 n1 c1,w2.cell? (p3.add 1)=some (.slice A1 n1 c1)/\∃p4,q3=some p4/\∃A2 n2 c2,w2.cell? (p4.add 1)=some (.slice A2 n2 c2)/\∀w9,aP w2 w9->∀(p5:Addr) (w3:World),New w9 (.cells #[.bool false,.slice none 0 0,.slice none 0 0] T.lF) p5 w3->(∀w5,aP w3 w5->Calls P F.vZ #[.pointer (some p5),.bool (decide (b1≠b2)),.slice A1 n1 c1,.slice A2 n2 c2] w5 (aS fun v3 w4=>∃q4,v3=(.pointer q4)/\∀w7,aP w4 w7->((Bg K) q4 w7)))))
theorem aB7 (x1:Int) (x2:Int) (K:Option Addr->World->Prop) (w:World) (H:Wn x1 x2 K w):Calls P F.Oj #[.int .i64 x1,.int .i64 x2] w (aS fun v w'=>∃q1,v=(.pointer q1)/\K q1 w'):=by
 unfold Wn at H;refine aY (P:=P) Tryz.func127 rfl [(0,.int .i64 x1),(1,.int .i64 x2)] 30 rfl rfl (aa rfl (aa rfl az)) (aB (aA (ag rfl (aC (nc (y2 0 1 rfl) (aB (aA (mv rfl (sc rfl rfl FF.Gm H ?_)))))))));rintro _ w1 ⟨q2,rfl,H⟩;refine mv rfl (sc rfl rfl FF.Gm H ?_);rintro _ w2 ⟨q3,rfl,H⟩;refine ag rfl (ag rfl (aC (nc (y2 5 6 rfl) ?_)));refine dI (fun a w=>∃q5,Ok 30 [(4,.pointer q5)] a/\Bg K q5 w) ?_ ?_
 ·rintro a w8 ⟨q5,ha,H⟩;unfold Bg at H;refine cu ha ?_;exact aW (aG (res1 rfl rfl) ⟨_,rfl,_,rfl,H⟩)
 ·refine iI follows (fun _=>False) [1,2,3,4,5,6,7,8,9,10,11,12,13,14,15,16,17,19] [4,8,13,17] 20 rfl rfl (by kernel_rfl) (fun _ _ d _ _ h=>by cases d<;>exact h) (fun cm W D=> ?_);refine lU 1 cm rfl rfl D W fun _ D W=> ?_;obtain⟨p1,e1,H⟩:=H;refine pv 2 cm rfl rfl rfl (fun w' a ha=>fD ((ha.ev rfl).trans (by rw[e1]))) D W fun _ D W=>(Nw 3 cm rfl rfl (TF.uI _ _) D W fun _ D W=> ?_);obtain⟨b1,h1,H⟩:=H;refine vl 4 cm rfl rfl (fun hw=>(aJ TF.gU (hw.cell ⟨h1,fun h=>h⟩))) D W fun _ D W=>(lU 5 cm rfl rfl D W fun _ D W=> ?_);obtain⟨p2,e2,H⟩:=H;refine pv 6 cm rfl rfl rfl (fun w' a ha=>fD ((ha.ev rfl).trans (by rw[e2]))) D W fun _ D W=>(Nw 7 cm rfl rfl (TF.uI _ _) D W fun _ D W=> ?_);obtain⟨b2,h2,H⟩:=H;refine vl 8 cm rfl rfl (fun hw=>(aJ TF.gU (hw.cell ⟨h2,fun h=>h⟩))) D W fun _ D W=>(pv 9 cm rfl rfl rfl (fun w' a ha=>dK (ha.ev rfl) (ha.ev rfl) (Oz TF.Hu)) D W fun _ D W=>(lU 10 cm rfl rfl D W fun _ D W=> ?_));obtain⟨p3,e3,H⟩:=H;refine pv 11 cm rfl rfl rfl (fun w' a ha=>fD ((ha.ev rfl).trans (by rw[e3]))) D W fun _ D W=>(Nw 12 cm rfl rfl (TF.qM _ _) D W fun _ D W=> ?_);obtain⟨A1,n1,c1,h3,H⟩:=H;refine vl 13 cm rfl rfl (fun hw=>(aJ TF.fJ (hw.cell ⟨h3,fun h=>h⟩))) D W fun _ D W=>(lU 14 cm rfl rfl D W fun _ D W=> ?_);obtain⟨p4,e4,H⟩:=H;refine pv 15 cm rfl rfl rfl (fun w' a ha=>fD ((ha.ev rfl).trans (by rw[e4]))) D W fun _ D W=>(Nw 16 cm rfl rfl (TF.qM _ _) D W fun _ D W=> ?_);obtain⟨A2,n2,c2,h4,H⟩:=H;refine vl 17 cm rfl rfl (fun hw=>(aJ TF.fJ (hw.cell ⟨h4,fun h=>h⟩))) D W fun _ D W=>(ar 0 ?_);replace H:=H _ D;refine kS (f:=(fun p=> .pointer (some p))) rfl rfl rfl (aF rfl) (fun a ha=>dR (dV TF.mX)) rfl true (by kernel_rfl) ?_;intro p5 w3 hN _ D;replace H:=H _ _ hN;replace W:=(W.new hN).drawn D;refine⟨fun _=>W,?_⟩;refine ar 18 ?_;replace H:=H _ D;refine iZ rfl rfl rfl (aF rfl) (xc rfl rfl FF.qC) rfl false (by kernel_rfl) H ?_;rintro _ w4 ⟨q4,rfl,H⟩ _ D;refine⟨fun h=>(by cases h),?_⟩;refine vP 19 cm rfl rfl D fun _ D=>(dU (by kernel_rfl) D ?_);intro w7 D;replace H:=H _ D;clear D cm;exact aT fun a ha=>⟨q4,ha.weaken cs,H⟩
def Md (p1:Addr) (K:Bool->World->Prop) (w:World):Prop:=
 ∃A1 n1 c1,w.cell? (p1.add 2)=some (.slice A1 n1 c1)/\K (decide ((n1:Int)=0)) w
theorem Zl (p1:Addr) (K:Bool->World->Prop) (w:World) (H:Md p1 K w):Calls P F.xP #[.pointer (some p1)] w (aS fun v w'=>∃b1,v=(.bool b1)/\K b1 w'):=by
 unfold Md at H;refine aY (P:=P) Tryz.func154 rfl [(0,.pointer (some p1))] 9 rfl rfl (fun p hp=>by rcases List.mem_singleton.1 hp with rfl;rfl) (aB (aA (ag rfl (aC (nc (kp 0 rfl zz) (aB (aA (mv rfl (nk rfl (fa rfl (TF.jM _ _) ?_))))))))));obtain⟨A1,n1,c1,h1,H⟩:=H;exact ld rfl (aJ TF.fJ h1) (sv rfl rfl (xb rfl (fun _=>bD TF.aU)) (bo rfl rfl nN (ag rfl (aC (nc (kp 2 rfl zz) (aW (aG (res1 rfl rfl) ⟨_,rfl,_,rfl,H⟩)))))))
def Tz (p1:Addr) (K:Option Addr->Nat->Nat->World->Prop) (w:World):Prop:=
 Calls P F.xP #[.pointer (some p1)] w (aS fun v1 w1=>∃b1,v1=(.bool b1)/\(b1=true->(Calls P F.Uo #[] w1 (aS fun v2 w2=>∃A2 n2 c2,v2=(.slice A2 n2 c2)/\K A2 n2 c2 w2)))/\(b1=false->(∃A3 n3 c3,w1.cell? (p1.add 2)=some (.slice A3 n3 c3)/\K A3 n3 c3 w1)))
theorem aBp (p1:Addr) (K:Option Addr->Nat->Nat->World->Prop) (w:World) (H:Tz p1 K w):Calls P F.lI #[.pointer (some p1)] w (aS fun v w'=>∃A1 n1 c1,v=(.slice A1 n1 c1)/\K A1 n1 c1 w'):=by
 unfold Tz at H;refine aY (P:=P) Tryz.func151 rfl [(0,.pointer (some p1))] 10 rfl rfl (fun p hp=>by rcases List.mem_singleton.1 hp with rfl;rfl) (aB (aA (ag rfl (aC (nc (kp 0 rfl zz) (aB (aB (aA (mv rfl (sc rfl rfl FF.zD H ?_))))))))));rintro _ w1 ⟨b1,rfl,H⟩;refine aC (nc (y2 0 4 rfl) ?_);refine dG rfl (fun hb=> ?_) (fun hb=> ?_)
 ·replace H:=H.1 hb;refine aB (aA (sc rfl rfl FF.Bl H ?_));rintro _ w2 ⟨A2,n2,c2,rfl,H⟩;exact ag rfl (aC (nc (kp 2 rfl zz) (aW (aI (aG (res1 rfl rfl) ⟨_,rfl,_,_,_,rfl,H⟩)))))
 ·replace H:=H.2 hb;refine aN (nc (kp 0 rfl zz) (aB (aA (mv rfl (nk rfl (fa rfl (TF.jM _ _) ?_))))));obtain⟨A3,n3,c3,h1,H⟩:=H;exact ld rfl (aJ TF.fJ h1) (ag rfl (aC (nc (kp 2 rfl zz) (aW (aG (res1 rfl rfl) ⟨_,rfl,_,_,_,rfl,H⟩)))))
def pM (A1:Option Addr) (n1 c1:Nat) (A3:Option Addr) (n3 c3:Nat) (w5:World) (A2:Option Addr) (n2 c2:Nat) (jc4:Option Addr->Nat->Nat->Option Addr->Nat->Nat->World->Prop) (b3:Bool):Prop:=
 (b3=true->(Calls P F.wG #[.slice A1 n1 c1,.slice A3 n3 c3] w5 (aS fun v2 w6=>∃A4 n4 c4,∃A5 n5 c5,v2=(.tuple #[.slice A4 n4 c4,.slice A5 n5 c5])/\Calls P F.wG #[.slice A2 n2 c2,.slice A3 n3 c3] w6 (aS fun v3 w7=>∃A6 n6 c6,∃A7 n7 c7,v3=(.tuple #[.slice A6 n6 c6,.slice A7 n7 c7])/\jc4 A4 n4 c4 A6 n6 c6 w7))))/\(b3=false->(jc4 A1 n1 c1 A2 n2 c2 w5))
def qI (A1:Option Addr) (n1 c1:Nat) (A2:Option Addr) (n2 c2:Nat) (w1:World) (jc4:Option Addr->Nat->Nat->Option Addr->Nat->Nat->World->Prop) (b2:Bool):Prop:=
 (b2=true->(Calls P F.Oh #[.slice A1 n1 c1,.slice A2 n2 c2] w1 (aS fun v1 w5=>∃A3 n3 c3,v1=(.slice A3 n3 c3)/\(1<(n3:Int)->((pM A1 n1 c1 A3 n3 c3 w5 A2 n2 c2 jc4) true))/\(¬(1<(n3:Int))->(0<=(0:Int)/\(0:Int)<(n3:Int)/\∃a2,A3=some a2/\∃x2,w5.cell? (a2.add ((0:Int).toNat*1))=some (.int .u32 x2)/\(pM A1 n1 c1 A3 n3 c3 w5 A2 n2 c2 jc4) (decide (1<x2)))))))/\(b2=false->(jc4 A1 n1 c1 A2 n2 c2 w1))
def uY (w11:World) (p1:Addr) (jc6:World->Prop) (b4:Bool):Prop:=
 (b4=true->((∃u7,w11.cell? (p1.add 2)=some u7)/\w11.frozen? (p1.add 2)=false/\∀w12,w12=w11.setCell (p1.add 2) (.slice none 0 0)->(jc6 w12)))/\(b4=false->(jc6 w11))
def lT (K:Option Addr->World->Prop) (p1:Addr) (w13:World):Prop:=
 K (some p1) w13
def gW (p1:Addr) (b1:Bool) (K:Option Addr->World->Prop) (A8:Option Addr) (n8 c8:Nat) (A9:Option Addr) (n9 c9:Nat) (w8:World):Prop:=
 (∃u4,w8.cell? (p1.add 0)=some u4)/\w8.frozen? (p1.add 0)=false/\∀w9,w9=w8.setCell (p1.add 0) (.bool b1)->((∃u5,w9.cell? (p1.add 1)=some u5)/\w9.frozen? (p1.add 1)=false/\∀w10,w10=w9.setCell (p1.add 1) (.slice A8 n8 c8)->((∃u6,w10.cell? (p1.add 2)=some u6)/\w10.frozen? (p1.add 2)=false/\∀w11,w11=w10.setCell (p1.add 2) (.slice A9 n9 c9)->(((n9:Int)=1->(0<=(0:Int)/\(0:Int)<(n9:Int)/\∃a3,A9=some a3/\∃x3,w11.cell? (a3.add ((0:Int).toNat*1))=some (.int .u32 x3)/\(uY w11 p1 (lT K p1)) (decide (x3=1))))/\(¬((n9:Int)=1)->((uY w11 p1 (lT K p1)) false)))))
def Aj (n1:Nat) (p1:Addr) (K:Option Addr->World->Prop) (n2:Nat) (A1:Option Addr) (c1:Nat) (A2:Option Addr) (c2:Nat) (b1:Bool) (w1:World):Prop:=
 ((n1:Int)=0->((∃u1,w1.cell? (p1.add 0)=some u1)/\w1.frozen? (p1.add 0)=false/\∀w2,w2=w1.setCell (p1.add 0) (.bool false)->((∃u2,w2.cell? (p1.add 1)=some u2)/\w2.frozen? (p1.add 1)=false/\∀w3,w3=w2.setCell (p1.add 1) (.slice none 0 0)->((∃u3,w3.cell? (p1.add 2)=some u3)/\w3.frozen? (p1.add 2)=false/\∀w4,w4=w3.setCell (p1.add 2) (.slice none 0 0)->(K (some p1) w4)))))/\(¬((n1:Int)=0)->((1<(n2:Int)->((qI A1 n1 c1 A2 n2 c2 w1 (gW p1 b1 K)) true))/\(¬(1<(n2:Int))->(0<=(0:Int)/\(0:Int)<(n2:Int)/\∃a1,A2=some a1/\∃x1,w1.cell? (a1.add ((0:Int).toNat*1))=some (.int .u32 x1)/\(qI A1 n1 c1 A2 n2 c2 w1 (gW p1 b1 K)) (decide (1<x1))))))
def Ti (p1:Addr) (b1:Bool) (A1:Option Addr) (n1 c1:Nat) (A2:Option Addr) (n2 c2:Nat) (K:Option Addr->World->Prop) (w:World):Prop:=
 ((n2:Int)=0->False)/\(¬((n2:Int)=0)->((Aj n1 p1 K n2 A1 c1 A2 c2 b1) w))
theorem aA2 (p1:Addr) (b1:Bool) (A1:Option Addr) (n1 c1:Nat) (A2:Option Addr) (n2 c2:Nat) (K:Option Addr->World->Prop) (w:World) (H:Ti p1 b1 A1 n1 c1 A2 n2 c2 K w):Calls P F.vZ #[.pointer (some p1),.bool b1,.slice A1 n1 c1,.slice A2 n2 c2] w (aS fun v w'=>∃q1,v=(.pointer q1)/\K q1 w'):=by
 unfold Ti at H;refine aY (P:=P) Tryz.func149 rfl [(0,.pointer (some p1)),(1,.bool b1),(2,.slice A1 n1 c1),(3,.slice A2 n2 c2)] 85 rfl rfl (aa rfl (aa rfl (aa rfl (aa rfl az)))) (aB (aA (ag rfl (aC (nc (y4 0 1 2 3 rfl) ?_)))));refine dI (fun a w=>Ok 85 [(0,.pointer (some p1)),(1,.bool b1),(2,.slice A1 n1 c1),(3,.slice A2 n2 c2)] a/\Aj n1 p1 K n2 A1 c1 A2 c2 b1 w) ?_ ?_
 ·rintro a w1 ⟨ha,H⟩;unfold Aj at H;refine cu ha ?_;refine aB (aB (aA (mv rfl (sv rfl rfl (xb rfl (fun _=>bD TF.aU)) (bo rfl rfl nN (aC (nc (y5 0 1 2 3 16 rfl) ?_)))))));refine aK rfl (fun hb=> ?_) (fun hb=> ?_)
  ·replace H:=H.1 hb;refine aB (aA (mv rfl (mv rfl (mv rfl (nk rfl (fa rfl (TF.jY _ _) ?_))))));obtain⟨⟨u1,h1⟩,h2,H⟩:=H;refine gX rfl (aF rfl) (xs rfl rfl (fE TF.size_bool rfl rfl h1 h2)) ?_;intro w2 hw;replace H:=H _ hw;clear hw;refine nk rfl (fa rfl (TF.iH _ _) ?_);obtain⟨⟨u2,h3⟩,h4,H⟩:=H;refine gX rfl (aF rfl) (xs rfl rfl (fE TF.lG rfl rfl h3 h4)) ?_;intro w3 hw;replace H:=H _ hw;clear hw;refine nk rfl (fa rfl (TF.jM _ _) ?_);obtain⟨⟨u3,h5⟩,h6,H⟩:=H;refine gX rfl (aF rfl) (xs rfl rfl (fE TF.lG rfl rfl h5 h6)) ?_;intro w4 hw;replace H:=H _ hw;clear hw;exact aC (nc (kp 0 rfl zz) (aB (aA (mv rfl (ag rfl (aC (nc (kp 8 rfl zz) (aW (aI (aG (res1 rfl rfl) ⟨_,rfl,_,rfl,H⟩))))))))))
  ·replace H:=H.2 hb;refine aN (nc (y4 0 1 2 3 rfl) ?_);refine dI (fun a w=>∃A8 n8 c8,∃A9 n9 c9,Ok 85 [(0,.pointer (some p1)),(1,.bool b1),(2,.slice A8 n8 c8),(3,.slice A9 n9 c9)] a/\gW p1 b1 K A8 n8 c8 A9 n9 c9 w) ?_ ?_
   ·rintro a w8 ⟨A8,n8,c8,A9,n9,c9,ha,H⟩;unfold gW at H;refine cu ha ?_;refine aB (aA (mv rfl (mv rfl (mv rfl (mv rfl (mv rfl (mv rfl (nk rfl (fa rfl (TF.jY _ _) ?_)))))))));obtain⟨⟨u4,h13⟩,h14,H⟩:=H;refine gX rfl (aF rfl) (xs rfl rfl (fE TF.size_bool rfl rfl h13 h14)) ?_;intro w9 hw;replace H:=H _ hw;clear hw;refine nk rfl (fa rfl (TF.iH _ _) ?_);obtain⟨⟨u5,h15⟩,h16,H⟩:=H;refine gX rfl (aF rfl) (xs rfl rfl (fE TF.lG rfl rfl h15 h16)) ?_;intro w10 hw;replace H:=H _ hw;clear hw;refine nk rfl (fa rfl (TF.jM _ _) ?_);obtain⟨⟨u6,h17⟩,h18,H⟩:=H;refine gX rfl (aF rfl) (xs rfl rfl (fE TF.lG rfl rfl h17 h18)) ?_;intro w11 hw;replace H:=H _ hw;clear hw;refine aC (nc (y2 0 3 rfl) ?_);refine dI (fun a w=>Ok 85 [(0,.pointer (some p1))] a/\lT K p1 w) ?_ ?_
    ·rintro a w13 ⟨ha,H⟩;unfold lT at H;refine cu ha ?_;exact aB (aA (mv rfl (ag rfl (aC (nc (kp 8 rfl zz) (aW (aG (res1 rfl rfl) ⟨_,rfl,_,rfl,H⟩)))))))
    ·refine bK (fun a=>∃b4,Ok 85 [(0,.pointer (some p1)),(80,.bool b4)] a/\uY w11 p1 (lT K p1) b4) ?_ ?_
     ·rintro a ⟨b4,ha,H⟩;unfold uY at H;refine cu ha ?_;refine dG rfl (fun hb=> ?_) (fun hb=> ?_)
      ·replace H:=H.1 hb;refine aA (mv rfl (nk rfl (fa rfl (TF.jM _ _) ?_)));obtain⟨⟨u7,h22⟩,h23,H⟩:=H;refine gX rfl (aF rfl) (xs rfl rfl (fE TF.lG rfl rfl h22 h23)) ?_;intro w12 hw;replace H:=H _ hw;clear hw;exact aC (aT fun a ha=>⟨ha.weaken cs,H⟩)
      ·replace H:=H.2 hb;exact aN (aT fun a ha=>⟨ha.weaken cs,H⟩)
     ·refine aA (mv rfl (sv rfl rfl (xb rfl (fun _=>bD TF.aU)) (bo rfl rfl nN ?_)));rcases Classical.em ((n9:Int)=1) with hb|hb
      ·replace H:=H.1 hb;refine sv rfl rfl (xt rfl hb) (Kw rfl rfl rfl ?_);obtain⟨h19,h20,a3,e3,H⟩:=H;refine ixg rfl rfl rfl rfl (bG TF.bJ TF.bH e3 h19 h20) ?_;obtain⟨x3,h21,H⟩:=H;exact ldg rfl rfl rfl (aJ TF.dA h21) (Uu rfl rfl rfl rfl nN (pt rfl rfl (aC (aT fun a ha=>⟨⟨(decide (x3=1)),ha.weaken cs,H⟩,rfl⟩))))
      ·replace H:=H.2 hb;exact sv rfl rfl (xf rfl hb) (sk rfl rfl rfl rfl (sk rfl rfl rfl rfl (sk rfl rfl rfl rfl (sk rfl rfl rfl rfl (pf rfl rfl (aC (aT fun a ha=>⟨⟨false,ha.weaken cs,H⟩,rfl⟩)))))))
   ·refine bK (fun a=>∃b2,Ok 85 [(0,.pointer (some p1)),(1,.bool b1),(2,.slice A1 n1 c1),(3,.slice A2 n2 c2),(35,.bool b2)] a/\qI A1 n1 c1 A2 n2 c2 w1 (gW p1 b1 K) b2) ?_ ?_
    ·rintro a ⟨b2,ha,H⟩;unfold qI at H;refine cu ha ?_;refine dG rfl (fun hb=> ?_) (fun hb=> ?_)
     ·replace H:=H.1 hb;refine aB (aA (mv rfl (mv rfl (sc rfl rfl FF.Vm H ?_))));rintro _ w5 ⟨A3,n3,c3,rfl,H⟩;refine ag rfl (aC (nc (y5 0 1 2 3 9 rfl) ?_));refine bK (fun a=>∃b3,Ok 85 [(0,.pointer (some p1)),(1,.bool b1),(2,.slice A1 n1 c1),(3,.slice A2 n2 c2),(9,.slice A3 n3 c3),(47,.bool b3)] a/\pM A1 n1 c1 A3 n3 c3 w5 A2 n2 c2 (gW p1 b1 K) b3) ?_ ?_
      ·rintro a ⟨b3,ha,H⟩;unfold pM at H;refine cu ha ?_;refine dG rfl (fun hb=> ?_) (fun hb=> ?_)
       ·replace H:=H.1 hb;refine aB (aA (mv rfl (mv rfl (sc rfl rfl FF.uJ H ?_))));rintro _ w6 ⟨A4,n4,c4,A5,n5,c5,rfl,H⟩;refine mv rfl (sv rfl rfl (xe rfl rfl) (sv rfl rfl (xe rfl rfl) (ag rfl (aC (nc (y5 0 1 2 3 9 rfl) (aA (mv rfl (mv rfl (sc rfl rfl FF.uJ H ?_)))))))));rintro _ w7 ⟨A6,n6,c6,A7,n7,c7,rfl,H⟩;exact mv rfl (sv rfl rfl (xe rfl rfl) (sv rfl rfl (xe rfl rfl) (ag rfl (aC (aT fun a ha=>⟨A4,n4,c4,A6,n6,c6,ha.weaken cs,H⟩)))))
       ·replace H:=H.2 hb;exact aN (aT fun a ha=>⟨A1,n1,c1,A2,n2,c2,ha.weaken cs,H⟩)
      ·refine aA (mv rfl (sv rfl rfl (xb rfl (fun _=>bD TF.aU)) (bo rfl rfl kF ?_)));rcases Classical.em (1<(n3:Int)) with hb|hb
       ·replace H:=H.1 hb;exact sv rfl rfl (xt rfl hb) (sk rfl rfl rfl rfl (sk rfl rfl rfl rfl (sk rfl rfl rfl rfl (sk rfl rfl rfl rfl (pt rfl rfl (aC (aT fun a ha=>⟨⟨true,ha.weaken cs,H⟩,rfl⟩)))))))
       ·replace H:=H.2 hb;refine sv rfl rfl (xf rfl hb) (Kw rfl rfl rfl ?_);obtain⟨h10,h11,a2,e2,H⟩:=H;refine ixg rfl rfl rfl rfl (bG TF.bJ TF.bH e2 h10 h11) ?_;obtain⟨x2,h12,H⟩:=H;exact ldg rfl rfl rfl (aJ TF.dA h12) (Uu rfl rfl rfl rfl kF (pf rfl rfl (aC (aT fun a ha=>⟨⟨(decide (1<x2)),ha.weaken cs,H⟩,rfl⟩))))
     ·replace H:=H.2 hb;exact aN (aT fun a ha=>⟨A1,n1,c1,A2,n2,c2,ha.weaken cs,H⟩)
    ·refine aA (mv rfl (sv rfl rfl (xb rfl (fun _=>bD TF.aU)) (bo rfl rfl kF ?_)));rcases Classical.em (1<(n2:Int)) with hb|hb
     ·replace H:=H.1 hb;exact sv rfl rfl (xt rfl hb) (sk rfl rfl rfl rfl (sk rfl rfl rfl rfl (sk rfl rfl rfl rfl (sk rfl rfl rfl rfl (pt rfl rfl (aC (aT fun a ha=>⟨⟨true,ha.weaken cs,H⟩,rfl⟩)))))))
     ·replace H:=H.2 hb;refine sv rfl rfl (xf rfl hb) (Kw rfl rfl rfl ?_);obtain⟨h7,h8,a1,e1,H⟩:=H;refine ixg rfl rfl rfl rfl (bG TF.bJ TF.bH e1 h7 h8) ?_;obtain⟨x1,h9,H⟩:=H;exact ldg rfl rfl rfl (aJ TF.dA h9) (Uu rfl rfl rfl rfl kF (pf rfl rfl (aC (aT fun a ha=>⟨⟨(decide (1<x1)),ha.weaken cs,H⟩,rfl⟩))))
 ·refine aB (aA (mv rfl (sv rfl rfl (xb rfl (fun _=>bD TF.aU)) (bo rfl rfl nN (aC (nc (y5 0 1 2 3 12 rfl) ?_))))));refine aK rfl (fun hb=> ?_) (fun hb=> ?_)
  ·replace H:=H.1 hb;exact aA (H.elim)
  ·replace H:=H.2 hb;exact aN (aT fun a ha=>⟨ha.weaken cs,H⟩)
def jS (K:Option Addr->Bool->World->Prop) (s3:ByteArray) (p1:Addr) (s2:ByteArray) (s1:ByteArray) (A3:Option Addr) (n3 c3:Nat) (w8:World):Prop:=
 ((n3:Int)=0->(K none false w8))/\(¬((n3:Int)=0)->(Calls P F.Sj #[.string s3] w8 (aS fun v7 w9=>∃A4 n4 c4,v7=(.slice A4 n4 c4)/\Calls P F.vZ #[.pointer (some p1),(.bool (decide ((s2.size:Int)<(s1.size:Int)))),.slice A4 n4 c4,.slice A3 n3 c3] w9 (aS fun v8 w10=>∃q2,v8=(.pointer q2)/\K q2 true w10))))
def gQ (K:Option Addr->Bool->World->Prop) (b2:Bool) (s4:ByteArray) (s3:ByteArray) (p1:Addr) (s2:ByteArray) (s1:ByteArray) (b4:Bool) (w4:World):Prop:=
 (b4=true->(K none false w4))/\(b4=false->(Calls P F.Uo #[] w4 (aS fun v5 w6=>∃A1 n1 c1,v5=(.slice A1 n1 c1)/\(b2=true->(Calls P F.Sj #[.string s4] w6 (aS fun v6 w7=>∃A2 n2 c2,v6=(.slice A2 n2 c2)/\(jS K s3 p1 s2 s1) A2 n2 c2 w7)))/\(b2=false->((jS K s3 p1 s2 s1) A1 n1 c1 w6)))))
def Eg (p1:Addr) (s1:ByteArray) (K:Option Addr->Bool->World->Prop) (w:World):Prop:=
 Calls P F.strings_TrimPrefix #[.string s1,.string ⟨#[45]⟩] w (aS fun v1 w1=>∃s2:ByteArray,v1=(.string s2)/\Calls P F.strings_Cut #[.string s2,.string ⟨#[47]⟩] w1 (aS fun v2 w2=>∃s3:ByteArray,∃s4:ByteArray,∃b2,v2=(.tuple #[.string s3,.string s4,.bool b2])/\Calls P F.Em #[.string s3] w2 (aS fun v3 w3=>∃b3,v3=(.bool b3)/\((!b3)=true->((gQ K b2 s4 s3 p1 s2 s1) true w3))/\((!b3)=false->((b2=true->(Calls P F.Em #[.string s4] w3 (aS fun v4 w5=>∃b5,v4=(.bool b5)/\(gQ K b2 s4 s3 p1 s2 s1) (!b5) w5)))/\(b2=false->((gQ K b2 s4 s3 p1 s2 s1) false w3)))))))
theorem Ue (p1:Addr) (s1:ByteArray) (K:Option Addr->Bool->World->Prop) (w:World) (H:Eg p1 s1 K w):Calls P F.pV #[.pointer (some p1),.string s1] w (aS fun v w'=>∃q1,∃b1,v=(.tuple #[.pointer q1,.bool b1])/\K q1 b1 w'):=by
 unfold Eg at H;refine aY (P:=P) Tryz.func165 rfl [(0,.pointer (some p1)),(1,.string s1)] 47 rfl rfl (aa rfl (aa rfl az)) (aB (aA (ag rfl (ag rfl (aC (nc (y2 0 1 rfl) (aB (aA (mv rfl (sc rfl rfl FF.vH H ?_))))))))));rintro _ w1 ⟨s2,rfl,H⟩;refine ag rfl (aC (nc (y3 0 1 6 rfl) (aB (aA (mv rfl (sc rfl rfl FF.Ej H ?_))))));rintro _ w2 ⟨s3,s4,b2,rfl,H⟩;refine mv rfl (sv rfl rfl (xe rfl rfl) (sv rfl rfl (xe rfl rfl) (sv rfl rfl (xe rfl rfl) (ag rfl (ag rfl (ag rfl (aC (nc (y6 0 1 6 7 8 9 rfl) (aB ?_)))))))));refine dI (fun a w=>∃b4,Ok 47 [(0,.pointer (some p1)),(1,.string s1),(6,.string s2),(7,.string s3),(8,.string s4),(9,.bool b2),(29,.bool b4)] a/\gQ K b2 s4 s3 p1 s2 s1 b4 w) ?_ ?_
 ·rintro a w4 ⟨b4,ha,H⟩;unfold gQ at H;refine cu ha ?_;refine dG rfl (fun hb=> ?_) (fun hb=> ?_)
  ·replace H:=H.1 hb;exact aB (aA (ag rfl (ag rfl (aC (nc (y2 4 5 rfl) (aW (aI (aG (wF rfl rfl rfl) ⟨_,rfl,_,_,rfl,H⟩))))))))
  ·replace H:=H.2 hb;refine aN (nc (y6 0 1 6 7 8 9 rfl) (aB (aA (sc rfl rfl FF.Bl H ?_))));rintro _ w6 ⟨A1,n1,c1,rfl,H⟩;refine ag rfl (aC (nc (y7 0 1 6 7 8 9 10 rfl) ?_));refine dI (fun a w=>∃A3 n3 c3,Ok 47 [(0,.pointer (some p1)),(1,.string s1),(6,.string s2),(7,.string s3),(10,.slice A3 n3 c3)] a/\jS K s3 p1 s2 s1 A3 n3 c3 w) ?_ ?_
   ·rintro a w8 ⟨A3,n3,c3,ha,H⟩;unfold jS at H;refine cu ha ?_;refine aB (aB (aA (mv rfl (sv rfl rfl (xb rfl (fun _=>bD TF.aU)) (bo rfl rfl nN (aC (nc (y6 0 1 6 7 10 36 rfl) ?_)))))));refine aK rfl (fun hb=> ?_) (fun hb=> ?_)
    ·replace H:=H.1 hb;exact aB (aA (ag rfl (ag rfl (aC (nc (y2 4 5 rfl) (aW (aI (aG (wF rfl rfl rfl) ⟨_,rfl,_,_,rfl,H⟩))))))))
    ·replace H:=H.2 hb;refine aN (nc (y5 0 1 6 7 10 rfl) (aB (aA (mv rfl (mv rfl (sv rfl rfl (xb rfl (fun _=>Nv TF.dQ)) (mv rfl (sv rfl rfl (xb rfl (fun _=>Nv TF.dQ)) (bo rfl rfl fO (mv rfl (sc rfl rfl FF.Jq H ?_)))))))))));rintro _ w9 ⟨A4,n4,c4,rfl,H⟩;refine mv rfl (sc rfl rfl FF.qC H ?_);rintro _ w10 ⟨q2,rfl,H⟩;exact ag rfl (ag rfl (aC (nc (y2 4 5 rfl) (aW (aG (wF rfl rfl rfl) ⟨_,rfl,_,_,rfl,H⟩)))))
   ·refine aB (aA (mv rfl (aC (nc (y7 0 1 6 7 8 10 31 rfl) ?_))));refine dG rfl (fun hb=> ?_) (fun hb=> ?_)
    ·replace H:=H.1 hb;refine aA (mv rfl (sc rfl rfl FF.Jq H ?_));rintro _ w7 ⟨A2,n2,c2,rfl,H⟩;exact ag rfl (aC (aT fun a ha=>⟨A2,n2,c2,ha.weaken cs,H⟩))
    ·replace H:=H.2 hb;exact aN (aT fun a ha=>⟨A1,n1,c1,ha.weaken cs,H⟩)
 ·refine aA (mv rfl (sc rfl rfl FF.Es H ?_));rintro _ w3 ⟨b3,rfl,H⟩;refine sv rfl rfl (xu rfl Gg) ?_;rcases tf (!b3) with hb|hb
  ·replace H:=H.1 hb;exact sv rfl rfl (fun a ha=>Ya (eU (ha.ev rfl)) hb) (sk rfl rfl rfl rfl (sk rfl rfl rfl rfl (Dj rfl rfl (mW rfl rfl rfl) (Dj rfl rfl (mW rfl rfl rfl) (Dj rfl rfl (mW rfl rfl rfl) (sk rfl rfl rfl rfl (pt rfl rfl (aC (aT fun a ha=>⟨true,ha.weaken cs,H⟩)))))))))
  ·replace H:=H.2 hb;refine sv rfl rfl (fun a ha=>Xq (eU (ha.ev rfl)) hb) (Kw rfl rfl rfl ?_);rcases tf b2 with hb|hb
   ·replace H:=H.1 hb;refine svg rfl rfl rfl rfl (fun a ha=>Ya (eU (ha.ev rfl)) hb) (Kw rfl rfl rfl (uU rfl rfl (cZ rfl rfl rfl) (xc rfl rfl FF.Es) H ?_));rintro _ w5 ⟨b5,rfl,H⟩;exact svg rfl rfl rfl rfl (xu rfl Gg) (ptg rfl rfl rfl rfl (pf rfl rfl (aC (aT fun a ha=>⟨(!b5),ha.weaken cs,H⟩))))
   ·replace H:=H.2 hb;exact svg rfl rfl rfl rfl (fun a ha=>Xq (eU (ha.ev rfl)) hb) (sk rfl rfl rfl rfl (sk rfl rfl rfl rfl (sk rfl rfl rfl rfl (pfg rfl rfl rfl rfl (pf rfl rfl (aC (aT fun a ha=>⟨false,ha.weaken cs,H⟩)))))))
def zO (K:Option Addr->World->Prop) (q3:Option Addr) (w6:World):Prop:=
 K q3 w6
def Rw (p1:Addr) (K:Option Addr->World->Prop) (w:World):Prop:=
 ∃b1,w.cell? (p1.add 0)=some (.bool b1)/\∃A1 n1 c1,w.cell? (p1.add 1)=some (.slice A1 n1 c1)/\∀w7,aP w w7->∀(p2:Addr) (w1:World),New w7 (.cells #[.bool false,.slice none 0 0] T.Hf) p2 w1->(∀w3,aP w1 w3->Calls P F.Kr #[.pointer (some p2),.bool b1,.slice A1 n1 c1] w3 (aS fun v1 w2=>∃q2,v1=(.pointer q2)/\∀w5,aP w2 w5->((zO K) q2 w5)))
theorem aBo (p1:Addr) (K:Option Addr->World->Prop) (w:World) (H:Rw p1 K w):Calls P F.Ed #[.pointer (some p1)] w (aS fun v w'=>∃q1,v=(.pointer q1)/\K q1 w'):=by
 unfold Rw at H;refine aY (P:=P) Tryz.func147 rfl [(0,.pointer (some p1))] 13 rfl rfl (fun p hp=>by rcases List.mem_singleton.1 hp with rfl;rfl) (aB (aA (ag rfl (aC (nc (kp 0 rfl zz) ?_)))));refine dI (fun a w=>∃q3,Ok 13 [(2,.pointer q3)] a/\zO K q3 w) ?_ ?_
 ·rintro a w6 ⟨q3,ha,H⟩;unfold zO at H;refine cu ha ?_;exact aW (aG (res1 rfl rfl) ⟨_,rfl,_,rfl,H⟩)
 ·refine iI follows (fun _=>False) [1,2,3,4,5,6,7,8,10] [4,8] 11 rfl rfl (by kernel_rfl) (fun _ _ d _ _ h=>by cases d<;>exact h) (fun cm W D=> ?_);refine lU 1 cm rfl rfl D W fun _ D W=>(pnk 2 cm rfl rfl D W fun _ D W=>(Nw 3 cm rfl rfl (TF.jY _ _) D W fun _ D W=> ?_));obtain⟨b1,h1,H⟩:=H;refine vl 4 cm rfl rfl (fun hw=>(aJ TF.gU (hw.cell ⟨h1,fun h=>h⟩))) D W fun _ D W=>(lU 5 cm rfl rfl D W fun _ D W=>(pnk 6 cm rfl rfl D W fun _ D W=>(Nw 7 cm rfl rfl (TF.iH _ _) D W fun _ D W=> ?_)));obtain⟨A1,n1,c1,h2,H⟩:=H;refine vl 8 cm rfl rfl (fun hw=>(aJ TF.fJ (hw.cell ⟨h2,fun h=>h⟩))) D W fun _ D W=>(ar 0 ?_);replace H:=H _ D;refine kS (f:=(fun p=> .pointer (some p))) rfl rfl rfl (aF rfl) (fun a ha=>dR (dV TF.aDq)) rfl true (by kernel_rfl) ?_;intro p2 w1 hN _ D;replace H:=H _ _ hN;replace W:=(W.new hN).drawn D;refine⟨fun _=>W,?_⟩;refine ar 9 ?_;replace H:=H _ D;refine iZ rfl rfl rfl (aF rfl) (xc rfl rfl FF.Rl) rfl false (by kernel_rfl) H ?_;rintro _ w2 ⟨q2,rfl,H⟩ _ D;refine⟨fun h=>(by cases h),?_⟩;refine vP 10 cm rfl rfl D fun _ D=>(dU (by kernel_rfl) D ?_);intro w5 D;replace H:=H _ D;clear D cm;exact aT fun a ha=>⟨q2,ha.weaken cs,H⟩
def Qn (p1:Addr) (K:Int->World->Prop) (w:World):Prop:=
 Calls P F.Ed #[.pointer (some p1)] w (aS fun v1 w1=>∃q1,v1=(.pointer q1)/\Calls P F.Hq #[.pointer q1] w1 (aS fun v2 w2=>∃x2,v2=(.int .i64 x2)/\K x2 w2))
theorem aAm (p1:Addr) (K:Int->World->Prop) (w:World) (H:Qn p1 K w):Calls P F.mP #[.pointer (some p1)] w (aS fun v w'=>∃x1,v=(.int .i64 x1)/\K x1 w'):=by
 unfold Qn at H;refine aY (P:=P) Tryz.func83 rfl [(0,.pointer (some p1))] 6 rfl rfl (fun p hp=>by rcases List.mem_singleton.1 hp with rfl;rfl) (aB (aA (ag rfl (aC (nc (kp 0 rfl zz) (aB (aA (mv rfl (sc rfl rfl FF.Ef H ?_)))))))));rintro _ w1 ⟨q1,rfl,H⟩;refine sc rfl rfl FF.Qv H ?_;rintro _ w2 ⟨x2,rfl,H⟩;exact ag rfl (aC (nc (kp 2 rfl zz) (aW (aG (res1 rfl rfl) ⟨_,rfl,_,rfl,H⟩))))
def lS (K:ByteArray->World->Prop) (s4:ByteArray) (w5:World):Prop:=
 K s4 w5
def Dk (p1:Addr) (K:ByteArray->World->Prop) (w:World):Prop:=
 Calls P F.Ed #[.pointer (some p1)] w (aS fun v1 w1=>∃q1,v1=(.pointer q1)/\Calls P F.zX #[.pointer q1] w1 (aS fun v2 w2=>∃s2:ByteArray,v2=(.string s2)/\Calls P F.xP #[.pointer (some p1)] w2 (aS fun v3 w3=>∃b1,v3=(.bool b1)/\((!b1)=true->(∃A1 n1 c1,w3.cell? (p1.add 2)=some (.slice A1 n1 c1)/\Calls P F.rM #[.slice A1 n1 c1] w3 (aS fun v4 w4=>∃s3:ByteArray,v4=(.string s3)/\(⟨#[47]⟩:ByteArray).size+s3.size<=9223372036854775807/\s2.size+((⟨#[47]⟩:ByteArray)++s3).size<=9223372036854775807/\(lS K) (s2++((⟨#[47]⟩:ByteArray)++s3)) w4)))/\((!b1)=false->((lS K) s2 w3)))))
theorem Uj (p1:Addr) (K:ByteArray->World->Prop) (w:World) (H:Dk p1 K w):Calls P F.pJ #[.pointer (some p1)] w (aS fun v w'=>∃s1:ByteArray,v=(.string s1)/\K s1 w'):=by
 unfold Dk at H;refine aY (P:=P) Tryz.func86 rfl [(0,.pointer (some p1))] 19 rfl rfl (fun p hp=>by rcases List.mem_singleton.1 hp with rfl;rfl) (aB (aA (ag rfl (aC (nc (kp 0 rfl zz) (aB (aA (mv rfl (sc rfl rfl FF.Ef H ?_)))))))));rintro _ w1 ⟨q1,rfl,H⟩;refine sc rfl rfl FF.Nl H ?_;rintro _ w2 ⟨s2,rfl,H⟩;refine ag rfl (aC (nc (y2 0 3 rfl) ?_));refine dI (fun a w=>∃s4:ByteArray,Ok 19 [(3,.string s4)] a/\lS K s4 w) ?_ ?_
 ·rintro a w5 ⟨s4,ha,H⟩;unfold lS at H;refine cu ha ?_;exact aB (aA (mv rfl (ag rfl (aC (nc (kp 2 rfl zz) (aW (aG (res1 rfl rfl) ⟨_,rfl,_,rfl,H⟩)))))))
 ·refine aB (aA (mv rfl (sc rfl rfl FF.zD H ?_)));rintro _ w3 ⟨b1,rfl,H⟩;refine sv rfl rfl (xu rfl Gg) (aC (nc (y3 0 3 9 rfl) ?_));refine dG rfl (fun hb=> ?_) (fun hb=> ?_)
  ·replace H:=H.1 hb;refine aA (mv rfl (mv rfl (nk rfl (fa rfl (TF.jM _ _) ?_))));obtain⟨A1,n1,c1,h1,H⟩:=H;refine ld rfl (aJ TF.fJ h1) (sc rfl rfl FF.rV H ?_);rintro _ w4 ⟨s3,rfl,H⟩;obtain⟨h2,H⟩:=H;refine bo rfl rfl (wH h2) ?_;obtain⟨h3,H⟩:=H;exact bo rfl rfl (wH h3) (ag rfl (aC (aT fun a ha=>⟨s2++((⟨#[47]⟩:ByteArray)++s3),ha.weaken cs,H⟩)))
  ·replace H:=H.2 hb;exact aN (aT fun a ha=>⟨s2,ha.weaken cs,H⟩)
def sW (K:Int->Int->Bool->World->Prop) (x6:Int) (w:World) (x7:Int):Prop:=
 K x7 x6 true w
def oI (w:World) (p1:Addr) (K:Int->Int->Bool->World->Prop) (x4:Int) (x6:Int):Prop:=
 ∃b3,w.cell? (p1.add 0)=some (.bool b3)/\(b3=true->((sW K x6 w) (IntKind.wrap .i64 (0-x4))))/\(b3=false->((sW K x6 w) x4))
def oH (w:World) (p1:Addr) (K:Int->Int->Bool->World->Prop) (x4:Int):Prop:=
 ∃A5 n5 c5,w.cell? (p1.add 2)=some (.slice A5 n5 c5)/\((n5:Int)=1->(∃A6 n6 c6,w.cell? (p1.add 2)=some (.slice A6 n6 c6)/\0<=(0:Int)/\(0:Int)<(n6:Int)/\∃a2,A6=some a2/\∃x5,w.cell? (a2.add ((0:Int).toNat*1))=some (.int .u32 x5)/\(oI w p1 K x4) (IntKind.wrap .i64 x5)))/\(¬((n5:Int)=1)->((oI w p1 K x4) 1))
def nV (K:Int->Int->Bool->World->Prop) (w:World) (p1:Addr) (b2:Bool):Prop:=
 (b2=true->(K 0 0 false w))/\(b2=false->(∃A3 n3 c3,w.cell? (p1.add 1)=some (.slice A3 n3 c3)/\((n3:Int)=1->(∃A4 n4 c4,w.cell? (p1.add 1)=some (.slice A4 n4 c4)/\0<=(0:Int)/\(0:Int)<(n4:Int)/\∃a1,A4=some a1/\∃x3,w.cell? (a1.add ((0:Int).toNat*1))=some (.int .u32 x3)/\(oH w p1 K) (IntKind.wrap .i64 x3)))/\(¬((n3:Int)=1)->((oH w p1 K) 0))))
def Ql (p1:Addr) (K:Int->Int->Bool->World->Prop) (w:World):Prop:=
 ∃A1 n1 c1,w.cell? (p1.add 1)=some (.slice A1 n1 c1)/\(1<(n1:Int)->((nV K w p1) true))/\(¬(1<(n1:Int))->(∃A2 n2 c2,w.cell? (p1.add 2)=some (.slice A2 n2 c2)/\(nV K w p1) (decide (1<(n2:Int)))))
theorem aAn (p1:Addr) (K:Int->Int->Bool->World->Prop) (w:World) (H:Ql p1 K w):Calls P F.Aa #[.pointer (some p1)] w (aS fun v w'=>∃x1,∃x2,∃b1,v=(.tuple #[.int .i64 x1,.int .i64 x2,.bool b1])/\K x1 x2 b1 w'):=by
 unfold Ql at H;refine aY (P:=P) Tryz.func167 rfl [(0,.pointer (some p1))] 55 rfl rfl (fun p hp=>by rcases List.mem_singleton.1 hp with rfl;rfl) (aB (aA (ag rfl (ag rfl (ag rfl (aC (nc (kp 0 rfl zz) (aB ?_))))))));refine bK (fun a=>∃b2,Ok 55 [(0,.pointer (some p1)),(20,.bool b2)] a/\nV K w p1 b2) ?_ ?_
 ·rintro a ⟨b2,ha,H⟩;unfold nV at H;refine cu ha ?_;refine dG rfl (fun hb=> ?_) (fun hb=> ?_)
  ·replace H:=H.1 hb;exact aB (aA (ag rfl (ag rfl (ag rfl (aC (nc (y3 2 3 4 rfl) (aW (aI (aG (aH0 rfl rfl rfl rfl) ⟨_,rfl,_,_,_,rfl,H⟩)))))))))
  ·replace H:=H.2 hb;refine aN (nc (kp 0 rfl zz) (aB (aA (ag rfl (ag rfl (aC (nc (y3 0 5 6 rfl) ?_)))))));refine bK (fun a=>∃x4,Ok 55 [(0,.pointer (some p1)),(5,.int .i64 x4),(6,.int .i64 1)] a/\oH w p1 K x4) ?_ ?_
   ·rintro a ⟨x4,ha,H⟩;unfold oH at H;refine cu ha ?_;refine bK (fun a=>∃x6,Ok 55 [(0,.pointer (some p1)),(5,.int .i64 x4),(6,.int .i64 x6)] a/\oI w p1 K x4 x6) ?_ ?_
    ·rintro a ⟨x6,ha,H⟩;unfold oI at H;refine cu ha ?_;refine bK (fun a=>∃x7,Ok 55 [(5,.int .i64 x7),(6,.int .i64 x6)] a/\sW K x6 w x7) ?_ ?_
     ·rintro a ⟨x7,ha,H⟩;unfold sW at H;refine cu ha ?_;exact aB (aA (mv rfl (mv rfl (ag rfl (ag rfl (ag rfl (aC (nc (y3 2 3 4 rfl) (aW (aG (aH0 rfl rfl rfl rfl) ⟨_,rfl,_,_,_,rfl,H⟩))))))))))
     ·refine aB (aA (mv rfl (nk rfl (fa rfl (TF.jY _ _) ?_))));obtain⟨b3,h13,H⟩:=H;refine ld rfl (aJ TF.gU h13) (aC (nc (y3 5 6 50 rfl) ?_));refine dG rfl (fun hb=> ?_) (fun hb=> ?_)
      ·replace H:=H.1 hb;exact aA (mv rfl (sv rfl rfl (xu rfl aB9) (ag rfl (aC (aT fun a ha=>⟨⟨IntKind.wrap .i64 (0-x4),ha.weaken cs,H⟩,rfl⟩)))))
      ·replace H:=H.2 hb;exact aN (aT fun a ha=>⟨⟨x4,ha.weaken cs,H⟩,rfl⟩)
    ·refine aB (aA (mv rfl (nk rfl (fa rfl (TF.jM _ _) ?_))));obtain⟨A5,n5,c5,h8,H⟩:=H;refine ld rfl (aJ TF.fJ h8) (sv rfl rfl (xb rfl (fun _=>bD TF.aU)) (bo rfl rfl nN (aC (nc (y4 0 5 6 39 rfl) ?_))));refine aK rfl (fun hb=> ?_) (fun hb=> ?_)
     ·replace H:=H.1 hb;refine aA (mv rfl (nk rfl (fa rfl (TF.jM _ _) ?_)));obtain⟨A6,n6,c6,h9,H⟩:=H;refine ld rfl (aJ TF.fJ h9) ?_;obtain⟨h10,h11,a2,e2,H⟩:=H;refine ix rfl rfl (bG TF.bJ TF.bH e2 h10 h11) ?_;obtain⟨x5,h12,H⟩:=H;exact ld rfl (aJ TF.dA h12) (sv rfl rfl (fun a ha=>dB (ha.ev rfl) (iC TF.dL TF.wR)) (ag rfl (aC (aT fun a ha=>⟨⟨IntKind.wrap .i64 x5,ha.weaken cs,H⟩,rfl⟩))))
     ·replace H:=H.2 hb;exact aN (aT fun a ha=>⟨⟨1,ha.weaken cs,H⟩,rfl⟩)
   ·refine aB (aA (mv rfl (nk rfl (fa rfl (TF.iH _ _) ?_))));obtain⟨A3,n3,c3,h3,H⟩:=H;refine ld rfl (aJ TF.fJ h3) (sv rfl rfl (xb rfl (fun _=>bD TF.aU)) (bo rfl rfl nN (aC (nc (y4 0 5 6 26 rfl) ?_))));refine aK rfl (fun hb=> ?_) (fun hb=> ?_)
    ·replace H:=H.1 hb;refine aA (mv rfl (nk rfl (fa rfl (TF.iH _ _) ?_)));obtain⟨A4,n4,c4,h4,H⟩:=H;refine ld rfl (aJ TF.fJ h4) ?_;obtain⟨h5,h6,a1,e1,H⟩:=H;refine ix rfl rfl (bG TF.bJ TF.bH e1 h5 h6) ?_;obtain⟨x3,h7,H⟩:=H;exact ld rfl (aJ TF.dA h7) (sv rfl rfl (fun a ha=>dB (ha.ev rfl) (iC TF.dL TF.wR)) (ag rfl (aC (aT fun a ha=>⟨⟨IntKind.wrap .i64 x3,ha.weaken cs,H⟩,rfl⟩))))
    ·replace H:=H.2 hb;exact aN (aT fun a ha=>⟨⟨0,ha.weaken cs,H⟩,rfl⟩)
 ·refine aA (mv rfl (nk rfl (fa rfl (TF.iH _ _) ?_)));obtain⟨A1,n1,c1,h1,H⟩:=H;refine ld rfl (aJ TF.fJ h1) (sv rfl rfl (xb rfl (fun _=>bD TF.aU)) (bo rfl rfl kF ?_));rcases Classical.em (1<(n1:Int)) with hb|hb
  ·replace H:=H.1 hb;exact sv rfl rfl (xt rfl hb) (sk rfl rfl rfl rfl (sk rfl rfl rfl rfl (sk rfl rfl rfl rfl (sk rfl rfl rfl rfl (sk rfl rfl rfl rfl (sk rfl rfl rfl rfl (pt rfl rfl (aC (aT fun a ha=>⟨⟨true,ha.weaken cs,H⟩,rfl⟩)))))))))
  ·replace H:=H.2 hb;refine sv rfl rfl (xf rfl hb) (Kw rfl rfl rfl (nkg rfl rfl rfl (fag rfl rfl rfl (TF.jM _ _) ?_)));obtain⟨A2,n2,c2,h2,H⟩:=H;exact ldg rfl rfl rfl (aJ TF.fJ h2) (svg rfl rfl rfl rfl (xb rfl (fun _=>bD TF.aU)) (Uu rfl rfl rfl rfl kF (pf rfl rfl (aC (aT fun a ha=>⟨⟨(decide (1<(n2:Int))),ha.weaken cs,H⟩,rfl⟩)))))
def oG (x7:Int) (w8:World) (p1:Addr) (jc4:World->Prop) (b1:Bool):Prop:=
 (b1=true->(Calls P F.rO #[.int .u64 (IntKind.wrap .u64 x7)] w8 (aS fun v2 w9=>∃A2 n2 c2,v2=(.slice A2 n2 c2)/\(∃u4,w9.cell? (p1.add 2)=some u4)/\w9.frozen? (p1.add 2)=false/\∀w10,w10=w9.setCell (p1.add 2) (.slice A2 n2 c2)->(jc4 w10))))/\(b1=false->(jc4 w8))
def kU (K:Option Addr->World->Prop) (p1:Addr) (w11:World):Prop:=
 K (some p1) w11
def kV (p1:Addr) (x1:Int) (K:Option Addr->World->Prop) (x6:Int) (x7:Int) (w4:World):Prop:=
 Calls P F.rO #[.int .u64 (IntKind.wrap .u64 x6)] w4 (aS fun v1 w5=>∃A1 n1 c1,v1=(.slice A1 n1 c1)/\(∃u1,w5.cell? (p1.add 0)=some u1)/\w5.frozen? (p1.add 0)=false/\∀w6,w6=w5.setCell (p1.add 0) (.bool (decide (x1<0)))->((∃u2,w6.cell? (p1.add 1)=some u2)/\w6.frozen? (p1.add 1)=false/\∀w7,w7=w6.setCell (p1.add 1) (.slice A1 n1 c1)->((∃u3,w7.cell? (p1.add 2)=some u3)/\w7.frozen? (p1.add 2)=false/\∀w8,w8=w7.setCell (p1.add 2) (.slice none 0 0)->((0<x6->((oG x7 w8 p1 (kU K p1)) (decide (1<x7))))/\(¬(0<x6)->((oG x7 w8 p1 (kU K p1)) false))))))
def nY (x2:Int) (w:World) (p1:Addr) (x1:Int) (K:Option Addr->World->Prop) (x3:Int):Prop:=
 ∃I1:Nat->Int->Int->World->Prop,(∃k1,I1 k1 x3 x2 w)/\∀k1 (x4:Int) (x5:Int) (w1:World),I1 k1 x4 x5 w1->((0<x5->(x5≠0/\∀w2,aP w1 w2->(∃k2,k2<k1/\I1 k2 x5 (Int.tmod x4 x5) w2)))/\(¬(0<x5)->((1<x4->(x4≠0/\x4≠0/\∀w3,aP w1 w3->((kV p1 x1 K) (IntKind.wrap .i64 (Int.tdiv x3 x4)) (IntKind.wrap .i64 (Int.tdiv x2 x4)) w3)))/\(¬(1<x4)->((kV p1 x1 K) x3 x2 w1)))))
def Qm (p1:Addr) (x1:Int) (x2:Int) (K:Option Addr->World->Prop) (w:World):Prop:=
 (x1<0->((nY x2 w p1 x1 K) (IntKind.wrap .i64 (0-x1))))/\(¬(x1<0)->((nY x2 w p1 x1 K) x1))
theorem aAh (p1:Addr) (x1:Int) (x2:Int) (K:Option Addr->World->Prop) (w:World) (H:Qm p1 x1 x2 K w):Calls P F.Ho #[.pointer (some p1),.int .i64 x1,.int .i64 x2] w (aS fun v w'=>∃q1,v=(.pointer q1)/\K q1 w'):=by
 unfold Qm at H;refine aY (P:=P) Tryz.func168 rfl [(0,.pointer (some p1)),(1,.int .i64 x1),(2,.int .i64 x2)] 57 rfl rfl (aa rfl (aa rfl (aa rfl az))) (aB (aA (ag rfl (aC (nc (y3 0 1 2 rfl) (aB (aA (mv rfl (bo rfl rfl fO (ag rfl (aC (nc (y4 0 1 2 7 rfl) ?_))))))))))));refine bK (fun a=>∃x3,Ok 57 [(0,.pointer (some p1)),(1,.int .i64 x3),(2,.int .i64 x2),(7,.bool (decide (x1<0)))] a/\nY x2 w p1 x1 K x3) ?_ ?_
 ·rintro a ⟨x3,ha,H⟩;unfold nY at H;refine cu ha ?_;refine aB (aA (mv rfl (mv rfl (ag rfl (ag rfl (aC (nc (y6 0 1 2 7 8 9 rfl) (aB (aV ?_)))))))));obtain⟨I1,⟨k1,hi⟩,H⟩:=H;refine dM (fun k1 a w'=>∃x4,∃x5,Ok 57 [(0,.pointer (some p1)),(1,.int .i64 x3),(2,.int .i64 x2),(7,.bool (decide (x1<0))),(8,.int .i64 x4),(9,.int .i64 x5)] a/\I1 k1 x4 x5 w') (fun a ha=>⟨k1,x3,x2,ha.weaken cs,hi⟩) ?_;rintro k1 a w1 ⟨x4,x5,ha,hI⟩;replace H:=H k1 x4 x5 w1 hI;refine cu ha ?_;refine aB (aB (aA (mv rfl (bo rfl rfl kF (aC (nc (y7 0 1 2 7 8 9 18 rfl) ?_))))));refine aK rfl (fun hb=> ?_) (fun hb=> ?_)
  ·replace H:=H.1 hb;refine aN (nc (y6 0 1 2 7 8 9 rfl) (aV ?_));refine dW follows [0,1,2,3,4,5] [] 6 rfl rfl (by kernel_rfl) (fun _ _ d _ _ h=>by cases d<;>exact h) (fun cm W D=> ?_);refine Ez 0 cm rfl rfl D fun _ D=>(Ez 1 cm rfl rfl D fun _ D=>(Ez 2 cm rfl rfl D fun _ D=> ?_));obtain⟨h1,H⟩:=H;refine Ji 3 cm rfl rfl rfl (fun w' a ha=>dK (ha.ev rfl) (ha.ev rfl) (Gt h1)) D fun _ D=>(vP 4 cm rfl rfl D fun _ D=>(vP 5 cm rfl rfl D fun _ D=>(dU (by kernel_rfl) D ?_)));intro w2 D;replace H:=H _ D;clear D cm;refine bQ ?_;obtain⟨k2,hk,H⟩:=H;exact aT fun a ha=>⟨k2,hk,x5,Int.tmod x4 x5,ha.weaken cs,H⟩
  ·replace H:=H.2 hb;refine bW (aH (aH (aZ (nc (y5 0 1 2 7 8 rfl) ?_))));refine dI (fun a w=>∃x6,∃x7,Ok 57 [(0,.pointer (some p1)),(1,.int .i64 x6),(2,.int .i64 x7),(7,.bool (decide (x1<0)))] a/\kV p1 x1 K x6 x7 w) ?_ ?_
   ·rintro a w4 ⟨x6,x7,ha,H⟩;unfold kV at H;refine cu ha ?_;refine aB (aA (mv rfl (mv rfl (mv rfl (mv rfl (mv rfl (sv rfl rfl (fun a ha=>dB (ha.ev rfl) (iC TF.wR TF.dO)) (sc rfl rfl FF.iW H ?_))))))));rintro _ w5 ⟨A1,n1,c1,rfl,H⟩;refine nk rfl (fa rfl (TF.jY _ _) ?_);obtain⟨⟨u1,h4⟩,h5,H⟩:=H;refine gX rfl (aF rfl) (xs rfl rfl (fE TF.size_bool rfl rfl h4 h5)) ?_;intro w6 hw;replace H:=H _ hw;clear hw;refine nk rfl (fa rfl (TF.iH _ _) ?_);obtain⟨⟨u2,h6⟩,h7,H⟩:=H;refine gX rfl (aF rfl) (xs rfl rfl (fE TF.lG rfl rfl h6 h7)) ?_;intro w7 hw;replace H:=H _ hw;clear hw;refine nk rfl (fa rfl (TF.jM _ _) ?_);obtain⟨⟨u3,h8⟩,h9,H⟩:=H;refine gX rfl (aF rfl) (xs rfl rfl (fE TF.lG rfl rfl h8 h9)) ?_;intro w8 hw;replace H:=H _ hw;clear hw;refine aC (nc (y3 0 1 2 rfl) ?_);refine dI (fun a w=>Ok 57 [(0,.pointer (some p1))] a/\kU K p1 w) ?_ ?_
    ·rintro a w11 ⟨ha,H⟩;unfold kU at H;refine cu ha ?_;exact aB (aA (mv rfl (ag rfl (aC (nc (kp 6 rfl zz) (aW (aG (res1 rfl rfl) ⟨_,rfl,_,rfl,H⟩)))))))
    ·refine bK (fun a=>∃b1,Ok 57 [(0,.pointer (some p1)),(2,.int .i64 x7),(49,.bool b1)] a/\oG x7 w8 p1 (kU K p1) b1) ?_ ?_
     ·rintro a ⟨b1,ha,H⟩;unfold oG at H;refine cu ha ?_;refine dG rfl (fun hb=> ?_) (fun hb=> ?_)
      ·replace H:=H.1 hb;refine aA (mv rfl (mv rfl (sv rfl rfl (fun a ha=>dB (ha.ev rfl) (iC TF.wR TF.dO)) (sc rfl rfl FF.iW H ?_))));rintro _ w9 ⟨A2,n2,c2,rfl,H⟩;refine nk rfl (fa rfl (TF.jM _ _) ?_);obtain⟨⟨u4,h10⟩,h11,H⟩:=H;refine gX rfl (aF rfl) (xs rfl rfl (fE TF.lG rfl rfl h10 h11)) ?_;intro w10 hw;replace H:=H _ hw;clear hw;exact aC (aT fun a ha=>⟨ha.weaken cs,H⟩)
      ·replace H:=H.2 hb;exact aN (aT fun a ha=>⟨ha.weaken cs,H⟩)
     ·refine aA (mv rfl (bo rfl rfl kF ?_));rcases Classical.em (0<x6) with hb|hb
      ·replace H:=H.1 hb;exact sv rfl rfl (xt rfl hb) (Kw rfl rfl rfl (Uu rfl rfl rfl rfl kF (pt rfl rfl (aC (aT fun a ha=>⟨⟨(decide (1<x7)),ha.weaken cs,H⟩,rfl⟩)))))
      ·replace H:=H.2 hb;exact sv rfl rfl (xf rfl hb) (sk rfl rfl rfl rfl (sk rfl rfl rfl rfl (pf rfl rfl (aC (aT fun a ha=>⟨⟨false,ha.weaken cs,H⟩,rfl⟩)))))
   ·refine aB (aA (mv rfl (bo rfl rfl kF (aC (nc (y6 0 1 2 7 8 24 rfl) ?_)))));refine aK rfl (fun hb=> ?_) (fun hb=> ?_)
    ·replace H:=H.1 hb;refine dW follows [0,1,2,3,4,5,6,7] [] 8 rfl rfl (by kernel_rfl) (fun _ _ d _ _ h=>by cases d<;>exact h) (fun cm W D=> ?_);refine Ez 0 cm rfl rfl D fun _ D=>(Ez 1 cm rfl rfl D fun _ D=> ?_);obtain⟨h2,H⟩:=H;refine Ji 2 cm rfl rfl rfl (fun w' a ha=>dK (ha.ev rfl) (ha.ev rfl) (Ai h2)) D fun _ D=>(Ez 3 cm rfl rfl D fun _ D=>(Ez 4 cm rfl rfl D fun _ D=> ?_));obtain⟨h3,H⟩:=H;refine Ji 5 cm rfl rfl rfl (fun w' a ha=>dK (ha.ev rfl) (ha.ev rfl) (Ai h3)) D fun _ D=>(vP 6 cm rfl rfl D fun _ D=>(vP 7 cm rfl rfl D fun _ D=>(dU (by kernel_rfl) D ?_)));intro w3 D;replace H:=H _ D;clear D cm;exact aT fun a ha=>⟨IntKind.wrap .i64 (Int.tdiv x3 x4),IntKind.wrap .i64 (Int.tdiv x2 x4),ha.weaken cs,H⟩
    ·replace H:=H.2 hb;exact aN (aT fun a ha=>⟨x3,x2,ha.weaken cs,H⟩)
 ·refine aB (aA (mv rfl (aC (nc (y5 0 1 2 7 12 rfl) ?_))));refine aK rfl (fun hb=> ?_) (fun hb=> ?_)
  ·replace H:=H.1 hb;exact aA (mv rfl (sv rfl rfl (xu rfl aB9) (ag rfl (aC (aT fun a ha=>⟨⟨IntKind.wrap .i64 (0-x1),ha.weaken cs,H⟩,rfl⟩)))))
  ·replace H:=H.2 hb;exact aN (aT fun a ha=>⟨⟨x1,ha.weaken cs,H⟩,rfl⟩)
def kW (p1:Addr) (x1:Int) (x4:Int) (x2:Int) (w2:World) (K:Option Addr->World->Prop) (x5:Int):Prop:=
 Calls P F.Ho #[.pointer (some p1),(.int .i64 (IntKind.wrap .i64 ((IntKind.wrap .i64 (x1*x4))+(IntKind.wrap .i64 (x5*x2))))),.int .i64 (IntKind.wrap .i64 (x2*x4))] w2 (aS fun v3 w3=>∃q4,v3=(.pointer q4)/\K q4 w3)
def yF (q1:Option Addr) (q2:Option Addr) (p1:Addr) (K:Option Addr->World->Prop) (b7:Bool) (A8:Option Addr) (n8 c8:Nat) (w21:World):Prop:=
 Calls P F.lI #[.pointer q1] w21 (aS fun v9 w22=>∃A9 n9 c9,v9=(.slice A9 n9 c9)/\Calls P F.lI #[.pointer q2] w22 (aS fun v10 w23=>∃A10 n10 c10,v10=(.slice A10 n10 c10)/\Calls P F.fH #[.slice A9 n9 c9,.slice A10 n10 c10] w23 (aS fun v11 w24=>∃A11 n11 c11,v11=(.slice A11 n11 c11)/\Calls P F.vZ #[.pointer (some p1),.bool b7,.slice A8 n8 c8,.slice A11 n11 c11] w24 (aS fun v12 w25=>∃q5,v12=(.pointer q5)/\K q5 w25))))
def oJ (q1:Option Addr) (q2:Option Addr) (b1:Bool) (p1:Addr) (K:Option Addr->World->Prop) (w4:World):Prop:=
 ∃X1:Nat->Prop,∃p2,q1=some p2/\∃b4,w4.cell? (p2.add 0)=some (.bool b4)/\¬X1 (p2.add 0).block/\∃p3,q1=some p3/\∃A1 n1 c1,w4.cell? (p3.add 1)=some (.slice A1 n1 c1)/\¬X1 (p3.add 1).block/\∃p4,q2=some p4/\∃b5,w4.cell? (p4.add 0)=some (.bool b5)/\¬X1 (p4.add 0).block/\∃p5,q2=some p5/\∃A2 n2 c2,w4.cell? (p5.add 1)=some (.slice A2 n2 c2)/\¬X1 (p5.add 1).block/\∀w6,aP w4 w6->Calls P F.lI #[.pointer q2] w6 (aS fun v4 w5=>∃A3 n3 c3,v4=(.slice A3 n3 c3)/\Keep X1 w4 w5/\∀w9,aP w5 w9->Calls P F.fH #[.slice A1 n1 c1,.slice A3 n3 c3] w9 (aS fun v5 w8=>∃A4 n4 c4,v5=(.slice A4 n4 c4)/\Keep X1 w4 w8/\∀w12,aP w8 w12->Calls P F.lI #[.pointer q1] w12 (aS fun v6 w11=>∃A5 n5 c5,v6=(.slice A5 n5 c5)/\Keep X1 w4 w11/\∀w15,aP w11 w15->Calls P F.fH #[.slice A2 n2 c2,.slice A5 n5 c5] w15 (aS fun v7 w14=>∃A6 n6 c6,v7=(.slice A6 n6 c6)/\Keep X1 w4 w14/\∀w18,aP w14 w18->Calls P F.aAu #[.bool b4,.slice A4 n4 c4,.bool (decide (b5≠b1)),.slice A6 n6 c6] w18 (aS fun v8 w17=>∃b6,∃A7 n7 c7,v8=(.tuple #[.bool b6,.slice A7 n7 c7])/\∀w20,aP w17 w20->((yF q1 q2 p1 K) b6 A7 n7 c7 w20))))))
def Fa (p1:Addr) (q1:Option Addr) (q2:Option Addr) (b1:Bool) (K:Option Addr->World->Prop) (w:World):Prop:=
 Calls P F.Aa #[.pointer q1] w (aS fun v1 w1=>∃x1,∃x2,∃b2,v1=(.tuple #[.int .i64 x1,.int .i64 x2,.bool b2])/\(b2=true->(Calls P F.Aa #[.pointer q2] w1 (aS fun v2 w2=>∃x3,∃x4,∃b3,v2=(.tuple #[.int .i64 x3,.int .i64 x4,.bool b3])/\(b3=true->((b1=true->((kW p1 x1 x4 x2 w2 K) (IntKind.wrap .i64 (0-x3))))/\(b1=false->((kW p1 x1 x4 x2 w2 K) x3))))/\(b3=false->((oJ q1 q2 b1 p1 K) w2)))))/\(b2=false->((oJ q1 q2 b1 p1 K) w1)))
theorem aAd (p1:Addr) (q1:Option Addr) (q2:Option Addr) (b1:Bool) (K:Option Addr->World->Prop) (w:World) (H:Fa p1 q1 q2 b1 K w):Calls P F.Hl #[.pointer (some p1),.pointer q1,.pointer q2,.bool b1] w (aS fun v w'=>∃q3,v=(.pointer q3)/\K q3 w'):=by
 unfold Fa at H;refine aY (P:=P) Tryz.func146 rfl [(0,.pointer (some p1)),(1,.pointer q1),(2,.pointer q2),(3,.bool b1)] 83 rfl rfl (aa rfl (aa rfl (aa rfl (aa rfl az)))) (aB (aA (ag rfl (aC (nc (y4 0 1 2 3 rfl) ?_)))));refine dI (fun a w=>Ok 83 [(0,.pointer (some p1)),(1,.pointer q1),(2,.pointer q2),(3,.bool b1)] a/\oJ q1 q2 b1 p1 K w) ?_ ?_
 ·rintro a w4 ⟨ha,H⟩;unfold oJ at H;refine cu ha ?_;refine dI (fun a w=>∃b7,∃A8 n8 c8,Ok 83 [(0,.pointer (some p1)),(1,.pointer q1),(2,.pointer q2),(15,.bool b7),(16,.slice A8 n8 c8)] a/\yF q1 q2 p1 K b7 A8 n8 c8 w) ?_ ?_
  ·rintro a w21 ⟨b7,A8,n8,c8,ha,H⟩;unfold yF at H;refine cu ha ?_;refine aB (aA (mv rfl (mv rfl (mv rfl (mv rfl (sc rfl rfl FF.gY H ?_))))));rintro _ w22 ⟨A9,n9,c9,rfl,H⟩;refine mv rfl (sc rfl rfl FF.gY H ?_);rintro _ w23 ⟨A10,n10,c10,rfl,H⟩;refine sc rfl rfl FF.dD H ?_;rintro _ w24 ⟨A11,n11,c11,rfl,H⟩;refine sc rfl rfl FF.qC H ?_;rintro _ w25 ⟨q5,rfl,H⟩;exact ag rfl (aC (nc (kp 8 rfl zz) (aW (aG (res1 rfl rfl) ⟨_,rfl,_,rfl,H⟩))))
  ·obtain⟨X1,H⟩:=H;refine iI follows X1 [0,1,2,3,4,5,6,7,8,11,12,13,14,15,16,17,18,19,20,21,25,26,27,28,29] [3,7,14,20] 30 rfl rfl (by kernel_rfl) (fun _ _ d _ _ h=>by cases d<;>exact h) (fun cm W D=> ?_);refine lU 0 cm rfl rfl D W fun _ D W=> ?_;obtain⟨p2,e1,H⟩:=H;refine pv 1 cm rfl rfl rfl (fun w' a ha=>fD ((ha.ev rfl).trans (by rw[e1]))) D W fun _ D W=>(Nw 2 cm rfl rfl (TF.jY _ _) D W fun _ D W=> ?_);obtain⟨b4,h1,hx',H⟩:=H;replace h1:=And.intro h1 hx';clear hx';refine vl 3 cm rfl rfl (fun hw=>(aJ TF.gU (hw.cell h1))) D W fun _ D W=>(lU 4 cm rfl rfl D W fun _ D W=> ?_);obtain⟨p3,e2,H⟩:=H;refine pv 5 cm rfl rfl rfl (fun w' a ha=>fD ((ha.ev rfl).trans (by rw[e2]))) D W fun _ D W=>(Nw 6 cm rfl rfl (TF.iH _ _) D W fun _ D W=> ?_);obtain⟨A1,n1,c1,h2,hx',H⟩:=H;replace h2:=And.intro h2 hx';clear hx';refine vl 7 cm rfl rfl (fun hw=>(aJ TF.fJ (hw.cell h2))) D W fun _ D W=>(lU 8 cm rfl rfl D W fun _ D W=>(lU 11 cm rfl rfl D W fun _ D W=> ?_));obtain⟨p4,e3,H⟩:=H;refine pv 12 cm rfl rfl rfl (fun w' a ha=>fD ((ha.ev rfl).trans (by rw[e3]))) D W fun _ D W=>(Nw 13 cm rfl rfl (TF.jY _ _) D W fun _ D W=> ?_);obtain⟨b5,h3,hx',H⟩:=H;replace h3:=And.intro h3 hx';clear hx';refine vl 14 cm rfl rfl (fun hw=>(aJ TF.gU (hw.cell h3))) D W fun _ D W=>(lU 15 cm rfl rfl D W fun _ D W=>(pv 16 cm rfl rfl rfl (fun w' a ha=>dK (ha.ev rfl) (ha.ev rfl) (Oz TF.Hu)) D W fun _ D W=>(lU 17 cm rfl rfl D W fun _ D W=> ?_)));obtain⟨p5,e4,H⟩:=H;refine pv 18 cm rfl rfl rfl (fun w' a ha=>fD ((ha.ev rfl).trans (by rw[e4]))) D W fun _ D W=>(Nw 19 cm rfl rfl (TF.iH _ _) D W fun _ D W=> ?_);obtain⟨A2,n2,c2,h4,hx',H⟩:=H;replace h4:=And.intro h4 hx';clear hx';refine vl 20 cm rfl rfl (fun hw=>(aJ TF.fJ (hw.cell h4))) D W fun _ D W=>(lU 21 cm rfl rfl D W fun _ D W=>(ar 9 ?_));replace H:=H _ D;refine iZ rfl rfl rfl (aF rfl) (xc rfl rfl FF.gY) rfl true (by kernel_rfl) H ?_;rintro _ w5 ⟨A3,n3,c3,rfl,H⟩ _ D;have W:=H.1.drawn D;replace H:=H.2;refine⟨fun _=>W,?_⟩;refine ar 10 ?_;replace H:=H _ D;refine iZ rfl rfl rfl (aF rfl) (xc rfl rfl FF.dD) rfl true (by kernel_rfl) H ?_;rintro _ w8 ⟨A4,n4,c4,rfl,H⟩ _ D;have W:=H.1.drawn D;replace H:=H.2;refine⟨fun _=>W,?_⟩;refine ar 22 ?_;replace H:=H _ D;refine iZ rfl rfl rfl (aF rfl) (xc rfl rfl FF.gY) rfl true (by kernel_rfl) H ?_;rintro _ w11 ⟨A5,n5,c5,rfl,H⟩ _ D;have W:=H.1.drawn D;replace H:=H.2;refine⟨fun _=>W,?_⟩;refine ar 23 ?_;replace H:=H _ D;refine iZ rfl rfl rfl (aF rfl) (xc rfl rfl FF.dD) rfl true (by kernel_rfl) H ?_;rintro _ w14 ⟨A6,n6,c6,rfl,H⟩ _ D;have W:=H.1.drawn D;replace H:=H.2;refine⟨fun _=>W,?_⟩;refine ar 24 ?_;replace H:=H _ D;refine iZ rfl rfl rfl (aF rfl) (xc rfl rfl FF.Zj) rfl false (by kernel_rfl) H ?_;rintro _ w17 ⟨b6,A7,n7,c7,rfl,H⟩ _ D;refine⟨fun h=>(by cases h),?_⟩;refine Ez 25 cm rfl rfl D fun _ D=>(Ji 26 cm rfl rfl rfl (fun w' a ha=>Hy (ha.ev rfl) rfl) D fun _ D=>(Ji 27 cm rfl rfl rfl (fun w' a ha=>Hy (ha.ev rfl) rfl) D fun _ D=>(vP 28 cm rfl rfl D fun _ D=>(vP 29 cm rfl rfl D fun _ D=>(dU (by kernel_rfl) D ?_)))));intro w20 D;replace H:=H _ D;clear D cm;exact aT fun a ha=>⟨b6,A7,n7,c7,ha.weaken cs,H⟩
 ·refine aB (aA (mv rfl (sc rfl rfl FF.Ap H ?_)));rintro _ w1 ⟨x1,x2,b2,rfl,H⟩;refine mv rfl (sv rfl rfl (xe rfl rfl) (sv rfl rfl (xe rfl rfl) (sv rfl rfl (xe rfl rfl) (ag rfl (ag rfl (ag rfl (aC (nc (y7 0 1 2 3 9 10 11 rfl) (aB (aA (mv rfl (aC (nc (y7 0 1 2 3 9 10 23 rfl) ?_)))))))))))));refine dG rfl (fun hb=> ?_) (fun hb=> ?_)
  ·replace H:=H.1 hb;refine aB (aA (mv rfl (sc rfl rfl FF.Ap H ?_)));rintro _ w2 ⟨x3,x4,b3,rfl,H⟩;refine mv rfl (sv rfl rfl (xe rfl rfl) (sv rfl rfl (xe rfl rfl) (sv rfl rfl (xe rfl rfl) (ag rfl (ag rfl (ag rfl (aC (nc (y9 0 1 2 3 9 10 12 13 14 rfl) (aB (aA (mv rfl (aC (nc (y9 0 1 2 3 9 10 12 13 30 rfl) ?_)))))))))))));refine dG rfl (fun hb=> ?_) (fun hb=> ?_)
   ·replace H:=H.1 hb;refine bK (fun a=>∃x5,Ok 83 [(0,.pointer (some p1)),(9,.int .i64 x1),(10,.int .i64 x2),(12,.int .i64 x5),(13,.int .i64 x4)] a/\kW p1 x1 x4 x2 w2 K x5) ?_ ?_
    ·rintro a ⟨x5,ha,H⟩;unfold kW at H;refine cu ha ?_;refine aB (aA (mv rfl (mv rfl (mv rfl (bo rfl rfl Aq (mv rfl (mv rfl (bo rfl rfl Aq (bo rfl rfl dJ (mv rfl (mv rfl (bo rfl rfl Aq (sc rfl rfl FF.Rh H ?_)))))))))))));rintro _ w3 ⟨q4,rfl,H⟩;exact ag rfl (aC (nc (kp 8 rfl zz) (aW (aI (aG (res1 rfl rfl) ⟨_,rfl,_,rfl,H⟩)))))
    ·refine aB (aA (mv rfl (aC (nc (y6 0 9 10 12 13 31 rfl) ?_))));refine dG rfl (fun hb=> ?_) (fun hb=> ?_)
     ·replace H:=H.1 hb;exact aA (mv rfl (sv rfl rfl (xu rfl aB9) (ag rfl (aC (aT fun a ha=>⟨⟨IntKind.wrap .i64 (0-x3),ha.weaken cs,H⟩,rfl⟩)))))
     ·replace H:=H.2 hb;exact aN (aT fun a ha=>⟨⟨x3,ha.weaken cs,H⟩,rfl⟩)
   ·replace H:=H.2 hb;exact aN (aT fun a ha=>⟨ha.weaken cs,H⟩)
  ·replace H:=H.2 hb;exact aN (aT fun a ha=>⟨ha.weaken cs,H⟩)
def Ug (p1:Addr) (q1:Option Addr) (q2:Option Addr) (K:Option Addr->World->Prop) (w:World):Prop:=
 Calls P F.Hl #[.pointer (some p1),.pointer q1,.pointer q2,.bool true] w (aS fun v1 w1=>∃q4,v1=(.pointer q4)/\K q4 w1)
theorem aBt (p1:Addr) (q1:Option Addr) (q2:Option Addr) (K:Option Addr->World->Prop) (w:World) (H:Ug p1 q1 q2 K w):Calls P F.nM #[.pointer (some p1),.pointer q1,.pointer q2] w (aS fun v w'=>∃q3,v=(.pointer q3)/\K q3 w'):=by
 unfold Ug at H;refine aY (P:=P) Tryz.func82 rfl [(0,.pointer (some p1)),(1,.pointer q1),(2,.pointer q2)] 11 rfl rfl (aa rfl (aa rfl (aa rfl az))) (aB (aA (ag rfl (aC (nc (y3 0 1 2 rfl) (aB (aA (mv rfl (mv rfl (mv rfl (sc rfl rfl FF.Qz H ?_)))))))))));rintro _ w1 ⟨q4,rfl,H⟩;exact ag rfl (aC (nc (kp 6 rfl zz) (aW (aG (res1 rfl rfl) ⟨_,rfl,_,rfl,H⟩))))
def zB (K:Option Addr->World->Prop) (q5:Option Addr) (w17:World):Prop:=
 K q5 w17
def Ry (p1:Addr) (q1:Option Addr) (q2:Option Addr) (K:Option Addr->World->Prop) (w:World):Prop:=
 ∃X1:Nat->Prop,∃p2,q1=some p2/\∃b1,w.cell? (p2.add 0)=some (.bool b1)/\¬X1 (p2.add 0).block/\∃p3,q2=some p3/\∃b2,w.cell? (p3.add 0)=some (.bool b2)/\¬X1 (p3.add 0).block/\∃p4,q1=some p4/\∃A1 n1 c1,w.cell? (p4.add 1)=some (.slice A1 n1 c1)/\¬X1 (p4.add 1).block/\∃p5,q2=some p5/\∃A2 n2 c2,w.cell? (p5.add 1)=some (.slice A2 n2 c2)/\¬X1 (p5.add 1).block/\∀w2,aP w w2->Calls P F.lI #[.pointer q2] w2 (aS fun v1 w1=>∃A3 n3 c3,v1=(.slice A3 n3 c3)/\Keep X1 w w1/\∀w5,aP w1 w5->Calls P F.fH #[.slice A1 n1 c1,.slice A3 n3 c3] w5 (aS fun v2 w4=>∃A4 n4 c4,v2=(.slice A4 n4 c4)/\Keep X1 w w4/\∀w8,aP w4 w8->Calls P F.lI #[.pointer q1] w8 (aS fun v3 w7=>∃A5 n5 c5,v3=(.slice A5 n5 c5)/\Keep X1 w w7/\∀w11,aP w7 w11->Calls P F.fH #[.slice A5 n5 c5,.slice A2 n2 c2] w11 (aS fun v4 w10=>∃A6 n6 c6,v4=(.slice A6 n6 c6)/\Keep X1 w w10/\∀w14,aP w10 w14->Calls P F.vZ #[.pointer (some p1),.bool (decide (b1≠b2)),.slice A4 n4 c4,.slice A6 n6 c6] w14 (aS fun v5 w13=>∃q4,v5=(.pointer q4)/\∀w16,aP w13 w16->((zB K) q4 w16))))))
theorem aBd (p1:Addr) (q1:Option Addr) (q2:Option Addr) (K:Option Addr->World->Prop) (w:World) (H:Ry p1 q1 q2 K w):Calls P F.Jy #[.pointer (some p1),.pointer q1,.pointer q2] w (aS fun v w'=>∃q3,v=(.pointer q3)/\K q3 w'):=by
 unfold Ry at H;refine aY (P:=P) Tryz.func84 rfl [(0,.pointer (some p1)),(1,.pointer q1),(2,.pointer q2)] 32 rfl rfl (aa rfl (aa rfl (aa rfl az))) (aB (aA (ag rfl (aC (nc (y3 0 1 2 rfl) ?_)))));refine dI (fun a w=>∃q5,Ok 32 [(6,.pointer q5)] a/\zB K q5 w) ?_ ?_
 ·rintro a w17 ⟨q5,ha,H⟩;unfold zB at H;refine cu ha ?_;exact aW (aG (res1 rfl rfl) ⟨_,rfl,_,rfl,H⟩)
 ·obtain⟨X1,H⟩:=H;refine iI follows X1 [0,1,2,3,4,5,6,7,8,9,10,11,12,13,14,17,19,20,21,22,25] [4,8,13,22] 26 rfl rfl (by kernel_rfl) (fun _ _ d _ _ h=>by cases d<;>exact h) (fun cm W D=> ?_);refine lU 0 cm rfl rfl D W fun _ D W=>(lU 1 cm rfl rfl D W fun _ D W=> ?_);obtain⟨p2,e1,H⟩:=H;refine pv 2 cm rfl rfl rfl (fun w' a ha=>fD ((ha.ev rfl).trans (by rw[e1]))) D W fun _ D W=>(Nw 3 cm rfl rfl (TF.jY _ _) D W fun _ D W=> ?_);obtain⟨b1,h1,hx',H⟩:=H;replace h1:=And.intro h1 hx';clear hx';refine vl 4 cm rfl rfl (fun hw=>(aJ TF.gU (hw.cell h1))) D W fun _ D W=>(lU 5 cm rfl rfl D W fun _ D W=> ?_);obtain⟨p3,e2,H⟩:=H;refine pv 6 cm rfl rfl rfl (fun w' a ha=>fD ((ha.ev rfl).trans (by rw[e2]))) D W fun _ D W=>(Nw 7 cm rfl rfl (TF.jY _ _) D W fun _ D W=> ?_);obtain⟨b2,h2,hx',H⟩:=H;replace h2:=And.intro h2 hx';clear hx';refine vl 8 cm rfl rfl (fun hw=>(aJ TF.gU (hw.cell h2))) D W fun _ D W=>(pv 9 cm rfl rfl rfl (fun w' a ha=>dK (ha.ev rfl) (ha.ev rfl) (Oz TF.Hu)) D W fun _ D W=>(lU 10 cm rfl rfl D W fun _ D W=> ?_));obtain⟨p4,e3,H⟩:=H;refine pv 11 cm rfl rfl rfl (fun w' a ha=>fD ((ha.ev rfl).trans (by rw[e3]))) D W fun _ D W=>(Nw 12 cm rfl rfl (TF.iH _ _) D W fun _ D W=> ?_);obtain⟨A1,n1,c1,h3,hx',H⟩:=H;replace h3:=And.intro h3 hx';clear hx';refine vl 13 cm rfl rfl (fun hw=>(aJ TF.fJ (hw.cell h3))) D W fun _ D W=>(lU 14 cm rfl rfl D W fun _ D W=>(lU 17 cm rfl rfl D W fun _ D W=>(lU 19 cm rfl rfl D W fun _ D W=> ?_)));obtain⟨p5,e4,H⟩:=H;refine pv 20 cm rfl rfl rfl (fun w' a ha=>fD ((ha.ev rfl).trans (by rw[e4]))) D W fun _ D W=>(Nw 21 cm rfl rfl (TF.iH _ _) D W fun _ D W=> ?_);obtain⟨A2,n2,c2,h4,hx',H⟩:=H;replace h4:=And.intro h4 hx';clear hx';refine vl 22 cm rfl rfl (fun hw=>(aJ TF.fJ (hw.cell h4))) D W fun _ D W=>(ar 15 ?_);replace H:=H _ D;refine iZ rfl rfl rfl (aF rfl) (xc rfl rfl FF.gY) rfl true (by kernel_rfl) H ?_;rintro _ w1 ⟨A3,n3,c3,rfl,H⟩ _ D;have W:=H.1.drawn D;replace H:=H.2;refine⟨fun _=>W,?_⟩;refine ar 16 ?_;replace H:=H _ D;refine iZ rfl rfl rfl (aF rfl) (xc rfl rfl FF.dD) rfl true (by kernel_rfl) H ?_;rintro _ w4 ⟨A4,n4,c4,rfl,H⟩ _ D;have W:=H.1.drawn D;replace H:=H.2;refine⟨fun _=>W,?_⟩;refine ar 18 ?_;replace H:=H _ D;refine iZ rfl rfl rfl (aF rfl) (xc rfl rfl FF.gY) rfl true (by kernel_rfl) H ?_;rintro _ w7 ⟨A5,n5,c5,rfl,H⟩ _ D;have W:=H.1.drawn D;replace H:=H.2;refine⟨fun _=>W,?_⟩;refine ar 23 ?_;replace H:=H _ D;refine iZ rfl rfl rfl (aF rfl) (xc rfl rfl FF.dD) rfl true (by kernel_rfl) H ?_;rintro _ w10 ⟨A6,n6,c6,rfl,H⟩ _ D;have W:=H.1.drawn D;replace H:=H.2;refine⟨fun _=>W,?_⟩;refine ar 24 ?_;replace H:=H _ D;refine iZ rfl rfl rfl (aF rfl) (xc rfl rfl FF.qC) rfl false (by kernel_rfl) H ?_;rintro _ w13 ⟨q4,rfl,H⟩ _ D;refine⟨fun h=>(by cases h),?_⟩;refine vP 25 cm rfl rfl D fun _ D=>(dU (by kernel_rfl) D ?_);intro w16 D;replace H:=H _ D;clear D cm;exact aT fun a ha=>⟨q4,ha.weaken cs,H⟩
def Ah (p1:Addr) (K:Int->World->Prop) (x7:Int) (w21:World):Prop:=
 ∃b1,w21.cell? (p1.add 0)=some (.bool b1)/\(b1=true->(K (IntKind.wrap .i64 (0-x7)) w21))/\(b1=false->(K x7 w21))
def Tj (p1:Addr) (q1:Option Addr) (K:Int->World->Prop) (w:World):Prop:=
 Calls P F.mP #[.pointer (some p1)] w (aS fun v1 w1=>∃x2,v1=(.int .i64 x2)/\Calls P F.mP #[.pointer q1] w1 (aS fun v2 w2=>∃x3,v2=(.int .i64 x3)/\(x2≠x3->(Calls P F.mP #[.pointer (some p1)] w2 (aS fun v3 w3=>∃x4,v3=(.int .i64 x4)/\Calls P F.mP #[.pointer q1] w3 (aS fun v4 w4=>∃x5,v4=(.int .i64 x5)/\(x4<x5->(K (-1) w4))/\(¬(x4<x5)->(K 1 w4))))))/\(¬(x2≠x3)->(∃X1:Nat->Prop,∃A1 n1 c1,w2.cell? (p1.add 1)=some (.slice A1 n1 c1)/\¬X1 (p1.add 1).block/\∃p2,q1=some p2/\∃A2 n2 c2,w2.cell? (p2.add 1)=some (.slice A2 n2 c2)/\¬X1 (p2.add 1).block/\∀w6,aP w2 w6->Calls P F.lI #[.pointer q1] w6 (aS fun v5 w5=>∃A3 n3 c3,v5=(.slice A3 n3 c3)/\Keep X1 w2 w5/\∀w9,aP w5 w9->Calls P F.fH #[.slice A1 n1 c1,.slice A3 n3 c3] w9 (aS fun v6 w8=>∃A4 n4 c4,v6=(.slice A4 n4 c4)/\Keep X1 w2 w8/\∀w12,aP w8 w12->Calls P F.lI #[.pointer (some p1)] w12 (aS fun v7 w11=>∃A5 n5 c5,v7=(.slice A5 n5 c5)/\Keep X1 w2 w11/\∀w15,aP w11 w15->Calls P F.fH #[.slice A2 n2 c2,.slice A5 n5 c5] w15 (aS fun v8 w14=>∃A6 n6 c6,v8=(.slice A6 n6 c6)/\∀w18,aP w14 w18->Calls P F.yQ #[.slice A4 n4 c4,.slice A6 n6 c6] w18 (aS fun v9 w17=>∃x6,v9=(.int .i64 x6)/\∀w20,aP w17 w20->((Ah p1 K) x6 w20))))))))))
theorem aA9 (p1:Addr) (q1:Option Addr) (K:Int->World->Prop) (w:World) (H:Tj p1 q1 K w):Calls P F.yM #[.pointer (some p1),.pointer q1] w (aS fun v w'=>∃x1,v=(.int .i64 x1)/\K x1 w'):=by
 unfold Tj at H;refine aY (P:=P) Tryz.func85 rfl [(0,.pointer (some p1)),(1,.pointer q1)] 38 rfl rfl (aa rfl (aa rfl az)) (aB (aA (ag rfl (aC (nc (y2 0 1 rfl) (aB (aB (aA (mv rfl (sc rfl rfl FF.jH H ?_))))))))));rintro _ w1 ⟨x2,rfl,H⟩;refine mv rfl (sc rfl rfl FF.jH H ?_);rintro _ w2 ⟨x3,rfl,H⟩;refine bo rfl rfl zC (aC (nc (y3 0 1 10 rfl) ?_));refine aK rfl (fun hb=> ?_) (fun hb=> ?_)
 ·replace H:=H.1 hb;refine aB (aB (aA (mv rfl (sc rfl rfl FF.jH H ?_))));rintro _ w3 ⟨x4,rfl,H⟩;refine mv rfl (sc rfl rfl FF.jH H ?_);rintro _ w4 ⟨x5,rfl,H⟩;refine bo rfl rfl fO (aC (nc (kp 15 rfl zz) ?_));refine aK rfl (fun hb=> ?_) (fun hb=> ?_)
  ·replace H:=H.1 hb;exact aB (aA (ag rfl (aC (nc (kp 4 rfl zz) (aW (aI (aI (aG (res1 rfl rfl) ⟨_,rfl,_,rfl,H⟩))))))))
  ·replace H:=H.2 hb;exact aN (nc zz (aB (aA (ag rfl (aC (nc (kp 4 rfl zz) (aW (aI (aG (res1 rfl rfl) ⟨_,rfl,_,rfl,H⟩)))))))))
 ·replace H:=H.2 hb;refine aN (nc (y2 0 1 rfl) ?_);refine dI (fun a w=>∃x7,Ok 38 [(0,.pointer (some p1)),(5,.int .i64 x7)] a/\Ah p1 K x7 w) ?_ ?_
  ·rintro a w21 ⟨x7,ha,H⟩;unfold Ah at H;refine cu ha ?_;refine aB (aB (aA (mv rfl (nk rfl (fa rfl (TF.jY _ _) ?_)))));obtain⟨b1,h13,H⟩:=H;refine ld rfl (aJ TF.gU h13) (aC (nc (y2 5 34 rfl) ?_));refine dG rfl (fun hb=> ?_) (fun hb=> ?_)
   ·replace H:=H.1 hb;exact aB (aA (mv rfl (sv rfl rfl (xu rfl aB9) (ag rfl (aC (nc (kp 4 rfl zz) (aW (aI (aG (res1 rfl rfl) ⟨_,rfl,_,rfl,H⟩)))))))))
   ·replace H:=H.2 hb;exact aN (nc (kp 5 rfl zz) (aB (aA (mv rfl (ag rfl (aC (nc (kp 4 rfl zz) (aW (aG (res1 rfl rfl) ⟨_,rfl,_,rfl,H⟩)))))))))
  ·obtain⟨X1,H⟩:=H;refine iI follows X1 [0,1,2,3,4,7,8,9,10,11,15] [3,10] 16 rfl rfl (by kernel_rfl) (fun _ _ d _ _ h=>by cases d<;>exact h) (fun cm W D=> ?_);refine lU 0 cm rfl rfl D W fun _ D W=>(pnk 1 cm rfl rfl D W fun _ D W=>(Nw 2 cm rfl rfl (TF.iH _ _) D W fun _ D W=> ?_));obtain⟨A1,n1,c1,h1,hx',H⟩:=H;replace h1:=And.intro h1 hx';clear hx';refine vl 3 cm rfl rfl (fun hw=>(aJ TF.fJ (hw.cell h1))) D W fun _ D W=>(lU 4 cm rfl rfl D W fun _ D W=>(lU 7 cm rfl rfl D W fun _ D W=> ?_));obtain⟨p2,e1,H⟩:=H;refine pv 8 cm rfl rfl rfl (fun w' a ha=>fD ((ha.ev rfl).trans (by rw[e1]))) D W fun _ D W=>(Nw 9 cm rfl rfl (TF.iH _ _) D W fun _ D W=> ?_);obtain⟨A2,n2,c2,h2,hx',H⟩:=H;replace h2:=And.intro h2 hx';clear hx';refine vl 10 cm rfl rfl (fun hw=>(aJ TF.fJ (hw.cell h2))) D W fun _ D W=>(lU 11 cm rfl rfl D W fun _ D W=>(ar 5 ?_));replace H:=H _ D;refine iZ rfl rfl rfl (aF rfl) (xc rfl rfl FF.gY) rfl true (by kernel_rfl) H ?_;rintro _ w5 ⟨A3,n3,c3,rfl,H⟩ _ D;have W:=H.1.drawn D;replace H:=H.2;refine⟨fun _=>W,?_⟩;refine ar 6 ?_;replace H:=H _ D;refine iZ rfl rfl rfl (aF rfl) (xc rfl rfl FF.dD) rfl true (by kernel_rfl) H ?_;rintro _ w8 ⟨A4,n4,c4,rfl,H⟩ _ D;have W:=H.1.drawn D;replace H:=H.2;refine⟨fun _=>W,?_⟩;refine ar 12 ?_;replace H:=H _ D;refine iZ rfl rfl rfl (aF rfl) (xc rfl rfl FF.gY) rfl true (by kernel_rfl) H ?_;rintro _ w11 ⟨A5,n5,c5,rfl,H⟩ _ D;have W:=H.1.drawn D;replace H:=H.2;refine⟨fun _=>W,?_⟩;refine ar 13 ?_;replace H:=H _ D;refine iZ rfl rfl rfl (aF rfl) (xc rfl rfl FF.dD) rfl false (by kernel_rfl) H ?_;rintro _ w14 ⟨A6,n6,c6,rfl,H⟩ _ D;refine⟨fun h=>(by cases h),?_⟩;refine ar 14 ?_;replace H:=H _ D;refine iZ rfl rfl rfl (aF rfl) (xc rfl rfl FF.vJ) rfl false (by kernel_rfl) H ?_;rintro _ w17 ⟨x6,rfl,H⟩ _ D;refine⟨fun h=>(by cases h),?_⟩;refine vP 15 cm rfl rfl D fun _ D=>(dU (by kernel_rfl) D ?_);intro w20 D;replace H:=H _ D;clear D cm;exact aT fun a ha=>⟨x6,ha.weaken cs,H⟩
def Sd (w:World) (p:Addr) (t:TypeId) (vs:List Value):Prop:=∃g,p=⟨g,0,none⟩/\w.heap[g]? =some (.cells vs.toArray t (0,0))
section
variable {w w':World} {p:Addr} {t e:TypeId} {vs us:List Value} {A:Option Addr} {n c s:Nat}
theorem Sd.cell (h:Sd w p t vs) {i:Nat} {v:Value} (hi:vs[i]? =some v):w.cell? (p.add i)=some v:=by
 obtain⟨g,rfl,hg⟩:=h
 rw[rJ,Nat.zero_add]
 unfold World.cell?
 simp only[hg]
 simpa using hi
theorem Sd.fro (h:Sd w p t vs) (i:Nat):w.frozen? (p.add i)=false:=by
 obtain⟨g,rfl,hg⟩:=h
 rw[rJ,Nat.zero_add]
 simp[World.frozen?,hg]
theorem Sd.lt (h:Sd w p t vs):p.block<w.heap.size:=by
 obtain⟨g,rfl,hg⟩:=h
 exact(Array.getElem?_eq_some_iff.1 hg).1
theorem Sd.set (h:Sd w p t vs) {i:Nat} {v:Value} (hw:w'=w.setCell (p.add i) v):Sd w' p t (vs.set i v)/\Keep (fun b=>b=p.block) w w':=by
 refine⟨?_,(Xk hw).mono fun i _ hi=>by rw[hi,Addr.add_block]⟩
 obtain⟨g,rfl,hg⟩:=h
 refine⟨g,rfl,?_⟩
 rw[hw,rJ,Nat.zero_add]
 simp[World.setCell,Array.getElem?_modify,hg]
theorem Sd.keep {X:Nat->Prop} (h:Sd w p t vs) (k:Keep X w w') (hX:¬X p.block):Sd w' p t vs:=by
 have hl:=h.lt
 obtain⟨g,rfl,hg⟩:=h
 exact⟨g,rfl,by rw[k.block g hl hX,hg]⟩
theorem Sd.ext (h:Sd w p t vs) (k:Ext w w'):Sd w' p t vs:=h.keep k fun h=>h
theorem Sd.new {cs:Array Value} (h:New w (.cells cs t) p w') (hv:cs.toList=vs):Sd w' p t vs/\p.block=w.heap.size:=by
 have h1:=h.heap
 have h2:=h.block
 have h3:=h.spot
 subst hv
 exact⟨⟨p.block,by rw[<-h3],by simpa using h1⟩,by omega⟩
theorem Sd.row (h:Sd w p t vs) (hr:Row w 0 e s A n c us) (hne:t≠e):¬At A p.block:=by
 rintro⟨a,rfl,hb⟩
 obtain⟨g,rfl,hg⟩:=h
 rcases hr.2 with⟨h0,_⟩|⟨g',o,cur,hA,_,hg',_⟩
 ·cases h0
 ·cases hA
  cases hb
  rw[hg] at hg'
  cases hg'
  exact hne rfl
theorem Sd.same (h:Sd w p t vs) {q:Addr} {t':TypeId} (k:Sd w q t' us) (hb:p.block=q.block):p=q/\t=t'/\vs=us:=by
 obtain⟨g,rfl,hg⟩:=h
 obtain⟨g',rfl,hg'⟩:=k
 cases hb
 rw[hg] at hg'
 injection hg' with e1
 injection e1 with e1 e2
 exact⟨rfl,e2,by simpa using congrArg Array.toList e1⟩
theorem NR.sd {x:Nat} (h:NR w A n c x) (k:Sd w p t vs) (ht:t≠T.uint32) (kk:Keep (fun b=>b=p.block) w w'):NR w' A n c x:=by
 obtain⟨l,h1,h2⟩:=h
 exact⟨l,h1.keep kk fun b hb e=>k.row h1 ht (by rw[<-e];exact hb),h2⟩
end
def Nq (w:World) (p:Addr) (z:Int):Prop:=∃s A n c x,Sd w p T.Hf [.bool s,.slice A n c]/\NR w A n c x/\z=sg s x/\(s=true->x≠0)
def dX (w:World) (p:Addr) (q:Rat):Prop:=∃s A n c B m d x y,Sd w p T.lF [.bool s,.slice A n c,.slice B m d]/\NR w A n c x/\(m=0/\y=1\/1<y/\NR w B m d y)/\RQ s x y q
def Qd (w:World) (p:Addr):Prop:=∃u v x,Sd w p T.lF [u,v,x]
abbrev Kp (p:Addr) (w w':World):Prop:=Keep (fun b=>b=p.block) w w'
section
variable {w w':World} {p z:Addr} {q:Rat} {i:Int}
theorem dX.isZ (h:dX w p q):Qd w p:=by
 obtain⟨s,A,n,c,B,m,d,x,y,h,_⟩:=h
 exact⟨_,_,_,h⟩
theorem dX.ext (h:dX w p q) (k:Ext w w'):dX w' p q:=by
 obtain⟨s,A,n,c,B,m,d,x,y,h1,h2,h3,h4⟩:=h
 exact⟨s,A,n,c,B,m,d,x,y,h1.ext k,h2.ext k,h3.imp id fun h=>⟨h.1,h.2.ext k⟩,h4⟩
theorem Nq.ext (h:Nq w p i) (k:Ext w w'):Nq w' p i:=by
 obtain⟨s,A,n,c,x,h1,h2,h3⟩:=h
 exact⟨s,A,n,c,x,h1.ext k,h2.ext k,h3⟩
theorem Qd.ext (h:Qd w p) (k:Ext w w'):Qd w' p:=by
 obtain⟨u,v,x,h⟩:=h
 exact⟨u,v,x,h.ext k⟩
theorem Qd.lt (h:Qd w p):p.block<w.heap.size:=by
 obtain⟨u,v,x,h⟩:=h
 exact h.lt
theorem dX.keep (h:dX w p q) (k:Kp z w w') (hz:Qd w z) (hne:p.block≠z.block):dX w' p q:=by
 obtain⟨s,A,n,c,B,m,d,x,y,h1,h2,h3,h4⟩:=h
 obtain⟨u,v,o,hz⟩:=hz
 exact⟨s,A,n,c,B,m,d,x,y,h1.keep k hne,h2.sd hz (by decide) k,h3.imp id fun h=>⟨h.1,h.2.sd hz (by decide) k⟩,h4⟩
theorem Qd.keep (h:Qd w p) (k:Kp z w w') (hne:p.block≠z.block):Qd w' p:=by
 obtain⟨u,v,o,h⟩:=h
 exact⟨u,v,o,h.keep k hne⟩
theorem Kp.uP (k:Ext w w'):Kp z w w':=k.mono fun _ _ h=>h.elim
theorem Kp.bI {w0:World} (k:Kp z w w') (E:Ext w0 w) (hz:w0.heap.size<=z.block):Ext w0 w':=E.over k fun i hi h=>by subst h;omega
theorem dX.mk (h:Sd w p T.lF [.bool false,.slice none 0 0,.slice none 0 0]):dX w p 0:=⟨_,_,_,_,_,_,_,0,1,h,NR.nil w,.inl ⟨rfl,rfl⟩,RQ.zero⟩
end
section
variable {w w':World} {p z:Addr} {q:Rat} {i:Int} {A B:Option Addr} {n c m d x y:Nat} {s:Bool}
theorem NR.dec {w:World} {A:Option Addr} {n c x:Nat} (h:NR w A n c x):decide (0<(n:Int))=decide (x≠0):=by
 have:=h.zero
 rw[decide_eq_decide]
 omega
theorem aHl {u v:Value} (hz:Sd w p T.Hf [u,v]) (hx:NR w A n c x):Calls P F.Kr #[.pointer (some p),.bool s,.slice A n c] w (aS fun r w'=>r= .pointer (some p)/\Kp p w w'/\Nq w' p (sg s x)):=by
 refine aS.mono (aBn p s A n c (fun r w'=>r=some p/\Kp p w w'/\Nq w' p (sg s x)) w ?_) (by rintro _ w' ⟨r,rfl,rfl,h⟩;exact⟨rfl,h⟩)
 have fin:∀(b:Bool) w1 w2,w1=w.setCell (p.add 0) (.bool b)->w2=w1.setCell (p.add 1) (.slice A n c)->sg b x=sg s x->(b=true->x≠0)->qE (fun r w'=>r=some p/\Kp p w w'/\Nq w' p (sg s x)) p w2:=fun b w1 w2 h1 h2 he hb=>by
  obtain⟨k1,K1⟩:=hz.set h1
  obtain⟨k2,K2⟩:=k1.set h2
  exact⟨rfl,K1.trans K2,b,A,n,c,x,k2,(hx.sd hz (by decide) K1).sd k1 (by decide) K2,he.symm,hb⟩
 refine⟨fun hs=>⟨⟨_,hz.cell (i:=0) rfl⟩,hz.fro 0,fun w1 h1=>⟨⟨_,(hz.set h1).1.cell (i:=1) rfl⟩,(hz.set h1).1.fro 1,fun w2 h2=>fin _ w1 w2 h1 h2 ?_ ?_⟩⟩,fun hs=>⟨⟨_,hz.cell (i:=0) rfl⟩,hz.fro 0,fun w1 h1=>⟨⟨_,(hz.set h1).1.cell (i:=1) rfl⟩,(hz.set h1).1.fro 1,fun w2 h2=>fin _ w1 w2 h1 h2 (by rw[hs]) fun h=>by cases h⟩⟩⟩
 ·rw[hs,hx.dec]
  by_cases h:x=0
  ·subst h;simp[sg]
  ·simp[h]
 ·intro h
  rw[hx.dec] at h
  exact of_decide_eq_true h
theorem aCf (h0: -9223372036854775808<i) (h1:i<=9223372036854775807):Calls P F.Jd #[.int .i64 i] w (aS fun v w'=>∃p,v= .pointer (some p)/\Ext w w'/\Nq w' p i/\w.heap.size<=p.block):=by
 refine aS.mono (aB5 i (fun r w'=>∃p,r=some p/\Ext w w'/\Nq w' p i/\w.heap.size<=p.block) w ?_) (by rintro _ w' ⟨r,rfl,p,rfl,h⟩;exact⟨p,rfl,h⟩)
 have fin:∀(b:Bool) (x:Nat) w1 A n c p w2,NF w w1 A n c x->New w1 (.cells #[.bool b,.slice A n c] T.Hf) p w2->i=sg b x->(b=true->x≠0)->∃p',some p=some p'/\Ext w w2/\Nq w2 p' i/\w.heap.size<=p'.block:=fun b x w1 A n c p w2 hF hN he hb=>by
  obtain⟨k,kb⟩:=Sd.new hN rfl
  have E:=Ext.bI hN
  exact⟨p,rfl,hF.ext.trans E,⟨b,A,n,c,x,k,hF.nr.ext E,he,hb⟩,by rw[kb];exact hF.ext.size⟩
 refine⟨fun hneg=> ?_,fun hpos=> ?_⟩
 ·have e:IntKind.wrap .u64 (0-IntKind.wrap .u64 i)=((i.natAbs:Nat):Int):=by
   simp only[IntKind.wrap,IntKind.bits,IntKind.signed]
   simp
   omega
  rw[e]
  refine aS.mono (Dy (by omega)) ?_
  rintro _ w1 ⟨A,n,c,rfl,hF⟩
  exact⟨A,n,c,rfl,fun p w2 hN=>fin true _ w1 A n c p w2 hF hN (by rw[aBj];omega) fun _=>by omega⟩
 ·have e:IntKind.wrap .u64 i=((i.natAbs:Nat):Int):=by rw[wrap_u64 (by omega) (by omega)];omega
  rw[e]
  refine aS.mono (Dy (by omega)) ?_
  rintro _ w1 ⟨A,n,c,rfl,hF⟩
  exact⟨A,n,c,rfl,fun p w2 hN=>fin false _ w1 A n c p w2 hF hN (by rw[aAl];omega) fun h=>by cases h⟩
theorem aD2 {s:Bool} {A B:Option Addr} (h:Sd w p T.lF [.bool s,.slice A n c,.slice B m d]):Calls P F.xP #[.pointer (some p)] w (aS fun v w'=>w'=w/\v= .bool (decide ((m:Int)=0))):=by
 refine aS.mono (Zl p (fun b w'=>w'=w/\b=decide ((m:Int)=0)) w ?_) (by rintro _ w' ⟨b,rfl,h,rfl⟩;exact⟨h,rfl⟩)
 exact⟨B,m,d,h.cell (i:=2) rfl,rfl,rfl⟩
theorem Tf {s:Bool} {A B:Option Addr} (h:Sd w p T.lF [.bool s,.slice A n c,.slice B m d]) (hy:m=0/\y=1\/1<y/\NR w B m d y):Calls P F.lI #[.pointer (some p)] w (aS fun v w'=>∃A n c,v= .slice A n c/\Ext w w'/\NR w' A n c y):=by
 refine aS.mono (aBp p (fun A n c w'=>Ext w w'/\NR w' A n c y) w ?_) (by rintro _ w' ⟨A,n,c,rfl,h⟩;exact⟨A,n,c,rfl,h⟩)
 refine aS.mono (aD2 h) ?_
 rintro _ w ⟨rfl,rfl⟩
 refine⟨_,rfl,fun h0=> ?_,fun h0=>⟨B,m,d,h.cell (i:=2) rfl,Ext.refl w,?_⟩⟩
 ·have h0:=of_decide_eq_true h0
  refine aS.mono aFy ?_
  rintro _ w1 ⟨E,A,rfl,hN,_⟩
  rcases hy with⟨_,rfl⟩|⟨h1,hy⟩
  ·exact⟨A,1,1,rfl,E,hN⟩
  ·have:=hy.zero
   omega
 ·have h0:=of_decide_eq_false h0
  rcases hy with⟨rfl,_⟩|⟨_,hy⟩
  ·exact absurd rfl h0
  ·exact hy
theorem aKp {s t:Bool} (hx:NR w A n c x) (hy:NR w B m d y) (hn:Sh n) (hm:Sh m):Calls P F.aAu #[.bool s,.slice A n c,.bool t,.slice B m d] w (aS fun v w'=>∃u A n c r,v= .tuple #[.bool u,.slice A n c]/\Ext w w'/\NR w' A n c r/\sg u r=sg s x+sg t y):=by
 refine aS.mono (aFl s A n c t B m d (fun u A n c w'=>∃r,Ext w w'/\NR w' A n c r/\sg u r=sg s x+sg t y) w ?_) (by rintro _ w' ⟨u,A,n,c,rfl,r,h⟩;exact⟨u,A,n,c,r,rfl,h⟩)
 unfold Sh at hn hm
 refine⟨fun he=> ?_,fun hne=> ?_⟩
 ·subst he
  refine aS.mono (aIz hx hy (by unfold Sn;omega) (by unfold Sn;omega)) ?_
  rintro _ w1 ⟨A,n,c,rfl,hF⟩
  exact⟨A,n,c,rfl,_,hF.ext,hF.nr,(aCs s x y).symm⟩
 ·refine aS.mono (aFc hx hy (by unfold Sn;omega)) ?_
  rintro _ w1 ⟨rfl,D⟩
  have E:=Ext.aO D
  refine⟨_,rfl,fun hge=> ?_,fun hlt=> ?_⟩
  ·have hle:y<=x:=by
    unfold xQ at hge
    split at hge
    ·omega
    ·omega
   refine aS.mono (aD6 (hx.ext E) (hy.ext E) hle (by unfold Sn;omega)) ?_
   rintro _ w1 ⟨A,n,c,rfl,hF⟩
   exact⟨A,n,c,rfl,_,E.trans hF.ext,hF.nr,(aHp hne hle).symm⟩
  ·have hle:x<=y:=by
    unfold xQ at hlt
    split at hlt
    ·omega
    ·split at hlt<;>omega
   refine aS.mono (aD6 (hy.ext E) (hx.ext E) hle (by unfold Sn;omega)) ?_
   rintro _ w1 ⟨A,n,c,rfl,hF⟩
   exact⟨A,n,c,rfl,_,E.trans hF.ext,hF.nr,(aIg hne hle).symm⟩
theorem aJp {K:Option Addr->World->Prop} {s:Bool} {q:Rat} (hz:Qd w p) (hx:NR w A n c x) (hy:NR w B m d y) (hq:RQ s x y q) (hK:∀w',Kp p w w'->dX w' p q->K (some p) w'):gW p s K A n c B m d w:=by
 obtain⟨u,v,o,hz⟩:=hz
 have y0:=hy.pos hq.d0
 refine⟨⟨_,hz.cell (i:=0) rfl⟩,hz.fro 0,fun w1 h1=> ?_⟩
 obtain⟨k1,K1⟩:=hz.set h1
 refine⟨⟨_,k1.cell (i:=1) rfl⟩,k1.fro 1,fun w2 h2=> ?_⟩
 obtain⟨k2,K2⟩:=k1.set h2
 refine⟨⟨_,k2.cell (i:=2) rfl⟩,k2.fro 2,fun w3 h3=> ?_⟩
 obtain⟨k3,K3⟩:=k2.set h3
 have KK:=(K1.trans K2).trans K3
 have hx3:=((hx.sd hz (by decide) K1).sd k1 (by decide) K2).sd k2 (by decide) K3
 have hy3:=((hy.sd hz (by decide) K1).sd k1 (by decide) K2).sd k2 (by decide) K3
 have many:y≠1->dX w3 p q:=fun h1=>⟨s,A,n,c,B,m,d,x,y,k3,hx3,.inr ⟨by have:=hq.d0;omega,hy3⟩,hq⟩
 have one:y=1->∀w4,w4=w3.setCell (p.add 2) (.slice none 0 0)->lT K p w4:=fun h1 w4 h4=>by
  obtain⟨k4,K4⟩:=k3.set h4
  exact hK _ (KK.trans K4) ⟨s,A,n,c,none,0,0,x,y,k4,hx3.sd k3 (by decide) K4,.inl ⟨rfl,h1⟩,hq⟩
 refine⟨fun hm1=> ?_,fun hm1=>⟨fun h=>(by cases h),fun _=>hK _ KK (many fun e=> ?_)⟩⟩
 ·obtain⟨l,hL,lim,rfl⟩:=hy3
  have hl:=hL.len
  obtain⟨b,rfl⟩:∃b,l=[b]:=List.length_eq_one_iff.1 (by omega)
  obtain⟨ad,hA,_,hc,_⟩:=hL.at_ (i:=0) (by omega) (by omega)
  rw[Ig] at*
  refine⟨by omega,by omega,ad,hA,_,hc,fun hb=> ?_,fun hb=> ?_⟩
  ·have hb:=of_decide_eq_true hb
   exact⟨⟨_,k3.cell (i:=2) rfl⟩,k3.fro 2,fun w4 h4=>one (by have:lg [b] (0:Int).toNat=b:=rfl;omega) w4 h4⟩
  ·have hb:=of_decide_eq_false hb
   exact hK _ KK (many fun e=>hb (by simp[lg,e]))
 ·subst e
  have:=hy.le Lb.one
  omega
theorem aDp {s:Bool} (hz:Qd w p) (hx:NR w A n c x) (hy:NR w B m d y) (y0:y≠0) (hn:Sh n) (hm:Sh m):Calls P F.vZ #[.pointer (some p),.bool s,.slice A n c,.slice B m d] w (aS fun v w'=>v= .pointer (some p)/\Kp p w w'/\dX w' p (mkRat (sg s x) y)):=by
 refine aS.mono (aA2 p s A n c B m d (fun r w'=>r=some p/\Kp p w w'/\dX w' p (mkRat (sg s x) y)) w ?_) (by rintro _ w' ⟨r,rfl,rfl,h⟩;exact⟨rfl,h⟩)
 have hm0:=hy.pos y0
 have hxz:=hx.zero
 refine⟨fun h=>by omega,fun _=>⟨fun h0=> ?_,fun h0=> ?_⟩⟩
 ·have x0:x=0:=by omega
  subst x0
  obtain⟨u,v,o,hz⟩:=hz
  refine⟨⟨_,hz.cell (i:=0) rfl⟩,hz.fro 0,fun w1 h1=> ?_⟩
  obtain⟨k1,K1⟩:=hz.set h1
  refine⟨⟨_,k1.cell (i:=1) rfl⟩,k1.fro 1,fun w2 h2=> ?_⟩
  obtain⟨k2,K2⟩:=k1.set h2
  refine⟨⟨_,k2.cell (i:=2) rfl⟩,k2.fro 2,fun w3 h3=> ?_⟩
  obtain⟨k3,K3⟩:=k2.set h3
  refine⟨rfl,(K1.trans K2).trans K3,?_⟩
  rw[RQ.aLg y0]
  exact dX.mk k3
 ·have x0:x≠0:=by omega
  have hg:x.gcd y≠0:=fun h=>x0 (Nat.gcd_eq_zero_iff.1 h).1
  have hq:=RQ.put s x0 y0
  unfold Sh at hn hm
  have end_:∀w8 A8 n8 c8 A9 n9 c9,Ext w w8->NR w8 A8 n8 c8 (x/x.gcd y)->NR w8 A9 n9 c9 (y/x.gcd y)->gW p s (fun r w'=>r=some p/\Kp p w w'/\dX w' p (mkRat (sg s x) y)) A8 n8 c8 A9 n9 c9 w8:=fun w8 A8 n8 c8 A9 n9 c9 E h8 h9=>aJp (hz.ext E) h8 h9 hq fun w' k hr=>⟨rfl,(Kp.uP E).trans k,hr⟩
  have go:qI A n c B m d w (gW p s fun r w'=>r=some p/\Kp p w w'/\dX w' p (mkRat (sg s x) y)) true:=by
   refine⟨fun _=> ?_,fun h=>(by cases h)⟩
   refine aS.mono (aGy hx hy x0 y0 hn hm) ?_
   rintro _ w5 ⟨A3,n3,c3,rfl,E,hG⟩
   have hG0:=hG.pos hg
   have div:pM A n c A3 n3 c3 w5 B m d (gW p s fun r w'=>r=some p/\Kp p w w'/\dX w' p (mkRat (sg s x) y)) true:=by
    refine⟨fun _=> ?_,fun h=>(by cases h)⟩
    have hn3:n3<=n:=hG.le (hx.lb.le (Nat.gcd_le_left y (Nat.pos_of_ne_zero x0)))
    refine aS.mono (aC3 (hx.ext E) hG (Nat.pos_of_ne_zero hg) (by unfold Sn;omega)) ?_
    rintro _ w6 ⟨A4,n4,c4,A5,n5,c5,rfl,hF,_⟩
    refine⟨A4,n4,c4,A5,n5,c5,rfl,?_⟩
    refine aS.mono (aC3 ((hy.ext E).ext hF.ext) (hG.ext hF.ext) (Nat.pos_of_ne_zero hg) (by unfold Sn;omega)) ?_
    rintro _ w7 ⟨A6,n6,c6,A7,n7,c7,rfl,hF2,_⟩
    exact⟨A6,n6,c6,A7,n7,c7,rfl,end_ w7 _ _ _ _ _ _ ((E.trans hF.ext).trans hF2.ext) (hF.nr.ext hF2.ext) hF2.nr⟩
   refine⟨A3,n3,c3,rfl,fun _=>div,fun h1=> ?_⟩
   have h31:n3=1:=by omega
   subst h31
   obtain⟨l,hL,lim,hv⟩:=id hG
   have hl:=hL.len
   obtain⟨b,rfl⟩:∃b,l=[b]:=List.length_eq_one_iff.1 (by omega)
   obtain⟨ad,hA,_,hc,_⟩:=hL.at_ (i:=0) (by omega) (by omega)
   rw[Ig] at hv
   refine⟨by omega,by omega,ad,hA,_,hc,?_⟩
   by_cases hb:1<((lg [b] (0:Int).toNat:Nat):Int)
   ·rw[decide_eq_true hb]
    exact div
   ·rw[decide_eq_false hb]
    have e:x.gcd y=1:=by
     have:lg [b] (0:Int).toNat=b:=rfl
     omega
    refine⟨fun h=>(by cases h),fun _=>end_ w5 _ _ _ _ _ _ E ?_ ?_⟩
    ·rw[e,Nat.div_one];exact hx.ext E
    ·rw[e,Nat.div_one];exact hy.ext E
  refine⟨fun _=>go,fun h1=> ?_⟩
  have h31:m=1:=by omega
  subst h31
  obtain⟨l,hL,lim,hv⟩:=id hy
  have hl:=hL.len
  obtain⟨b,rfl⟩:∃b,l=[b]:=List.length_eq_one_iff.1 (by omega)
  obtain⟨ad,hA,_,hc,_⟩:=hL.at_ (i:=0) (by omega) (by omega)
  rw[Ig] at hv
  refine⟨by omega,by omega,ad,hA,_,hc,?_⟩
  by_cases hb:1<((lg [b] (0:Int).toNat:Nat):Int)
  ·rw[decide_eq_true hb]
   exact go
  ·rw[decide_eq_false hb]
   have e:y=1:=by
    have:lg [b] (0:Int).toNat=b:=rfl
    omega
   refine⟨fun h=>(by cases h),fun _=>end_ w _ _ _ _ _ _ (Ext.refl w) ?_ ?_⟩
   ·rw[e,Nat.gcd_one_right,Nat.div_one];exact hx
   ·rw[e,Nat.gcd_one_right,Nat.div_one];rw[e] at hy;exact hy
end
section
variable {w w':World} {p z o:Addr} {q r:Rat} {A B:Option Addr} {n c m d x y k j:Nat} {s t:Bool}
theorem Rj (h:m=0/\y=1\/1<y/\NR w B m d y) (E:Ext w w'):m=0/\y=1\/1<y/\NR w' B m d y:=h.imp id fun h=>⟨h.1,h.2.ext E⟩
theorem RQ.ln (h:RQ s x y q) (l:mF q k):Lb x k:=by have:=l.num;rwa [h.abs] at this
theorem RQ.ld (h:RQ s x y q) (l:mF q k):Lb y k:=by have:=l.den;rwa [h.den] at this
theorem aF6 (h:dX w p q):Calls P F.Aa #[.pointer (some p)] w (aS fun v w'=>w'=w/\∃(N D:Int) (b:Bool),v= .tuple #[.int .i64 N,.int .i64 D,.bool b]/\(b=true->N=q.num/\D=q.den/\q.num.natAbs<BB/\q.den<BB)):=by
 obtain⟨s,A,n,c,B,m,d,x,y,hs,hx,hy,hq⟩:=h
 refine aS.mono (aAn p (fun N D b w'=>w'=w/\(b=true->N=q.num/\D=q.den/\q.num.natAbs<BB/\q.den<BB)) w ?_) (by rintro _ w' ⟨N,D,b,rfl,rfl,h⟩;exact⟨rfl,N,D,b,rfl,h⟩)
 have c1:=hs.cell (i:=1) rfl
 have c2:=hs.cell (i:=2) rfl
 have no:∀K:Int->Int->Bool->World->Prop,K 0 0 false w->nV K w p true:=fun K h=>⟨fun _=>h,fun h=>by cases h⟩
 have hB:BB=1000000000:=rfl
 refine⟨A,n,c,c1,fun _=>no _ ⟨rfl,fun h=>by cases h⟩,fun hn1=>⟨B,m,d,c2,?_⟩⟩
 by_cases hm1:1<(m:Int)
 ·rw[decide_eq_true hm1]
  exact no _ ⟨rfl,fun h=>by cases h⟩
 rw[decide_eq_false hm1]
 refine⟨fun h=>(by cases h),fun _=>⟨A,n,c,c1,?_⟩⟩
 have lx:=hx.lb
 have xB:x<BB:=by
  have:Lb x 1:=lx.mono (by omega)
  simpa [Lb] using this
 have yB:y<BB:=by
  rcases hy with⟨_,rfl⟩|⟨_,hy⟩
  ·decide
  ·have:Lb y 1:=hy.lb.mono (by omega)
   simpa [Lb] using this
 have fin:oH w p (fun N D b w'=>w'=w/\(b=true->N=q.num/\D=q.den/\q.num.natAbs<BB/\q.den<BB)) (x:Int):=by
  have f2:oI w p (fun N D b w'=>w'=w/\(b=true->N=q.num/\D=q.den/\q.num.natAbs<BB/\q.den<BB)) (x:Int) (y:Int):=by
   have en:=hq.num
   have ea:=hq.abs
   have ed:=hq.den
   refine⟨s,hs.cell (i:=0) rfl,fun h=>⟨rfl,fun _=>⟨?_,by rw[ed],by omega,by omega⟩⟩,fun h=>⟨rfl,fun _=>⟨?_,by rw[ed],by omega,by omega⟩⟩⟩
   ·rw[en,h,aBj,wrap_i64 (by omega) (by omega)];omega
   ·rw[en,h,aAl]
  refine⟨B,m,d,c2,fun h1=>⟨B,m,d,c2,by omega,by omega,?_⟩,fun h1=> ?_⟩
  ·rcases hy with⟨h0,_⟩|⟨_,hy⟩
   ·omega
   ·obtain⟨l,hL,lim,rfl⟩:=hy
    have hl:=hL.len
    obtain⟨b,rfl⟩:∃b,l=[b]:=List.length_eq_one_iff.1 (by omega)
    obtain⟨ad,hA,_,hc,_⟩:=hL.at_ (i:=0) (by omega) (by omega)
    have e:lg [b] (0:Int).toNat=b:=rfl
    rw[Ig] at*
    rw[e] at hc
    refine⟨ad,hA,_,hc,?_⟩
    rw[wrap_i64 (by omega) (by omega)]
    exact f2
  ·have:y=1:=by
    rcases hy with⟨_,h⟩|⟨h1,hy⟩
    ·exact h
    ·have:=hy.zero
     omega
   rw[this] at f2
   exact f2
 refine⟨fun h1=>⟨A,n,c,c1,by omega,by omega,?_⟩,fun h1=> ?_⟩
 ·obtain⟨l,hL,lim,rfl⟩:=hx
  have hl:=hL.len
  obtain⟨b,rfl⟩:∃b,l=[b]:=List.length_eq_one_iff.1 (by omega)
  obtain⟨ad,hA,_,hc,_⟩:=hL.at_ (i:=0) (by omega) (by omega)
  have e:lg [b] (0:Int).toNat=b:=rfl
  rw[Ig] at*
  rw[e] at hc
  refine⟨ad,hA,_,hc,?_⟩
  rw[wrap_i64 (by omega) (by omega)]
  exact fin
 ·have:x=0:=hx.zero.1 (by omega)
  rw[this] at fin
  exact fin
theorem aJm {N:Int} {D:Nat} (hz:Qd w z) (hN:N.natAbs<4611686018427387904) (hD:D<4611686018427387904) (d0:D≠0):Calls P F.Ho #[.pointer (some z),.int .i64 N,.int .i64 (D:Int)] w (aS fun v w'=>v= .pointer (some z)/\Kp z w w'/\dX w' z (mkRat N D)):=by
 refine aS.mono (aAh z N (D:Int) (fun o w'=>o=some z/\Kp z w w'/\dX w' z (mkRat N D)) w ?_) (by rintro _ w' ⟨o,rfl,rfl,h⟩;exact⟨rfl,h⟩)
 have last:∀(a b:Nat) w4,Ext w w4->a<=N.natAbs->b<=D->b≠0->RQ (decide (N<0)) a b (mkRat N D)->kV z N (fun o w'=>o=some z/\Kp z w w'/\dX w' z (mkRat N D)) a b w4:=fun a b w4 E ha hb b0 hq=>by
  unfold kV
  rw[wrap_u64 (by omega) (by omega)]
  refine aS.mono (Dy (by omega)) ?_
  rintro _ w5 ⟨A,n,c,rfl,hF⟩
  obtain⟨u,v,o,hz⟩:=hz.ext (E.trans hF.ext)
  refine⟨A,n,c,rfl,⟨_,hz.cell (i:=0) rfl⟩,hz.fro 0,fun w1 h1=> ?_⟩
  obtain⟨k1,K1⟩:=hz.set h1
  refine⟨⟨_,k1.cell (i:=1) rfl⟩,k1.fro 1,fun w2 h2=> ?_⟩
  obtain⟨k2,K2⟩:=k1.set h2
  refine⟨⟨_,k2.cell (i:=2) rfl⟩,k2.fro 2,fun w3 h3=> ?_⟩
  obtain⟨k3,K3⟩:=k2.set h3
  have KK:=(Kp.uP (z:=z) (E.trans hF.ext)).trans ((K1.trans K2).trans K3)
  have hx3:=((hF.nr.sd hz (by decide) K1).sd k1 (by decide) K2).sd k2 (by decide) K3
  have stay:(a=0\/b=1)->oG (b:Int) w3 z (kU (fun o w'=>o=some z/\Kp z w w'/\dX w' z (mkRat N D)) z) false:=fun h=>⟨fun h=>(by cases h),fun _=>⟨rfl,KK,_,A,n,c,none,0,0,a,b,k3,hx3,.inl ⟨rfl,?_⟩,hq⟩⟩
  ·refine⟨fun ha0=> ?_,fun ha0=>stay (.inl (by omega))⟩
   by_cases hb1:1<(b:Int)
   ·rw[decide_eq_true hb1]
    refine⟨fun _=> ?_,fun h=>(by cases h)⟩
    rw[wrap_u64 (by omega) (by omega)]
    refine aS.mono (Dy (by omega)) ?_
    rintro _ w9 ⟨A2,n2,c2,rfl,hF2⟩
    have k9:=k3.ext hF2.ext
    refine⟨A2,n2,c2,rfl,⟨_,k9.cell (i:=2) rfl⟩,k9.fro 2,fun w10 h10=> ?_⟩
    obtain⟨k10,K10⟩:=k9.set h10
    exact⟨rfl,(KK.trans (Kp.uP hF2.ext)).trans K10,_,A,n,c,A2,n2,c2,a,b,k10,(hx3.ext hF2.ext).sd k9 (by decide) K10,.inr ⟨by omega,hF2.nr.sd k9 (by decide) K10⟩,hq⟩
   ·rw[decide_eq_false hb1]
    exact stay (.inr (by omega))
  ·rcases h with rfl|h
   ·have:=hq.cop
    rwa [Nat.gcd_zero_left] at this
   ·exact h
 have loop:nY (D:Int) w z N (fun o w'=>o=some z/\Kp z w w'/\dX w' z (mkRat N D)) (N.natAbs:Int):=by
  have hsg:sg (decide (N<0)) N.natAbs=N:=by
   by_cases h:N<0
   ·rw[decide_eq_true h,aBj];omega
   ·rw[decide_eq_false h,aAl];omega
  refine⟨fun q a b w'=>∃u v:Nat,a=u/\b=v/\q=v/\u.gcd v=N.natAbs.gcd D/\u<4611686018427387904/\v<4611686018427387904/\Ext w w',⟨D,N.natAbs,D,rfl,rfl,rfl,rfl,hN,hD,Ext.refl w⟩,?_⟩
  rintro v a b w1 ⟨u,_,rfl,rfl,rfl,hg,lu,lv,E⟩
  refine⟨fun h=>⟨by omega,fun w2 D2=>⟨u%v,Nat.mod_lt _ (by omega),v,u%v,rfl,(Int.ofNat_tmod u v).symm,rfl,by rw[Nat.gcd_comm,<-Nat.gcd_rec,Nat.gcd_comm];exact hg,lv,Nat.lt_trans (Nat.mod_lt _ (by omega)) lv,E.trans (Ext.aO D2)⟩⟩,fun h=> ?_⟩
  have v0:v=0:=by omega
  subst v0
  rw[Nat.gcd_zero_right] at hg
  have hgd:N.natAbs.gcd D∣D:=Nat.gcd_dvd_right _ _
  have hq0:N.natAbs=0->mkRat N D=0:=fun h=>by
   have:N=0:=by omega
   rw[this]
   exact Rat.zero_mkRat D
  have hq:RQ (decide (N<0)) (N.natAbs/u) (D/u) (mkRat N D):=by
   rw[hg]
   by_cases hN0:N.natAbs=0
   ·rw[hq0 hN0,hN0,Nat.gcd_zero_left,Nat.zero_div,Nat.div_self (by omega)]
    have:¬N<0:=by omega
    rw[decide_eq_false this]
    exact RQ.zero
   ·have:=RQ.put (decide (N<0)) hN0 d0
    rwa [hsg] at this
  refine⟨fun h1=>⟨by omega,by omega,fun w3 D3=> ?_⟩,fun h1=> ?_⟩
  ·have e1:Int.tdiv (N.natAbs:Int) (u:Int)=((N.natAbs/u:Nat):Int):=(Int.ofNat_tdiv _ _).symm
   have e2:Int.tdiv (D:Int) (u:Int)=((D/u:Nat):Int):=(Int.ofNat_tdiv _ _).symm
   have l1:=Nat.div_le_self N.natAbs u
   have l2:=Nat.div_le_self D u
   rw[e1,e2]
   have b0:=hq.d0
   generalize N.natAbs/u=a' at*
   generalize D/u=b' at*
   rw[wrap_i64 (by omega) (by omega),wrap_i64 (by omega) (by omega)]
   exact last _ _ w3 (E.trans (Ext.aO D3)) l1 l2 b0 hq
  ·have u0:u≠0:=fun e=>by
    rw[<-hg,e] at hgd
    have:=Nat.eq_zero_of_zero_dvd hgd
    exact d0 this
   have u1:u=1:=by omega
   rw[u1,Nat.div_one,Nat.div_one] at hq
   exact last _ _ w1 E (Nat.le_refl _) (Nat.le_refl _) d0 hq
 refine⟨fun h=> ?_,fun h=> ?_⟩
 ·rw[wrap_i64 (by omega) (by omega),show 0-N=(N.natAbs:Int) by omega]
  exact loop
 ·have:N=(N.natAbs:Int):=by omega
  rw[<-this] at loop
  exact loop
end
section
variable {w w':World} {p p2 z o:Addr} {q r:Rat} {A B:Option Addr} {n c m d x y k j:Nat} {s t:Bool}
def plusV (away:Bool) (q r:Rat):Rat:=if away then q-r else q+r
theorem aIo {away:Bool} {x' y':Nat} (h:RQ s x y q) (k:RQ t x' y' r):plusV away q r=mkRat (sg s (x*y')+sg (decide (t≠away)) (x'*y)) (y*y'):=by
 unfold plusV
 cases away
 ·have:decide (t≠false)=t:=by cases t<;>rfl
  rw[this]
  exact h.aJx k
 ·have:decide (t≠true)= !t:=by cases t<;>rfl
  rw[this,if_pos rfl,Rat.sub_eq_add_neg,h.aJx k.opp]
  congr 2
  by_cases h0:x'=0
  ·subst h0
   rw[Nat.zero_mul]
   cases t<;>rfl
  ·simp[h0]
theorem aIb {away:Bool} (q r:Rat):plusV away q r=mkRat (q.num*r.den+(if away then-r.num else r.num)*q.den) (q.den*r.den):=by
 unfold plusV
 cases away
 ·exact Rat.add_def' q r
 ·rw[if_pos rfl,if_pos rfl,Rat.sub_def',Int.neg_mul,Int.sub_eq_add_neg]
theorem mF.pos (h:mF q k):1<=k:=by
 rcases Nat.eq_zero_or_pos k with e|e
 ·subst e
  have h1:=h.den
  have h2:=q.den_nz
  unfold Lb at h1
  simp at h1
  exact absurd h1 h2
 ·exact e
theorem aI5 {away:Bool} (hz:Qd w z) (hx:dX w p q) (hy:dX w p2 r) (lq:mF q k) (lr:mF r j) (hk:Sh (k+j+1)) {K:Option Addr->World->Prop} (hK:∀w',Kp z w w'->dX w' z (plusV away q r)->K (some z) w'):oJ (some p) (some p2) away z K w:=by
 obtain⟨s,A,n,c,B,m,d,x,y,hs,hx,hy0,hq⟩:=hx
 obtain⟨t,A',n',c',B',m',d',x',y',ht,hx',hy',hr⟩:=hy
 have ln:=hx.le (hq.ln lq)
 have ln':=hx'.le (hr.ln lr)
 unfold Sh at hk
 refine⟨fun _=>False,p,rfl,s,hs.cell (i:=0) rfl,id,p,rfl,A,n,c,hs.cell (i:=1) rfl,id,p2,rfl,t,ht.cell (i:=0) rfl,id,p2,rfl,A',n',c',ht.cell (i:=1) rfl,id,fun w6 D6=> ?_⟩
 have E6:=Ext.aO D6
 refine aS.mono (Tf (ht.ext E6) (Rj hy' E6)) ?_
 rintro _ w5 ⟨A3,n3,c3,rfl,E5,h3⟩
 have E5':=E6.trans E5
 refine⟨A3,n3,c3,rfl,E5',fun w9 D9=> ?_⟩
 have E9:=E5'.drawn D9
 have l3:=h3.le (hr.ld lr)
 refine aS.mono (pY (hx.ext E9) (h3.ext (Ext.aO D9)) (by unfold Sn;omega)) ?_
 rintro _ w8 ⟨A4,n4,c4,rfl,hF4⟩
 have E8:=E9.trans hF4.ext
 refine⟨A4,n4,c4,rfl,E8,fun w12 D12=> ?_⟩
 have E12:=E8.drawn D12
 refine aS.mono (Tf (hs.ext E12) (Rj hy0 E12)) ?_
 rintro _ w11 ⟨A5,n5,c5,rfl,E11,h5⟩
 have E11':=E12.trans E11
 refine⟨A5,n5,c5,rfl,E11',fun w15 D15=> ?_⟩
 have E15:=E11'.drawn D15
 have l5:=h5.le (hq.ld lq)
 refine aS.mono (pY (hx'.ext E15) (h5.ext (Ext.aO D15)) (by unfold Sn;omega)) ?_
 rintro _ w14 ⟨A6,n6,c6,rfl,hF6⟩
 have E14:=E15.trans hF6.ext
 refine⟨A6,n6,c6,rfl,E14,fun w18 D18=> ?_⟩
 have E18:=E14.drawn D18
 have b4:Lb (x*y') (k+j):=(hq.ln lq).mul (hr.ld lr)
 have b6:Lb (x'*y) (k+j):=by rw[Nat.add_comm];exact(hr.ln lr).mul (hq.ld lq)
 have l4:=hF4.nr.le b4
 have l6:=hF6.nr.le b6
 refine aS.mono (aKp ((hF4.nr.ext (Ext.aO D12)).ext ((E11.drawn D15).trans (hF6.ext.drawn D18))) (hF6.nr.ext (Ext.aO D18)) (by unfold Sh;omega) (by unfold Sh;omega)) ?_
 rintro _ w17 ⟨u,A7,n7,c7,rr,rfl,E17,h7,he⟩
 refine⟨u,A7,n7,c7,rfl,fun w20 D20=> ?_⟩
 have E20:=(E18.trans E17).drawn D20
 have b7:Lb rr (k+j+1):=by
  refine(b4.add b6).le ?_
  have h1:=Int.natAbs_add_le (sg s (x*y')) (sg (decide (t≠away)) (x'*y))
  rw[<-he,La,La,La] at h1
  exact h1
 have l7:=h7.le b7
 refine aS.mono (Tf (hs.ext E20) (Rj hy0 E20)) ?_
 rintro _ w22 ⟨A9,n9,c9,rfl,E22,h9⟩
 refine⟨A9,n9,c9,rfl,?_⟩
 have E22':=E20.trans E22
 refine aS.mono (Tf (ht.ext E22') (Rj hy' E22')) ?_
 rintro _ w23 ⟨A10,n10,c10,rfl,E23,h10⟩
 refine⟨A10,n10,c10,rfl,?_⟩
 have l9:=h9.le (hq.ld lq)
 have l10:=h10.le (hr.ld lr)
 have E23':=E22'.trans E23
 refine aS.mono (pY (h9.ext E23) h10 (by unfold Sn;omega)) ?_
 rintro _ w24 ⟨A11,n11,c11,rfl,hF⟩
 refine⟨A11,n11,c11,rfl,?_⟩
 have l11:=hF.nr.le ((hq.ld lq).mul (hr.ld lr))
 have E24:=E23'.trans hF.ext
 refine aS.mono (aDp (s:=u) (hz.ext E24) (h7.ext ((Ext.aO D20).trans ((E22.trans E23).trans hF.ext))) hF.nr (Nat.mul_ne_zero hq.d0 hr.d0) (by unfold Sh;omega) (by unfold Sh;omega)) ?_
 rintro _ w25 ⟨rfl,k25,hR⟩
 refine⟨_,rfl,hK w25 ((Kp.uP E24).trans k25) ?_⟩
 rw[aIo hq hr,<-he]
 exact hR
theorem aA1 {a b:Int} (h:a.natAbs<BB) (k:b.natAbs<BB):(a*b).natAbs<1000000000000000000:=by
 rw[Int.natAbs_mul]
 have h1:a.natAbs*b.natAbs<BB*BB:=Nat.mul_lt_mul'' h k
 exact h1
theorem aFg {away:Bool} (hz:Qd w z) (hx:dX w p q) (hy:dX w p2 r) (lq:mF q k) (lr:mF r j) (hk:Sh (k+j+1)):Calls P F.Hl #[.pointer (some z),.pointer (some p),.pointer (some p2),.bool away] w (aS fun v w'=>v= .pointer (some z)/\Kp z w w'/\dX w' z (plusV away q r)):=by
 refine aS.mono (aAd z (some p) (some p2) away (fun o w'=>o=some z/\Kp z w w'/\dX w' z (plusV away q r)) w ?_) (by rintro _ w' ⟨o,rfl,rfl,h⟩;exact⟨rfl,h⟩)
 have long:=aI5 (away:=away) hz hx hy lq lr hk (K:=fun o w'=>o=some z/\Kp z w w'/\dX w' z (plusV away q r)) fun w' h1 h2=>⟨rfl,h1,h2⟩
 unfold Fa
 refine aS.mono (aF6 hx) ?_
 rintro _ w ⟨rfl,N1,D1,b1,rfl,h1⟩
 refine⟨N1,D1,b1,rfl,fun e=> ?_,fun _=>long⟩
 obtain⟨rfl,rfl,a1,a2⟩:=h1 e
 refine aS.mono (aF6 hy) ?_
 rintro _ w ⟨rfl,N2,D2,b2,rfl,h2⟩
 refine⟨N2,D2,b2,rfl,fun e=> ?_,fun _=>long⟩
 obtain⟨rfl,rfl,c1,c2⟩:=h2 e
 have hB:BB=1000000000:=rfl
 have fin:∀y:Int,y=(if away then-r.num else r.num)->kW z q.num (r.den:Int) (q.den:Int) w (fun o w'=>o=some z/\Kp z w w'/\dX w' z (plusV away q r)) y:=fun y ey=>by
  have ay:y.natAbs<BB:=by rw[ey];split<;>omega
  have m1:=aA1 a1 (b:=(r.den:Int)) (by omega)
  have m2:=aA1 ay (b:=(q.den:Int)) (by omega)
  have m3:=aA1 (a:=(q.den:Int)) (b:=(r.den:Int)) (by omega) (by omega)
  have e3:((q.den:Int)*(r.den:Int))=((q.den*r.den:Nat):Int):=by simp
  have d3:=Nat.mul_ne_zero q.den_nz r.den_nz
  unfold kW
  rw[aIb q r,<-ey]
  rw[e3] at m3⊢
  generalize q.num*(r.den:Int)=X at*
  generalize y*(q.den:Int)=Y at*
  generalize q.den*r.den=D at*
  rw[wrap_i64 (i:=X) (by omega) (by omega),wrap_i64 (i:=Y) (by omega) (by omega),wrap_i64 (by omega) (by omega),wrap_i64 (by omega) (by omega)]
  refine aS.mono (aJm hz (by omega) (by omega) d3) ?_
  rintro _ w3 ⟨rfl,h⟩
  exact⟨_,rfl,rfl,h⟩
 refine⟨fun ha=> ?_,fun ha=>fin _ (by rw[ha];rfl)⟩
 rw[wrap_i64 (by omega) (by omega)]
 exact fin _ (by rw[ha,if_pos rfl];omega)
theorem aJ9 (hz:Qd w z) (hx:dX w p q) (hy:dX w p2 r) (lq:mF q k) (lr:mF r j) (hk:Sh (k+j+1)):Calls P F.nM #[.pointer (some z),.pointer (some p),.pointer (some p2)] w (aS fun v w'=>v= .pointer (some z)/\Kp z w w'/\dX w' z (q-r)):=by
 refine aS.mono (aBt z (some p) (some p2) (fun o w'=>o=some z/\Kp z w w'/\dX w' z (q-r)) w (aS.mono (aFg (away:=true) hz hx hy lq lr hk) ?_)) (by rintro _ w' ⟨o,rfl,rfl,h⟩;exact⟨rfl,h⟩)
 rintro _ w' ⟨rfl,h⟩
 exact⟨_,rfl,rfl,h⟩
theorem aGc {s t:Bool}:decide (s≠t)=(s !=t):=by cases s<;>cases t<;>rfl
theorem aKj (hz:Qd w z) (hx:dX w p q) (hy:dX w p2 r) (lq:mF q k) (lr:mF r j) (r0:r≠0) (hk:Sh (k+j)):Calls P F.Jy #[.pointer (some z),.pointer (some p),.pointer (some p2)] w (aS fun v w'=>v= .pointer (some z)/\Kp z w w'/\dX w' z (q/r)):=by
 refine aS.mono (aBd z (some p) (some p2) (fun o w'=>o=some z/\Kp z w w'/\dX w' z (q/r)) w ?_) (by rintro _ w' ⟨o,rfl,rfl,h⟩;exact⟨rfl,h⟩)
 obtain⟨s,A,n,c,B,m,d,x,y,hs,hx,hy0,hq⟩:=hx
 obtain⟨t,A',n',c',B',m',d',x',y',ht,hx',hy',hr⟩:=hy
 have ln:=hx.le (hq.ln lq)
 have ln':=hx'.le (hr.ln lr)
 have x0:x'≠0:=fun e=>r0 (hr.is0.2 e)
 unfold Sh at hk
 refine⟨fun _=>False,p,rfl,s,hs.cell (i:=0) rfl,id,p2,rfl,t,ht.cell (i:=0) rfl,id,p,rfl,A,n,c,hs.cell (i:=1) rfl,id,p2,rfl,A',n',c',ht.cell (i:=1) rfl,id,fun w2 D2=> ?_⟩
 have E2:=Ext.aO D2
 refine aS.mono (Tf (ht.ext E2) (Rj hy' E2)) ?_
 rintro _ w1 ⟨A3,n3,c3,rfl,E1,h3⟩
 have E1':=E2.trans E1
 refine⟨A3,n3,c3,rfl,E1',fun w5 D5=> ?_⟩
 have E5:=E1'.drawn D5
 have l3:=h3.le (hr.ld lr)
 refine aS.mono (pY (hx.ext E5) (h3.ext (Ext.aO D5)) (by unfold Sn;omega)) ?_
 rintro _ w4 ⟨A4,n4,c4,rfl,hF⟩
 have E4:=E5.trans hF.ext
 refine⟨A4,n4,c4,rfl,E4,fun w8 D8=> ?_⟩
 have E8:=E4.drawn D8
 refine aS.mono (Tf (hs.ext E8) (Rj hy0 E8)) ?_
 rintro _ w7 ⟨A5,n5,c5,rfl,E7,h5⟩
 have E7':=E8.trans E7
 refine⟨A5,n5,c5,rfl,E7',fun w11 D11=> ?_⟩
 have E11:=E7'.drawn D11
 have l5:=h5.le (hq.ld lq)
 refine aS.mono (pY (h5.ext (Ext.aO D11)) (hx'.ext E11) (by unfold Sn;omega)) ?_
 rintro _ w10 ⟨A6,n6,c6,rfl,hF6⟩
 have E10:=E11.trans hF6.ext
 refine⟨A6,n6,c6,rfl,E10,fun w14 D14=> ?_⟩
 have E14:=E10.drawn D14
 have l4:=hF.nr.le ((hq.ln lq).mul (hr.ld lr))
 have l6:=hF6.nr.le ((hq.ld lq).mul (hr.ln lr))
 refine aS.mono (aDp (s:=decide (s≠t)) (hz.ext E14) (hF.nr.ext ((Ext.aO D8).trans (E7.trans ((Ext.aO D11).trans (hF6.ext.drawn D14))))) (hF6.nr.ext (Ext.aO D14)) (Nat.mul_ne_zero hq.d0 x0) (by unfold Sh;omega) (by unfold Sh;omega)) ?_
 rintro _ w17 ⟨rfl,k17,hR⟩
 refine⟨_,rfl,fun w20 D20=>⟨rfl,((Kp.uP E14).trans k17).drawn D20,?_⟩⟩
 rw[hq.aK1 hr,<-aGc]
 exact hR.ext (Ext.aO D20)
end
section
variable {w w':World} {p p2 z o:Addr} {q r:Rat} {A B:Option Addr} {n c m d x y k j:Nat} {s t:Bool} {i:Int}
theorem aHt (hx:dX w p q):Calls P F.Ed #[.pointer (some p)] w (aS fun v w'=>∃o,v= .pointer (some o)/\Ext w w'/\Nq w' o q.num):=by
 refine aS.mono (aBo p (fun v w'=>∃o,v=some o/\Ext w w'/\Nq w' o q.num) w ?_) (by rintro _ w' ⟨v,rfl,o,rfl,h⟩;exact⟨o,rfl,h⟩)
 obtain⟨s,A,n,c,B,m,d,x,y,hs,hx,hy,hq⟩:=hx
 refine⟨s,hs.cell (i:=0) rfl,A,n,c,hs.cell (i:=1) rfl,fun w7 D7 o w1 hN w3 D3=> ?_⟩
 obtain⟨k,kb⟩:=Sd.new hN rfl
 have E3:=(Ext.aO D7).trans ((Ext.bI hN).drawn D3)
 refine aS.mono (aHl (s:=s) (k.ext (Ext.aO D3)) (hx.ext E3)) ?_
 rintro _ w2 ⟨rfl,k2,h2⟩
 have E2:Ext w w2:=k2.bI E3 (by rw[kb];exact(Ext.aO D7).size)
 refine⟨_,rfl,fun w5 D5=>⟨o,rfl,E2.drawn D5,?_⟩⟩
 rw[hq.num]
 exact h2.ext (Ext.aO D5)
def sgi (i:Int):Int:=if i<0 then-1 else if i=0 then 0 else 1
theorem aFu (h:Nq w p i):Calls P F.Hq #[.pointer (some p)] w (aS fun v w'=>w'=w/\v= .int .i64 (sgi i)):=by
 refine aS.mono (aAe p (fun v w'=>w'=w/\v=sgi i) w ?_) (by rintro _ w' ⟨v,rfl,h,rfl⟩;exact⟨h,rfl⟩)
 obtain⟨s,A,n,c,x,hs,hx,rfl,h0⟩:=h
 have hz:=hx.zero
 refine⟨s,hs.cell (i:=0) rfl,fun h=>⟨rfl,?_⟩,fun h=>⟨A,n,c,hs.cell (i:=1) rfl,fun e=>⟨rfl,?_⟩,fun e=>⟨rfl,?_⟩⟩⟩
 ·have:=h0 h
  unfold sgi
  rw[h,aBj,if_pos (by omega)]
 ·unfold sgi
  rw[h,aAl,if_neg (by omega),if_pos (by omega)]
 ·unfold sgi
  rw[h,aAl,if_neg (by omega),if_neg (by omega)]
theorem aJe (q:Rat):sgi q.num=Ew q:=rfl
theorem Um (hx:dX w p q):Calls P F.mP #[.pointer (some p)] w (aS fun v w'=>Ext w w'/\v= .int .i64 (Ew q)):=by
 refine aS.mono (aAm p (fun v w'=>Ext w w'/\v=Ew q) w (aS.mono (aHt hx) ?_)) (by rintro _ w' ⟨v,rfl,h,rfl⟩;exact⟨h,rfl⟩)
 rintro _ w1 ⟨o,rfl,E,hi⟩
 refine⟨_,rfl,aS.mono (aFu hi) ?_⟩
 rintro _ w2 ⟨rfl,rfl⟩
 exact⟨_,rfl,E,aJe q⟩
theorem aCz (h:Nq w p i) {k:Nat} (l:Lb i.natAbs k) (hk:Sh k):Calls P F.zX #[.pointer (some p)] w (aS fun v w'=>∃t,v= .string t/\Ext w w'/\t.size<=9*k+2/\∃a,bl t=(if i<0 then [45] else [])++a/\wZ a i.natAbs):=by
 refine aS.mono (Yw p (fun t w'=>Ext w w'/\t.size<=9*k+2/\∃a,bl t=(if i<0 then [45] else [])++a/\wZ a i.natAbs) w ?_) (by rintro _ w' ⟨t,rfl,h⟩;exact⟨t,rfl,h⟩)
 obtain⟨s,A,n,c,x,hs,hx,rfl,h0⟩:=h
 rw[La] at*
 have ln:=hx.le l
 unfold Sh at hk
 refine⟨s,hs.cell (i:=0) rfl,fun h=>⟨A,n,c,hs.cell (i:=1) rfl,?_⟩,fun h=>⟨A,n,c,hs.cell (i:=1) rfl,?_⟩⟩
 ·refine aS.mono (Zk hx (by unfold Sh;omega)) ?_
  rintro _ w1 ⟨t,rfl,E,hd,hz⟩
  have e1:(⟨#[45]⟩:ByteArray).size=1:=rfl
  have:=h0 h
  refine⟨t,rfl,by omega,E,by rw[ByteArray.size_append];omega,bl t,?_,hd⟩
  rw[h,aBj,if_pos (by omega),wC]
 ·refine aS.mono (Zk hx (by unfold Sh;omega)) ?_
  rintro _ w1 ⟨t,rfl,E,hd,hz⟩
  refine⟨t,rfl,E,by omega,bl t,?_,hd⟩
  rw[h,aAl,if_neg (by omega)]
  rfl
theorem Xn (hx:dX w p q) (l:mF q k) (hk:Sh k):Calls P F.pJ #[.pointer (some p)] w (aS fun v w'=>∃t,v= .string t/\Ext w w'/\jG (bl t) q/\t.size<=18*k+4):=by
 refine aS.mono (Uj p (fun t w'=>Ext w w'/\jG (bl t) q/\t.size<=18*k+4) w ?_) (by rintro _ w' ⟨t,rfl,h⟩;exact⟨t,rfl,h⟩)
 have hk':=hk
 unfold Sh at hk
 refine aS.mono (aHt hx) ?_
 rintro _ w1 ⟨o,rfl,E1,hi⟩
 refine⟨_,rfl,aS.mono (aCz hi l.num hk') ?_⟩
 rintro _ w2 ⟨t,rfl,E2,hz,a,ht,ha⟩
 have E:=E1.trans E2
 obtain⟨s,A,n,c,B,m,d,x,y,hs,hx,hy,hq⟩:=hx.ext E
 refine⟨t,rfl,aS.mono (aD2 hs) ?_⟩
 rintro _ w3 ⟨rfl,rfl⟩
 have hden:=hq.den
 refine⟨_,rfl,fun h=> ?_,fun h=> ?_⟩
 ·have hm0:m≠0:=fun e=>by subst e;simp at h
  rcases hy with⟨e,_⟩|⟨h1,hy⟩
  ·exact absurd e hm0
  have lm:=hy.le (hq.ld l)
  refine⟨B,m,d,hs.cell (i:=2) rfl,aS.mono (Zk hy (by unfold Sh;omega)) ?_⟩
  rintro _ w4 ⟨t2,rfl,E4,hd,hz2⟩
  have e1:(⟨#[47]⟩:ByteArray).size=1:=rfl
  refine⟨t2,rfl,by omega,by rw[ByteArray.size_append];omega,E.trans E4,⟨a,bl t2,?_,ha,by rw[hden];exact hd⟩,by rw[ByteArray.size_append,ByteArray.size_append];omega⟩
  unfold Vz
  rw[wC,wC,ht,if_neg (show¬q.den=1 by omega)]
  rfl
 ·have hm0:m=0:=by
   rcases Nat.eq_zero_or_pos m with e|e
   ·exact e
   ·have:¬(m:Int)=0:=by omega
    rw[decide_eq_false this] at h
    cases h
  have hy1:y=1:=by
   rcases hy with⟨_,h⟩|⟨h1,hy⟩
   ·exact h
   ·have:=hy.zero;omega
  refine⟨E,⟨a,[49],?_,ha,?_⟩,by omega⟩
  ·unfold Vz
   rw[ht,if_pos (show q.den=1 by rw[hden];exact hy1),List.append_nil]
  ·rw[hden,hy1]
   exact⟨by simp,fun c hc=>by simp at hc;subst hc;exact⟨by decide,by decide⟩,.inr (by decide),rfl⟩
theorem Yu (hz:Qd w z) (st:ByteArray) (hs:st.size<=68719476736):Calls P F.pV #[.pointer (some z),.string st] w (aS fun v w'=>Kp z w w'/\(∀q,gJ (bl st)=some q->v= .tuple #[.pointer (some z),.bool true]/\dX w' z q)/\(gJ (bl st)=none->v= .tuple #[.pointer none,.bool false])):=by
 refine aS.mono (Ue z st (fun o b w'=>Kp z w w'/\(∀q,gJ (bl st)=some q->o=some z/\b=true/\dX w' z q)/\(gJ (bl st)=none->o=none/\b=false)) w ?_) (by
  rintro _ w' ⟨o,b,rfl,h1,h2,h3⟩
  exact⟨h1,fun q hq=>by obtain⟨rfl,rfl,h⟩:=h2 q hq;exact⟨rfl,h⟩,fun hn=>by obtain⟨rfl,rfl⟩:=h3 hn;rfl⟩)
 have hlen:=eY st
 have bl1:(bare (bl st)).length<=(bl st).length:=by
  unfold bare
  split
  ·rw[List.length_drop];omega
  ·omega
 have cl:=aC0 47 (bare (bl st))
 have clen:(upto 47 (bare (bl st))).length<=(bare (bl st)).length:=(List.takeWhile_sublist _).length_le
 refine aS.mono (Xz st w) ?_
 rintro _ w0 ⟨rfl,rfl⟩
 refine⟨_,rfl,aS.mono (aHq _ 47 w0 (by rw[eY];show(bare (bl st)).length<=_;omega)) ?_⟩
 have eb:bl (bs (bare (bl st)))=bare (bl st):=rfl
 rw[eb]
 rintro _ w2 ⟨D2,rfl⟩
 refine⟨_,_,_,rfl,aS.mono (Vy _ w2 (by rw[eY];show(upto 47 (bare (bl st))).length<=_;omega)) ?_⟩
 rintro _ w3 ⟨E3,rfl⟩
 have E3':=(Ext.aO D2).trans E3
 have eu:bl (bs (upto 47 (bare (bl st))))=upto 47 (bare (bl st)):=rfl
 rw[eu]
 have no:∀w4 b2 s4 s3 p1 s2 s1,Ext w0 w4->gJ (bl st)=none->gQ (fun o b w'=>Kp z w0 w'/\(∀q,gJ (bl st)=some q->o=some z/\b=true/\dX w' z q)/\(gJ (bl st)=none->o=none/\b=false)) b2 s4 s3 p1 s2 s1 true w4:=fun w4 b2 s4 s3 p1 s2 s1 E hn=>⟨fun _=>⟨Kp.uP E,fun q hq=>(by rw[hn] at hq;cases hq),fun _=>⟨rfl,rfl⟩⟩,fun h=>by cases h⟩
 refine⟨_,rfl,fun hf=> ?_,fun hf=> ?_⟩
 ·have hf':Eo (upto 47 (bare (bl st)))=false:=by simpa using hf
  exact no _ _ _ _ _ _ _ E3' (by unfold gJ;rw[hf'];rfl)
 have hf':Eo (upto 47 (bare (bl st)))=true:=by simpa using hf
 have hfn:=lJ.1 hf'
 have hneg:decide (((bs (bare (bl st))).size:Int)<(st.size:Int))=Cc (bl st):=by
  rw[eY,eb,hlen]
  unfold bare
  cases hn:Cc (bl st)
  ·simp
  ·have:(bl st).length≠0:=fun e=>by
    rw[List.length_eq_zero_iff.1 e] at hn
    cases hn
   simp
   omega
 have fin:∀w8 A3 n3 c3 D,Ext w0 w8->NR w8 A3 n3 c3 D->n3<=68719476736->(D=0->gJ (bl st)=none)->(D≠0->gJ (bl st)=some (mkRat (sg (Cc (bl st)) (dv (upto 47 (bare (bl st))))) D))->jS (fun o b w'=>Kp z w0 w'/\(∀q,gJ (bl st)=some q->o=some z/\b=true/\dX w' z q)/\(gJ (bl st)=none->o=none/\b=false)) (bs (upto 47 (bare (bl st)))) z (bs (bare (bl st))) st A3 n3 c3 w8:=fun w8 A3 n3 c3 D E hD hn3 h0 h1=>by
  have hdz:=hD.zero
  refine⟨fun e=>⟨Kp.uP E,fun q hq=> ?_,fun _=>⟨rfl,rfl⟩⟩,fun e=> ?_⟩
  ·rw[h0 (by omega)] at hq;cases hq
  have D0:D≠0:=by omega
  refine aS.mono (aGt _ w8 (by rw[eu];exact hfn.2) (by rw[eY,eu];omega)) ?_
  rintro _ w9 ⟨A4,n4,c4,rfl,E9,h4⟩
  rw[eu] at h4
  have l4:=h4.le (Lb.dec hfn.2)
  refine⟨A4,n4,c4,rfl,?_⟩
  rw[hneg]
  refine aS.mono (aDp (hz.ext (E.trans E9)) h4 (hD.ext E9) D0 (by unfold Sh;omega) hn3) ?_
  rintro _ w10 ⟨rfl,k,hR⟩
  refine⟨_,rfl,(Kp.uP (E.trans E9)).trans k,fun q hq=> ?_,fun hn=> ?_⟩
  ·rw[h1 D0] at hq
   cases hq
   exact⟨rfl,rfl,hR⟩
  ·rw[h1 D0] at hn;cases hn
 have cont:∀w4 b,Ext w0 w4->b=false->(∀d,past 47 (bare (bl st))=some d->Eo d=true)->gQ (fun o b w'=>Kp z w0 w'/\(∀q,gJ (bl st)=some q->o=some z/\b=true/\dX w' z q)/\(gJ (bl st)=none->o=none/\b=false)) (past 47 (bare (bl st))).isSome (bs ((past 47 (bare (bl st))).getD [])) (bs (upto 47 (bare (bl st)))) z (bs (bare (bl st))) st b w4:=fun w4 b E hb hd=>by
  subst hb
  refine⟨fun h=>(by cases h),fun _=>aS.mono aFy ?_⟩
  rintro _ w6 ⟨E6,A,rfl,hN,_⟩
  refine⟨A,1,1,rfl,?_⟩
  cases hp:past 47 (bare (bl st)) with
  |none=>
   refine⟨fun h=>(by cases h),fun _=>fin w6 A 1 1 1 (E.trans E6) hN (by omega) (fun h=>by cases h) fun _=> ?_⟩
   rw[Xv hf' (fun d hd=>by rw[hp] at hd;cases hd),hp]
   rfl
  |some dd=>
   have hfd:=lJ.1 (hd dd hp)
   have hdl:dd.length<=68719476736:=by
    have:(bare (bl st)).length=(upto 47 (bare (bl st))).length+(dd.length+1):=by
     have h2:=cl
     rw[hp] at h2
     have h3:=congrArg List.length h2
     simpa using h3
    omega
   refine⟨fun _=> ?_,fun h=>(by cases h)⟩
   refine aS.mono (aGt _ w6 hfd.2 (by rw[eY];show dd.length<=_;omega)) ?_
   rintro _ w7 ⟨A2,n2,c2,rfl,E7,h2⟩
   have l2:=h2.le (Lb.dec hfd.2)
   refine⟨A2,n2,c2,rfl,fin w7 A2 n2 c2 (dv dd) ((E.trans E6).trans E7) h2 ?_ (fun h0=> ?_) fun h0=> ?_⟩
   ·have:(bl (bs (some dd|>.getD []))).length=dd.length:=rfl
    omega
   ·unfold gJ
    rw[hf',hp]
    simp[h0]
   ·rw[Xv hf' (fun d hd'=>by rw[hp] at hd';cases hd';exact⟨hd dd hp,h0⟩),hp]
    rfl
 refine⟨fun hsp=> ?_,fun hsp=>cont w3 false E3' rfl fun d hd=>by rw[hd] at hsp;cases hsp⟩
 obtain⟨dd,hp⟩:=Option.isSome_iff_exists.1 hsp
 have hdl:dd.length<=68719476736:=by
  have:(bare (bl st)).length=(upto 47 (bare (bl st))).length+(dd.length+1):=by
   have h2:=cl
   rw[hp] at h2
   have h3:=congrArg List.length h2
   simpa using h3
  omega
 refine aS.mono (Vy _ w3 (by rw[hp,eY];show dd.length<=_;omega)) ?_
 rintro _ w5 ⟨E5,rfl⟩
 refine⟨_,rfl,?_⟩
 have ed:bl (bs ((past 47 (bare (bl st))).getD []))=dd:=by rw[hp];rfl
 rw[ed]
 cases hfd:Eo dd with
 |false=>
  refine no _ _ _ _ _ _ _ (E3'.trans E5) ?_
  unfold gJ
  rw[hp]
  simp[hfd]
 |true=>exact cont w5 _ (E3'.trans E5) rfl fun d hd=>by rw[hp] at hd;cases hd;exact hfd
theorem aGr (q:Rat):Ew q=1↔0<q:=by
 have e:0<q↔0<q.num:=by rw[Rat.lt_iff];simp
 rw[e]
 unfold Ew
 split
 ·omega
 ·split<;>omega
theorem aI8 (h:Ew q≠Ew r):(Ew q<Ew r->q<r)/\(¬Ew q<Ew r->r<q):=by
 have a:=aFt q
 have b:=aFt r
 have n1:=aAq (q:=q)
 have n2:=aAq (q:=r)
 have p1:=aGr q
 have p2:=aGr r
 have z1:=Uf (q:=q)
 have z2:=Uf (q:=r)
 have c1:Ew q= -1\/Ew q=0\/Ew q=1:=by omega
 have c2:Ew r= -1\/Ew r=0\/Ew r=1:=by omega
 rcases c1 with e1|e1|e1<;>rcases c2 with e2|e2|e2<;>rw[e1,e2] at h⊢<;>refine⟨fun h1=> ?_,fun h1=> ?_⟩<;>(try (exfalso;omega))
 ·rw[z2.1 e2];exact n1.1 e1
 ·exact Rat.not_le.1 fun h=>Rat.not_le.2 (n1.1 e1) (Rat.le_trans (Rat.le_of_lt (p2.1 e2)) h)
 ·rw[z1.1 e1];exact n2.1 e2
 ·rw[z1.1 e1];exact p2.1 e2
 ·exact Rat.not_le.1 fun h=>Rat.not_le.2 (n2.1 e2) (Rat.le_trans (Rat.le_of_lt (p1.1 e1)) h)
 ·rw[z2.1 e2];exact p1.1 e1
theorem RQ.same (h:RQ s x y q) {x' y':Nat} (k:RQ t x' y' r) (e:Ew q=Ew r):s=t:=by
 have a:=h.aKm
 have b:=k.aKm
 rw[e,b] at a
 cases s<;>cases t<;>simp at a
 ·rfl
 ·split at a<;>omega
 ·split at a<;>omega
 ·rfl
theorem aKc {x' y':Nat} (h:RQ s x y q) (k:RQ t x' y' r) (e:Ew q=Ew r):Vk q r=if s then-xQ (x*y') (x'*y) else xQ (x*y') (x'*y):=by
 have hst:=h.same k e
 subst hst
 have l1:=h.lt_ k
 have l2:=k.lt_ h
 unfold Vk xQ
 cases s
 ·simp only[aAl] at l1 l2
  simp only[l1,l2,Int.ofNat_lt,if_false,Bool.false_eq_true]
 ·simp only[aBj,Int.neg_lt_neg_iff] at l1 l2
  simp only[l1,l2,Int.ofNat_lt,if_true]
  by_cases a:x'*y<x*y'
  ·rw[if_pos a,if_neg (by omega),if_pos a]
  ·rw[if_neg a]
   by_cases b:x*y'<x'*y
   ·rw[if_pos b,if_pos b];rfl
   ·rw[if_neg b,if_neg b,if_neg a];rfl
theorem Yz (hx:dX w p q) (hy:dX w p2 r) (lq:mF q k) (lr:mF r j) (hk:Sh (k+j)):Calls P F.yM #[.pointer (some p),.pointer (some p2)] w (aS fun v w'=>Ext w w'/\v= .int .i64 (Vk q r)):=by
 refine aS.mono (aA9 p (some p2) (fun v w'=>Ext w w'/\v=Vk q r) w ?_) (by rintro _ w' ⟨v,rfl,h,rfl⟩;exact⟨h,rfl⟩)
 unfold Sh at hk
 refine aS.mono (Um hx) ?_
 rintro _ w1 ⟨E1,rfl⟩
 refine⟨_,rfl,aS.mono (Um (hy.ext E1)) ?_⟩
 rintro _ w2 ⟨E2',rfl⟩
 have E2:=E1.trans E2'
 refine⟨_,rfl,fun hne=> ?_,fun he=> ?_⟩
 ·have ho:=aI8 hne
  refine aS.mono (Um (hx.ext E2)) ?_
  rintro _ w3 ⟨E3,rfl⟩
  refine⟨_,rfl,aS.mono (Um (hy.ext (E2.trans E3))) ?_⟩
  rintro _ w4 ⟨E4,rfl⟩
  have E:=(E2.trans E3).trans E4
  refine⟨_,rfl,fun h=>⟨E,?_⟩,fun h=>⟨E,?_⟩⟩
  ·unfold Vk;rw[if_pos (ho.1 h)]
  ·unfold Vk;rw[if_neg (Rat.not_lt.2 (Rat.le_of_lt (ho.2 h))),if_pos (ho.2 h)]
 ·have he:Ew q=Ew r:=Classical.byContradiction fun h=>he h
  obtain⟨s,A,n,c,B,m,d,x,y,hs,hx,hy0,hq⟩:=hx
  obtain⟨t,A',n',c',B',m',d',x',y',ht,hx',hy',hr⟩:=hy
  have ln:=hx.le (hq.ln lq)
  have ln':=hx'.le (hr.ln lr)
  have hs2:=hs.ext E2
  have ht2:=ht.ext E2
  refine⟨fun _=>False,A,n,c,hs2.cell (i:=1) rfl,id,p2,rfl,A',n',c',ht2.cell (i:=1) rfl,id,fun w6 D6=> ?_⟩
  have E6:=E2.drawn D6
  refine aS.mono (Tf (ht.ext E6) (Rj hy' E6)) ?_
  rintro _ w5 ⟨A3,n3,c3,rfl,E5,h3⟩
  have E5':=E6.trans E5
  refine⟨A3,n3,c3,rfl,(Ext.aO D6).trans E5,fun w9 D9=> ?_⟩
  have E9:=E5'.drawn D9
  have l3:=h3.le (hr.ld lr)
  refine aS.mono (pY (hx.ext E9) (h3.ext (Ext.aO D9)) (by unfold Sn;omega)) ?_
  rintro _ w8 ⟨A4,n4,c4,rfl,hF⟩
  have E8:=E9.trans hF.ext
  refine⟨A4,n4,c4,rfl,((Ext.aO D6).trans (E5.drawn D9)).trans hF.ext,fun w12 D12=> ?_⟩
  have E12:=E8.drawn D12
  refine aS.mono (Tf (hs.ext E12) (Rj hy0 E12)) ?_
  rintro _ w11 ⟨A5,n5,c5,rfl,E11,h5⟩
  have E11':=E12.trans E11
  refine⟨A5,n5,c5,rfl,(((Ext.aO D6).trans (E5.drawn D9)).trans hF.ext).trans ((Ext.aO D12).trans E11),fun w15 D15=> ?_⟩
  have E15:=E11'.drawn D15
  have l5:=h5.le (hq.ld lq)
  refine aS.mono (pY (hx'.ext E15) (h5.ext (Ext.aO D15)) (by unfold Sn;omega)) ?_
  rintro _ w14 ⟨A6,n6,c6,rfl,hF6⟩
  have E14:=E15.trans hF6.ext
  refine⟨A6,n6,c6,rfl,fun w18 D18=> ?_⟩
  have E18:=E14.drawn D18
  have l4:=hF.nr.le ((hq.ln lq).mul (hr.ld lr))
  refine aS.mono (aFc (hF.nr.ext (((Ext.aO D12).trans E11).trans ((Ext.aO D15).trans (hF6.ext.drawn D18)))) (hF6.nr.ext (Ext.aO D18)) (by unfold Sn;omega)) ?_
  rintro _ w17 ⟨rfl,D17⟩
  refine⟨_,rfl,fun w20 D20=> ?_⟩
  have E20:=(E18.drawn D17).drawn D20
  have hc:=aKc hq hr he
  have hcn: -1<=xQ (x*y') (x'*y)/\xQ (x*y') (x'*y)<=1:=by
   unfold xQ
   split
   ·omega
   ·split<;>omega
  refine⟨s,(hs.ext E20).cell (i:=0) rfl,fun h=>⟨E20,?_⟩,fun h=>⟨E20,?_⟩⟩
  ·rw[hc,h,if_pos rfl,wrap_i64 (by omega) (by omega)];omega
  ·rw[hc,h];rfl
theorem aHb (h0: -9223372036854775808<i) (h1:i<=9223372036854775807):Calls P F.Oj #[.int .i64 i,.int .i64 1] w (aS fun v w'=>∃o,v= .pointer (some o)/\Ext w w'/\dX w' o (mkRat i 1)/\w.heap.size<=o.block):=by
 refine aS.mono (aB7 i 1 (fun v w'=>∃o,v=some o/\Ext w w'/\dX w' o (mkRat i 1)/\w.heap.size<=o.block) w ?_) (by rintro _ w' ⟨v,rfl,o,rfl,h⟩;exact⟨o,rfl,h⟩)
 refine aS.mono (aCf h0 h1) ?_
 rintro _ w1 ⟨p1,rfl,E1,i1,_⟩
 refine⟨_,rfl,aS.mono (aCf (by omega) (by omega)) ?_⟩
 rintro _ w2 ⟨p2,rfl,E2,i2,_⟩
 have E:=E1.trans E2
 obtain⟨s,A,n,c,x,hs,hx,e,h3⟩:=i1.ext E2
 obtain⟨t,B,m,d,y,ht,hy,e2,h4⟩:=i2
 have hy1:t=false/\y=1:=by
  cases t
  ·exact⟨rfl,by rw[aAl] at e2;omega⟩
  ·rw[aBj] at e2;omega
 obtain⟨rfl,rfl⟩:=hy1
 refine⟨_,rfl,p1,rfl,s,hs.cell (i:=0) rfl,p2,rfl,false,ht.cell (i:=0) rfl,p1,rfl,A,n,c,hs.cell (i:=1) rfl,p2,rfl,B,m,d,ht.cell (i:=1) rfl,fun w9 D9 o w3 hN w5 D5=> ?_⟩
 obtain⟨k,kb⟩:=Sd.new hN rfl
 have E5:=((Ext.aO D9).trans (Ext.bI hN)).drawn D5
 have lx:Lb x 3:=by
  have:x<BB^3:=by
   have:(BB^3:Nat)=1000000000000000000000000000:=rfl
   rw[this]
   have:=La s x
   rw[<-e] at this
   omega
  exact this
 have ln:=hx.le lx
 have lm:=hy.le Lb.one
 refine aS.mono (aDp (s:=decide (s≠false)) ⟨_,_,_,k.ext (Ext.aO D5)⟩ (hx.ext E5) (hy.ext E5) (by decide) (by unfold Sh;omega) (by unfold Sh;omega)) ?_
 rintro _ w4 ⟨rfl,k4,hR⟩
 refine⟨_,rfl,fun w7 D7=>⟨o,rfl,(k4.bI (E.trans E5) (by rw[kb];exact Nat.le_trans E.size (Ext.aO D9).size)).drawn D7,?_,by rw[kb];exact Nat.le_trans E.size (Ext.aO D9).size⟩⟩
 have es:decide (s≠false)=s:=by cases s<;>rfl
 rw[es,<-e] at hR
 exact hR.ext (Ext.aO D7)
end
def uZ (K:Bool->World->Prop) (b2:Bool) (w2:World):Prop:=
 K b2 w2
def Ii (s1:ByteArray) (K:Bool->World->Prop) (w:World):Prop:=
 (s1≠.empty->(Calls P F.yZ #[.string s1,.string ⟨#[48,49,50,51,52,53,54,55,56,57]⟩] w (aS fun v1 w1=>∃s2:ByteArray,v1=(.string s2)/\(uZ K) (decide (s2= .empty)) w1)))/\(¬(s1≠.empty)->((uZ K) false w))
theorem aBf (s1:ByteArray) (K:Bool->World->Prop) (w:World) (H:Ii s1 K w):Calls P F.Du #[.string s1] w (aS fun v w'=>∃b1,v=(.bool b1)/\K b1 w'):=by
 unfold Ii at H;refine aY (P:=P) Tryz.func234 rfl [(0,.string s1)] 10 rfl rfl (fun p hp=>by rcases List.mem_singleton.1 hp with rfl;rfl) (aB (aA (ag rfl (aC (nc (kp 0 rfl zz) ?_)))));refine dI (fun a w=>∃b2,Ok 10 [(2,.bool b2)] a/\uZ K b2 w) ?_ ?_
 ·rintro a w2 ⟨b2,ha,H⟩;unfold uZ at H;refine cu ha ?_;exact aW (aG (res1 rfl rfl) ⟨_,rfl,_,rfl,H⟩)
 ·refine aA (mv rfl (bo rfl rfl rW ?_));rcases Classical.em (s1≠.empty) with hb|hb
  ·replace H:=H.1 hb;refine sv rfl rfl (xt rfl hb) (Kw rfl rfl rfl (uU rfl rfl (cZ rfl rfl rfl) (xc rfl rfl FF.uM) H ?_));rintro _ w1 ⟨s2,rfl,H⟩;exact Uu rfl rfl rfl rfl Bq (pt rfl rfl (ag rfl (aC (aT fun a ha=>⟨(decide (s2= .empty)),ha.weaken cs,H⟩))))
  ·replace H:=H.2 hb;exact sv rfl rfl (xf rfl hb) (sk rfl rfl rfl rfl (sk rfl rfl rfl rfl (sk rfl rfl rfl rfl (pf rfl rfl (ag rfl (aC (aT fun a ha=>⟨false,ha.weaken cs,H⟩)))))))
def zY (K:ByteArray->World->Prop) (w3:World) (s8:ByteArray):Prop:=
 K s8 w3
def vU (s1:ByteArray) (K:ByteArray->World->Prop) (s7:ByteArray) (w3:World):Prop:=
 0<=(0:Int)/\(0:Int)<(s1.size:Int)/\((byteAt s1 0)=45->((⟨#[45]⟩:ByteArray).size+s7.size<=9223372036854775807/\(zY K w3) ((⟨#[45]⟩:ByteArray)++s7)))/\(¬((byteAt s1 0)=45)->((zY K w3) s7))
def aAa (s1:ByteArray) (s2:ByteArray) (s3:ByteArray) (b1:Bool) (K:ByteArray->World->Prop) (w:World):Prop:=
 Calls P F.Jb #[.string s2] w (aS fun v1 w1=>∃s5:ByteArray,v1=(.string s5)/\(b1=true->(Calls P F.Jb #[.string s3] w1 (aS fun v2 w2=>∃s6:ByteArray,v2=(.string s6)/\(⟨#[47]⟩:ByteArray).size+s6.size<=9223372036854775807/\s5.size+((⟨#[47]⟩:ByteArray)++s6).size<=9223372036854775807/\(vU s1 K) (s5++((⟨#[47]⟩:ByteArray)++s6)) w2)))/\(b1=false->((vU s1 K) s5 w1)))
theorem aEa (s1:ByteArray) (s2:ByteArray) (s3:ByteArray) (b1:Bool) (K:ByteArray->World->Prop) (w:World) (H:aAa s1 s2 s3 b1 K w):Calls P F.Yc #[.string s1,.string s2,.string s3,.bool b1] w (aS fun v w'=>∃s4:ByteArray,v=(.string s4)/\K s4 w'):=by
 unfold aAa at H;refine aY (P:=P) Tryz.func236 rfl [(0,.string s1),(1,.string s2),(2,.string s3),(3,.bool b1)] 27 rfl rfl (aa rfl (aa rfl (aa rfl (aa rfl az)))) (aB (aA (ag rfl (aC (nc (y4 0 1 2 3 rfl) (aB (aA (ag rfl (aC (nc (y5 0 1 2 3 9 rfl) (aB (aA (mv rfl (mv rfl (sc rfl rfl FF.Gu H ?_)))))))))))))));rintro _ w1 ⟨s5,rfl,H⟩;refine ag rfl (aC (nc (y5 0 2 3 9 10 rfl) ?_));refine dI (fun a w=>∃s7:ByteArray,Ok 27 [(0,.string s1),(10,.string s7)] a/\vU s1 K s7 w) ?_ ?_
 ·rintro a w3 ⟨s7,ha,H⟩;unfold vU at H;refine cu ha ?_;refine bK (fun a=>∃s8:ByteArray,Ok 27 [(10,.string s8)] a/\zY K w3 s8) ?_ ?_
  ·rintro a ⟨s8,ha,H⟩;unfold zY at H;refine cu ha ?_;exact aB (aA (mv rfl (ag rfl (aC (nc (kp 8 rfl zz) (aW (aG (res1 rfl rfl) ⟨_,rfl,_,rfl,H⟩)))))))
  ·refine aB (aA (mv rfl ?_));obtain⟨h4,h5,H⟩:=H;refine sv rfl rfl (fun a ha=>Om (ha.ev rfl) (ha.ev rfl) (Xe TF.dQ h4 h5)) (bo rfl rfl nN (aC (nc (y2 10 23 rfl) ?_)));refine aK rfl (fun hb=> ?_) (fun hb=> ?_)
   ·replace H:=H.1 hb;refine aA (mv rfl ?_);obtain⟨h6,H⟩:=H;exact bo rfl rfl (wH h6) (ag rfl (aC (aT fun a ha=>⟨⟨(⟨#[45]⟩:ByteArray)++s7,ha.weaken cs,H⟩,rfl⟩)))
   ·replace H:=H.2 hb;exact aN (aT fun a ha=>⟨⟨s7,ha.weaken cs,H⟩,rfl⟩)
 ·refine aB (aA (mv rfl (aC (nc (y5 0 2 9 10 14 rfl) ?_))));refine dG rfl (fun hb=> ?_) (fun hb=> ?_)
  ·replace H:=H.1 hb;refine aA (mv rfl (mv rfl (mv rfl (sc rfl rfl FF.Gu H ?_))));rintro _ w2 ⟨s6,rfl,H⟩;obtain⟨h1,H⟩:=H;refine bo rfl rfl (wH h1) ?_;obtain⟨h2,H⟩:=H;exact bo rfl rfl (wH h2) (ag rfl (aC (aT fun a ha=>⟨s5++((⟨#[47]⟩:ByteArray)++s6),ha.weaken cs,H⟩)))
  ·replace H:=H.2 hb;exact aN (aT fun a ha=>⟨s5,ha.weaken cs,H⟩)
def Wv (s1:ByteArray) (K:ByteArray->World->Prop) (w:World):Prop:=
 Calls P F.rX #[.string s1,.string ⟨#[48]⟩] w (aS fun v1 w1=>∃s3:ByteArray,v1=(.string s3)/\(s3= .empty->(K ⟨#[48]⟩ w1))/\(¬(s3= .empty)->(K s3 w1)))
theorem aB4 (s1:ByteArray) (K:ByteArray->World->Prop) (w:World) (H:Wv s1 K w):Calls P F.Jb #[.string s1] w (aS fun v w'=>∃s2:ByteArray,v=(.string s2)/\K s2 w'):=by
 unfold Wv at H;refine aY (P:=P) Tryz.func256 rfl [(0,.string s1)] 8 rfl rfl (fun p hp=>by rcases List.mem_singleton.1 hp with rfl;rfl) (aB (aA (ag rfl (aC (nc (kp 0 rfl zz) (aB (aB (aA (mv rfl (sc rfl rfl FF.oV H ?_))))))))));rintro _ w1 ⟨s3,rfl,H⟩;refine ag rfl (aC (nc (kp 0 rfl zz) (aB (aA (mv rfl (bo rfl rfl Bq (aC (nc (y2 0 6 rfl) ?_))))))));refine aK rfl (fun hb=> ?_) (fun hb=> ?_)
 ·replace H:=H.1 hb;exact aB (aA (ag rfl (aC (nc (kp 2 rfl zz) (aW (aI (aG (res1 rfl rfl) ⟨_,rfl,_,rfl,H⟩)))))))
 ·replace H:=H.2 hb;exact aN (nc (kp 0 rfl zz) (aB (aA (mv rfl (ag rfl (aC (nc (kp 2 rfl zz) (aW (aG (res1 rfl rfl) ⟨_,rfl,_,rfl,H⟩)))))))))
def pF (K:ByteArray->Int->World->Prop) (s1:ByteArray) (s4:ByteArray) (s5:ByteArray) (b1:Bool) (b5:Bool) (w7:World):Prop:=
 (b5=true->(K .empty 2 w7))/\(b5=false->(∀(p1:Addr) (w8:World),New w7 (.cells #[.bool false,.slice none 0 0,.slice none 0 0] T.lF) p1 w8->(Calls P F.Yc #[.string s1,.string s4,.string s5,.bool b1] w8 (aS fun v6 w9=>∃s7:ByteArray,v6=(.string s7)/\Calls P F.pV #[.pointer (some p1),.string s7] w9 (aS fun v7 w10=>∃q1,∃b6,v7=(.tuple #[.pointer q1,.bool b6])/\((!b6)=true->(K .empty 1 w10))/\((!b6)=false->(Calls P F.pJ #[.pointer q1] w10 (aS fun v8 w11=>∃s8:ByteArray,v8=(.string s8)/\K s8 0 w11))))))))
def oZ (K:ByteArray->Int->World->Prop) (b1:Bool) (s5:ByteArray) (s1:ByteArray) (s4:ByteArray) (b3:Bool) (w4:World):Prop:=
 (b3=true->(K .empty 1 w4))/\(b3=false->((b1=true->(Calls P F.yZ #[.string s5,.string ⟨#[48]⟩] w4 (aS fun v5 w6=>∃s6:ByteArray,v5=(.string s6)/\(pF K s1 s4 s5 b1) (decide (s6= .empty)) w6)))/\(b1=false->((pF K s1 s4 s5 b1) false w4))))
def Yq (s1:ByteArray) (K:ByteArray->Int->World->Prop) (w:World):Prop:=
 Calls P F.strings_TrimPrefix #[.string s1,.string ⟨#[45]⟩] w (aS fun v1 w1=>∃s3:ByteArray,v1=(.string s3)/\Calls P F.strings_Cut #[.string s3,.string ⟨#[47]⟩] w1 (aS fun v2 w2=>∃s4:ByteArray,∃s5:ByteArray,∃b1,v2=(.tuple #[.string s4,.string s5,.bool b1])/\Calls P F.Du #[.string s4] w2 (aS fun v3 w3=>∃b2,v3=(.bool b2)/\((!b2)=true->((oZ K b1 s5 s1 s4) true w3))/\((!b2)=false->((b1=true->(Calls P F.Du #[.string s5] w3 (aS fun v4 w5=>∃b4,v4=(.bool b4)/\(oZ K b1 s5 s1 s4) (!b4) w5)))/\(b1=false->((oZ K b1 s5 s1 s4) false w3)))))))
theorem aDu (s1:ByteArray) (K:ByteArray->Int->World->Prop) (w:World) (H:Yq s1 K w):Calls P F.Ux #[.string s1] w (aS fun v w'=>∃s2:ByteArray,∃x1,v=(.tuple #[.string s2,.int .i64 x1])/\K s2 x1 w'):=by
 unfold Yq at H;refine aY (P:=P) Tryz.func203 rfl [(0,.string s1)] 47 rfl rfl (fun p hp=>by rcases List.mem_singleton.1 hp with rfl;rfl) (aB (aA (ag rfl (ag rfl (aC (nc (kp 0 rfl zz) (aB (aA (mv rfl (sc rfl rfl FF.vH H ?_))))))))));rintro _ w1 ⟨s3,rfl,H⟩;refine sc rfl rfl FF.Ej H ?_;rintro _ w2 ⟨s4,s5,b1,rfl,H⟩;refine mv rfl (sv rfl rfl (xe rfl rfl) (sv rfl rfl (xe rfl rfl) (sv rfl rfl (xe rfl rfl) (ag rfl (ag rfl (ag rfl (aC (nc (y4 0 4 5 6 rfl) (aB ?_)))))))));refine dI (fun a w=>∃b3,Ok 47 [(0,.string s1),(4,.string s4),(5,.string s5),(6,.bool b1),(26,.bool b3)] a/\oZ K b1 s5 s1 s4 b3 w) ?_ ?_
 ·rintro a w4 ⟨b3,ha,H⟩;unfold oZ at H;refine cu ha ?_;refine dG rfl (fun hb=> ?_) (fun hb=> ?_)
  ·replace H:=H.1 hb;exact aB (aA (ag rfl (ag rfl (aC (nc (y2 2 3 rfl) (aW (aI (aG (wF rfl rfl rfl) ⟨_,rfl,_,_,rfl,H⟩))))))))
  ·replace H:=H.2 hb;refine aN (nc (y4 0 4 5 6 rfl) (aB ?_));refine dI (fun a w=>∃b5,Ok 47 [(0,.string s1),(4,.string s4),(5,.string s5),(6,.bool b1),(32,.bool b5)] a/\pF K s1 s4 s5 b1 b5 w) ?_ ?_
   ·rintro a w7 ⟨b5,ha,H⟩;unfold pF at H;refine cu ha ?_;refine dG rfl (fun hb=> ?_) (fun hb=> ?_)
    ·replace H:=H.1 hb;exact aB (aA (ag rfl (ag rfl (aC (nc (y2 2 3 rfl) (aW (aI (aG (wF rfl rfl rfl) ⟨_,rfl,_,_,rfl,H⟩))))))))
    ·replace H:=H.2 hb;refine aN (nc (y4 0 4 5 6 rfl) (aB (aA (fM (f:=(fun p=> .pointer (some p))) rfl rfl (aF rfl) (fun a ha=>dR (dV TF.mX)) ?_))));intro p1 w8 hN;replace H:=H _ _ hN;refine mv rfl (mv rfl (mv rfl (mv rfl (sc rfl rfl FF.Ym H ?_))));rintro _ w9 ⟨s7,rfl,H⟩;refine sc rfl rfl FF.vW H ?_;rintro _ w10 ⟨q1,b6,rfl,H⟩;refine mv rfl (sv rfl rfl (xe rfl rfl) (sv rfl rfl (xe rfl rfl) (ag rfl (ag rfl (aC (nc (y2 7 8 rfl) (aB (aB (aA (mv rfl (sv rfl rfl (xu rfl Gg) (aC (nc (y2 7 44 rfl) ?_)))))))))))));refine dG rfl (fun hb=> ?_) (fun hb=> ?_)
     ·replace H:=H.1 hb;exact aB (aA (ag rfl (ag rfl (aC (nc (y2 2 3 rfl) (aW (aI (aG (wF rfl rfl rfl) ⟨_,rfl,_,_,rfl,H⟩))))))))
     ·replace H:=H.2 hb;refine aN (nc (kp 7 rfl zz) (aB (aA (mv rfl (sc rfl rfl FF.vV H ?_)))));rintro _ w11 ⟨s8,rfl,H⟩;exact ag rfl (ag rfl (aC (nc (y2 2 3 rfl) (aW (aG (wF rfl rfl rfl) ⟨_,rfl,_,_,rfl,H⟩)))))
   ·refine aA (mv rfl ?_);rcases tf b1 with hb|hb
    ·replace H:=H.1 hb;refine sv rfl rfl (fun a ha=>Ya (eU (ha.ev rfl)) hb) (Kw rfl rfl rfl (uU rfl rfl (cZ rfl rfl rfl) (xc rfl rfl FF.uM) H ?_));rintro _ w6 ⟨s6,rfl,H⟩;exact Uu rfl rfl rfl rfl Bq (pt rfl rfl (aC (aT fun a ha=>⟨(decide (s6= .empty)),ha.weaken cs,H⟩)))
    ·replace H:=H.2 hb;exact sv rfl rfl (fun a ha=>Xq (eU (ha.ev rfl)) hb) (sk rfl rfl rfl rfl (sk rfl rfl rfl rfl (sk rfl rfl rfl rfl (pf rfl rfl (aC (aT fun a ha=>⟨false,ha.weaken cs,H⟩))))))
 ·refine aA (mv rfl (sc rfl rfl FF.En H ?_));rintro _ w3 ⟨b2,rfl,H⟩;refine sv rfl rfl (xu rfl Gg) ?_;rcases tf (!b2) with hb|hb
  ·replace H:=H.1 hb;exact sv rfl rfl (fun a ha=>Ya (eU (ha.ev rfl)) hb) (sk rfl rfl rfl rfl (sk rfl rfl rfl rfl (Dj rfl rfl (mW rfl rfl rfl) (Dj rfl rfl (mW rfl rfl rfl) (Dj rfl rfl (mW rfl rfl rfl) (sk rfl rfl rfl rfl (pt rfl rfl (aC (aT fun a ha=>⟨true,ha.weaken cs,H⟩)))))))))
  ·replace H:=H.2 hb;refine sv rfl rfl (fun a ha=>Xq (eU (ha.ev rfl)) hb) (Kw rfl rfl rfl ?_);rcases tf b1 with hb|hb
   ·replace H:=H.1 hb;refine svg rfl rfl rfl rfl (fun a ha=>Ya (eU (ha.ev rfl)) hb) (Kw rfl rfl rfl (uU rfl rfl (cZ rfl rfl rfl) (xc rfl rfl FF.En) H ?_));rintro _ w5 ⟨b4,rfl,H⟩;exact svg rfl rfl rfl rfl (xu rfl Gg) (ptg rfl rfl rfl rfl (pf rfl rfl (aC (aT fun a ha=>⟨(!b4),ha.weaken cs,H⟩))))
   ·replace H:=H.2 hb;exact svg rfl rfl rfl rfl (fun a ha=>Xq (eU (ha.ev rfl)) hb) (sk rfl rfl rfl rfl (sk rfl rfl rfl rfl (sk rfl rfl rfl rfl (pfg rfl rfl rfl rfl (pf rfl rfl (aC (aT fun a ha=>⟨false,ha.weaken cs,H⟩)))))))
def qY (K:Bool->World->Prop) (w1:World) (b2:Bool):Prop:=
 K b2 w1
def Np (s1:ByteArray) (K:Bool->World->Prop) (w:World):Prop:=
 Calls P F.Ux #[.string s1] w (aS fun v1 w1=>∃s2:ByteArray,∃x1,v1=(.tuple #[.string s2,.int .i64 x1])/\(x1=0->((qY K w1) (decide (s2=s1))))/\(¬(x1=0)->((qY K w1) false)))
theorem Zc (s1:ByteArray) (K:Bool->World->Prop) (w:World) (H:Np s1 K w):Calls P F.Cm #[.string s1] w (aS fun v w'=>∃b1,v=(.bool b1)/\K b1 w'):=by
 unfold Np at H;refine aY (P:=P) Tryz.func162 rfl [(0,.string s1)] 17 rfl rfl (fun p hp=>by rcases List.mem_singleton.1 hp with rfl;rfl) (aB (aA (ag rfl (aC (nc (kp 0 rfl zz) (aB (aA (mv rfl (sc rfl rfl FF.Xf H ?_)))))))));rintro _ w1 ⟨s2,x1,rfl,H⟩;refine mv rfl (sv rfl rfl (xe rfl rfl) (sv rfl rfl (xe rfl rfl) (ag rfl (ag rfl (aC (nc (y3 0 3 4 rfl) ?_))))));refine bK (fun a=>∃b2,Ok 17 [(2,.bool b2)] a/\qY K w1 b2) ?_ ?_
 ·rintro a ⟨b2,ha,H⟩;unfold qY at H;refine cu ha ?_;exact aW (aG (res1 rfl rfl) ⟨_,rfl,_,rfl,H⟩)
 ·refine aA (mv rfl (bo rfl rfl nN ?_));rcases Classical.em (x1=0) with hb|hb
  ·replace H:=H.1 hb;exact sv rfl rfl (xt rfl hb) (Kw rfl rfl rfl (Kw rfl rfl rfl (Uu rfl rfl rfl rfl Bq (pt rfl rfl (ag rfl (aC (aT fun a ha=>⟨⟨(decide (s2=s1)),ha.weaken cs,H⟩,rfl⟩)))))))
  ·replace H:=H.2 hb;exact sv rfl rfl (xf rfl hb) (sk rfl rfl rfl rfl (sk rfl rfl rfl rfl (sk rfl rfl rfl rfl (pf rfl rfl (ag rfl (aC (aT fun a ha=>⟨⟨false,ha.weaken cs,H⟩,rfl⟩)))))))
def aBv (s1:ByteArray) (K:Option Addr->World->Prop) (w:World):Prop:=
 ∀(p1:Addr) (w1:World),New w (.cells #[.bool false,.slice none 0 0,.slice none 0 0] T.lF) p1 w1->(Calls P F.pV #[.pointer (some p1),.string s1] w1 (aS fun v1 w2=>∃q2,∃b1,v1=(.tuple #[.pointer q2,.bool b1])/\((!b1)=true->(∀(p2:Addr) (w3:World),New w2 (.cells #[.bool false,.slice none 0 0,.slice none 0 0] T.lF) p2 w3->(K (some p2) w3)))/\((!b1)=false->(K q2 w2))))
theorem aFs (s1:ByteArray) (K:Option Addr->World->Prop) (w:World) (H:aBv s1 K w):Calls P F.Xu #[.string s1] w (aS fun v w'=>∃q1,v=(.pointer q1)/\K q1 w'):=by
 unfold aBv at H;refine aY (P:=P) Tryz.func105 rfl [(0,.string s1)] 15 rfl rfl (fun p hp=>by rcases List.mem_singleton.1 hp with rfl;rfl) (aB (aA (ag rfl (aC (nc (kp 0 rfl zz) (aB (aA (fM (f:=(fun p=> .pointer (some p))) rfl rfl (aF rfl) (fun a ha=>dR (dV TF.mX)) ?_))))))));intro p1 w1 hN;replace H:=H _ _ hN;refine mv rfl (sc rfl rfl FF.vW H ?_);rintro _ w2 ⟨q2,b1,rfl,H⟩;refine mv rfl (sv rfl rfl (xe rfl rfl) (sv rfl rfl (xe rfl rfl) (ag rfl (ag rfl (aC (nc (y2 3 4 rfl) (aB (aB (aA (mv rfl (sv rfl rfl (xu rfl Gg) (aC (nc (y2 3 12 rfl) ?_)))))))))))));refine dG rfl (fun hb=> ?_) (fun hb=> ?_)
 ·replace H:=H.1 hb;refine aB (aA (fM (f:=(fun p=> .pointer (some p))) rfl rfl (aF rfl) (fun a ha=>dR (dV TF.mX)) ?_));intro p2 w3 hN;replace H:=H _ _ hN;exact ag rfl (aC (nc (kp 2 rfl zz) (aW (aI (aG (res1 rfl rfl) ⟨_,rfl,_,rfl,H⟩)))))
 ·replace H:=H.2 hb;exact aN (nc (kp 3 rfl zz) (aB (aA (mv rfl (ag rfl (aC (nc (kp 2 rfl zz) (aW (aG (res1 rfl rfl) ⟨_,rfl,_,rfl,H⟩)))))))))
def aAy (K:Option Addr->World->Prop) (w:World):Prop:=
 Calls P F.Oj #[.int .i64 1,.int .i64 1] w (aS fun v1 w1=>∃q2,v1=(.pointer q2)/\K q2 w1)
theorem aFq (K:Option Addr->World->Prop) (w:World) (H:aAy K w):Calls P F.aAp #[] w (aS fun v w'=>∃q1,v=(.pointer q1)/\K q1 w'):=by
 unfold aAy at H;refine aY (P:=P) Tryz.func79 rfl [] 2 rfl rfl (fun p hp=>by cases hp) (aB (aA (ag rfl (aC (nc zz (aB (aA (sc rfl rfl FF.Vp H ?_))))))));rintro _ w1 ⟨q2,rfl,H⟩;exact ag rfl (aC (nc (kp 0 rfl zz) (aW (aG (res1 rfl rfl) ⟨_,rfl,_,rfl,H⟩))))
def lN (k1:Nat) (I1:Nat->Int->World->Prop) (x1:Int) (w4:World):Prop:=
 ∃k2,k2<k1/\I1 k2 (IntKind.wrap .i64 (x1+1)) w4
def Ju (p1:Addr) (A1:Option Addr) (n1 c1:Nat) (K:Option Addr->World->Prop) (w:World):Prop:=
 ∃I1:Nat->Int->World->Prop,(∃k1,I1 k1 0 w)/\∀k1 (x1:Int) (w1:World),I1 k1 x1 w1->((x1<(n1:Int)->(0<=x1/\x1<(n1:Int)/\∃a1,A1=some a1/\∃s1:ByteArray,w1.cell? (a1.add (x1.toNat*1))=some (.string s1)/\Calls P F.Cm #[.string s1] w1 (aS fun v1 w2=>∃b1,v1=(.bool b1)/\((!b1)=true->((∃u1,w2.cell? (p1.add 0)=some u1)/\w2.frozen? (p1.add 0)=false/\∀w3,w3=w2.setCell (p1.add 0) (.bool true)->((lN k1 I1 x1) w3)))/\((!b1)=false->((lN k1 I1 x1) w2)))))/\(¬(x1<(n1:Int))->(K (some p1) w1)))
theorem Yt (p1:Addr) (A1:Option Addr) (n1 c1:Nat) (K:Option Addr->World->Prop) (w:World) (H:Ju p1 A1 n1 c1 K w):Calls P F.zL #[.pointer (some p1),.slice A1 n1 c1] w (aS fun v w'=>∃q1,v=(.pointer q1)/\K q1 w'):=by
 unfold Ju at H;refine aY (P:=P) Tryz.func96 rfl [(0,.pointer (some p1)),(1,.slice A1 n1 c1)] 21 rfl rfl (aa rfl (aa rfl az)) (aB (aA (ag rfl (aC (nc (y2 0 1 rfl) (aB (aB (aA (mv rfl (sv rfl rfl (xb rfl (fun _=>bD TF.Jr)) (mv rfl (aC (nc (y4 0 7 8 9 rfl) (aV ?_))))))))))))));obtain⟨I1,⟨k1,hi⟩,H⟩:=H;refine dM (fun k1 a w'=>∃x1,Ok 21 [(0,.pointer (some p1)),(7,.slice A1 n1 c1),(8,.int .i64 (n1:Int)),(9,.int .i64 x1)] a/\I1 k1 x1 w') (fun a ha=>⟨k1,0,ha.weaken cs,hi⟩) ?_;rintro k1 a w1 ⟨x1,ha,hI⟩;replace H:=H k1 x1 w1 hI;refine cu ha ?_;refine aB (aA (bo rfl rfl fO (aC (nc (y5 0 7 8 9 10 rfl) (aB ?_)))));refine aK rfl (fun hb=> ?_) (fun hb=> ?_)
 ·replace H:=H.1 hb;refine aN (nc (y4 0 7 8 9 rfl) ?_);refine dI (fun a w=>Ok 21 [(0,.pointer (some p1)),(7,.slice A1 n1 c1),(8,.int .i64 (n1:Int)),(9,.int .i64 x1)] a/\lN k1 I1 x1 w) ?_ ?_
  ·rintro a w4 ⟨ha,H⟩;unfold lN at H;refine cu ha ?_;refine aA (bo rfl rfl dJ (mv rfl (aC ?_)));obtain⟨k2,hk,H⟩:=H;exact aT fun a ha=>⟨k2,hk,IntKind.wrap .i64 (x1+1),ha.weaken cs,H⟩
  ·refine aV (aB (aA ?_));obtain⟨h1,h2,a1,e1,H⟩:=H;refine ix rfl rfl (bG TF.wB TF.size_string e1 h1 h2) ?_;obtain⟨s1,h3,H⟩:=H;refine ld rfl (aJ TF.dN h3) (ag rfl (aC (nc (y5 0 6 7 8 9 rfl) (aB (aA (mv rfl (sc rfl rfl FF.Oy H ?_)))))));rintro _ w2 ⟨b1,rfl,H⟩;refine sv rfl rfl (xu rfl Gg) (aC (nc (y5 0 7 8 9 15 rfl) ?_));refine dG rfl (fun hb=> ?_) (fun hb=> ?_)
   ·replace H:=H.1 hb;refine aA (mv rfl (nk rfl (fa rfl (TF.Qh _ _) ?_)));obtain⟨⟨u1,h4⟩,h5,H⟩:=H;refine gX rfl (aF rfl) (xs rfl rfl (fE TF.size_bool rfl rfl h4 h5)) ?_;intro w3 hw;replace H:=H _ hw;clear hw;exact aC (bQ (aT fun a ha=>⟨ha.weaken cs,H⟩))
   ·replace H:=H.2 hb;exact aN (bQ (aT fun a ha=>⟨ha.weaken cs,H⟩))
 ·replace H:=H.2 hb;exact bW (aH (aH (aZ (nc (kp 0 rfl zz) (aB (aA (mv rfl (ag rfl (aC (nc (kp 4 rfl zz) (aW (aG (res1 rfl rfl) ⟨_,rfl,_,rfl,H⟩))))))))))))
def Fq (p1:Addr) (A1:Option Addr) (n1 c1:Nat) (K:Option Addr->World->Prop) (w:World):Prop:=
 ∃I1:Nat->Int->World->Prop,(∃k1,I1 k1 0 w)/\∀k1 (x1:Int) (w1:World),I1 k1 x1 w1->((x1<(n1:Int)->(0<=x1/\x1<(n1:Int)/\∃a1,A1=some a1/\∃s1:ByteArray,∃s2:ByteArray,bC w1 (a1.add (x1.toNat*2)) [.string s1,.string s2]/\∀(p2:Addr) (w2:World),New w1 (.cells #[.string .empty,.string .empty] T.gK) p2 w2->(jR w2 p2 2/\∀w3,w3=aX w2 p2 [.string s1,.string s2]->(∃s3:ByteArray,w3.cell? (p2.add 0)=some (.string s3)/\∃s4:ByteArray,w3.cell? (p2.add 1)=some (.string s4)/\∀(p3:Addr) (w4:World),New w3 (.cells #[.string s3,.string s4] T.string) p3 w4->(Calls P F.zL #[.pointer (some p1),.slice (some p3) 2 2] w4 (aS fun v1 w5=>∃q2,v1=(.pointer q2)/\∃k2,k2<k1/\I1 k2 (IntKind.wrap .i64 (x1+1)) w5))))))/\(¬(x1<(n1:Int))->(K (some p1) w1)))
theorem Vw (p1:Addr) (A1:Option Addr) (n1 c1:Nat) (K:Option Addr->World->Prop) (w:World) (H:Fq p1 A1 n1 c1 K w):Calls P F.wQ #[.pointer (some p1),.slice A1 n1 c1] w (aS fun v w'=>∃q1,v=(.pointer q1)/\K q1 w'):=by
 unfold Fq at H;refine aY (P:=P) Tryz.func77 rfl [(0,.pointer (some p1)),(1,.slice A1 n1 c1)] 22 rfl rfl (aa rfl (aa rfl az)) (aB (aA (ag rfl (aC (nc (y2 0 1 rfl) (aB (aB (aA (mv rfl (sv rfl rfl (xb rfl (fun _=>bD TF.Eu)) (mv rfl (aC (nc (y4 0 7 8 9 rfl) (aV ?_))))))))))))));obtain⟨I1,⟨k1,hi⟩,H⟩:=H;refine dM (fun k1 a w'=>∃x1,Ok 22 [(0,.pointer (some p1)),(7,.slice A1 n1 c1),(8,.int .i64 (n1:Int)),(9,.int .i64 x1)] a/\I1 k1 x1 w') (fun a ha=>⟨k1,0,ha.weaken cs,hi⟩) ?_;rintro k1 a w1 ⟨x1,ha,hI⟩;replace H:=H k1 x1 w1 hI;refine cu ha ?_;refine aB (aA (bo rfl rfl fO (aC (nc (y5 0 7 8 9 10 rfl) (aB ?_)))));refine aK rfl (fun hb=> ?_) (fun hb=> ?_)
 ·replace H:=H.1 hb;refine aN (nc (y4 0 7 8 9 rfl) (aB (aV (aB (aA ?_)))));obtain⟨h1,h2,a1,e1,H⟩:=H;refine ix rfl rfl (bG TF.pX TF.bZ e1 h1 h2) ?_;obtain⟨s1,s2,h3,H⟩:=H;refine ld rfl (gG (vs:=[.string s1,.string s2]) TF.fK TF.bZ h3) (fM (f:=(fun p=> .pointer (some p))) rfl rfl (aF rfl) (fun a ha=>dR (dV TF.Ie)) ?_);intro p2 w2 hN;obtain⟨h5,H⟩:=H _ _ hN;refine gX rfl (aF rfl) (xs rfl rfl (cO TF.bZ (by simp[Value.oneCell']) h5)) ?_;intro w3 hw;replace H:=H _ hw;clear hw;refine aC (nc (y5 0 6 7 8 9 rfl) (aA (mv rfl (fa rfl (TF.iF _ _) ?_))));obtain⟨s3,h6,H⟩:=H;refine ld rfl (aJ TF.dN h6) (fa rfl (TF.lW _ _) ?_);obtain⟨s4,h7,H⟩:=H;refine ld rfl (aJ TF.dN h7) (sz rfl rfl (xl 2 2 (.cells #[.string s3,.string s4] T.string) rfl) ?_);intro p3 w4 hN;replace H:=H _ _ hN;refine sc rfl rfl FF.Nz H ?_;rintro _ w5 ⟨q2,rfl,H⟩;refine aC (bQ (nc (y4 0 7 8 9 rfl) (aA (bo rfl rfl dJ (mv rfl (aC ?_))))));obtain⟨k2,hk,H⟩:=H;exact aT fun a ha=>⟨k2,hk,IntKind.wrap .i64 (x1+1),ha.weaken cs,H⟩
 ·replace H:=H.2 hb;exact bW (aH (aH (aZ (nc (kp 0 rfl zz) (aB (aA (mv rfl (ag rfl (aC (nc (kp 4 rfl zz) (aW (aG (res1 rfl rfl) ⟨_,rfl,_,rfl,H⟩))))))))))))
def Ib (p1:Addr) (K:Int->World->Prop) (w:World):Prop:=
 ∃b1,w.cell? (p1.add 0)=some (.bool b1)/\(b1=true->(K 1 w))/\(b1=false->(∃b2,w.cell? (p1.add 1)=some (.bool b2)/\(b2=true->(K 4 w))/\(b2=false->(∃b3,w.cell? (p1.add 2)=some (.bool b3)/\(b3=true->(K 6 w))/\(b3=false->(K 0 w))))))
theorem Wy (p1:Addr) (K:Int->World->Prop) (w:World) (H:Ib p1 K w):Calls P F.xY #[.pointer (some p1)] w (aS fun v w'=>∃x1,v=(.int .i64 x1)/\K x1 w'):=by
 unfold Ib at H;refine aY (P:=P) Tryz.func78 rfl [(0,.pointer (some p1))] 18 rfl rfl (fun p hp=>by rcases List.mem_singleton.1 hp with rfl;rfl) (aB (aA (ag rfl (aC (nc (kp 0 rfl zz) (aB (aV (aB (aA (mv rfl (nk rfl (fa rfl (TF.Qh _ _) ?_))))))))))));obtain⟨b1,h1,H⟩:=H;refine ld rfl (aJ TF.gU h1) (ag rfl (aC (nc (y2 0 3 rfl) ?_)));refine dG rfl (fun hb=> ?_) (fun hb=> ?_)
 ·replace H:=H.1 hb;exact aB (aA (ag rfl (aC (nc (kp 2 rfl zz) (aW (bF (aI (aG (res1 rfl rfl) ⟨_,rfl,_,rfl,H⟩))))))))
 ·replace H:=H.2 hb;refine aB (aA (mv rfl (nk rfl (fa rfl (TF.aAj _ _) ?_))));obtain⟨b2,h2,H⟩:=H;refine ld rfl (aJ TF.gU h2) (ag rfl (aC (nc (y2 0 8 rfl) ?_)));refine dG rfl (fun hb=> ?_) (fun hb=> ?_)
  ·replace H:=H.1 hb;exact aB (aA (ag rfl (aC (nc (kp 2 rfl zz) (aW (bF (aI (aG (res1 rfl rfl) ⟨_,rfl,_,rfl,H⟩))))))))
  ·replace H:=H.2 hb;refine aB (aA (mv rfl (nk rfl (fa rfl (TF.aAg _ _) ?_))));obtain⟨b3,h3,H⟩:=H;refine ld rfl (aJ TF.gU h3) (ag rfl (aC (nc (kp 13 rfl zz) ?_)));refine dG rfl (fun hb=> ?_) (fun hb=> ?_)
   ·replace H:=H.1 hb;exact aB (aA (ag rfl (aC (nc (kp 2 rfl zz) (aW (bF (aI (aG (res1 rfl rfl) ⟨_,rfl,_,rfl,H⟩))))))))
   ·replace H:=H.2 hb;exact aN (bQ (nc zz (aB (aA (ag rfl (aC (nc (kp 2 rfl zz) (aW (aG (res1 rfl rfl) ⟨_,rfl,_,rfl,H⟩)))))))))
def Po (p2:Addr) (K:Option Addr->Option Addr->World->Prop) (w11:World):Prop:=
 ∃q5,∃q6,bC w11 p2 [.pointer q5,.pointer q6]/\(K q5 q6 w11)
def aCr (s1:ByteArray) (s2:ByteArray) (K:Option Addr->Option Addr->World->Prop) (w:World):Prop:=
 ∀(p1:Addr) (w1:World),New w (.cells #[.string s1,.string s2] T.gK) p1 w1->(∀(p2:Addr) (w2:World),New w1 (.cells #[.pointer none,.pointer none] T.eH) p2 w2->(∃X1:Nat->Prop,∃s3:ByteArray,w2.cell? (p1.add 0)=some (.string s3)/\∃s4:ByteArray,w2.cell? (p1.add 1)=some (.string s4)/\¬X1 (p1.add 1).block/\∀w4,aP w2 w4->Calls P F.Xu #[.string s3] w4 (aS fun v1 w3=>∃q3,v1=(.pointer q3)/\Keep X1 w2 w3/\∀w7,aP w3 w7->Calls P F.Xu #[.string s4] w7 (aS fun v2 w6=>∃q4,v2=(.pointer q4)/\∀w12,aP w6 w12->jR w12 p2 2/\∀w9,w9=aX w12 p2 [.pointer q3,.pointer q4]->(∀w10,aP w9 w10->((Po p2 K) w10))))))
theorem aG4 (s1:ByteArray) (s2:ByteArray) (K:Option Addr->Option Addr->World->Prop) (w:World) (H:aCr s1 s2 K w):Calls P F.tH #[.agg #[.string s1,.string s2]] w (aS fun v w'=>∃q1,∃q2,v=(.agg #[.pointer q1,.pointer q2])/\K q1 q2 w'):=by
 unfold aCr at H;refine aY (P:=P) Tryz.func80 rfl [(0,.agg #[.string s1,.string s2])] 10 rfl rfl (fun p hp=>by rcases List.mem_singleton.1 hp with rfl;rfl) (aB (aA (fM (f:=(fun p=> .pointer (some p))) rfl rfl (aF rfl) (fun a ha=>tN (ha.ev rfl) uD) ?_)));intro p1 w1 hN;replace H:=H _ _ hN;refine fM (f:=(fun p=> .pointer (some p))) rfl rfl (aF rfl) (fun a ha=>dR (dV TF.dP)) ?_;intro p2 w2 hN;replace H:=H _ _ hN;refine aC (nc (y2 1 2 rfl) ?_);refine dI (fun a w=>Ok 10 [(2,.pointer (some p2))] a/\Po p2 K w) ?_ ?_
 ·rintro a w11 ⟨ha,H⟩;unfold Po at H;refine cu ha ?_;refine aW ?_;obtain⟨q5,q6,h10,H⟩:=H;exact aG (Me rfl (mG (vs:=[.pointer q5,.pointer q6]) rfl TF.Lh TF.bU h10)) ⟨_,rfl,_,_,rfl,H⟩
 ·obtain⟨X1,H⟩:=H;refine iI follows X1 [0,1,3,4,6] [4] 8 rfl rfl (by kernel_rfl) (fun _ _ d _ _ h=>by cases d<;>exact h) (fun cm W D=> ?_);refine Nw 0 cm rfl rfl (TF.iF _ _) D W fun _ D W=> ?_;obtain⟨s3,h3,H⟩:=H;refine aJc (E:=aP w2) (i:=1) cm (fun _ _=>aP.trans) rfl (by kernel_rfl) D rfl rfl (aF rfl) (fun w' hw a ha=>Ey (ha.ev rfl) (aJ TF.dN ((hw.cell _).trans h3))) rfl ?_;intro _ hd;replace D:=D.trans hd;replace W:=cm.held _ _ W hd;clear hd;refine Nw 3 cm rfl rfl (TF.lW _ _) D W fun _ D W=> ?_;obtain⟨s4,h4,hx',H⟩:=H;replace h4:=And.intro h4 hx';clear hx';refine vl 4 cm rfl rfl (fun hw=>(aJ TF.dN (hw.cell h4))) D W fun _ D W=>(ar 2 ?_);replace H:=H _ D;refine iZ rfl rfl rfl (aF rfl) (xc rfl rfl FF.Nu) rfl true (by kernel_rfl) H ?_;rintro _ w3 ⟨q3,rfl,H⟩ _ D;have W:=H.1.drawn D;replace H:=H.2;refine⟨fun _=>W,?_⟩;refine ar 5 ?_;replace H:=H _ D;refine iZ rfl rfl rfl (aF rfl) (xc rfl rfl FF.Nu) rfl false (by kernel_rfl) H ?_;rintro _ w6 ⟨q4,rfl,H⟩ _ D;refine⟨fun h=>(by cases h),?_⟩;refine Ji 6 cm rfl rfl rfl (fun w'=>xp (.agg #[.pointer q3,.pointer q4]) rfl) D fun _ D=>(ar 7 ?_);obtain⟨h9,H⟩:=H _ D;refine oM rfl rfl (aF rfl) (xs rfl rfl (cO TF.bU (by simp[Value.oneCell']) h9)) rfl false (by kernel_rfl) ?_;intro w9 hw _ D;replace H:=H _ hw;clear hw;refine⟨fun h=>(by cases h),?_⟩;refine dU (by kernel_rfl) D ?_;intro w10 D;replace H:=H _ D;clear D cm;exact aT fun a ha=>⟨ha.weaken cs,H⟩
def Lu (q1:Option Addr) (q2:Option Addr) (q3:Option Addr) (q4:Option Addr) (K:Int->World->Prop) (w:World):Prop:=
 ∀(p1:Addr) (w1:World),New w (.cells #[.pointer q1,.pointer q2] T.eH) p1 w1->(∀(p2:Addr) (w2:World),New w1 (.cells #[.pointer q3,.pointer q4] T.eH) p2 w2->(∃q5,w2.cell? (p1.add 0)=some (.pointer q5)/\∃q6,w2.cell? (p2.add 0)=some (.pointer q6)/\Calls P F.yM #[.pointer q5,.pointer q6] w2 (aS fun v1 w3=>∃x2,v1=(.int .i64 x2)/\(x2≠0->(K x2 w3))/\(¬(x2≠0)->(∃q7,w3.cell? (p1.add 1)=some (.pointer q7)/\∃q8,w3.cell? (p2.add 1)=some (.pointer q8)/\Calls P F.yM #[.pointer q7,.pointer q8] w3 (aS fun v2 w4=>∃x3,v2=(.int .i64 x3)/\K x3 w4))))))
theorem Yy (q1:Option Addr) (q2:Option Addr) (q3:Option Addr) (q4:Option Addr) (K:Int->World->Prop) (w:World) (H:Lu q1 q2 q3 q4 K w):Calls P F.Df #[.agg #[.pointer q1,.pointer q2],.agg #[.pointer q3,.pointer q4]] w (aS fun v w'=>∃x1,v=(.int .i64 x1)/\K x1 w'):=by
 unfold Lu at H;refine aY (P:=P) Tryz.func81 rfl [(0,.agg #[.pointer q1,.pointer q2]),(1,.agg #[.pointer q3,.pointer q4])] 19 rfl rfl (aa rfl (aa rfl az)) (aB (aA (fM (f:=(fun p=> .pointer (some p))) rfl rfl (aF rfl) (fun a ha=>tN (ha.ev rfl) uD) ?_)));intro p1 w1 hN;replace H:=H _ _ hN;refine fM (f:=(fun p=> .pointer (some p))) rfl rfl (aF rfl) (fun a ha=>tN (ha.ev rfl) uD) ?_;intro p2 w2 hN;replace H:=H _ _ hN;refine ag rfl (aC (nc (y2 2 3 rfl) (aB (aB (aA (fa rfl (TF.yA _ _) ?_))))));obtain⟨q5,h3,H⟩:=H;refine ld rfl (aJ TF.nO h3) (fa rfl (TF.yA _ _) ?_);obtain⟨q6,h4,H⟩:=H;refine ld rfl (aJ TF.nO h4) (sc rfl rfl FF.vX H ?_);rintro _ w3 ⟨x2,rfl,H⟩;refine ag rfl (aC (nc (y3 2 3 5 rfl) (aB (aA (mv rfl (bo rfl rfl zC (aC (nc (y4 2 3 5 12 rfl) ?_))))))));refine aK rfl (fun hb=> ?_) (fun hb=> ?_)
 ·replace H:=H.1 hb;exact aB (aA (mv rfl (ag rfl (aC (nc (kp 4 rfl zz) (aW (aI (aG (res1 rfl rfl) ⟨_,rfl,_,rfl,H⟩))))))))
 ·replace H:=H.2 hb;refine aN (nc (y2 2 3 rfl) (aB (aA (fa rfl (TF.yC _ _) ?_))));obtain⟨q7,h5,H⟩:=H;refine ld rfl (aJ TF.nO h5) (fa rfl (TF.yC _ _) ?_);obtain⟨q8,h6,H⟩:=H;refine ld rfl (aJ TF.nO h6) (sc rfl rfl FF.vX H ?_);rintro _ w4 ⟨x3,rfl,H⟩;exact ag rfl (aC (nc (kp 4 rfl zz) (aW (aG (res1 rfl rfl) ⟨_,rfl,_,rfl,H⟩))))
def vO (jc4:Option Addr->World->Prop) (q3:Option Addr) (q46:Option Addr) (q47:Option Addr) (b1:Bool) (w191:World):Prop:=
 (b1=true->(jc4 q3 w191))/\(b1=false->(Calls P F.Jy #[.pointer q46,.pointer q46,.pointer q47] w191 (aS fun v29 w194=>∃q53,v29=(.pointer q53)/\Calls P F.yM #[.pointer q53,.pointer q3] w194 (aS fun v30 w195=>∃x8,v30=(.int .i64 x8)/\(x8<0->(jc4 q53 w195))/\(¬(x8<0)->(jc4 q3 w195))))))
def nT (jc4:Option Addr->World->Prop) (q3:Option Addr) (q46:Option Addr) (q47:Option Addr) (w167:World):Prop:=
 Calls P F.mP #[.pointer q46] w167 (aS fun v27 w190=>∃x6,v27=(.int .i64 x6)/\(x6<=0->((vO jc4 q3 q46 q47) true w190))/\(¬(x6<=0)->(Calls P F.mP #[.pointer q47] w190 (aS fun v28 w192=>∃x7,v28=(.int .i64 x7)/\(vO jc4 q3 q46 q47) (decide (x7<=0)) w192))))
def fF (K:ByteArray->Int->World->Prop) (jc4:Option Addr->World->Prop) (q3:Option Addr) (p7:Addr) (p8:Addr) (w23:World):Prop:=
 ∃q36,∃q37,bC w23 p7 [.pointer q36,.pointer q37]/\∃q38,∃q39,bC w23 p8 [.pointer q38,.pointer q39]/\Calls P F.Df #[.agg #[.pointer q36,.pointer q37],.agg #[.pointer q38,.pointer q39]] w23 (aS fun v20 w157=>∃x5,v20=(.int .i64 x5)/\(0<x5->(K .empty 3 w157))/\(¬(0<x5)->(∃X2:Nat->Prop,∃q40,w157.cell? (p8.add 0)=some (.pointer q40)/\¬X2 (p8.add 0).block/\∃q41,w157.cell? (p7.add 0)=some (.pointer q41)/\¬X2 (p7.add 0).block/\∃q42,w157.cell? (p7.add 1)=some (.pointer q42)/\¬X2 (p7.add 1).block/\∃q43,w157.cell? (p8.add 1)=some (.pointer q43)/\¬X2 (p8.add 1).block/\(∀w178,aP w157 w178->∀(p25:Addr) (w158:World),New w178 (.cells #[.bool false,.slice none 0 0,.slice none 0 0] T.lF) p25 w158->((∀w160,aP w158 w160->Calls P F.nM #[.pointer (some p25),.pointer q40,.pointer q41] w160 (aS fun v21 w159=>∃q44,v21=(.pointer q44)/\Keep X2 w157 w159/\∀w168,aP w159 w168->∀(p26:Addr) (w162:World),New w168 (.cells #[.bool false,.slice none 0 0,.slice none 0 0] T.lF) p26 w162->(∀w164,aP w162 w164->Calls P F.nM #[.pointer (some p26),.pointer q42,.pointer q43] w164 (aS fun v22 w163=>∃q45,v22=(.pointer q45)/\∀w166,aP w163 w166->((nT jc4 q3) q44 q45 w166)))))/\(∀w177,aP w158 w177->∀(p27:Addr) (w169:World),New w177 (.cells #[.bool false,.slice none 0 0,.slice none 0 0] T.lF) p27 w169->(∀w171,aP w169 w171->Calls P F.nM #[.pointer (some p25),.pointer q40,.pointer q41] w171 (aS fun v23 w170=>∃q48,v23=(.pointer q48)/\Keep X2 w157 w170/\∀w174,aP w170 w174->Calls P F.nM #[.pointer (some p27),.pointer q42,.pointer q43] w174 (aS fun v24 w173=>∃q49,v24=(.pointer q49)/\∀w176,aP w173 w176->((nT jc4 q3) q48 q49 w176)))))))/\(∀w189,aP w157 w189->∀(p28:Addr) (w179:World),New w189 (.cells #[.bool false,.slice none 0 0,.slice none 0 0] T.lF) p28 w179->(∀w188,aP w179 w188->∀(p29:Addr) (w180:World),New w188 (.cells #[.bool false,.slice none 0 0,.slice none 0 0] T.lF) p29 w180->(∀w182,aP w180 w182->Calls P F.nM #[.pointer (some p29),.pointer q40,.pointer q41] w182 (aS fun v25 w181=>∃q50,v25=(.pointer q50)/\Keep X2 w157 w181/\∀w185,aP w181 w185->Calls P F.nM #[.pointer (some p28),.pointer q42,.pointer q43] w185 (aS fun v26 w184=>∃q51,v26=(.pointer q51)/\∀w187,aP w184 w187->((nT jc4 q3) q50 q51 w187)))))))))
def dZ (k3:Nat) (I2:Nat->Option Addr->Int->World->Prop) (x4:Int) (q52:Option Addr) (w193:World):Prop:=
 ∃k4,k4<k3/\I2 k4 q52 (IntKind.wrap .i64 (x4+1)) w193
def Zy (A1:Option Addr) (n1 c1:Nat) (K:ByteArray->Int->World->Prop) (w:World):Prop:=
 ∀(p1:Addr) (w1:World),New w (.cells #[.bool false,.bool false,.bool false] T.Bj) p1 w1->(∃I1:Nat->Int->World->Prop,(∃k1,I1 k1 0 w1)/\∀k1 (x2:Int) (w2:World),I1 k1 x2 w2->((x2<(n1:Int)->(0<=x2/\x2<(n1:Int)/\∃a1,A1=some a1/\∃s2:ByteArray,∃s3:ByteArray,∃s4:ByteArray,∃s5:ByteArray,bC w2 (a1.add (x2.toNat*4)) [.string s2,.string s3,.string s4,.string s5]/\∀(p2:Addr) (w3:World),New w2 (.cells #[.string .empty,.string .empty,.string .empty,.string .empty] T.iU) p2 w3->(jR w3 p2 4/\∀w4,w4=aX w3 p2 [.string s2,.string s3,.string s4,.string s5]->(∃s6:ByteArray,∃s7:ByteArray,bC w4 (p2.add 0) [.string s6,.string s7]/\∃s8:ByteArray,∃s9:ByteArray,bC w4 (p2.add 2) [.string s8,.string s9]/\∀(p3:Addr) (w5:World),New w4 (.cells #[.string s6,.string s7,.string s8,.string s9] T.gK) p3 w5->(Calls P F.wQ #[.pointer (some p1),.slice (some p3) 2 2] w5 (aS fun v1 w6=>∃q1,v1=(.pointer q1)/\∃k2,k2<k1/\I1 k2 (IntKind.wrap .i64 (x2+1)) w6))))))/\(¬(x2<(n1:Int))->(Calls P F.xY #[.pointer (some p1)] w2 (aS fun v2 w7=>∃x3,v2=(.int .i64 x3)/\(x3≠0->(K .empty x3 w7))/\(¬(x3≠0)->(Calls P F.aAp #[] w7 (aS fun v3 w8=>∃q2,v3=(.pointer q2)/\∃I2:Nat->Option Addr->Int->World->Prop,(∃k3,I2 k3 q2 0 w8)/\∀k3 (q3:Option Addr) (x4:Int) (w9:World),I2 k3 q3 x4 w9->((x4<(n1:Int)->(0<=x4/\x4<(n1:Int)/\∃a2,A1=some a2/\∃s10:ByteArray,∃s11:ByteArray,∃s12:ByteArray,∃s13:ByteArray,bC w9 (a2.add (x4.toNat*4)) [.string s10,.string s11,.string s12,.string s13]/\∀(p4:Addr) (w10:World),New w9 (.cells #[.string .empty,.string .empty,.string .empty,.string .empty] T.iU) p4 w10->(jR w10 p4 4/\∀w11,w11=aX w10 p4 [.string s10,.string s11,.string s12,.string s13]->(∃X1:Nat->Prop,∃s14:ByteArray,∃s15:ByteArray,bC w11 (p4.add 0) [.string s14,.string s15]/\¬X1 (p4.add 0).block/\∃s16:ByteArray,∃s17:ByteArray,bC w11 (p4.add 2) [.string s16,.string s17]/\¬X1 (p4.add 2).block/\(∀w13,aP w11 w13->Calls P F.tH #[.agg #[.string s14,.string s15]] w13 (aS fun v4 w12=>∃q4,∃q5,v4=(.agg #[.pointer q4,.pointer q5])/\Keep X1 w11 w12/\(∀w16,aP w12 w16->Calls P F.tH #[.agg #[.string s16,.string s17]] w16 (aS fun v5 w15=>∃q6,∃q7,v5=(.agg #[.pointer q6,.pointer q7])/\Keep X1 w11 w15/\(∀w27,aP w15 w27->∀(p5:Addr) (w18:World),New w27 (.cells #[.pointer none,.pointer none] T.eH) p5 w18->(∀w26,aP w18 w26->∀(p6:Addr) (w19:World),New w26 (.cells #[.pointer none,.pointer none] T.eH) p6 w19->(∀w25,aP w19 w25->jR w25 p5 2/\∀w20,w20=aX w25 p5 [.pointer q4,.pointer q5]->(∀w24,aP w20 w24->jR w24 p6 2/\∀w21,w21=aX w24 p6 [.pointer q6,.pointer q7]->(∀w22,aP w21 w22->((fF K (dZ k3 I2 x4) q3) p5 p6 w22))))))/\(∀w36,aP w15 w36->∀(p9:Addr) (w28:World),New w36 (.cells #[.pointer none,.pointer none] T.eH) p9 w28->(∀w35,aP w28 w35->∀(p10:Addr) (w29:World),New w35 (.cells #[.pointer none,.pointer none] T.eH) p10 w29->(∀w34,aP w29 w34->jR w34 p10 2/\∀w30,w30=aX w34 p10 [.pointer q4,.pointer q5]->(∀w33,aP w30 w33->jR w33 p9 2/\∀w31,w31=aX w33 p9 [.pointer q6,.pointer q7]->(∀w32,aP w31 w32->((fF K (dZ k3 I2 x4) q3) p10 p9 w32))))))))/\(∀w58,aP w12 w58->∀(p11:Addr) (w37:World),New w58 (.cells #[.pointer none,.pointer none] T.eH) p11 w37->((∀w39,aP w37 w39->Calls P F.tH #[.agg #[.string s16,.string s17]] w39 (aS fun v6 w38=>∃q8,∃q9,v6=(.agg #[.pointer q8,.pointer q9])/\Keep X1 w11 w38/\∀w47,aP w38 w47->∀(p12:Addr) (w41:World),New w47 (.cells #[.pointer none,.pointer none] T.eH) p12 w41->(∀w46,aP w41 w46->jR w46 p11 2/\∀w42,w42=aX w46 p11 [.pointer q4,.pointer q5]->(∀w45,aP w42 w45->jR w45 p12 2/\∀w43,w43=aX w45 p12 [.pointer q8,.pointer q9]->(∀w44,aP w43 w44->((fF K (dZ k3 I2 x4) q3) p11 p12 w44))))))/\(∀w57,aP w37 w57->∀(p13:Addr) (w48:World),New w57 (.cells #[.pointer none,.pointer none] T.eH) p13 w48->(∀w50,aP w48 w50->Calls P F.tH #[.agg #[.string s16,.string s17]] w50 (aS fun v7 w49=>∃q10,∃q11,v7=(.agg #[.pointer q10,.pointer q11])/\∀w56,aP w49 w56->jR w56 p11 2/\∀w52,w52=aX w56 p11 [.pointer q4,.pointer q5]->(∀w55,aP w52 w55->jR w55 p13 2/\∀w53,w53=aX w55 p13 [.pointer q10,.pointer q11]->(∀w54,aP w53 w54->((fF K (dZ k3 I2 x4) q3) p11 p13 w54))))))))/\(∀w80,aP w12 w80->∀(p14:Addr) (w59:World),New w80 (.cells #[.pointer none,.pointer none] T.eH) p14 w59->((∀w61,aP w59 w61->Calls P F.tH #[.agg #[.string s16,.string s17]] w61 (aS fun v8 w60=>∃q12,∃q13,v8=(.agg #[.pointer q12,.pointer q13])/\Keep X1 w11 w60/\∀w69,aP w60 w69->∀(p15:Addr) (w63:World),New w69 (.cells #[.pointer none,.pointer none] T.eH) p15 w63->(∀w68,aP w63 w68->jR w68 p15 2/\∀w64,w64=aX w68 p15 [.pointer q4,.pointer q5]->(∀w67,aP w64 w67->jR w67 p14 2/\∀w65,w65=aX w67 p14 [.pointer q12,.pointer q13]->(∀w66,aP w65 w66->((fF K (dZ k3 I2 x4) q3) p15 p14 w66))))))/\(∀w79,aP w59 w79->∀(p16:Addr) (w70:World),New w79 (.cells #[.pointer none,.pointer none] T.eH) p16 w70->(∀w72,aP w70 w72->Calls P F.tH #[.agg #[.string s16,.string s17]] w72 (aS fun v9 w71=>∃q14,∃q15,v9=(.agg #[.pointer q14,.pointer q15])/\∀w78,aP w71 w78->jR w78 p16 2/\∀w74,w74=aX w78 p16 [.pointer q4,.pointer q5]->(∀w77,aP w74 w77->jR w77 p14 2/\∀w75,w75=aX w77 p14 [.pointer q14,.pointer q15]->(∀w76,aP w75 w76->((fF K (dZ k3 I2 x4) q3) p16 p14 w76))))))))))/\(∀w118,aP w11 w118->∀(p17:Addr) (w81:World),New w118 (.cells #[.pointer none,.pointer none] T.eH) p17 w81->((∀w83,aP w81 w83->Calls P F.tH #[.agg #[.string s14,.string s15]] w83 (aS fun v10 w82=>∃q16,∃q17,v10=(.agg #[.pointer q16,.pointer q17])/\Keep X1 w11 w82/\(∀w86,aP w82 w86->Calls P F.tH #[.agg #[.string s16,.string s17]] w86 (aS fun v11 w85=>∃q18,∃q19,v11=(.agg #[.pointer q18,.pointer q19])/\Keep X1 w11 w85/\∀w94,aP w85 w94->∀(p18:Addr) (w88:World),New w94 (.cells #[.pointer none,.pointer none] T.eH) p18 w88->(∀w93,aP w88 w93->jR w93 p17 2/\∀w89,w89=aX w93 p17 [.pointer q16,.pointer q17]->(∀w92,aP w89 w92->jR w92 p18 2/\∀w90,w90=aX w92 p18 [.pointer q18,.pointer q19]->(∀w91,aP w90 w91->((fF K (dZ k3 I2 x4) q3) p17 p18 w91))))))/\(∀w104,aP w82 w104->∀(p19:Addr) (w95:World),New w104 (.cells #[.pointer none,.pointer none] T.eH) p19 w95->(∀w97,aP w95 w97->Calls P F.tH #[.agg #[.string s16,.string s17]] w97 (aS fun v12 w96=>∃q20,∃q21,v12=(.agg #[.pointer q20,.pointer q21])/\∀w103,aP w96 w103->jR w103 p17 2/\∀w99,w99=aX w103 p17 [.pointer q16,.pointer q17]->(∀w102,aP w99 w102->jR w102 p19 2/\∀w100,w100=aX w102 p19 [.pointer q20,.pointer q21]->(∀w101,aP w100 w101->((fF K (dZ k3 I2 x4) q3) p17 p19 w101))))))))/\(∀w117,aP w81 w117->∀(p20:Addr) (w105:World),New w117 (.cells #[.pointer none,.pointer none] T.eH) p20 w105->(∀w107,aP w105 w107->Calls P F.tH #[.agg #[.string s14,.string s15]] w107 (aS fun v13 w106=>∃q22,∃q23,v13=(.agg #[.pointer q22,.pointer q23])/\Keep X1 w11 w106/\∀w110,aP w106 w110->Calls P F.tH #[.agg #[.string s16,.string s17]] w110 (aS fun v14 w109=>∃q24,∃q25,v14=(.agg #[.pointer q24,.pointer q25])/\∀w116,aP w109 w116->jR w116 p17 2/\∀w112,w112=aX w116 p17 [.pointer q22,.pointer q23]->(∀w115,aP w112 w115->jR w115 p20 2/\∀w113,w113=aX w115 p20 [.pointer q24,.pointer q25]->(∀w114,aP w113 w114->((fF K (dZ k3 I2 x4) q3) p17 p20 w114)))))))))/\(∀w156,aP w11 w156->∀(p21:Addr) (w119:World),New w156 (.cells #[.pointer none,.pointer none] T.eH) p21 w119->((∀w121,aP w119 w121->Calls P F.tH #[.agg #[.string s14,.string s15]] w121 (aS fun v15 w120=>∃q26,∃q27,v15=(.agg #[.pointer q26,.pointer q27])/\Keep X1 w11 w120/\(∀w124,aP w120 w124->Calls P F.tH #[.agg #[.string s16,.string s17]] w124 (aS fun v16 w123=>∃q28,∃q29,v16=(.agg #[.pointer q28,.pointer q29])/\Keep X1 w11 w123/\∀w132,aP w123 w132->∀(p22:Addr) (w126:World),New w132 (.cells #[.pointer none,.pointer none] T.eH) p22 w126->(∀w131,aP w126 w131->jR w131 p22 2/\∀w127,w127=aX w131 p22 [.pointer q26,.pointer q27]->(∀w130,aP w127 w130->jR w130 p21 2/\∀w128,w128=aX w130 p21 [.pointer q28,.pointer q29]->(∀w129,aP w128 w129->((fF K (dZ k3 I2 x4) q3) p22 p21 w129))))))/\(∀w142,aP w120 w142->∀(p23:Addr) (w133:World),New w142 (.cells #[.pointer none,.pointer none] T.eH) p23 w133->(∀w135,aP w133 w135->Calls P F.tH #[.agg #[.string s16,.string s17]] w135 (aS fun v17 w134=>∃q30,∃q31,v17=(.agg #[.pointer q30,.pointer q31])/\∀w141,aP w134 w141->jR w141 p23 2/\∀w137,w137=aX w141 p23 [.pointer q26,.pointer q27]->(∀w140,aP w137 w140->jR w140 p21 2/\∀w138,w138=aX w140 p21 [.pointer q30,.pointer q31]->(∀w139,aP w138 w139->((fF K (dZ k3 I2 x4) q3) p23 p21 w139))))))))/\(∀w155,aP w119 w155->∀(p24:Addr) (w143:World),New w155 (.cells #[.pointer none,.pointer none] T.eH) p24 w143->(∀w145,aP w143 w145->Calls P F.tH #[.agg #[.string s14,.string s15]] w145 (aS fun v18 w144=>∃q32,∃q33,v18=(.agg #[.pointer q32,.pointer q33])/\Keep X1 w11 w144/\∀w148,aP w144 w148->Calls P F.tH #[.agg #[.string s16,.string s17]] w148 (aS fun v19 w147=>∃q34,∃q35,v19=(.agg #[.pointer q34,.pointer q35])/\∀w154,aP w147 w154->jR w154 p24 2/\∀w150,w150=aX w154 p24 [.pointer q32,.pointer q33]->(∀w153,aP w150 w153->jR w153 p21 2/\∀w151,w151=aX w153 p21 [.pointer q34,.pointer q35]->(∀w152,aP w151 w152->((fF K (dZ k3 I2 x4) q3) p24 p21 w152)))))))))))))/\(¬(x4<(n1:Int))->(Calls P F.pJ #[.pointer q3] w9 (aS fun v31 w196=>∃s18:ByteArray,v31=(.string s18)/\K s18 0 w196))))))))))))
theorem aD9 (A1:Option Addr) (n1 c1:Nat) (K:ByteArray->Int->World->Prop) (w:World) (H:Zy A1 n1 c1 K w):Calls P F.Xt #[.slice A1 n1 c1] w (aS fun v w'=>∃s1:ByteArray,∃x1,v=(.tuple #[.string s1,.int .i64 x1])/\K s1 x1 w'):=by
 unfold Zy at H;refine aY (P:=P) Tryz.func14 rfl [(0,.slice A1 n1 c1)] 85 rfl rfl (fun p hp=>by rcases List.mem_singleton.1 hp with rfl;rfl) (aB (aA (ag rfl (ag rfl (aC (nc (kp 0 rfl zz) (aB (aA (fM (f:=(fun p=> .pointer (some p))) rfl rfl (aF rfl) (fun a ha=>dR (dV TF.aA6)) ?_)))))))));intro p1 w1 hN;replace H:=H _ _ hN;refine ag rfl (aC (nc (y2 0 4 rfl) (aB (aB (aA (mv rfl (sv rfl rfl (xb rfl (fun _=>bD TF.jE)) (mv rfl (aC (nc (y5 0 4 17 18 19 rfl) (aV ?_)))))))))));obtain⟨I1,⟨k1,hi⟩,H⟩:=H;refine dM (fun k1 a w'=>∃x2,Ok 85 [(0,.slice A1 n1 c1),(4,.pointer (some p1)),(17,.slice A1 n1 c1),(18,.int .i64 (n1:Int)),(19,.int .i64 x2)] a/\I1 k1 x2 w') (fun a ha=>⟨k1,0,ha.weaken cs,hi⟩) ?_;rintro k1 a w2 ⟨x2,ha,hI⟩;replace H:=H k1 x2 w2 hI;refine cu ha ?_;refine aB (aA (bo rfl rfl fO (aC (nc (y6 0 4 17 18 19 20 rfl) (aB ?_)))));refine aK rfl (fun hb=> ?_) (fun hb=> ?_)
 ·replace H:=H.1 hb;refine aN (nc (y5 0 4 17 18 19 rfl) (aB (aV (aB (aA ?_)))));obtain⟨h2,h3,a1,e1,H⟩:=H;refine ix rfl rfl (bG TF.fV TF.eG e1 h2 h3) ?_;obtain⟨s2,s3,s4,s5,h4,H⟩:=H;refine ld rfl (gG (vs:=[.string s2,.string s3,.string s4,.string s5]) TF.zM TF.eG h4) (fM (f:=(fun p=> .pointer (some p))) rfl rfl (aF rfl) (fun a ha=>dR (dV TF.Ws)) ?_);intro p2 w3 hN;obtain⟨h6,H⟩:=H _ _ hN;refine gX rfl (aF rfl) (xs rfl rfl (cO TF.eG (by simp[Value.oneCell']) h6)) ?_;intro w4 hw;replace H:=H _ hw;clear hw;refine aC (nc (y6 0 4 6 17 18 19 rfl) (aA (mv rfl (fa rfl (TF.rQ _ _) ?_))));obtain⟨s6,s7,h7,H⟩:=H;refine ld rfl (gG (vs:=[.string s6,.string s7]) TF.fK TF.bZ h7) (fa rfl (TF.zG _ _) ?_);obtain⟨s8,s9,h8,H⟩:=H;refine ld rfl (gG (vs:=[.string s8,.string s9]) TF.fK TF.bZ h8) (sz rfl rfl (xl 2 2 (.cells #[.string s6,.string s7,.string s8,.string s9] T.gK) rfl) ?_);intro p3 w5 hN;replace H:=H _ _ hN;refine sc rfl rfl FF.Jj H ?_;rintro _ w6 ⟨q1,rfl,H⟩;refine aC (bQ (nc (y5 0 4 17 18 19 rfl) (aA (bo rfl rfl dJ (mv rfl (aC ?_))))));obtain⟨k2,hk,H⟩:=H;exact aT fun a ha=>⟨k2,hk,IntKind.wrap .i64 (x2+1),ha.weaken cs,H⟩
 ·replace H:=H.2 hb;refine bW (aH (aH (aZ (nc (y2 0 4 rfl) (aB (aB (aA (mv rfl (sc rfl rfl FF.Ld H ?_)))))))));rintro _ w7 ⟨x3,rfl,H⟩;refine ag rfl (aC (nc (y2 0 7 rfl) (aB (aA (mv rfl (bo rfl rfl zC (aC (nc (y3 0 7 34 rfl) ?_))))))));refine aK rfl (fun hb=> ?_) (fun hb=> ?_)
  ·replace H:=H.1 hb;exact aB (aA (mv rfl (ag rfl (ag rfl (aC (nc (y2 2 3 rfl) (aW (aI (aG (wF rfl rfl rfl) ⟨_,rfl,_,_,rfl,H⟩)))))))))
  ·replace H:=H.2 hb;refine aN (nc (kp 0 rfl zz) (aB (aA (sc rfl rfl FF.Zm H ?_))));rintro _ w8 ⟨q2,rfl,H⟩;refine ag rfl (aC (nc (y2 0 8 rfl) (aB (aB (aA (mv rfl (sv rfl rfl (xb rfl (fun _=>bD TF.jE)) (mv rfl (aC (nc (y4 8 37 38 39 rfl) (aV ?_)))))))))));obtain⟨I2,⟨k3,hi⟩,H⟩:=H;refine dM (fun k3 a w'=>∃q3,∃x4,Ok 85 [(8,.pointer q3),(37,.slice A1 n1 c1),(38,.int .i64 (n1:Int)),(39,.int .i64 x4)] a/\I2 k3 q3 x4 w') (fun a ha=>⟨k3,q2,0,ha.weaken cs,hi⟩) ?_;rintro k3 a w9 ⟨q3,x4,ha,hI⟩;replace H:=H k3 q3 x4 w9 hI;refine cu ha ?_;refine aB (aA (bo rfl rfl fO (aC (nc (y5 8 37 38 39 40 rfl) (aB ?_)))));refine aK rfl (fun hb=> ?_) (fun hb=> ?_)
   ·replace H:=H.1 hb;refine aN (nc (y4 8 37 38 39 rfl) ?_);refine dI (fun a w=>∃q52,Ok 85 [(8,.pointer q52),(37,.slice A1 n1 c1),(38,.int .i64 (n1:Int)),(39,.int .i64 x4)] a/\dZ k3 I2 x4 q52 w) ?_ ?_
    ·rintro a w193 ⟨q52,ha,H⟩;unfold dZ at H;refine cu ha ?_;refine aA (bo rfl rfl dJ (mv rfl (aC ?_)));obtain⟨k4,hk,H⟩:=H;exact aT fun a ha=>⟨k4,hk,q52,IntKind.wrap .i64 (x4+1),ha.weaken cs,H⟩
    ·refine aV (aB (aA ?_));obtain⟨h9,h10,a2,e2,H⟩:=H;refine ix rfl rfl (bG TF.fV TF.eG e2 h9 h10) ?_;obtain⟨s10,s11,s12,s13,h11,H⟩:=H;refine ld rfl (gG (vs:=[.string s10,.string s11,.string s12,.string s13]) TF.zM TF.eG h11) (fM (f:=(fun p=> .pointer (some p))) rfl rfl (aF rfl) (fun a ha=>dR (dV TF.Ws)) ?_);intro p4 w10 hN;obtain⟨h13,H⟩:=H _ _ hN;refine gX rfl (aF rfl) (xs rfl rfl (cO TF.eG (by simp[Value.oneCell']) h13)) ?_;intro w11 hw;replace H:=H _ hw;clear hw;refine aC (nc (y5 8 10 37 38 39 rfl) ?_);refine dI (fun a w=>∃p7:Addr,∃p8:Addr,Ok 85 [(8,.pointer q3),(11,.pointer (some p7)),(12,.pointer (some p8)),(37,.slice A1 n1 c1),(38,.int .i64 (n1:Int)),(39,.int .i64 x4)] a/\fF K (dZ k3 I2 x4) q3 p7 p8 w) ?_ ?_
     ·rintro a w23 ⟨p7,p8,ha,H⟩;unfold fF at H;refine cu ha ?_;refine aB (aB (aA ?_));obtain⟨q36,q37,h90,H⟩:=H;refine ld rfl (gG (vs:=[.pointer q36,.pointer q37]) TF.Lh TF.bU h90) ?_;obtain⟨q38,q39,h91,H⟩:=H;refine ld rfl (gG (vs:=[.pointer q38,.pointer q39]) TF.Lh TF.bU h91) (sc rfl rfl FF.Px H ?_);rintro _ w157 ⟨x5,rfl,H⟩;refine bo rfl rfl kF (aC (nc (y7 8 11 12 37 38 39 52 rfl) ?_));refine aK rfl (fun hb=> ?_) (fun hb=> ?_)
      ·replace H:=H.1 hb;exact aB (aA (ag rfl (ag rfl (aC (nc (y2 2 3 rfl) (aW (aI (bF (aI (aI (bF (aI (aG (wF rfl rfl rfl) ⟨_,rfl,_,_,rfl,H⟩)))))))))))))
      ·replace H:=H.2 hb;refine aN (nc (y6 8 11 12 37 38 39 rfl) ?_);refine dI (fun a w=>∃q46,∃q47,Ok 85 [(8,.pointer q3),(13,.pointer q46),(14,.pointer q47),(37,.slice A1 n1 c1),(38,.int .i64 (n1:Int)),(39,.int .i64 x4)] a/\nT (dZ k3 I2 x4) q3 q46 q47 w) ?_ ?_
       ·rintro a w167 ⟨q46,q47,ha,H⟩;unfold nT at H;refine cu ha ?_;refine aB ?_;refine dI (fun a w=>∃b1,Ok 85 [(8,.pointer q3),(13,.pointer q46),(14,.pointer q47),(37,.slice A1 n1 c1),(38,.int .i64 (n1:Int)),(39,.int .i64 x4),(72,.bool b1)] a/\vO (dZ k3 I2 x4) q3 q46 q47 b1 w) ?_ ?_
        ·rintro a w191 ⟨b1,ha,H⟩;unfold vO at H;refine cu ha ?_;refine dG rfl (fun hb=> ?_) (fun hb=> ?_)
         ·replace H:=H.1 hb;exact bW (aH (aZ (aT fun a ha=>⟨q3,ha.weaken cs,H⟩)))
         ·replace H:=H.2 hb;refine aN (nc (y6 8 13 14 37 38 39 rfl) (aB (aA (mv rfl (mv rfl (mv rfl (sc rfl rfl FF.Sr H ?_)))))));rintro _ w194 ⟨q53,rfl,H⟩;refine ag rfl (aC (nc (y5 8 15 37 38 39 rfl) (aB (aA (mv rfl (mv rfl (sc rfl rfl FF.vX H ?_)))))));rintro _ w195 ⟨x8,rfl,H⟩;refine bo rfl rfl fO (aC (nc (y6 8 15 37 38 39 80 rfl) ?_));refine aK rfl (fun hb=> ?_) (fun hb=> ?_)
          ·replace H:=H.1 hb;exact aA (mv rfl (ag rfl (aC (bQ (aT fun a ha=>⟨q53,ha.weaken cs,H⟩)))))
          ·replace H:=H.2 hb;exact aN (bQ (aT fun a ha=>⟨q3,ha.weaken cs,H⟩))
        ·refine aA (mv rfl (sc rfl rfl FF.jH H ?_));rintro _ w190 ⟨x6,rfl,H⟩;refine bo rfl rfl aGn ?_;rcases Classical.em (x6<=0) with hb|hb
         ·replace H:=H.1 hb;exact sv rfl rfl (xt rfl hb) (sk rfl rfl rfl rfl (sk rfl rfl rfl rfl (sk rfl rfl rfl rfl (pt rfl rfl (aC (aT fun a ha=>⟨true,ha.weaken cs,H⟩))))))
         ·replace H:=H.2 hb;refine sv rfl rfl (xf rfl hb) (Kw rfl rfl rfl (uU rfl rfl (cZ rfl rfl rfl) (xc rfl rfl FF.jH) H ?_));rintro _ w192 ⟨x7,rfl,H⟩;exact Uu rfl rfl rfl rfl aGn (pf rfl rfl (aC (aT fun a ha=>⟨(decide (x7<=0)),ha.weaken cs,H⟩)))
       ·obtain⟨X2,H⟩:=H;refine iI follows X2 [1,2,3,4,7,8,9,10,12,13] [2,4,8,10] 14 rfl rfl (by kernel_rfl) (fun _ _ d _ _ h=>by cases d<;>exact h) (fun cm W D=> ?_);refine Nw 1 cm rfl rfl (TF.yA _ _) D W fun _ D W=> ?_;obtain⟨q40,h92,hx',H⟩:=H;replace h92:=And.intro h92 hx';clear hx';refine vl 2 cm rfl rfl (fun hw=>(aJ TF.nO (hw.cell h92))) D W fun _ D W=>(Nw 3 cm rfl rfl (TF.yA _ _) D W fun _ D W=> ?_);obtain⟨q41,h93,hx',H⟩:=H;replace h93:=And.intro h93 hx';clear hx';refine vl 4 cm rfl rfl (fun hw=>(aJ TF.nO (hw.cell h93))) D W fun _ D W=>(Nw 7 cm rfl rfl (TF.yC _ _) D W fun _ D W=> ?_);obtain⟨q42,h94,hx',H⟩:=H;replace h94:=And.intro h94 hx';clear hx';refine vl 8 cm rfl rfl (fun hw=>(aJ TF.nO (hw.cell h94))) D W fun _ D W=>(Nw 9 cm rfl rfl (TF.yC _ _) D W fun _ D W=> ?_);obtain⟨q43,h95,hx',H⟩:=H;replace h95:=And.intro h95 hx';clear hx';refine vl 10 cm rfl rfl (fun hw=>(aJ TF.nO (hw.cell h95))) D W fun _ D W=> ?_;refine pW (rs:=[0,6]) (by kernel_rfl) rfl (iM ?_ (iM ?_ Af))
        ·replace H:=H.1;replace H:=H _ D;refine kS (f:=(fun p=> .pointer (some p))) rfl rfl rfl (aF rfl) (fun a ha=>dR (dV TF.mX)) rfl true (by kernel_rfl) ?_;intro p25 w158 hN _ D;replace H:=H _ _ hN;replace W:=(W.new hN).drawn D;refine⟨fun _=>W,?_⟩;refine pW (rs:=[5,6]) (by kernel_rfl) rfl (iM ?_ (iM ?_ Af))
         ·replace H:=H.1;replace H:=H _ D;refine iZ rfl rfl rfl (aF rfl) (xc rfl rfl FF.jT) rfl true (by kernel_rfl) H ?_;rintro _ w159 ⟨q44,rfl,H⟩ _ D;have W:=H.1.drawn D;replace H:=H.2;refine⟨fun _=>W,?_⟩;refine ar 6 ?_;replace H:=H _ D;refine kS (f:=(fun p=> .pointer (some p))) rfl rfl rfl (aF rfl) (fun a ha=>dR (dV TF.mX)) rfl true (by kernel_rfl) ?_;intro p26 w162 hN _ D;replace H:=H _ _ hN;replace W:=(W.new hN).drawn D;refine⟨fun _=>W,?_⟩;refine ar 11 ?_;replace H:=H _ D;refine iZ rfl rfl rfl (aF rfl) (xc rfl rfl FF.jT) rfl false (by kernel_rfl) H ?_;rintro _ w163 ⟨q45,rfl,H⟩ _ D;refine⟨fun h=>(by cases h),?_⟩;refine vP 12 cm rfl rfl D fun _ D=>(vP 13 cm rfl rfl D fun _ D=>(dU (by kernel_rfl) D ?_));intro w166 D;replace H:=H _ D;clear D cm;exact aT fun a ha=>⟨q44,q45,ha.weaken cs,H⟩
         ·replace H:=H.2;replace H:=H _ D;refine kS (f:=(fun p=> .pointer (some p))) rfl rfl rfl (aF rfl) (fun a ha=>dR (dV TF.mX)) rfl true (by kernel_rfl) ?_;intro p27 w169 hN _ D;replace H:=H _ _ hN;replace W:=(W.new hN).drawn D;refine⟨fun _=>W,?_⟩;refine ar 5 ?_;replace H:=H _ D;refine iZ rfl rfl rfl (aF rfl) (xc rfl rfl FF.jT) rfl true (by kernel_rfl) H ?_;rintro _ w170 ⟨q48,rfl,H⟩ _ D;have W:=H.1.drawn D;replace H:=H.2;refine⟨fun _=>W,?_⟩;refine ar 11 ?_;replace H:=H _ D;refine iZ rfl rfl rfl (aF rfl) (xc rfl rfl FF.jT) rfl false (by kernel_rfl) H ?_;rintro _ w173 ⟨q49,rfl,H⟩ _ D;refine⟨fun h=>(by cases h),?_⟩;refine vP 12 cm rfl rfl D fun _ D=>(vP 13 cm rfl rfl D fun _ D=>(dU (by kernel_rfl) D ?_));intro w176 D;replace H:=H _ D;clear D cm;exact aT fun a ha=>⟨q48,q49,ha.weaken cs,H⟩
        ·replace H:=H.2;replace H:=H _ D;refine kS (f:=(fun p=> .pointer (some p))) rfl rfl rfl (aF rfl) (fun a ha=>dR (dV TF.mX)) rfl true (by kernel_rfl) ?_;intro p28 w179 hN _ D;replace H:=H _ _ hN;replace W:=(W.new hN).drawn D;refine⟨fun _=>W,?_⟩;refine ar 0 ?_;replace H:=H _ D;refine kS (f:=(fun p=> .pointer (some p))) rfl rfl rfl (aF rfl) (fun a ha=>dR (dV TF.mX)) rfl true (by kernel_rfl) ?_;intro p29 w180 hN _ D;replace H:=H _ _ hN;replace W:=(W.new hN).drawn D;refine⟨fun _=>W,?_⟩;refine ar 5 ?_;replace H:=H _ D;refine iZ rfl rfl rfl (aF rfl) (xc rfl rfl FF.jT) rfl true (by kernel_rfl) H ?_;rintro _ w181 ⟨q50,rfl,H⟩ _ D;have W:=H.1.drawn D;replace H:=H.2;refine⟨fun _=>W,?_⟩;refine ar 11 ?_;replace H:=H _ D;refine iZ rfl rfl rfl (aF rfl) (xc rfl rfl FF.jT) rfl false (by kernel_rfl) H ?_;rintro _ w184 ⟨q51,rfl,H⟩ _ D;refine⟨fun h=>(by cases h),?_⟩;refine vP 12 cm rfl rfl D fun _ D=>(vP 13 cm rfl rfl D fun _ D=>(dU (by kernel_rfl) D ?_));intro w187 D;replace H:=H _ D;clear D cm;exact aT fun a ha=>⟨q50,q51,ha.weaken cs,H⟩
     ·obtain⟨X1,H⟩:=H;refine iI follows X1 [0,1,3,4] [1,4] 10 rfl rfl (by kernel_rfl) (fun _ _ d _ _ h=>by cases d<;>exact h) (fun cm W D=> ?_);refine Nw 0 cm rfl rfl (TF.rQ _ _) D W fun _ D W=> ?_;obtain⟨s14,s15,h14,hx',H⟩:=H;replace h14:=And.intro h14 hx';clear hx';refine vl 1 cm rfl rfl (fun hw=>(gG (vs:=[.string s14,.string s15]) TF.fK TF.bZ (hw.cells h14))) D W fun _ D W=>(Nw 3 cm rfl rfl (TF.zG _ _) D W fun _ D W=> ?_);obtain⟨s16,s17,h15,hx',H⟩:=H;replace h15:=And.intro h15 hx';clear hx';refine vl 4 cm rfl rfl (fun hw=>(gG (vs:=[.string s16,.string s17]) TF.fK TF.bZ (hw.cells h15))) D W fun _ D W=> ?_;refine pW (rs:=[2,6,7]) (by kernel_rfl) rfl (iM ?_ (iM ?_ (iM ?_ Af)))
      ·replace H:=H.1;replace H:=H _ D;refine iZ rfl rfl rfl (aF rfl) (xc rfl rfl FF.eF) rfl true (by kernel_rfl) H ?_;rintro _ w12 ⟨q4,q5,rfl,H⟩ _ D;have W:=H.1.drawn D;replace H:=H.2;refine⟨fun _=>W,?_⟩;refine pW (rs:=[5,6,7]) (by kernel_rfl) rfl (iM ?_ (iM ?_ (iM ?_ Af)))
       ·replace H:=H.1;replace H:=H _ D;refine iZ rfl rfl rfl (aF rfl) (xc rfl rfl FF.eF) rfl false (by kernel_rfl) H ?_;rintro _ w15 ⟨q6,q7,rfl,H⟩ _ D;have W:=H.1.drawn D;replace H:=H.2;refine⟨fun h=>(by cases h),?_⟩;refine pW (rs:=[6,7]) (by kernel_rfl) rfl (iM ?_ (iM ?_ Af))
        ·replace H:=H.1;replace H:=H _ D;refine kS (f:=(fun p=> .pointer (some p))) rfl rfl rfl (aF rfl) (fun a ha=>dR (dV TF.dP)) rfl true (by kernel_rfl) ?_;intro p5 w18 hN _ D;replace H:=H _ _ hN;replace W:=(W.new hN).drawn D;refine⟨fun _=>W,?_⟩;refine ar 7 ?_;replace H:=H _ D;refine kS (f:=(fun p=> .pointer (some p))) rfl rfl rfl (aF rfl) (fun a ha=>dR (dV TF.dP)) rfl true (by kernel_rfl) ?_;intro p6 w19 hN _ D;replace H:=H _ _ hN;replace W:=(W.new hN).drawn D;refine⟨fun _=>W,?_⟩;refine ar 8 ?_;obtain⟨h22,H⟩:=H _ D;refine oM rfl rfl (aF rfl) (xs rfl rfl (cO TF.bU (by simp[Value.oneCell']) h22)) rfl false (by kernel_rfl) ?_;intro w20 hw _ D;replace H:=H _ hw;clear hw;refine⟨fun h=>(by cases h),?_⟩;refine ar 9 ?_;obtain⟨h23,H⟩:=H _ D;refine oM rfl rfl (aF rfl) (xs rfl rfl (cO TF.bU (by simp[Value.oneCell']) h23)) rfl false (by kernel_rfl) ?_;intro w21 hw _ D;replace H:=H _ hw;clear hw;refine⟨fun h=>(by cases h),?_⟩;refine dU (by kernel_rfl) D ?_;intro w22 D;replace H:=H _ D;clear D cm;exact aT fun a ha=>⟨p5,p6,ha.weaken cs,H⟩
        ·replace H:=H.2;replace H:=H _ D;refine kS (f:=(fun p=> .pointer (some p))) rfl rfl rfl (aF rfl) (fun a ha=>dR (dV TF.dP)) rfl true (by kernel_rfl) ?_;intro p9 w28 hN _ D;replace H:=H _ _ hN;replace W:=(W.new hN).drawn D;refine⟨fun _=>W,?_⟩;refine ar 6 ?_;replace H:=H _ D;refine kS (f:=(fun p=> .pointer (some p))) rfl rfl rfl (aF rfl) (fun a ha=>dR (dV TF.dP)) rfl true (by kernel_rfl) ?_;intro p10 w29 hN _ D;replace H:=H _ _ hN;replace W:=(W.new hN).drawn D;refine⟨fun _=>W,?_⟩;refine ar 8 ?_;obtain⟨h26,H⟩:=H _ D;refine oM rfl rfl (aF rfl) (xs rfl rfl (cO TF.bU (by simp[Value.oneCell']) h26)) rfl false (by kernel_rfl) ?_;intro w30 hw _ D;replace H:=H _ hw;clear hw;refine⟨fun h=>(by cases h),?_⟩;refine ar 9 ?_;obtain⟨h27,H⟩:=H _ D;refine oM rfl rfl (aF rfl) (xs rfl rfl (cO TF.bU (by simp[Value.oneCell']) h27)) rfl false (by kernel_rfl) ?_;intro w31 hw _ D;replace H:=H _ hw;clear hw;refine⟨fun h=>(by cases h),?_⟩;refine dU (by kernel_rfl) D ?_;intro w32 D;replace H:=H _ D;clear D cm;exact aT fun a ha=>⟨p10,p9,ha.weaken cs,H⟩
       ·replace H:=H.2.1;replace H:=H _ D;refine kS (f:=(fun p=> .pointer (some p))) rfl rfl rfl (aF rfl) (fun a ha=>dR (dV TF.dP)) rfl true (by kernel_rfl) ?_;intro p11 w37 hN _ D;replace H:=H _ _ hN;replace W:=(W.new hN).drawn D;refine⟨fun _=>W,?_⟩;refine pW (rs:=[5,7]) (by kernel_rfl) rfl (iM ?_ (iM ?_ Af))
        ·replace H:=H.1;replace H:=H _ D;refine iZ rfl rfl rfl (aF rfl) (xc rfl rfl FF.eF) rfl false (by kernel_rfl) H ?_;rintro _ w38 ⟨q8,q9,rfl,H⟩ _ D;have W:=H.1.drawn D;replace H:=H.2;refine⟨fun h=>(by cases h),?_⟩;refine ar 7 ?_;replace H:=H _ D;refine kS (f:=(fun p=> .pointer (some p))) rfl rfl rfl (aF rfl) (fun a ha=>dR (dV TF.dP)) rfl true (by kernel_rfl) ?_;intro p12 w41 hN _ D;replace H:=H _ _ hN;replace W:=(W.new hN).drawn D;refine⟨fun _=>W,?_⟩;refine ar 8 ?_;obtain⟨h32,H⟩:=H _ D;refine oM rfl rfl (aF rfl) (xs rfl rfl (cO TF.bU (by simp[Value.oneCell']) h32)) rfl false (by kernel_rfl) ?_;intro w42 hw _ D;replace H:=H _ hw;clear hw;refine⟨fun h=>(by cases h),?_⟩;refine ar 9 ?_;obtain⟨h33,H⟩:=H _ D;refine oM rfl rfl (aF rfl) (xs rfl rfl (cO TF.bU (by simp[Value.oneCell']) h33)) rfl false (by kernel_rfl) ?_;intro w43 hw _ D;replace H:=H _ hw;clear hw;refine⟨fun h=>(by cases h),?_⟩;refine dU (by kernel_rfl) D ?_;intro w44 D;replace H:=H _ D;clear D cm;exact aT fun a ha=>⟨p11,p12,ha.weaken cs,H⟩
        ·replace H:=H.2;replace H:=H _ D;refine kS (f:=(fun p=> .pointer (some p))) rfl rfl rfl (aF rfl) (fun a ha=>dR (dV TF.dP)) rfl true (by kernel_rfl) ?_;intro p13 w48 hN _ D;replace H:=H _ _ hN;replace W:=(W.new hN).drawn D;refine⟨fun _=>W,?_⟩;refine ar 5 ?_;replace H:=H _ D;refine iZ rfl rfl rfl (aF rfl) (xc rfl rfl FF.eF) rfl false (by kernel_rfl) H ?_;rintro _ w49 ⟨q10,q11,rfl,H⟩ _ D;refine⟨fun h=>(by cases h),?_⟩;refine ar 8 ?_;obtain⟨h37,H⟩:=H _ D;refine oM rfl rfl (aF rfl) (xs rfl rfl (cO TF.bU (by simp[Value.oneCell']) h37)) rfl false (by kernel_rfl) ?_;intro w52 hw _ D;replace H:=H _ hw;clear hw;refine⟨fun h=>(by cases h),?_⟩;refine ar 9 ?_;obtain⟨h38,H⟩:=H _ D;refine oM rfl rfl (aF rfl) (xs rfl rfl (cO TF.bU (by simp[Value.oneCell']) h38)) rfl false (by kernel_rfl) ?_;intro w53 hw _ D;replace H:=H _ hw;clear hw;refine⟨fun h=>(by cases h),?_⟩;refine dU (by kernel_rfl) D ?_;intro w54 D;replace H:=H _ D;clear D cm;exact aT fun a ha=>⟨p11,p13,ha.weaken cs,H⟩
       ·replace H:=H.2.2;replace H:=H _ D;refine kS (f:=(fun p=> .pointer (some p))) rfl rfl rfl (aF rfl) (fun a ha=>dR (dV TF.dP)) rfl true (by kernel_rfl) ?_;intro p14 w59 hN _ D;replace H:=H _ _ hN;replace W:=(W.new hN).drawn D;refine⟨fun _=>W,?_⟩;refine pW (rs:=[5,6]) (by kernel_rfl) rfl (iM ?_ (iM ?_ Af))
        ·replace H:=H.1;replace H:=H _ D;refine iZ rfl rfl rfl (aF rfl) (xc rfl rfl FF.eF) rfl false (by kernel_rfl) H ?_;rintro _ w60 ⟨q12,q13,rfl,H⟩ _ D;have W:=H.1.drawn D;replace H:=H.2;refine⟨fun h=>(by cases h),?_⟩;refine ar 6 ?_;replace H:=H _ D;refine kS (f:=(fun p=> .pointer (some p))) rfl rfl rfl (aF rfl) (fun a ha=>dR (dV TF.dP)) rfl true (by kernel_rfl) ?_;intro p15 w63 hN _ D;replace H:=H _ _ hN;replace W:=(W.new hN).drawn D;refine⟨fun _=>W,?_⟩;refine ar 8 ?_;obtain⟨h43,H⟩:=H _ D;refine oM rfl rfl (aF rfl) (xs rfl rfl (cO TF.bU (by simp[Value.oneCell']) h43)) rfl false (by kernel_rfl) ?_;intro w64 hw _ D;replace H:=H _ hw;clear hw;refine⟨fun h=>(by cases h),?_⟩;refine ar 9 ?_;obtain⟨h44,H⟩:=H _ D;refine oM rfl rfl (aF rfl) (xs rfl rfl (cO TF.bU (by simp[Value.oneCell']) h44)) rfl false (by kernel_rfl) ?_;intro w65 hw _ D;replace H:=H _ hw;clear hw;refine⟨fun h=>(by cases h),?_⟩;refine dU (by kernel_rfl) D ?_;intro w66 D;replace H:=H _ D;clear D cm;exact aT fun a ha=>⟨p15,p14,ha.weaken cs,H⟩
        ·replace H:=H.2;replace H:=H _ D;refine kS (f:=(fun p=> .pointer (some p))) rfl rfl rfl (aF rfl) (fun a ha=>dR (dV TF.dP)) rfl true (by kernel_rfl) ?_;intro p16 w70 hN _ D;replace H:=H _ _ hN;replace W:=(W.new hN).drawn D;refine⟨fun _=>W,?_⟩;refine ar 5 ?_;replace H:=H _ D;refine iZ rfl rfl rfl (aF rfl) (xc rfl rfl FF.eF) rfl false (by kernel_rfl) H ?_;rintro _ w71 ⟨q14,q15,rfl,H⟩ _ D;refine⟨fun h=>(by cases h),?_⟩;refine ar 8 ?_;obtain⟨h48,H⟩:=H _ D;refine oM rfl rfl (aF rfl) (xs rfl rfl (cO TF.bU (by simp[Value.oneCell']) h48)) rfl false (by kernel_rfl) ?_;intro w74 hw _ D;replace H:=H _ hw;clear hw;refine⟨fun h=>(by cases h),?_⟩;refine ar 9 ?_;obtain⟨h49,H⟩:=H _ D;refine oM rfl rfl (aF rfl) (xs rfl rfl (cO TF.bU (by simp[Value.oneCell']) h49)) rfl false (by kernel_rfl) ?_;intro w75 hw _ D;replace H:=H _ hw;clear hw;refine⟨fun h=>(by cases h),?_⟩;refine dU (by kernel_rfl) D ?_;intro w76 D;replace H:=H _ D;clear D cm;exact aT fun a ha=>⟨p16,p14,ha.weaken cs,H⟩
      ·replace H:=H.2.1;replace H:=H _ D;refine kS (f:=(fun p=> .pointer (some p))) rfl rfl rfl (aF rfl) (fun a ha=>dR (dV TF.dP)) rfl true (by kernel_rfl) ?_;intro p17 w81 hN _ D;replace H:=H _ _ hN;replace W:=(W.new hN).drawn D;refine⟨fun _=>W,?_⟩;refine pW (rs:=[2,7]) (by kernel_rfl) rfl (iM ?_ (iM ?_ Af))
       ·replace H:=H.1;replace H:=H _ D;refine iZ rfl rfl rfl (aF rfl) (xc rfl rfl FF.eF) rfl true (by kernel_rfl) H ?_;rintro _ w82 ⟨q16,q17,rfl,H⟩ _ D;have W:=H.1.drawn D;replace H:=H.2;refine⟨fun _=>W,?_⟩;refine pW (rs:=[5,7]) (by kernel_rfl) rfl (iM ?_ (iM ?_ Af))
        ·replace H:=H.1;replace H:=H _ D;refine iZ rfl rfl rfl (aF rfl) (xc rfl rfl FF.eF) rfl false (by kernel_rfl) H ?_;rintro _ w85 ⟨q18,q19,rfl,H⟩ _ D;have W:=H.1.drawn D;replace H:=H.2;refine⟨fun h=>(by cases h),?_⟩;refine ar 7 ?_;replace H:=H _ D;refine kS (f:=(fun p=> .pointer (some p))) rfl rfl rfl (aF rfl) (fun a ha=>dR (dV TF.dP)) rfl true (by kernel_rfl) ?_;intro p18 w88 hN _ D;replace H:=H _ _ hN;replace W:=(W.new hN).drawn D;refine⟨fun _=>W,?_⟩;refine ar 8 ?_;obtain⟨h56,H⟩:=H _ D;refine oM rfl rfl (aF rfl) (xs rfl rfl (cO TF.bU (by simp[Value.oneCell']) h56)) rfl false (by kernel_rfl) ?_;intro w89 hw _ D;replace H:=H _ hw;clear hw;refine⟨fun h=>(by cases h),?_⟩;refine ar 9 ?_;obtain⟨h57,H⟩:=H _ D;refine oM rfl rfl (aF rfl) (xs rfl rfl (cO TF.bU (by simp[Value.oneCell']) h57)) rfl false (by kernel_rfl) ?_;intro w90 hw _ D;replace H:=H _ hw;clear hw;refine⟨fun h=>(by cases h),?_⟩;refine dU (by kernel_rfl) D ?_;intro w91 D;replace H:=H _ D;clear D cm;exact aT fun a ha=>⟨p17,p18,ha.weaken cs,H⟩
        ·replace H:=H.2;replace H:=H _ D;refine kS (f:=(fun p=> .pointer (some p))) rfl rfl rfl (aF rfl) (fun a ha=>dR (dV TF.dP)) rfl true (by kernel_rfl) ?_;intro p19 w95 hN _ D;replace H:=H _ _ hN;replace W:=(W.new hN).drawn D;refine⟨fun _=>W,?_⟩;refine ar 5 ?_;replace H:=H _ D;refine iZ rfl rfl rfl (aF rfl) (xc rfl rfl FF.eF) rfl false (by kernel_rfl) H ?_;rintro _ w96 ⟨q20,q21,rfl,H⟩ _ D;refine⟨fun h=>(by cases h),?_⟩;refine ar 8 ?_;obtain⟨h61,H⟩:=H _ D;refine oM rfl rfl (aF rfl) (xs rfl rfl (cO TF.bU (by simp[Value.oneCell']) h61)) rfl false (by kernel_rfl) ?_;intro w99 hw _ D;replace H:=H _ hw;clear hw;refine⟨fun h=>(by cases h),?_⟩;refine ar 9 ?_;obtain⟨h62,H⟩:=H _ D;refine oM rfl rfl (aF rfl) (xs rfl rfl (cO TF.bU (by simp[Value.oneCell']) h62)) rfl false (by kernel_rfl) ?_;intro w100 hw _ D;replace H:=H _ hw;clear hw;refine⟨fun h=>(by cases h),?_⟩;refine dU (by kernel_rfl) D ?_;intro w101 D;replace H:=H _ D;clear D cm;exact aT fun a ha=>⟨p17,p19,ha.weaken cs,H⟩
       ·replace H:=H.2;replace H:=H _ D;refine kS (f:=(fun p=> .pointer (some p))) rfl rfl rfl (aF rfl) (fun a ha=>dR (dV TF.dP)) rfl true (by kernel_rfl) ?_;intro p20 w105 hN _ D;replace H:=H _ _ hN;replace W:=(W.new hN).drawn D;refine⟨fun _=>W,?_⟩;refine ar 2 ?_;replace H:=H _ D;refine iZ rfl rfl rfl (aF rfl) (xc rfl rfl FF.eF) rfl true (by kernel_rfl) H ?_;rintro _ w106 ⟨q22,q23,rfl,H⟩ _ D;have W:=H.1.drawn D;replace H:=H.2;refine⟨fun _=>W,?_⟩;refine ar 5 ?_;replace H:=H _ D;refine iZ rfl rfl rfl (aF rfl) (xc rfl rfl FF.eF) rfl false (by kernel_rfl) H ?_;rintro _ w109 ⟨q24,q25,rfl,H⟩ _ D;refine⟨fun h=>(by cases h),?_⟩;refine ar 8 ?_;obtain⟨h68,H⟩:=H _ D;refine oM rfl rfl (aF rfl) (xs rfl rfl (cO TF.bU (by simp[Value.oneCell']) h68)) rfl false (by kernel_rfl) ?_;intro w112 hw _ D;replace H:=H _ hw;clear hw;refine⟨fun h=>(by cases h),?_⟩;refine ar 9 ?_;obtain⟨h69,H⟩:=H _ D;refine oM rfl rfl (aF rfl) (xs rfl rfl (cO TF.bU (by simp[Value.oneCell']) h69)) rfl false (by kernel_rfl) ?_;intro w113 hw _ D;replace H:=H _ hw;clear hw;refine⟨fun h=>(by cases h),?_⟩;refine dU (by kernel_rfl) D ?_;intro w114 D;replace H:=H _ D;clear D cm;exact aT fun a ha=>⟨p17,p20,ha.weaken cs,H⟩
      ·replace H:=H.2.2;replace H:=H _ D;refine kS (f:=(fun p=> .pointer (some p))) rfl rfl rfl (aF rfl) (fun a ha=>dR (dV TF.dP)) rfl true (by kernel_rfl) ?_;intro p21 w119 hN _ D;replace H:=H _ _ hN;replace W:=(W.new hN).drawn D;refine⟨fun _=>W,?_⟩;refine pW (rs:=[2,6]) (by kernel_rfl) rfl (iM ?_ (iM ?_ Af))
       ·replace H:=H.1;replace H:=H _ D;refine iZ rfl rfl rfl (aF rfl) (xc rfl rfl FF.eF) rfl true (by kernel_rfl) H ?_;rintro _ w120 ⟨q26,q27,rfl,H⟩ _ D;have W:=H.1.drawn D;replace H:=H.2;refine⟨fun _=>W,?_⟩;refine pW (rs:=[5,6]) (by kernel_rfl) rfl (iM ?_ (iM ?_ Af))
        ·replace H:=H.1;replace H:=H _ D;refine iZ rfl rfl rfl (aF rfl) (xc rfl rfl FF.eF) rfl false (by kernel_rfl) H ?_;rintro _ w123 ⟨q28,q29,rfl,H⟩ _ D;have W:=H.1.drawn D;replace H:=H.2;refine⟨fun h=>(by cases h),?_⟩;refine ar 6 ?_;replace H:=H _ D;refine kS (f:=(fun p=> .pointer (some p))) rfl rfl rfl (aF rfl) (fun a ha=>dR (dV TF.dP)) rfl true (by kernel_rfl) ?_;intro p22 w126 hN _ D;replace H:=H _ _ hN;replace W:=(W.new hN).drawn D;refine⟨fun _=>W,?_⟩;refine ar 8 ?_;obtain⟨h76,H⟩:=H _ D;refine oM rfl rfl (aF rfl) (xs rfl rfl (cO TF.bU (by simp[Value.oneCell']) h76)) rfl false (by kernel_rfl) ?_;intro w127 hw _ D;replace H:=H _ hw;clear hw;refine⟨fun h=>(by cases h),?_⟩;refine ar 9 ?_;obtain⟨h77,H⟩:=H _ D;refine oM rfl rfl (aF rfl) (xs rfl rfl (cO TF.bU (by simp[Value.oneCell']) h77)) rfl false (by kernel_rfl) ?_;intro w128 hw _ D;replace H:=H _ hw;clear hw;refine⟨fun h=>(by cases h),?_⟩;refine dU (by kernel_rfl) D ?_;intro w129 D;replace H:=H _ D;clear D cm;exact aT fun a ha=>⟨p22,p21,ha.weaken cs,H⟩
        ·replace H:=H.2;replace H:=H _ D;refine kS (f:=(fun p=> .pointer (some p))) rfl rfl rfl (aF rfl) (fun a ha=>dR (dV TF.dP)) rfl true (by kernel_rfl) ?_;intro p23 w133 hN _ D;replace H:=H _ _ hN;replace W:=(W.new hN).drawn D;refine⟨fun _=>W,?_⟩;refine ar 5 ?_;replace H:=H _ D;refine iZ rfl rfl rfl (aF rfl) (xc rfl rfl FF.eF) rfl false (by kernel_rfl) H ?_;rintro _ w134 ⟨q30,q31,rfl,H⟩ _ D;refine⟨fun h=>(by cases h),?_⟩;refine ar 8 ?_;obtain⟨h81,H⟩:=H _ D;refine oM rfl rfl (aF rfl) (xs rfl rfl (cO TF.bU (by simp[Value.oneCell']) h81)) rfl false (by kernel_rfl) ?_;intro w137 hw _ D;replace H:=H _ hw;clear hw;refine⟨fun h=>(by cases h),?_⟩;refine ar 9 ?_;obtain⟨h82,H⟩:=H _ D;refine oM rfl rfl (aF rfl) (xs rfl rfl (cO TF.bU (by simp[Value.oneCell']) h82)) rfl false (by kernel_rfl) ?_;intro w138 hw _ D;replace H:=H _ hw;clear hw;refine⟨fun h=>(by cases h),?_⟩;refine dU (by kernel_rfl) D ?_;intro w139 D;replace H:=H _ D;clear D cm;exact aT fun a ha=>⟨p23,p21,ha.weaken cs,H⟩
       ·replace H:=H.2;replace H:=H _ D;refine kS (f:=(fun p=> .pointer (some p))) rfl rfl rfl (aF rfl) (fun a ha=>dR (dV TF.dP)) rfl true (by kernel_rfl) ?_;intro p24 w143 hN _ D;replace H:=H _ _ hN;replace W:=(W.new hN).drawn D;refine⟨fun _=>W,?_⟩;refine ar 2 ?_;replace H:=H _ D;refine iZ rfl rfl rfl (aF rfl) (xc rfl rfl FF.eF) rfl true (by kernel_rfl) H ?_;rintro _ w144 ⟨q32,q33,rfl,H⟩ _ D;have W:=H.1.drawn D;replace H:=H.2;refine⟨fun _=>W,?_⟩;refine ar 5 ?_;replace H:=H _ D;refine iZ rfl rfl rfl (aF rfl) (xc rfl rfl FF.eF) rfl false (by kernel_rfl) H ?_;rintro _ w147 ⟨q34,q35,rfl,H⟩ _ D;refine⟨fun h=>(by cases h),?_⟩;refine ar 8 ?_;obtain⟨h88,H⟩:=H _ D;refine oM rfl rfl (aF rfl) (xs rfl rfl (cO TF.bU (by simp[Value.oneCell']) h88)) rfl false (by kernel_rfl) ?_;intro w150 hw _ D;replace H:=H _ hw;clear hw;refine⟨fun h=>(by cases h),?_⟩;refine ar 9 ?_;obtain⟨h89,H⟩:=H _ D;refine oM rfl rfl (aF rfl) (xs rfl rfl (cO TF.bU (by simp[Value.oneCell']) h89)) rfl false (by kernel_rfl) ?_;intro w151 hw _ D;replace H:=H _ hw;clear hw;refine⟨fun h=>(by cases h),?_⟩;refine dU (by kernel_rfl) D ?_;intro w152 D;replace H:=H _ D;clear D cm;exact aT fun a ha=>⟨p24,p21,ha.weaken cs,H⟩
   ·replace H:=H.2 hb;refine bW (aH (aH (aZ (nc (kp 8 rfl zz) (aB (aA (mv rfl (sc rfl rfl FF.vV H ?_))))))));rintro _ w196 ⟨s18,rfl,H⟩;exact ag rfl (ag rfl (aC (nc (y2 2 3 rfl) (aW (aG (wF rfl rfl rfl) ⟨_,rfl,_,_,rfl,H⟩)))))
abbrev Ts (n:Nat):Prop:=n<=268435456
theorem aA4 {l:List UInt8} {q:Rat} (h:gJ l=some q):mF q (l.length+1):=by
 obtain⟨h1,h2,rfl⟩:=aBu h
 have lb:(bare l).length<=l.length:=by
  unfold bare
  split
  ·rw[List.length_drop];omega
  ·omega
 have hc:=congrArg List.length (aC0 47 (bare l))
 rw[List.length_append] at hc
 refine .aG8 ((Lb.dec (lJ.1 h1).2).mono (by omega)) ?_ ?_
 ·cases hp:past 47 (bare l) with
  |none=>exact Lb.one.mono (by omega)
  |some d=>
   rw[hp] at hc
   exact(Lb.dec (lJ.1 (h2 d hp).1).2).mono (by simp at hc;omega)
 ·cases hp:past 47 (bare l) with
  |none=>exact Nat.one_ne_zero
  |some d=>exact(h2 d hp).2
theorem aId {l:List UInt8} {q:Rat} (h:jG l q):mF q (l.length+1):=aA4 (Ny h)
section
variable {w w':World} {p o:Addr} {q:Rat}
theorem Wl (s:ByteArray) (w:World) (hs:s.size<=1099511627776):Calls P F.Du #[.string s] w (aS fun v w'=>Ext w w'/\v= .bool (Eo (bl s))):=by
 refine aS.mono (aBf s (fun b w'=>Ext w w'/\b=Eo (bl s)) w ?_) (by rintro _ w' ⟨b,rfl,h,rfl⟩;exact⟨h,rfl⟩)
 unfold Ii
 refine⟨fun hne=> ?_,fun h=> ?_⟩
 ·refine aS.mono (Wp s w hs) ?_
  rintro _ w1 ⟨E,t,rfl,ht⟩
  refine⟨t,rfl,E,?_⟩
  have:(bl s).isEmpty=false:=by
   rw[List.isEmpty_eq_false_iff]
   exact fun h=>hne (Ep.2 h)
  unfold Eo
  rw[this,Bool.not_false,Bool.true_and,Bool.eq_iff_iff,decide_eq_true_iff]
  exact ht
 ·have:s= .empty:=Classical.byContradiction fun hc=>h hc
  subst this
  exact⟨Ext.refl w,rfl⟩
theorem aEs (s:ByteArray) (w:World):Calls P F.Jb #[.string s] w (aS fun v w'=>w'=w/\∃t,v= .string t/\bl t=short (bl s)):=by
 refine aS.mono (aB4 s (fun t w'=>w'=w/\bl t=short (bl s)) w (aS.mono (Pe s w) ?_)) (by rintro _ w' ⟨t,rfl,h,h2⟩;exact⟨h,t,rfl,h2⟩)
 rintro _ w1 ⟨rfl,rfl⟩
 refine⟨_,rfl,fun h=>⟨rfl,?_⟩,fun h=>⟨rfl,?_⟩⟩
 ·unfold short
  rw[if_pos (Ep.1 h)]
 ·unfold short
  rw[if_neg fun e=>h (Ep.2 e)]
theorem aCh (s:ByteArray) (i:Int):byteAt s i=(((bl s)[i.toNat]?).getD 0).toNat:=by
 unfold byteAt
 have:s[i.toNat]? =(bl s)[i.toNat]? :=by
  show _=s.data.toList[i.toNat]?
  rw[Array.getElem?_toList]
  rfl
 rw[this]
theorem Za {s:ByteArray}:byteAt s 0=45↔Cc (bl s)=true:=by
 rw[aCh]
 unfold Cc
 cases h:bl s with
 |nil=>simp
 |cons c l=>
  have:((c.toNat:Int)=45)↔c=45:=by
   refine⟨fun h=>UInt8.toNat_inj.1 ?_,fun h=>by subst h;rfl⟩
   have:(45:UInt8).toNat=45:=rfl
   omega
  simpa using this
theorem Ul (l:List UInt8):(short l).length<=l.length+1:=by
 unfold short
 split
 ·simp
 ·have:=Un l
  omega
theorem aJl {s n d:ByteArray} {b:Bool} (w:World) (hs:s.size<=1099511627776) (h0:s≠.empty) (hn:n.size<=1099511627776) (hd:d.size<=1099511627776):Calls P F.Yc #[.string s,.string n,.string d,.bool b] w (aS fun v w'=>w'=w/\∃t,v= .string t/\bl t=tx (Cc (bl s)) (short (bl n)) (if b then some (short (bl d)) else none)):=by
 refine aS.mono (aEa s n d b (fun t w'=>w'=w/\bl t=tx (Cc (bl s)) (short (bl n)) (if b then some (short (bl d)) else none)) w (aS.mono (aEs n w) ?_)) (by rintro _ w' ⟨t,rfl,h,h2⟩;exact⟨h,t,rfl,h2⟩)
 rintro _ w1 ⟨rfl,t,rfl,ht⟩
 have e45:(⟨#[45]⟩:ByteArray).size=1:=rfl
 have e47:(⟨#[47]⟩:ByteArray).size=1:=rfl
 have z1:=eY t
 have zn:=eY n
 have zd:=eY d
 have zs:=eY s
 have s1:=Ul (bl n)
 have s2:=Ul (bl d)
 have hs0:0<s.size:=by
  rcases Nat.eq_zero_or_pos s.size with e|e
  ·exact absurd (Ep.2 (List.length_eq_zero_iff.1 (by omega))) h0
  ·exact e
 have fin:∀u:ByteArray,bl u=short (bl n)++(if b then 47::short (bl d) else [])->vU s (fun t w'=>w'=w1/\bl t=tx (Cc (bl s)) (short (bl n)) (if b then some (short (bl d)) else none)) u w1:=fun u hu=>by
  have zu:=eY u
  have lu:(bl u).length<=(short (bl n)).length+((short (bl d)).length+1):=by
   rw[hu,List.length_append]
   cases b<;>simp
  have e:bl u=short (bl n)++(if b then some (short (bl d)) else none).elim [] (47::·):=by
   rw[hu]
   cases b<;>rfl
  refine⟨Int.le_refl _,by omega,fun h=>⟨by omega,rfl,?_⟩,fun h=>⟨rfl,?_⟩⟩
  ·unfold tx
   rw[Za.1 h,wC,e]
   rfl
  ·unfold tx
   have:Cc (bl s)=false:=by
    cases hh:Cc (bl s)
    ·rfl
    ·exact absurd (Za.2 hh) h
   rw[this,e]
   rfl
 refine⟨t,rfl,fun hb=>aS.mono (aEs d w1) ?_,fun hb=>fin t (by rw[ht,hb];simp)⟩
 rintro _ w2 ⟨rfl,t2,rfl,ht2⟩
 have z2:=eY t2
 rw[ht] at z1
 rw[ht2] at z2
 refine⟨t2,rfl,by omega,by rw[ByteArray.size_append];omega,fin _ ?_⟩
 rw[wC,wC,ht,ht2,hb]
 rfl
theorem aG1 {l:List UInt8} (h:Ls l):(∀x∈l,[48].contains x=true)↔dv l=0:=by
 rw[<-aHf h]
 clear h
 induction l with
 |nil=>simp[rG]
 |cons c l ih=>
  unfold rG
  by_cases e:c=48
  ·subst e
   simp only[if_true,<-ih]
   simp
  ·simp[e]
theorem aH7 (s:ByteArray) (w:World) (hs:Ts s.size):Calls P F.Ux #[.string s] w (aS fun v w'=>Ext w w'/\∃(t:ByteArray) (e:Int),v= .tuple #[.string t,.int .i64 e]/\((gJ (bl s)=none/\e≠0)\/∃q,gJ (bl s)=some q/\e=0/\jG (bl t) q)):=by
 refine aS.mono (aDu s (fun t e w'=>Ext w w'/\((gJ (bl s)=none/\e≠0)\/∃q,gJ (bl s)=some q/\e=0/\jG (bl t) q)) w ?_) (by rintro _ w' ⟨t,e,rfl,h,h2⟩;exact⟨h,t,e,rfl,h2⟩)
 unfold Ts at hs
 have hlen:=eY s
 have bl1:(bare (bl s)).length<=(bl s).length:=by
  unfold bare
  split
  ·rw[List.length_drop];omega
  ·omega
 have hc:=congrArg List.length (aC0 47 (bare (bl s)))
 rw[List.length_append] at hc
 refine aS.mono (Xz s w) ?_
 rintro _ w0 ⟨rfl,rfl⟩
 refine⟨_,rfl,aS.mono (aHq _ 47 w0 (by rw[eY];show(bare (bl s)).length<=_;omega)) ?_⟩
 have eb:bl (bs (bare (bl s)))=bare (bl s):=rfl
 rw[eb]
 rintro _ w2 ⟨D2,rfl⟩
 refine⟨_,_,_,rfl,aS.mono (Wl _ w2 (by rw[eY];show(upto 47 (bare (bl s))).length<=_;omega)) ?_⟩
 rintro _ w3 ⟨E3,rfl⟩
 have E3':=(Ext.aO D2).trans E3
 have eu:bl (bs (upto 47 (bare (bl s))))=upto 47 (bare (bl s)):=rfl
 rw[eu]
 have no:∀(t:ByteArray) (e:Int) w4,Ext w0 w4->gJ (bl s)=none->e≠0->Ext w0 w4/\((gJ (bl s)=none/\e≠0)\/∃q,gJ (bl s)=some q/\e=0/\jG (bl t) q):=fun t e w4 E h1 h2=>⟨E,.inl ⟨h1,h2⟩⟩
 refine⟨_,rfl,fun hf=> ?_,fun hf=> ?_⟩
 ·have hf':Eo (upto 47 (bare (bl s)))=false:=by simpa using hf
  exact⟨fun _=>no _ _ _ E3' (by unfold gJ;rw[hf'];rfl) (by decide),fun h=>by cases h⟩
 have hf':Eo (upto 47 (bare (bl s)))=true:=by simpa using hf
 have hne:s≠.empty:=fun e=>by subst e;cases hf'
 have last:∀w7,Ext w0 w7->(∀d,past 47 (bare (bl s))=some d->Eo d=true/\dv d≠0)->pF (fun t e w'=>Ext w0 w'/\((gJ (bl s)=none/\e≠0)\/∃q,gJ (bl s)=some q/\e=0/\jG (bl t) q)) s (bs (upto 47 (bare (bl s)))) (bs ((past 47 (bare (bl s))).getD [])) (past 47 (bare (bl s))).isSome false w7:=fun w7 E hd=>by
  have hq:=Xv hf' hd
  generalize mkRat (sg (Cc (bl s)) (dv (upto 47 (bare (bl s))))) ((past 47 (bare (bl s))).elim 1 dv)=q at hq
  refine⟨fun h=>(by cases h),fun _ p w8 hN=> ?_⟩
  obtain⟨k,kb⟩:=Sd.new hN rfl
  have E8:=E.trans (Ext.bI hN)
  have hpl:((past 47 (bare (bl s))).getD []).length<=268435456:=by
   cases hp:past 47 (bare (bl s)) with
   |none=>simp
   |some d=>rw[hp] at hc;simp at hc⊢;omega
  refine aS.mono (aJl w8 (by omega) hne (by rw[eY,eu];omega) (by rw[eY];show((past 47 (bare (bl s))).getD []).length<=_;omega)) ?_
  rintro _ w9 ⟨rfl,t,rfl,ht⟩
  have e2:(if (past 47 (bare (bl s))).isSome then some (short (bl (bs ((past 47 (bare (bl s))).getD [])))) else none)=(past 47 (bare (bl s))).map short:=by
   cases past 47 (bare (bl s))<;>rfl
  rw[eu,e2] at ht
  have hpt:=aD4 hq
  rw[<-ht] at hpt
  have ltt:t.size<=1073741824:=by
   rw[eY,ht]
   have a1:=Ul (upto 47 (bare (bl s)))
   unfold tx
   rw[List.length_append,List.length_append]
   cases hp:past 47 (bare (bl s)) with
   |none=>cases Cc (bl s)<;>simp<;>omega
   |some d=>
    have a2:=Ul d
    rw[hp] at hpl
    simp at hpl
    cases Cc (bl s)<;>simp<;>omega
  refine⟨t,rfl,aS.mono (Yu ⟨_,_,_,k⟩ t (by omega)) ?_⟩
  rintro _ w10 ⟨k10,h1,h2⟩
  obtain⟨rfl,hR⟩:=h1 q hpt
  have E10:Ext w0 w10:=k10.bI E8 (by rw[kb];exact E.size)
  refine⟨_,_,rfl,fun h=>(by cases h),fun _=>aS.mono (Xn hR (aA4 hpt) (by have:=eY t;unfold Sh;omega)) ?_⟩
  rintro _ w11 ⟨t2,rfl,E11,ht2,_⟩
  exact⟨t2,rfl,E10.trans E11,.inr ⟨q,hq,rfl,ht2⟩⟩
 have cont:∀w4 b,Ext w0 w4->b=false->(∀d,past 47 (bare (bl s))=some d->Eo d=true)->oZ (fun t e w'=>Ext w0 w'/\((gJ (bl s)=none/\e≠0)\/∃q,gJ (bl s)=some q/\e=0/\jG (bl t) q)) (past 47 (bare (bl s))).isSome (bs ((past 47 (bare (bl s))).getD [])) s (bs (upto 47 (bare (bl s)))) b w4:=fun w4 b E hb hd=>by
  subst hb
  refine⟨fun h=>(by cases h),fun _=>⟨fun hsp=> ?_,fun hsp=> ?_⟩⟩
  ·obtain⟨d,hp⟩:=Option.isSome_iff_exists.1 hsp
   have hfd:=hd d hp
   have hdl:d.length<=268435456:=by rw[hp] at hc;simp at hc;omega
   have ed:bl (bs ((past 47 (bare (bl s))).getD []))=d:=by rw[hp];rfl
   refine Calls.mono (Any.strings_Trim_laid (P:=P) Tryz.laysTrim (by kernel_rfl) _ ⟨#[48]⟩ w4 (by rw[eY,ed];omega) (by decide) (ascii_of_all (by decide))) ?_
   rintro e w6 ⟨rfl,hb⟩
   have E6:=E.trans (aB8 hb)
   refine⟨_,rfl,_,rfl,?_⟩
   have hz:bl (bs (Lib.trimS (bl (bs ((past 47 (bare (bl s))).getD []))) [48]))=[]↔dv d=0:=by
    rw[ed,<-aG1 (lJ.1 hfd).2,<-aCq]
   by_cases h0:dv d=0
   ·have:bs (Lib.trimS (bl (bs ((past 47 (bare (bl s))).getD []))) [48])= .empty:=Ep.2 (hz.2 h0)
    refine⟨fun _=>no _ _ _ E6 ?_ (by decide),fun h=> ?_⟩
    ·unfold gJ
     rw[hp]
     simp[h0]
    ·rw[decide_eq_true this] at h;cases h
   ·have:¬bs (Lib.trimS (bl (bs ((past 47 (bare (bl s))).getD []))) [48])= .empty:=fun h=>h0 (hz.1 (Ep.1 h))
    refine(fun b (hb:b=false)=> ?_:∀b,b=false->pF _ s _ _ _ b w6) _ (decide_eq_false this)
    subst hb
    exact last w6 E6 fun d' hd'=>by
     rw[hp] at hd';cases hd';exact⟨hfd,h0⟩
  ·exact last w4 E fun d hd'=>by rw[hd'] at hsp;cases hsp
 refine⟨fun hsp=> ?_,fun hsp=>cont w3 false E3' rfl fun d hd=>by rw[hd] at hsp;cases hsp⟩
 obtain⟨d,hp⟩:=Option.isSome_iff_exists.1 hsp
 have hdl:d.length<=268435456:=by rw[hp] at hc;simp at hc;omega
 have ed:bl (bs ((past 47 (bare (bl s))).getD []))=d:=by rw[hp];rfl
 refine aS.mono (Wl _ w3 (by rw[eY,ed];omega)) ?_
 rintro _ w5 ⟨E5,rfl⟩
 refine⟨_,rfl,?_⟩
 rw[ed]
 cases hfd:Eo d with
 |false=>
  refine⟨fun _=>no _ _ _ (E3'.trans E5) ?_ (by decide),fun h=>(by cases h)⟩
  unfold gJ
  rw[hp]
  simp[hfd]
 |true=>exact cont w5 _ (E3'.trans E5) rfl fun d' hd=>by rw[hp] at hd;cases hd;exact hfd
end
theorem Rn {s:ByteArray} {j:Nat} {c:UInt8} (h:(bl s)[j]? =some c):byteAt s (j:Int)=(c.toNat:Int):=by
 rw[aCh,Int.toNat_natCast,h]
 rfl
theorem aIn {c:UInt8} (h:Dg c):IntKind.wrap .u8 ((c.toNat:Int)-48)=((dg c:Nat):Int):=by
 have h1:=h.1
 have h2:=h.2
 unfold dg
 simp only[IntKind.wrap,IntKind.bits,IntKind.signed]
 simp
 omega
theorem aCp (s:ByteArray) (w:World) (hd:Ls (bl s)) (hs:s.size<=1099511627776):Calls P F.qB #[.string s] w (aS fun v w'=>∃A n c,v= .slice A n c/\Ext w w'/\IN w' A n c (dv (bl s))):=by
 refine aS.mono (Rz s (fun A n c w'=>Ext w w'/\IN w' A n c (dv (bl s))) w ?_) (by rintro _ w' ⟨A,n,c,rfl,h⟩;exact⟨A,n,c,rfl,h⟩)
 have hz:=eY s
 unfold vK
 generalize hl:bl s=l at*
 rw[hz]
 rw[hz] at hs
 have hB:BB=1000000000:=rfl
 obtain⟨w2,hr,hO,E⟩:=IR.Qi (w:=w) (n:=0) (by decide)
 refine⟨_,0,_,w2,hr,fun q A n c to w'=>∃o:List Nat,q=to.toNat/\-8<=to/\9*(n:Int)+to=l.length/\IR w' A n c o/\Lo o/\Ext w w'/\(∀b,At A b->w.heap.size<=b)/\nv o+BB^n*dv (l.take to.toNat)=dv l,⟨l.length,[],by simp,by omega,by omega,hO,Lo.nil,E,fun b hb=>by have:=at_new hb;omega,by simp[nv]⟩,?_⟩
 rintro q A n c to w3 ⟨o,rfl,t0,t1,hO,lo,E3,hA,hv⟩
 have hol:=hO.len
 refine⟨fun hpos=> ?_,fun hneg=> ?_⟩
 ·obtain⟨t,rfl⟩:=Int.eq_ofNat_of_zero_le (Int.le_of_lt hpos)
  simp only[Int.toNat_natCast] at*
  have go:∀f:Int,f=((t-9:Nat):Int)->jV (t:Int) s w3 A n c t (fun q A n c to w'=>∃o:List Nat,q=to.toNat/\-8<=to/\9*(n:Int)+to=l.length/\IR w' A n c o/\Lo o/\Ext w w'/\(∀b,At A b->w.heap.size<=b)/\nv o+BB^n*dv (l.take to.toNat)=dv l) f:=fun f hf=>by
   subst hf
   have hchd:Ls ((l.take t).drop (t-9)):=(hd.take t).drop _
   have hchl:((l.take t).drop (t-9)).length=t-(t-9):=by rw[List.length_drop,List.length_take];omega
   generalize hc9:(l.take t).drop (t-9)=ch at*
   have hch9:ch.length<=9:=by omega
   refine⟨fun q x i=>∃j:Nat,q=ch.length-j/\j<=ch.length/\i=((t-9+j:Nat):Int)/\x=(dv (ch.take j):Int),⟨ch.length,0,by simp,by omega,by simp,by simp[dv]⟩,?_⟩
   rintro q x i ⟨j,rfl,hj,rfl,rfl⟩
   refine⟨fun hlt=> ?_,fun hge p w5 hN=> ?_⟩
   ·have hj:j<ch.length:=by omega
    have hcj:ch[j]? =some ch[j]:=List.getElem?_eq_getElem hj
    have hlj:l[t-9+j]? =some ch[j]:=by
     rw[<-hcj,<-hc9,List.getElem?_drop,List.getElem?_take,if_pos (by omega)]
    have hdg:=hchd _ (List.getElem_mem hj)
    rw[Rn (s:=s) (j:=t-9+j) (c:=ch[j]) (by rw[hl];exact hlj),aIn hdg]
    refine⟨by omega,by rw[hz];omega,ch.length-(j+1),by omega,j+1,rfl,by omega,?_,?_⟩
    ·rw[wrap_i64 (by omega) (by omega)];omega
    have hs1:dv (ch.take (j+1))=dv (ch.take j)*10+dg ch[j]:=by rw[List.take_succ,hcj,Option.toList_some,aGa]
    have hlt8:dv (ch.take j)<10^8:=Nat.lt_of_lt_of_le (Xp (hchd.take j)) (Nat.pow_le_pow_right (by decide) (by rw[List.length_take];omega))
    have hdl:=hdg.lt
    rw[hs1,wrap_i64 (i:=((dg ch[j]:Nat):Int)) (by omega) (by omega),wrap_i64 (i:=(dv (ch.take j):Int)*10) (by omega) (by omega),wrap_i64 (by omega) (by omega)]
    omega
   ·have hj:j=ch.length:=by omega
    subst hj
    rw[List.take_length] at hN
    obtain⟨A5,c5,w6,hr6,hR,E6,hA6⟩:=hO.push (w0:=w) hA E3 (w1:=w5) (d:=dv ch) (p:=p) hN (by unfold Sn;omega)
    rw[wrap_i64 (by omega) (by omega)]
    refine⟨A5,n+1,c5,w6,hr6,((t:Int)-9).toNat,by omega,o++[dv ch],rfl,by omega,by omega,hR,lo.append (Lo.cons (aEl hchd hch9) Lo.nil),E6,hA6,?_⟩
    rcases Nat.lt_or_ge t 9 with h9|h9
    ·rw[show((t:Int)-9).toNat=0 by omega,List.take_zero]
     have h0:dv []=0:=rfl
     rw[h0,Nat.mul_zero,Nat.add_zero]
     rw[show t-9=0 by omega,List.drop_zero] at hc9
     rw[<-hc9]
     exact aCm hol hv
    ·rw[show((t:Int)-9).toNat=t-9 by omega]
     exact aCn hol h9 (by omega) hv (by rw[hc9])
  rw[wrap_i64 (by omega) (by omega)]
  exact⟨fun h=>go 0 (by omega),fun h=>go _ (by omega)⟩
 ·have h0:to.toNat=0:=by omega
  rw[h0,List.take_zero] at hv
  have:dv []=0:=rfl
  rw[this,Nat.mul_zero,Nat.add_zero] at hv
  refine aS.mono (Oe hO lo (by unfold Sn;omega)) ?_
  rintro _ w7 ⟨rfl,m,rfl,_,hN⟩
  rw[hv] at hN
  exact⟨A,m,c,rfl,E3,hN⟩
theorem Zw {w:World} {A:Option Addr} {n c x:Nat} (h:IN w A n c x) (hn:Sh n):Calls P F.mO #[.slice A n c] w (aS fun v w'=>∃t,v= .string t/\Ext w w'/\wZ (bl t) x/\t.size<=9*n+1):=by
 have hz:=h.zero
 obtain⟨l,hL,lim,rfl⟩:=h
 refine aS.mono (Ot A n c (fun t w'=>Ext w w'/\wZ (bl t) (nv l)/\t.size<=9*n+1) w ?_) (by rintro _ w' ⟨t,rfl,h⟩;exact⟨t,rfl,h⟩)
 unfold Sh at hn
 have hl:=hL.len
 unfold sS
 refine⟨fun h0=> ?_,fun hne=> ?_⟩
 ·have:nv l=0:=hz.1 (by omega)
  rw[this]
  have h1:(⟨#[48]⟩:ByteArray).size=1:=rfl
  exact⟨Ext.refl w,⟨by simp,fun c hc=>by simp at hc;subst hc;exact⟨by decide,by decide⟩,.inl rfl,rfl⟩,by omega⟩
 have hne':l≠[]:=fun e=>by rw[e] at hl;simp at hl;omega
 have hdec:=aEq lim hne'
 obtain⟨w1,hr,hO1,E1⟩:=KR.make (w:=w) (t:=T.uF) (e:=T.uint8) (k:= .u8) (b:=1) (n:=9*n) (by kernel_rfl) (by kernel_rfl) (by kernel_rfl) (by decide) (by unfold Sn;omega)
 have ew:IntKind.wrap .i64 (9*(n:Int))=((9*n:Nat):Int):=by rw[wrap_i64 (by omega) (by omega)];omega
 rw[ew]
 refine⟨_,9*n,9*n,w1,hr,fun q i w'=>∃j:Nat,∃os:List UInt8,i=j/\q=n-j/\j<=n/\KR T.uint8 .u8 w' (some ⟨w.heap.size,0,none⟩) (9*n) (9*n) (os.map (·.toNat))/\os.drop (9*n-9*j)=yT (l.take j)/\Ext w w',⟨n,0,List.replicate (9*n) 0,rfl,by omega,by omega,by simpa using hO1,by simp[yT],E1⟩,?_⟩
 rintro q i w2 ⟨j,os,rfl,rfl,hj,hO,hd,E2⟩
 have hol:=hO.len
 rw[List.length_map] at hol
 refine⟨fun hlt=> ?_,fun hge=> ?_⟩
 ·obtain⟨ad,hA,hv,hc,_⟩:=(hL.ext E2).at_ (i:=(j:Int)) (by omega) (by omega)
  simp only[Int.toNat_natCast] at hv hc
  have hgl:=lim.lo.lg j
  have hB:BB=1000000000:=rfl
  refine⟨by omega,hlt,ad,hA,_,hc,fun q x i w'=>∃m:Nat,∃os:List UInt8,i=m/\q=9-m/\m<=9/\x=((lg l j/10^m:Nat):Int)/\KR T.uint8 .u8 w' (some ⟨w.heap.size,0,none⟩) (9*n) (9*n) (os.map (·.toNat))/\os.drop (9*n-9*j-m)=Zr (lg l j) m++yT (l.take j)/\Ext w w',⟨9,0,os,rfl,rfl,by omega,by simp,hO,by simpa [Zr] using hd,E2⟩,?_⟩
  rintro q x i w3 ⟨m,os,rfl,rfl,hm,rfl,hO,hd,E3⟩
  have hol:=hO.len
  rw[List.length_map] at hol
  refine⟨fun h9=> ?_,fun h9=> ?_⟩
  ·have em:IntKind.wrap .i64 (IntKind.wrap .i64 (IntKind.wrap .i64 (((9*n:Nat):Int)-1)-IntKind.wrap .i64 (9*(j:Int)))-(m:Int))=((9*n-9*j-(m+1):Nat):Int):=by
    rw[wrap_i64 (i:=((9*n:Nat):Int)-1) (by omega) (by omega),wrap_i64 (i:=9*(j:Int)) (by omega) (by omega),wrap_i64 (i:=((9*n:Nat):Int)-1-9*(j:Int)) (by omega) (by omega),wrap_i64 (by omega) (by omega)];omega
   rw[em]
   simp only[Int.toNat_natCast]
   obtain⟨a2,ha2,_,hc2,hf2⟩:=hO.at_ (i:=((9*n-9*j-(m+1):Nat):Int)) (by omega) (by omega)
   simp only[Int.toNat_natCast] at hc2 hf2
   refine⟨by omega,by omega,a2,ha2,⟨_,hc2⟩,hf2,fun w4 hw4=> ?_⟩
   have hq:lg l j/10^m<BB:=Nat.lt_of_le_of_lt (Nat.div_le_self _ _) hgl
   have ev:IntKind.wrap .u8 (IntKind.wrap .i64 (48+Int.tmod ((lg l j/10^m:Nat):Int) 10))=((Ub (lg l j) m).toNat:Int):=by
    have e1:Int.tmod ((lg l j/10^m:Nat):Int) 10=((lg l j/10^m%10:Nat):Int):=(Int.ofNat_tmod _ 10).symm
    have hlt10:lg l j/10^m%10<10:=Nat.mod_lt _ (by decide)
    have e2:(Ub (lg l j) m).toNat=48+lg l j/10^m%10:=by
     unfold Ub
     rw[UInt8.toNat_ofNat']
     exact Nat.mod_eq_of_lt (by omega)
    rw[e1,e2,wrap_i64 (by omega) (by omega)]
    simp only[IntKind.wrap,IntKind.bits,IntKind.signed]
    simp
    omega
   rw[ev] at hw4
   obtain⟨hO4,hK4⟩:=hO.put ha2 (j:=9*n-9*j-(m+1)) (d:=(Ub (lg l j) m).toNat) (by omega) hw4
   have ed:Int.tdiv ((lg l j/10^m:Nat):Int) 10=((lg l j/10^(m+1):Nat):Int):=by
    rw[Nat.pow_succ,<-Nat.div_div_eq_div_mul]
    exact(Int.ofNat_tdiv _ 10).symm
   have hq2:lg l j/10^(m+1)<BB:=Nat.lt_of_le_of_lt (Nat.div_le_self _ _) hgl
   rw[ed,wrap_i64 (Int.le_trans (by decide) (Int.natCast_nonneg _)) (Int.le_trans (Int.le_of_lt (Int.ofNat_lt.2 hq2)) (by decide)),wrap_i64 (i:=(m:Int)+1) (by omega) (by omega)]
   refine⟨9-(m+1),by omega,m+1,os.set (9*n-9*j-(m+1)) (Ub (lg l j) m),rfl,rfl,by omega,rfl,?_,?_,E3.over hK4 fun i hi ha=> ?_⟩
   ·rw[List.map_set];exact hO4
   ·have hlt:9*n-9*j-(m+1)<(os.set (9*n-9*j-(m+1)) (Ub (lg l j) m)).length:=by rw[List.length_set];omega
    rw[List.drop_eq_getElem_cons hlt,List.getElem_set_self,List.drop_set_of_lt (by omega),show 9*n-9*j-(m+1)+1=9*n-9*j-m by omega,hd]
    rfl
   ·have:=at_new ha;omega
  ·have hm9:m=9:=by omega
   subst hm9
   rw[wrap_i64 (by omega) (by omega)]
   refine⟨n-(j+1),by omega,j+1,os,rfl,rfl,by omega,hO,?_,E3⟩
   rw[show 9*n-9*(j+1)=9*n-9*j-9 by omega,hd,List.take_succ,hv,Option.toList_some,Zg]
 ·have hj:j=n:=by omega
  subst hj
  rw[Nat.sub_self,List.drop_zero,<-hl,List.take_length] at hd
  subst hd
  have hdl:(yT l).length=9*j:=hol
  refine⟨fun q i=>∃t:Nat,i=t/\q=9*j-t/\t<=9*j/\rG (yT l)=rG ((yT l).drop t),⟨9*j,0,rfl,rfl,by omega,rfl⟩,?_⟩
  rintro q i ⟨t,rfl,rfl,ht,he⟩
  have htl:t<9*j:=by
   rcases Nat.lt_or_ge t (9*j) with h|h
   ·exact h
   ·rw[List.drop_eq_nil_of_le (by omega)] at he
    exact absurd he hdec.ne
  have hat:=List.getElem?_eq_getElem (l:=yT l) (i:=t) (by omega)
  obtain⟨a2,ha2,hv2,hc2,_⟩:=hO.at_ (i:=(t:Int)) (by omega) (by omega)
  simp only[Int.toNat_natCast] at hv2 hc2
  rw[List.getElem?_map,hat,Option.map_some,Option.some.injEq] at hv2
  rw[<-hv2] at hc2
  rw[List.drop_eq_getElem_cons (by omega)] at he
  conv at he=>rhs;unfold rG
  refine⟨by omega,by omega,a2,ha2,_,hc2,fun h48=> ?_,fun h48=> ?_⟩
  ·refine⟨9*j-(t+1),by omega,t+1,by rw[wrap_i64 (by omega) (by omega)];omega,rfl,by omega,?_⟩
   have:(yT l)[t]=48:=UInt8.toNat_inj.1 (by have:(48:UInt8).toNat=48:=rfl;omega)
   rw[if_pos this] at he
   exact he
  ·have h48':¬(yT l)[t]=48:=fun e=>h48 (by rw[e];rfl)
   rw[if_neg h48',<-List.drop_eq_getElem_cons (by omega:t<(yT l).length)] at he
   have hsub:xC (some ⟨w.heap.size,0,none⟩) (9*j) t 1=some ⟨w.heap.size,t,none⟩:=by
    unfold xC
    rw[if_neg (by omega)]
    show some ((⟨w.heap.size,0,none⟩:Addr).add (t*1))=_
    rw[Nat.mul_one,rJ,Nat.zero_add]
   have hcv:=run_convert_bytes_back (P:=P) w2 T.uF T.string T.uint8 ⟨w.heap.size,t,none⟩ (9*j-t) ((yT l).drop t) (by kernel_rfl) (by kernel_rfl) (by kernel_rfl) (fun k hk=>by
    rw[List.length_drop] at hk
    obtain⟨a3,ha3,hv3,hc3,_⟩:=hO.at_ (i:=((t+k:Nat):Int)) (by omega) (by omega)
    cases ha3
    simp only[Int.toNat_natCast,Nat.mul_one] at hv3 hc3
    rw[rJ,Nat.zero_add] at hc3
    rw[rJ,hc3]
    rw[List.getElem?_map,List.getElem?_eq_getElem (by omega),Option.map_some,Option.some.injEq] at hv3
    rw[<-hv3,List.getElem_drop])
   rw[List.length_drop,hdl] at hcv
   simp only[Int.toNat_natCast]
   rw[hsub]
   refine⟨by omega,by omega,_,hcv,E2,?_,?_⟩
   ·show wZ ((yT l).drop t) _
    rw[<-he]
    exact hdec
   ·rw[eY]
    show((yT l).drop t).length<=_
    rw[List.length_drop]
    omega
noncomputable def yI (s:ByteArray):Bool:=dec (∃q,jG (bl s) q)
def Zi:Cod (ByteArray×ByteArray):=⟨2,fun _ vs x=>vs=[.string x.1,.string x.2],fun _ h=>h⟩
def zT:Cod ((ByteArray×ByteArray)×(ByteArray×ByteArray)):=⟨4,fun _ vs x=>vs=[.string x.1.1,.string x.1.2,.string x.2.1,.string x.2.2],fun _ h=>h⟩
noncomputable def Kv (d:ByteArray×ByteArray):Bool:=yI d.1&&yI d.2
def uT (w:World) (p:Addr) (t f o:Bool):Prop:=Sd w p T.Bj [.bool t,.bool f,.bool o]
section
variable {w w':World} {p o:Addr} {q r:Rat} {A:Option Addr} {n c k:Nat} {t f u:Bool} {s:ByteArray}
theorem aDb (s:ByteArray) (w:World) (hs:Ts s.size):Calls P F.Cm #[.string s] w (aS fun v w'=>Ext w w'/\v= .bool (yI s)):=by
 refine aS.mono (Zc s (fun b w'=>Ext w w'/\b=yI s) w (aS.mono (aH7 s w hs) ?_)) (by rintro _ w' ⟨b,rfl,h,rfl⟩;exact⟨h,rfl⟩)
 rintro _ w1 ⟨E,t,e,rfl,⟨hn,he⟩|⟨q,hq,rfl,ht⟩⟩
 ·refine⟨t,e,rfl,fun h=>absurd h he,fun _=>⟨E,aDj ⟨fun h=>(by cases h),fun h=>absurd h (aFp hn)⟩⟩⟩
 ·refine⟨t,0,rfl,fun _=>⟨E,aDj ?_⟩,fun h=>absurd rfl h⟩
  rw[decide_eq_true_iff,<-aCj hq ht]
  exact⟨fun h=>by rw[h],fun h=>Xb h⟩
theorem aHu {s:ByteArray} (h:jG (bl s) q) (hs:Ts s.size):Calls P F.Xu #[.string s] w (aS fun v w'=>∃o,v= .pointer (some o)/\Ext w w'/\dX w' o q/\w.heap.size<=o.block):=by
 refine aS.mono (aFs s (fun v w'=>∃o,v=some o/\Ext w w'/\dX w' o q/\w.heap.size<=o.block) w ?_) (by rintro _ w' ⟨v,rfl,o,rfl,h⟩;exact⟨o,rfl,h⟩)
 intro p w1 hN
 obtain⟨k,kb⟩:=Sd.new hN rfl
 unfold Ts at hs
 refine aS.mono (Yu ⟨_,_,_,k⟩ s (by omega)) ?_
 rintro _ w2 ⟨k2,h1,_⟩
 obtain⟨rfl,hR⟩:=h1 q (Ny h)
 exact⟨_,_,rfl,fun h=>(by cases h),fun _=>⟨p,rfl,k2.bI (Ext.bI hN) (by omega),hR,by omega⟩⟩
theorem aGx:Calls P F.aAp #[] w (aS fun v w'=>∃o,v= .pointer (some o)/\Ext w w'/\dX w' o 1/\w.heap.size<=o.block):=by
 refine aS.mono (aFq (fun v w'=>∃o,v=some o/\Ext w w'/\dX w' o 1/\w.heap.size<=o.block) w (aS.mono (aHb (by decide) (by decide)) ?_)) (by rintro _ w' ⟨v,rfl,o,rfl,h⟩;exact⟨o,rfl,h⟩)
 rintro _ w' ⟨o,rfl,E,hR,hb⟩
 exact⟨_,rfl,o,rfl,E,hR,hb⟩
theorem aI4 {xs:List ByteArray} (hF:uT w p t f u) (hT:∀w',Kp p w w'->Sl cStr w' A n xs) (hs:∀x∈xs,Ts x.size) (hn:Sn n):Calls P F.zL #[.pointer (some p),.slice A n c] w (aS fun v w'=>v= .pointer (some p)/\Kp p w w'/\uT w' p (t|| !xs.all yI) f u):=by
 refine aS.mono (Yt p A n c (fun v w'=>v=some p/\Kp p w w'/\uT w' p (t|| !xs.all yI) f u) w ?_) (by rintro _ w' ⟨v,rfl,rfl,h⟩;exact⟨rfl,h⟩)
 have hl:=(hT w (Keep.refl _ _)).1
 unfold Sn at hn
 refine⟨fun m i w'=>∃j:Nat,i=j/\m=n-j/\j<=n/\Kp p w w'/\uT w' p (t|| !(xs.take j).all yI) f u,⟨n,0,rfl,by omega,by omega,Keep.refl _ _,by simpa using hF⟩,?_⟩
 rintro m i w1 ⟨j,rfl,rfl,hj,K1,F1⟩
 refine⟨fun hlt=> ?_,fun hge=> ?_⟩
 ·have hjl:j<xs.length:=by omega
  obtain⟨a,vs,ha,_,hc,hr⟩:=(hT w1 K1).2 j xs[j] (List.getElem?_eq_getElem hjl)
  have hv:vs=[.string xs[j]]:=hr
  subst hv
  have hcell:w1.cell? (a.add (j*1))=some (.string xs[j]):=hc.at 0 rfl
  refine⟨by omega,hlt,a,ha,xs[j],by simpa using hcell,?_⟩
  refine aS.mono (aDb _ w1 (hs _ (List.getElem_mem hjl))) ?_
  rintro _ w2 ⟨E2,rfl⟩
  have e:(xs.take (j+1)).all yI=((xs.take j).all yI&&yI xs[j]):=by
   rw[List.take_succ,List.getElem?_eq_getElem hjl,Option.toList_some,List.all_append]
   simp
  have next:∀w4,Kp p w w4->uT w4 p (t|| !(xs.take (j+1)).all yI) f u->lN (n-j) (fun m i w'=>∃j:Nat,i=j/\m=n-j/\j<=n/\Kp p w w'/\uT w' p (t|| !(xs.take j).all yI) f u) (j:Int) w4:=fun w4 K F=>⟨n-(j+1),by omega,j+1,by rw[wrap_i64 (by omega) (by omega)];omega,rfl,by omega,K,F⟩
  have F2:uT w2 p _ f u:=Sd.ext F1 E2
  have K2:=K1.trans (Kp.uP E2)
  refine⟨_,rfl,fun hc=>⟨⟨_,F2.cell (i:=0) rfl⟩,Sd.fro F2 0,fun w3 h3=> ?_⟩,fun hc=>next w2 K2 ?_⟩
  ·obtain⟨k3,K3⟩:=Sd.set F2 h3
   refine next w3 (K2.trans K3) ?_
   have:yI xs[j]=false:=by simpa using hc
   rw[e,this]
   simpa [uT] using k3
  ·have:yI xs[j]=true:=by simpa using hc
   rw[e,this,Bool.and_true]
   exact F2
 ·have hj:j=xs.length:=by omega
  subst hj
  rw[List.take_length] at F1
  exact⟨rfl,K1,F1⟩
theorem aFk {p:Addr} {w w':World} {T:TypeId} {s1 s2:ByteArray} (h:New w (.cells #[.string s1,.string s2] T) p w') {z:Addr} {w2:World} (k:Kp z w' w2) (hz:z.block≠p.block):Sl cStr w2 (some p) 2 [s1,s2]:=by
 refine⟨rfl,fun i x hx=>⟨p,[.string x],rfl,rfl,?_,rfl⟩⟩
 have hc:=(h.cells rfl:bC w' p [.string s1,.string s2])
 rcases i with _|_|i
 ·cases hx
  intro j v hj
  rcases j with _|j
  ·cases hj
   exact k.cell ⟨hc.at 0 rfl,fun e=>hz (by rw[<-e,Addr.add_block,Addr.add_block])⟩
  ·cases hj
 ·cases hx
  intro j v hj
  rcases j with _|j
  ·cases hj
   exact k.cell ⟨hc.at 1 rfl,fun e=>hz (by rw[<-e,Addr.add_block,Addr.add_block])⟩
  ·cases hj
 ·cases hx
theorem aIh (hF:uT w p t f u):Calls P F.xY #[.pointer (some p)] w (aS fun v w'=>w'=w/\v= .int .i64 (if t then 1 else if f then 4 else if u then 6 else 0)):=by
 refine aS.mono (Wy p (fun v w'=>w'=w/\v=(if t then 1 else if f then 4 else if u then 6 else 0)) w ?_) (by rintro _ w' ⟨v,rfl,h,rfl⟩;exact⟨h,rfl⟩)
 refine⟨t,hF.cell (i:=0) rfl,fun h=>⟨rfl,by rw[h];rfl⟩,fun h=>⟨f,hF.cell (i:=1) rfl,fun h2=>⟨rfl,by rw[h,h2];rfl⟩,fun h2=>⟨u,hF.cell (i:=2) rfl,fun h3=>⟨rfl,by rw[h,h2,h3];rfl⟩,fun h3=>⟨rfl,by rw[h,h2,h3];rfl⟩⟩⟩⟩
theorem aHi {xs:List (ByteArray×ByteArray)} (hF:uT w p t f u) (hT:∀w',Kp p w w'->Sl Zi w' A n xs) (hs:∀x∈xs,Ts x.1.size/\Ts x.2.size) (hn:Sn n):Calls P F.wQ #[.pointer (some p),.slice A n c] w (aS fun v w'=>v= .pointer (some p)/\Kp p w w'/\uT w' p (t|| !xs.all Kv) f u):=by
 refine aS.mono (Vw p A n c (fun v w'=>v=some p/\Kp p w w'/\uT w' p (t|| !xs.all Kv) f u) w ?_) (by rintro _ w' ⟨v,rfl,rfl,h⟩;exact⟨rfl,h⟩)
 have hl:=(hT w (Keep.refl _ _)).1
 unfold Sn at hn
 refine⟨fun m i w'=>∃j:Nat,i=j/\m=n-j/\j<=n/\Kp p w w'/\uT w' p (t|| !(xs.take j).all Kv) f u,⟨n,0,rfl,by omega,by omega,Keep.refl _ _,by simpa using hF⟩,?_⟩
 rintro m i w1 ⟨j,rfl,rfl,hj,K1,F1⟩
 refine⟨fun hlt=> ?_,fun hge=> ?_⟩
 ·have hjl:j<xs.length:=by omega
  obtain⟨a,vs,ha,_,hc,hr⟩:=(hT w1 K1).2 j xs[j] (List.getElem?_eq_getElem hjl)
  have hv:vs=[.string xs[j].1,.string xs[j].2]:=hr
  subst hv
  refine⟨by omega,hlt,a,ha,xs[j].1,xs[j].2,(show bC w1 (a.add (((j:Nat):Int).toNat*2)) _ from hc),fun p2 w2 hN2=>⟨hN2.soft rfl,fun w3 hw3=> ?_⟩⟩
  have hN3:=hN2.store hw3 rfl
  have c3:=(hN3.cells rfl:bC w3 p2 [.string xs[j].1,.string xs[j].2])
  refine⟨_,c3.at 0 rfl,_,c3.at 1 rfl,fun p3 w4 hN4=> ?_⟩
  have F4:uT w4 p _ f u:=Sd.ext (Sd.ext F1 (Ext.bI hN3)) (Ext.bI hN4)
  have lt:=Sd.lt F1
  have hb:=hN4.block
  have sz:=(Ext.bI hN3).size
  have hsj:=hs _ (List.getElem_mem hjl)
  refine aS.mono (aI4 (n:=2) F4 (fun w' k=>aFk hN4 k (by omega)) (fun x hx=>by
   simp only[List.mem_cons,List.not_mem_nil,or_false] at hx
   rcases hx with rfl|rfl
   ·exact hsj.1
   ·exact hsj.2) (by decide)) ?_
  rintro _ w5 ⟨rfl,K5,F5⟩
  have e:(xs.take (j+1)).all Kv=((xs.take j).all Kv&&Kv xs[j]):=by
   rw[List.take_succ,List.getElem?_eq_getElem hjl,Option.toList_some,List.all_append]
   simp
  refine⟨_,rfl,n-(j+1),by omega,j+1,by rw[wrap_i64 (by omega) (by omega)];omega,rfl,by omega,(K1.trans (Kp.uP ((Ext.bI hN3).trans (Ext.bI hN4)))).trans K5,?_⟩
  rw[e]
  have e2:(t|| !(xs.take j).all Kv|| ![xs[j].1,xs[j].2].all yI)=(t|| !((xs.take j).all Kv&&Kv xs[j])):=by
   unfold Kv
   simp[Bool.or_assoc]
  rw[e2] at F5
  exact F5
 ·have hj:j=xs.length:=by omega
  subst hj
  rw[List.take_length] at F1
  exact⟨rfl,K1,F1⟩
def DAt (w:World) (a b:Addr) (d:Rat×Rat):Prop:=dX w a d.1/\dX w b d.2
theorem DAt.ext {a b:Addr} {d:Rat×Rat} (h:DAt w a b d) (E:Ext w w'):DAt w' a b d:=⟨h.1.ext E,h.2.ext E⟩
def IsD (s:ByteArray×ByteArray) (d:Rat×Rat):Prop:=jG (bl s.1) d.1/\jG (bl s.2) d.2
theorem aJ6 {d:Rat×Rat} {s:ByteArray×ByteArray} (h:IsD s d) (hs:Ts s.1.size/\Ts s.2.size):Calls P F.tH #[.agg #[.string s.1,.string s.2]] w (aS fun v w'=>∃a b,v= .agg #[.pointer (some a),.pointer (some b)]/\Ext w w'/\DAt w' a b d):=by
 refine aS.mono (aG4 s.1 s.2 (fun a b w'=>∃a' b',a=some a'/\b=some b'/\Ext w w'/\DAt w' a' b' d) w ?_) (by rintro _ w' ⟨a,b,rfl,a',b',rfl,rfl,h⟩;exact⟨a',b',rfl,h⟩)
 intro p1 w1 hN1 p2 w2 hN2
 have c1:=(hN1.cells rfl:bC w1 p1 [.string s.1,.string s.2])
 have c2:=(Ext.bI hN2).cells c1
 have E2:=(Ext.bI hN1).trans (Ext.bI hN2)
 refine⟨fun _=>False,s.1,c2.at 0 rfl,s.2,c2.at 1 rfl,id,fun w4 D4=>aS.mono (aHu h.1 hs.1) ?_⟩
 rintro _ w3 ⟨a,rfl,E3,ra,_⟩
 have E43:=(Ext.aO D4).trans E3
 refine⟨_,rfl,E43,fun w7 D7=>aS.mono (aHu h.2 hs.2) ?_⟩
 rintro _ w6 ⟨b,rfl,E6,rb,_⟩
 refine⟨_,rfl,fun w12 D12=> ?_⟩
 have E12:=((E43.drawn D7).trans E6).drawn D12
 have s2:=E12.soft (hN2.soft rfl) (fun h=>h)
 refine⟨s2,fun w9 h9 w10 D10=> ?_⟩
 have K9:Ext w w9:=Keep.over (E2.trans E12) (mD h9) fun i hi e=>by
  have:=hN2.block
  have:=(Ext.bI hN1).size
  subst e
  omega
 have cc:=(Ext.aO D10).cells (aG6 h9 s2)
 refine⟨_,_,cc,a,b,rfl,rfl,K9.drawn D10,?_⟩
 have K912:=mD h9
 have hsd:Qd w12 p2\/True:= .inr trivial
 have lt2:=hN2.lt
 have keepR:∀o q,dX w12 o q->o.block≠p2.block->dX w9 o q:=fun o q hR hne=>by
  obtain⟨s,A,n,c,B,m,d,x,y,h1,h2,h3,h4⟩:=hR
  have p2b:Sd w12 p2 T.eH [.pointer none,.pointer none]:=(Sd.new hN2 rfl).1.ext E12
  exact⟨s,A,n,c,B,m,d,x,y,h1.keep K912 hne,h2.sd p2b (by decide) K912,h3.imp id fun h=>⟨h.1,h.2.sd p2b (by decide) K912⟩,h4⟩
 have ra':=ra.ext (((Ext.aO D7).trans E6).drawn D12)
 have rb':=rb.ext (Ext.aO D12)
 have p2b:Sd w12 p2 T.eH [.pointer none,.pointer none]:=(Sd.new hN2 rfl).1.ext E12
 have ne:∀o q,dX w12 o q->o.block≠p2.block:=fun o q hR e=>by
  obtain⟨s,A,n,c,B,m,d,x,y,h1,_⟩:=hR
  have:=(h1.same p2b e).2.1
  exact absurd this (by decide)
 exact⟨(keepR _ _ ra' (ne _ _ ra')).ext (Ext.aO D10),(keepR _ _ rb' (ne _ _ rb')).ext (Ext.aO D10)⟩
def Zb (d e:Rat×Rat):Int:=if Vk d.1 e.1≠0 then Vk d.1 e.1 else Vk d.2 e.2
theorem aD5 {a b a' b':Addr} {d e:Rat×Rat} {k:Nat} (h:DAt w a b d) (h':DAt w a' b' e) (l1:mF d.1 k) (l2:mF d.2 k) (l3:mF e.1 k) (l4:mF e.2 k) (hk:Sh (k+k)):Calls P F.Df #[.agg #[.pointer (some a),.pointer (some b)],.agg #[.pointer (some a'),.pointer (some b')]] w (aS fun v w'=>Ext w w'/\v= .int .i64 (Zb d e)):=by
 refine aS.mono (Yy (some a) (some b) (some a') (some b') (fun v w'=>Ext w w'/\v=Zb d e) w ?_) (by rintro _ w' ⟨v,rfl,h,rfl⟩;exact⟨h,rfl⟩)
 intro p1 w1 hN1 p2 w2 hN2
 have c1:=(Ext.bI hN2).cells (hN1.cells rfl:bC w1 p1 [.pointer (some a),.pointer (some b)])
 have c2:=(hN2.cells rfl:bC w2 p2 [.pointer (some a'),.pointer (some b')])
 have E2:=(Ext.bI hN1).trans (Ext.bI hN2)
 refine⟨_,c1.at 0 rfl,_,c2.at 0 rfl,aS.mono (Yz (h.1.ext E2) (h'.1.ext E2) l1 l3 hk) ?_⟩
 rintro _ w3 ⟨E3,rfl⟩
 have E:=E2.trans E3
 refine⟨_,rfl,fun hne=>⟨E,?_⟩,fun he=>⟨_,(E3.cells c1).at 1 rfl,_,(E3.cells c2).at 1 rfl,aS.mono (Yz (h.2.ext E) (h'.2.ext E) l2 l4 hk) ?_⟩⟩
 ·unfold Zb
  rw[if_pos hne]
 ·rintro _ w4 ⟨E4,rfl⟩
  refine⟨_,rfl,E.trans E4,?_⟩
  unfold Zb
  rw[if_neg he]
end
end Go.Proofs.YtfedkedpgdphdaaGreatDoor
