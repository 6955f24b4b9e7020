/- Towards the laws of this seat. Gathered by a program (pack.py) out of smaller texts. -/
import Derived.Test.YtnbakpoahcndpaaGreatDoorCommon5
set_option linter.unusedSectionVars false
set_option linter.unusedVariables false
set_option linter.unusedSimpArgs false
set_option maxHeartbeats 2000000
set_option maxRecDepth 20000
namespace Go.Proofs.YtnbakpoahcndpaaGreatDoor
open Wk
def jO (K:Bool->World->Prop) (k1:Nat) (I1:Nat->Int->World->Prop) (x5:Int) (b2:Bool) (w4:World):Prop:=
 (b2=true->(K true w4))/\(b2=false->(∃k2,k2<k1/\I1 k2 (IntKind.wrap .i64 (x5+1)) w4))
def Bz (A1:Option Addr) (n1 c1:Nat) (x1:Int) (x2:Int) (x3:Int) (x4:Int) (A2:Option Addr) (n2 c2:Nat) (K:Bool->World->Prop) (w:World):Prop:=
 ∀(p1:Addr) (w1:World),New w (.cells #[iv x1,iv x2,iv x3,iv x4,.slice A2 n2 c2] T.iT) p1 w1->(∃I1:Nat->Int->World->Prop,(∃k1,I1 k1 0 w1)/\∀k1 (x5:Int) (w2:World),I1 k1 x5 w2->((x5<(n1:Int)->(0<=x5/\x5<(n1:Int)/\∃a1,A1=some a1/\∃x6,w2.cell? ((a1.add (x5.toNat*5)).add 0)=some (iv x6)/\(x6=1->(0<=x5/\x5<(n1:Int)/\∃a2,A1=some a2/\∃x7,w2.cell? ((a2.add (x5.toNat*5)).add 1)=some (iv x7)/\∃x8,w2.cell? (p1.add 1)=some (iv x8)/\(x7=x8->(0<=x5/\x5<(n1:Int)/\∃a3,A1=some a3/\∃x9,w2.cell? ((a3.add (x5.toNat*5)).add 2)=some (iv x9)/\∃x10,w2.cell? (p1.add 2)=some (iv x10)/\(x9=x10->(0<=x5/\x5<(n1:Int)/\∃a4,A1=some a4/\∃x11,w2.cell? ((a4.add (x5.toNat*5)).add 3)=some (iv x11)/\∃x12,w2.cell? (p1.add 3)=some (iv x12)/\∀w3,aO w2 w3->((jO K k1 I1 x5) (decide (x11=x12)) w3)))/\(¬(x9=x10)->(∀w5,aO w2 w5->((jO K k1 I1 x5) false w5)))))/\(¬(x7=x8)->(∀w6,aO w2 w6->((jO K k1 I1 x5) false w6)))))/\(¬(x6=1)->(∀w7,aO w2 w7->((jO K k1 I1 x5) false w7)))))/\(¬(x5<(n1:Int))->(K false w2))))
theorem Za (A1:Option Addr) (n1 c1:Nat) (x1:Int) (x2:Int) (x3:Int) (x4:Int) (A2:Option Addr) (n2 c2:Nat) (K:Bool->World->Prop) (w:World) (H:Bz A1 n1 c1 x1 x2 x3 x4 A2 n2 c2 K w):Calls P F.Ag #[.slice A1 n1 c1,.agg #[iv x1,iv x2,iv x3,iv x4,.slice A2 n2 c2]] w (cO fun v w'=>∃b1,v=(.bool b1)/\K b1 w'):=by
 unfold Bz at H;refine bT (P:=P) Tryz.func89 rfl [(0,.slice A1 n1 c1),(1,.agg #[iv x1,iv x2,iv x3,iv x4,.slice A2 n2 c2])] 48 rfl rfl (aa rfl (aa rfl az)) (aG (aF (iP (f:=(fun p=> .pointer (some p))) rfl rfl (aI rfl) (fun a ha=>uM (ha.ev rfl) uO) ?_)));intro p1 w1 hN;replace H:=H _ _ hN;refine ag rfl (aH (nc (y2 0 3 rfl) (aG (aG (aF (ag rfl (aH (nc (y3 0 3 5 rfl) (aY ?_)))))))));obtain⟨I1,⟨k1,hi⟩,H⟩:=H;refine fK (fun k1 a w'=>∃x5,Ok 48 [(0,.slice A1 n1 c1),(3,.pointer (some p1)),(5,iv x5)] a/\I1 k1 x5 w') (fun a ha=>⟨k1,0,ha.weaken cs,hi⟩) ?_;rintro k1 a w2 ⟨x5,ha,hI⟩;replace H:=H k1 x5 w2 hI;refine cu ha ?_;refine aG (aG (aF (mv rfl (mv rfl (sv rfl rfl (xb rfl (fun _=>bW TF.lD)) (bo rfl rfl iY (aH (nc (y4 0 3 5 9 rfl) ?_))))))));refine bC rfl (fun hb=> ?_) (fun hb=> ?_)
 ·replace H:=H.1 hb;refine aX (nc (y3 0 3 5 rfl) (aG (aY ?_)));refine fA (fun a w=>∃b2,Ok 48 [(0,.slice A1 n1 c1),(3,.pointer (some p1)),(5,iv x5),(47,.bool b2)] a/\jO K k1 I1 x5 b2 w) ?_ ?_
  ·rintro a w4 ⟨b2,ha,H⟩;unfold jO at H;refine cu ha ?_;refine eG rfl (fun hb=> ?_) (fun hb=> ?_)
   ·replace H:=H.1 hb;exact aG (aF (ag rfl (aH (nc (kp 4 rfl zz) (bK (bF (aQ (aQ (bF (aQ (aN (res1 rfl rfl) ⟨_,rfl,_,rfl,H⟩)))))))))))
   ·replace H:=H.2 hb;refine aX (bZ (nc (y3 0 3 5 rfl) (aF (mv rfl (bo rfl rfl kC (ag rfl (aH ?_)))))));obtain⟨k2,hk,H⟩:=H;exact bD fun a ha=>⟨k2,hk,IntKind.wrap .i64 (x5+1),ha.weaken cs,H⟩
  ·refine bU follows [0,1,2,3,4,5,6,7,8,9,10,11,12,13,14,15,16,17,18,19,20,21,22,23,24,25,26,27,28,29,30,31,32,33,34,35] [4,11,13,21,23,31,33] 36 rfl rfl (by kernel_rfl) (fun _ _ d _ _ h=>by cases d<;>exact h) (fun cm W D=> ?_);refine gZ 0 cm rfl rfl D W fun _ D W=>(gZ 1 cm rfl rfl D W fun _ D W=> ?_);obtain⟨h2,h3,a1,e1,H⟩:=H;refine Ie 2 cm rfl rfl rfl (aU TF.eX TF.dP e1 h2 h3) D W fun _ D W=>(lH 3 cm rfl rfl (TF.wI _ _) D W fun _ D W=> ?_);obtain⟨x6,h4,H⟩:=H;refine vl 4 cm rfl rfl (fun hw=>(aJ TF.aP ((hw.cell _).trans h4))) D W fun _ D W=>(pv 5 cm rfl rfl rfl (fun w' a ha=>fZ (ha.ev rfl) (ha.ev rfl) iR) D W fun _ D W=> ?_);rcases Classical.em (x6=1) with hb|hb
   ·replace H:=H.1 hb;refine pv 6 cm rfl rfl rfl (fun w' a ha=>o_t (iC (ha.ev rfl)) hb) D W fun _ D W=>(zX 7 cm rfl rfl rfl rfl D W fun _ D W=>(zX 8 cm rfl rfl rfl rfl D W fun _ D W=> ?_));obtain⟨h5,h6,a2,e2,H⟩:=H;refine Zk 9 cm rfl rfl rfl rfl rfl (aU TF.eX TF.dP e2 h5 h6) D W fun _ D W=>(Ti 10 cm rfl rfl rfl rfl (TF.jH _ _) D W fun _ D W=> ?_);obtain⟨x7,h7,H⟩:=H;refine vlg 11 cm rfl rfl rfl rfl (fun hw=>(aJ TF.aP ((hw.cell _).trans h7))) D W fun _ D W=>(Ti 12 cm rfl rfl rfl rfl (TF.jH _ _) D W fun _ D W=> ?_);obtain⟨x8,h8,H⟩:=H;refine vlg 13 cm rfl rfl rfl rfl (fun hw=>(aJ TF.aP ((hw.cell _).trans h8))) D W fun _ D W=>(pvg 14 cm rfl rfl rfl rfl rfl (fun w' a ha=>fZ (ha.ev rfl) (ha.ev rfl) iR) D W fun _ D W=>(ppt 15 cm rfl rfl rfl D W fun _ D W=> ?_));rcases Classical.em (x7=x8) with hb|hb
    ·replace H:=H.1 hb;refine pv 16 cm rfl rfl rfl (fun w' a ha=>o_t (iC (ha.ev rfl)) hb) D W fun _ D W=>(zX 17 cm rfl rfl rfl rfl D W fun _ D W=>(zX 18 cm rfl rfl rfl rfl D W fun _ D W=> ?_));obtain⟨h9,h10,a3,e3,H⟩:=H;refine Zk 19 cm rfl rfl rfl rfl rfl (aU TF.eX TF.dP e3 h9 h10) D W fun _ D W=>(Ti 20 cm rfl rfl rfl rfl (TF.jI _ _) D W fun _ D W=> ?_);obtain⟨x9,h11,H⟩:=H;refine vlg 21 cm rfl rfl rfl rfl (fun hw=>(aJ TF.aP ((hw.cell _).trans h11))) D W fun _ D W=>(Ti 22 cm rfl rfl rfl rfl (TF.jI _ _) D W fun _ D W=> ?_);obtain⟨x10,h12,H⟩:=H;refine vlg 23 cm rfl rfl rfl rfl (fun hw=>(aJ TF.aP ((hw.cell _).trans h12))) D W fun _ D W=>(pvg 24 cm rfl rfl rfl rfl rfl (fun w' a ha=>fZ (ha.ev rfl) (ha.ev rfl) iR) D W fun _ D W=>(ppt 25 cm rfl rfl rfl D W fun _ D W=> ?_));rcases Classical.em (x9=x10) with hb|hb
     ·replace H:=H.1 hb;refine pv 26 cm rfl rfl rfl (fun w' a ha=>o_t (iC (ha.ev rfl)) hb) D W fun _ D W=>(zX 27 cm rfl rfl rfl rfl D W fun _ D W=>(zX 28 cm rfl rfl rfl rfl D W fun _ D W=> ?_));obtain⟨h13,h14,a4,e4,H⟩:=H;refine Zk 29 cm rfl rfl rfl rfl rfl (aU TF.eX TF.dP e4 h13 h14) D W fun _ D W=>(Ti 30 cm rfl rfl rfl rfl (TF.Eg _ _) D W fun _ D W=> ?_);obtain⟨x11,h15,H⟩:=H;refine vlg 31 cm rfl rfl rfl rfl (fun hw=>(aJ TF.aP ((hw.cell _).trans h15))) D W fun _ D W=>(Ti 32 cm rfl rfl rfl rfl (TF.Eg _ _) D W fun _ D W=> ?_);obtain⟨x12,h16,H⟩:=H;refine vlg 33 cm rfl rfl rfl rfl (fun hw=>(aJ TF.aP ((hw.cell _).trans h16))) D W fun _ D W=>(aGj 34 cm rfl rfl rfl rfl rfl (fun w' a ha=>fZ (ha.ev rfl) (ha.ev rfl) iR) D fun _ D=>(aDp 35 cm rfl rfl rfl D fun _ D=>(dJ (by kernel_rfl) D ?_)));intro w3 D;replace H:=H _ D;clear D cm;exact bD fun a ha=>⟨(decide (x11=x12)),ha.weaken cs,H⟩
     ·replace H:=H.2 hb;refine pv 26 cm rfl rfl rfl (fun w' a ha=>o_f (iC (ha.ev rfl)) hb) D W fun _ D W=>(ps 27 cm rfl rfl rfl rfl rfl D W fun _ D W=>(ps 28 cm rfl rfl rfl rfl rfl D W fun _ D W=>(ps 29 cm rfl rfl rfl rfl rfl D W fun _ D W=>(ps 30 cm rfl rfl rfl rfl rfl D W fun _ D W=>(ps 31 cm rfl rfl rfl rfl rfl D W fun _ D W=>(ps 32 cm rfl rfl rfl rfl rfl D W fun _ D W=>(ps 33 cm rfl rfl rfl rfl rfl D W fun _ D W=>(psd 34 cm rfl rfl rfl rfl rfl D fun _ D=>(aCs 35 cm rfl rfl rfl D fun _ D=>(dJ (by kernel_rfl) D ?_))))))))));intro w5 D;replace H:=H _ D;clear D cm;exact bD fun a ha=>⟨false,ha.weaken cs,H⟩
    ·replace H:=H.2 hb;refine pv 16 cm rfl rfl rfl (fun w' a ha=>o_f (iC (ha.ev rfl)) hb) D W fun _ D W=>(ps 17 cm rfl rfl rfl rfl rfl D W fun _ D W=>(ps 18 cm rfl rfl rfl rfl rfl D W fun _ D W=>(ps 19 cm rfl rfl rfl rfl rfl D W fun _ D W=>(ps 20 cm rfl rfl rfl rfl rfl D W fun _ D W=>(ps 21 cm rfl rfl rfl rfl rfl D W fun _ D W=>(ps 22 cm rfl rfl rfl rfl rfl D W fun _ D W=>(ps 23 cm rfl rfl rfl rfl rfl D W fun _ D W=>(ps 24 cm rfl rfl rfl rfl rfl D W fun _ D W=>(ppf 25 cm rfl rfl rfl D W fun _ D W=>(gZ 26 cm rfl rfl D W fun _ D W=>(ps 27 cm rfl rfl rfl rfl rfl D W fun _ D W=>(ps 28 cm rfl rfl rfl rfl rfl D W fun _ D W=>(ps 29 cm rfl rfl rfl rfl rfl D W fun _ D W=>(ps 30 cm rfl rfl rfl rfl rfl D W fun _ D W=>(ps 31 cm rfl rfl rfl rfl rfl D W fun _ D W=>(ps 32 cm rfl rfl rfl rfl rfl D W fun _ D W=>(ps 33 cm rfl rfl rfl rfl rfl D W fun _ D W=>(psd 34 cm rfl rfl rfl rfl rfl D fun _ D=>(aCs 35 cm rfl rfl rfl D fun _ D=>(dJ (by kernel_rfl) D ?_))))))))))))))))))));intro w6 D;replace H:=H _ D;clear D cm;exact bD fun a ha=>⟨false,ha.weaken cs,H⟩
   ·replace H:=H.2 hb;refine pv 6 cm rfl rfl rfl (fun w' a ha=>o_f (iC (ha.ev rfl)) hb) D W fun _ D W=>(ps 7 cm rfl rfl rfl rfl rfl D W fun _ D W=>(ps 8 cm rfl rfl rfl rfl rfl D W fun _ D W=>(ps 9 cm rfl rfl rfl rfl rfl D W fun _ D W=>(ps 10 cm rfl rfl rfl rfl rfl D W fun _ D W=>(ps 11 cm rfl rfl rfl rfl rfl D W fun _ D W=>(ps 12 cm rfl rfl rfl rfl rfl D W fun _ D W=>(ps 13 cm rfl rfl rfl rfl rfl D W fun _ D W=>(ps 14 cm rfl rfl rfl rfl rfl D W fun _ D W=>(ppf 15 cm rfl rfl rfl D W fun _ D W=>(gZ 16 cm rfl rfl D W fun _ D W=>(ps 17 cm rfl rfl rfl rfl rfl D W fun _ D W=>(ps 18 cm rfl rfl rfl rfl rfl D W fun _ D W=>(ps 19 cm rfl rfl rfl rfl rfl D W fun _ D W=>(ps 20 cm rfl rfl rfl rfl rfl D W fun _ D W=>(ps 21 cm rfl rfl rfl rfl rfl D W fun _ D W=>(ps 22 cm rfl rfl rfl rfl rfl D W fun _ D W=>(ps 23 cm rfl rfl rfl rfl rfl D W fun _ D W=>(ps 24 cm rfl rfl rfl rfl rfl D W fun _ D W=>(ppf 25 cm rfl rfl rfl D W fun _ D W=>(gZ 26 cm rfl rfl D W fun _ D W=>(ps 27 cm rfl rfl rfl rfl rfl D W fun _ D W=>(ps 28 cm rfl rfl rfl rfl rfl D W fun _ D W=>(ps 29 cm rfl rfl rfl rfl rfl D W fun _ D W=>(ps 30 cm rfl rfl rfl rfl rfl D W fun _ D W=>(ps 31 cm rfl rfl rfl rfl rfl D W fun _ D W=>(ps 32 cm rfl rfl rfl rfl rfl D W fun _ D W=>(ps 33 cm rfl rfl rfl rfl rfl D W fun _ D W=>(psd 34 cm rfl rfl rfl rfl rfl D fun _ D=>(aCs 35 cm rfl rfl rfl D fun _ D=>(dJ (by kernel_rfl) D ?_))))))))))))))))))))))))))))));intro w7 D;replace H:=H _ D;clear D cm;exact bD fun a ha=>⟨false,ha.weaken cs,H⟩
 ·replace H:=H.2 hb;exact eU (aT (aT (bQ (nc zz (aG (aF (ag rfl (aH (nc (kp 4 rfl zz) (bK (aN (res1 rfl rfl) ⟨_,rfl,_,rfl,H⟩)))))))))))
def Qw (A1:Option Addr) (n1 c1:Nat) (x1:Int) (x2:Int) (K:Int->Int->World->Prop) (w:World):Prop:=
 0<=x1/\x1<(n1:Int)/\∃a1,A1=some a1/\∃A2 n2 c2,w.cell? ((a1.add (x1.toNat*5)).add 4)=some (.slice A2 n2 c2)/\0<=x2/\x2<(n2:Int)/\∃a2,A2=some a2/\∃x5,w.cell? (a2.add (x2.toNat*1))=some (iv x5)/\0<=x5/\x5<(n1:Int)/\∃a3,A1=some a3/\∃x6,w.cell? ((a3.add (x5.toNat*5)).add 1)=some (iv x6)/\0<=x1/\x1<(n1:Int)/\∃a4,A1=some a4/\∃A3 n3 c3,w.cell? ((a4.add (x1.toNat*5)).add 4)=some (.slice A3 n3 c3)/\0<=x2/\x2<(n3:Int)/\∃a5,A3=some a5/\∃x7,w.cell? (a5.add (x2.toNat*1))=some (iv x7)/\0<=x7/\x7<(n1:Int)/\∃a6,A1=some a6/\∃x8,w.cell? ((a6.add (x7.toNat*5)).add 2)=some (iv x8)/\∀w1,aO w w1->(K x6 x8 w1)
theorem aBi (A1:Option Addr) (n1 c1:Nat) (x1:Int) (x2:Int) (K:Int->Int->World->Prop) (w:World) (H:Qw A1 n1 c1 x1 x2 K w):Calls P F.rP #[.slice A1 n1 c1,iv x1,iv x2] w (cO fun v w'=>∃x3,∃x4,v=(.tuple #[iv x3,iv x4])/\K x3 x4 w'):=by
 unfold Qw at H;refine bT (P:=P) Tryz.func90 rfl [(0,.slice A1 n1 c1),(1,iv x1),(2,iv x2)] 32 rfl rfl (aa rfl (aa rfl (aa rfl az))) (aG (aF (ag rfl (ag rfl (aH (nc (y3 0 1 2 rfl) (aG ?_)))))));refine bU follows [0,1,2,3,4,5,6,7,8,9,10,11,12,13,14,15,16,17,18,19,20,21,22,23,24,25] [5,8,11,17,20,23] 26 rfl rfl (by kernel_rfl) (fun _ _ d _ _ h=>by cases d<;>exact h) (fun cm W D=> ?_);refine gZ 0 cm rfl rfl D W fun _ D W=>(gZ 1 cm rfl rfl D W fun _ D W=>(gZ 2 cm rfl rfl D W fun _ D W=> ?_));obtain⟨h1,h2,a1,e1,H⟩:=H;refine Ie 3 cm rfl rfl rfl (aU TF.eX TF.dP e1 h1 h2) D W fun _ D W=>(lH 4 cm rfl rfl (TF.jZ _ _) D W fun _ D W=> ?_);obtain⟨A2,n2,c2,h3,H⟩:=H;refine vl 5 cm rfl rfl (fun hw=>(aJ TF.bM ((hw.cell _).trans h3))) D W fun _ D W=>(gZ 6 cm rfl rfl D W fun _ D W=> ?_);obtain⟨h4,h5,a2,e2,H⟩:=H;refine Ie 7 cm rfl rfl rfl (aU TF.aV TF.size_int e2 h4 h5) D W fun _ D W=> ?_;obtain⟨x5,h6,H⟩:=H;refine vl 8 cm rfl rfl (fun hw=>(aJ TF.aP ((hw.cell _).trans h6))) D W fun _ D W=> ?_;obtain⟨h7,h8,a3,e3,H⟩:=H;refine Ie 9 cm rfl rfl rfl (aU TF.eX TF.dP e3 h7 h8) D W fun _ D W=>(lH 10 cm rfl rfl (TF.jH _ _) D W fun _ D W=> ?_);obtain⟨x6,h9,H⟩:=H;refine vl 11 cm rfl rfl (fun hw=>(aJ TF.aP ((hw.cell _).trans h9))) D W fun _ D W=>(gZ 12 cm rfl rfl D W fun _ D W=>(gZ 13 cm rfl rfl D W fun _ D W=>(gZ 14 cm rfl rfl D W fun _ D W=> ?_)));obtain⟨h10,h11,a4,e4,H⟩:=H;refine Ie 15 cm rfl rfl rfl (aU TF.eX TF.dP e4 h10 h11) D W fun _ D W=>(lH 16 cm rfl rfl (TF.jZ _ _) D W fun _ D W=> ?_);obtain⟨A3,n3,c3,h12,H⟩:=H;refine vl 17 cm rfl rfl (fun hw=>(aJ TF.bM ((hw.cell _).trans h12))) D W fun _ D W=>(gZ 18 cm rfl rfl D W fun _ D W=> ?_);obtain⟨h13,h14,a5,e5,H⟩:=H;refine Ie 19 cm rfl rfl rfl (aU TF.aV TF.size_int e5 h13 h14) D W fun _ D W=> ?_;obtain⟨x7,h15,H⟩:=H;refine vl 20 cm rfl rfl (fun hw=>(aJ TF.aP ((hw.cell _).trans h15))) D W fun _ D W=> ?_;obtain⟨h16,h17,a6,e6,H⟩:=H;refine Ie 21 cm rfl rfl rfl (aU TF.eX TF.dP e6 h16 h17) D W fun _ D W=>(lH 22 cm rfl rfl (TF.jI _ _) D W fun _ D W=> ?_);obtain⟨x8,h18,H⟩:=H;refine vl 23 cm rfl rfl (fun hw=>(aJ TF.aP ((hw.cell _).trans h18))) D W fun _ D W=>(Bo 24 cm rfl rfl D fun _ D=>(Bo 25 cm rfl rfl D fun _ D=>(dJ (by kernel_rfl) D ?_)));intro w1 D;replace H:=H _ D;clear D cm;exact nc (y2 6 7 rfl) (bK (aN (Jk rfl rfl rfl) ⟨_,rfl,_,_,rfl,H⟩))
def nR (K:Bool->World->Prop) (w2:World) (b2:Bool):Prop:=
 K b2 w2
def Np (x1:Int) (A1:Option Addr) (n1 c1:Nat) (x2:Int) (A2:Option Addr) (n2 c2:Nat) (K:Bool->World->Prop) (w:World):Prop:=
 ∀(p1:Addr) (w1:World),New w (.cells #[iv x1,.slice A1 n1 c1] T.fJ) p1 w1->(∀(p2:Addr) (w2:World),New w1 (.cells #[iv x2,.slice A2 n2 c2] T.fJ) p2 w2->(∃x3,w2.cell? (p1.add 0)=some (iv x3)/\(0<=x3->(∃x4,w2.cell? (p1.add 0)=some (iv x4)/\∃x5,w2.cell? (p2.add 0)=some (iv x5)/\(x4=x5->(∃A3 n3 c3,w2.cell? (p1.add 1)=some (.slice A3 n3 c3)/\∃A4 n4 c4,w2.cell? (p2.add 1)=some (.slice A4 n4 c4)/\(nR K w2) (decide ((n3:Int)=(n4:Int)))))/\(¬(x4=x5)->((nR K w2) false))))/\(¬(0<=x3)->((nR K w2) false))))
theorem Zd (x1:Int) (A1:Option Addr) (n1 c1:Nat) (x2:Int) (A2:Option Addr) (n2 c2:Nat) (K:Bool->World->Prop) (w:World) (H:Np x1 A1 n1 c1 x2 A2 n2 c2 K w):Calls P F.vO #[.agg #[iv x1,.slice A1 n1 c1],.agg #[iv x2,.slice A2 n2 c2]] w (cO fun v w'=>∃b1,v=(.bool b1)/\K b1 w'):=by
 unfold Np at H;refine bT (P:=P) Tryz.func94 rfl [(0,.agg #[iv x1,.slice A1 n1 c1]),(1,.agg #[iv x2,.slice A2 n2 c2])] 24 rfl rfl (aa rfl (aa rfl az)) (aG (aF (iP (f:=(fun p=> .pointer (some p))) rfl rfl (aI rfl) (fun a ha=>uM (ha.ev rfl) uO) ?_)));intro p1 w1 hN;replace H:=H _ _ hN;refine iP (f:=(fun p=> .pointer (some p))) rfl rfl (aI rfl) (fun a ha=>uM (ha.ev rfl) uO) ?_;intro p2 w2 hN;replace H:=H _ _ hN;refine ag rfl (aH (nc (y2 2 3 rfl) ?_));refine fM (fun a=>∃b2,Ok 24 [(4,.bool b2)] a/\nR K w2 b2) ?_ ?_
 ·rintro a ⟨b2,ha,H⟩;unfold nR at H;refine cu ha ?_;exact bK (aN (res1 rfl rfl) ⟨_,rfl,_,rfl,H⟩)
 ·refine aF (fa rfl (TF.kU _ _) ?_);obtain⟨x3,h3,H⟩:=H;refine ld rfl (aJ TF.aP h3) (bo rfl rfl Kq ?_);rcases Classical.em (0<=x3) with hb|hb
  ·replace H:=H.1 hb;refine sv rfl rfl (xt rfl hb) (Zu rfl rfl rfl (TF.kU _ _) ?_);obtain⟨x4,h4,H⟩:=H;refine Qo rfl rfl rfl (aJ TF.aP h4) (Zu rfl rfl rfl (TF.kU _ _) ?_);obtain⟨x5,h5,H⟩:=H;refine Qo rfl rfl rfl (aJ TF.aP h5) (Qh rfl rfl rfl rfl iR (pt rfl rfl ?_));rcases Classical.em (x4=x5) with hb|hb
   ·replace H:=H.1 hb;refine sv rfl rfl (xt rfl hb) (Zu rfl rfl rfl (TF.fF _ _) ?_);obtain⟨A3,n3,c3,h6,H⟩:=H;refine Qo rfl rfl rfl (aJ TF.bM h6) (svg rfl rfl rfl rfl (xb rfl (fun _=>bW TF.bP)) (Zu rfl rfl rfl (TF.fF _ _) ?_));obtain⟨A4,n4,c4,h7,H⟩:=H;exact Qo rfl rfl rfl (aJ TF.bM h7) (svg rfl rfl rfl rfl (xb rfl (fun _=>bW TF.bP)) (Qh rfl rfl rfl rfl iR (pt rfl rfl (ag rfl (aH (bD fun a ha=>⟨⟨(decide ((n3:Int)=(n4:Int))),ha.weaken cs,H⟩,rfl⟩))))))
   ·replace H:=H.2 hb;exact sv rfl rfl (xf rfl hb) (sk rfl rfl rfl rfl (sk rfl rfl rfl rfl (sk rfl rfl rfl rfl (sk rfl rfl rfl rfl (sk rfl rfl rfl rfl (sk rfl rfl rfl rfl (sk rfl rfl rfl rfl (pf rfl rfl (ag rfl (aH (bD fun a ha=>⟨⟨false,ha.weaken cs,H⟩,rfl⟩)))))))))))
  ·replace H:=H.2 hb;exact sv rfl rfl (xf rfl hb) (sk rfl rfl rfl rfl (sk rfl rfl rfl rfl (sk rfl rfl rfl rfl (sk rfl rfl rfl rfl (sk rfl rfl rfl rfl (pf rfl rfl (mv rfl (sk rfl rfl rfl rfl (sk rfl rfl rfl rfl (sk rfl rfl rfl rfl (sk rfl rfl rfl rfl (sk rfl rfl rfl rfl (sk rfl rfl rfl rfl (sk rfl rfl rfl rfl (pf rfl rfl (ag rfl (aH (bD fun a ha=>⟨⟨false,ha.weaken cs,H⟩,rfl⟩))))))))))))))))))
def nK (K:Bool->World->Prop) (w10:World) (k1:Nat) (I1:Nat->Int->World->Prop) (x12:Int) (b4:Bool):Prop:=
 (b4=true->(K false w10))/\(b4=false->(∃k2,k2<k1/\I1 k2 (IntKind.wrap .i64 (x12+1)) w10))
def kL (K:Bool->World->Prop) (p1:Addr) (A2:Option Addr) (n2 c2:Nat) (x1:Int) (p2:Addr) (p3:Addr) (b3:Bool) (w8:World):Prop:=
 (b3=true->(K false w8))/\(b3=false->(∃I1:Nat->Int->World->Prop,(∃k1,I1 k1 0 w8)/\∀k1 (x12:Int) (w9:World),I1 k1 x12 w9->(∃A10 n10 c10,w9.cell? (p1.add 4)=some (.slice A10 n10 c10)/\(x12<(n10:Int)->(Calls P F.rP #[.slice A2 n2 c2,iv x1,iv x12] w9 (cO fun v2 w10=>∃x13,∃x14,v2=(.tuple #[iv x13,iv x14])/\∃A11 n11 c11,w10.cell? (p2.add 1)=some (.slice A11 n11 c11)/\0<=x12/\x12<(n11:Int)/\∃a4,A11=some a4/\∃x15,w10.cell? (a4.add (x12.toNat*1))=some (iv x15)/\(x13≠x15->((nK K w10 k1 I1 x12) true))/\(¬(x13≠x15)->(∃A12 n12 c12,w10.cell? (p3.add 1)=some (.slice A12 n12 c12)/\0<=x12/\x12<(n12:Int)/\∃a5,A12=some a5/\∃x16,w10.cell? (a5.add (x12.toNat*1))=some (iv x16)/\(nK K w10 k1 I1 x12) (decide (x14≠x16)))))))/\(¬(x12<(n10:Int))->(K true w9)))))
def vY (A1:Option Addr) (n1 c1:Nat) (A2:Option Addr) (n2 c2:Nat) (x1:Int) (K:Bool->World->Prop) (w:World):Prop:=
 0<=x1/\x1<(n2:Int)/\∃a1,A2=some a1/\∃x2,∃x3,∃x4,∃x5,∃A3 n3 c3,bG w (a1.add (x1.toNat*5)) [iv x2,iv x3,iv x4,iv x5,.slice A3 n3 c3]/\∀(p1:Addr) (w1:World),New w (.cells #[iv 0,iv 0,iv 0,iv 0,.slice none 0 0] T.iT) p1 w1->(oH w1 p1 5/\∀w2,w2=cZ w1 p1 [iv x2,iv x3,iv x4,iv x5,.slice A3 n3 c3]->(∃x6,w2.cell? (p1.add 1)=some (iv x6)/\0<=x6/\x6<(n1:Int)/\∃a2,A1=some a2/\∃x7,∃A4 n4 c4,bG w2 (a2.add (x6.toNat*2)) [iv x7,.slice A4 n4 c4]/\∀(p2:Addr) (w3:World),New w2 (.cells #[iv 0,.slice none 0 0] T.fJ) p2 w3->(oH w3 p2 2/\∀w4,w4=cZ w3 p2 [iv x7,.slice A4 n4 c4]->(∃x8,w4.cell? (p1.add 2)=some (iv x8)/\0<=x8/\x8<(n1:Int)/\∃a3,A1=some a3/\∃x9,∃A5 n5 c5,bG w4 (a3.add (x8.toNat*2)) [iv x9,.slice A5 n5 c5]/\∀(p3:Addr) (w5:World),New w4 (.cells #[iv 0,.slice none 0 0] T.fJ) p3 w5->(oH w5 p3 2/\∀w6,w6=cZ w5 p3 [iv x9,.slice A5 n5 c5]->(∃x10,∃A6 n6 c6,bG w6 p2 [iv x10,.slice A6 n6 c6]/\∃x11,∃A7 n7 c7,bG w6 p3 [iv x11,.slice A7 n7 c7]/\Calls P F.vO #[.agg #[iv x10,.slice A6 n6 c6],.agg #[iv x11,.slice A7 n7 c7]] w6 (cO fun v1 w7=>∃b2,v1=(.bool b2)/\((!b2)=true->((kL K p1 A2 n2 c2 x1 p2 p3) true w7))/\((!b2)=false->(∃A8 n8 c8,w7.cell? (p1.add 4)=some (.slice A8 n8 c8)/\∃A9 n9 c9,w7.cell? (p2.add 1)=some (.slice A9 n9 c9)/\(kL K p1 A2 n2 c2 x1 p2 p3) (decide ((n8:Int)≠(n9:Int))) w7)))))))))
theorem Tc (A1:Option Addr) (n1 c1:Nat) (A2:Option Addr) (n2 c2:Nat) (x1:Int) (K:Bool->World->Prop) (w:World) (H:vY A1 n1 c1 A2 n2 c2 x1 K w):Calls P F.uD #[.slice A1 n1 c1,.slice A2 n2 c2,iv x1] w (cO fun v w'=>∃b1,v=(.bool b1)/\K b1 w'):=by
 unfold vY at H;refine bT (P:=P) Tryz.func91 rfl [(0,.slice A1 n1 c1),(1,.slice A2 n2 c2),(2,iv x1)] 70 rfl rfl (aa rfl (aa rfl (aa rfl az))) (aG (aF (ag rfl (aH (nc (y3 0 1 2 rfl) (aG (aF (mv rfl (mv rfl ?_)))))))));obtain⟨h1,h2,a1,e1,H⟩:=H;refine ix rfl rfl (aU TF.eX TF.dP e1 h1 h2) ?_;obtain⟨x2,x3,x4,x5,A3,n3,c3,h3,H⟩:=H;refine ld rfl (gW (vs:=[iv x2,iv x3,iv x4,iv x5,.slice A3 n3 c3]) TF.Ey TF.dP h3) (iP (f:=(fun p=> .pointer (some p))) rfl rfl (aI rfl) (fun a ha=>mV (nC TF.Ol)) ?_);intro p1 w1 hN;obtain⟨h5,H⟩:=H _ _ hN;refine oO rfl (aI rfl) (xs rfl rfl (kN TF.dP (by simp[Value.oneCell']) h5)) ?_;intro w2 hw;replace H:=H _ hw;clear hw;refine aH (nc (y4 0 1 2 7 rfl) (aG (aF (mv rfl (fa rfl (TF.jH _ _) ?_)))));obtain⟨x6,h6,H⟩:=H;refine ld rfl (aJ TF.aP h6) ?_;obtain⟨h7,h8,a2,e2,H⟩:=H;refine ix rfl rfl (aU TF.dN TF.bY e2 h7 h8) ?_;obtain⟨x7,A4,n4,c4,h9,H⟩:=H;refine ld rfl (gW (vs:=[iv x7,.slice A4 n4 c4]) TF.oK TF.bY h9) (iP (f:=(fun p=> .pointer (some p))) rfl rfl (aI rfl) (fun a ha=>mV (nC TF.Ar)) ?_);intro p2 w3 hN;obtain⟨h11,H⟩:=H _ _ hN;refine oO rfl (aI rfl) (xs rfl rfl (kN TF.bY (by simp[Value.oneCell']) h11)) ?_;intro w4 hw;replace H:=H _ hw;clear hw;refine aH (nc (y5 0 1 2 7 8 rfl) (aG (aF (mv rfl (fa rfl (TF.jI _ _) ?_)))));obtain⟨x8,h12,H⟩:=H;refine ld rfl (aJ TF.aP h12) ?_;obtain⟨h13,h14,a3,e3,H⟩:=H;refine ix rfl rfl (aU TF.dN TF.bY e3 h13 h14) ?_;obtain⟨x9,A5,n5,c5,h15,H⟩:=H;refine ld rfl (gW (vs:=[iv x9,.slice A5 n5 c5]) TF.oK TF.bY h15) (iP (f:=(fun p=> .pointer (some p))) rfl rfl (aI rfl) (fun a ha=>mV (nC TF.Ar)) ?_);intro p3 w5 hN;obtain⟨h17,H⟩:=H _ _ hN;refine oO rfl (aI rfl) (xs rfl rfl (kN TF.bY (by simp[Value.oneCell']) h17)) ?_;intro w6 hw;replace H:=H _ hw;clear hw;refine aH (nc (y5 1 2 7 8 9 rfl) (aG ?_));refine fA (fun a w=>∃b3,Ok 70 [(1,.slice A2 n2 c2),(2,iv x1),(7,.pointer (some p1)),(8,.pointer (some p2)),(9,.pointer (some p3)),(39,.bool b3)] a/\kL K p1 A2 n2 c2 x1 p2 p3 b3 w) ?_ ?_
 ·rintro a w8 ⟨b3,ha,H⟩;unfold kL at H;refine cu ha ?_;refine eG rfl (fun hb=> ?_) (fun hb=> ?_)
  ·replace H:=H.1 hb;exact aG (aF (ag rfl (aH (nc (kp 6 rfl zz) (bK (aQ (aN (res1 rfl rfl) ⟨_,rfl,_,rfl,H⟩)))))))
  ·replace H:=H.2 hb;refine aX (nc (y5 1 2 7 8 9 rfl) (aG (aG (aF (ag rfl (aH (nc (y6 1 2 7 8 9 10 rfl) (aY ?_))))))));obtain⟨I1,⟨k1,hi⟩,H⟩:=H;refine fK (fun k1 a w'=>∃x12,Ok 70 [(1,.slice A2 n2 c2),(2,iv x1),(7,.pointer (some p1)),(8,.pointer (some p2)),(9,.pointer (some p3)),(10,iv x12)] a/\I1 k1 x12 w') (fun a ha=>⟨k1,0,ha.weaken cs,hi⟩) ?_;rintro k1 a w9 ⟨x12,ha,hI⟩;replace H:=H k1 x12 w9 hI;refine cu ha ?_;refine aG (aG (aF (mv rfl (fa rfl (TF.jZ _ _) ?_))));obtain⟨A10,n10,c10,h22,H⟩:=H;refine ld rfl (aJ TF.bM h22) (sv rfl rfl (xb rfl (fun _=>bW TF.bP)) (bo rfl rfl iY (aH (nc (y7 1 2 7 8 9 10 44 rfl) ?_))));refine bC rfl (fun hb=> ?_) (fun hb=> ?_)
   ·replace H:=H.1 hb;refine aX (nc (y6 1 2 7 8 9 10 rfl) (aG (aY (aG (aF (mv rfl (mv rfl (mv rfl (sc rfl rfl FF.rG H ?_)))))))));rintro _ w10 ⟨x13,x14,rfl,H⟩;refine mv rfl (sv rfl rfl (xe rfl rfl) (sv rfl rfl (xe rfl rfl) (ag rfl (ag rfl (aH (nc (y8 1 2 7 8 9 10 11 12 rfl) ?_))))));refine fM (fun a=>∃b4,Ok 70 [(1,.slice A2 n2 c2),(2,iv x1),(7,.pointer (some p1)),(8,.pointer (some p2)),(9,.pointer (some p3)),(10,iv x12),(69,.bool b4)] a/\nK K w10 k1 I1 x12 b4) ?_ ?_
    ·rintro a ⟨b4,ha,H⟩;unfold nK at H;refine cu ha ?_;refine eG rfl (fun hb=> ?_) (fun hb=> ?_)
     ·replace H:=H.1 hb;exact aG (aF (ag rfl (aH (nc (kp 6 rfl zz) (bK (bF (aQ (aQ (bF (aQ (aN (res1 rfl rfl) ⟨_,rfl,_,rfl,H⟩)))))))))))
     ·replace H:=H.2 hb;refine aX (bZ (nc (y6 1 2 7 8 9 10 rfl) (aF (mv rfl (bo rfl rfl kC (ag rfl (aH ?_)))))));obtain⟨k2,hk,H⟩:=H;exact bD fun a ha=>⟨k2,hk,IntKind.wrap .i64 (x12+1),ha.weaken cs,H⟩
    ·refine aF (mv rfl (fa rfl (TF.fF _ _) ?_));obtain⟨A11,n11,c11,h23,H⟩:=H;refine ld rfl (aJ TF.bM h23) (mv rfl ?_);obtain⟨h24,h25,a4,e4,H⟩:=H;refine ix rfl rfl (aU TF.aV TF.size_int e4 h24 h25) ?_;obtain⟨x15,h26,H⟩:=H;refine ld rfl (aJ TF.aP h26) (bo rfl rfl qR ?_);rcases Classical.em (x13≠x15) with hb|hb
     ·replace H:=H.1 hb;exact sv rfl rfl (xt rfl hb) (sk rfl rfl rfl rfl (sk rfl rfl rfl rfl (sk rfl rfl rfl rfl (sk rfl rfl rfl rfl (sk rfl rfl rfl rfl (sk rfl rfl rfl rfl (sk rfl rfl rfl rfl (pt rfl rfl (aH (bD fun a ha=>⟨⟨true,ha.weaken cs,H⟩,rfl⟩))))))))))
     ·replace H:=H.2 hb;refine sv rfl rfl (xf rfl hb) (Bv rfl rfl rfl (Zu rfl rfl rfl (TF.fF _ _) ?_));obtain⟨A12,n12,c12,h27,H⟩:=H;refine Qo rfl rfl rfl (aJ TF.bM h27) (Bv rfl rfl rfl ?_);obtain⟨h28,h29,a5,e5,H⟩:=H;refine ixg rfl rfl rfl rfl (aU TF.aV TF.size_int e5 h28 h29) ?_;obtain⟨x16,h30,H⟩:=H;exact Qo rfl rfl rfl (aJ TF.aP h30) (Qh rfl rfl rfl rfl qR (pf rfl rfl (aH (bD fun a ha=>⟨⟨(decide (x14≠x16)),ha.weaken cs,H⟩,rfl⟩))))
   ·replace H:=H.2 hb;exact eU (aT (aT (bQ (nc zz (aG (aF (ag rfl (aH (nc (kp 6 rfl zz) (bK (aN (res1 rfl rfl) ⟨_,rfl,_,rfl,H⟩)))))))))))
 ·refine aF ?_;obtain⟨x10,A6,n6,c6,h18,H⟩:=H;refine ld rfl (gW (vs:=[iv x10,.slice A6 n6 c6]) TF.oK TF.bY h18) ?_;obtain⟨x11,A7,n7,c7,h19,H⟩:=H;refine ld rfl (gW (vs:=[iv x11,.slice A7 n7 c7]) TF.oK TF.bY h19) (sc rfl rfl FF.Cm H ?_);rintro _ w7 ⟨b2,rfl,H⟩;refine sv rfl rfl (xu rfl sK) ?_;rcases tf (!b2) with hb|hb
  ·replace H:=H.1 hb;exact sv rfl rfl (fun a ha=>aGb (iC (ha.ev rfl)) hb) (sk rfl rfl rfl rfl (sk rfl rfl rfl rfl (sk rfl rfl rfl rfl (sk rfl rfl rfl rfl (sk rfl rfl rfl rfl (sk rfl rfl rfl rfl (sk rfl rfl rfl rfl (pt rfl rfl (aH (bD fun a ha=>⟨true,ha.weaken cs,H⟩))))))))))
  ·replace H:=H.2 hb;refine sv rfl rfl (fun a ha=>aGk (iC (ha.ev rfl)) hb) (Zu rfl rfl rfl (TF.jZ _ _) ?_);obtain⟨A8,n8,c8,h20,H⟩:=H;refine Qo rfl rfl rfl (aJ TF.bM h20) (svg rfl rfl rfl rfl (xb rfl (fun _=>bW TF.bP)) (Zu rfl rfl rfl (TF.fF _ _) ?_));obtain⟨A9,n9,c9,h21,H⟩:=H;exact Qo rfl rfl rfl (aJ TF.bM h21) (svg rfl rfl rfl rfl (xb rfl (fun _=>bW TF.bP)) (Qh rfl rfl rfl rfl qR (pf rfl rfl (aH (bD fun a ha=>⟨(decide ((n8:Int)≠(n9:Int))),ha.weaken cs,H⟩)))))
def lQ (K:Bool->World->Prop) (w2:World) (k1:Nat) (I1:Nat->Int->Prop) (x10:Int) (b3:Bool):Prop:=
 (b3=true->(K false w2))/\(b3=false->(∃k2,k2<k1/\I1 k2 (IntKind.wrap .i64 (x10+1))))
def qU (K:Bool->World->Prop) (b5:Bool) (w4:World):Prop:=
 K b5 w4
def lT (K:Bool->World->Prop) (w2:World) (b6:Bool):Prop:=
 K b6 w2
def qL (K:Bool->World->Prop) (w5:World) (b7:Bool):Prop:=
 K b7 w5
def lV (K:Bool->World->Prop) (w7:World) (b8:Bool):Prop:=
 K b8 w7
def iU (K:Bool->World->Prop) (w2:World) (p1:Addr) (x1:Int) (A2:Option Addr) (n2 c2:Nat) (A3:Option Addr) (n3 c3:Nat) (A1:Option Addr) (n1 c1:Nat) (b2:Bool):Prop:=
 (b2=true->(K false w2))/\(b2=false->(∃I1:Nat->Int->Prop,(∃k1,I1 k1 0)/\∀k1 (x10:Int),I1 k1 x10->(∃A5 n5 c5,w2.cell? (p1.add 4)=some (.slice A5 n5 c5)/\(x10<(n5:Int)->(∃A6 n6 c6,w2.cell? (p1.add 4)=some (.slice A6 n6 c6)/\0<=x10/\x10<(n6:Int)/\∃a2,A6=some a2/\∃x11,w2.cell? (a2.add (x10.toNat*1))=some (iv x11)/\(x11<0->((lQ K w2 k1 I1 x10) true))/\(¬(x11<0)->(∃A7 n7 c7,w2.cell? (p1.add 4)=some (.slice A7 n7 c7)/\0<=x10/\x10<(n7:Int)/\∃a3,A7=some a3/\∃x12,w2.cell? (a3.add (x10.toNat*1))=some (iv x12)/\(lQ K w2 k1 I1 x10) (decide (x1<=x12))))))/\(¬(x10<(n5:Int))->(∃x13,w2.cell? (p1.add 0)=some (iv x13)/\(x13=1->(∃A8 n8 c8,w2.cell? (p1.add 4)=some (.slice A8 n8 c8)/\((n8:Int)=0->(∃x14,∃x15,∃x16,∃x17,∃A9 n9 c9,bG w2 p1 [iv x14,iv x15,iv x16,iv x17,.slice A9 n9 c9]/\Calls P F.Ag #[.slice A2 n2 c2,.agg #[iv x14,iv x15,iv x16,iv x17,.slice A9 n9 c9]] w2 (cO fun v1 w3=>∃b4,v1=(.bool b4)/\(qU K) b4 w3)))/\(¬((n8:Int)=0)->((qU K) false w2))))/\(¬(x13=1)->(∃x18,w2.cell? (p1.add 3)=some (iv x18)/\(x18≠0->(K false w2))/\(¬(x18≠0)->(∃x19,w2.cell? (p1.add 0)=some (iv x19)/\(x19=2->(∃A10 n10 c10,w2.cell? (p1.add 4)=some (.slice A10 n10 c10)/\((n10:Int)=0->(∃x20,w2.cell? (p1.add 1)=some (iv x20)/\∃x21,w2.cell? (p1.add 2)=some (iv x21)/\(lT K w2) (decide (x20=x21))))/\(¬((n10:Int)=0)->((lT K w2) false))))/\(¬(x19=2)->((x19=3->(∃A11 n11 c11,w2.cell? (p1.add 4)=some (.slice A11 n11 c11)/\((n11:Int)≠1->(K false w2))/\(¬((n11:Int)≠1)->(Calls P F.rP #[.slice A3 n3 c3,iv x1,iv 0] w2 (cO fun v2 w5=>∃x22,∃x23,v2=(.tuple #[iv x22,iv x23])/\∃x24,w5.cell? (p1.add 2)=some (iv x24)/\(x22=x24->(∃x25,w5.cell? (p1.add 1)=some (iv x25)/\(qL K w5) (decide (x23=x25))))/\(¬(x22=x24)->((qL K w5) false)))))))/\(¬(x19=3)->((x19=4->(∃A12 n12 c12,w2.cell? (p1.add 4)=some (.slice A12 n12 c12)/\((n12:Int)≠2->(K false w2))/\(¬((n12:Int)≠2)->(Calls P F.rP #[.slice A3 n3 c3,iv x1,iv 0] w2 (cO fun v3 w6=>∃x26,∃x27,v3=(.tuple #[iv x26,iv x27])/\Calls P F.rP #[.slice A3 n3 c3,iv x1,iv 1] w6 (cO fun v4 w7=>∃x28,∃x29,v4=(.tuple #[iv x28,iv x29])/\∃x30,w7.cell? (p1.add 1)=some (iv x30)/\(x26=x30->((x27=x28->(∃x31,w7.cell? (p1.add 2)=some (iv x31)/\(lV K w7) (decide (x29=x31))))/\(¬(x27=x28)->((lV K w7) false))))/\(¬(x26=x30)->((lV K w7) false))))))))/\(¬(x19=4)->((x19=5->(Calls P F.uD #[.slice A1 n1 c1,.slice A3 n3 c3,iv x1] w2 (cO fun v5 w8=>∃b9,v5=(.bool b9)/\K b9 w8)))/\(¬(x19=5)->(K false w2)))))))))))))))))
def zJ (A1:Option Addr) (n1 c1:Nat) (A2:Option Addr) (n2 c2:Nat) (A3:Option Addr) (n3 c3:Nat) (x1:Int) (K:Bool->World->Prop) (w:World):Prop:=
 0<=x1/\x1<(n3:Int)/\∃a1,A3=some a1/\∃x2,∃x3,∃x4,∃x5,∃A4 n4 c4,bG w (a1.add (x1.toNat*5)) [iv x2,iv x3,iv x4,iv x5,.slice A4 n4 c4]/\∀(p1:Addr) (w1:World),New w (.cells #[iv 0,iv 0,iv 0,iv 0,.slice none 0 0] T.iT) p1 w1->(oH w1 p1 5/\∀w2,w2=cZ w1 p1 [iv x2,iv x3,iv x4,iv x5,.slice A4 n4 c4]->(∃x6,w2.cell? (p1.add 1)=some (iv x6)/\(x6<0->((iU K w2 p1 x1 A2 n2 c2 A3 n3 c3 A1 n1 c1) true))/\(¬(x6<0)->(∃x7,w2.cell? (p1.add 1)=some (iv x7)/\((n1:Int)<=x7->((iU K w2 p1 x1 A2 n2 c2 A3 n3 c3 A1 n1 c1) true))/\(¬((n1:Int)<=x7)->(∃x8,w2.cell? (p1.add 2)=some (iv x8)/\(x8<0->((iU K w2 p1 x1 A2 n2 c2 A3 n3 c3 A1 n1 c1) true))/\(¬(x8<0)->(∃x9,w2.cell? (p1.add 2)=some (iv x9)/\(iU K w2 p1 x1 A2 n2 c2 A3 n3 c3 A1 n1 c1) (decide ((n1:Int)<=x9))))))))))
theorem Wi (A1:Option Addr) (n1 c1:Nat) (A2:Option Addr) (n2 c2:Nat) (A3:Option Addr) (n3 c3:Nat) (x1:Int) (K:Bool->World->Prop) (w:World) (H:zJ A1 n1 c1 A2 n2 c2 A3 n3 c3 x1 K w):Calls P F.xQ #[.slice A1 n1 c1,.slice A2 n2 c2,.slice A3 n3 c3,iv x1] w (cO fun v w'=>∃b1,v=(.bool b1)/\K b1 w'):=by
 unfold zJ at H;refine bT (P:=P) Tryz.func71 rfl [(0,.slice A1 n1 c1),(1,.slice A2 n2 c2),(2,.slice A3 n3 c3),(3,iv x1)] 156 rfl rfl (aa rfl (aa rfl (aa rfl (aa rfl az)))) (aG (aF (ag rfl (aH (nc (y4 0 1 2 3 rfl) (aG (aF (mv rfl (mv rfl ?_)))))))));obtain⟨h1,h2,a1,e1,H⟩:=H;refine ix rfl rfl (aU TF.eX TF.dP e1 h1 h2) ?_;obtain⟨x2,x3,x4,x5,A4,n4,c4,h3,H⟩:=H;refine ld rfl (gW (vs:=[iv x2,iv x3,iv x4,iv x5,.slice A4 n4 c4]) TF.Ey TF.dP h3) (iP (f:=(fun p=> .pointer (some p))) rfl rfl (aI rfl) (fun a ha=>mV (nC TF.Ol)) ?_);intro p1 w1 hN;obtain⟨h5,H⟩:=H _ _ hN;refine oO rfl (aI rfl) (xs rfl rfl (kN TF.dP (by simp[Value.oneCell']) h5)) ?_;intro w2 hw;replace H:=H _ hw;clear hw;refine aH (nc (y5 0 1 2 3 9 rfl) (aG ?_));refine fM (fun a=>∃b2,Ok 156 [(0,.slice A1 n1 c1),(1,.slice A2 n2 c2),(2,.slice A3 n3 c3),(3,iv x1),(9,.pointer (some p1)),(42,.bool b2)] a/\iU K w2 p1 x1 A2 n2 c2 A3 n3 c3 A1 n1 c1 b2) ?_ ?_
 ·rintro a ⟨b2,ha,H⟩;unfold iU at H;refine cu ha ?_;refine eG rfl (fun hb=> ?_) (fun hb=> ?_)
  ·replace H:=H.1 hb;exact aG (aF (ag rfl (aH (nc (kp 8 rfl zz) (bK (aQ (aN (res1 rfl rfl) ⟨_,rfl,_,rfl,H⟩)))))))
  ·replace H:=H.2 hb;refine aX (nc (y5 0 1 2 3 9 rfl) (aG (aG (aF (ag rfl (aH (nc (y6 0 1 2 3 9 10 rfl) (aY ?_))))))));obtain⟨I1,⟨k1,hi⟩,H⟩:=H;refine Au (fun k1 a=>∃x10,Ok 156 [(0,.slice A1 n1 c1),(1,.slice A2 n2 c2),(2,.slice A3 n3 c3),(3,iv x1),(9,.pointer (some p1)),(10,iv x10)] a/\I1 k1 x10) (fun a ha=>⟨k1,0,ha.weaken cs,hi⟩) ?_;rintro k1 a ⟨x10,ha,hI⟩;replace H:=H k1 x10 hI;refine cu ha ?_;refine aG (aG (aF (mv rfl (fa rfl (TF.jZ _ _) ?_))));obtain⟨A5,n5,c5,h10,H⟩:=H;refine ld rfl (aJ TF.bM h10) (sv rfl rfl (xb rfl (fun _=>bW TF.bP)) (bo rfl rfl iY (aH (nc (y7 0 1 2 3 9 10 47 rfl) ?_))));refine bC rfl (fun hb=> ?_) (fun hb=> ?_)
   ·replace H:=H.1 hb;refine aX (nc (y6 0 1 2 3 9 10 rfl) (aG (aY ?_)));refine fM (fun a=>∃b3,Ok 156 [(0,.slice A1 n1 c1),(1,.slice A2 n2 c2),(2,.slice A3 n3 c3),(3,iv x1),(9,.pointer (some p1)),(10,iv x10),(64,.bool b3)] a/\lQ K w2 k1 I1 x10 b3) ?_ ?_
    ·rintro a ⟨b3,ha,H⟩;unfold lQ at H;refine cu ha ?_;refine eG rfl (fun hb=> ?_) (fun hb=> ?_)
     ·replace H:=H.1 hb;exact aG (aF (ag rfl (aH (nc (kp 8 rfl zz) (bK (bF (aQ (aQ (bF (aQ (aN (res1 rfl rfl) ⟨_,rfl,_,rfl,H⟩)))))))))))
     ·replace H:=H.2 hb;refine aX (bZ (nc (y6 0 1 2 3 9 10 rfl) (aF (mv rfl (bo rfl rfl kC (ag rfl (aH ?_)))))));obtain⟨k2,hk,H⟩:=H;exact bD fun a ha=>⟨k2,hk,⟨IntKind.wrap .i64 (x10+1),ha.weaken cs,H⟩,rfl⟩
    ·refine aF (fa rfl (TF.jZ _ _) ?_);obtain⟨A6,n6,c6,h11,H⟩:=H;refine ld rfl (aJ TF.bM h11) (mv rfl ?_);obtain⟨h12,h13,a2,e2,H⟩:=H;refine ix rfl rfl (aU TF.aV TF.size_int e2 h12 h13) ?_;obtain⟨x11,h14,H⟩:=H;refine ld rfl (aJ TF.aP h14) (bo rfl rfl iY ?_);rcases Classical.em (x11<0) with hb|hb
     ·replace H:=H.1 hb;exact sv rfl rfl (xt rfl hb) (sk rfl rfl rfl rfl (sk rfl rfl rfl rfl (sk rfl rfl rfl rfl (sk rfl rfl rfl rfl (sk rfl rfl rfl rfl (sk rfl rfl rfl rfl (sk rfl rfl rfl rfl (pt rfl rfl (aH (bD fun a ha=>⟨⟨true,ha.weaken cs,H⟩,rfl⟩))))))))))
     ·replace H:=H.2 hb;refine sv rfl rfl (xf rfl hb) (Zu rfl rfl rfl (TF.jZ _ _) ?_);obtain⟨A7,n7,c7,h15,H⟩:=H;refine Qo rfl rfl rfl (aJ TF.bM h15) (Bv rfl rfl rfl ?_);obtain⟨h16,h17,a3,e3,H⟩:=H;refine ixg rfl rfl rfl rfl (aU TF.aV TF.size_int e3 h16 h17) ?_;obtain⟨x12,h18,H⟩:=H;exact Qo rfl rfl rfl (aJ TF.aP h18) (Bv rfl rfl rfl (Qh rfl rfl rfl rfl Kq (pf rfl rfl (aH (bD fun a ha=>⟨⟨(decide (x1<=x12)),ha.weaken cs,H⟩,rfl⟩)))))
   ·replace H:=H.2 hb;refine eU (aT (aT (bQ (nc (y5 0 1 2 3 9 rfl) (aG (aG (aF (fa rfl (TF.wI _ _) ?_))))))));obtain⟨x13,h19,H⟩:=H;refine ld rfl (aJ TF.aP h19) (bo rfl rfl iR (aH (nc (y6 0 1 2 3 9 67 rfl) ?_)));refine bC rfl (fun hb=> ?_) (fun hb=> ?_)
    ·replace H:=H.1 hb;refine fA (fun a w=>∃b5,Ok 156 [(8,.bool b5)] a/\qU K b5 w) ?_ ?_
     ·rintro a w4 ⟨b5,ha,H⟩;unfold qU at H;refine cu ha ?_;exact bK (aQ (aN (res1 rfl rfl) ⟨_,rfl,_,rfl,H⟩))
     ·refine aF (fa rfl (TF.jZ _ _) ?_);obtain⟨A8,n8,c8,h20,H⟩:=H;refine ld rfl (aJ TF.bM h20) (sv rfl rfl (xb rfl (fun _=>bW TF.bP)) (bo rfl rfl iR ?_));rcases Classical.em ((n8:Int)=0) with hb|hb
      ·replace H:=H.1 hb;refine sv rfl rfl (xt rfl hb) (Bv rfl rfl rfl ?_);obtain⟨x14,x15,x16,x17,A9,n9,c9,h21,H⟩:=H;refine Qo rfl rfl rfl (gW (vs:=[iv x14,iv x15,iv x16,iv x17,.slice A9 n9 c9]) TF.Ey TF.dP h21) (Eu rfl rfl (dW rfl rfl rfl) (xc rfl rfl FF.Qx) H ?_);rintro _ w3 ⟨b4,rfl,H⟩;exact pt rfl rfl (ag rfl (aH (bD fun a ha=>⟨b4,ha.weaken cs,H⟩)))
      ·replace H:=H.2 hb;exact sv rfl rfl (xf rfl hb) (sk rfl rfl rfl rfl (sk rfl rfl rfl rfl (sk rfl rfl rfl rfl (pf rfl rfl (ag rfl (aH (bD fun a ha=>⟨false,ha.weaken cs,H⟩)))))))
    ·replace H:=H.2 hb;refine aX (nc (y4 0 2 3 9 rfl) (aG (aG (aF (fa rfl (TF.Eg _ _) ?_)))));obtain⟨x18,h22,H⟩:=H;refine ld rfl (aJ TF.aP h22) (bo rfl rfl qR (aH (nc (y5 0 2 3 9 79 rfl) ?_)));refine bC rfl (fun hb=> ?_) (fun hb=> ?_)
     ·replace H:=H.1 hb;exact aG (aF (ag rfl (aH (nc (kp 8 rfl zz) (bK (aQ (aN (res1 rfl rfl) ⟨_,rfl,_,rfl,H⟩)))))))
     ·replace H:=H.2 hb;refine aX (nc (y4 0 2 3 9 rfl) (aG (aG (aF (fa rfl (TF.wI _ _) ?_)))));obtain⟨x19,h23,H⟩:=H;refine ld rfl (aJ TF.aP h23) (aH (nc (y5 0 2 3 9 81 rfl) (aY (aG (aF (bo rfl rfl iR (ag rfl (aH (nc (y6 0 2 3 9 81 82 rfl) ?_)))))))));refine bC rfl (fun hb=> ?_) (fun hb=> ?_)
      ·replace H:=H.1 hb;refine fM (fun a=>∃b6,Ok 156 [(8,.bool b6)] a/\lT K w2 b6) ?_ ?_
       ·rintro a ⟨b6,ha,H⟩;unfold lT at H;refine cu ha ?_;exact bK (bF (aQ (aN (res1 rfl rfl) ⟨_,rfl,_,rfl,H⟩)))
       ·refine aF (fa rfl (TF.jZ _ _) ?_);obtain⟨A10,n10,c10,h24,H⟩:=H;refine ld rfl (aJ TF.bM h24) (sv rfl rfl (xb rfl (fun _=>bW TF.bP)) (bo rfl rfl iR ?_));rcases Classical.em ((n10:Int)=0) with hb|hb
        ·replace H:=H.1 hb;refine sv rfl rfl (xt rfl hb) (Zu rfl rfl rfl (TF.jH _ _) ?_);obtain⟨x20,h25,H⟩:=H;refine Qo rfl rfl rfl (aJ TF.aP h25) (Zu rfl rfl rfl (TF.jI _ _) ?_);obtain⟨x21,h26,H⟩:=H;exact Qo rfl rfl rfl (aJ TF.aP h26) (Qh rfl rfl rfl rfl iR (pt rfl rfl (ag rfl (aH (bD fun a ha=>⟨⟨(decide (x20=x21)),ha.weaken cs,H⟩,rfl⟩)))))
        ·replace H:=H.2 hb;exact sv rfl rfl (xf rfl hb) (sk rfl rfl rfl rfl (sk rfl rfl rfl rfl (sk rfl rfl rfl rfl (sk rfl rfl rfl rfl (sk rfl rfl rfl rfl (pf rfl rfl (ag rfl (aH (bD fun a ha=>⟨⟨false,ha.weaken cs,H⟩,rfl⟩)))))))))
      ·replace H:=H.2 hb;refine aG (aF (bo rfl rfl iR (ag rfl (aH (nc (y6 0 2 3 9 81 95 rfl) ?_)))));refine bC rfl (fun hb=> ?_) (fun hb=> ?_)
       ·replace H:=H.1 hb;refine aG (aG (aF (fa rfl (TF.jZ _ _) ?_)));obtain⟨A11,n11,c11,h27,H⟩:=H;refine ld rfl (aJ TF.bM h27) (sv rfl rfl (xb rfl (fun _=>bW TF.bP)) (bo rfl rfl qR (aH (nc (y4 2 3 9 100 rfl) ?_))));refine bC rfl (fun hb=> ?_) (fun hb=> ?_)
        ·replace H:=H.1 hb;exact aG (aF (ag rfl (aH (nc (kp 8 rfl zz) (bK (aQ (bF (aQ (aN (res1 rfl rfl) ⟨_,rfl,_,rfl,H⟩)))))))))
        ·replace H:=H.2 hb;refine aX (nc (y3 2 3 9 rfl) (aG (aF (mv rfl (mv rfl (sc rfl rfl FF.rG H ?_))))));rintro _ w5 ⟨x22,x23,rfl,H⟩;refine mv rfl (sv rfl rfl (xe rfl rfl) (sv rfl rfl (xe rfl rfl) (ag rfl (ag rfl (aH (nc (y3 9 11 12 rfl) ?_))))));refine fM (fun a=>∃b7,Ok 156 [(8,.bool b7)] a/\qL K w5 b7) ?_ ?_
         ·rintro a ⟨b7,ha,H⟩;unfold qL at H;refine cu ha ?_;exact bK (bF (aQ (aN (res1 rfl rfl) ⟨_,rfl,_,rfl,H⟩)))
         ·refine aF (mv rfl (fa rfl (TF.jI _ _) ?_));obtain⟨x24,h28,H⟩:=H;refine ld rfl (aJ TF.aP h28) (bo rfl rfl iR ?_);rcases Classical.em (x22=x24) with hb|hb
          ·replace H:=H.1 hb;refine sv rfl rfl (xt rfl hb) (Bv rfl rfl rfl (Zu rfl rfl rfl (TF.jH _ _) ?_));obtain⟨x25,h29,H⟩:=H;exact Qo rfl rfl rfl (aJ TF.aP h29) (Qh rfl rfl rfl rfl iR (pt rfl rfl (ag rfl (aH (bD fun a ha=>⟨⟨(decide (x23=x25)),ha.weaken cs,H⟩,rfl⟩)))))
          ·replace H:=H.2 hb;exact sv rfl rfl (xf rfl hb) (sk rfl rfl rfl rfl (sk rfl rfl rfl rfl (sk rfl rfl rfl rfl (sk rfl rfl rfl rfl (pf rfl rfl (ag rfl (aH (bD fun a ha=>⟨⟨false,ha.weaken cs,H⟩,rfl⟩))))))))
       ·replace H:=H.2 hb;refine aG (aF (bo rfl rfl iR (ag rfl (aH (nc (y6 0 2 3 9 81 117 rfl) ?_)))));refine bC rfl (fun hb=> ?_) (fun hb=> ?_)
        ·replace H:=H.1 hb;refine aG (aG (aF (fa rfl (TF.jZ _ _) ?_)));obtain⟨A12,n12,c12,h30,H⟩:=H;refine ld rfl (aJ TF.bM h30) (sv rfl rfl (xb rfl (fun _=>bW TF.bP)) (bo rfl rfl qR (aH (nc (y4 2 3 9 122 rfl) ?_))));refine bC rfl (fun hb=> ?_) (fun hb=> ?_)
         ·replace H:=H.1 hb;exact aG (aF (ag rfl (aH (nc (kp 8 rfl zz) (bK (aQ (bF (aQ (aN (res1 rfl rfl) ⟨_,rfl,_,rfl,H⟩)))))))))
         ·replace H:=H.2 hb;refine aX (nc (y3 2 3 9 rfl) (aG (aF (mv rfl (mv rfl (sc rfl rfl FF.rG H ?_))))));rintro _ w6 ⟨x26,x27,rfl,H⟩;refine mv rfl (sv rfl rfl (xe rfl rfl) (sv rfl rfl (xe rfl rfl) (ag rfl (ag rfl (aH (nc (y5 2 3 9 13 14 rfl) (aG (aF (mv rfl (mv rfl (sc rfl rfl FF.rG H ?_)))))))))));rintro _ w7 ⟨x28,x29,rfl,H⟩;refine mv rfl (sv rfl rfl (xe rfl rfl) (sv rfl rfl (xe rfl rfl) (ag rfl (ag rfl (aH (nc (y5 9 13 14 15 16 rfl) ?_))))));refine fM (fun a=>∃b8,Ok 156 [(8,.bool b8)] a/\lV K w7 b8) ?_ ?_
          ·rintro a ⟨b8,ha,H⟩;unfold lV at H;refine cu ha ?_;exact bK (bF (aQ (aN (res1 rfl rfl) ⟨_,rfl,_,rfl,H⟩)))
          ·refine aF (mv rfl (fa rfl (TF.jH _ _) ?_));obtain⟨x30,h31,H⟩:=H;refine ld rfl (aJ TF.aP h31) (bo rfl rfl iR ?_);rcases Classical.em (x26=x30) with hb|hb
           ·replace H:=H.1 hb;refine sv rfl rfl (xt rfl hb) (Bv rfl rfl rfl (Bv rfl rfl rfl (Qh rfl rfl rfl rfl iR (pt rfl rfl ?_))));rcases Classical.em (x27=x28) with hb|hb
            ·replace H:=H.1 hb;refine sv rfl rfl (xt rfl hb) (Bv rfl rfl rfl (Zu rfl rfl rfl (TF.jI _ _) ?_));obtain⟨x31,h32,H⟩:=H;exact Qo rfl rfl rfl (aJ TF.aP h32) (Qh rfl rfl rfl rfl iR (pt rfl rfl (ag rfl (aH (bD fun a ha=>⟨⟨(decide (x29=x31)),ha.weaken cs,H⟩,rfl⟩)))))
            ·replace H:=H.2 hb;exact sv rfl rfl (xf rfl hb) (sk rfl rfl rfl rfl (sk rfl rfl rfl rfl (sk rfl rfl rfl rfl (sk rfl rfl rfl rfl (pf rfl rfl (ag rfl (aH (bD fun a ha=>⟨⟨false,ha.weaken cs,H⟩,rfl⟩))))))))
           ·replace H:=H.2 hb;exact sv rfl rfl (xf rfl hb) (sk rfl rfl rfl rfl (sk rfl rfl rfl rfl (sk rfl rfl rfl rfl (pf rfl rfl (mv rfl (sk rfl rfl rfl rfl (sk rfl rfl rfl rfl (sk rfl rfl rfl rfl (sk rfl rfl rfl rfl (pf rfl rfl (ag rfl (aH (bD fun a ha=>⟨⟨false,ha.weaken cs,H⟩,rfl⟩)))))))))))))
        ·replace H:=H.2 hb;refine aG (aF (bo rfl rfl iR (ag rfl (aH (nc (y4 0 2 3 150 rfl) ?_)))));refine bC rfl (fun hb=> ?_) (fun hb=> ?_)
         ·replace H:=H.1 hb;refine aG (aF (mv rfl (mv rfl (mv rfl (sc rfl rfl FF.Lc H ?_)))));rintro _ w8 ⟨b9,rfl,H⟩;exact ag rfl (aH (nc (kp 8 rfl zz) (bK (bF (aQ (aN (res1 rfl rfl) ⟨_,rfl,_,rfl,H⟩))))))
         ·replace H:=H.2 hb;exact aX (bZ (nc zz (aG (aF (ag rfl (aH (nc (kp 8 rfl zz) (bK (aN (res1 rfl rfl) ⟨_,rfl,_,rfl,H⟩)))))))))
 ·refine aF (fa rfl (TF.jH _ _) ?_);obtain⟨x6,h6,H⟩:=H;refine ld rfl (aJ TF.aP h6) (bo rfl rfl iY ?_);rcases Classical.em (x6<0) with hb|hb
  ·replace H:=H.1 hb;exact sv rfl rfl (xt rfl hb) (sk rfl rfl rfl rfl (sk rfl rfl rfl rfl (sk rfl rfl rfl rfl (sk rfl rfl rfl rfl (sk rfl rfl rfl rfl (pt rfl rfl (mv rfl (sk rfl rfl rfl rfl (sk rfl rfl rfl rfl (sk rfl rfl rfl rfl (pt rfl rfl (mv rfl (sk rfl rfl rfl rfl (sk rfl rfl rfl rfl (sk rfl rfl rfl rfl (sk rfl rfl rfl rfl (sk rfl rfl rfl rfl (pt rfl rfl (aH (bD fun a ha=>⟨⟨true,ha.weaken cs,H⟩,rfl⟩))))))))))))))))))))
  ·replace H:=H.2 hb;refine sv rfl rfl (xf rfl hb) (Zu rfl rfl rfl (TF.jH _ _) ?_);obtain⟨x7,h7,H⟩:=H;refine Qo rfl rfl rfl (aJ TF.aP h7) (Bv rfl rfl rfl (svg rfl rfl rfl rfl (xb rfl (fun _=>bW TF.dS)) (Qh rfl rfl rfl rfl Kq (pf rfl rfl ?_))));rcases Classical.em ((n1:Int)<=x7) with hb|hb
   ·replace H:=H.1 hb;exact sv rfl rfl (xt rfl hb) (sk rfl rfl rfl rfl (sk rfl rfl rfl rfl (sk rfl rfl rfl rfl (pt rfl rfl (mv rfl (sk rfl rfl rfl rfl (sk rfl rfl rfl rfl (sk rfl rfl rfl rfl (sk rfl rfl rfl rfl (sk rfl rfl rfl rfl (pt rfl rfl (aH (bD fun a ha=>⟨⟨true,ha.weaken cs,H⟩,rfl⟩)))))))))))))
   ·replace H:=H.2 hb;refine sv rfl rfl (xf rfl hb) (Zu rfl rfl rfl (TF.jI _ _) ?_);obtain⟨x8,h8,H⟩:=H;refine Qo rfl rfl rfl (aJ TF.aP h8) (Qh rfl rfl rfl rfl iY (pf rfl rfl ?_));rcases Classical.em (x8<0) with hb|hb
    ·replace H:=H.1 hb;exact sv rfl rfl (xt rfl hb) (sk rfl rfl rfl rfl (sk rfl rfl rfl rfl (sk rfl rfl rfl rfl (sk rfl rfl rfl rfl (sk rfl rfl rfl rfl (pt rfl rfl (aH (bD fun a ha=>⟨⟨true,ha.weaken cs,H⟩,rfl⟩))))))))
    ·replace H:=H.2 hb;refine sv rfl rfl (xf rfl hb) (Zu rfl rfl rfl (TF.jI _ _) ?_);obtain⟨x9,h9,H⟩:=H;exact Qo rfl rfl rfl (aJ TF.aP h9) (Bv rfl rfl rfl (svg rfl rfl rfl rfl (xb rfl (fun _=>bW TF.dS)) (Qh rfl rfl rfl rfl Kq (pf rfl rfl (aH (bD fun a ha=>⟨⟨(decide ((n1:Int)<=x9)),ha.weaken cs,H⟩,rfl⟩))))))
def nS (K:Bool->World->Prop) (w:World) (k2:Nat) (I2:Nat->Int->Prop) (x2:Int) (b2:Bool):Prop:=
 (b2=true->(K false w))/\(b2=false->(∃k3,k3<k2/\I2 k3 (IntKind.wrap .i64 (x2+1))))
def Cc (A1:Option Addr) (n1 c1:Nat) (K:Bool->World->Prop) (w:World):Prop:=
 ∃I1:Nat->Int->Prop,(∃k1,I1 k1 0)/\∀k1 (x1:Int),I1 k1 x1->((x1<(n1:Int)->(0<=x1/\x1<(n1:Int)/\∃a1,A1=some a1/\∃A2 n2 c2,w.cell? ((a1.add (x1.toNat*2)).add 1)=some (.slice A2 n2 c2)/\∃I2:Nat->Int->Prop,(∃k2,I2 k2 0)/\∀k2 (x2:Int),I2 k2 x2->((x2<(n2:Int)->(0<=x2/\x2<(n2:Int)/\∃a2,A2=some a2/\∃x3,w.cell? (a2.add (x2.toNat*1))=some (iv x3)/\(x3<0->((nS K w k2 I2 x2) true))/\(¬(x3<0)->(0<=x2/\x2<(n2:Int)/\∃a3,A2=some a3/\∃x4,w.cell? (a3.add (x2.toNat*1))=some (iv x4)/\(nS K w k2 I2 x2) (decide (x1<=x4))))))/\(¬(x2<(n2:Int))->(∃k4,k4<k1/\I1 k4 (IntKind.wrap .i64 (x1+1)))))))/\(¬(x1<(n1:Int))->(K true w)))
theorem Ze (A1:Option Addr) (n1 c1:Nat) (K:Bool->World->Prop) (w:World) (H:Cc A1 n1 c1 K w):Calls P F.vX #[.slice A1 n1 c1] w (cO fun v w'=>∃b1,v=(.bool b1)/\K b1 w'):=by
 unfold Cc at H;refine bT (P:=P) Tryz.func20 rfl [(0,.slice A1 n1 c1)] 36 rfl rfl (fun p hp=>by rcases List.mem_singleton.1 hp with rfl;rfl) (aG (aF (ag rfl (aH (nc (kp 0 rfl zz) (aG (aG (aF (ag rfl (aH (nc (y2 0 3 rfl) (aY ?_))))))))))));obtain⟨I1,⟨k1,hi⟩,H⟩:=H;refine Au (fun k1 a=>∃x1,Ok 36 [(0,.slice A1 n1 c1),(3,iv x1)] a/\I1 k1 x1) (fun a ha=>⟨k1,0,ha.weaken cs,hi⟩) ?_;rintro k1 a ⟨x1,ha,hI⟩;replace H:=H k1 x1 hI;refine cu ha ?_;refine aG (aG (aF (mv rfl (mv rfl (sv rfl rfl (xb rfl (fun _=>bW TF.dS)) (bo rfl rfl iY (aH (nc (y3 0 3 9 rfl) ?_))))))));refine bC rfl (fun hb=> ?_) (fun hb=> ?_)
 ·replace H:=H.1 hb;refine aX (nc (y2 0 3 rfl) (aG (aY (aG (aF (mv rfl (mv rfl ?_)))))));obtain⟨h1,h2,a1,e1,H⟩:=H;refine ix rfl rfl (aU TF.dN TF.bY e1 h1 h2) (fa rfl (TF.fF _ _) ?_);obtain⟨A2,n2,c2,h3,H⟩:=H;refine ld rfl (aJ TF.bM h3) (ag rfl (aH (nc (y3 0 3 4 rfl) (aG (aF (ag rfl (aH (nc (y4 0 3 4 5 rfl) (aY ?_)))))))));obtain⟨I2,⟨k2,hi⟩,H⟩:=H;refine Au (fun k2 a=>∃x2,Ok 36 [(0,.slice A1 n1 c1),(3,iv x1),(4,.slice A2 n2 c2),(5,iv x2)] a/\I2 k2 x2) (fun a ha=>⟨k2,0,ha.weaken cs,hi⟩) ?_;rintro k2 a ⟨x2,ha,hI⟩;replace H:=H k2 x2 hI;refine cu ha ?_;refine aG (aG (aF (mv rfl (mv rfl (sv rfl rfl (xb rfl (fun _=>bW TF.bP)) (bo rfl rfl iY (aH (nc (y5 0 3 4 5 20 rfl) ?_))))))));refine bC rfl (fun hb=> ?_) (fun hb=> ?_)
  ·replace H:=H.1 hb;refine aX (nc (y4 0 3 4 5 rfl) (aG (aY ?_)));refine fM (fun a=>∃b2,Ok 36 [(0,.slice A1 n1 c1),(3,iv x1),(4,.slice A2 n2 c2),(5,iv x2),(35,.bool b2)] a/\nS K w k2 I2 x2 b2) ?_ ?_
   ·rintro a ⟨b2,ha,H⟩;unfold nS at H;refine cu ha ?_;refine eG rfl (fun hb=> ?_) (fun hb=> ?_)
    ·replace H:=H.1 hb;exact aG (aF (ag rfl (aH (nc (kp 2 rfl zz) (bK (bF (aQ (aQ (bF (bF (aQ (aQ (bF (aQ (aN (res1 rfl rfl) ⟨_,rfl,_,rfl,H⟩)))))))))))))))
    ·replace H:=H.2 hb;refine aX (bZ (nc (y4 0 3 4 5 rfl) (aF (mv rfl (bo rfl rfl kC (ag rfl (aH ?_)))))));obtain⟨k3,hk,H⟩:=H;exact bD fun a ha=>⟨k3,hk,⟨IntKind.wrap .i64 (x2+1),ha.weaken cs,H⟩,rfl⟩
   ·refine aF (mv rfl (mv rfl ?_));obtain⟨h4,h5,a2,e2,H⟩:=H;refine ix rfl rfl (aU TF.aV TF.size_int e2 h4 h5) ?_;obtain⟨x3,h6,H⟩:=H;refine ld rfl (aJ TF.aP h6) (bo rfl rfl iY ?_);rcases Classical.em (x3<0) with hb|hb
    ·replace H:=H.1 hb;exact sv rfl rfl (xt rfl hb) (sk rfl rfl rfl rfl (sk rfl rfl rfl rfl (sk rfl rfl rfl rfl (sk rfl rfl rfl rfl (sk rfl rfl rfl rfl (sk rfl rfl rfl rfl (pt rfl rfl (aH (bD fun a ha=>⟨⟨true,ha.weaken cs,H⟩,rfl⟩)))))))))
    ·replace H:=H.2 hb;refine sv rfl rfl (xf rfl hb) (Bv rfl rfl rfl (Bv rfl rfl rfl ?_));obtain⟨h7,h8,a3,e3,H⟩:=H;refine ixg rfl rfl rfl rfl (aU TF.aV TF.size_int e3 h7 h8) ?_;obtain⟨x4,h9,H⟩:=H;exact Qo rfl rfl rfl (aJ TF.aP h9) (Bv rfl rfl rfl (Qh rfl rfl rfl rfl Kq (pf rfl rfl (aH (bD fun a ha=>⟨⟨(decide (x1<=x4)),ha.weaken cs,H⟩,rfl⟩)))))
  ·replace H:=H.2 hb;refine eU (aT (aT (bQ (bZ (nc (y2 0 3 rfl) (aF (mv rfl (bo rfl rfl kC (ag rfl (aH ?_))))))))));obtain⟨k4,hk,H⟩:=H;exact bD fun a ha=>⟨k4,hk,⟨IntKind.wrap .i64 (x1+1),ha.weaken cs,H⟩,rfl⟩
 ·replace H:=H.2 hb;exact eU (aT (aT (bQ (nc zz (aG (aF (ag rfl (aH (nc (kp 2 rfl zz) (bK (aN (res1 rfl rfl) ⟨_,rfl,_,rfl,H⟩)))))))))))
def Bj (A1:Option Addr) (n1 c1:Nat) (A2:Option Addr) (n2 c2:Nat) (A3:Option Addr) (n3 c3:Nat) (K:Int->Int->World->Prop) (w:World):Prop:=
 Calls P F.vX #[.slice A1 n1 c1] w (cO fun v1 w1=>∃b1,v1=(.bool b1)/\((!b1)=true->(K 0 80 w1))/\((!b1)=false->(∃I1:Nat->Int->World->Prop,(∃k1,I1 k1 0 w1)/\∀k1 (x3:Int) (w2:World),I1 k1 x3 w2->((x3<(n3:Int)->(Calls P F.xQ #[.slice A1 n1 c1,.slice A2 n2 c2,.slice A3 n3 c3,iv x3] w2 (cO fun v2 w3=>∃b2,v2=(.bool b2)/\((!b2)=true->(K x3 0 w3))/\((!b2)=false->(∃k2,k2<k1/\I1 k2 (IntKind.wrap .i64 (x3+1)) w3)))))/\(¬(x3<(n3:Int))->(K (-1) 0 w2))))))
theorem Zi (A1:Option Addr) (n1 c1:Nat) (A2:Option Addr) (n2 c2:Nat) (A3:Option Addr) (n3 c3:Nat) (K:Int->Int->World->Prop) (w:World) (H:Bj A1 n1 c1 A2 n2 c2 A3 n3 c3 K w):Calls P F.Ac #[.slice A1 n1 c1,.slice A2 n2 c2,.slice A3 n3 c3] w (cO fun v w'=>∃x1,∃x2,v=(.tuple #[iv x1,iv x2])/\K x1 x2 w'):=by
 unfold Bj at H;refine bT (P:=P) Tryz.func52 rfl [(0,.slice A1 n1 c1),(1,.slice A2 n2 c2),(2,.slice A3 n3 c3)] 27 rfl rfl (aa rfl (aa rfl (aa rfl az))) (aG (aF (ag rfl (ag rfl (aH (nc (y3 0 1 2 rfl) (aG (aG (aF (mv rfl (sc rfl rfl FF.Cj H ?_)))))))))));rintro _ w1 ⟨b1,rfl,H⟩;refine sv rfl rfl (xu rfl sK) (aH (nc (y4 0 1 2 12 rfl) ?_));refine eG rfl (fun hb=> ?_) (fun hb=> ?_)
 ·replace H:=H.1 hb;exact aG (aF (ag rfl (ag rfl (aH (nc (y2 6 7 rfl) (bK (aQ (aN (Jk rfl rfl rfl) ⟨_,rfl,_,_,rfl,H⟩))))))))
 ·replace H:=H.2 hb;refine aX (nc (y3 0 1 2 rfl) (aG (aG (aF (ag rfl (aH (nc (y4 0 1 2 8 rfl) (aY ?_))))))));obtain⟨I1,⟨k1,hi⟩,H⟩:=H;refine fK (fun k1 a w'=>∃x3,Ok 27 [(0,.slice A1 n1 c1),(1,.slice A2 n2 c2),(2,.slice A3 n3 c3),(8,iv x3)] a/\I1 k1 x3 w') (fun a ha=>⟨k1,0,ha.weaken cs,hi⟩) ?_;rintro k1 a w2 ⟨x3,ha,hI⟩;replace H:=H k1 x3 w2 hI;refine cu ha ?_;refine aG (aG (aF (mv rfl (mv rfl (sv rfl rfl (xb rfl (fun _=>bW TF.lD)) (bo rfl rfl iY (aH (nc (y5 0 1 2 8 16 rfl) ?_))))))));refine bC rfl (fun hb=> ?_) (fun hb=> ?_)
  ·replace H:=H.1 hb;refine aX (nc (y4 0 1 2 8 rfl) (aG (aY (aG (aF (mv rfl (mv rfl (mv rfl (mv rfl (sc rfl rfl FF.Pq H ?_))))))))));rintro _ w3 ⟨b2,rfl,H⟩;refine ag rfl (aH (nc (y5 0 1 2 8 9 rfl) (aG (aF (mv rfl (sv rfl rfl (xu rfl sK) (aH (nc (y5 0 1 2 8 25 rfl) ?_))))))));refine eG rfl (fun hb=> ?_) (fun hb=> ?_)
   ·replace H:=H.1 hb;exact aG (aF (mv rfl (ag rfl (ag rfl (aH (nc (y2 6 7 rfl) (bK (bF (aQ (aQ (bF (aQ (aN (Jk rfl rfl rfl) ⟨_,rfl,_,_,rfl,H⟩)))))))))))))
   ·replace H:=H.2 hb;refine aX (bZ (nc (y4 0 1 2 8 rfl) (aF (mv rfl (bo rfl rfl kC (ag rfl (aH ?_)))))));obtain⟨k2,hk,H⟩:=H;exact bD fun a ha=>⟨k2,hk,IntKind.wrap .i64 (x3+1),ha.weaken cs,H⟩
  ·replace H:=H.2 hb;exact eU (aT (aT (bQ (nc zz (aG (aF (ag rfl (ag rfl (aH (nc (y2 6 7 rfl) (bK (aN (Jk rfl rfl rfl) ⟨_,rfl,_,_,rfl,H⟩))))))))))))
section
variable {w w0:World} {nodes:List Flat} {given links:List Dk} {A1 A2 A3:Option Addr} {n1 n2 n3:Nat}
theorem aHv {A B:Option Addr} {n m c d:Nat} {gs:List Dk} {x:Dk} (h:Sl Ef w A n gs) (hn:Sm n):
  Calls P F.Ag #[.slice A n c,.agg #[iv x.kind,iv x.a,iv x.b,iv x.tag,.slice B m d]] w (cO fun v w'=>∃b,v= .bool b/\(b=true↔∃g∈gs,g.kind=1/\g.a=x.a/\g.b=x.b/\g.tag=x.tag)/\Ext w w'):=by
 refine Za A n c _ _ _ _ B m d (fun b w'=>(b=true↔∃g∈gs,g.kind=1/\g.a=x.a/\g.b=x.b/\g.tag=x.tag)/\Ext w w') w ?_
 unfold Bz
 intro p w1 hN
 have E1:Ext w w1:=Ext.eY hN
 refine⟨fun q i w2=>q=n-i.toNat/\0<=i/\i<=n/\(∀k:Nat,(k:Int)<i->∀g,gs[k]? =some g->¬(g.kind=1/\g.a=x.a/\g.b=x.b/\g.tag=x.tag))/\Ext w1 w2,⟨n,by omega,by omega,by omega,fun k hk=>by omega,Ext.refl _⟩,?_⟩
 rintro q i w2 ⟨rfl,i0,i1,hall,E2⟩
 have e0:=h.1
 refine⟨fun hlt=> ?_,fun hge=>⟨⟨fun q=>(by cases q),?_⟩,E1.trans E2⟩⟩
 ·obtain⟨g,a,C,s,t,hg,hA,hc,_,_⟩:=(h.ext (E1.trans E2)).link i0 hlt
  have cx:=E2.cells (hN.cells rfl)
  have J:∀b,(b=true↔(g.kind=1/\g.a=x.a/\g.b=x.b/\g.tag=x.tag))->∀w3,Ext w1 w3->jO (fun b w'=>(b=true↔∃g∈gs,g.kind=1/\g.a=x.a/\g.b=x.b/\g.tag=x.tag)/\Ext w w') (n-i.toNat) (fun q i w2=>q=n-i.toNat/\0<=i/\i<=n/\(∀k:Nat,(k:Int)<i->∀g,gs[k]? =some g->¬(g.kind=1/\g.a=x.a/\g.b=x.b/\g.tag=x.tag))/\Ext w1 w2) i b w3:=by
   intro b hb w3 E3
   refine⟨fun hbt=>⟨⟨fun _=>⟨g,List.mem_of_getElem? hg,hb.1 hbt⟩,fun _=>rfl⟩,E1.trans E3⟩,fun hbf=> ?_⟩
   rw[gI i0 hlt hn]
   refine⟨n-(i+1).toNat,by omega,rfl,by omega,by omega,fun k hk g' hg'=> ?_,E3⟩
   rcases Int.lt_or_eq_of_le (show(k:Int)<=i by omega) with hk|hk
   ·exact hall k hk g' hg'
   ·rw[show k=i.toNat by omega,hg] at hg'
    cases hg'
    intro hh
    rw[hb.2 hh] at hbf
    cases hbf
  refine⟨i0,hlt,a,hA,_,hc 0 _ rfl,fun k1=>⟨i0,hlt,a,hA,_,hc 1 _ rfl,_,cx 1 _ rfl,fun k2=>⟨i0,hlt,a,hA,_,hc 2 _ rfl,_,cx 2 _ rfl,fun k3=>⟨i0,hlt,a,hA,_,hc 3 _ rfl,_,cx 3 _ rfl,fun w3 hw3=>J _ ?_ w3 (E2.drawn hw3)⟩,fun k3 w3 hw3=>J _ ?_ w3 (E2.drawn hw3)⟩,fun k2 w3 hw3=>J _ ?_ w3 (E2.drawn hw3)⟩,fun k1 w3 hw3=>J _ ?_ w3 (E2.drawn hw3)⟩
  ·rw[decide_eq_true_iff]
   exact⟨fun k4=>⟨k1,k2,k3,k4⟩,fun k=>k.2.2.2⟩
  ·exact⟨fun k=>(by cases k),fun k=>absurd k.2.2.1 k3⟩
  ·exact⟨fun k=>(by cases k),fun k=>absurd k.2.1 k2⟩
  ·exact⟨fun k=>(by cases k),fun k=>absurd k.1 k1⟩
 ·rintro⟨g,hg,hh⟩
  obtain⟨k,hk⟩:=List.mem_iff_getElem?.1 hg
  have:=(List.getElem?_eq_some_iff.1 hk).1
  exact absurd hh (hall k (by omega) g hk)
theorem Yf {A:Option Addr} {n c:Nat} {at_ k kk:Int} {l q:Dk} (h:Sl Ef w A n links) (a0:0<=at_) (hl:links[at_.toNat]? =some l) (k0:0<=k) (hk:l.kids[k.toNat]? =some kk) (kk0:0<=kk) (hq:links[kk.toNat]? =some q):
  Calls P F.rP #[.slice A n c,iv at_,iv k] w (cO fun v w'=>v= .tuple #[iv q.a,iv q.b]/\aO w w'):=by
 refine cO.mono (aBi A n c at_ k (fun a b w'=>a=q.a/\b=q.b/\aO w w') w ?_) (by rintro _ _ ⟨a,b,rfl,rfl,rfl,h⟩;exact⟨rfl,h⟩)
 have e0:=h.1
 have l1:=(List.getElem?_eq_some_iff.1 hl).1
 have l2:=(List.getElem?_eq_some_iff.1 hq).1
 obtain⟨l',a1,B,m,d,hl',hA,hc,_,hki⟩:=h.link a0 (by omega)
 rw[hl] at hl'
 cases hl'
 have l3:=(List.getElem?_eq_some_iff.1 hk).1
 have e1:=hki.1
 obtain⟨kk',a2,hk',hB,hck⟩:=hki.int k0 (by omega)
 rw[hk] at hk'
 cases hk'
 obtain⟨q',a3,C,s,t,hq',hA3,hc3,_,_⟩:=h.link kk0 (by omega)
 rw[hq] at hq'
 cases hq'
 exact⟨a0,by omega,a1,hA,B,m,d,hc 4 _ rfl,k0,by omega,a2,hB,kk,hck,kk0,by omega,a3,hA3,_,hc3 1 _ rfl,a0,by omega,a1,hA,B,m,d,hc 4 _ rfl,k0,by omega,a2,hB,kk,hck,kk0,by omega,a3,hA3,_,hc3 2 _ rfl,fun w1 hw1=>⟨rfl,rfl,hw1⟩⟩
theorem aCp {A B:Option Addr} {n m c d:Nat} {x y:Int}:
  Calls P F.vO #[.agg #[iv x,.slice A n c],.agg #[iv y,.slice B m d]] w (cO fun v w'=>∃b,v= .bool b/\(b=true↔0<=x/\x=y/\n=m)/\Ext w w'):=by
 refine Zd x A n c y B m d (fun b w'=>(b=true↔0<=x/\x=y/\n=m)/\Ext w w') w ?_
 intro p1 w1 hN1 p2 w2 hN2
 have E2:Ext w w2:=(Ext.eY hN1).new hN2
 have c1:=(Ext.eY hN2).cells (hN1.cells rfl)
 have c2:=hN2.cells rfl
 refine⟨_,c1 0 _ rfl,fun k1=>⟨_,c1 0 _ rfl,_,c2 0 _ rfl,fun k2=>⟨_,_,_,c1 1 _ rfl,_,_,_,c2 1 _ rfl,?_,E2⟩,fun k2=>⟨⟨fun k=>(by cases k),fun k=>absurd k.2.1 k2⟩,E2⟩⟩,fun k1=>⟨⟨fun k=>(by cases k),fun k=>absurd k.1 k1⟩,E2⟩⟩
 rw[decide_eq_true_iff]
 omega
theorem aDb {c1 c3:Nat} {at_:Int} {l:Dk} {m n:Flat} (h1:Sl mO w A1 n1 nodes) (h3:Sl Ef w A3 n3 links) (s3:Sm n3) (a0:0<=at_) (a1:at_<n3) (hl:links[at_.toNat]? =some l) (la0:0<=l.a) (lb0:0<=l.b)
  (hm:nodes[l.a.toNat]? =some m) (hn:nodes[l.b.toNat]? =some n) (hkid:∀k∈l.kids,0<=k/\k<at_):
  Calls P F.uD #[.slice A1 n1 c1,.slice A3 n3 c3,iv at_] w (cO fun v w'=>∃b,v= .bool b/\(b=true↔aNp links m n l.kids)/\Ext w w'):=by
 refine Tc A1 n1 c1 A3 n3 c3 at_ (fun b w'=>(b=true↔aNp links m n l.kids)/\Ext w w') w ?_
 have e1:=h1.1
 have e3:=h3.1
 have l1:=(List.getElem?_eq_some_iff.1 hm).1
 have l2:=(List.getElem?_eq_some_iff.1 hn).1
 obtain⟨l',b1,B,k,d,hl',hA3,hc,hsk,hki⟩:=h3.link a0 a1
 rw[hl] at hl'
 cases hl'
 unfold vY
 refine⟨a0,a1,b1,hA3,_,_,_,_,B,k,d,hc,fun p1 w1 hN1=>⟨hN1.soft rfl,fun w2 hw2=> ?_⟩⟩
 have hN2:=hN1.store hw2 rfl
 have E2:Ext w w2:=Ext.eY hN2
 have cl:=hN2.cells rfl
 obtain⟨m',b2,C,r,s,hm',hA1,hcm,hsr,him⟩:=(h1.ext E2).flat la0 (by omega)
 rw[hm] at hm'
 cases hm'
 refine⟨_,cl 1 _ rfl,la0,by omega,b2,hA1,_,C,r,s,hcm,fun p2 w3 hN3=>⟨hN3.soft rfl,fun w4 hw4=> ?_⟩⟩
 have hN4:=hN3.store hw4 rfl
 have E24:Ext w2 w4:=Ext.eY hN4
 have cm:=hN4.cells rfl
 obtain⟨n',b3,D,t,u,hn',hA1',hcn,hst,hin⟩:=(h1.ext (E2.trans E24)).flat lb0 (by omega)
 rw[hn] at hn'
 cases hn'
 refine⟨_,E24.cells cl 2 _ rfl,lb0,by omega,b3,hA1',_,D,t,u,hcn,fun p3 w5 hN5=>⟨hN5.soft rfl,fun w6 hw6=> ?_⟩⟩
 have hN6:=hN5.store hw6 rfl
 have E46:Ext w4 w6:=Ext.eY hN6
 have cn:=hN6.cells rfl
 refine⟨_,C,r,s,E46.cells cm,_,D,t,u,cn,aCp.mono ?_⟩
 rintro _ w7 ⟨_,rfl,b,rfl,hb,E67⟩
 have E27:Ext w2 w7:=(E24.trans E46).trans E67
 have E7:Ext w w7:=E2.trans E27
 have cl7:=E27.cells cl
 have E47:Ext w4 w7:=E46.trans E67
 have cm7:=E47.cells cm
 have cn7:=E67.cells cn
 have em:=him.1
 have en:=hin.1
 have ek:=hki.1
 have J:∀b,(b=true↔¬(0<=m.fn/\m.fn=n.fn/\r=t/\k=r))->kL (fun b w'=>(b=true↔aNp links m n l.kids)/\Ext w w') p1 A3 n3 c3 at_ p2 p3 b w7:=by
  intro b hb
  refine⟨fun hbt=>⟨⟨fun q=>(by cases q),fun q=>absurd ⟨q.1,q.2.1,by have:=q.2.2.1;omega,by have:=q.2.2.2.1;omega⟩ (hb.1 hbt)⟩,E7⟩,fun hbf=> ?_⟩
  have hgood:0<=m.fn/\m.fn=n.fn/\r=t/\k=r:=by
   rcases Classical.em (0<=m.fn/\m.fn=n.fn/\r=t/\k=r) with q|q
   ·exact q
   ·rw[hb.2 q] at hbf;cases hbf
  obtain⟨g1,g2,rfl,rfl⟩:=hgood
  refine⟨fun q i w9=>q=k-i.toNat/\0<=i/\i<=k/\(∀(j:Nat),(j:Int)<i->∀z u v,l.kids[j]? =some z->m.args[j]? =some u->n.args[j]? =some v->aAo links z u v)/\Ext w7 w9,⟨k,by omega,by omega,by omega,fun j hj=>by omega,Ext.refl _⟩,?_⟩
  rintro q i w9 ⟨rfl,i0,i1,hall,E9⟩
  refine⟨B,k,d,E9.cells cl7 4 _ rfl,fun hlt=> ?_,fun hge=>⟨⟨fun _=>⟨g1,g2,by omega,by omega,fun j z u v hz hu hv=>hall j ?_ z u v hz hu hv⟩,fun _=>rfl⟩,E7.trans E9⟩⟩
  ·obtain⟨z,_,hz,_,_⟩:=hki.int i0 hlt
   obtain⟨z0,z1⟩:=hkid z (List.mem_of_getElem? hz)
   obtain⟨qq,hqq⟩:∃qq,links[z.toNat]? =some qq:=⟨_,List.getElem?_eq_getElem (by omega)⟩
   refine(Yf (h3.ext (E7.trans E9)) a0 hl i0 hz z0 hqq).mono ?_
   rintro _ w10 ⟨_,rfl,rfl,hw10⟩
   have E10:Ext w7 w10:=E9.drawn hw10
   obtain⟨x,a4,hx,hC,hcx⟩:=(him.ext (E27.trans E10)).int i0 (by omega)
   obtain⟨y,a5,hy,hD,hcy⟩:=(hin.ext (((E46.trans E67).trans E10))).int i0 (by omega)
   have hkI:aAo links z x y↔qq.a=x/\qq.b=y:=by
    refine⟨?_,fun hh=>⟨qq,hqq,hh.1,hh.2⟩⟩
    rintro⟨q',hq',h1,h2⟩
    rw[hqq] at hq'
    cases hq'
    exact⟨h1,h2⟩
   have no:¬(qq.a=x/\qq.b=y)->∀w',Ext w7 w'->((false=true↔aNp links m n l.kids)/\Ext w w'):=fun hn' w' hw'=>
    ⟨⟨fun q=>(by cases q),fun q=>absurd (hkI.1 (q.2.2.2.2 i.toNat z x y hz hx hy)) hn'⟩,E7.trans hw'⟩
   refine⟨_,rfl,_,_,rfl,C,k,s,E10.cells cm7 1 _ rfl,i0,by omega,a4,hC,x,hcx,fun hne=>⟨fun _=>no (fun q=>hne q.1) _ E10,fun q=>(by cases q)⟩,fun heq=>⟨D,k,u,E10.cells cn7 1 _ rfl,i0,by omega,a5,hD,y,hcy,fun hne=>no (fun q=>of_decide_eq_true hne q.2) _ E10,fun heq2=> ?_⟩⟩
   have h1:qq.a=x:=Decidable.not_not.1 heq
   have h2:qq.b=y:=Decidable.not_not.1 (of_decide_eq_false heq2)
   rw[gI i0 hlt hsk]
   refine⟨k-(i+1).toNat,by omega,rfl,by omega,by omega,fun j hj z' u' v' hz' hu' hv'=> ?_,E10⟩
   rcases Int.lt_or_eq_of_le (show(j:Int)<=i by omega) with hj|hj
   ·exact hall j hj z' u' v' hz' hu' hv'
   ·have ej:j=i.toNat:=by omega
    subst ej
    rw[hz] at hz'
    rw[hx] at hu'
    rw[hy] at hv'
    cases hz';cases hu';cases hv'
    exact hkI.2 ⟨h1,h2⟩
  ·have:=(List.getElem?_eq_some_iff.1 hz).1
   omega
 refine⟨_,rfl,b,rfl,fun hn=>J true ⟨fun _ hh=> ?_,fun _=>rfl⟩,fun hn=>⟨B,k,d,cl7 4 _ rfl,C,r,s,cm7 1 _ rfl,J _ ?_⟩⟩
 ·have:b=true:=hb.2 ⟨hh.1,hh.2.1,hh.2.2.1⟩
  rw[this] at hn
  cases hn
 ·have hbt:b=true:=by cases b<;>simp at hn⊢
  obtain⟨q1,q2,q3⟩:=hb.1 hbt
  rw[decide_eq_true_iff]
  omega
theorem aFj {c1 c2 c3:Nat} {at_:Int} (h1:Sl mO w A1 n1 nodes) (h2:Sl Ef w A2 n2 given) (h3:Sl Ef w A3 n3 links) (s1:Sm n1) (s2:Sm n2) (s3:Sm n3) (i0:0<=at_) (i1:at_<n3):
  Calls P F.xQ #[.slice A1 n1 c1,.slice A2 n2 c2,.slice A3 n3 c3,iv at_] w (cO fun v w'=>∃b,v= .bool b/\(b=true↔Fol nodes given links at_)/\Ext w w'):=by
 refine Wi A1 n1 c1 A2 n2 c2 A3 n3 c3 at_ (aP6 nodes given links at_ w) w ?_
 obtain⟨l,b1,B,m,d,hl,hA3,hc,hsm,hk⟩:=h3.link i0 i1
 have hF:=aO5 (nodes:=nodes) (given:=given) hl
 have e1:=h1.1
 have e3:=h3.1
 unfold zJ
 refine⟨i0,i1,b1,hA3,_,_,_,_,B,m,d,hc,fun p1 w1 hN1=>⟨hN1.soft rfl,fun w2 hw2=> ?_⟩⟩
 have hN2:=hN1.store hw2 rfl
 have E2:Ext w w2:=Ext.eY hN2
 have cl:=hN2.cells rfl
 have hk2:=hk.ext E2
 have ek:=hk.1
 have J6:∀b,(b=true↔¬(0<=l.a/\0<=l.b/\l.a<nodes.length/\l.b<nodes.length))->iU (aP6 nodes given links at_ w) w2 p1 at_ A2 n2 c2 A3 n3 c3 A1 n1 c1 b:=by
  intro b hb
  refine⟨fun hbt=>⟨⟨fun k=>(by cases k),fun k=>absurd (hF.1 k).1.1 (hb.1 hbt)⟩,E2⟩,fun hbf=> ?_⟩
  have hgood:0<=l.a/\0<=l.b/\l.a<nodes.length/\l.b<nodes.length:=by
   rcases Classical.em (0<=l.a/\0<=l.b/\l.a<nodes.length/\l.b<nodes.length) with k|k
   ·exact k
   ·rw[hb.2 k] at hbf;cases hbf
  refine⟨fun q i=>q=m-i.toNat/\0<=i/\i<=m/\∀j:Nat,(j:Int)<i->∀z,l.kids[j]? =some z->0<=z/\z<at_,⟨m,by omega,by omega,by omega,fun j hj=>by omega⟩,?_⟩
  rintro q i ⟨rfl,j0,j1,hall⟩
  refine⟨B,m,d,cl 4 _ rfl,fun hlt=> ?_,fun hge=> ?_⟩
  ·obtain⟨z,a2,hz,hB,hcz⟩:=hk2.int j0 hlt
   have J1:∀b,(b=true↔¬(0<=z/\z<at_))->lQ (aP6 nodes given links at_ w) w2 (m-i.toNat) (fun q i=>q=m-i.toNat/\0<=i/\i<=m/\∀j:Nat,(j:Int)<i->∀z,l.kids[j]? =some z->0<=z/\z<at_) i b:=by
    intro b hb
    refine⟨fun hbt=>⟨⟨fun k=>(by cases k),fun k=>absurd ((hF.1 k).1.2 z (List.mem_of_getElem? hz)) (hb.1 hbt)⟩,E2⟩,fun hbf=> ?_⟩
    have hz':0<=z/\z<at_:=by
     rcases Classical.em (0<=z/\z<at_) with k|k
     ·exact k
     ·rw[hb.2 k] at hbf;cases hbf
    rw[gI j0 hlt hsm]
    refine⟨m-(i+1).toNat,by omega,rfl,by omega,by omega,fun j hj z' hz''=> ?_⟩
    rcases Int.lt_or_eq_of_le (show(j:Int)<=i by omega) with hj|hj
    ·exact hall j hj z' hz''
    ·rw[show j=i.toNat by omega,hz] at hz''
     cases hz''
     exact hz'
   refine⟨B,m,d,cl 4 _ rfl,j0,hlt,a2,hB,z,hcz,fun q=>J1 true ⟨fun _=>by omega,fun _=>rfl⟩,fun q=>⟨B,m,d,cl 4 _ rfl,j0,hlt,a2,hB,z,hcz,J1 _ ?_⟩⟩
   rw[decide_eq_true_iff]
   omega
  have hB:Base nodes l at_:=⟨hgood,fun z hz=>by
   obtain⟨j,hj⟩:=List.mem_iff_getElem?.1 hz
   have:=(List.getElem?_eq_some_iff.1 hj).1
   exact hall j (by omega) z hj⟩
  have hF':Fol nodes given links at_↔Rule nodes given links l:=hF.trans ⟨fun k=>k.2,fun k=>⟨hB,k⟩⟩
  have hno:¬Rule nodes given links l->∀w',Ext w2 w'->aP6 nodes given links at_ w false w':=fun hn w' hw'=>⟨⟨fun k=>(by cases k),fun k=>absurd (hF'.1 k) hn⟩,E2.trans hw'⟩
  have nil_iff:(m:Int)=0↔l.kids=[]:=by rw[<-List.length_eq_zero_iff];omega
  refine⟨_,cl 0 _ rfl,fun hk1=>⟨B,m,d,cl 4 _ rfl,fun hm0=>⟨_,_,_,_,B,m,d,cl,?_⟩,fun hm0=>hno (fun k=>hm0 (nil_iff.2 ((aQo hk1).1 k).1)) _ (Ext.refl _)⟩,fun hk1=>⟨_,cl 3 _ rfl,fun ht=>hno (aNc hk1 ht) _ (Ext.refl _),fun ht=> ?_⟩⟩
  ·refine(aHv (h2.ext E2) s2).mono ?_
   rintro _ w3 ⟨_,rfl,b4,rfl,hb4,E3⟩
   refine⟨_,rfl,b4,rfl,?_,E2.trans E3⟩
   rw[hb4,hF',aQo hk1]
   exact⟨fun k=>⟨nil_iff.1 hm0,k⟩,fun k=>k.2⟩
  have ht:l.tag=0:=by omega
  refine⟨_,cl 0 _ rfl,fun hk2'=>⟨B,m,d,cl 4 _ rfl,fun hm0=>⟨_,cl 1 _ rfl,_,cl 2 _ rfl,?_⟩,fun hm0=>hno (fun k=>hm0 (nil_iff.2 ((rule2 hk2' ht).1 k).1)) _ (Ext.refl _)⟩,fun hk2'=>⟨fun hk3=>⟨B,m,d,cl 4 _ rfl,fun hm1=>hno (fun k=> ?_) _ (Ext.refl _),fun hm1=> ?_⟩,fun hk3=>⟨fun hk4=>⟨B,m,d,cl 4 _ rfl,fun hm2=>hno (fun k=> ?_) _ (Ext.refl _),fun hm2=> ?_⟩,fun hk4=>⟨fun hk5=> ?_,fun hk5=>hno (aL1 hk1 hk2' hk3 hk4 hk5) _ (Ext.refl _)⟩⟩⟩⟩
  ·unfold lT
   refine⟨?_,E2⟩
   rw[decide_eq_true_iff,hF',rule2 hk2' ht]
   exact⟨fun k=>⟨nil_iff.1 hm0,k⟩,fun k=>k.2⟩
  ·obtain⟨k',hk',_⟩:=(aQp hk3 ht).1 k
   rw[hk'] at ek
   exact hm1 (by simp at ek;omega)
  ·obtain⟨k,hkk⟩:=List.length_eq_one_iff.1 (show l.kids.length=1 by omega)
   obtain⟨k0,k1⟩:=hB.2 k (by rw[hkk];simp)
   obtain⟨q,hq⟩:∃q,links[k.toNat]? =some q:=⟨_,List.getElem?_eq_getElem (by omega)⟩
   refine(Yf (h3.ext E2) i0 hl (k:=0) (by omega) (show l.kids[(0:Int).toNat]? =some k by rw[hkk];rfl) k0 hq).mono ?_
   rintro _ w5 ⟨_,rfl,rfl,hw5⟩
   have c5:=(Ext.aK hw5).cells cl
   have hR:Rule nodes given links l↔q.a=l.b/\q.b=l.a:=by
    rw[aQp hk3 ht]
    refine⟨?_,fun hh=>⟨k,hkk,q,hq,hh.1,hh.2⟩⟩
    rintro⟨k',hk',q',hq',hh⟩
    rw[hkk] at hk'
    cases hk'
    rw[hq] at hq'
    cases hq'
    exact hh
   refine⟨_,rfl,_,_,rfl,_,c5 2 _ rfl,fun e=>⟨_,c5 1 _ rfl,?_,E2.drawn hw5⟩,fun e=>hno (fun hh=>e (hR.1 hh).1) _ (Ext.aK hw5)⟩
   rw[decide_eq_true_iff,hF',hR]
   exact⟨fun k=>⟨e,k⟩,fun k=>k.2⟩
  ·obtain⟨k1,k2,hk',_⟩:=(aQf hk4 ht).1 k
   rw[hk'] at ek
   exact hm2 (by simp at ek;omega)
  ·obtain⟨k,k',hkk⟩:=(show∃k k',l.kids=[k,k'] from by
    have:l.kids.length=2:=by omega
    match hl:l.kids,this with
    |[k,k'],_=>exact⟨k,k',rfl⟩)
   obtain⟨k0,k1⟩:=hB.2 k (by rw[hkk];simp)
   obtain⟨k0',k1'⟩:=hB.2 k' (by rw[hkk];simp)
   obtain⟨q,hq⟩:∃q,links[k.toNat]? =some q:=⟨_,List.getElem?_eq_getElem (by omega)⟩
   obtain⟨q',hq'⟩:∃q,links[k'.toNat]? =some q:=⟨_,List.getElem?_eq_getElem (by omega)⟩
   refine(Yf (h3.ext E2) i0 hl (k:=0) (by omega) (show l.kids[(0:Int).toNat]? =some k by rw[hkk];rfl) k0 hq).mono ?_
   rintro _ w6 ⟨_,rfl,rfl,hw6⟩
   refine⟨_,rfl,_,_,rfl,(Yf (h3.ext (E2.drawn hw6)) i0 hl (k:=1) (by omega) (show l.kids[(1:Int).toNat]? =some k' by rw[hkk];rfl) k0' hq').mono ?_⟩
   rintro _ w7 ⟨_,rfl,rfl,hw7⟩
   have E27:Ext w2 w7:=(Ext.aK hw6).drawn hw7
   have c7:=E27.cells cl
   have hR:Rule nodes given links l↔q.a=l.a/\q.b=q'.a/\q'.b=l.b:=by
    rw[aQf hk4 ht]
    refine⟨?_,fun hh=>⟨k,k',hkk,q.b,⟨q,hq,hh.1,rfl⟩,⟨q',hq',hh.2.1.symm,hh.2.2⟩⟩⟩
    rintro⟨j,j',hj,x,⟨r,hr,h1,h2⟩,⟨r',hr',h3,h4⟩⟩
    rw[hkk] at hj
    cases hj
    rw[hq] at hr
    rw[hq'] at hr'
    cases hr;cases hr'
    exact⟨h1,by rw[h2,h3],h4⟩
   refine⟨_,rfl,_,_,rfl,_,c7 1 _ rfl,fun e=>⟨fun e'=>⟨_,c7 2 _ rfl,?_,E2.trans E27⟩,fun e'=>hno (fun hh=>e' (hR.1 hh).2.1) _ E27⟩,fun e=>hno (fun hh=>e (hR.1 hh).1) _ E27⟩
   rw[decide_eq_true_iff,hF',hR]
   exact⟨fun k=>⟨e,e',k⟩,fun k=>k.2.2⟩
  ·obtain⟨x,hx⟩:∃x,nodes[l.a.toNat]? =some x:=⟨_,List.getElem?_eq_getElem (by omega)⟩
   obtain⟨y,hy⟩:∃y,nodes[l.b.toNat]? =some y:=⟨_,List.getElem?_eq_getElem (by omega)⟩
   refine(aDb (h1.ext E2) (h3.ext E2) s3 i0 i1 hl hgood.1 hgood.2.1 hx hy hB.2).mono ?_
   rintro _ w8 ⟨_,rfl,b,rfl,hb,E8⟩
   exact⟨_,rfl,b,rfl,by rw[hb,hF',aRp hk5 ht hx hy],E2.trans E8⟩
 refine⟨_,cl 1 _ rfl,fun q=>J6 true ⟨fun _=>by omega,fun _=>rfl⟩,fun q=>⟨_,cl 1 _ rfl,fun q2=>J6 true ⟨fun _=>by omega,fun _=>rfl⟩,fun q2=>⟨_,cl 2 _ rfl,fun q3=>J6 true ⟨fun _=>by omega,fun _=>rfl⟩,fun q3=>⟨_,cl 2 _ rfl,J6 _ ?_⟩⟩⟩⟩
 rw[decide_eq_true_iff]
 omega
theorem aCk {A:Option Addr} {n c:Nat} {fs:List Flat} (h:Sl mO w A n fs) (hn:Sm n):
  Calls P F.vX #[.slice A n c] w (cO fun v w'=>∃b,v= .bool b/\(b=true↔Sound fs)/\w'=w):=by
 refine Ze A n c (fun b w'=>(b=true↔Sound fs)/\w'=w) w ?_
 unfold Cc
 refine⟨fun m i=>m=n-i.toNat/\0<=i/\i<=n/\(∀(k:Nat),(k:Int)<i->∀x,fs[k]? =some x->∀(j:Nat) a,x.args[j]? =some a->0<=a/\a<(k:Int)),⟨n,by omega,by omega,by omega,fun k hk=>by omega⟩,?_⟩
 rintro m i ⟨rfl,h0,h1,hall⟩
 refine⟨fun hlt=> ?_,fun hge=> ?_⟩
 ·obtain⟨x,ad,B,k,cc,hx,hA,hc,hk,hr⟩:=h.flat h0 hlt
  have c1:=hc 1 _ rfl
  refine⟨h0,hlt,ad,hA,B,k,cc,c1,fun m j=>m=k-j.toNat/\0<=j/\j<=k/\∀(q:Nat),(q:Int)<j->∀a,x.args[q]? =some a->0<=a/\a<i,⟨k,by omega,by omega,by omega,fun q hq=>by omega⟩,?_⟩
  rintro m j ⟨rfl,j0,j1,jall⟩
  refine⟨fun jlt=> ?_,fun jge=> ?_⟩
  ·obtain⟨y,ad',hy,hB,hcell⟩:=hr.int j0 jlt
   refine⟨j0,jlt,ad',hB,y,hcell,?_⟩
   have key:∀b:Bool,(b=true↔¬(0<=y/\y<i))->nS (fun b w'=>(b=true↔Sound fs)/\w'=w) w (k-j.toNat) (fun m j=>m=k-j.toNat/\0<=j/\j<=k/\∀(q:Nat),(q:Int)<j->∀a,x.args[q]? =some a->0<=a/\a<i) j b:=by
    intro b hb
    refine⟨fun hbt=>⟨?_,rfl⟩,fun hbf=> ?_⟩
    ·refine⟨fun h=>(by cases h),fun hs=> ?_⟩
     have:=hs i.toNat x hx j.toNat y hy
     rw[show((i.toNat:Nat):Int)=i by omega] at this
     exact absurd this (hb.1 hbt)
    ·have hb':0<=y/\y<i:=by
      rcases Classical.em (0<=y/\y<i) with h|h
      ·exact h
      ·rw[hb.2 h] at hbf;cases hbf
     rw[gI j0 jlt hk]
     refine⟨k-(j+1).toNat,by omega,rfl,by omega,by omega,fun q hq a ha=> ?_⟩
     rcases Int.lt_or_eq_of_le (show(q:Int)<=j by omega) with hq|hq
     ·exact jall q hq a ha
     ·rw[show q=j.toNat by omega,hy] at ha
      cases ha
      exact hb'
   refine⟨fun hneg=>key true ⟨fun _=>by omega,fun _=>rfl⟩,fun hneg=>⟨j0,jlt,ad',hB,y,hcell,key _ ⟨fun hd=>by have:=of_decide_eq_true hd;omega,fun hd=>decide_eq_true (by omega)⟩⟩⟩
  ·rw[gI h0 hlt hn]
   refine⟨n-(i+1).toNat,by omega,rfl,by omega,by omega,fun q hq z hz j' a ha=> ?_⟩
   rcases Int.lt_or_eq_of_le (show(q:Int)<=i by omega) with hq|hq
   ·exact hall q hq z hz j' a ha
   ·rw[show q=i.toNat by omega,hx] at hz
    cases hz
    rw[hq]
    refine jall j' ?_ a ha
    have:=(List.getElem?_eq_some_iff.1 ha).1
    have:=hr.1
    omega
 ·refine⟨⟨fun _=>fun k x hx j a ha=> ?_,fun _=>rfl⟩,rfl⟩
  refine hall k ?_ x hx j a ha
  have:=(List.getElem?_eq_some_iff.1 hx).1
  have:=h.1
  omega
theorem aHn (c1 c2 c3:Nat) (h1:Sl mO w A1 n1 nodes) (h2:Sl Ef w A2 n2 given) (h3:Sl Ef w A3 n3 links) (s1:Sm n1) (s2:Sm n2) (s3:Sm n3):
  Calls P F.Ac #[.slice A1 n1 c1,.slice A2 n2 c2,.slice A3 n3 c3] w (cO fun v w'=>∃r e:Int,v= .tuple #[iv r,iv e]/\aCm nodes given links r e/\Ext w w'):=by
 refine Zi A1 n1 c1 A2 n2 c2 A3 n3 c3 (fun r e w'=>aCm nodes given links r e/\Ext w w') w ?_
 unfold Bj
 refine(aCk h1 s1).mono ?_
 rintro _ w1 ⟨_,rfl,b,rfl,hb,rfl⟩
 refine⟨_,rfl,b,rfl,fun hn=>⟨.inl ⟨fun hs=> ?_,rfl,rfl⟩,Ext.refl _⟩,fun hn=> ?_⟩
 ·rw[hb.2 hs] at hn;cases hn
 have hs:Sound nodes:=hb.1 (by cases b<;>simp at hn⊢)
 have e3:=h3.1
 refine⟨fun m i w'=>m=n3-i.toNat/\0<=i/\i<=n3/\(∀k:Nat,(k:Int)<i->Fol nodes given links k)/\Ext w1 w',⟨n3,by omega,by omega,by omega,fun k hk=>by omega,Ext.refl _⟩,?_⟩
 rintro m i w2 ⟨rfl,i0,i1,hall,E2⟩
 refine⟨fun hlt=> ?_,fun hge=>⟨.inr ⟨hs,rfl,.inl ⟨rfl,fun k hk=>hall k (by omega)⟩⟩,E2⟩⟩
 refine(aFj (h1.ext E2) (h2.ext E2) (h3.ext E2) s1 s2 s3 i0 hlt).mono ?_
 rintro _ w3 ⟨_,rfl,b2,rfl,hb2,E3⟩
 refine⟨_,rfl,b2,rfl,fun hn=>⟨.inr ⟨hs,rfl,.inr ⟨i0,by omega,fun hf=> ?_,hall⟩⟩,E2.trans E3⟩,fun hn=> ?_⟩
 ·rw[hb2.2 hf] at hn;cases hn
 ·have hf:=hb2.1 (by cases b2<;>simp at hn⊢)
  rw[gI i0 hlt s3]
  refine⟨n3-(i+1).toNat,by omega,rfl,by omega,by omega,fun k hk=> ?_,E2.trans E3⟩
  rcases Int.lt_or_eq_of_le (show(k:Int)<=i by omega) with hk|hk
  ·exact hall k hk
  ·rw[hk];exact hf
theorem aCm.same {r e r' e':Int} (h:aCm nodes given links r e) (k:aCm nodes given links r' e'):r=r'/\e=e':=by
 rcases h with⟨h1,rfl,rfl⟩|⟨h1,rfl,h2⟩<;>rcases k with⟨k1,rfl,rfl⟩|⟨k1,rfl,k2⟩
 ·exact⟨rfl,rfl⟩
 ·exact absurd k1 h1
 ·exact absurd h1 k1
 ·refine⟨?_,rfl⟩
  rcases h2 with⟨rfl,h2⟩|⟨h0,h1,h2,h3⟩<;>rcases k2 with⟨rfl,k2⟩|⟨k0,k1,k2,k3⟩
  ·rfl
  ·exact absurd (show Fol nodes given links r' by have:=h2 r'.toNat (by omega);rwa [show((r'.toNat:Nat):Int)=r' by omega] at this) k2
  ·exact absurd (show Fol nodes given links r by have:=k2 r.toNat (by omega);rwa [show((r.toNat:Nat):Int)=r by omega] at this) h2
  ·rcases Int.lt_trichotomy r r' with q|q|q
   ·exact absurd (show Fol nodes given links r by have:=k3 r.toNat (by omega);rwa [show((r.toNat:Nat):Int)=r by omega] at this) h2
   ·exact q
   ·exact absurd (show Fol nodes given links r' by have:=h3 r'.toNat (by omega);rwa [show((r'.toNat:Nat):Int)=r' by omega] at this) k2
end
section
variable {B0:Nat} {w w':World} {p:Addr} {fs:List Flat} {A1:Option Addr} {c1:Nat}
theorem Vz.aR4 {w1:World} (hN:New w1 (.cells #[.slice none 0 0,.slice none 0 0,.slice none 0 0] T.wK) p w') (hB:B0<=w1.heap.size):Vz (Ws p) B0 w' (fun _=>none) (fun _=>0) (fun _=>0) (Jg [] [] []):=by
 have hb:=hN.block
 have hs:=hN.size
 have cells:=hN.cells rfl
 have soft:=hN.soft (k:=3) rfl
 refine⟨fun k hk=> ?_,fun k hk=>(soft k hk).2,fun k hk=> ?_,fun j k _ _ _ b h=> ?_,fun k _ b h=> ?_,fun j k _ _ h=>Et h,fun k _=>Addr.add_block _ _,fun b h=> ?_⟩
 ·have hk':k<3:=hk
  have:k=0\/k=1\/k=2:=by omega
  rcases this with rfl|rfl|rfl<;>exact cells _ _ rfl
 ·have:Jg [] [] [] k=[]:=by
   unfold Jg
   split
   ·rfl
   ·split<;>rfl
  rw[this]
  exact Row.nil _ _ _ _
 ·obtain⟨_,h,_⟩:=h;cases h
 ·obtain⟨_,h,_⟩:=h;cases h
 ·have:b=p.block:=h
  omega
theorem aM5 {nv:List Value} {us:List Value}:∀i,upd (Jg nv [] []) 0 us i=Jg us [] [] i:=by
 intro i
 unfold upd Jg
 by_cases h0:i=0<;>simp[h0]
def aRw (w:World) (p:Addr) (fs:List Flat) (k:Nat) (i:Int) (w':World):Prop:=
 k=fs.length-i.toNat/\0<=i/\i<=fs.length/\Ext w w'/\∃A n c nv,Vz (Ws p) w.heap.size w' A n c (Jg nv [] [])/\n 0=i.toNat/\St (fun b=>b<w.heap.size\/FX (Ws p) A b) w' fun w=>Yi mO w nv (fs.take i.toNat)
theorem Yn (hx:∀w',Ext w w'->Sl mO w' A1 fs.length fs) (hB:B0<=w.heap.size) (hm:fs.length<=1048576):
  Calls P F.zK #[.slice A1 fs.length c1] w (cO fun v w'=>Ext w w'/\((¬Sound fs/\v= .tuple #[.pointer none,iv 80])\/(Sound fs/\∃p,v= .tuple #[.pointer (some p),iv 0]/\xP B0 w' p fs (FN (fun _=>False) w w') [] []))):=by
 refine cO.mono (aBa A1 fs.length c1 (fun q e w'=>Ext w w'/\((¬Sound fs/\q=none/\e=80)\/(Sound fs/\∃p,q=some p/\e=0/\xP B0 w' p fs (FN (fun _=>False) w w') [] []))) w ?_) (by
  rintro _ w' ⟨q,e,rfl,h0,⟨h1,rfl,rfl⟩|⟨h1,p,rfl,rfl,h2⟩⟩
  ·exact⟨h0,.inl ⟨h1,rfl⟩⟩
  ·exact⟨h0,.inr ⟨h1,p,rfl,h2⟩⟩)
 unfold Gs
 refine(aCk (hx w (Ext.refl w)) (by unfold Sm;omega)).mono ?_
 rintro _ w1 ⟨_,rfl,b,rfl,hb,rfl⟩
 refine⟨_,rfl,b,rfl,fun q=>⟨Ext.refl _,.inl ⟨fun hs=>(by rw[hb.2 hs] at q;cases q),rfl,rfl⟩⟩,fun q p1 w2 hN2=> ?_⟩
 have hs:Sound fs:=hb.1 (by cases b<;>simp at q⊢)
 have E2:Ext w1 w2:=Ext.eY hN2
 refine⟨aRw w1 p1 fs,⟨fs.length,rfl,by omega,by omega,E2,_,_,_,[],Vz.aR4 hN2 (Nat.le_refl _),rfl,fun w' _=>Yi.nil _ _⟩,?_⟩
 rintro k i w3 ⟨rfl,i0,i1,E3,A,n,c,nv,hf,hn0,nd⟩
 refine⟨fun hlt=> ?_,fun hge=> ?_⟩
 ·obtain⟨x,ad,C,kk,dd,hxi,hA,hab,hc,hkk⟩:=Sl.aF5 hx (i:=i.toNat) (by omega)
  refine⟨fun q A2 n2 c2 j w4=>q=kk-j.toNat/\0<=j/\j<=kk/\Ext w3 w4/\n2=j.toNat/\Row w4 w3.heap.size T.int 1 A2 n2 c2 ((x.args.take j.toNat).map iv),⟨kk,by simp,by omega,by omega,Ext.refl _,rfl,Row.nil _ _ _ _⟩,?_⟩
  rintro q A2 n2 c2 j w4 ⟨rfl,j0,j1,E4,hn2,R⟩
  obtain⟨hc4,hi4⟩:=hc w4 (E3.trans E4)
  have kl:=hi4.1
  refine⟨i0,hlt,ad,hA,C,kk,dd,by simpa using hc4 1 _ rfl,fun jlt=> ?_,fun jge=> ?_⟩
  ·obtain⟨y,a3,hy,hC,hcy⟩:=hi4.int j0 jlt
   refine⟨i0,hlt,ad,hA,C,kk,dd,by simpa using hc4 1 _ rfl,j0,jlt,a3,hC,y,hcy,fun p2 w5 hN5=> ?_⟩
   have E5:=Ext.eY hN5
   have R5:=R.keep E5 fun _ _ h=>h
   unfold Sm at hkk
   obtain⟨A5,c5,w6,hr,R6,hK,_⟩:=R5.append (P:=P) (m:=1) (c2:=1) (t:=T.bH) (ty:=T.bH) (by_:=8) (by kernel_rfl) (by kernel_rfl) (by decide) (news:=[iv y]) rfl (hN5.cells rfl) (by intro u hu;simp at hu;subst hu;rfl) (by omega) (by omega) (Nat.le_trans E4.size E5.size)
   refine⟨A5,n2+1,c5,w6,hr,kk-(j+1).toNat,by omega,?_⟩
   rw[gI j0 jlt (by unfold Sm;omega)]
   refine⟨rfl,by omega,by omega,(E4.trans E5).over hK fun b hb hh=>by have:=(R5.at hh).1;omega,by omega,?_⟩
   rw[show(j+1).toNat=j.toNat+1 by omega,lJ hy,List.map_append]
   exact R6
  ·have hj:j.toNat=kk:=by omega
   rw[hj,List.take_of_length_le (by omega)] at R
   have f4:=hf.stay E4
   refine⟨A 0,n 0,c 0,f4.cell 0 (rl (by decide)),i0,hlt,ad,hA,x.fn,by simpa using hc4 0 _ rfl,fun w14 hw14 p3 w7 hN7 w13 hw13=> ?_⟩
   have E47:Ext w4 w13:=((Ext.aK hw14).new hN7).drawn hw13
   have E313:=E4.trans E47
   have f13:=f4.stay E47
   have R13:=R.keep E47 fun _ _ h=>h
   obtain⟨A7,c7,w8,hr,_,_,hh⟩:=f13.append (P:=P) (k:=0) (rl (by decide)) (t:=T.fB) (by_:=32) (m:=1) (c2:=1) (by kernel_rfl) (show wP P T.fJ=some (2,32,2) by kernel_rfl) (show 0<2 by decide) (news:=[iv x.fn,.slice A2 n2 c2]) rfl ((Ext.aK hw13).cells (hN7.cells rfl)) (by intro u hu;simp at hu;rcases hu with rfl|rfl<;>rfl) (by omega) (by omega) (Nat.le_trans E3.size E313.size)
   refine⟨A7,n 0+1,c7,w8,hr,fun w12 hw12=> ?_⟩
   obtain⟨k1,k2,_,k3⟩:=hh w12 (Ext.aK hw12)
   refine⟨k1,k2,fun w9 hw9 w10 hw10=> ?_⟩
   obtain⟨f9,kp9,g9⟩:=k3 w9 hw9
   have f9':Vz (Ws p1) w1.heap.size w9 (upd A 0 A7) (upd n 0 (n 0+1)) (upd c 0 c7) (Jg (nv++[iv x.fn,.slice A2 n2 c2]) [] []):=f9.congr fun j _=>aM5 j
   have kp9':Keep (FX (Ws p1) A) w13 w9:=kp9.mono fun b _ hb=>hb.elim (fun hb=> .inr ⟨0,rl (by decide),hb⟩) fun hb=> .inl (by rw[hb];exact Addr.add_block _ _)
   have E9:Ext w1 w9:=(E3.trans E313).over kp9' fun b hb hh=>by have:=(hf.fx hh).1;omega
   have s313:=E313.size
   refine⟨fs.length-(i+1).toNat,by omega,?_⟩
   rw[gI i0 hlt (by unfold Sm;omega)]
   refine⟨rfl,by omega,by omega,E9.drawn hw10,_,_,_,_,f9'.stay (Ext.aK hw10),by rw[upd_same];omega,?_⟩
   have iI:dU (fun b=>b<w1.heap.size\/FX (Ws p1) A b) w3 (fun b=>b<w1.heap.size\/FX (Ws p1) (upd A 0 A7) b) w9:=
    ⟨(E313.mono fun _ _ h=>h.elim).over kp9' fun b _ hb=> .inr hb,fun b hb hh=>hh.imp id (g9 b (by omega))⟩
   have nd9:=nd.iI iI
   rw[show(i+1).toNat=i.toNat+1 by omega,lJ hxi]
   have no:∀b,At A2 b->¬(b<w1.heap.size\/FX (Ws p1) (upd A 0 A7) b):=fun b hb hh=>by
    have h1:=(R13.at hb)
    have h2:=E3.size
    rcases hh with hh|hh
    ·omega
    ·have:=hf.fx (g9 b h1.2 hh)
     omega
   have R9:Row w9 w3.heap.size T.int 1 A2 n2 c2 (x.args.map iv):=R13.keep kp9' fun b hb hh=>by
    have:=(R13.at hb).1
    have:=hf.fx hh
    omega
   refine fun w' hw'=> ?_
   have hw9':Keep (fun b=>b<w1.heap.size\/FX (Ws p1) (upd A 0 A7) b) w9 w':=((Ext.aK hw10).mono fun _ _ h=>h.elim).trans hw'
   refine(nd9 w' hw9').snoc rfl ⟨A2,n2,c2,rfl,by unfold Sm at hkk⊢;omega,Si (R9.keep hw9' no)⟩
 ·have hi:i.toNat=fs.length:=by omega
  rw[hi,List.take_length] at nd
  refine⟨E3,.inr ⟨hs,p1,rfl,rfl,A,n,c,nv,hf.xE hB,fun w' hw'=>nd w' (hw'.mono fun b hb hh=>hh.imp (fun q=>Nat.lt_of_not_le fun q2=>q (.inr ⟨q2,hb⟩)) id),fun b hb=> .inr (hf.fx hb),fun b hb=>hb.elim (fun q=>q.elim) fun q=>⟨Nat.le_trans hB q.1,q.2⟩⟩⟩
end
theorem aOd {α:Type} {l:List α} {i:Nat} {v:α} (h:l[i]? =some v):l.set i v=l:=by
 refine List.ext_getElem? fun j=> ?_
 rw[List.getElem?_set]
 split
 ·rename_i e
  subst e
  rw[h,if_pos (List.getElem?_eq_some_iff.1 h).1]
 ·rfl
theorem aFf {α:Type} {ys vs:List α} {i:Nat} {y:α} (h:ys[i]? =some y) (hl:vs.length=ys.length):(ys.take i++vs.drop i).set i y=ys.take (i+1)++vs.drop (i+1):=by
 have hi:=(List.getElem?_eq_some_iff.1 h).1
 have hlt:i<vs.length:=by omega
 rw[List.take_add_one,h,List.set_append_right _ _ (by simp;omega)]
 simp only[List.length_take]
 rw[show i-min i ys.length=0 by omega,List.drop_eq_getElem_cons hlt,List.set_cons_zero]
 simp
theorem aIu {α:Type} {ys vs:List α} {i:Nat} (hi:i<vs.length) (hl:vs.length=ys.length):(ys.take i++vs.drop i)[i]? =vs[i]? :=by
 rw[List.getElem?_append_right (by simp;omega),List.length_take,List.getElem?_drop]
 congr 1
 omega
section
variable {w w':World} {Bw:Nat} {A:Option Addr} {n c:Nat} {r:List Int} {a b:Int}
theorem Yb (h:Own w Bw T.int 1 A n c (r.map iv)) {i:Int} (h0:0<=i) (h1:i<n):∃ad,A=some ad/\r[i.toNat]? =some (rt r i)/\w.cell? (ad.add (i.toNat*1))=some (iv (rt r i))/\w.frozen? (ad.add (i.toNat*1))=false:=by
 obtain⟨ad,v,hA,hv,hc,hf⟩:=h.row.get h0 h1
 rw[List.getElem?_map,Option.map_eq_some_iff] at hv
 obtain⟨y,hy,rfl⟩:=hv
 have:=aDf hy
 subst this
 exact⟨ad,hA,hy,hc,hf⟩
theorem aEl (h:Own w Bw T.int 1 A n c (r.map iv)) (va:Vn n a) (vb:Vn n b) (hn:Sm n):
  Calls P F.xU #[.slice A n c,iv a,iv b] w (cO fun v w'=>v= .tuple #[]/\Own w' Bw T.int 1 A n c ((joinL r a b).map iv)/\Keep (At A) w w'):=by
 refine cO.mono (aAc A n c a b (fun w'=>Own w' Bw T.int 1 A n c ((joinL r a b).map iv)/\Keep (At A) w w') w ?_) (by rintro _ w' ⟨rfl,h⟩;exact⟨rfl,h⟩)
 have hl:r.length=n:=by have:=h.1;simpa using this
 obtain⟨ad,hA,ra,ca,_⟩:=Yb h va.1 va.2
 obtain⟨ad',hA',rb,cb,_⟩:=Yb h vb.1 vb.2
 rw[hA] at hA'
 cases hA'
 have J:∀x y,x=min (rt r a) (rt r b)->y=max (rt r a) (rt r b)->pG w n A (fun w'=>Own w' Bw T.int 1 A n c ((joinL r a b).map iv)/\Keep (At A) w w') x y:=by
  intro x y hx hy
  have hjl:(joinL r a b).length=r.length:=aGz
  refine⟨fun k i w'=>k=n-i.toNat/\0<=i/\i<=n/\Own w' Bw T.int 1 A n c (((joinL r a b).take i.toNat++r.drop i.toNat).map iv)/\Keep (At A) w w',⟨n,by simp,by omega,by omega,by simpa using h,Keep.refl _ _⟩,?_⟩
  rintro k i w1 ⟨rfl,i0,i1,O,K⟩
  refine⟨fun hlt=> ?_,fun hge=> ?_⟩
  ·obtain⟨ad1,hA1,rv,cv,fv⟩:=Yb O i0 hlt
   rw[hA] at hA1
   cases hA1
   have hri:r[i.toNat]? =some (rt r i):=aLn hl ⟨i0,hlt⟩
   have he:rt ((joinL r a b).take i.toNat++r.drop i.toNat) i=rt r i:=by
    refine aDf ?_
    rw[aIu (by omega) hjl.symm,hri]
   rw[he] at cv
   have hji:(joinL r a b)[i.toNat]? =some (if rt r i=y then x else rt r i):=by
    unfold joinL
    rw[List.getElem?_map,hri,hx,hy]
    rfl
   refine⟨i0,hlt,ad,hA,rt r i,cv,fun heq=>⟨i0,hlt,ad,hA,⟨_,cv⟩,fv,fun w2 hw2=> ?_⟩,fun hne=> ?_⟩
   ·refine⟨n-(i+1).toNat,by omega,?_⟩
    rw[gI i0 hlt hn]
    have hset:=O.set1 (w':=w2) hA (j:=i.toNat) (u:=iv x) (by omega) (by rw[hw2,Nat.mul_one])
    rw[<-List.map_set,aFf (by rw[hji,if_pos heq]) hjl.symm] at hset
    refine⟨rfl,by omega,by omega,by rw[show(i+1).toNat=i.toNat+1 by omega];exact hset,K.trans ((jE hw2).mono fun q _ hq=>⟨ad,hA,by rw[hq,Addr.add_block]⟩)⟩
   ·refine⟨n-(i+1).toNat,by omega,?_⟩
    rw[gI i0 hlt hn]
    refine⟨rfl,by omega,by omega,?_,K⟩
    rw[if_neg hne] at hji
    have e:(joinL r a b).take i.toNat++r.drop i.toNat=(joinL r a b).take (i+1).toNat++r.drop (i+1).toNat:=by
     rw[show(i+1).toNat=i.toNat+1 by omega,<-aFf hji hjl.symm]
     refine(aOd ?_).symm
     rw[aIu (by omega) hjl.symm,hri]
    rw[<-e]
    exact O
  ·have hi:i.toNat=n:=by omega
   rw[hi,List.take_of_length_le (by omega),List.drop_of_length_le (by omega),List.append_nil] at O
   exact⟨O,K⟩
 refine⟨va.1,va.2,ad,hA,_,ca,vb.1,vb.2,ad,hA,_,cb,fun hlt=>J _ _ (by omega) (by omega),fun hge=>J _ _ (by omega) (by omega)⟩
theorem aDn {x y:Flat} {A2 A3:Option Addr} {n2 n3 c2 c3:Nat} (hr:Ints w A n r) (ix:Ints w A2 n2 x.args) (iy:Ints w A3 n3 y.args) (s2:Sm n2) (vx:∀q∈x.args,Vn n q) (vy:∀q∈y.args,Vn n q):
  Calls P F.uZ #[.slice A n c,.agg #[iv x.fn,.slice A2 n2 c2],.agg #[iv y.fn,.slice A3 n3 c3]] w (cO fun v w'=>∃b,v= .bool b/\(b=true↔0<=x.fn/\x.fn=y.fn/\x.args.length=y.args.length/\∀(i:Nat) p q,x.args[i]? =some p->y.args[i]? =some q->rt r p=rt r q)/\Ext w w'):=by
 refine cO.mono (Ur A n c x.fn A2 n2 c2 y.fn A3 n3 c3 (fun b w'=>(b=true↔0<=x.fn/\x.fn=y.fn/\x.args.length=y.args.length/\∀(i:Nat) p q,x.args[i]? =some p->y.args[i]? =some q->rt r p=rt r q)/\Ext w w') w ?_) (by rintro _ w' ⟨b,rfl,h⟩;exact⟨b,rfl,h⟩)
 unfold wW
 have ex:=ix.1
 have ey:=iy.1
 have hl:=hr.1
 intro p1 w1 hN1 p2 w2 hN2
 have E2:Ext w w2:=(Ext.eY hN1).new hN2
 have h1:bG w2 p1 [iv x.fn,.slice A2 n2 c2]:=(Ext.eY hN2).cells (hN1.cells rfl)
 have h2:bG w2 p2 [iv y.fn,.slice A3 n3 c3]:=hN2.cells rfl
 refine⟨_,_,_,_,h1,_,_,_,_,h2,(aCp (c:=c2) (d:=c3)).mono ?_⟩
 rintro _ w3 ⟨_,rfl,b,rfl,hb,E3⟩
 refine⟨_,rfl,b,rfl,fun q=>⟨⟨fun q=>(by cases q),fun⟨a1,a2,a3,_⟩=> ?_⟩,E2.trans E3⟩,fun q=> ?_⟩
 ·rw[hb.2 ⟨a1,a2,by omega⟩] at q;cases q
 have hbt:=hb.1 (by cases b<;>simp at q⊢)
 refine⟨fun k i w'=>k=n2-i.toNat/\0<=i/\i<=n2/\Ext w w'/\Ext w3 w'/\∀(j:Nat) p q,(j:Int)<i->x.args[j]? =some p->y.args[j]? =some q->rt r p=rt r q,⟨n2,by simp,by omega,by omega,E2.trans E3,Ext.refl _,fun j p q hj=>by omega⟩,?_⟩
 rintro k i w4 ⟨rfl,i0,i1,E4,E34,hall⟩
 have g1:=Ext.cells (E3.trans E34) h1
 have g2:=Ext.cells (E3.trans E34) h2
 refine⟨A2,n2,c2,g1 1 _ rfl,fun hlt=> ?_,fun hge=> ?_⟩
 ·obtain⟨p,a1,hp,hA2,cp⟩:=(ix.ext E4).int i0 hlt
  obtain⟨q,a3,hq,hA3,cq⟩:=(iy.ext E4).int i0 (show i<n3 by omega)
  have vp:=vx p (List.mem_of_getElem? hp)
  have vq:=vy q (List.mem_of_getElem? hq)
  obtain⟨u,a2,hu,hA,cu⟩:=(hr.ext E4).int vp.1 vp.2
  obtain⟨v,a4,hv,hA',cv⟩:=(hr.ext E4).int vq.1 vq.2
  have eu:=aDf hu
  have ev:=aDf hv
  subst eu ev
  refine⟨A2,n2,c2,g1 1 _ rfl,i0,hlt,a1,hA2,p,cp,vp.1,vp.2,a2,hA,_,cu,A3,n3,c3,g2 1 _ rfl,i0,by omega,a3,hA3,q,cq,vq.1,vq.2,a4,hA',_,cv,fun w5 hw5=>⟨fun hne=>⟨⟨fun q=>(by cases q),fun⟨_,_,_,hh⟩=>absurd (hh i.toNat p q hp hq) hne⟩,E4.drawn hw5⟩,fun heq=> ?_⟩⟩
  have heq':=Decidable.not_not.1 heq
  refine⟨n2-(i+1).toNat,by omega,?_⟩
  rw[gI i0 hlt s2]
  refine⟨rfl,by omega,by omega,E4.drawn hw5,E34.drawn hw5,fun j p' q' hj hp' hq'=> ?_⟩
  rcases Int.lt_or_eq_of_le (show(j:Int)<=i by omega) with hj'|hj'
  ·exact hall j p' q' hj' hp' hq'
  ·rw[show j=i.toNat by omega] at hp' hq'
   rw[hp] at hp'
   rw[hq] at hq'
   cases hp'
   cases hq'
   exact heq'
 ·refine⟨⟨fun _=>⟨hbt.1,hbt.2.1,by omega,fun j p q hp hq=>hall j p q ?_ hp hq⟩,fun _=>rfl⟩,E4⟩
  have:=(List.getElem?_eq_some_iff.1 hp).1
  omega
end
def Dn (fs:List Flat) (r:List Int) (i j:Int):Prop:=∀x y,Vn fs.length x->Vn fs.length y->y<x->(x<i\/(x=i/\y<j))->aGi fs r x y->rt r x=rt r y
def ClI (w:World) (fs:List Flat) (st:List dK) (A:Option Addr) (c:Nat) (r0:List Int) (i j:Int) (more:Bool) (w':World):Prop:=
 ∃r,Own w' w.heap.size T.int 1 A fs.length c (r.map iv)/\RI fs st r/\aBt st r/\Ext w w'/\(more=false->r=r0/\Dn fs r i j)/\(more=true->wt r<wt r0)
section
variable {w w':World} {fs:List Flat} {st:List dK} {A:Option Addr} {c:Nat} {r0:List Int} {i j:Int} {more:Bool}
theorem ClI.drawn (h:ClI w fs st A c r0 i j more w') {w2:World} (k:aO w' w2):ClI w fs st A c r0 i j more w2:=by
 obtain⟨r,O,R,E,X,m1,m2⟩:=h
 exact⟨r,O.keep (Ext.aK k) (fun _ _ h=>h),R,E,X.drawn k,m1,m2⟩
theorem ClI.again (h:ClI w fs st A c r0 i j more w') {i' j':Int} (hd:∀r,RI fs st r->more=false->r=r0->Dn fs r i j->Dn fs r i' j'):ClI w fs st A c r0 i' j' more w':=by
 obtain⟨r,O,R,E,X,m1,m2⟩:=h
 exact⟨r,O,R,E,X,fun q=>⟨(m1 q).1,hd r R q (m1 q).1 (m1 q).2⟩,m2⟩
theorem aGi.same {r:List Int} (h:RI fs st r) (hs:Sound fs) (k:aGi fs r i j):iH fs st i j:=by
 have va:∀(x:Int),Vn fs.length x->∀(q:Nat) a,(fG fs x).args[q]? =some a->Vn fs.length a:=fun x hx q a ha=>by
  have hi:x.toNat<fs.length:=by have:=hx.1;have:=hx.2;omega
  have e:=List.getElem?_eq_getElem hi
  have hn:=aA2 e
  rw[hn] at ha
  have:=hs _ _ e q a ha
  exact⟨this.1,by omega⟩
 exact .wZ k.v1 k.v2 k.app k.fn k.len fun q a b ha hb=>h.same (va i k.v1 q a ha) (va j k.v2 q b hb) (k.args q a b ha hb)
theorem aIn {k7:Nat} {I5:Nat->Bool->Int->World->Prop} (hI:I5=fun k more j w'=>k=i.toNat-j.toNat/\0<=j/\j<=i/\ClI w fs st A c r0 i j more w') (hk:k7=i.toNat-j.toNat) (j0:0<=j) (j1:j<i) (hi:i<=1048576) (h:ClI w fs st A c r0 i (j+1) more w'):jJ k7 I5 j more w':=by
 refine⟨i.toNat-(j+1).toNat,by omega,?_⟩
 rw[wrap_small (by omega) (by omega),hI]
 exact⟨rfl,by omega,by omega,h⟩
theorem aOj {k7:Nat} {I5:Nat->Bool->Int->World->Prop} {b:Bool} (hI:I5=fun k more j w'=>k=i.toNat-j.toNat/\0<=j/\j<=i/\ClI w fs st A c r0 i j more w') (hk:k7=i.toNat-j.toNat) (j0:0<=j) (j1:j<i) (few:fs.length<=1048576) (vi:Vn fs.length i) (hs:Sound fs)
  {r:List Int} (O:Own w' w.heap.size T.int 1 A fs.length c (r.map iv)) (R:RI fs st r) (E:aBt st r) (X:Ext w w') (m1:more=false->r=r0/\Dn fs r i j) (m2:more=true->wt r<wt r0) (val:∀s∈st,Aa fs s.a s.b)
  (hb:b=true->rt r i≠rt r j/\aGi fs r i j) (hb2:b=false->aGi fs r i j->rt r i=rt r j):oG A fs.length c i j (jJ k7 I5 j) more b w':=by
 have vi2:=vi.2
 have vj:Vn fs.length j:=⟨j0,by omega⟩
 refine⟨fun q=> ?_,fun q=>aIn hI hk j0 j1 (by omega) ⟨r,O,R,E,X,fun q2=>⟨(m1 q2).1,fun x y vx vy hyx hxy hc=> ?_⟩,m2⟩⟩
 ·obtain⟨hne,hc⟩:=hb q
  refine(aEl O vi vj (by unfold Sm;omega)).mono ?_
  rintro _ w2 ⟨_,rfl,rfl,O2,K2⟩
  refine⟨_,rfl,rfl,aIn hI hk j0 j1 (by omega) ⟨_,O2,R.join vi vj (hc.same R hs),E.join R.len (fun s hs=>⟨(val s hs).l,(val s hs).r⟩),X.over K2 fun b hb hh=> ?_,fun q=>(by cases q),fun _=> ?_⟩⟩
  ·have:=(O.at hh).1
   omega
  ·have h1:=aO2 R vi vj hne
   cases more with
   |false=>rw[(m1 rfl).1] at h1⊢;exact h1
   |true=>exact Nat.lt_trans h1 (m2 rfl)
 ·rcases hxy with h1|⟨h1,h2⟩
  ·exact(m1 q2).2 x y vx vy hyx (.inl h1) hc
  ·rcases Int.lt_or_eq_of_le (show y<=j by omega) with h3|h3
   ·exact(m1 q2).2 x y vx vy hyx (.inr ⟨h1,h3⟩) hc
   ·subst h1 h3
    exact hb2 q hc
theorem aCq {A1 A2:Option Addr} {n2 c1 c2:Nat} (hN:Sl mO w A1 fs.length fs) (hS:Sl cRS w A2 n2 st) (val:∀s∈st,Aa fs s.a s.b) (hs:Sound fs) (few:fs.length<=1048576) (s2:n2<=1048576):
  Calls P F.wJ #[.slice A1 fs.length c1,.slice A2 n2 c2] w (cO fun v w'=>∃A c r,v= .slice A fs.length c/\Own w' w.heap.size T.int 1 A fs.length c (r.map iv)/\RI fs st r/\(∀x y,Vn fs.length x->Vn fs.length y->(rt r x=rt r y↔iH fs st x y))/\Ext w w'):=by
 refine cO.mono (Zh A1 fs.length c1 A2 n2 c2 (fun A n c w'=>n=fs.length/\∃r,Own w' w.heap.size T.int 1 A fs.length c (r.map iv)/\RI fs st r/\(∀x y,Vn fs.length x->Vn fs.length y->(rt r x=rt r y↔iH fs st x y))/\Ext w w') w ?_) (by rintro _ w' ⟨A,n,c,rfl,rfl,r,h⟩;exact⟨A,c,r,rfl,h⟩)
 have es:=hS.1
 obtain⟨w1,vs,hr,hO,E1,_⟩:=aAr (P:=P) (w:=w) (t:=T.bH) (e:=T.int) (s:=1) (by_:=8) (n:=fs.length) (by kernel_rfl) (by kernel_rfl) (by omega) (by omega)
 generalize hA0:(some ⟨w.heap.size,0,none⟩:Option Addr)=A0 at hr hO
 have hvl:=hO.1
 unfold Bh
 refine⟨A0,fs.length,fs.length,w1,hr,?_⟩
 have hix:((List.range fs.length).map fun(i:Nat)=>(i:Int)).length=fs.length:=by simp
 generalize hidx:((List.range fs.length).map fun(i:Nat)=>(i:Int))=ix at hix
 have hat:∀i:Nat,i<fs.length->ix[i]? =some (i:Int):=fun i hi=>by rw[<-hidx,List.getElem?_map,List.getElem?_range hi];rfl
 refine⟨fun k i w'=>k=fs.length-i.toNat/\0<=i/\i<=fs.length/\Ext w w'/\Own w' w.heap.size T.int 1 A0 fs.length fs.length ((ix.take i.toNat).map iv++vs.drop i.toNat),⟨fs.length,by simp,by omega,by omega,E1,by simpa using hO⟩,?_⟩
 rintro k i w2 ⟨rfl,i0,i1,E2,O2⟩
 refine⟨fun hlt=> ?_,fun hge=> ?_⟩
 ·obtain⟨a2,v,ha2,hv,hc5,hf5⟩:=O2.row.get i0 hlt
  refine⟨i0,hlt,a2,ha2,⟨_,hc5⟩,hf5,fun w3 hw3=>⟨fs.length-(i+1).toNat,by omega,?_⟩⟩
  rw[gI i0 hlt (by unfold Sm;omega)]
  have hset:=O2.set1 (w':=w3) ha2 (j:=i.toNat) (u:=iv i) (by omega) (by rw[hw3,Nat.mul_one])
  have hji:(ix.map iv)[i.toNat]? =some (iv i):=by rw[List.getElem?_map,hat _ (by omega)];simp;omega
  rw[List.map_take,aFf hji (by simp;omega),<-List.map_take] at hset
  refine⟨rfl,by omega,by omega,E2.over ((jE hw3).mono fun q _ hq=>hq) fun b hb hh=> ?_,by rw[show(i+1).toNat=i.toNat+1 by omega];exact hset⟩
  have:=(O2.at (b:=a2.block) ⟨a2,ha2,rfl⟩).1
  rw[Addr.add_block] at hh
  omega
 have hi:i.toNat=fs.length:=by omega
 rw[hi,List.take_of_length_le (by omega),List.drop_of_length_le (by omega),List.append_nil] at O2
 have R0:RI fs st ix:=RI.start st hix fun x hx=>aDf (by have:=hx.1;have:=hx.2;rw[hat x.toNat (by omega)];exact congrArg some (by omega))
 refine⟨fun k x w'=>k=n2-x.toNat/\0<=x/\x<=n2/\∃r,Own w' w.heap.size T.int 1 A0 fs.length fs.length (r.map iv)/\RI fs st r/\aBt (st.take x.toNat) r/\Ext w w',⟨n2,by simp,by omega,by omega,ix,O2,R0,fun s hs=>by simp at hs,E2⟩,?_⟩
 rintro k x w4 ⟨rfl,x0,x1,r,O4,R4,Q4,E4⟩
 refine⟨fun hlt=> ?_,fun hge=> ?_⟩
 ·obtain⟨s,ad,hsx,hA2,hc⟩:=(hS.ext E4).rs x0 hlt
  have hin:=val s (List.mem_of_getElem? hsx)
  have J:∀w' r',Own w' w.heap.size T.int 1 A0 fs.length fs.length (r'.map iv)->RI fs st r'->aBt (st.take (x.toNat+1)) r'->Ext w w'->nV (n2-x.toNat) (fun k x w'=>k=n2-x.toNat/\0<=x/\x<=n2/\∃r,Own w' w.heap.size T.int 1 A0 fs.length fs.length (r.map iv)/\RI fs st r/\aBt (st.take x.toNat) r/\Ext w w') x w':=by
   intro w' r' a1 a2 a3 a4
   refine⟨n2-(x+1).toNat,by omega,?_⟩
   rw[gI x0 hlt (by unfold Sm;omega)]
   exact⟨rfl,by omega,by omega,r',a1,a2,by rw[show(x+1).toNat=x.toNat+1 by omega];exact a3,a4⟩
  refine⟨x0,hlt,ad,hA2,s.not,hc 0 _ rfl,fun hn=>⟨x0,hlt,ad,hA2,s.a,hc 1 _ rfl,x0,hlt,ad,hA2,s.b,hc 2 _ rfl,fun w6 hw6=> ?_⟩,fun hn=>J w4 r O4 R4 ?_ E4⟩
  ·have O6:=O4.keep (Ext.aK hw6) (fun _ _ h=>h)
   have hnot:s.not=false:=by cases h:s.not<;>rw[h] at hn<;>first|rfl|cases hn
   refine(aEl O6 hin.l hin.r (by unfold Sm;omega)).mono ?_
   rintro _ w5 ⟨_,rfl,rfl,O5,K5⟩
   refine⟨_,rfl,rfl,fun w8 hw8=>J w8 _ (O5.keep (Ext.aK hw8) (fun _ _ h=>h)) (R4.join hin.l hin.r (.base hin.l hin.r ⟨s,List.mem_of_getElem? hsx,hnot,trivial,rfl,rfl⟩)) ?_ (((E4.drawn hw6).over K5 fun b hb hh=> ?_).drawn hw8)⟩
   ·rw[lJ hsx]
    intro t ht htn
    rcases List.mem_append.1 ht with ht|ht
    ·exact(Q4.join R4.len fun s hs=>⟨(val s (List.mem_of_mem_take hs)).l,(val s (List.mem_of_mem_take hs)).r⟩) t ht htn
    ·rw[List.mem_singleton.1 ht]
     exact aPs R4.len hin.l hin.r
   ·have:=(O6.at hh).1
    omega
  ·rw[lJ hsx]
   intro t ht htn
   rcases List.mem_append.1 ht with ht|ht
   ·exact Q4 t ht htn
   ·rw[List.mem_singleton.1 ht] at htn
    rw[htn] at hn
    cases hn
 have hx:x.toNat=st.length:=by omega
 rw[hx,List.take_length] at Q4
 refine⟨fun k w'=>∃r,k=wt r/\Own w' w.heap.size T.int 1 A0 fs.length fs.length (r.map iv)/\RI fs st r/\aBt st r/\Ext w w',⟨_,r,rfl,O4,R4,Q4,E4⟩,?_⟩
 rintro k w10 ⟨r0,rfl,O10,R10,Q10,E10⟩
 refine⟨fun k more i w'=>k=fs.length-i.toNat/\0<=i/\i<=fs.length/\ClI w fs st A0 fs.length r0 i 0 more w',⟨_,rfl,by omega,by omega,r0,O10,R10,Q10,E10,fun _=>⟨rfl,fun x y vx vy _ h _=> ?_⟩,fun q=>(by cases q)⟩,?_⟩
 ·have:=vx.1
  have:=vy.1
  omega
 rintro k more i w11 ⟨rfl,i0,i1,C11⟩
 refine⟨fun hlt=> ?_,fun hge=> ?_⟩
 ·have vi:Vn fs.length i:=⟨i0,hlt⟩
  generalize hI:(fun(k:Nat) (more:Bool) (j:Int) (w':World)=>k=i.toNat-j.toNat/\0<=j/\j<=i/\ClI w fs st A0 fs.length r0 i j more w')=I5
  refine⟨I5,⟨i.toNat,by rw[<-hI];exact⟨by simp,by omega,by omega,C11⟩⟩,?_⟩
  intro k b3 j w12 hI12
  rw[<-hI] at hI12
  obtain⟨rfl,j0,j1,C12⟩:=hI12
  refine⟨fun jlt=> ?_,fun jge=> ?_⟩
  ·obtain⟨r',O,R,Q,X,m1,m2⟩:=C12
   have vj:Vn fs.length j:=⟨j0,by omega⟩
   obtain⟨a5,hA5,_,ci,_⟩:=Yb O vi.1 vi.2
   obtain⟨a6,hA6,_,cj,_⟩:=Yb O vj.1 vj.2
   have J2:=fun(b:Bool) (w':World) (hd:Ext w12 w')=>aOj (w:=w) (w':=w') (b:=b) (more:=b3) (A:=A0) (c:=fs.length) (i:=i) (j:=j) hI.symm rfl j0 jlt few vi hs (O.keep hd (fun _ _ h=>h)) R Q (X.trans hd) m1 m2 val
   refine⟨vi.1,vi.2,a5,hA5,_,ci,vj.1,vj.2,a6,hA6,_,cj,fun hne=> ?_,fun heq w18 hw18=>J2 false w18 (Ext.aK hw18) (fun q=>(by cases q)) fun _ _=>Decidable.not_not.1 heq⟩
   obtain⟨x,a7,B7,k7,d7,hx7,hA7,hc7,s7,h7⟩:=(hN.ext X).flat vi.1 vi.2
   obtain⟨y,a8,B8,k8,d8,hx8,hA8,hc8,s8,h8⟩:=(hN.ext X).flat vj.1 vj.2
   refine⟨vi.1,vi.2,a7,hA7,_,_,_,_,hc7,vj.1,vj.2,a8,hA8,_,_,_,_,hc8,fun w14 hw14=> ?_⟩
   have va:∀z∈x.args,Vn fs.length z:=fun z hz=>by
    obtain⟨q,hq⟩:=List.mem_iff_getElem?.1 hz
    have:=hs _ _ hx7 q z hq
    exact⟨this.1,by have:=vi.2;omega⟩
   have vb:∀z∈y.args,Vn fs.length z:=fun z hz=>by
    obtain⟨q,hq⟩:=List.mem_iff_getElem?.1 hz
    have:=hs _ _ hx8 q z hq
    exact⟨this.1,by have:=vj.2;omega⟩
   have D14:=Ext.aK hw14
   refine(aDn (c2:=d7) (c3:=d8) (O.keep D14 (fun _ _ h=>h)).ints (h7.ext D14) (h8.ext D14) s7 va vb).mono ?_
   rintro _ w13 ⟨_,rfl,b4,rfl,hb4,E13⟩
   have n7:=aA2 hx7
   have n8:=aA2 hx8
   have hcr:aGi fs r' i j↔(0<=x.fn/\x.fn=y.fn/\x.args.length=y.args.length/\∀(q:Nat) p t,x.args[q]? =some p->y.args[q]? =some t->rt r' p=rt r' t):=by
    refine⟨fun h=> ?_,fun⟨h1,h2,h3,h4⟩=>⟨vi,vj,by rw[n7];exact h1,by rw[n7,n8];exact h2,by rw[n7,n8];exact h3,by rw[n7,n8];exact h4⟩⟩
    have h1:=h.app
    have h2:=h.fn
    have h3:=h.len
    have h4:=h.args
    rw[n7] at h1 h2 h3 h4
    rw[n8] at h2 h3 h4
    exact⟨h1,h2,h3,h4⟩
   refine⟨_,rfl,b4,rfl,fun w16 hw16=>J2 b4 w16 ((D14.trans E13).drawn hw16) (fun q=>⟨hne,hcr.2 (hb4.1 q)⟩) fun q hc=> ?_⟩
   rw[hb4.2 (hcr.1 hc)] at q
   cases q
  ·refine⟨fs.length-(i+1).toNat,by omega,?_⟩
   rw[gI i0 hlt (by unfold Sm;omega)]
   refine⟨rfl,by omega,by omega,C12.again fun r _ _ _ hd x y vx vy hyx h hc=>hd x y vx vy hyx ?_ hc⟩
   have:=vy.1
   omega
 ·refine⟨fun hm=> ?_,fun hm=> ?_⟩
  ·obtain⟨r',O,R,Q,X,m1,m2⟩:=C11
   have hmf:more=false:=by cases more<;>first|rfl|cases hm
   obtain⟨rfl,hd⟩:=m1 hmf
   exact⟨rfl,r',O,R,R.full Q fun x y vx vy hyx hc=>hd x y vx vy hyx (.inl (by have:=vx.2;omega)) hc,X⟩
  ·obtain⟨r',O,R,Q,X,m1,m2⟩:=C11
   have hmt:more=true:=by cases more<;>first|rfl|cases hm
   exact⟨wt r',m2 hmt,r',rfl,O,R,Q,X⟩
end
def kP (p1:Addr) (x2:Int) (A5:Option Addr) (n5 c5:Nat) (jc2:Option Addr->Nat->Nat->World->Prop) (k2:Nat) (I2:Nat->Option Addr->Nat->Nat->Int->World->Prop) (x3:Int) (b1:Bool) (w4:World):Prop:=
 (b1=true->(∃A7 n7 c7,w4.cell? (p1.add 1)=some (.slice A7 n7 c7)/\0<=x2/\x2<(n7:Int)/\∃a3,A7=some a3/\∃b2,∃x6,∃x7,∃x8,bG w4 (a3.add (x2.toNat*4)) [.bool b2,iv x6,iv x7,iv x8]/\∀(p2:Addr) (w6:World),New w4 (.cells #[.bool b2,iv x6,iv x7,iv x8] T.eH) p2 w6->(∃(A8:Option Addr) (n8 c8:Nat) (w7:World),(Builtin.append_ #[T.fU,T.fU] T.fU #[.slice A5 n5 c5,.slice (some p2) 1 1]).run P w6= .ok (.slice A8 n8 c8) w7/\(jc2 A8 n8 c8 w7))))/\(b1=false->(∃k3,k3<k2/\I2 k3 A5 n5 c5 (IntKind.wrap .i64 (x3+1)) w4))
def gB (k1:Nat) (I1:Nat->Option Addr->Nat->Nat->Int->World->Prop) (x2:Int) (A9:Option Addr) (n9 c9:Nat) (w8:World):Prop:=
 ∃k4,k4<k1/\I1 k4 A9 n9 c9 (IntKind.wrap .i64 (x2+1)) w8
def wG (p1:Addr) (A1:Option Addr) (n1 c1:Nat) (x1:Int) (K:Option Addr->Nat->Nat->World->Prop) (w:World):Prop:=
 ∃I1:Nat->Option Addr->Nat->Nat->Int->World->Prop,(∃k1,I1 k1 none 0 0 0 w)/\∀k1 (A3:Option Addr) (n3 c3:Nat) (x2:Int) (w1:World),I1 k1 A3 n3 c3 x2 w1->(∃A4 n4 c4,w1.cell? (p1.add 1)=some (.slice A4 n4 c4)/\(x2<(n4:Int)->(∃I2:Nat->Option Addr->Nat->Nat->Int->World->Prop,(∃k2,I2 k2 A3 n3 c3 0 w1)/\∀k2 (A5:Option Addr) (n5 c5:Nat) (x3:Int) (w2:World),I2 k2 A5 n5 c5 x3 w2->((x3<(n1:Int)->((x3≠x1->(∃A6 n6 c6,w2.cell? (p1.add 1)=some (.slice A6 n6 c6)/\0<=x2/\x2<(n6:Int)/\∃a1,A6=some a1/\∃x4,w2.cell? ((a1.add (x2.toNat*4)).add 3)=some (iv x4)/\0<=x3/\x3<(n1:Int)/\∃a2,A1=some a2/\∃x5,w2.cell? (a2.add (x3.toNat*1))=some (iv x5)/\∀w3,aO w2 w3->((kP p1 x2 A5 n5 c5 (gB k1 I1 x2) k2 I2 x3) (decide (x4=x5)) w3)))/\(¬(x3≠x1)->(∀w5,aO w2 w5->((kP p1 x2 A5 n5 c5 (gB k1 I1 x2) k2 I2 x3) false w5)))))/\(¬(x3<(n1:Int))->((gB k1 I1 x2) A5 n5 c5 w2)))))/\(¬(x2<(n4:Int))->(K A3 n3 c3 w1)))
theorem Ua (p1:Addr) (A1:Option Addr) (n1 c1:Nat) (x1:Int) (K:Option Addr->Nat->Nat->World->Prop) (w:World) (H:wG p1 A1 n1 c1 x1 K w):Calls P F.pI #[.pointer (some p1),.slice A1 n1 c1,iv x1] w (cO fun v w'=>∃A2 n2 c2,v=(.slice A2 n2 c2)/\K A2 n2 c2 w'):=by
 unfold wG at H;refine bT (P:=P) Tryz.func69 rfl [(0,.pointer (some p1)),(1,.slice A1 n1 c1),(2,iv x1)] 54 rfl rfl (aa rfl (aa rfl (aa rfl az))) (aG (aF (ag rfl (aH (nc (y3 0 1 2 rfl) (aG (aF (ag rfl (aH (nc (y4 0 1 2 7 rfl) (aG (aG (aF (ag rfl (aH (nc (y5 0 1 2 7 8 rfl) (aY ?_)))))))))))))))));obtain⟨I1,⟨k1,hi⟩,H⟩:=H;refine fK (fun k1 a w'=>∃A3 n3 c3,∃x2,Ok 54 [(0,.pointer (some p1)),(1,.slice A1 n1 c1),(2,iv x1),(7,.slice A3 n3 c3),(8,iv x2)] a/\I1 k1 A3 n3 c3 x2 w') (fun a ha=>⟨k1,none,0,0,0,ha.weaken cs,hi⟩) ?_;rintro k1 a w1 ⟨A3,n3,c3,x2,ha,hI⟩;replace H:=H k1 A3 n3 c3 x2 w1 hI;refine cu ha ?_;refine aG (aG (aF (mv rfl (mv rfl (nk rfl (fa rfl (TF.dV _ _) ?_))))));obtain⟨A4,n4,c4,h1,H⟩:=H;refine ld rfl (aJ TF.fE h1) (sv rfl rfl (xb rfl (fun _=>bW TF.jC)) (bo rfl rfl iY (aH (nc (y6 0 1 2 7 8 16 rfl) ?_))));refine bC rfl (fun hb=> ?_) (fun hb=> ?_)
 ·replace H:=H.1 hb;refine aX (nc (y5 0 1 2 7 8 rfl) ?_);refine fA (fun a w=>∃A9 n9 c9,Ok 54 [(0,.pointer (some p1)),(1,.slice A1 n1 c1),(2,iv x1),(7,.slice A9 n9 c9),(8,iv x2)] a/\gB k1 I1 x2 A9 n9 c9 w) ?_ ?_
  ·rintro a w8 ⟨A9,n9,c9,ha,H⟩;unfold gB at H;refine cu ha ?_;refine aF (mv rfl (bo rfl rfl kC (ag rfl (aH ?_))));obtain⟨k4,hk,H⟩:=H;exact bD fun a ha=>⟨k4,hk,A9,n9,c9,IntKind.wrap .i64 (x2+1),ha.weaken cs,H⟩
  ·refine aY (aG (aF (ag rfl (aH (nc (y6 0 1 2 7 8 9 rfl) (aY ?_))))));obtain⟨I2,⟨k2,hi⟩,H⟩:=H;refine fK (fun k2 a w'=>∃A5 n5 c5,∃x3,Ok 54 [(0,.pointer (some p1)),(1,.slice A1 n1 c1),(2,iv x1),(7,.slice A5 n5 c5),(8,iv x2),(9,iv x3)] a/\I2 k2 A5 n5 c5 x3 w') (fun a ha=>⟨k2,A3,n3,c3,0,ha.weaken cs,hi⟩) ?_;rintro k2 a w2 ⟨A5,n5,c5,x3,ha,hI⟩;replace H:=H k2 A5 n5 c5 x3 w2 hI;refine cu ha ?_;refine aG (aG (aF (mv rfl (mv rfl (sv rfl rfl (xb rfl (fun _=>bW TF.bP)) (bo rfl rfl iY (aH (nc (y7 0 1 2 7 8 9 22 rfl) ?_))))))));refine bC rfl (fun hb=> ?_) (fun hb=> ?_)
   ·replace H:=H.1 hb;refine aX (nc (y6 0 1 2 7 8 9 rfl) (aG (aY ?_)));refine fA (fun a w=>∃b1,Ok 54 [(0,.pointer (some p1)),(1,.slice A1 n1 c1),(2,iv x1),(7,.slice A5 n5 c5),(8,iv x2),(9,iv x3),(42,.bool b1)] a/\kP p1 x2 A5 n5 c5 (gB k1 I1 x2) k2 I2 x3 b1 w) ?_ ?_
    ·rintro a w4 ⟨b1,ha,H⟩;unfold kP at H;refine cu ha ?_;refine eG rfl (fun hb=> ?_) (fun hb=> ?_)
     ·replace H:=H.1 hb;refine aG (aF (mv rfl (mv rfl (nk rfl (fa rfl (TF.dV _ _) ?_)))));obtain⟨A7,n7,c7,h9,H⟩:=H;refine ld rfl (aJ TF.fE h9) (mv rfl ?_);obtain⟨h10,h11,a3,e3,H⟩:=H;refine ix rfl rfl (aU TF.dZ TF.dR e3 h10 h11) ?_;obtain⟨b2,x6,x7,x8,h12,H⟩:=H;refine ld rfl (gW (vs:=[.bool b2,iv x6,iv x7,iv x8]) TF.Nh TF.dR h12) (sz rfl rfl (xl 1 1 (.cells #[.bool b2,iv x6,iv x7,iv x8] T.eH) rfl) ?_);intro p2 w6 hN;obtain⟨A8,n8,c8,w7,h13,H⟩:=H _ _ hN;exact sv rfl rfl (xb rfl (fun _=>dY h13)) (ag rfl (aH (nc (y5 0 1 2 7 8 rfl) (eU (aHq rfl (aT (aT (bQ (bZ (bD fun a ha=>⟨A8,n8,c8,ha.weaken cs,H⟩))))))))))
     ·replace H:=H.2 hb;refine aX (bZ (nc (y6 0 1 2 7 8 9 rfl) (aF (mv rfl (bo rfl rfl kC (ag rfl (aH ?_)))))));obtain⟨k3,hk,H⟩:=H;exact bD fun a ha=>⟨k3,hk,A5,n5,c5,IntKind.wrap .i64 (x3+1),ha.weaken cs,H⟩
    ·refine bU follows [0,1,2,3,4,5,6,7,8,9,10,11,12,13,14,15,16,17] [7,11,15] 18 rfl rfl (by kernel_rfl) (fun _ _ d _ _ h=>by cases d<;>exact h) (fun cm W D=> ?_);refine gZ 0 cm rfl rfl D W fun _ D W=>(gZ 1 cm rfl rfl D W fun _ D W=>(pv 2 cm rfl rfl rfl (fun w' a ha=>fZ (ha.ev rfl) (ha.ev rfl) qR) D W fun _ D W=> ?_));rcases Classical.em (x3≠x1) with hb|hb
     ·replace H:=H.1 hb;refine pv 3 cm rfl rfl rfl (fun w' a ha=>o_t (iC (ha.ev rfl)) hb) D W fun _ D W=>(zX 4 cm rfl rfl rfl rfl D W fun _ D W=>(aPk 5 cm rfl rfl rfl rfl D W fun _ D W=>(Ti 6 cm rfl rfl rfl rfl (TF.dV _ _) D W fun _ D W=> ?_)));obtain⟨A6,n6,c6,h2,H⟩:=H;refine vlg 7 cm rfl rfl rfl rfl (fun hw=>(aJ TF.fE ((hw.cell _).trans h2))) D W fun _ D W=>(zX 8 cm rfl rfl rfl rfl D W fun _ D W=> ?_);obtain⟨h3,h4,a1,e1,H⟩:=H;refine Zk 9 cm rfl rfl rfl rfl rfl (aU TF.dZ TF.dR e1 h3 h4) D W fun _ D W=>(Ti 10 cm rfl rfl rfl rfl (TF.Iw _ _) D W fun _ D W=> ?_);obtain⟨x4,h5,H⟩:=H;refine vlg 11 cm rfl rfl rfl rfl (fun hw=>(aJ TF.aP ((hw.cell _).trans h5))) D W fun _ D W=>(zX 12 cm rfl rfl rfl rfl D W fun _ D W=>(zX 13 cm rfl rfl rfl rfl D W fun _ D W=> ?_));obtain⟨h6,h7,a2,e2,H⟩:=H;refine Zk 14 cm rfl rfl rfl rfl rfl (aU TF.aV TF.size_int e2 h6 h7) D W fun _ D W=> ?_;obtain⟨x5,h8,H⟩:=H;refine vlg 15 cm rfl rfl rfl rfl (fun hw=>(aJ TF.aP ((hw.cell _).trans h8))) D W fun _ D W=>(aGj 16 cm rfl rfl rfl rfl rfl (fun w' a ha=>fZ (ha.ev rfl) (ha.ev rfl) iR) D fun _ D=>(aDp 17 cm rfl rfl rfl D fun _ D=>(dJ (by kernel_rfl) D ?_)));intro w3 D;replace H:=H _ D;clear D cm;exact bD fun a ha=>⟨(decide (x4=x5)),ha.weaken cs,H⟩
     ·replace H:=H.2 hb;refine pv 3 cm rfl rfl rfl (fun w' a ha=>o_f (iC (ha.ev rfl)) hb) D W fun _ D W=>(ps 4 cm rfl rfl rfl rfl rfl D W fun _ D W=>(ps 5 cm rfl rfl rfl rfl rfl D W fun _ D W=>(ps 6 cm rfl rfl rfl rfl rfl D W fun _ D W=>(ps 7 cm rfl rfl rfl rfl rfl D W fun _ D W=>(ps 8 cm rfl rfl rfl rfl rfl D W fun _ D W=>(ps 9 cm rfl rfl rfl rfl rfl D W fun _ D W=>(ps 10 cm rfl rfl rfl rfl rfl D W fun _ D W=>(ps 11 cm rfl rfl rfl rfl rfl D W fun _ D W=>(ps 12 cm rfl rfl rfl rfl rfl D W fun _ D W=>(ps 13 cm rfl rfl rfl rfl rfl D W fun _ D W=>(ps 14 cm rfl rfl rfl rfl rfl D W fun _ D W=>(ps 15 cm rfl rfl rfl rfl rfl D W fun _ D W=>(psd 16 cm rfl rfl rfl rfl rfl D fun _ D=>(aCs 17 cm rfl rfl rfl D fun _ D=>(dJ (by kernel_rfl) D ?_)))))))))))))));intro w5 D;replace H:=H _ D;clear D cm;exact bD fun a ha=>⟨false,ha.weaken cs,H⟩
   ·replace H:=H.2 hb;exact eU (aT (aT (bQ (bZ (bD fun a ha=>⟨A5,n5,c5,ha.weaken cs,H⟩)))))
 ·replace H:=H.2 hb;exact eU (aT (aT (bQ (nc (kp 7 rfl zz) (aG (aF (mv rfl (ag rfl (aH (nc (kp 6 rfl zz) (bK (aN (res1 rfl rfl) ⟨_,rfl,_,_,_,rfl,H⟩))))))))))))
def wL (p1:Addr) (x1:Int) (x2:Int) (x3:Int) (A1:Option Addr) (n1 c1:Nat) (K:Bool->World->Prop) (w:World):Prop:=
 ∃I1:Nat->Int->World->Prop,(∃k1,I1 k1 1 w)/\∀k1 (x4:Int) (w1:World),I1 k1 x4 w1->((x4<(n1:Int)->(0<=x4/\x4<(n1:Int)/\∃a1,A1=some a1/\∃x5,w1.cell? (a1.add (x4.toNat*1))=some (iv x5)/\0<=IntKind.wrap .i64 (x4-1)/\IntKind.wrap .i64 (x4-1)<(n1:Int)/\∃a2,A1=some a2/\∃x6,w1.cell? (a2.add ((IntKind.wrap .i64 (x4-1)).toNat*1))=some (iv x6)/\∀w2,aO w1 w2->((x5<=x6->(K false w2))/\(¬(x5<=x6)->(∃k2,k2<k1/\I1 k2 (IntKind.wrap .i64 (x4+1)) w2)))))/\(¬(x4<(n1:Int))->(Calls P F.pI #[.pointer (some p1),.slice A1 n1 c1,iv (-1)] w1 (cO fun v1 w3=>∃A2 n2 c2,v1=(.slice A2 n2 c2)/\Calls P F.iO #[.pointer (some p1),iv x1,.slice A2 n2 c2,iv x2,iv x3] w3 (cO fun v2 w4=>∃b2,v2=(.bool b2)/\((!b2)=true->(K false w4))/\((!b2)=false->(∃I2:Nat->Int->World->Prop,(∃k3,I2 k3 0 w4)/\∀k3 (x7:Int) (w5:World),I2 k3 x7 w5->((x7<(n1:Int)->(Calls P F.pI #[.pointer (some p1),.slice A1 n1 c1,iv x7] w5 (cO fun v3 w6=>∃A3 n3 c3,v3=(.slice A3 n3 c3)/\Calls P F.iO #[.pointer (some p1),iv x1,.slice A3 n3 c3,iv x2,iv x3] w6 (cO fun v4 w7=>∃b3,v4=(.bool b3)/\(b3=true->(K false w7))/\(b3=false->(∃k4,k4<k3/\I2 k4 (IntKind.wrap .i64 (x7+1)) w7))))))/\(¬(x7<(n1:Int))->(K true w5))))))))))
theorem Tq (p1:Addr) (x1:Int) (x2:Int) (x3:Int) (A1:Option Addr) (n1 c1:Nat) (K:Bool->World->Prop) (w:World) (H:wL p1 x1 x2 x3 A1 n1 c1 K w):Calls P F.uI #[.pointer (some p1),iv x1,iv x2,iv x3,.slice A1 n1 c1] w (cO fun v w'=>∃b1,v=(.bool b1)/\K b1 w'):=by
 unfold wL at H;refine bT (P:=P) Tryz.func50 rfl [(0,.pointer (some p1)),(1,iv x1),(2,iv x2),(3,iv x3),(4,.slice A1 n1 c1)] 53 rfl rfl (aa rfl (aa rfl (aa rfl (aa rfl (aa rfl az))))) (aG (aF (ag rfl (aH (nc (y5 0 1 2 3 4 rfl) (aG (aG (aF (ag rfl (aH (nc (y6 0 1 2 3 4 11 rfl) (aY ?_))))))))))));obtain⟨I1,⟨k1,hi⟩,H⟩:=H;refine fK (fun k1 a w'=>∃x4,Ok 53 [(0,.pointer (some p1)),(1,iv x1),(2,iv x2),(3,iv x3),(4,.slice A1 n1 c1),(11,iv x4)] a/\I1 k1 x4 w') (fun a ha=>⟨k1,1,ha.weaken cs,hi⟩) ?_;rintro k1 a w1 ⟨x4,ha,hI⟩;replace H:=H k1 x4 w1 hI;refine cu ha ?_;refine aG (aG (aF (mv rfl (mv rfl (sv rfl rfl (xb rfl (fun _=>bW TF.bP)) (bo rfl rfl iY (aH (nc (y7 0 1 2 3 4 11 16 rfl) ?_))))))));refine bC rfl (fun hb=> ?_) (fun hb=> ?_)
 ·replace H:=H.1 hb;refine aX (nc (y6 0 1 2 3 4 11 rfl) (aG (aY (aG ?_))));refine bU follows [0,1,2,3,4,5,6,7,8,9] [3,8] 10 rfl rfl (by kernel_rfl) (fun _ _ d _ _ h=>by cases d<;>exact h) (fun cm W D=> ?_);refine gZ 0 cm rfl rfl D W fun _ D W=>(gZ 1 cm rfl rfl D W fun _ D W=> ?_);obtain⟨h1,h2,a1,e1,H⟩:=H;refine Ie 2 cm rfl rfl rfl (aU TF.aV TF.size_int e1 h1 h2) D W fun _ D W=> ?_;obtain⟨x5,h3,H⟩:=H;refine vl 3 cm rfl rfl (fun hw=>(aJ TF.aP ((hw.cell _).trans h3))) D W fun _ D W=>(gZ 4 cm rfl rfl D W fun _ D W=>(gZ 5 cm rfl rfl D W fun _ D W=>(pv 6 cm rfl rfl rfl (fun w' a ha=>fZ (ha.ev rfl) (ha.ev rfl) Pn) D W fun _ D W=> ?_)));obtain⟨h4,h5,a2,e2,H⟩:=H;refine Ie 7 cm rfl rfl rfl (aU TF.aV TF.size_int e2 h4 h5) D W fun _ D W=> ?_;obtain⟨x6,h6,H⟩:=H;refine vl 8 cm rfl rfl (fun hw=>(aJ TF.aP ((hw.cell _).trans h6))) D W fun _ D W=>(Qj 9 cm rfl rfl rfl (fun w' a ha=>fZ (ha.ev rfl) (ha.ev rfl) aIt) D fun _ D=>(dJ (by kernel_rfl) D ?_));intro w2 D;replace H:=H _ D;clear D cm;refine nc (y7 0 1 2 3 4 11 28 rfl) ?_;refine bC rfl (fun hb=> ?_) (fun hb=> ?_)
  ·replace H:=H.1 hb;exact aG (aF (ag rfl (aH (nc (kp 10 rfl zz) (bK (bF (aQ (aQ (bF (aQ (aN (res1 rfl rfl) ⟨_,rfl,_,rfl,H⟩)))))))))))
  ·replace H:=H.2 hb;refine aX (bZ (nc (y6 0 1 2 3 4 11 rfl) (aF (mv rfl (bo rfl rfl kC (ag rfl (aH ?_)))))));obtain⟨k2,hk,H⟩:=H;exact bD fun a ha=>⟨k2,hk,IntKind.wrap .i64 (x4+1),ha.weaken cs,H⟩
 ·replace H:=H.2 hb;refine eU (aT (aT (bQ (nc (y5 0 1 2 3 4 rfl) (aG (aG (aF (mv rfl (mv rfl (mv rfl (mv rfl (sc rfl rfl FF.xN H ?_))))))))))));rintro _ w3 ⟨A2,n2,c2,rfl,H⟩;refine mv rfl (mv rfl (sc rfl rfl FF.iZ H ?_));rintro _ w4 ⟨b2,rfl,H⟩;refine sv rfl rfl (xu rfl sK) (aH (nc (y6 0 1 2 3 4 37 rfl) ?_));refine eG rfl (fun hb=> ?_) (fun hb=> ?_)
  ·replace H:=H.1 hb;exact aG (aF (ag rfl (aH (nc (kp 10 rfl zz) (bK (aQ (aN (res1 rfl rfl) ⟨_,rfl,_,rfl,H⟩)))))))
  ·replace H:=H.2 hb;refine aX (nc (y5 0 1 2 3 4 rfl) (aG (aG (aF (ag rfl (aH (nc (y6 0 1 2 3 4 12 rfl) (aY ?_))))))));obtain⟨I2,⟨k3,hi⟩,H⟩:=H;refine fK (fun k3 a w'=>∃x7,Ok 53 [(0,.pointer (some p1)),(1,iv x1),(2,iv x2),(3,iv x3),(4,.slice A1 n1 c1),(12,iv x7)] a/\I2 k3 x7 w') (fun a ha=>⟨k3,0,ha.weaken cs,hi⟩) ?_;rintro k3 a w5 ⟨x7,ha,hI⟩;replace H:=H k3 x7 w5 hI;refine cu ha ?_;refine aG (aG (aF (mv rfl (mv rfl (sv rfl rfl (xb rfl (fun _=>bW TF.bP)) (bo rfl rfl iY (aH (nc (y7 0 1 2 3 4 12 41 rfl) ?_))))))));refine bC rfl (fun hb=> ?_) (fun hb=> ?_)
   ·replace H:=H.1 hb;refine aX (nc (y6 0 1 2 3 4 12 rfl) (aG (aY (aG (aF (mv rfl (mv rfl (mv rfl (mv rfl (mv rfl (sc rfl rfl FF.xN H ?_)))))))))));rintro _ w6 ⟨A3,n3,c3,rfl,H⟩;refine mv rfl (mv rfl (sc rfl rfl FF.iZ H ?_));rintro _ w7 ⟨b3,rfl,H⟩;refine aH (nc (y7 0 1 2 3 4 12 52 rfl) ?_);refine eG rfl (fun hb=> ?_) (fun hb=> ?_)
    ·replace H:=H.1 hb;exact aG (aF (ag rfl (aH (nc (kp 10 rfl zz) (bK (bF (aQ (aQ (bF (aQ (aN (res1 rfl rfl) ⟨_,rfl,_,rfl,H⟩)))))))))))
    ·replace H:=H.2 hb;refine aX (bZ (nc (y6 0 1 2 3 4 12 rfl) (aF (mv rfl (bo rfl rfl kC (ag rfl (aH ?_)))))));obtain⟨k4,hk,H⟩:=H;exact bD fun a ha=>⟨k4,hk,IntKind.wrap .i64 (x7+1),ha.weaken cs,H⟩
   ·replace H:=H.2 hb;exact eU (aT (aT (bQ (nc zz (aG (aF (ag rfl (aH (nc (kp 10 rfl zz) (bK (aN (res1 rfl rfl) ⟨_,rfl,_,rfl,H⟩)))))))))))
def vF (p1:Addr) (K:Option Addr->Nat->Nat->World->Prop) (w:World):Prop:=
 ∃A2 n2 c2,w.cell? (p1.add 0)=some (.slice A2 n2 c2)/\∃A3 n3 c3,w.cell? (p1.add 1)=some (.slice A3 n3 c3)/\∀w2,aO w w2->Calls P F.wJ #[.slice A2 n2 c2,.slice A3 n3 c3] w2 (cO fun v1 w1=>∃A4 n4 c4,v1=(.slice A4 n4 c4)/\∀w4,aO w1 w4->(K A4 n4 c4 w4))
theorem Ri (p1:Addr) (K:Option Addr->Nat->Nat->World->Prop) (w:World) (H:vF p1 K w):Calls P F.sG #[.pointer (some p1)] w (cO fun v w'=>∃A1 n1 c1,v=(.slice A1 n1 c1)/\K A1 n1 c1 w'):=by
 unfold vF at H;refine bT (P:=P) Tryz.func37 rfl [(0,.pointer (some p1))] 12 rfl rfl (fun p hp=>by rcases List.mem_singleton.1 hp with rfl;rfl) (aG (aF (ag rfl (aH (nc (kp 0 rfl zz) (aG ?_))))));refine bU follows [0,1,2,3,4,5,6,7,9] [3,7] 10 rfl rfl (by kernel_rfl) (fun _ _ d _ _ h=>by cases d<;>exact h) (fun cm W D=> ?_);refine gZ 0 cm rfl rfl D W fun _ D W=>(Gh 1 cm rfl rfl D W fun _ D W=>(lH 2 cm rfl rfl (TF.kZ _ _) D W fun _ D W=> ?_));obtain⟨A2,n2,c2,h1,H⟩:=H;refine vl 3 cm rfl rfl (fun hw=>(aJ TF.fD ((hw.cell _).trans h1))) D W fun _ D W=>(gZ 4 cm rfl rfl D W fun _ D W=>(Gh 5 cm rfl rfl D W fun _ D W=>(lH 6 cm rfl rfl (TF.dV _ _) D W fun _ D W=> ?_)));obtain⟨A3,n3,c3,h2,H⟩:=H;refine vl 7 cm rfl rfl (fun hw=>(aJ TF.fE ((hw.cell _).trans h2))) D W fun _ D W=>(ar 8 ?_);replace H:=H _ D;refine Vx rfl rfl rfl (aI rfl) (xc rfl rfl FF.Dc) rfl false (by kernel_rfl) H ?_;rintro _ w1 ⟨A4,n4,c4,rfl,H⟩ _ D;refine⟨fun h=>(by cases h),?_⟩;refine Bo 9 cm rfl rfl D fun _ D=>(dJ (by kernel_rfl) D ?_);intro w4 D;replace H:=H _ D;clear D cm;exact nc (kp 2 rfl zz) (bK (aN (res1 rfl rfl) ⟨_,rfl,_,_,_,rfl,H⟩))
def nJ (K:Bool->Int->World->Prop) (p1:Addr) (x1:Int) (x2:Int) (b3:Bool) (w2:World):Prop:=
 (b3=true->(K false 80 w2))/\(b3=false->(∃A1 n1 c1,w2.cell? (p1.add 1)=some (.slice A1 n1 c1)/\Calls P F.iO #[.pointer (some p1),iv 1,.slice A1 n1 c1,iv x1,iv x2] w2 (cO fun v3 w4=>∃b5,v3=(.bool b5)/\K b5 0 w4)))
def Dv (p1:Addr) (x1:Int) (x2:Int) (K:Bool->Int->World->Prop) (w:World):Prop:=
 Calls P F.fP #[.pointer (some p1),iv x1] w (cO fun v1 w1=>∃b2,v1=(.bool b2)/\((!b2)=true->((nJ K p1 x1 x2) true w1))/\((!b2)=false->(Calls P F.fP #[.pointer (some p1),iv x2] w1 (cO fun v2 w3=>∃b4,v2=(.bool b4)/\(nJ K p1 x1 x2) (!b4) w3))))
theorem Tm (p1:Addr) (x1:Int) (x2:Int) (K:Bool->Int->World->Prop) (w:World) (H:Dv p1 x1 x2 K w):Calls P F.pX #[.pointer (some p1),iv x1,iv x2] w (cO fun v w'=>∃b1,∃x3,v=(.tuple #[.bool b1,iv x3])/\K b1 x3 w'):=by
 unfold Dv at H;refine bT (P:=P) Tryz.func39 rfl [(0,.pointer (some p1)),(1,iv x1),(2,iv x2)] 26 rfl rfl (aa rfl (aa rfl (aa rfl az))) (aG (aF (ag rfl (ag rfl (aH (nc (y3 0 1 2 rfl) (aG ?_)))))));refine fA (fun a w=>∃b3,Ok 26 [(0,.pointer (some p1)),(1,iv x1),(2,iv x2),(17,.bool b3)] a/\nJ K p1 x1 x2 b3 w) ?_ ?_
 ·rintro a w2 ⟨b3,ha,H⟩;unfold nJ at H;refine cu ha ?_;refine eG rfl (fun hb=> ?_) (fun hb=> ?_)
  ·replace H:=H.1 hb;exact aG (aF (ag rfl (ag rfl (aH (nc (y2 6 7 rfl) (bK (aQ (aN (Jk rfl rfl rfl) ⟨_,rfl,_,_,rfl,H⟩))))))))
  ·replace H:=H.2 hb;refine aX (nc (y3 0 1 2 rfl) (aG (aF (mv rfl (mv rfl (nk rfl (fa rfl (TF.dV _ _) ?_)))))));obtain⟨A1,n1,c1,h1,H⟩:=H;refine ld rfl (aJ TF.fE h1) (mv rfl (mv rfl (sc rfl rfl FF.iZ H ?_)));rintro _ w4 ⟨b5,rfl,H⟩;exact ag rfl (ag rfl (aH (nc (y2 6 7 rfl) (bK (aN (Jk rfl rfl rfl) ⟨_,rfl,_,_,rfl,H⟩)))))
 ·refine aF (mv rfl (mv rfl (sc rfl rfl FF.iF H ?_)));rintro _ w1 ⟨b2,rfl,H⟩;refine sv rfl rfl (xu rfl sK) ?_;rcases tf (!b2) with hb|hb
  ·replace H:=H.1 hb;exact sv rfl rfl (fun a ha=>aGb (iC (ha.ev rfl)) hb) (sk rfl rfl rfl rfl (sk rfl rfl rfl rfl (sk rfl rfl rfl rfl (sk rfl rfl rfl rfl (pt rfl rfl (aH (bD fun a ha=>⟨true,ha.weaken cs,H⟩)))))))
  ·replace H:=H.2 hb;refine sv rfl rfl (fun a ha=>aGk (iC (ha.ev rfl)) hb) (Bv rfl rfl rfl (Bv rfl rfl rfl (Eu rfl rfl (dW rfl rfl rfl) (xc rfl rfl FF.iF) H ?_)));rintro _ w3 ⟨b4,rfl,H⟩;exact svg rfl rfl rfl rfl (xu rfl sK) (pf rfl rfl (aH (bD fun a ha=>⟨(!b4),ha.weaken cs,H⟩)))
def mF (K:Bool->Int->World->Prop) (p1:Addr) (x1:Int) (x2:Int) (b3:Bool) (w2:World):Prop:=
 (b3=true->(K false 80 w2))/\(b3=false->(∃A1 n1 c1,w2.cell? (p1.add 1)=some (.slice A1 n1 c1)/\Calls P F.iO #[.pointer (some p1),iv 2,.slice A1 n1 c1,iv x1,iv x2] w2 (cO fun v3 w4=>∃b5,v3=(.bool b5)/\K b5 0 w4)))
def Di (p1:Addr) (x1:Int) (x2:Int) (K:Bool->Int->World->Prop) (w:World):Prop:=
 Calls P F.fP #[.pointer (some p1),iv x1] w (cO fun v1 w1=>∃b2,v1=(.bool b2)/\((!b2)=true->((mF K p1 x1 x2) true w1))/\((!b2)=false->(Calls P F.fP #[.pointer (some p1),iv x2] w1 (cO fun v2 w3=>∃b4,v2=(.bool b4)/\(mF K p1 x1 x2) (!b4) w3))))
theorem Rj (p1:Addr) (x1:Int) (x2:Int) (K:Bool->Int->World->Prop) (w:World) (H:Di p1 x1 x2 K w):Calls P F.nZ #[.pointer (some p1),iv x1,iv x2] w (cO fun v w'=>∃b1,∃x3,v=(.tuple #[.bool b1,iv x3])/\K b1 x3 w'):=by
 unfold Di at H;refine bT (P:=P) Tryz.func41 rfl [(0,.pointer (some p1)),(1,iv x1),(2,iv x2)] 26 rfl rfl (aa rfl (aa rfl (aa rfl az))) (aG (aF (ag rfl (ag rfl (aH (nc (y3 0 1 2 rfl) (aG ?_)))))));refine fA (fun a w=>∃b3,Ok 26 [(0,.pointer (some p1)),(1,iv x1),(2,iv x2),(17,.bool b3)] a/\mF K p1 x1 x2 b3 w) ?_ ?_
 ·rintro a w2 ⟨b3,ha,H⟩;unfold mF at H;refine cu ha ?_;refine eG rfl (fun hb=> ?_) (fun hb=> ?_)
  ·replace H:=H.1 hb;exact aG (aF (ag rfl (ag rfl (aH (nc (y2 6 7 rfl) (bK (aQ (aN (Jk rfl rfl rfl) ⟨_,rfl,_,_,rfl,H⟩))))))))
  ·replace H:=H.2 hb;refine aX (nc (y3 0 1 2 rfl) (aG (aF (mv rfl (mv rfl (nk rfl (fa rfl (TF.dV _ _) ?_)))))));obtain⟨A1,n1,c1,h1,H⟩:=H;refine ld rfl (aJ TF.fE h1) (mv rfl (mv rfl (sc rfl rfl FF.iZ H ?_)));rintro _ w4 ⟨b5,rfl,H⟩;exact ag rfl (ag rfl (aH (nc (y2 6 7 rfl) (bK (aN (Jk rfl rfl rfl) ⟨_,rfl,_,_,rfl,H⟩)))))
 ·refine aF (mv rfl (mv rfl (sc rfl rfl FF.iF H ?_)));rintro _ w1 ⟨b2,rfl,H⟩;refine sv rfl rfl (xu rfl sK) ?_;rcases tf (!b2) with hb|hb
  ·replace H:=H.1 hb;exact sv rfl rfl (fun a ha=>aGb (iC (ha.ev rfl)) hb) (sk rfl rfl rfl rfl (sk rfl rfl rfl rfl (sk rfl rfl rfl rfl (sk rfl rfl rfl rfl (pt rfl rfl (aH (bD fun a ha=>⟨true,ha.weaken cs,H⟩)))))))
  ·replace H:=H.2 hb;refine sv rfl rfl (fun a ha=>aGk (iC (ha.ev rfl)) hb) (Bv rfl rfl rfl (Bv rfl rfl rfl (Eu rfl rfl (dW rfl rfl rfl) (xc rfl rfl FF.iF) H ?_)));rintro _ w3 ⟨b4,rfl,H⟩;exact svg rfl rfl rfl rfl (xu rfl sK) (pf rfl rfl (aH (bD fun a ha=>⟨(!b4),ha.weaken cs,H⟩)))
def Dh (p1:Addr) (K:Bool->World->Prop) (w:World):Prop:=
 ∃A1 n1 c1,w.cell? (p1.add 1)=some (.slice A1 n1 c1)/\Calls P F.iO #[.pointer (some p1),iv 3,.slice A1 n1 c1,iv 0,iv 0] w (cO fun v1 w1=>∃b2,v1=(.bool b2)/\K b2 w1)
theorem Rk (p1:Addr) (K:Bool->World->Prop) (w:World) (H:Dh p1 K w):Calls P F.nY #[.pointer (some p1)] w (cO fun v w'=>∃b1,v=(.bool b1)/\K b1 w'):=by
 unfold Dh at H;refine bT (P:=P) Tryz.func43 rfl [(0,.pointer (some p1))] 9 rfl rfl (fun p hp=>by rcases List.mem_singleton.1 hp with rfl;rfl) (aG (aF (ag rfl (aH (nc (kp 0 rfl zz) (aG (aF (mv rfl (mv rfl (nk rfl (fa rfl (TF.dV _ _) ?_)))))))))));obtain⟨A1,n1,c1,h1,H⟩:=H;refine ld rfl (aJ TF.fE h1) (sc rfl rfl FF.iZ H ?_);rintro _ w1 ⟨b2,rfl,H⟩;exact ag rfl (aH (nc (kp 2 rfl zz) (bK (aN (res1 rfl rfl) ⟨_,rfl,_,rfl,H⟩))))
def Fp (p1:Addr) (x1:Int) (x2:Int) (K:Int->World->Prop) (w:World):Prop:=
 Calls P F.pX #[.pointer (some p1),iv x1,iv x2] w (cO fun v1 w1=>∃b1,∃x4,v1=(.tuple #[.bool b1,iv x4])/\(x4≠0->(K x4 w1))/\(¬(x4≠0)->(((!b1)=true->(K 82 w1))/\((!b1)=false->(K 0 w1)))))
theorem Uu (p1:Addr) (x1:Int) (x2:Int) (K:Int->World->Prop) (w:World) (H:Fp p1 x1 x2 K w):Calls P F.qM #[.pointer (some p1),iv x1,iv x2] w (cO fun v w'=>∃x3,v=(iv x3)/\K x3 w'):=by
 unfold Fp at H;refine bT (P:=P) Tryz.func45 rfl [(0,.pointer (some p1)),(1,iv x1),(2,iv x2)] 21 rfl rfl (aa rfl (aa rfl (aa rfl az))) (aG (aF (ag rfl (aH (nc (y3 0 1 2 rfl) (aG (aF (mv rfl (mv rfl (mv rfl (sc rfl rfl FF.xX H ?_)))))))))));rintro _ w1 ⟨b1,x4,rfl,H⟩;refine mv rfl (sv rfl rfl (xe rfl rfl) (sv rfl rfl (xe rfl rfl) (ag rfl (ag rfl (aH (nc (y2 7 8 rfl) (aG (aG (aF (mv rfl (bo rfl rfl qR (aH (nc (y3 7 8 17 rfl) ?_)))))))))))));refine bC rfl (fun hb=> ?_) (fun hb=> ?_)
 ·replace H:=H.1 hb;exact aG (aF (mv rfl (ag rfl (aH (nc (kp 6 rfl zz) (bK (aQ (aN (res1 rfl rfl) ⟨_,rfl,_,rfl,H⟩))))))))
 ·replace H:=H.2 hb;refine aX (nc (kp 7 rfl zz) (aG (aG (aF (mv rfl (sv rfl rfl (xu rfl sK) (aH (nc (kp 20 rfl zz) ?_))))))));refine eG rfl (fun hb=> ?_) (fun hb=> ?_)
  ·replace H:=H.1 hb;exact aG (aF (ag rfl (aH (nc (kp 6 rfl zz) (bK (aQ (aN (res1 rfl rfl) ⟨_,rfl,_,rfl,H⟩)))))))
  ·replace H:=H.2 hb;exact aX (nc zz (aG (aF (ag rfl (aH (nc (kp 6 rfl zz) (bK (aN (res1 rfl rfl) ⟨_,rfl,_,rfl,H⟩))))))))
def yS (p1:Addr) (x1:Int) (x2:Int) (K:Int->World->Prop) (w:World):Prop:=
 Calls P F.nZ #[.pointer (some p1),iv x1,iv x2] w (cO fun v1 w1=>∃b1,∃x4,v1=(.tuple #[.bool b1,iv x4])/\(x4≠0->(K x4 w1))/\(¬(x4≠0)->(((!b1)=true->(K 91 w1))/\((!b1)=false->(K 0 w1)))))
theorem Nr (p1:Addr) (x1:Int) (x2:Int) (K:Int->World->Prop) (w:World) (H:yS p1 x1 x2 K w):Calls P F.qE #[.pointer (some p1),iv x1,iv x2] w (cO fun v w'=>∃x3,v=(iv x3)/\K x3 w'):=by
 unfold yS at H;refine bT (P:=P) Tryz.func47 rfl [(0,.pointer (some p1)),(1,iv x1),(2,iv x2)] 21 rfl rfl (aa rfl (aa rfl (aa rfl az))) (aG (aF (ag rfl (aH (nc (y3 0 1 2 rfl) (aG (aF (mv rfl (mv rfl (mv rfl (sc rfl rfl FF.wU H ?_)))))))))));rintro _ w1 ⟨b1,x4,rfl,H⟩;refine mv rfl (sv rfl rfl (xe rfl rfl) (sv rfl rfl (xe rfl rfl) (ag rfl (ag rfl (aH (nc (y2 7 8 rfl) (aG (aG (aF (mv rfl (bo rfl rfl qR (aH (nc (y3 7 8 17 rfl) ?_)))))))))))));refine bC rfl (fun hb=> ?_) (fun hb=> ?_)
 ·replace H:=H.1 hb;exact aG (aF (mv rfl (ag rfl (aH (nc (kp 6 rfl zz) (bK (aQ (aN (res1 rfl rfl) ⟨_,rfl,_,rfl,H⟩))))))))
 ·replace H:=H.2 hb;refine aX (nc (kp 7 rfl zz) (aG (aG (aF (mv rfl (sv rfl rfl (xu rfl sK) (aH (nc (kp 20 rfl zz) ?_))))))));refine eG rfl (fun hb=> ?_) (fun hb=> ?_)
  ·replace H:=H.1 hb;exact aG (aF (ag rfl (aH (nc (kp 6 rfl zz) (bK (aQ (aN (res1 rfl rfl) ⟨_,rfl,_,rfl,H⟩)))))))
  ·replace H:=H.2 hb;exact aX (nc zz (aG (aF (ag rfl (aH (nc (kp 6 rfl zz) (bK (aN (res1 rfl rfl) ⟨_,rfl,_,rfl,H⟩))))))))
def zI (p1:Addr) (K:Int->World->Prop) (w:World):Prop:=
 Calls P F.nY #[.pointer (some p1)] w (cO fun v1 w1=>∃b1,v1=(.bool b1)/\((!b1)=true->(K 91 w1))/\((!b1)=false->(K 0 w1)))
theorem Og (p1:Addr) (K:Int->World->Prop) (w:World) (H:zI p1 K w):Calls P F.qC #[.pointer (some p1)] w (cO fun v w'=>∃x1,v=(iv x1)/\K x1 w'):=by
 unfold zI at H;refine bT (P:=P) Tryz.func49 rfl [(0,.pointer (some p1))] 8 rfl rfl (fun p hp=>by rcases List.mem_singleton.1 hp with rfl;rfl) (aG (aF (ag rfl (aH (nc (kp 0 rfl zz) (aG (aF (mv rfl (sc rfl rfl FF.wQ H ?_)))))))));rintro _ w1 ⟨b1,rfl,H⟩;refine ag rfl (aH (nc (kp 3 rfl zz) (aG (aG (aF (mv rfl (sv rfl rfl (xu rfl sK) (aH (nc (kp 7 rfl zz) ?_)))))))));refine eG rfl (fun hb=> ?_) (fun hb=> ?_)
 ·replace H:=H.1 hb;exact aG (aF (ag rfl (aH (nc (kp 2 rfl zz) (bK (aQ (aN (res1 rfl rfl) ⟨_,rfl,_,rfl,H⟩)))))))
 ·replace H:=H.2 hb;exact aX (nc zz (aG (aF (ag rfl (aH (nc (kp 2 rfl zz) (bK (aN (res1 rfl rfl) ⟨_,rfl,_,rfl,H⟩))))))))
def jY (k1:Nat) (I1:Nat->Option Addr->Nat->Nat->Int->World->Prop) (x1:Int) (A6:Option Addr) (n6 c6:Nat) (w6:World):Prop:=
 ∃k2,k2<k1/\I1 k2 A6 n6 c6 (IntKind.wrap .i64 (x1+1)) w6
def vG (p1:Addr) (K:Option Addr->Nat->Nat->World->Prop) (w:World):Prop:=
 ∃I1:Nat->Option Addr->Nat->Nat->Int->World->Prop,(∃k1,I1 k1 none 0 0 0 w)/\∀k1 (A2:Option Addr) (n2 c2:Nat) (x1:Int) (w1:World),I1 k1 A2 n2 c2 x1 w1->(∃A3 n3 c3,w1.cell? (p1.add 1)=some (.slice A3 n3 c3)/\(x1<(n3:Int)->(∃A4 n4 c4,w1.cell? (p1.add 1)=some (.slice A4 n4 c4)/\0<=x1/\x1<(n4:Int)/\∃a1,A4=some a1/\∃b1,∃x2,∃x3,∃x4,bG w1 (a1.add (x1.toNat*4)) [.bool b1,iv x2,iv x3,iv x4]/\∀(p2:Addr) (w2:World),New w1 (.cells #[.bool false,iv 0,iv 0,iv 0] T.eH) p2 w2->(oH w2 p2 4/\∀w3,w3=cZ w2 p2 [.bool b1,iv x2,iv x3,iv x4]->(∃b2,w3.cell? (p2.add 0)=some (.bool b2)/\((!b2)=true->(∃x5,w3.cell? (p2.add 1)=some (iv x5)/\∃x6,w3.cell? (p2.add 2)=some (iv x6)/\∃x7,w3.cell? (p2.add 3)=some (iv x7)/\∀(p3:Addr) (w4:World),New w3 (.cells #[iv 1,iv x5,iv x6,iv x7,.slice none 0 0] T.iT) p3 w4->(∃(A5:Option Addr) (n5 c5:Nat) (w5:World),(Builtin.append_ #[T.kK,T.kK] T.kK #[.slice A2 n2 c2,.slice (some p3) 1 1]).run P w4= .ok (.slice A5 n5 c5) w5/\((jY k1 I1 x1) A5 n5 c5 w5))))/\((!b2)=false->((jY k1 I1 x1) A2 n2 c2 w3))))))/\(¬(x1<(n3:Int))->(K A2 n2 c2 w1)))
theorem Rn (p1:Addr) (K:Option Addr->Nat->Nat->World->Prop) (w:World) (H:vG p1 K w):Calls P F.sH #[.pointer (some p1)] w (cO fun v w'=>∃A1 n1 c1,v=(.slice A1 n1 c1)/\K A1 n1 c1 w'):=by
 unfold vG at H;refine bT (P:=P) Tryz.func53 rfl [(0,.pointer (some p1))] 36 rfl rfl (fun p hp=>by rcases List.mem_singleton.1 hp with rfl;rfl) (aG (aF (ag rfl (aH (nc (kp 0 rfl zz) (aG (aF (ag rfl (aH (nc (y2 0 3 rfl) (aG (aG (aF (ag rfl (aH (nc (y3 0 3 4 rfl) (aY ?_)))))))))))))))));obtain⟨I1,⟨k1,hi⟩,H⟩:=H;refine fK (fun k1 a w'=>∃A2 n2 c2,∃x1,Ok 36 [(0,.pointer (some p1)),(3,.slice A2 n2 c2),(4,iv x1)] a/\I1 k1 A2 n2 c2 x1 w') (fun a ha=>⟨k1,none,0,0,0,ha.weaken cs,hi⟩) ?_;rintro k1 a w1 ⟨A2,n2,c2,x1,ha,hI⟩;replace H:=H k1 A2 n2 c2 x1 w1 hI;refine cu ha ?_;refine aG (aG (aF (mv rfl (mv rfl (nk rfl (fa rfl (TF.dV _ _) ?_))))));obtain⟨A3,n3,c3,h1,H⟩:=H;refine ld rfl (aJ TF.fE h1) (sv rfl rfl (xb rfl (fun _=>bW TF.jC)) (bo rfl rfl iY (aH (nc (y4 0 3 4 12 rfl) ?_))));refine bC rfl (fun hb=> ?_) (fun hb=> ?_)
 ·replace H:=H.1 hb;refine aX (nc (y3 0 3 4 rfl) ?_);refine fA (fun a w=>∃A6 n6 c6,Ok 36 [(0,.pointer (some p1)),(3,.slice A6 n6 c6),(4,iv x1)] a/\jY k1 I1 x1 A6 n6 c6 w) ?_ ?_
  ·rintro a w6 ⟨A6,n6,c6,ha,H⟩;unfold jY at H;refine cu ha ?_;refine aF (mv rfl (bo rfl rfl kC (ag rfl (aH ?_))));obtain⟨k2,hk,H⟩:=H;exact bD fun a ha=>⟨k2,hk,A6,n6,c6,IntKind.wrap .i64 (x1+1),ha.weaken cs,H⟩
  ·refine aY (aG (aF (mv rfl (nk rfl (fa rfl (TF.dV _ _) ?_)))));obtain⟨A4,n4,c4,h2,H⟩:=H;refine ld rfl (aJ TF.fE h2) (mv rfl ?_);obtain⟨h3,h4,a1,e1,H⟩:=H;refine ix rfl rfl (aU TF.dZ TF.dR e1 h3 h4) ?_;obtain⟨b1,x2,x3,x4,h5,H⟩:=H;refine ld rfl (gW (vs:=[.bool b1,iv x2,iv x3,iv x4]) TF.Nh TF.dR h5) (iP (f:=(fun p=> .pointer (some p))) rfl rfl (aI rfl) (fun a ha=>mV (nC TF.Yh)) ?_);intro p2 w2 hN;obtain⟨h7,H⟩:=H _ _ hN;refine oO rfl (aI rfl) (xs rfl rfl (kN TF.dR (by simp[Value.oneCell']) h7)) ?_;intro w3 hw;replace H:=H _ hw;clear hw;refine aH (nc (y4 0 3 4 5 rfl) (aG (aF (fa rfl (TF.sZ _ _) ?_))));obtain⟨b2,h8,H⟩:=H;refine ld rfl (aJ TF.Ah h8) (sv rfl rfl (xu rfl sK) (aH (nc (y5 0 3 4 5 24 rfl) ?_)));refine eG rfl (fun hb=> ?_) (fun hb=> ?_)
   ·replace H:=H.1 hb;refine aF (mv rfl (fa rfl (TF.tN _ _) ?_));obtain⟨x5,h9,H⟩:=H;refine ld rfl (aJ TF.aP h9) (fa rfl (TF.uJ _ _) ?_);obtain⟨x6,h10,H⟩:=H;refine ld rfl (aJ TF.aP h10) (fa rfl (TF.Iw _ _) ?_);obtain⟨x7,h11,H⟩:=H;refine ld rfl (aJ TF.aP h11) (sv rfl rfl (xp (.agg #[iv 1,iv x5,iv x6,iv x7,.slice none 0 0]) rfl) (sz rfl rfl (xl 1 1 (.cells #[iv 1,iv x5,iv x6,iv x7,.slice none 0 0] T.iT) rfl) ?_));intro p3 w4 hN;obtain⟨A5,n5,c5,w5,h12,H⟩:=H _ _ hN;exact sv rfl rfl (xb rfl (fun _=>dY h12)) (ag rfl (aH (bZ (bD fun a ha=>⟨A5,n5,c5,ha.weaken cs,H⟩))))
   ·replace H:=H.2 hb;exact aX (bZ (bD fun a ha=>⟨A2,n2,c2,ha.weaken cs,H⟩))
 ·replace H:=H.2 hb;exact eU (aT (aT (bQ (nc (kp 3 rfl zz) (aG (aF (mv rfl (ag rfl (aH (nc (kp 2 rfl zz) (bK (aN (res1 rfl rfl) ⟨_,rfl,_,_,_,rfl,H⟩))))))))))))
def Gl (st:List dK):List Dk:=(st.filter fun s=> !s.not).map fun s=>⟨1,s.a,s.b,s.tag,[]⟩
theorem aEe {st:List dK} {i:Nat} {s:dK} (h:st[i]? =some s):Gl (st.take (i+1))=Gl (st.take i)++(if s.not then [] else [⟨1,s.a,s.b,s.tag,[]⟩]):=by
 unfold Gl
 rw[lJ h,List.filter_append,List.map_append]
 congr 1
 cases hn:s.not<;>simp[hn]
theorem aF8 (st:List dK):(Gl st).length<=st.length:=by
 unfold Gl
 rw[List.length_map]
 exact List.length_filter_le _ _
theorem aMg {fs:List Flat} {st:List dK} {ls:List Dk} (h:aEd fs st ls):∀i:Nat,i<ls.length->Fol fs (Gl st) ls i:=by
 intro i hi
 have k:=h i _ (List.getElem?_eq_getElem hi)
 have node:∀z:Int,Vn fs.length z->fs[z.toNat]? =some (fG fs z):=fun z hz=>by
  have hz':z.toNat<fs.length:=by have:=hz.1;have:=hz.2;omega
  rw[aA2 (List.getElem?_eq_getElem hz')]
  exact List.getElem?_eq_getElem hz'
 have kid:∀{k x y:Int},LAt ls k x y->aAo ls k x y:=fun⟨_,q,h⟩=>⟨q,h⟩
 refine⟨ls[i],by rw[Int.toNat_natCast];exact List.getElem?_eq_getElem hi,k.va.1,k.vb.1,k.va.2,k.vb.2,fun q hq=>k.kids q hq,?_⟩
 rcases k.rule with⟨r1,r2,s,hs,r3,r4,r5,r6⟩|⟨r1,r2,r3,r4⟩|⟨r1,r2,q,r3,r4⟩|⟨r1,r2,q,m,x,r3,r4,r5⟩|⟨r1,r2,r3,r4,r5,r6,r7⟩
 ·refine .inl ⟨r1,r2,⟨1,s.a,s.b,s.tag,[]⟩,?_,rfl,r4,r5,r6⟩
  exact List.mem_map.2 ⟨s,List.mem_filter.2 ⟨hs,by rw[r3];rfl⟩,rfl⟩
 ·exact .inr ⟨r2,.inl ⟨r1,r3,r4⟩⟩
 ·exact .inr ⟨r2,.inr (.inl ⟨r1,q,r3,kid r4⟩)⟩
 ·exact .inr ⟨r2,.inr (.inr (.inl ⟨r1,q,m,r3,x,kid r4,kid r5⟩))⟩
 ·exact .inr ⟨r2,.inr (.inr (.inr ⟨r1,_,_,node _ k.va,node _ k.vb,r3,r4,r5,r6,fun j q x y a b c=>kid (r7 j q x y a b c)⟩))⟩
def aBz (fs:List Flat) (st:List dK) (kind a b:Int):Prop:=(kind=1->iH fs st a b)/\(kind=2->jP fs st a b)/\(kind≠1->kind≠2->mW fs st)
theorem aOi {fs:List Flat} {st:List dK} {a b:Int}:aBz fs st 1 a b↔iH fs st a b:=⟨fun h=>h.1 rfl,fun h=>⟨fun _=>h,fun q=>(by cases q),fun q=>absurd rfl q⟩⟩
theorem kind2 {fs:List Flat} {st:List dK} {a b:Int}:aBz fs st 2 a b↔jP fs st a b:=⟨fun h=>h.2.1 rfl,fun h=>⟨fun q=>(by cases q),fun _=>h,fun _ q=>absurd rfl q⟩⟩
theorem aQc {fs:List Flat} {st:List dK} {a b:Int}:aBz fs st 3 a b↔mW fs st:=⟨fun h=>h.2.2 (by decide) (by decide),fun h=>⟨fun q=>(by cases q),fun q=>(by cases q),fun _ _=>h⟩⟩
def PA (r:List Int) (a b:Int) (s:dK):Prop:=s.not=true/\((rt r s.a=rt r a/\rt r s.b=rt r b)\/(rt r s.a=rt r b/\rt r s.b=rt r a))
def aQk (fs:List Flat) (st:List dK) (r:List Int):Prop:=∀x y,Vn fs.length x->Vn fs.length y->(rt r x=rt r y↔iH fs st x y)
section
variable {w w':World} {fs:List Flat} {st:List dK} {A1 A2:Option Addr} {n1 n2 c1 c2:Nat} {r:List Int} {a b:Int}
theorem aA3 (hr:Ints w A1 n1 r) {i:Int} (hi:Vn n1 i):∃ad,A1=some ad/\w.cell? (ad.add (i.toNat*1))=some (iv (rt r i)):=by
 obtain⟨x,ad,hx,hA,hc⟩:=hr.int hi.1 hi.2
 rw[<-aDf hx] at hc
 exact⟨ad,hA,hc⟩
theorem aGt (hr:Ints w A1 fs.length r) (hS:Sl cRS w A2 n2 st) (val:∀s∈st,Aa fs s.a s.b) (hf:aQk fs st r) (va:Vn fs.length a) (vb:Vn fs.length b) (s2:n2<=1048576):
  Calls P F.yM #[.slice A1 fs.length c1,.slice A2 n2 c2,iv a,iv b] w (cO fun v w'=>∃q,v= .bool q/\(q=true↔jP fs st a b)/\w'=w):=by
 refine cO.mono (Ya A1 fs.length c1 A2 n2 c2 a b (fun q w'=>(q=true↔jP fs st a b)/\w'=w) w ?_) (by rintro _ w' ⟨b,rfl,h⟩;exact⟨b,rfl,h⟩)
 have hsl:=hS.1
 have ap:jP fs st a b↔∃s∈st,PA r a b s:=by
  unfold jP PA
  refine⟨fun⟨s,h1,h2,h3⟩=>⟨s,h1,h2,?_⟩,fun⟨s,h1,h2,h3⟩=>⟨s,h1,h2,?_⟩⟩
  ·have v:=val s h1
   exact h3.imp (fun q=>⟨(hf _ _ v.l va).2 q.1,(hf _ _ v.r vb).2 q.2⟩) fun q=>⟨(hf _ _ v.l vb).2 q.1,(hf _ _ v.r va).2 q.2⟩
  ·have v:=val s h1
   exact h3.imp (fun q=>⟨(hf _ _ v.l va).1 q.1,(hf _ _ v.r vb).1 q.2⟩) fun q=>⟨(hf _ _ v.l vb).1 q.1,(hf _ _ v.r va).1 q.2⟩
 unfold zW
 refine⟨fun k i=>k=n2-i.toNat/\0<=i/\i<=n2/\∀(q:Nat) s,(q:Int)<i->st[q]? =some s->¬PA r a b s,⟨n2,by simp,by omega,by omega,fun q s hq=>by omega⟩,?_⟩
 rintro k i ⟨rfl,i0,i1,hall⟩
 refine⟨fun hlt=> ?_,fun hge=>⟨⟨fun q=>(by cases q),fun q=> ?_⟩,rfl⟩⟩
 ·obtain⟨s,ad,hsi,hA2,hc⟩:=hS.rs i0 hlt
  have hin:=val s (List.mem_of_getElem? hsi)
  have J:∀q:Bool,(q=true↔PA r a b s)->gK (fun q w'=>(q=true↔jP fs st a b)/\w'=w) w (n2-i.toNat) (fun k i=>k=n2-i.toNat/\0<=i/\i<=n2/\∀(q:Nat) s,(q:Int)<i->st[q]? =some s->¬PA r a b s) i q:=by
   intro q hq
   refine⟨fun q1=>⟨⟨fun _=>ap.2 ⟨s,List.mem_of_getElem? hsi,hq.1 q1⟩,fun _=>rfl⟩,rfl⟩,fun q1=>⟨n2-(i+1).toNat,by omega,?_⟩⟩
   rw[gI i0 hlt (by unfold Sm;omega)]
   refine⟨rfl,by omega,by omega,fun t s' ht hs' hp=> ?_⟩
   rcases Int.lt_or_eq_of_le (show(t:Int)<=i by omega) with h|h
   ·exact hall t s' h hs' hp
   ·rw[show t=i.toNat by omega,hsi] at hs'
    cases hs'
    rw[hq.2 hp] at q1
    cases q1
  obtain⟨x1,hA,cx⟩:=aA3 hr hin.l
  obtain⟨_,hA',cy⟩:=aA3 hr hin.r
  obtain⟨_,hA'',ca⟩:=aA3 hr va
  obtain⟨_,hA3,cb⟩:=aA3 hr vb
  rw[hA] at hA' hA'' hA3
  cases hA'
  cases hA''
  cases hA3
  refine⟨i0,hlt,ad,hA2,s.a,hc 1 _ rfl,hin.l.1,hin.l.2,x1,hA,_,cx,i0,hlt,ad,hA2,s.b,hc 2 _ rfl,hin.r.1,hin.r.2,x1,hA,_,cy,i0,hlt,ad,hA2,s.not,hc 0 _ rfl,fun hn=>⟨va.1,va.2,x1,hA,_,ca,fun e1=>⟨vb.1,vb.2,x1,hA,_,cb,fun e2=>J true ⟨fun _=>⟨hn,.inl ⟨e1,e2⟩⟩,fun _=>rfl⟩,fun e2=>⟨vb.1,vb.2,x1,hA,_,cb,fun e3=>⟨va.1,va.2,x1,hA,_,ca,J _ ?_⟩,fun e3=>J false ?_⟩⟩,fun e1=>⟨vb.1,vb.2,x1,hA,_,cb,fun e3=>⟨va.1,va.2,x1,hA,_,ca,J _ ?_⟩,fun e3=>J false ?_⟩⟩,fun hn=>J false ⟨fun q=>(by cases q),fun q=>(by rw[q.1] at hn;cases hn)⟩⟩
  ·rw[decide_eq_true_iff]
   exact⟨fun q=>⟨hn,.inr ⟨e3,q⟩⟩,fun q=>q.2.elim (fun q=>absurd q.2 e2) fun q=>q.2⟩
  ·exact⟨fun q=>(by cases q),fun q=>(q.2.elim (fun q=>e2 q.2) fun q=>e3 q.1).elim⟩
  ·rw[decide_eq_true_iff]
   exact⟨fun q=>⟨hn,.inr ⟨e3,q⟩⟩,fun q=>q.2.elim (fun q=>absurd q.1 e1) fun q=>q.2⟩
  ·exact⟨fun q=>(by cases q),fun q=>(q.2.elim (fun q=>e1 q.1) fun q=>e3 q.1).elim⟩
 ·obtain⟨s,hs,hp⟩:=ap.1 q
  obtain⟨t,ht⟩:=List.mem_iff_getElem?.1 hs
  have:=(List.getElem?_eq_some_iff.1 ht).1
  exact absurd hp (hall t s (by omega) ht)
theorem aHl (hr:Ints w A1 fs.length r) (hS:Sl cRS w A2 n2 st) (val:∀s∈st,Aa fs s.a s.b) (hf:aQk fs st r) (s2:n2<=1048576):
  Calls P F.zU #[.slice A1 fs.length c1,.slice A2 n2 c2] w (cO fun v w'=>∃q,v= .bool q/\(q=true↔mW fs st)/\Ext w w'):=by
 refine cO.mono (Zc A1 fs.length c1 A2 n2 c2 (fun q w'=>(q=true↔mW fs st)/\Ext w w') w ?_) (by rintro _ w' ⟨b,rfl,h⟩;exact⟨b,rfl,h⟩)
 have hsl:=hS.1
 unfold Bq
 refine⟨fun k i w'=>k=n2-i.toNat/\0<=i/\i<=n2/\Ext w w'/\∀(q:Nat) s,(q:Int)<i->st[q]? =some s->¬(s.not=true/\rt r s.a=rt r s.b),⟨n2,by simp,by omega,by omega,Ext.refl _,fun q s hq=>by omega⟩,?_⟩
 rintro k i w1 ⟨rfl,i0,i1,E,hall⟩
 refine⟨fun hlt=> ?_,fun hge=>⟨⟨fun q=>(by cases q),fun⟨s,hs,hn,hh⟩=> ?_⟩,E⟩⟩
 ·obtain⟨s,ad,hsi,hA2,hc⟩:=(hS.ext E).rs i0 hlt
  have hin:=val s (List.mem_of_getElem? hsi)
  have J:∀(q:Bool) w',Ext w w'->(q=true↔(s.not=true/\rt r s.a=rt r s.b))->nU (fun q w'=>(q=true↔mW fs st)/\Ext w w') (n2-i.toNat) (fun k i w'=>k=n2-i.toNat/\0<=i/\i<=n2/\Ext w w'/\∀(q:Nat) s,(q:Int)<i->st[q]? =some s->¬(s.not=true/\rt r s.a=rt r s.b)) i q w':=by
   intro q w' E' hq
   refine⟨fun q1=>⟨⟨fun _=>⟨s,List.mem_of_getElem? hsi,(hq.1 q1).1,(hf _ _ hin.l hin.r).1 (hq.1 q1).2⟩,fun _=>rfl⟩,E'⟩,fun q1=>⟨n2-(i+1).toNat,by omega,?_⟩⟩
   rw[gI i0 hlt (by unfold Sm;omega)]
   refine⟨rfl,by omega,by omega,E',fun t s' ht hs' hp=> ?_⟩
   rcases Int.lt_or_eq_of_le (show(t:Int)<=i by omega) with h|h
   ·exact hall t s' h hs' hp
   ·rw[show t=i.toNat by omega,hsi] at hs'
    cases hs'
    rw[hq.2 hp] at q1
    cases q1
  obtain⟨x1,hA,cx⟩:=aA3 (hr.ext E) hin.l
  obtain⟨_,hA',cy⟩:=aA3 (hr.ext E) hin.r
  rw[hA] at hA'
  cases hA'
  refine⟨i0,hlt,ad,hA2,s.not,hc 0 _ rfl,fun hn=>⟨i0,hlt,ad,hA2,s.a,hc 1 _ rfl,hin.l.1,hin.l.2,x1,hA,_,cx,i0,hlt,ad,hA2,s.b,hc 2 _ rfl,hin.r.1,hin.r.2,x1,hA,_,cy,fun w2 hw2=>J _ w2 (E.drawn hw2) ?_⟩,fun hn w4 hw4=>J false w4 (E.drawn hw4) ⟨fun q=>(by cases q),fun q=>(by rw[q.1] at hn;cases hn)⟩⟩
  rw[decide_eq_true_iff]
  exact⟨fun q=>⟨hn,q⟩,fun q=>q.2⟩
 ·obtain⟨t,ht⟩:=List.mem_iff_getElem?.1 hs
  have:=(List.getElem?_eq_some_iff.1 ht).1
  have v:=val s hs
  exact absurd ⟨hn,(hf _ _ v.l v.r).2 hh⟩ (hall t s (by omega) ht)
variable {B0:Nat} {p:Addr} {Z:Nat->Prop} {ms:List Int} {l:List dK}
theorem Jt {kind:Int} (h:xP B0 w p fs Z st ms) (hS:Sl cRS w A1 n1 l) (val:∀s∈l,Aa fs s.a s.b) (hs:Sound fs) (few:fs.length<=1048576) (s1:n1<=1048576) (hk:kind=1\/kind=2->Aa fs a b):
  Calls P F.iO #[.pointer (some p),iv kind,.slice A1 n1 c1,iv a,iv b] w (cO fun v w'=>∃q,v= .bool q/\(q=true↔aBz fs l kind a b)/\Ext w w'):=by
 obtain⟨A,n,c,nv,h⟩:=h
 refine cO.mono (Rq p kind A1 n1 c1 a b (fun q w'=>(q=true↔aBz fs l kind a b)/\Ext w w') w ?_) (by rintro _ w' ⟨b,rfl,h⟩;exact⟨b,rfl,h⟩)
 unfold uT
 refine⟨_,_,_,h.c0,(aCq (c1:=c 0) (c2:=c1) h.nodes hS val hs few s1).mono ?_⟩
 rintro _ w1 ⟨_,rfl,A3,c3,r,rfl,O,R,hf,E⟩
 refine⟨_,rfl,A3,fs.length,c3,rfl,fun e=> ?_,fun e1=>⟨fun e=> ?_,fun e2=> ?_⟩⟩
 ·have hin:=hk (.inl e)
  obtain⟨x1,hA,_,cx,_⟩:=Yb O hin.1 hin.2.2.1
  obtain⟨x2,hA',_,cy,_⟩:=Yb O hin.2.1 hin.2.2.2
  subst e
  refine⟨hin.1,hin.2.2.1,x1,hA,_,cx,hin.2.1,hin.2.2.2,x2,hA',_,cy,fun w2 hw2=>⟨?_,E.drawn hw2⟩⟩
  rw[decide_eq_true_iff,aOi]
  exact hf _ _ hin.l hin.r
 ·have hin:=hk (.inr e)
  subst e
  refine(aGt (c1:=c3) (c2:=c1) O.ints (hS.ext E) val hf hin.l hin.r s1).mono ?_
  rintro _ w3 ⟨_,rfl,q,rfl,hq,rfl⟩
  exact⟨_,rfl,q,rfl,hq.trans kind2.symm,E⟩
 ·refine(aHl (c1:=c3) (c2:=c1) O.ints (hS.ext E) val hf s1).mono ?_
  rintro _ w3 ⟨_,rfl,q,rfl,hq,E3⟩
  exact⟨_,rfl,q,rfl,hq.trans ⟨fun q=>⟨fun q=>absurd q e1,fun q=>absurd q e2,fun _ _=>q⟩,fun q=>q.2.2 e1 e2⟩,E.trans E3⟩
theorem aHx (h:xP B0 w p fs Z st ms) (val:∀s∈st,Aa fs s.a s.b) (hs:Sound fs) (few:fs.length<=1048576) (s1:st.length<=1048576):
  Calls P F.sG #[.pointer (some p)] w (cO fun v w'=>∃A c r,v= .slice A fs.length c/\Ints w' A fs.length r/\Tn fs st r/\Ext w w'):=by
 obtain⟨A,n,c,nv,h⟩:=h
 refine cO.mono (Ri p (fun A n c w'=>n=fs.length/\∃r,Ints w' A fs.length r/\Tn fs st r/\Ext w w') w ?_) (by rintro _ w' ⟨A,n,c,rfl,rfl,r,h⟩;exact⟨A,c,r,rfl,h⟩)
 unfold vF
 refine⟨_,_,_,h.c0,_,_,_,h.c1,fun w2 hw2=> ?_⟩
 have h2:=h.stay (Ext.aK hw2)
 refine(aCq (c1:=c 0) (c2:=c 1) h2.nodes h2.stand val hs few s1).mono ?_
 rintro _ w1 ⟨_,rfl,A3,c3,r,rfl,O,R,hf,E⟩
 exact⟨_,rfl,A3,_,c3,rfl,fun w4 hw4=>⟨rfl,r,(O.keep (Ext.aK hw4) (fun _ _ h=>h)).ints,R.roots hf,((Ext.aK hw2).trans E).drawn hw4⟩⟩
theorem aG4 (h:xP B0 w p fs Z st ms) {K:Bool->World->Prop} {x y:Int} (J:∀q:Bool,(q=true↔¬Aa fs x y)->K q w):
  Calls P F.fP #[.pointer (some p),iv x] w (cO fun v1 w1=>∃b2,v1=(.bool b2)/\((!b2)=true->K true w1)/\((!b2)=false->(Calls P F.fP #[.pointer (some p),iv y] w1 (cO fun v2 w3=>∃b4,v2=(.bool b4)/\K (!b4) w3)))):=by
 obtain⟨A,n,c,nv,h⟩:=h
 refine(Vj h x).mono ?_
 rintro _ w1 ⟨_,rfl,b2,rfl,h2,rfl⟩
 refine⟨_,rfl,b2,rfl,fun q=>J true ⟨fun _ hin=> ?_,fun _=>rfl⟩,fun q=>(Vj h y).mono ?_⟩
 ·rw[h2.2 hin.l] at q;cases q
 rintro _ w3 ⟨_,rfl,b4,rfl,h4,rfl⟩
 have vx:Vn fs.length x:=h2.1 (by cases b2<;>simp at q⊢)
 refine⟨_,rfl,b4,rfl,J (!b4) ?_⟩
 cases b4 with
 |true=>exact⟨fun q=>(by cases q),fun q=>absurd (Aa.of vx (h4.1 rfl)) q⟩
 |false=>exact⟨fun _ hin=>(by have:=h4.2 hin.r;cases this),fun _=>rfl⟩
theorem aEc (h:xP B0 w p fs Z st ms) (val:∀s∈st,Aa fs s.a s.b) (hs:Sound fs) (few:fs.length<=1048576) (s1:st.length<=1048576):
  Calls P F.pX #[.pointer (some p),iv a,iv b] w (cO fun v w'=>∃(r:Bool) (e:Int),v= .tuple #[.bool r,iv e]/\((¬Aa fs a b/\r=false/\e=80)\/(Aa fs a b/\e=0/\(r=true↔iH fs st a b)))/\Ext w w'):=by
 refine cO.mono (Tm p a b (fun r e w'=>((¬Aa fs a b/\r=false/\e=80)\/(Aa fs a b/\e=0/\(r=true↔iH fs st a b)))/\Ext w w') w ?_) (by rintro _ w' ⟨r,e,rfl,h⟩;exact⟨r,e,rfl,h⟩)
 refine aG4 h fun q hq=>⟨fun q1=>⟨.inl ⟨hq.1 q1,rfl,rfl⟩,Ext.refl _⟩,fun q1=> ?_⟩
 have hin:Aa fs a b:=Classical.byContradiction fun hn=>by rw[hq.2 hn] at q1;cases q1
 have h':=h
 obtain⟨A,n,c,nv,h⟩:=h
 refine⟨_,_,_,h.c1,(Jt (kind:=1) (c1:=c 1) h' h.stand val hs few s1 (fun _=>hin)).mono ?_⟩
 rintro _ w4 ⟨_,rfl,q,rfl,hq,E⟩
 exact⟨_,rfl,q,rfl,.inr ⟨hin,rfl,hq.trans aOi⟩,E⟩
theorem aDg (h:xP B0 w p fs Z st ms) (val:∀s∈st,Aa fs s.a s.b) (hs:Sound fs) (few:fs.length<=1048576) (s1:st.length<=1048576):
  Calls P F.nZ #[.pointer (some p),iv a,iv b] w (cO fun v w'=>∃(r:Bool) (e:Int),v= .tuple #[.bool r,iv e]/\((¬Aa fs a b/\r=false/\e=80)\/(Aa fs a b/\e=0/\(r=true↔jP fs st a b)))/\Ext w w'):=by
 refine cO.mono (Rj p a b (fun r e w'=>((¬Aa fs a b/\r=false/\e=80)\/(Aa fs a b/\e=0/\(r=true↔jP fs st a b)))/\Ext w w') w ?_) (by rintro _ w' ⟨r,e,rfl,h⟩;exact⟨r,e,rfl,h⟩)
 refine aG4 h fun q hq=>⟨fun q1=>⟨.inl ⟨hq.1 q1,rfl,rfl⟩,Ext.refl _⟩,fun q1=> ?_⟩
 have hin:Aa fs a b:=Classical.byContradiction fun hn=>by rw[hq.2 hn] at q1;cases q1
 have h':=h
 obtain⟨A,n,c,nv,h⟩:=h
 refine⟨_,_,_,h.c1,(Jt (kind:=2) (c1:=c 1) h' h.stand val hs few s1 (fun _=>hin)).mono ?_⟩
 rintro _ w4 ⟨_,rfl,q,rfl,hq,E⟩
 exact⟨_,rfl,q,rfl,.inr ⟨hin,rfl,hq.trans kind2⟩,E⟩
theorem aC4 (h:xP B0 w p fs Z st ms) (val:∀s∈st,Aa fs s.a s.b) (hs:Sound fs) (few:fs.length<=1048576) (s1:st.length<=1048576):
  Calls P F.nY #[.pointer (some p)] w (cO fun v w'=>∃q,v= .bool q/\(q=true↔mW fs st)/\Ext w w'):=by
 refine cO.mono (Rk p (fun q w'=>(q=true↔mW fs st)/\Ext w w') w ?_) (by rintro _ w' ⟨b,rfl,h⟩;exact⟨b,rfl,h⟩)
 have h':=h
 obtain⟨A,n,c,nv,h⟩:=h
 refine⟨_,_,_,h.c1,(Jt (kind:=3) (c1:=c 1) h' h.stand val hs few s1 (fun q=>q.elim (fun q=>(by cases q)) fun q=>(by cases q))).mono ?_⟩
 rintro _ w4 ⟨_,rfl,q,rfl,hq,E⟩
 exact⟨_,rfl,q,rfl,hq.trans aQc,E⟩
def aL3 (bad:Prop) (is:Prop) (no e:Int):Prop:=(bad/\e=80)\/(¬bad/\¬is/\e=no)\/(¬bad/\is/\e=0)
theorem aGl (h:xP B0 w p fs Z st ms) (val:∀s∈st,Aa fs s.a s.b) (hs:Sound fs) (few:fs.length<=1048576) (s1:st.length<=1048576):
  Calls P F.qM #[.pointer (some p),iv a,iv b] w (cO fun v w'=>∃e:Int,v= iv e/\aL3 (¬Aa fs a b) (iH fs st a b) 82 e/\Ext w w'):=by
 refine cO.mono (Uu p a b (fun e w'=>aL3 (¬Aa fs a b) (iH fs st a b) 82 e/\Ext w w') w ?_) (by rintro _ w' ⟨e,rfl,h⟩;exact⟨e,rfl,h⟩)
 refine(aEc h val hs few s1).mono ?_
 rintro _ w1 ⟨_,rfl,r,e,rfl,⟨h1,rfl,rfl⟩|⟨h1,rfl,h2⟩,E⟩
 ·exact⟨_,rfl,false,80,rfl,fun _=>⟨.inl ⟨h1,rfl⟩,E⟩,fun q=>absurd (by decide) q⟩
 ·refine⟨_,rfl,r,0,rfl,fun q=>absurd rfl q,fun _=>⟨fun q=>⟨.inr (.inl ⟨fun q=>q h1,fun hs=> ?_,rfl⟩),E⟩,fun q=>⟨.inr (.inr ⟨fun q=>q h1,h2.1 ?_,rfl⟩),E⟩⟩⟩
  ·rw[h2.2 hs] at q;cases q
  ·cases r<;>simp at q⊢
theorem aEt (h:xP B0 w p fs Z st ms) (val:∀s∈st,Aa fs s.a s.b) (hs:Sound fs) (few:fs.length<=1048576) (s1:st.length<=1048576):
  Calls P F.qE #[.pointer (some p),iv a,iv b] w (cO fun v w'=>∃e:Int,v= iv e/\aL3 (¬Aa fs a b) (jP fs st a b) 91 e/\Ext w w'):=by
 refine cO.mono (Nr p a b (fun e w'=>aL3 (¬Aa fs a b) (jP fs st a b) 91 e/\Ext w w') w ?_) (by rintro _ w' ⟨e,rfl,h⟩;exact⟨e,rfl,h⟩)
 refine(aDg h val hs few s1).mono ?_
 rintro _ w1 ⟨_,rfl,r,e,rfl,⟨h1,rfl,rfl⟩|⟨h1,rfl,h2⟩,E⟩
 ·exact⟨_,rfl,false,80,rfl,fun _=>⟨.inl ⟨h1,rfl⟩,E⟩,fun q=>absurd (by decide) q⟩
 ·refine⟨_,rfl,r,0,rfl,fun q=>absurd rfl q,fun _=>⟨fun q=>⟨.inr (.inl ⟨fun q=>q h1,fun hs=> ?_,rfl⟩),E⟩,fun q=>⟨.inr (.inr ⟨fun q=>q h1,h2.1 ?_,rfl⟩),E⟩⟩⟩
  ·rw[h2.2 hs] at q;cases q
  ·cases r<;>simp at q⊢
theorem aEz (h:xP B0 w p fs Z st ms) (val:∀s∈st,Aa fs s.a s.b) (hs:Sound fs) (few:fs.length<=1048576) (s1:st.length<=1048576):
  Calls P F.qC #[.pointer (some p)] w (cO fun v w'=>∃e:Int,v= iv e/\aL3 False (mW fs st) 91 e/\Ext w w'):=by
 refine cO.mono (Og p (fun e w'=>aL3 False (mW fs st) 91 e/\Ext w w') w ?_) (by rintro _ w' ⟨e,rfl,h⟩;exact⟨e,rfl,h⟩)
 refine(aC4 h val hs few s1).mono ?_
 rintro _ w1 ⟨_,rfl,r,rfl,h2,E⟩
 refine⟨_,rfl,r,rfl,fun q=>⟨.inr (.inl ⟨id,fun hs=> ?_,rfl⟩),E⟩,fun q=>⟨.inr (.inr ⟨id,h2.1 ?_,rfl⟩),E⟩⟩
 ·rw[h2.2 hs] at q;cases q
 ·cases r<;>simp at q⊢
end
def aAp (tags:List Int) (skip:Int) (s:dK) (n:Int):Prop:=∃j:Nat,(j:Int)<n/\(j:Int)≠skip/\tags[j]? =some s.tag
noncomputable def Jy (st:List dK) (tags:List Int) (skip:Int):List dK:=st.filter fun s=>dec (aAp tags skip s tags.length)
theorem aJ9 (st:List dK) (tags:List Int):Jy st tags (-1)=pick st tags:=by
 unfold Jy pick
 refine List.filter_congr fun s _=> ?_
 have:aAp tags (-1) s tags.length↔s.tag∈tags:=by
  refine⟨fun⟨j,_,_,h⟩=>List.mem_of_getElem? h,fun h=> ?_⟩
  obtain⟨j,hj⟩:=List.mem_iff_getElem?.1 h
  have:=(List.getElem?_eq_some_iff.1 hj).1
  exact⟨j,by omega,by omega,hj⟩
 rw[show decide (s.tag∈tags)=dec (aAp tags (-1) s tags.length) from(aM4 ((decide_eq_true_iff).trans this.symm))]
theorem aMq (st:List dK) (tags:List Int) (i:Nat):Jy st tags i=pick st (tags.eraseIdx i):=by
 unfold Jy pick
 refine List.filter_congr fun s _=> ?_
 have:aAp tags i s tags.length↔s.tag∈tags.eraseIdx i:=by
  rw[List.mem_eraseIdx_iff_getElem?]
  refine⟨fun⟨j,_,h1,h⟩=>⟨j,by omega,h⟩,fun⟨j,h1,h⟩=> ?_⟩
  have:=(List.getElem?_eq_some_iff.1 h).1
  exact⟨j,by omega,by omega,h⟩
 rw[show decide (s.tag∈tags.eraseIdx i)=dec (aAp tags i s tags.length) from(aM4 ((decide_eq_true_iff).trans this.symm))]
theorem aGg {st:List dK} {tags:List Int} {skip:Int} {i:Nat} {s:dK} (h:st[i]? =some s):Jy (st.take (i+1)) tags skip=Jy (st.take i) tags skip++(if dec (aAp tags skip s tags.length) then [s] else []):=by
 unfold Jy
 rw[lJ h,List.filter_append]
 congr 1
 cases h':dec (aAp tags skip s tags.length)<;>simp[List.filter,h']
theorem aDx (st:List dK) (tags:List Int) (skip:Int):(Jy st tags skip).length<=st.length:=List.length_filter_le _ _
section
variable {w w':World} {fs:List Flat} {st:List dK} {A1 A2:Option Addr} {n1 n2 c1 c2:Nat} {a b:Int} {B0:Nat} {p:Addr} {Z:Nat->Prop} {ms:List Int} {tags:List Int}
theorem aEm {skip:Int} (h:xP B0 w p fs Z st ms) (hT:Ints w A1 n1 tags) (s1:st.length<=1048576) (s2:Sm n1):
  Calls P F.pI #[.pointer (some p),.slice A1 n1 c1,iv skip] w (cO fun v w'=>∃A n c,v= .slice A n c/\n=(Jy st tags skip).length/\Sl cRS w' A n (Jy st tags skip)/\Ext w w'):=by
 obtain⟨A0,n0,c0,nv,h⟩:=h
 have htl:=hT.1
 refine cO.mono (Ua p A1 n1 c1 skip (fun A n c w'=>Ext w w'/\Row w' w.heap.size T.eH 4 A n c ((Jy st tags skip).flatMap uX)) w ?_) (by
  rintro _ w' ⟨A,n,c,rfl,hE,R⟩
  have e:=R.1
  rw[uN (s:=4) (fun _=>rfl)] at e
  have e':n=(Jy st tags skip).length:=by omega
  have:=aD5 (cd:=cRS) R (aN8 w' _) (by decide)
  exact⟨A,n,c,rfl,e',this,hE⟩)
 unfold wG
 refine⟨fun k A n c i w'=>k=st.length-i.toNat/\0<=i/\i<=st.length/\Ext w w'/\Row w' w.heap.size T.eH 4 A n c ((Jy (st.take i.toNat) tags skip).flatMap uX),⟨st.length,by simp,by omega,by omega,Ext.refl _,Row.nil _ _ _ _⟩,?_⟩
 rintro k A3 n3 c3 i w1 ⟨rfl,i0,i1,E,R⟩
 refine⟨_,_,_,(h.stay E).c1,fun hlt=> ?_,fun hge=> ?_⟩
 ·obtain⟨s,ad,hsi,hA2,hc⟩:=(h.stay E).stand.rs i0 hlt
  have hle:(Jy (st.take i.toNat) tags skip).length<=i.toNat:=Nat.le_trans (aDx _ _ _) (by rw[List.length_take];omega)
  have e3:=R.1
  rw[uN (s:=4) (fun _=>rfl)] at e3
  have J2:∀A n c w',Ext w w'->Row w' w.heap.size T.eH 4 A n c ((Jy (st.take (i.toNat+1)) tags skip).flatMap uX)->gB (st.length-i.toNat) (fun k A n c i w'=>k=st.length-i.toNat/\0<=i/\i<=st.length/\Ext w w'/\Row w' w.heap.size T.eH 4 A n c ((Jy (st.take i.toNat) tags skip).flatMap uX)) i A n c w':=by
   intro A n c w' E' R'
   refine⟨st.length-(i+1).toNat,by omega,?_⟩
   rw[gI i0 hlt (by unfold Sm;omega)]
   exact⟨rfl,by omega,by omega,E',by rw[show(i+1).toNat=i.toNat+1 by omega];exact R'⟩
  refine⟨fun k A n c j w'=>k=n1-j.toNat/\0<=j/\j<=n1/\A=A3/\n=n3/\c=c3/\Ext w1 w'/\¬aAp tags skip s j,⟨n1,by simp,by omega,by omega,rfl,rfl,rfl,Ext.refl _,fun⟨q,h1,_⟩=>by omega⟩,?_⟩
  rintro k A5 n5 c5 j w2 ⟨rfl,j0,j1,rfl,rfl,rfl,E2,hno⟩
  have R2:=R.keep E2 fun _ _ h=>h
  have h2:=h.stay (E.trans E2)
  refine⟨fun jlt=> ?_,fun jge=> ?_⟩
  ·obtain⟨x,a2,hxj,hA1,cx⟩:=(hT.ext (E.trans E2)).int j0 jlt
   obtain⟨s',ad',hsi',hA2',hc'⟩:=h2.stand.rs i0 hlt
   rw[hsi] at hsi'
   cases hsi'
   have J1:∀(q:Bool) w',Ext w2 w'->(q=true↔(j≠skip/\x=s.tag))->kP p i A5 n5 c5 (gB (st.length-i.toNat) (fun k A n c i w'=>k=st.length-i.toNat/\0<=i/\i<=st.length/\Ext w w'/\Row w' w.heap.size T.eH 4 A n c ((Jy (st.take i.toNat) tags skip).flatMap uX)) i) (n1-j.toNat) (fun k A n c j w'=>k=n1-j.toNat/\0<=j/\j<=n1/\A=A5/\n=n5/\c=c5/\Ext w1 w'/\¬aAp tags skip s j) j q w':=by
    intro q w' E' hq
    have E'':=(E.trans E2).trans E'
    obtain⟨s',ad',hsi',hA2',hc'⟩:=(h.stay E'').stand.rs i0 hlt
    rw[hsi] at hsi'
    cases hsi'
    refine⟨fun q1=>⟨_,_,_,(h.stay E'').c1,i0,hlt,ad',hA2',_,_,_,_,hc',fun p2 w6 hN6=> ?_⟩,fun q1=>⟨n1-(j+1).toNat,by omega,?_⟩⟩
    ·obtain⟨q2,q3⟩:=hq.1 q1
     have R6:=(R2.keep E' fun _ _ h=>h).keep (Ext.eY hN6) fun _ _ h=>h
     obtain⟨A',c',w7,hr,R7,hK,_⟩:=R6.append (P:=P) (m:=1) (c2:=1) (t:=T.fU) (ty:=T.fU) (by_:=32) (by kernel_rfl) (by kernel_rfl) (by decide) (news:=uX s) rfl (hN6.cells rfl) (by intro u hu;simp[uX] at hu;rcases hu with rfl|rfl|rfl|rfl<;>rfl) (by omega) (by omega) (Nat.le_trans E''.size (Ext.eY hN6).size)
     refine⟨A',n5+1,c',w7,hr,J2 _ _ _ w7 ((E''.new hN6).over hK fun b hb hh=>by have:=(R6.at hh).1;omega) ?_⟩
     have ht:aAp tags skip s tags.length:=⟨j.toNat,by omega,by omega,by rw[hxj,q3]⟩
     rw[aGg hsi,if_pos (aE3.2 ht),List.flatMap_append]
     simpa using R7
    ·rw[gI j0 jlt s2]
     refine⟨rfl,by omega,by omega,rfl,rfl,rfl,E2.trans E',fun⟨t,t1,t2,t3⟩=> ?_⟩
     rcases Int.lt_or_eq_of_le (show(t:Int)<=j by omega) with h|h
     ·exact hno ⟨t,h,t2,t3⟩
     ·have:q=true:=hq.2 ⟨by omega,by rw[show t=j.toNat by omega,hxj] at t3;exact Option.some.inj t3⟩
      rw[this] at q1
      cases q1
   refine⟨fun hne=>⟨_,_,_,h2.c1,i0,hlt,ad',hA2',s.tag,hc' 3 _ rfl,j0,jlt,a2,hA1,x,cx,fun w3 hw3=>J1 _ w3 (Ext.aK hw3) ?_⟩,fun heq w5 hw5=>J1 false w5 (Ext.aK hw5) ⟨fun q=>(by cases q),fun q=>absurd q.1 heq⟩⟩
   rw[decide_eq_true_iff]
   exact⟨fun q=>⟨hne,q.symm⟩,fun q=>q.2.symm⟩
  ·refine J2 _ _ _ w2 (E.trans E2) ?_
   have ht:¬aAp tags skip s tags.length:=fun⟨t,t1,t2,t3⟩=>hno ⟨t,by omega,t2,t3⟩
   rw[aGg hsi,if_neg (fun q=>ht (aE3.1 q)),List.append_nil]
   exact R2
 ·have hi:i.toNat=st.length:=by omega
  rw[hi,List.take_length] at R
  exact⟨E,R⟩
theorem aIr {kind:Int} (h:xP B0 w p fs Z st ms) (hT:Ints w A1 n1 tags) (val:∀s∈st,Aa fs s.a s.b) (hs:Sound fs) (few:fs.length<=1048576) (s1:st.length<=1048576) (s2:Sm n1) (hk:kind=1\/kind=2->Aa fs a b) (hb:Bare (fun t=>aBz fs (pick st t) kind a b) tags):
  Calls P F.uI #[.pointer (some p),iv kind,iv a,iv b,.slice A1 n1 c1] w (cO fun v w'=>v= .bool true/\Ext w w'):=by
 refine cO.mono (Tq p kind a b A1 n1 c1 (fun q w'=>q=true/\Ext w w') w ?_) (by rintro _ w' ⟨b,rfl,rfl,h⟩;exact⟨rfl,h⟩)
 have htl:=hT.1
 have s2':=s2
 unfold Sm at s2'
 have vo:∀skip,∀s∈Jy st tags skip,Aa fs s.a s.b:=fun skip s hs=>val s (List.mem_filter.1 hs).1
 unfold wL
 refine⟨fun k i w'=>k=n1-i.toNat/\1<=i/\Ext w w',⟨_,rfl,by omega,Ext.refl _⟩,?_⟩
 rintro k i w1 ⟨rfl,i1,E⟩
 refine⟨fun hlt=> ?_,fun hge=> ?_⟩
 ·obtain⟨x,ad,hx,hA,cx⟩:=(hT.ext E).int (by omega) hlt
  obtain⟨y,ad',hy,hA',cy⟩:=(hT.ext E).int (i:=i-1) (by omega) (by omega)
  rw[hA] at hA'
  cases hA'
  have ew:IntKind.wrap .i64 (i-1)=i-1:=wrap_small (by omega) (by omega)
  rw[ew]
  refine⟨by omega,hlt,ad,hA,x,cx,by omega,by omega,ad,hA,y,cy,fun w2 hw2=>⟨fun hle=> ?_,fun _=>⟨n1-(i+1).toNat,by omega,?_⟩⟩⟩
  ·exfalso
   obtain⟨hx1,hx2⟩:=List.getElem?_eq_some_iff.1 hx
   obtain⟨hy1,hy2⟩:=List.getElem?_eq_some_iff.1 hy
   have:=List.pairwise_iff_getElem.1 hb.rise (i-1).toNat i.toNat hy1 hx1 (by omega)
   omega
  ·rw[gI (by omega) hlt s2]
   exact⟨rfl,by omega,E.drawn hw2⟩
 refine(aEm (skip:= -1) (c1:=c1) (h.stay E) (hT.ext E) s1 s2).mono ?_
 rintro _ w3 ⟨_,rfl,A2,n2,c2,rfl,hn2,S2,E2⟩
 have l2:=aDx st tags (-1)
 refine⟨_,rfl,A2,n2,c2,rfl,(Jt (c1:=c2) ((h.stay E).stay E2) S2 (vo _) hs few (by omega) hk).mono ?_⟩
 rintro _ w4 ⟨_,rfl,q,rfl,hq,E4⟩
 rw[aJ9] at hq
 have E4':=(E.trans E2).trans E4
 refine⟨_,rfl,q,rfl,fun hn=>(by rw[hq.2 hb.holds] at hn;cases hn),fun _=> ?_⟩
 refine⟨fun k i w'=>k=n1-i.toNat/\0<=i/\Ext w w',⟨_,rfl,by omega,E4'⟩,?_⟩
 rintro k i w5 ⟨rfl,i0,E5⟩
 refine⟨fun hlt=> ?_,fun hge=>⟨rfl,E5⟩⟩
 refine(aEm (skip:=i) (c1:=c1) (h.stay E5) (hT.ext E5) s1 s2).mono ?_
 rintro _ w6 ⟨_,rfl,A3,n3,c3,rfl,hn3,S3,E6⟩
 have l3:=aDx st tags i
 refine⟨_,rfl,A3,n3,c3,rfl,(Jt (c1:=c3) ((h.stay E5).stay E6) S3 (vo _) hs few (by omega) hk).mono ?_⟩
 rintro _ w7 ⟨_,rfl,q',rfl,hq',E7⟩
 have hno:=hb.least i.toNat (by omega)
 have ei:Jy st tags i=pick st (tags.eraseIdx i.toNat):=by
  have:=aMq st tags i.toNat
  rwa [show((i.toNat:Nat):Int)=i by omega] at this
 rw[ei] at hq'
 refine⟨_,rfl,q',rfl,fun hq1=>absurd (hq'.1 hq1) hno,fun _=>⟨n1-(i+1).toNat,by omega,?_⟩⟩
 rw[gI i0 hlt s2]
 exact⟨rfl,by omega,(E5.trans E6).trans E7⟩
def Vd (l:Dk):List Value:=[iv l.kind,iv l.a,iv l.b,iv l.tag,.slice none 0 0]
theorem aLw (w:World) (xs:List dK):Yi Ef w ((Gl xs).flatMap Vd) (Gl xs):=by
 refine⟨uN (s:=5) (fun _=>rfl) _,fun i x hx=> ?_⟩
 have e:=Ba (f:=Vd) (s:=5) (fun _=>rfl) (Gl xs) i x hx
 have e5:Ef.size=5:=rfl
 rw[e5,e]
 refine⟨none,0,0,rfl,by decide,?_⟩
 obtain⟨s,_,rfl⟩:=List.mem_map.1 (List.mem_of_getElem? hx)
 exact Sl.nil _ _ _
theorem aIa (h:xP B0 w p fs Z st ms) (s1:st.length<=1048576):
  Calls P F.sH #[.pointer (some p)] w (cO fun v w'=>∃A n c,v= .slice A n c/\n<=st.length/\Sl Ef w' A n (Gl st)/\Ext w w'):=by
 obtain⟨A0,n0,c0,nv,h⟩:=h
 refine cO.mono (Rn p (fun A n c w'=>Ext w w'/\Row w' w.heap.size T.iT 5 A n c ((Gl st).flatMap Vd)) w ?_) (by
  rintro _ w' ⟨A,n,c,rfl,hE,R⟩
  have e:=R.1
  rw[uN (s:=5) (fun _=>rfl)] at e
  have e':n=(Gl st).length:=by omega
  have:=aD5 (cd:=Ef) R (aLw w' _) (by decide)
  exact⟨A,n,c,rfl,by rw[e'];exact aF8 st,this,hE⟩)
 unfold vG
 refine⟨fun k A n c i w'=>k=st.length-i.toNat/\0<=i/\i<=st.length/\Ext w w'/\Row w' w.heap.size T.iT 5 A n c ((Gl (st.take i.toNat)).flatMap Vd),⟨st.length,by simp,by omega,by omega,Ext.refl _,Row.nil _ _ _ _⟩,?_⟩
 rintro k A3 n3 c3 i w1 ⟨rfl,i0,i1,E,R⟩
 refine⟨_,_,_,(h.stay E).c1,fun hlt=> ?_,fun hge=> ?_⟩
 ·obtain⟨s,ad,hsi,hA2,hc⟩:=(h.stay E).stand.rs i0 hlt
  have hle:(Gl (st.take i.toNat)).length<=i.toNat:=Nat.le_trans (aF8 _) (by rw[List.length_take];omega)
  have e3:=R.1
  rw[uN (s:=5) (fun _=>rfl)] at e3
  have J:∀A n c w',Ext w w'->Row w' w.heap.size T.iT 5 A n c ((Gl (st.take (i.toNat+1))).flatMap Vd)->jY (st.length-i.toNat) (fun k A n c i w'=>k=st.length-i.toNat/\0<=i/\i<=st.length/\Ext w w'/\Row w' w.heap.size T.iT 5 A n c ((Gl (st.take i.toNat)).flatMap Vd)) i A n c w':=by
   intro A n c w' E' R'
   refine⟨st.length-(i+1).toNat,by omega,?_⟩
   rw[gI i0 hlt (by unfold Sm;omega)]
   exact⟨rfl,by omega,by omega,E',by rw[show(i+1).toNat=i.toNat+1 by omega];exact R'⟩
  refine⟨_,_,_,(h.stay E).c1,i0,hlt,ad,hA2,_,_,_,_,hc,fun p2 w2 hN2=>⟨hN2.soft rfl,fun w3 hw3=> ?_⟩⟩
  have hN3:=hN2.store hw3 rfl
  have E3:=E.new hN3
  have R3:=R.keep (Ext.eY hN3) fun _ _ h=>h
  have g:=hN3.cells rfl
  refine⟨s.not,g 0 _ rfl,fun hn=>⟨s.a,g 1 _ rfl,s.b,g 2 _ rfl,s.tag,g 3 _ rfl,fun p3 w4 hN4=> ?_⟩,fun hn=>J _ _ _ w3 E3 ?_⟩
  ·have hnot:s.not=false:=by cases h:s.not<;>rw[h] at hn<;>first|rfl|cases hn
   have R4:=R3.keep (Ext.eY hN4) fun _ _ h=>h
   have E4:=E3.new hN4
   obtain⟨A',c',w7,hr,R7,hK,_⟩:=R4.append (P:=P) (m:=1) (c2:=1) (t:=T.kK) (ty:=T.kK) (by_:=56) (by kernel_rfl) (by kernel_rfl) (by decide) (news:=Vd ⟨1,s.a,s.b,s.tag,[]⟩) rfl (hN4.cells rfl) (by intro u hu;simp[Vd] at hu;rcases hu with rfl|rfl|rfl|rfl|rfl<;>rfl) (by omega) (by omega) E4.size
   refine⟨A',n3+1,c',w7,hr,J _ _ _ w7 (E4.over hK fun b hb hh=>by have:=(R4.at hh).1;omega) ?_⟩
   rw[aEe hsi,hnot,if_neg (by decide),List.flatMap_append]
   simpa using R7
  ·have hnot:s.not=true:=by cases h:s.not<;>rw[h] at hn<;>first|rfl|cases hn
   rw[aEe hsi,hnot,if_pos rfl,List.append_nil]
   exact R3
 ·have hi:i.toNat=st.length:=by omega
  rw[hi,List.take_length] at R
  exact⟨E,R⟩
end
theorem yX {w:World} (x:Int):Calls P F.jT #[iv x] w (cO fun v w'=>v= iv x/\w'=w):=
 cO.mono (aB3 x (fun r w'=>r=x/\w'=w) w ⟨rfl,rfl⟩) (by rintro _ _ ⟨_,rfl,rfl,rfl⟩;exact⟨rfl,rfl⟩)
def valOf (ws:List Int) (a:Int):Int:=ws.getD a.toNat 0
def aKl (f:Int->List Int->Int) (nodes:List Flat) (ws:List Int):Prop:=∀(k:Nat) n,k<ws.length->nodes[k]? =some n->0<=n.fn->valOf ws k=f n.fn (n.args.map (valOf ws))
theorem aOe {ws:List Int} {a:Int} {v:Int} (h:ws[a.toNat]? =some v):valOf ws a=v:=by
 unfold valOf
 rw[List.getD_eq_getElem?_getD,h]
 rfl
theorem aGw {ws:List Int} {a:Int} (v:Int) (h:a.toNat<ws.length):valOf (ws++[v]) a=valOf ws a:=by
 unfold valOf
 rw[List.getD_eq_getElem?_getD,List.getD_eq_getElem?_getD,List.getElem?_append_left h]
theorem aKl.app {f:Int->List Int->Int} {nodes:List Flat} {ws:List Int} {v:Int} (h:aKl f nodes ws) (hs:Sound nodes) (hv:∀n,nodes[ws.length]? =some n->0<=n.fn->v=f n.fn (n.args.map (valOf ws))):aKl f nodes (ws++[v]):=by
 intro k n hk hn hf
 have hmap:k<=ws.length->n.args.map (valOf (ws++[v]))=n.args.map (valOf ws):=fun hk'=>by
  apply List.map_congr_left
  intro a ha
  obtain⟨j,hj⟩:=List.mem_iff_getElem?.1 ha
  have:=hs k n hn j a hj
  exact aGw v (by omega)
 rw[List.length_append] at hk
 simp at hk
 rw[hmap (by omega)]
 rcases Nat.lt_or_eq_of_le (show k<=ws.length by omega) with hk'|hk'
 ·rw[aGw v (by simpa using hk')]
  exact h k n hk' hn hf
 ·subst hk'
  rw[<-hv n hn hf]
  exact aOe (by simp)
section
variable {w:World} {nodes:List Flat} {table:List Int} {A1 A2:Option Addr} {n1 n2:Nat} {size:Int}
end
def yU (K:Bool->World->Prop) (b3:Bool) (w10:World):Prop:=
 K b3 w10
def yY (K:Bool->World->Prop) (b4:Bool) (w19:World):Prop:=
 K b4 w19
def zB (K:Bool->World->Prop) (b5:Bool) (w31:World):Prop:=
 K b5 w31
def uF (K:Bool->World->Prop) (w22:World):Prop:=
 K true w22
def Oz (x1:Int) (b1:Bool) (x2:Int) (x3:Int) (x4:Int) (q1:Option Addr) (q2:Option Addr) (K:Bool->World->Prop) (w:World):Prop:=
 ∀(p1:Addr) (w1:World),New w (.cells #[iv x1,.bool b1,iv x2,iv x3,iv x4] T.fO) p1 w1->(∃x5,w1.cell? (p1.add 0)=some (iv x5)/\(x5=1->(∃x6,w1.cell? (p1.add 2)=some (iv x6)/\∃x7,w1.cell? (p1.add 3)=some (iv x7)/\∃x8,w1.cell? (p1.add 4)=some (iv x8)/\Calls P F.rD #[.pointer q1,iv x6,iv x7,iv x8] w1 (cO fun v1 w2=>∃x9,v1=(iv x9)/\∃X1:Nat->Prop,∃x10,w2.cell? (p1.add 2)=some (iv x10)/\¬X1 (p1.add 2).block/\∃x11,w2.cell? (p1.add 3)=some (iv x11)/\¬X1 (p1.add 3).block/\∃x12,w2.cell? (p1.add 4)=some (iv x12)/\¬X1 (p1.add 4).block/\∀w4,aO w2 w4->Calls P F.jT #[iv x9] w4 (cO fun v2 w3=>∃x13,v2=(iv x13)/\Keep X1 w2 w3/\∀w7,aO w3 w7->Calls P F.mM #[.pointer q2,.bool false,iv x10,iv x11,iv x12] w7 (cO fun v3 w6=>∃x14,v3=(iv x14)/\∀w9,aO w6 w9->((yU K) (decide (x13=x14)) w9))))))/\(¬(x5=1)->((x5=2->(∃x15,w1.cell? (p1.add 2)=some (iv x15)/\∃x16,w1.cell? (p1.add 3)=some (iv x16)/\∃x17,w1.cell? (p1.add 4)=some (iv x17)/\Calls P F.oV #[.pointer q1,iv x15,iv x16,iv x17] w1 (cO fun v4 w11=>∃x18,v4=(iv x18)/\∃X2:Nat->Prop,∃x19,w11.cell? (p1.add 2)=some (iv x19)/\¬X2 (p1.add 2).block/\∃x20,w11.cell? (p1.add 3)=some (iv x20)/\¬X2 (p1.add 3).block/\∃x21,w11.cell? (p1.add 4)=some (iv x21)/\¬X2 (p1.add 4).block/\∀w13,aO w11 w13->Calls P F.jT #[iv x18] w13 (cO fun v5 w12=>∃x22,v5=(iv x22)/\Keep X2 w11 w12/\∀w16,aO w12 w16->Calls P F.mM #[.pointer q2,.bool true,iv x19,iv x20,iv x21] w16 (cO fun v6 w15=>∃x23,v6=(iv x23)/\∀w18,aO w15 w18->((yY K) (decide (x22=x23)) w18))))))/\(¬(x5=2)->((x5=3->(Calls P F.wH #[.pointer q1] w1 (cO fun v7 w20=>v7=(.tuple #[])/\Calls P F.pV #[.pointer q2] w20 (cO fun v8 w21=>v8=(.tuple #[])/\(uF K) w21))))/\(¬(x5=3)->((x5=4->(∃x24,w1.cell? (p1.add 2)=some (iv x24)/\Calls P F.yD #[.pointer q1,iv x24] w1 (cO fun v9 w23=>∃x25,v9=(iv x25)/\∃X3:Nat->Prop,∃x26,w23.cell? (p1.add 2)=some (iv x26)/\¬X3 (p1.add 2).block/\∀w25,aO w23 w25->Calls P F.jT #[iv x25] w25 (cO fun v10 w24=>∃x27,v10=(iv x27)/\Keep X3 w23 w24/\∀w28,aO w24 w28->Calls P F.qK #[.pointer q2,iv x26] w28 (cO fun v11 w27=>∃x28,v11=(iv x28)/\∀w30,aO w27 w30->((zB K) (decide (x27=x28)) w30))))))/\(¬(x5=4)->((uF K) w1)))))))))
theorem aAm (x1:Int) (b1:Bool) (x2:Int) (x3:Int) (x4:Int) (q1:Option Addr) (q2:Option Addr) (K:Bool->World->Prop) (w:World) (H:Oz x1 b1 x2 x3 x4 q1 q2 K w):Calls P F.Ci #[.agg #[iv x1,.bool b1,iv x2,iv x3,iv x4],.pointer q1,.pointer q2] w (cO fun v w'=>∃b2,v=(.bool b2)/\K b2 w'):=by
 unfold Oz at H;refine bT (P:=P) Tryz.func22 rfl [(0,.agg #[iv x1,.bool b1,iv x2,iv x3,iv x4]),(1,.pointer q1),(2,.pointer q2)] 73 rfl rfl (aa rfl (aa rfl (aa rfl az))) (aG (aF (iP (f:=(fun p=> .pointer (some p))) rfl rfl (aI rfl) (fun a ha=>uM (ha.ev rfl) uO) ?_)));intro p1 w1 hN;replace H:=H _ _ hN;refine ag rfl (aH (nc (y3 1 2 3 rfl) ?_));refine fA (fun a w=>Ok 73 [] a/\uF K w) ?_ ?_
 ·rintro a w22 ⟨ha,H⟩;unfold uF at H;refine cu ha ?_;exact aG (aF (ag rfl (aH (nc (kp 6 rfl zz) (bK (aN (res1 rfl rfl) ⟨_,rfl,_,rfl,H⟩))))))
 ·refine aG (aF (fa rfl (TF.fV _ _) ?_));obtain⟨x5,h2,H⟩:=H;refine ld rfl (aJ TF.aP h2) (aH (nc (y4 1 2 3 11 rfl) (aY (aG (aF (bo rfl rfl iR (ag rfl (aH (nc (y5 1 2 3 11 12 rfl) ?_)))))))));refine bC rfl (fun hb=> ?_) (fun hb=> ?_)
  ·replace H:=H.1 hb;refine aG (aF (mv rfl (fa rfl (TF.dO _ _) ?_)));obtain⟨x6,h3,H⟩:=H;refine ld rfl (aJ TF.aP h3) (fa rfl (TF.dX _ _) ?_);obtain⟨x7,h4,H⟩:=H;refine ld rfl (aJ TF.aP h4) (fa rfl (TF.wM _ _) ?_);obtain⟨x8,h5,H⟩:=H;refine ld rfl (aJ TF.aP h5) (sc rfl rfl FF.Hf H ?_);rintro _ w2 ⟨x9,rfl,H⟩;refine ag rfl (aH (nc (y3 2 3 7 rfl) ?_));refine fA (fun a w=>∃b3,Ok 73 [(6,.bool b3)] a/\yU K b3 w) ?_ ?_
   ·rintro a w10 ⟨b3,ha,H⟩;unfold yU at H;refine cu ha ?_;exact bK (bF (aQ (aN (res1 rfl rfl) ⟨_,rfl,_,rfl,H⟩)))
   ·obtain⟨X1,H⟩:=H;refine iM follows X1 [0,2,3,4,5,6,7,8,10,11] [4,6,8] 12 rfl rfl (by kernel_rfl) (fun _ _ d _ _ h=>by cases d<;>exact h) (fun cm W D=> ?_);refine gZ 0 cm rfl rfl D W fun _ D W=>(gZ 2 cm rfl rfl D W fun _ D W=>(lH 3 cm rfl rfl (TF.dO _ _) D W fun _ D W=> ?_));obtain⟨x10,h6,hx',H⟩:=H;replace h6:=And.intro h6 hx';clear hx';refine vl 4 cm rfl rfl (fun hw=>(aJ TF.aP (hw.cell h6))) D W fun _ D W=>(lH 5 cm rfl rfl (TF.dX _ _) D W fun _ D W=> ?_);obtain⟨x11,h7,hx',H⟩:=H;replace h7:=And.intro h7 hx';clear hx';refine vl 6 cm rfl rfl (fun hw=>(aJ TF.aP (hw.cell h7))) D W fun _ D W=>(lH 7 cm rfl rfl (TF.wM _ _) D W fun _ D W=> ?_);obtain⟨x12,h8,hx',H⟩:=H;replace h8:=And.intro h8 hx';clear hx';refine vl 8 cm rfl rfl (fun hw=>(aJ TF.aP (hw.cell h8))) D W fun _ D W=>(ar 1 ?_);replace H:=H _ D;refine Vx rfl rfl rfl (aI rfl) (xc rfl rfl FF.gY) rfl true (by kernel_rfl) H ?_;rintro _ w3 ⟨x13,rfl,H⟩ _ D;have W:=H.1.drawn D;replace H:=H.2;refine⟨fun _=>W,?_⟩;refine ar 9 ?_;replace H:=H _ D;refine Vx rfl rfl rfl (aI rfl) (xc rfl rfl FF.yI) rfl false (by kernel_rfl) H ?_;rintro _ w6 ⟨x14,rfl,H⟩ _ D;refine⟨fun h=>(by cases h),?_⟩;refine Qj 10 cm rfl rfl rfl (fun w' a ha=>fZ (ha.ev rfl) (ha.ev rfl) iR) D fun _ D=>(Bo 11 cm rfl rfl D fun _ D=>(dJ (by kernel_rfl) D ?_));intro w9 D;replace H:=H _ D;clear D cm;exact bD fun a ha=>⟨(decide (x13=x14)),ha.weaken cs,H⟩
  ·replace H:=H.2 hb;refine aG (aF (bo rfl rfl iR (ag rfl (aH (nc (y5 1 2 3 11 33 rfl) ?_)))));refine bC rfl (fun hb=> ?_) (fun hb=> ?_)
   ·replace H:=H.1 hb;refine aG (aF (mv rfl (fa rfl (TF.dO _ _) ?_)));obtain⟨x15,h13,H⟩:=H;refine ld rfl (aJ TF.aP h13) (fa rfl (TF.dX _ _) ?_);obtain⟨x16,h14,H⟩:=H;refine ld rfl (aJ TF.aP h14) (fa rfl (TF.wM _ _) ?_);obtain⟨x17,h15,H⟩:=H;refine ld rfl (aJ TF.aP h15) (sc rfl rfl FF.Fv H ?_);rintro _ w11 ⟨x18,rfl,H⟩;refine ag rfl (aH (nc (y3 2 3 8 rfl) ?_));refine fA (fun a w=>∃b4,Ok 73 [(6,.bool b4)] a/\yY K b4 w) ?_ ?_
    ·rintro a w19 ⟨b4,ha,H⟩;unfold yY at H;refine cu ha ?_;exact bK (bF (aQ (aN (res1 rfl rfl) ⟨_,rfl,_,rfl,H⟩)))
    ·obtain⟨X2,H⟩:=H;refine iM follows X2 [0,2,3,4,5,6,7,8,10,11] [4,6,8] 12 rfl rfl (by kernel_rfl) (fun _ _ d _ _ h=>by cases d<;>exact h) (fun cm W D=> ?_);refine gZ 0 cm rfl rfl D W fun _ D W=>(gZ 2 cm rfl rfl D W fun _ D W=>(lH 3 cm rfl rfl (TF.dO _ _) D W fun _ D W=> ?_));obtain⟨x19,h16,hx',H⟩:=H;replace h16:=And.intro h16 hx';clear hx';refine vl 4 cm rfl rfl (fun hw=>(aJ TF.aP (hw.cell h16))) D W fun _ D W=>(lH 5 cm rfl rfl (TF.dX _ _) D W fun _ D W=> ?_);obtain⟨x20,h17,hx',H⟩:=H;replace h17:=And.intro h17 hx';clear hx';refine vl 6 cm rfl rfl (fun hw=>(aJ TF.aP (hw.cell h17))) D W fun _ D W=>(lH 7 cm rfl rfl (TF.wM _ _) D W fun _ D W=> ?_);obtain⟨x21,h18,hx',H⟩:=H;replace h18:=And.intro h18 hx';clear hx';refine vl 8 cm rfl rfl (fun hw=>(aJ TF.aP (hw.cell h18))) D W fun _ D W=>(ar 1 ?_);replace H:=H _ D;refine Vx rfl rfl rfl (aI rfl) (xc rfl rfl FF.gY) rfl true (by kernel_rfl) H ?_;rintro _ w12 ⟨x22,rfl,H⟩ _ D;have W:=H.1.drawn D;replace H:=H.2;refine⟨fun _=>W,?_⟩;refine ar 9 ?_;replace H:=H _ D;refine Vx rfl rfl rfl (aI rfl) (xc rfl rfl FF.yI) rfl false (by kernel_rfl) H ?_;rintro _ w15 ⟨x23,rfl,H⟩ _ D;refine⟨fun h=>(by cases h),?_⟩;refine Qj 10 cm rfl rfl rfl (fun w' a ha=>fZ (ha.ev rfl) (ha.ev rfl) iR) D fun _ D=>(Bo 11 cm rfl rfl D fun _ D=>(dJ (by kernel_rfl) D ?_));intro w18 D;replace H:=H _ D;clear D cm;exact bD fun a ha=>⟨(decide (x22=x23)),ha.weaken cs,H⟩
   ·replace H:=H.2 hb;refine aG (aF (bo rfl rfl iR (ag rfl (aH (nc (y5 1 2 3 11 54 rfl) ?_)))));refine bC rfl (fun hb=> ?_) (fun hb=> ?_)
    ·replace H:=H.1 hb;refine aG (aF (mv rfl (sc rfl rfl FF.Wu H ?_)));rintro _ w20 ⟨rfl,H⟩;refine aH (nc (kp 2 rfl zz) (aF (mv rfl (sc rfl rfl FF.Ku H ?_))));rintro _ w21 ⟨rfl,H⟩;exact aH (bZ (bD fun a ha=>⟨ha.weaken zz,H⟩))
    ·replace H:=H.2 hb;refine aG (aF (bo rfl rfl iR (ag rfl (aH (nc (y4 1 2 3 60 rfl) ?_)))));refine bC rfl (fun hb=> ?_) (fun hb=> ?_)
     ·replace H:=H.1 hb;refine aG (aF (mv rfl (fa rfl (TF.dO _ _) ?_)));obtain⟨x24,h23,H⟩:=H;refine ld rfl (aJ TF.aP h23) (sc rfl rfl FF.Yg H ?_);rintro _ w23 ⟨x25,rfl,H⟩;refine ag rfl (aH (nc (y3 2 3 9 rfl) ?_));refine fA (fun a w=>∃b5,Ok 73 [(6,.bool b5)] a/\zB K b5 w) ?_ ?_
      ·rintro a w31 ⟨b5,ha,H⟩;unfold zB at H;refine cu ha ?_;exact bK (bF (aQ (aN (res1 rfl rfl) ⟨_,rfl,_,rfl,H⟩)))
      ·obtain⟨X3,H⟩:=H;refine iM follows X3 [0,2,3,4,6,7] [4] 8 rfl rfl (by kernel_rfl) (fun _ _ d _ _ h=>by cases d<;>exact h) (fun cm W D=> ?_);refine gZ 0 cm rfl rfl D W fun _ D W=>(gZ 2 cm rfl rfl D W fun _ D W=>(lH 3 cm rfl rfl (TF.dO _ _) D W fun _ D W=> ?_));obtain⟨x26,h24,hx',H⟩:=H;replace h24:=And.intro h24 hx';clear hx';refine vl 4 cm rfl rfl (fun hw=>(aJ TF.aP (hw.cell h24))) D W fun _ D W=>(ar 1 ?_);replace H:=H _ D;refine Vx rfl rfl rfl (aI rfl) (xc rfl rfl FF.gY) rfl true (by kernel_rfl) H ?_;rintro _ w24 ⟨x27,rfl,H⟩ _ D;have W:=H.1.drawn D;replace H:=H.2;refine⟨fun _=>W,?_⟩;refine ar 5 ?_;replace H:=H _ D;refine Vx rfl rfl rfl (aI rfl) (xc rfl rfl FF.Na) rfl false (by kernel_rfl) H ?_;rintro _ w27 ⟨x28,rfl,H⟩ _ D;refine⟨fun h=>(by cases h),?_⟩;refine Qj 6 cm rfl rfl rfl (fun w' a ha=>fZ (ha.ev rfl) (ha.ev rfl) iR) D fun _ D=>(Bo 7 cm rfl rfl D fun _ D=>(dJ (by kernel_rfl) D ?_));intro w30 D;replace H:=H _ D;clear D cm;exact bD fun a ha=>⟨(decide (x27=x28)),ha.weaken cs,H⟩
     ·replace H:=H.2 hb;exact aX (bZ (bD fun a ha=>⟨ha.weaken zz,H⟩))
def rW (K:Bool->World->Prop) (b6:Bool) (w8:World):Prop:=
 K b6 w8
def rX (K:Bool->World->Prop) (b9:Bool) (w12:World):Prop:=
 K b9 w12
def Nk (x1:Int) (b1:Bool) (x2:Int) (x3:Int) (x4:Int) (q1:Option Addr) (q2:Option Addr) (K:Bool->World->Prop) (w:World):Prop:=
 ∀(p1:Addr) (w1:World),New w (.cells #[iv x1,.bool b1,iv x2,iv x3,iv x4] T.fO) p1 w1->(∃x5,w1.cell? (p1.add 0)=some (iv x5)/\(x5=5->(Calls P F.Ak #[.pointer q1] w1 (cO fun v1 w2=>∃A1 n1 c1,v1=(.slice A1 n1 c1)/\Calls P F.sG #[.pointer q2] w2 (cO fun v2 w3=>∃A2 n2 c2,v2=(.slice A2 n2 c2)/\Calls P F.lF #[.slice A1 n1 c1,.slice A2 n2 c2] w3 (cO fun v3 w4=>∃b3,v3=(.bool b3)/\K b3 w4)))))/\(¬(x5=5)->((x5=6->(∃x6,w1.cell? (p1.add 2)=some (iv x6)/\∃x7,w1.cell? (p1.add 3)=some (iv x7)/\Calls P F.Em #[.pointer q1,iv x6,iv x7] w1 (cO fun v4 w5=>∃b4,∃x8,v4=(.tuple #[.bool b4,iv x8])/\∃x9,w5.cell? (p1.add 2)=some (iv x9)/\∃x10,w5.cell? (p1.add 3)=some (iv x10)/\Calls P F.pX #[.pointer q2,iv x9,iv x10] w5 (cO fun v5 w6=>∃b5,∃x11,v5=(.tuple #[.bool b5,iv x11])/\(b4=b5->(Calls P F.jT #[iv x8] w6 (cO fun v6 w7=>∃x12,v6=(iv x12)/\(rW K) (decide (x12=x11)) w7)))/\(¬(b4=b5)->((rW K) false w6))))))/\(¬(x5=6)->((x5=7->(∃x13,w1.cell? (p1.add 2)=some (iv x13)/\∃x14,w1.cell? (p1.add 3)=some (iv x14)/\Calls P F.Aj #[.pointer q1,iv x13,iv x14] w1 (cO fun v7 w9=>∃b7,∃x15,v7=(.tuple #[.bool b7,iv x15])/\∃x16,w9.cell? (p1.add 2)=some (iv x16)/\∃x17,w9.cell? (p1.add 3)=some (iv x17)/\Calls P F.nZ #[.pointer q2,iv x16,iv x17] w9 (cO fun v8 w10=>∃b8,∃x18,v8=(.tuple #[.bool b8,iv x18])/\(b7=b8->(Calls P F.jT #[iv x15] w10 (cO fun v9 w11=>∃x19,v9=(iv x19)/\(rX K) (decide (x19=x18)) w11)))/\(¬(b7=b8)->((rX K) false w10))))))/\(¬(x5=7)->(Calls P F.xK #[.pointer q1] w1 (cO fun v10 w13=>∃b10,v10=(.bool b10)/\Calls P F.nY #[.pointer q2] w13 (cO fun v11 w14=>∃b11,v11=(.bool b11)/\K (decide (b10=b11)) w14)))))))))
theorem Yz (x1:Int) (b1:Bool) (x2:Int) (x3:Int) (x4:Int) (q1:Option Addr) (q2:Option Addr) (K:Bool->World->Prop) (w:World) (H:Nk x1 b1 x2 x3 x4 q1 q2 K w):Calls P F.zQ #[.agg #[iv x1,.bool b1,iv x2,iv x3,iv x4],.pointer q1,.pointer q2] w (cO fun v w'=>∃b2,v=(.bool b2)/\K b2 w'):=by
 unfold Nk at H;refine bT (P:=P) Tryz.func23 rfl [(0,.agg #[iv x1,.bool b1,iv x2,iv x3,iv x4]),(1,.pointer q1),(2,.pointer q2)] 91 rfl rfl (aa rfl (aa rfl (aa rfl az))) (aG (aF (iP (f:=(fun p=> .pointer (some p))) rfl rfl (aI rfl) (fun a ha=>uM (ha.ev rfl) uO) ?_)));intro p1 w1 hN;replace H:=H _ _ hN;refine ag rfl (aH (nc (y3 1 2 3 rfl) (aG (aG (aF (fa rfl (TF.fV _ _) ?_))))));obtain⟨x5,h2,H⟩:=H;refine ld rfl (aJ TF.aP h2) (aH (nc (y4 1 2 3 18 rfl) (aY (aG (aF (bo rfl rfl iR (ag rfl (aH (nc (y5 1 2 3 18 19 rfl) ?_)))))))));refine bC rfl (fun hb=> ?_) (fun hb=> ?_)
 ·replace H:=H.1 hb;refine aG (aF (mv rfl (sc rfl rfl FF.Vs H ?_)));rintro _ w2 ⟨A1,n1,c1,rfl,H⟩;refine ag rfl (aH (nc (y2 2 7 rfl) (aG (aF (mv rfl (mv rfl (sc rfl rfl FF.Jm H ?_)))))));rintro _ w3 ⟨A2,n2,c2,rfl,H⟩;refine sc rfl rfl FF.mJ H ?_;rintro _ w4 ⟨b3,rfl,H⟩;exact ag rfl (aH (nc (kp 6 rfl zz) (bK (bF (aQ (aN (res1 rfl rfl) ⟨_,rfl,_,rfl,H⟩))))))
 ·replace H:=H.2 hb;refine aG (aF (bo rfl rfl iR (ag rfl (aH (nc (y5 1 2 3 18 27 rfl) ?_)))));refine bC rfl (fun hb=> ?_) (fun hb=> ?_)
  ·replace H:=H.1 hb;refine aG (aF (mv rfl (fa rfl (TF.dO _ _) ?_)));obtain⟨x6,h3,H⟩:=H;refine ld rfl (aJ TF.aP h3) (fa rfl (TF.dX _ _) ?_);obtain⟨x7,h4,H⟩:=H;refine ld rfl (aJ TF.aP h4) (sc rfl rfl FF.Xf H ?_);rintro _ w5 ⟨b4,x8,rfl,H⟩;refine mv rfl (sv rfl rfl (xe rfl rfl) (sv rfl rfl (xe rfl rfl) (ag rfl (ag rfl (aH (nc (y4 2 3 8 9 rfl) (aG (aF (mv rfl (fa rfl (TF.dO _ _) ?_))))))))));obtain⟨x9,h5,H⟩:=H;refine ld rfl (aJ TF.aP h5) (fa rfl (TF.dX _ _) ?_);obtain⟨x10,h6,H⟩:=H;refine ld rfl (aJ TF.aP h6) (sc rfl rfl FF.xX H ?_);rintro _ w6 ⟨b5,x11,rfl,H⟩;refine mv rfl (sv rfl rfl (xe rfl rfl) (sv rfl rfl (xe rfl rfl) (ag rfl (ag rfl (aH (nc (y4 8 9 10 11 rfl) ?_))))));refine fA (fun a w=>∃b6,Ok 91 [(6,.bool b6)] a/\rW K b6 w) ?_ ?_
   ·rintro a w8 ⟨b6,ha,H⟩;unfold rW at H;refine cu ha ?_;exact bK (bF (aQ (aN (res1 rfl rfl) ⟨_,rfl,_,rfl,H⟩)))
   ·refine aF (mv rfl (mv rfl (bo rfl rfl (aCc TF.Wh) ?_)));rcases Classical.em (b4=b5) with hb|hb
    ·replace H:=H.1 hb;refine sv rfl rfl (xt rfl hb) (Bv rfl rfl rfl (Eu rfl rfl (dW rfl rfl rfl) (xc rfl rfl FF.gY) H ?_));rintro _ w7 ⟨x12,rfl,H⟩;exact Bv rfl rfl rfl (Qh rfl rfl rfl rfl iR (pt rfl rfl (ag rfl (aH (bD fun a ha=>⟨(decide (x12=x11)),ha.weaken cs,H⟩)))))
    ·replace H:=H.2 hb;exact sv rfl rfl (xf rfl hb) (sk rfl rfl rfl rfl (sk rfl rfl rfl rfl (sk rfl rfl rfl rfl (sk rfl rfl rfl rfl (pf rfl rfl (ag rfl (aH (bD fun a ha=>⟨false,ha.weaken cs,H⟩))))))))
  ·replace H:=H.2 hb;refine aG (aF (bo rfl rfl iR (ag rfl (aH (nc (y4 1 2 3 56 rfl) ?_)))));refine bC rfl (fun hb=> ?_) (fun hb=> ?_)
   ·replace H:=H.1 hb;refine aG (aF (mv rfl (fa rfl (TF.dO _ _) ?_)));obtain⟨x13,h7,H⟩:=H;refine ld rfl (aJ TF.aP h7) (fa rfl (TF.dX _ _) ?_);obtain⟨x14,h8,H⟩:=H;refine ld rfl (aJ TF.aP h8) (sc rfl rfl FF.Vm H ?_);rintro _ w9 ⟨b7,x15,rfl,H⟩;refine mv rfl (sv rfl rfl (xe rfl rfl) (sv rfl rfl (xe rfl rfl) (ag rfl (ag rfl (aH (nc (y4 2 3 12 13 rfl) (aG (aF (mv rfl (fa rfl (TF.dO _ _) ?_))))))))));obtain⟨x16,h9,H⟩:=H;refine ld rfl (aJ TF.aP h9) (fa rfl (TF.dX _ _) ?_);obtain⟨x17,h10,H⟩:=H;refine ld rfl (aJ TF.aP h10) (sc rfl rfl FF.wU H ?_);rintro _ w10 ⟨b8,x18,rfl,H⟩;refine mv rfl (sv rfl rfl (xe rfl rfl) (sv rfl rfl (xe rfl rfl) (ag rfl (ag rfl (aH (nc (y4 12 13 14 15 rfl) ?_))))));refine fA (fun a w=>∃b9,Ok 91 [(6,.bool b9)] a/\rX K b9 w) ?_ ?_
    ·rintro a w12 ⟨b9,ha,H⟩;unfold rX at H;refine cu ha ?_;exact bK (bF (aQ (aN (res1 rfl rfl) ⟨_,rfl,_,rfl,H⟩)))
    ·refine aF (mv rfl (mv rfl (bo rfl rfl (aCc TF.Wh) ?_)));rcases Classical.em (b7=b8) with hb|hb
     ·replace H:=H.1 hb;refine sv rfl rfl (xt rfl hb) (Bv rfl rfl rfl (Eu rfl rfl (dW rfl rfl rfl) (xc rfl rfl FF.gY) H ?_));rintro _ w11 ⟨x19,rfl,H⟩;exact Bv rfl rfl rfl (Qh rfl rfl rfl rfl iR (pt rfl rfl (ag rfl (aH (bD fun a ha=>⟨(decide (x19=x18)),ha.weaken cs,H⟩)))))
     ·replace H:=H.2 hb;exact sv rfl rfl (xf rfl hb) (sk rfl rfl rfl rfl (sk rfl rfl rfl rfl (sk rfl rfl rfl rfl (sk rfl rfl rfl rfl (pf rfl rfl (ag rfl (aH (bD fun a ha=>⟨false,ha.weaken cs,H⟩))))))))
   ·replace H:=H.2 hb;refine aX (bZ (nc (y2 1 2 rfl) (aG (aF (mv rfl (sc rfl rfl FF.Ht H ?_))))));rintro _ w13 ⟨b10,rfl,H⟩;refine ag rfl (aH (nc (y2 2 16 rfl) (aG (aF (mv rfl (mv rfl (sc rfl rfl FF.wQ H ?_)))))));rintro _ w14 ⟨b11,rfl,H⟩;exact bo rfl rfl (aCc TF.Wh) (ag rfl (aH (nc (kp 6 rfl zz) (bK (aN (res1 rfl rfl) ⟨_,rfl,_,rfl,H⟩)))))
def lK (K:Bool->World->Prop) (p1:Addr) (q2:Option Addr) (A2:Option Addr) (n2 c2:Nat) (x12:Int) (x13:Int) (x14:Int) (w4:World):Prop:=
 Calls P F.jT #[iv x12] w4 (cO fun v7 w9=>∃x23,v7=(iv x23)/\(x23≠x13->(K false w9))/\(¬(x23≠x13)->((x13≠0->(K (decide ((n2:Int)=0)) w9))/\(¬(x13≠0)->(∃x24,w9.cell? (p1.add 2)=some (iv x24)/\∃x25,w9.cell? (p1.add 3)=some (iv x25)/\Calls P F.uI #[.pointer q2,iv x14,iv x24,iv x25,.slice A2 n2 c2] w9 (cO fun v8 w10=>∃b3,v8=(.bool b3)/\K b3 w10))))))
def Py (x1:Int) (b1:Bool) (x2:Int) (x3:Int) (x4:Int) (q1:Option Addr) (q2:Option Addr) (K:Bool->World->Prop) (w:World):Prop:=
 ∀(p1:Addr) (w1:World),New w (.cells #[iv x1,.bool b1,iv x2,iv x3,iv x4] T.fO) p1 w1->(∃x5,w1.cell? (p1.add 0)=some (iv x5)/\(x5=9->(∃x6,w1.cell? (p1.add 2)=some (iv x6)/\∃x7,w1.cell? (p1.add 3)=some (iv x7)/\Calls P F.Hl #[.pointer q1,iv x6,iv x7] w1 (cO fun v1 w2=>∃A1 n1 c1,∃x8,v1=(.tuple #[.slice A1 n1 c1,iv x8])/\∃x9,w2.cell? (p1.add 2)=some (iv x9)/\∃x10,w2.cell? (p1.add 3)=some (iv x10)/\Calls P F.qM #[.pointer q2,iv x9,iv x10] w2 (cO fun v2 w3=>∃x11,v2=(iv x11)/\(lK K p1 q2) A1 n1 c1 x8 x11 1 w3))))/\(¬(x5=9)->((x5=10->(∃x15,w1.cell? (p1.add 2)=some (iv x15)/\∃x16,w1.cell? (p1.add 3)=some (iv x16)/\Calls P F.vV #[.pointer q1,iv x15,iv x16] w1 (cO fun v3 w5=>∃A3 n3 c3,∃x17,v3=(.tuple #[.slice A3 n3 c3,iv x17])/\∃x18,w5.cell? (p1.add 2)=some (iv x18)/\∃x19,w5.cell? (p1.add 3)=some (iv x19)/\Calls P F.qE #[.pointer q2,iv x18,iv x19] w5 (cO fun v4 w6=>∃x20,v4=(iv x20)/\(lK K p1 q2) A3 n3 c3 x17 x20 2 w6))))/\(¬(x5=10)->(Calls P F.vW #[.pointer q1] w1 (cO fun v5 w7=>∃A4 n4 c4,∃x21,v5=(.tuple #[.slice A4 n4 c4,iv x21])/\Calls P F.qC #[.pointer q2] w7 (cO fun v6 w8=>∃x22,v6=(iv x22)/\(lK K p1 q2) A4 n4 c4 x21 x22 3 w8)))))))
theorem aAf (x1:Int) (b1:Bool) (x2:Int) (x3:Int) (x4:Int) (q1:Option Addr) (q2:Option Addr) (K:Bool->World->Prop) (w:World) (H:Py x1 b1 x2 x3 x4 q1 q2 K w):Calls P F.Df #[.agg #[iv x1,.bool b1,iv x2,iv x3,iv x4],.pointer q1,.pointer q2] w (cO fun v w'=>∃b2,v=(.bool b2)/\K b2 w'):=by
 unfold Py at H;refine bT (P:=P) Tryz.func24 rfl [(0,.agg #[iv x1,.bool b1,iv x2,iv x3,iv x4]),(1,.pointer q1),(2,.pointer q2)] 71 rfl rfl (aa rfl (aa rfl (aa rfl az))) (aG (aF (iP (f:=(fun p=> .pointer (some p))) rfl rfl (aI rfl) (fun a ha=>uM (ha.ev rfl) uO) ?_)));intro p1 w1 hN;replace H:=H _ _ hN;refine ag rfl (aH (nc (y3 1 2 3 rfl) (aG (aF (ag rfl (aH (nc (y3 1 2 3 rfl) (aG (aF (ag rfl (aH (nc (y3 1 2 3 rfl) (aG (aF (ag rfl (aH (nc (y3 1 2 3 rfl) (aG (aF (ag rfl (aH (nc (y4 1 2 3 10 rfl) ?_))))))))))))))))))))));refine fA (fun a w=>∃A2 n2 c2,∃x12,∃x13,∃x14,Ok 71 [(2,.pointer q2),(3,.pointer (some p1)),(7,.slice A2 n2 c2),(8,iv x12),(9,iv x13),(10,iv x14)] a/\lK K p1 q2 A2 n2 c2 x12 x13 x14 w) ?_ ?_
 ·rintro a w4 ⟨A2,n2,c2,x12,x13,x14,ha,H⟩;unfold lK at H;refine cu ha ?_;refine aG (aG (aF (mv rfl (sc rfl rfl FF.gY H ?_))));rintro _ w9 ⟨x23,rfl,H⟩;refine mv rfl (bo rfl rfl qR (aH (nc (y6 2 3 7 9 10 57 rfl) ?_)));refine bC rfl (fun hb=> ?_) (fun hb=> ?_)
  ·replace H:=H.1 hb;exact aG (aF (ag rfl (aH (nc (kp 6 rfl zz) (bK (aQ (aN (res1 rfl rfl) ⟨_,rfl,_,rfl,H⟩)))))))
  ·replace H:=H.2 hb;refine aX (nc (y5 2 3 7 9 10 rfl) (aG (aG (aF (mv rfl (bo rfl rfl qR (aH (nc (y5 2 3 7 10 59 rfl) ?_))))))));refine bC rfl (fun hb=> ?_) (fun hb=> ?_)
   ·replace H:=H.1 hb;exact aG (aF (mv rfl (sv rfl rfl (xb rfl (fun _=>bW TF.bP)) (bo rfl rfl iR (ag rfl (aH (nc (kp 6 rfl zz) (bK (aQ (aN (res1 rfl rfl) ⟨_,rfl,_,rfl,H⟩))))))))))
   ·replace H:=H.2 hb;refine aX (nc (y4 2 3 7 10 rfl) (aG (aF (mv rfl (mv rfl (fa rfl (TF.dO _ _) ?_))))));obtain⟨x24,h11,H⟩:=H;refine ld rfl (aJ TF.aP h11) (fa rfl (TF.dX _ _) ?_);obtain⟨x25,h12,H⟩:=H;refine ld rfl (aJ TF.aP h12) (mv rfl (sc rfl rfl FF.Lm H ?_));rintro _ w10 ⟨b3,rfl,H⟩;exact ag rfl (aH (nc (kp 6 rfl zz) (bK (aN (res1 rfl rfl) ⟨_,rfl,_,rfl,H⟩))))
 ·refine aG (aF (fa rfl (TF.fV _ _) ?_));obtain⟨x5,h2,H⟩:=H;refine ld rfl (aJ TF.aP h2) (aH (nc (y5 1 2 3 10 12 rfl) (aY (aG (aF (bo rfl rfl iR (ag rfl (aH (nc (y6 1 2 3 10 12 20 rfl) ?_)))))))));refine bC rfl (fun hb=> ?_) (fun hb=> ?_)
  ·replace H:=H.1 hb;refine aG (aF (mv rfl (fa rfl (TF.dO _ _) ?_)));obtain⟨x6,h3,H⟩:=H;refine ld rfl (aJ TF.aP h3) (fa rfl (TF.dX _ _) ?_);obtain⟨x7,h4,H⟩:=H;refine ld rfl (aJ TF.aP h4) (sc rfl rfl FF.Ye H ?_);rintro _ w2 ⟨A1,n1,c1,x8,rfl,H⟩;refine mv rfl (sv rfl rfl (xe rfl rfl) (sv rfl rfl (xe rfl rfl) (ag rfl (ag rfl (aH (nc (y5 2 3 7 8 10 rfl) (aF (mv rfl (fa rfl (TF.dO _ _) ?_)))))))));obtain⟨x9,h5,H⟩:=H;refine ld rfl (aJ TF.aP h5) (fa rfl (TF.dX _ _) ?_);obtain⟨x10,h6,H⟩:=H;refine ld rfl (aJ TF.aP h6) (sc rfl rfl FF.yJ H ?_);rintro _ w3 ⟨x11,rfl,H⟩;exact ag rfl (aH (bZ (bD fun a ha=>⟨A1,n1,c1,x8,x11,1,ha.weaken cs,H⟩)))
  ·replace H:=H.2 hb;refine aG (aF (bo rfl rfl iR (ag rfl (aH (nc (y4 1 2 3 37 rfl) ?_)))));refine bC rfl (fun hb=> ?_) (fun hb=> ?_)
   ·replace H:=H.1 hb;refine aG (aF (ag rfl (aH (nc (y4 1 2 3 10 rfl) (aG (aF (mv rfl (fa rfl (TF.dO _ _) ?_))))))));obtain⟨x15,h7,H⟩:=H;refine ld rfl (aJ TF.aP h7) (fa rfl (TF.dX _ _) ?_);obtain⟨x16,h8,H⟩:=H;refine ld rfl (aJ TF.aP h8) (sc rfl rfl FF.Ro H ?_);rintro _ w5 ⟨A3,n3,c3,x17,rfl,H⟩;refine mv rfl (sv rfl rfl (xe rfl rfl) (sv rfl rfl (xe rfl rfl) (ag rfl (ag rfl (aH (nc (y5 2 3 7 8 10 rfl) (aF (mv rfl (fa rfl (TF.dO _ _) ?_)))))))));obtain⟨x18,h9,H⟩:=H;refine ld rfl (aJ TF.aP h9) (fa rfl (TF.dX _ _) ?_);obtain⟨x19,h10,H⟩:=H;refine ld rfl (aJ TF.aP h10) (sc rfl rfl FF.Gj H ?_);rintro _ w6 ⟨x20,rfl,H⟩;exact ag rfl (aH (bZ (bD fun a ha=>⟨A3,n3,c3,x17,x20,2,ha.weaken cs,H⟩)))
   ·replace H:=H.2 hb;refine aG (aF (ag rfl (aH (nc (y4 1 2 3 10 rfl) (aG (aF (mv rfl (sc rfl rfl FF.Rh H ?_))))))));rintro _ w7 ⟨A4,n4,c4,x21,rfl,H⟩;refine mv rfl (sv rfl rfl (xe rfl rfl) (sv rfl rfl (xe rfl rfl) (ag rfl (ag rfl (aH (nc (y5 2 3 7 8 10 rfl) (aF (mv rfl (sc rfl rfl FF.Gp H ?_)))))))));rintro _ w8 ⟨x22,rfl,H⟩;exact ag rfl (aH (bZ (bD fun a ha=>⟨A4,n4,c4,x21,x22,3,ha.weaken cs,H⟩)))
def xH (K:Bool->World->Prop) (x18:Int) (w16:World):Prop:=
 K (decide (x18=(-1))) w16
def kR (K:Bool->World->Prop) (q2:Option Addr) (A1:Option Addr) (n1 c1:Nat) (b3:Bool) (w6:World):Prop:=
 (b3=true->(K false w6))/\(b3=false->(∃X1:Nat->Prop,∃p2,q2=some p2/\∃A2 n2 c2,w6.cell? (p2.add 0)=some (.slice A2 n2 c2)/\¬X1 (p2.add 0).block/\∀w10,aO w6 w10->Calls P F.sH #[.pointer q2] w10 (cO fun v4 w9=>∃A3 n3 c3,v4=(.slice A3 n3 c3)/\Keep X1 w6 w9/\∀w13,aO w9 w13->Calls P F.Ac #[.slice A2 n2 c2,.slice A3 n3 c3,.slice A1 n1 c1] w13 (cO fun v5 w12=>∃x16,∃x17,v5=(.tuple #[iv x16,iv x17])/\∀w15,aO w12 w15->((xH K) x16 w15)))))
def Lr (x1:Int) (b1:Bool) (x2:Int) (x3:Int) (x4:Int) (q1:Option Addr) (q2:Option Addr) (K:Bool->World->Prop) (w:World):Prop:=
 ∀(p1:Addr) (w1:World),New w (.cells #[iv x1,.bool b1,iv x2,iv x3,iv x4] T.fO) p1 w1->(∃x5,w1.cell? (p1.add 2)=some (iv x5)/\∃x6,w1.cell? (p1.add 3)=some (iv x6)/\Calls P F.Am #[.pointer q1,iv x5,iv x6] w1 (cO fun v1 w2=>∃A1 n1 c1,∃x7,v1=(.tuple #[.slice A1 n1 c1,iv x7])/\∃x8,w2.cell? (p1.add 2)=some (iv x8)/\∃x9,w2.cell? (p1.add 3)=some (iv x9)/\Calls P F.qM #[.pointer q2,iv x8,iv x9] w2 (cO fun v2 w3=>∃x10,v2=(iv x10)/\Calls P F.jT #[iv x7] w3 (cO fun v3 w4=>∃x11,v3=(iv x11)/\(x11≠x10->(K false w4))/\(¬(x11≠x10)->((x10≠0->(K (decide ((n1:Int)=0)) w4))/\(¬(x10≠0)->(((n1:Int)=0->(∀w5,aO w4 w5->((kR K q2 A1 n1 c1) true w5)))/\(¬((n1:Int)=0)->(0<=IntKind.wrap .i64 ((n1:Int)-1)/\IntKind.wrap .i64 ((n1:Int)-1)<(n1:Int)/\∃a1,A1=some a1/\∃x12,w4.cell? ((a1.add ((IntKind.wrap .i64 ((n1:Int)-1)).toNat*5)).add 1)=some (iv x12)/\∃x13,w4.cell? (p1.add 2)=some (iv x13)/\(x12≠x13->(∀w7,aO w4 w7->((kR K q2 A1 n1 c1) true w7)))/\(¬(x12≠x13)->(0<=IntKind.wrap .i64 ((n1:Int)-1)/\IntKind.wrap .i64 ((n1:Int)-1)<(n1:Int)/\∃a2,A1=some a2/\∃x14,w4.cell? ((a2.add ((IntKind.wrap .i64 ((n1:Int)-1)).toNat*5)).add 2)=some (iv x14)/\∃x15,w4.cell? (p1.add 3)=some (iv x15)/\∀w8,aO w4 w8->((kR K q2 A1 n1 c1) (decide (x14≠x15)) w8)))))))))))))
theorem Yk (x1:Int) (b1:Bool) (x2:Int) (x3:Int) (x4:Int) (q1:Option Addr) (q2:Option Addr) (K:Bool->World->Prop) (w:World) (H:Lr x1 b1 x2 x3 x4 q1 q2 K w):Calls P F.yO #[.agg #[iv x1,.bool b1,iv x2,iv x3,iv x4],.pointer q1,.pointer q2] w (cO fun v w'=>∃b2,v=(.bool b2)/\K b2 w'):=by
 unfold Lr at H;refine bT (P:=P) Tryz.func25 rfl [(0,.agg #[iv x1,.bool b1,iv x2,iv x3,iv x4]),(1,.pointer q1),(2,.pointer q2)] 76 rfl rfl (aa rfl (aa rfl (aa rfl az))) (aG (aF (iP (f:=(fun p=> .pointer (some p))) rfl rfl (aI rfl) (fun a ha=>uM (ha.ev rfl) uO) ?_)));intro p1 w1 hN;replace H:=H _ _ hN;refine ag rfl (aH (nc (y3 1 2 3 rfl) (aG (aF (mv rfl (fa rfl (TF.dO _ _) ?_))))));obtain⟨x5,h2,H⟩:=H;refine ld rfl (aJ TF.aP h2) (fa rfl (TF.dX _ _) ?_);obtain⟨x6,h3,H⟩:=H;refine ld rfl (aJ TF.aP h3) (sc rfl rfl FF.Vt H ?_);rintro _ w2 ⟨A1,n1,c1,x7,rfl,H⟩;refine mv rfl (sv rfl rfl (xe rfl rfl) (sv rfl rfl (xe rfl rfl) (ag rfl (ag rfl (aH (nc (y4 2 3 7 8 rfl) (aG (aF (mv rfl (fa rfl (TF.dO _ _) ?_))))))))));obtain⟨x8,h4,H⟩:=H;refine ld rfl (aJ TF.aP h4) (fa rfl (TF.dX _ _) ?_);obtain⟨x9,h5,H⟩:=H;refine ld rfl (aJ TF.aP h5) (sc rfl rfl FF.yJ H ?_);rintro _ w3 ⟨x10,rfl,H⟩;refine ag rfl (aH (nc (y5 2 3 7 8 9 rfl) (aG (aG (aF (mv rfl (sc rfl rfl FF.gY H ?_)))))));rintro _ w4 ⟨x11,rfl,H⟩;refine mv rfl (bo rfl rfl qR (aH (nc (y5 2 3 7 9 30 rfl) ?_)));refine bC rfl (fun hb=> ?_) (fun hb=> ?_)
 ·replace H:=H.1 hb;exact aG (aF (ag rfl (aH (nc (kp 6 rfl zz) (bK (aQ (aN (res1 rfl rfl) ⟨_,rfl,_,rfl,H⟩)))))))
 ·replace H:=H.2 hb;refine aX (nc (y4 2 3 7 9 rfl) (aG (aG (aF (mv rfl (bo rfl rfl qR (aH (nc (y4 2 3 7 32 rfl) ?_))))))));refine bC rfl (fun hb=> ?_) (fun hb=> ?_)
  ·replace H:=H.1 hb;exact aG (aF (mv rfl (sv rfl rfl (xb rfl (fun _=>bW TF.lD)) (bo rfl rfl iR (ag rfl (aH (nc (kp 6 rfl zz) (bK (aQ (aN (res1 rfl rfl) ⟨_,rfl,_,rfl,H⟩))))))))))
  ·replace H:=H.2 hb;refine aX (nc (y3 2 3 7 rfl) (aG ?_));refine fA (fun a w=>∃b3,Ok 76 [(2,.pointer q2),(7,.slice A1 n1 c1),(62,.bool b3)] a/\kR K q2 A1 n1 c1 b3 w) ?_ ?_
   ·rintro a w6 ⟨b3,ha,H⟩;unfold kR at H;refine cu ha ?_;refine eG rfl (fun hb=> ?_) (fun hb=> ?_)
    ·replace H:=H.1 hb;exact aG (aF (ag rfl (aH (nc (kp 6 rfl zz) (bK (aQ (aN (res1 rfl rfl) ⟨_,rfl,_,rfl,H⟩)))))))
    ·replace H:=H.2 hb;refine aX (nc (y2 2 7 rfl) ?_);refine fA (fun a w=>∃x18,Ok 76 [(10,iv x18)] a/\xH K x18 w) ?_ ?_
     ·rintro a w16 ⟨x18,ha,H⟩;unfold xH at H;refine cu ha ?_;exact aG (aF (mv rfl (bo rfl rfl iR (ag rfl (aH (nc (kp 6 rfl zz) (bK (aN (res1 rfl rfl) ⟨_,rfl,_,rfl,H⟩))))))))
     ·obtain⟨X1,H⟩:=H;refine iM follows X1 [0,1,2,3,4,6,8,9,10,11,12] [3] 13 rfl rfl (by kernel_rfl) (fun _ _ d _ _ h=>by cases d<;>exact h) (fun cm W D=> ?_);refine gZ 0 cm rfl rfl D W fun _ D W=> ?_;obtain⟨p2,e3,H⟩:=H;refine pv 1 cm rfl rfl rfl (fun w' a ha=>dH ((ha.ev rfl).trans (by rw[e3]))) D W fun _ D W=>(lH 2 cm rfl rfl (TF.kZ _ _) D W fun _ D W=> ?_);obtain⟨A2,n2,c2,h14,hx',H⟩:=H;replace h14:=And.intro h14 hx';clear hx';refine vl 3 cm rfl rfl (fun hw=>(aJ TF.fD (hw.cell h14))) D W fun _ D W=>(gZ 4 cm rfl rfl D W fun _ D W=>(gZ 6 cm rfl rfl D W fun _ D W=>(ar 5 ?_)));replace H:=H _ D;refine Vx rfl rfl rfl (aI rfl) (xc rfl rfl FF.Jh) rfl true (by kernel_rfl) H ?_;rintro _ w9 ⟨A3,n3,c3,rfl,H⟩ _ D;have W:=H.1.drawn D;replace H:=H.2;refine⟨fun _=>W,?_⟩;refine ar 7 ?_;replace H:=H _ D;refine Vx rfl rfl rfl (aI rfl) (xc rfl rfl FF.Qy) rfl false (by kernel_rfl) H ?_;rintro _ w12 ⟨x16,x17,rfl,H⟩ _ D;refine⟨fun h=>(by cases h),?_⟩;refine aBv 8 cm rfl rfl D fun _ D=>(Qj 9 cm rfl rfl rfl (fun w' a ha=>aD6 (ha.ev rfl) rfl) D fun _ D=>(Qj 10 cm rfl rfl rfl (fun w' a ha=>aD6 (ha.ev rfl) rfl) D fun _ D=>(Bo 11 cm rfl rfl D fun _ D=>(Bo 12 cm rfl rfl D fun _ D=>(dJ (by kernel_rfl) D ?_)))));intro w15 D;replace H:=H _ D;clear D cm;exact bD fun a ha=>⟨x16,ha.weaken cs,H⟩
   ·refine bU follows [0,1,2,3,4,5,6,7,8,9,10,11,12,13,14,15,16,17,18,19,20,21,22,23,24,25,26] [10,12,22,24] 27 rfl rfl (by kernel_rfl) (fun _ _ d _ _ h=>by cases d<;>exact h) (fun cm W D=> ?_);refine gZ 0 cm rfl rfl D W fun _ D W=>(pv 1 cm rfl rfl rfl (fun w' a ha=>kQ (ha.evs rfl) (fun _=>bW TF.lD)) D W fun _ D W=>(pv 2 cm rfl rfl rfl (fun w' a ha=>fZ (ha.ev rfl) (ha.ev rfl) iR) D W fun _ D W=> ?_));rcases Classical.em ((n1:Int)=0) with hb|hb
    ·replace H:=H.1 hb;refine pv 3 cm rfl rfl rfl (fun w' a ha=>o_t (iC (ha.ev rfl)) hb) D W fun _ D W=>(ps 4 cm rfl rfl rfl rfl rfl D W fun _ D W=>(ps 5 cm rfl rfl rfl rfl rfl D W fun _ D W=>(ps 6 cm rfl rfl rfl rfl rfl D W fun _ D W=>(ps 7 cm rfl rfl rfl rfl rfl D W fun _ D W=>(ps 8 cm rfl rfl rfl rfl rfl D W fun _ D W=>(ps 9 cm rfl rfl rfl rfl rfl D W fun _ D W=>(ps 10 cm rfl rfl rfl rfl rfl D W fun _ D W=>(ps 11 cm rfl rfl rfl rfl rfl D W fun _ D W=>(ps 12 cm rfl rfl rfl rfl rfl D W fun _ D W=>(ps 13 cm rfl rfl rfl rfl rfl D W fun _ D W=>(ppt 14 cm rfl rfl rfl D W fun _ D W=>(gZ 15 cm rfl rfl D W fun _ D W=>(ps 16 cm rfl rfl rfl rfl rfl D W fun _ D W=>(ps 17 cm rfl rfl rfl rfl rfl D W fun _ D W=>(ps 18 cm rfl rfl rfl rfl rfl D W fun _ D W=>(ps 19 cm rfl rfl rfl rfl rfl D W fun _ D W=>(ps 20 cm rfl rfl rfl rfl rfl D W fun _ D W=>(ps 21 cm rfl rfl rfl rfl rfl D W fun _ D W=>(ps 22 cm rfl rfl rfl rfl rfl D W fun _ D W=>(ps 23 cm rfl rfl rfl rfl rfl D W fun _ D W=>(ps 24 cm rfl rfl rfl rfl rfl D W fun _ D W=>(psd 25 cm rfl rfl rfl rfl rfl D fun _ D=>(aDp 26 cm rfl rfl rfl D fun _ D=>(dJ (by kernel_rfl) D ?_))))))))))))))))))))))));intro w5 D;replace H:=H _ D;clear D cm;exact bD fun a ha=>⟨true,ha.weaken cs,H⟩
    ·replace H:=H.2 hb;refine pv 3 cm rfl rfl rfl (fun w' a ha=>o_f (iC (ha.ev rfl)) hb) D W fun _ D W=>(zX 4 cm rfl rfl rfl rfl D W fun _ D W=>(zX 5 cm rfl rfl rfl rfl D W fun _ D W=>(pvg 6 cm rfl rfl rfl rfl rfl (fun w' a ha=>kQ (ha.evs rfl) (fun _=>bW TF.lD)) D W fun _ D W=>(pvg 7 cm rfl rfl rfl rfl rfl (fun w' a ha=>fZ (ha.ev rfl) (ha.ev rfl) Pn) D W fun _ D W=> ?_))));obtain⟨h6,h7,a1,e1,H⟩:=H;refine Zk 8 cm rfl rfl rfl rfl rfl (aU TF.eX TF.dP e1 h6 h7) D W fun _ D W=>(Ti 9 cm rfl rfl rfl rfl (TF.jH _ _) D W fun _ D W=> ?_);obtain⟨x12,h8,H⟩:=H;refine vlg 10 cm rfl rfl rfl rfl (fun hw=>(aJ TF.aP ((hw.cell _).trans h8))) D W fun _ D W=>(Ti 11 cm rfl rfl rfl rfl (TF.dO _ _) D W fun _ D W=> ?_);obtain⟨x13,h9,H⟩:=H;refine vlg 12 cm rfl rfl rfl rfl (fun hw=>(aJ TF.aP ((hw.cell _).trans h9))) D W fun _ D W=>(pvg 13 cm rfl rfl rfl rfl rfl (fun w' a ha=>fZ (ha.ev rfl) (ha.ev rfl) qR) D W fun _ D W=>(ppf 14 cm rfl rfl rfl D W fun _ D W=> ?_));rcases Classical.em (x12≠x13) with hb|hb
     ·replace H:=H.1 hb;refine pv 15 cm rfl rfl rfl (fun w' a ha=>o_t (iC (ha.ev rfl)) hb) D W fun _ D W=>(ps 16 cm rfl rfl rfl rfl rfl D W fun _ D W=>(ps 17 cm rfl rfl rfl rfl rfl D W fun _ D W=>(ps 18 cm rfl rfl rfl rfl rfl D W fun _ D W=>(ps 19 cm rfl rfl rfl rfl rfl D W fun _ D W=>(ps 20 cm rfl rfl rfl rfl rfl D W fun _ D W=>(ps 21 cm rfl rfl rfl rfl rfl D W fun _ D W=>(ps 22 cm rfl rfl rfl rfl rfl D W fun _ D W=>(ps 23 cm rfl rfl rfl rfl rfl D W fun _ D W=>(ps 24 cm rfl rfl rfl rfl rfl D W fun _ D W=>(psd 25 cm rfl rfl rfl rfl rfl D fun _ D=>(aDp 26 cm rfl rfl rfl D fun _ D=>(dJ (by kernel_rfl) D ?_))))))))))));intro w7 D;replace H:=H _ D;clear D cm;exact bD fun a ha=>⟨true,ha.weaken cs,H⟩
     ·replace H:=H.2 hb;refine pv 15 cm rfl rfl rfl (fun w' a ha=>o_f (iC (ha.ev rfl)) hb) D W fun _ D W=>(zX 16 cm rfl rfl rfl rfl D W fun _ D W=>(zX 17 cm rfl rfl rfl rfl D W fun _ D W=>(pvg 18 cm rfl rfl rfl rfl rfl (fun w' a ha=>kQ (ha.evs rfl) (fun _=>bW TF.lD)) D W fun _ D W=>(pvg 19 cm rfl rfl rfl rfl rfl (fun w' a ha=>fZ (ha.ev rfl) (ha.ev rfl) Pn) D W fun _ D W=> ?_))));obtain⟨h10,h11,a2,e2,H⟩:=H;refine Zk 20 cm rfl rfl rfl rfl rfl (aU TF.eX TF.dP e2 h10 h11) D W fun _ D W=>(Ti 21 cm rfl rfl rfl rfl (TF.jI _ _) D W fun _ D W=> ?_);obtain⟨x14,h12,H⟩:=H;refine vlg 22 cm rfl rfl rfl rfl (fun hw=>(aJ TF.aP ((hw.cell _).trans h12))) D W fun _ D W=>(Ti 23 cm rfl rfl rfl rfl (TF.dX _ _) D W fun _ D W=> ?_);obtain⟨x15,h13,H⟩:=H;refine vlg 24 cm rfl rfl rfl rfl (fun hw=>(aJ TF.aP ((hw.cell _).trans h13))) D W fun _ D W=>(aGj 25 cm rfl rfl rfl rfl rfl (fun w' a ha=>fZ (ha.ev rfl) (ha.ev rfl) qR) D fun _ D=>(aCs 26 cm rfl rfl rfl D fun _ D=>(dJ (by kernel_rfl) D ?_)));intro w8 D;replace H:=H _ D;clear D cm;exact bD fun a ha=>⟨(decide (x14≠x15)),ha.weaken cs,H⟩
def oZ (w1:World) (p1:Addr) (q1:Option Addr) (q2:Option Addr) (K:Bool->World->Prop) (b9:Bool):Prop:=
 (b9=true->(∃x19,∃b10,∃x20,∃x21,∃x22,bG w1 p1 [iv x19,.bool b10,iv x20,iv x21,iv x22]/\Calls P F.Df #[.agg #[iv x19,.bool b10,iv x20,iv x21,iv x22],.pointer q1,.pointer q2] w1 (cO fun v3 w4=>∃b11,v3=(.bool b11)/\K b11 w4)))/\(b9=false->(∃x23,w1.cell? (p1.add 0)=some (iv x23)/\(x23=12->(∃x24,∃b12,∃x25,∃x26,∃x27,bG w1 p1 [iv x24,.bool b12,iv x25,iv x26,iv x27]/\Calls P F.yO #[.agg #[iv x24,.bool b12,iv x25,iv x26,iv x27],.pointer q1,.pointer q2] w1 (cO fun v4 w5=>∃b13,v4=(.bool b13)/\K b13 w5)))/\(¬(x23=12)->(K true w1))))
def pY (w1:World) (p1:Addr) (q1:Option Addr) (q2:Option Addr) (K:Bool->World->Prop) (b6:Bool):Prop:=
 (b6=true->(∃x13,∃b7,∃x14,∃x15,∃x16,bG w1 p1 [iv x13,.bool b7,iv x14,iv x15,iv x16]/\Calls P F.zQ #[.agg #[iv x13,.bool b7,iv x14,iv x15,iv x16],.pointer q1,.pointer q2] w1 (cO fun v2 w3=>∃b8,v2=(.bool b8)/\K b8 w3)))/\(b6=false->(∃x17,w1.cell? (p1.add 0)=some (iv x17)/\(9<=x17->(∃x18,w1.cell? (p1.add 0)=some (iv x18)/\(oZ w1 p1 q1 q2 K) (decide (x18<=11))))/\(¬(9<=x17)->((oZ w1 p1 q1 q2 K) false))))
def oW (w1:World) (p1:Addr) (q1:Option Addr) (q2:Option Addr) (K:Bool->World->Prop) (b3:Bool):Prop:=
 (b3=true->(∃x7,∃b4,∃x8,∃x9,∃x10,bG w1 p1 [iv x7,.bool b4,iv x8,iv x9,iv x10]/\Calls P F.Ci #[.agg #[iv x7,.bool b4,iv x8,iv x9,iv x10],.pointer q1,.pointer q2] w1 (cO fun v1 w2=>∃b5,v1=(.bool b5)/\K b5 w2)))/\(b3=false->(∃x11,w1.cell? (p1.add 0)=some (iv x11)/\(5<=x11->(∃x12,w1.cell? (p1.add 0)=some (iv x12)/\(pY w1 p1 q1 q2 K) (decide (x12<=8))))/\(¬(5<=x11)->((pY w1 p1 q1 q2 K) false))))
def Ph (x1:Int) (b1:Bool) (x2:Int) (x3:Int) (x4:Int) (q1:Option Addr) (q2:Option Addr) (K:Bool->World->Prop) (w:World):Prop:=
 ∀(p1:Addr) (w1:World),New w (.cells #[iv x1,.bool b1,iv x2,iv x3,iv x4] T.fO) p1 w1->(∃x5,w1.cell? (p1.add 0)=some (iv x5)/\(1<=x5->(∃x6,w1.cell? (p1.add 0)=some (iv x6)/\(oW w1 p1 q1 q2 K) (decide (x6<=4))))/\(¬(1<=x5)->((oW w1 p1 q1 q2 K) false)))
theorem aAi (x1:Int) (b1:Bool) (x2:Int) (x3:Int) (x4:Int) (q1:Option Addr) (q2:Option Addr) (K:Bool->World->Prop) (w:World) (H:Ph x1 b1 x2 x3 x4 q1 q2 K w):Calls P F.uH #[.agg #[iv x1,.bool b1,iv x2,iv x3,iv x4],.pointer q1,.pointer q2] w (cO fun v w'=>∃b2,v=(.bool b2)/\K b2 w'):=by
 unfold Ph at H;refine bT (P:=P) Tryz.func13 rfl [(0,.agg #[iv x1,.bool b1,iv x2,iv x3,iv x4]),(1,.pointer q1),(2,.pointer q2)] 54 rfl rfl (aa rfl (aa rfl (aa rfl az))) (aG (aF (iP (f:=(fun p=> .pointer (some p))) rfl rfl (aI rfl) (fun a ha=>uM (ha.ev rfl) uO) ?_)));intro p1 w1 hN;replace H:=H _ _ hN;refine ag rfl (aH (nc (y3 1 2 3 rfl) (aG (aY ?_))));refine fM (fun a=>∃b3,Ok 54 [(1,.pointer q1),(2,.pointer q2),(3,.pointer (some p1)),(7,.bool b3)] a/\oW w1 p1 q1 q2 K b3) ?_ ?_
 ·rintro a ⟨b3,ha,H⟩;unfold oW at H;refine cu ha ?_;refine eG rfl (fun hb=> ?_) (fun hb=> ?_)
  ·replace H:=H.1 hb;refine aG (aF ?_);obtain⟨x7,b4,x8,x9,x10,h4,H⟩:=H;refine ld rfl (gW (vs:=[iv x7,.bool b4,iv x8,iv x9,iv x10]) TF.mP TF.jD h4) (mv rfl (mv rfl (sc rfl rfl FF.Ul H ?_)));rintro _ w2 ⟨b5,rfl,H⟩;exact ag rfl (aH (nc (kp 6 rfl zz) (bK (bF (aQ (aN (res1 rfl rfl) ⟨_,rfl,_,rfl,H⟩))))))
  ·replace H:=H.2 hb;refine fM (fun a=>∃b6,Ok 54 [(1,.pointer q1),(2,.pointer q2),(3,.pointer (some p1)),(20,.bool b6)] a/\pY w1 p1 q1 q2 K b6) ?_ ?_
   ·rintro a ⟨b6,ha,H⟩;unfold pY at H;refine cu ha ?_;refine eG rfl (fun hb=> ?_) (fun hb=> ?_)
    ·replace H:=H.1 hb;refine aG (aF ?_);obtain⟨x13,b7,x14,x15,x16,h7,H⟩:=H;refine ld rfl (gW (vs:=[iv x13,.bool b7,iv x14,iv x15,iv x16]) TF.mP TF.jD h7) (mv rfl (mv rfl (sc rfl rfl FF.Qz H ?_)));rintro _ w3 ⟨b8,rfl,H⟩;exact ag rfl (aH (nc (kp 6 rfl zz) (bK (bF (aQ (aN (res1 rfl rfl) ⟨_,rfl,_,rfl,H⟩))))))
    ·replace H:=H.2 hb;refine fM (fun a=>∃b9,Ok 54 [(1,.pointer q1),(2,.pointer q2),(3,.pointer (some p1)),(33,.bool b9)] a/\oZ w1 p1 q1 q2 K b9) ?_ ?_
     ·rintro a ⟨b9,ha,H⟩;unfold oZ at H;refine cu ha ?_;refine eG rfl (fun hb=> ?_) (fun hb=> ?_)
      ·replace H:=H.1 hb;refine aG (aF ?_);obtain⟨x19,b10,x20,x21,x22,h10,H⟩:=H;refine ld rfl (gW (vs:=[iv x19,.bool b10,iv x20,iv x21,iv x22]) TF.mP TF.jD h10) (mv rfl (mv rfl (sc rfl rfl FF.Ui H ?_)));rintro _ w4 ⟨b11,rfl,H⟩;exact ag rfl (aH (nc (kp 6 rfl zz) (bK (bF (aQ (aN (res1 rfl rfl) ⟨_,rfl,_,rfl,H⟩))))))
      ·replace H:=H.2 hb;refine aG (aF (fa rfl (TF.fV _ _) ?_));obtain⟨x23,h11,H⟩:=H;refine ld rfl (aJ TF.aP h11) (bo rfl rfl iR (ag rfl (aH (nc (y4 1 2 3 46 rfl) ?_))));refine bC rfl (fun hb=> ?_) (fun hb=> ?_)
       ·replace H:=H.1 hb;refine aG (aF ?_);obtain⟨x24,b12,x25,x26,x27,h12,H⟩:=H;refine ld rfl (gW (vs:=[iv x24,.bool b12,iv x25,iv x26,iv x27]) TF.mP TF.jD h12) (mv rfl (mv rfl (sc rfl rfl FF.Qq H ?_)));rintro _ w5 ⟨b13,rfl,H⟩;exact ag rfl (aH (nc (kp 6 rfl zz) (bK (bF (aQ (aN (res1 rfl rfl) ⟨_,rfl,_,rfl,H⟩))))))
       ·replace H:=H.2 hb;exact aX (bZ (nc zz (aG (aF (ag rfl (aH (nc (kp 6 rfl zz) (bK (aN (res1 rfl rfl) ⟨_,rfl,_,rfl,H⟩)))))))))
     ·refine aF (fa rfl (TF.fV _ _) ?_);obtain⟨x17,h8,H⟩:=H;refine ld rfl (aJ TF.aP h8) (bo rfl rfl Kq ?_);rcases Classical.em (9<=x17) with hb|hb
      ·replace H:=H.1 hb;refine sv rfl rfl (xt rfl hb) (Zu rfl rfl rfl (TF.fV _ _) ?_);obtain⟨x18,h9,H⟩:=H;exact Qo rfl rfl rfl (aJ TF.aP h9) (Qh rfl rfl rfl rfl aIt (pt rfl rfl (ag rfl (aH (bD fun a ha=>⟨⟨(decide (x18<=11)),ha.weaken cs,H⟩,rfl⟩)))))
      ·replace H:=H.2 hb;exact sv rfl rfl (xf rfl hb) (sk rfl rfl rfl rfl (sk rfl rfl rfl rfl (sk rfl rfl rfl rfl (pf rfl rfl (ag rfl (aH (bD fun a ha=>⟨⟨false,ha.weaken cs,H⟩,rfl⟩)))))))
   ·refine aF (fa rfl (TF.fV _ _) ?_);obtain⟨x11,h5,H⟩:=H;refine ld rfl (aJ TF.aP h5) (bo rfl rfl Kq ?_);rcases Classical.em (5<=x11) with hb|hb
    ·replace H:=H.1 hb;refine sv rfl rfl (xt rfl hb) (Zu rfl rfl rfl (TF.fV _ _) ?_);obtain⟨x12,h6,H⟩:=H;exact Qo rfl rfl rfl (aJ TF.aP h6) (Qh rfl rfl rfl rfl aIt (pt rfl rfl (ag rfl (aH (bD fun a ha=>⟨⟨(decide (x12<=8)),ha.weaken cs,H⟩,rfl⟩)))))
    ·replace H:=H.2 hb;exact sv rfl rfl (xf rfl hb) (sk rfl rfl rfl rfl (sk rfl rfl rfl rfl (sk rfl rfl rfl rfl (pf rfl rfl (ag rfl (aH (bD fun a ha=>⟨⟨false,ha.weaken cs,H⟩,rfl⟩)))))))
 ·refine aF (fa rfl (TF.fV _ _) ?_);obtain⟨x5,h2,H⟩:=H;refine ld rfl (aJ TF.aP h2) (bo rfl rfl Kq ?_);rcases Classical.em (1<=x5) with hb|hb
  ·replace H:=H.1 hb;refine sv rfl rfl (xt rfl hb) (Zu rfl rfl rfl (TF.fV _ _) ?_);obtain⟨x6,h3,H⟩:=H;exact Qo rfl rfl rfl (aJ TF.aP h3) (Qh rfl rfl rfl rfl aIt (pt rfl rfl (ag rfl (aH (bD fun a ha=>⟨⟨(decide (x6<=4)),ha.weaken cs,H⟩,rfl⟩)))))
  ·replace H:=H.2 hb;exact sv rfl rfl (xf rfl hb) (sk rfl rfl rfl rfl (sk rfl rfl rfl rfl (sk rfl rfl rfl rfl (pf rfl rfl (ag rfl (aH (bD fun a ha=>⟨⟨false,ha.weaken cs,H⟩,rfl⟩)))))))
def pJ (K:Bool->World->Prop) (w15:World) (k1:Nat) (I1:Nat->Int->World->Prop) (x9:Int) (b11:Bool):Prop:=
 (b11=true->(K false w15))/\(b11=false->(∃k2,k2<k1/\I1 k2 (IntKind.wrap .i64 (x9+1)) w15))
def pO (p2:Addr) (x1:Int) (K:Bool->World->Prop) (k1:Nat) (I1:Nat->Int->World->Prop) (x9:Int) (x2:Int) (b8:Bool) (w15:World):Prop:=
 ((!b8)=true->(∃x22,w15.cell? (p2.add 0)=some (iv x22)/\(x1<=x22->(∃x23,w15.cell? (p2.add 0)=some (iv x23)/\(pJ K w15 k1 I1 x9) (decide (x23<=x2))))/\(¬(x1<=x22)->((pJ K w15 k1 I1 x9) false))))/\((!b8)=false->((pJ K w15 k1 I1 x9) false))
def kE (K:Bool->World->Prop) (q3:Option Addr) (p1:Addr) (n2:Nat) (A2:Option Addr) (q2:Option Addr) (q4:Option Addr) (x1:Int) (x2:Int) (q1:Option Addr) (b2:Bool) (w8:World):Prop:=
 (b2=true->(K false w8))/\(b2=false->((q3=none->(Calls P F.mG #[.pointer (some p1)] w8 (cO fun v8 w10=>∃b3,v8=(.bool b3)/\K b3 w10)))/\(¬(q3=none)->(∃I1:Nat->Int->World->Prop,(∃k1,I1 k1 0 w8)/\∀k1 (x9:Int) (w11:World),I1 k1 x9 w11->((x9<(n2:Int)->(0<=x9/\x9<(n2:Int)/\∃a1,A2=some a1/\∃x10,∃b4,∃x11,∃x12,∃x13,bG w11 (a1.add (x9.toNat*5)) [iv x10,.bool b4,iv x11,iv x12,iv x13]/\∀(p2:Addr) (w12:World),New w11 (.cells #[iv 0,.bool false,iv 0,iv 0,iv 0] T.fO) p2 w12->(oH w12 p2 5/\∀w13,w13=cZ w12 p2 [iv x10,.bool b4,iv x11,iv x12,iv x13]->(∃b5,w13.cell? (p2.add 1)=some (.bool b5)/\(b5=true->(∃x14,∃b6,∃x15,∃x16,∃x17,bG w13 p2 [iv x14,.bool b6,iv x15,iv x16,iv x17]/\Calls P F.uH #[.agg #[iv x14,.bool b6,iv x15,iv x16,iv x17],.pointer q2,.pointer q4] w13 (cO fun v9 w14=>∃b7,v9=(.bool b7)/\(pO p2 x1 K k1 I1 x9 x2) b7 w14)))/\(b5=false->(∃x18,∃b9,∃x19,∃x20,∃x21,bG w13 p2 [iv x18,.bool b9,iv x19,iv x20,iv x21]/\Calls P F.uH #[.agg #[iv x18,.bool b9,iv x19,iv x20,iv x21],.pointer q1,.pointer q3] w13 (cO fun v10 w16=>∃b10,v10=(.bool b10)/\(pO p2 x1 K k1 I1 x9 x2) b10 w16)))))))/\(¬(x9<(n2:Int))->(Calls P F.mG #[.pointer (some p1)] w11 (cO fun v11 w17=>∃b12,v11=(.bool b12)/\K b12 w17))))))))
def Qc (A1:Option Addr) (n1 c1:Nat) (A2:Option Addr) (n2 c2:Nat) (x1:Int) (x2:Int) (K:Bool->World->Prop) (w:World):Prop:=
 ∀(p1:Addr) (w1:World),New w (.cells #[.slice none 0 0,.slice none 0 0,.slice none 0 0,.slice none 0 0,.slice none 0 0,.slice none 0 0] T.nG) p1 w1->(Calls P F.sS #[.pointer (some p1),.slice A1 n1 c1] w1 (cO fun v1 w2=>∃A3 n3 c3,v1=(.slice A3 n3 c3)/\Calls P F.Vb #[.slice A3 n3 c3] w2 (cO fun v2 w3=>∃q1,∃x3,v2=(.tuple #[.pointer q1,iv x3])/\Calls P F.Vb #[.slice A3 n3 c3] w3 (cO fun v3 w4=>∃q2,∃x4,v3=(.tuple #[.pointer q2,iv x4])/\Calls P F.zK #[.slice A1 n1 c1] w4 (cO fun v4 w5=>∃q3,∃x5,v4=(.tuple #[.pointer q3,iv x5])/\Calls P F.zK #[.slice A1 n1 c1] w5 (cO fun v5 w6=>∃q4,∃x6,v5=(.tuple #[.pointer q4,iv x6])/\Calls P F.jT #[iv x3] w6 (cO fun v6 w7=>∃x7,v6=(iv x7)/\(x7≠x5->((kE K q3 p1 n2 A2 q2 q4 x1 x2 q1) true w7))/\(¬(x7≠x5)->(Calls P F.jT #[iv x4] w7 (cO fun v7 w9=>∃x8,v7=(iv x8)/\(x8≠x5->((kE K q3 p1 n2 A2 q2 q4 x1 x2 q1) true w9))/\(¬(x8≠x5)->(((decide (q1=none))≠(decide (q3=none))->((kE K q3 p1 n2 A2 q2 q4 x1 x2 q1) true w9))/\(¬((decide (q1=none))≠(decide (q3=none)))->((kE K q3 p1 n2 A2 q2 q4 x1 x2 q1) (decide ((decide (q2=none))≠(decide (q3=none)))) w9))))))))))))))
theorem Zm (A1:Option Addr) (n1 c1:Nat) (A2:Option Addr) (n2 c2:Nat) (x1:Int) (x2:Int) (K:Bool->World->Prop) (w:World) (H:Qc A1 n1 c1 A2 n2 c2 x1 x2 K w):Calls P F.qQ #[.slice A1 n1 c1,.slice A2 n2 c2,iv x1,iv x2] w (cO fun v w'=>∃b1,v=(.bool b1)/\K b1 w'):=by
 unfold Qc at H;refine bT (P:=P) Tryz.func7 rfl [(0,.slice A1 n1 c1),(1,.slice A2 n2 c2),(2,iv x1),(3,iv x2)] 111 rfl rfl (aa rfl (aa rfl (aa rfl (aa rfl az)))) (aG (aF (ag rfl (aH (nc (y4 0 1 2 3 rfl) (aG (aF (sv rfl rfl (xp (.agg #[.slice none 0 0,.slice none 0 0,.slice none 0 0,.slice none 0 0,.slice none 0 0,.slice none 0 0]) rfl) (iP (f:=(fun p=> .pointer (some p))) rfl rfl (aI rfl) (fun a ha=>uM (ha.ev rfl) uO) ?_)))))))));intro p1 w1 hN;replace H:=H _ _ hN;refine ag rfl (aH (nc (y5 0 1 2 3 9 rfl) (aG (aF (mv rfl (mv rfl (sc rfl rfl FF.Jw H ?_)))))));rintro _ w2 ⟨A3,n3,c3,rfl,H⟩;refine ag rfl (aH (nc (y6 0 1 2 3 9 10 rfl) (aG (aF (mv rfl (sc rfl rfl FF.Ob H ?_))))));rintro _ w3 ⟨q1,x3,rfl,H⟩;refine mv rfl (sv rfl rfl (xe rfl rfl) (sv rfl rfl (xe rfl rfl) (ag rfl (ag rfl (aH (nc (y8 0 1 2 3 9 10 11 12 rfl) (aG (aF (mv rfl (sc rfl rfl FF.Ob H ?_))))))))));rintro _ w4 ⟨q2,x4,rfl,H⟩;refine mv rfl (sv rfl rfl (xe rfl rfl) (sv rfl rfl (xe rfl rfl) (ag rfl (ag rfl (aH (nc (y9 0 1 2 3 9 11 12 13 14 rfl) (aG (aF (mv rfl (sc rfl rfl FF.Fq H ?_))))))))));rintro _ w5 ⟨q3,x5,rfl,H⟩;refine mv rfl (sv rfl rfl (xe rfl rfl) (sv rfl rfl (xe rfl rfl) (ag rfl (ag rfl (aH (nc (y11 0 1 2 3 9 11 12 13 14 15 16 rfl) (aG (aF (mv rfl (sc rfl rfl FF.Fq H ?_))))))))));rintro _ w6 ⟨q4,x6,rfl,H⟩;refine mv rfl (sv rfl rfl (xe rfl rfl) (sv rfl rfl (xe rfl rfl) (ag rfl (ag rfl (aH (nc (y11 1 2 3 9 11 12 13 14 15 16 17 rfl) (aG ?_)))))));refine fA (fun a w=>∃b2,Ok 111 [(1,.slice A2 n2 c2),(2,iv x1),(3,iv x2),(9,.pointer (some p1)),(11,.pointer q1),(13,.pointer q2),(15,.pointer q3),(17,.pointer q4),(70,.bool b2)] a/\kE K q3 p1 n2 A2 q2 q4 x1 x2 q1 b2 w) ?_ ?_
 ·rintro a w8 ⟨b2,ha,H⟩;unfold kE at H;refine cu ha ?_;refine eG rfl (fun hb=> ?_) (fun hb=> ?_)
  ·replace H:=H.1 hb;exact aG (aF (ag rfl (aH (nc (kp 8 rfl zz) (bK (aQ (aN (res1 rfl rfl) ⟨_,rfl,_,rfl,H⟩)))))))
  ·replace H:=H.2 hb;refine aX (nc (y8 1 2 3 9 11 13 15 17 rfl) (aG (aG (aF (mv rfl (bo rfl rfl (Wv TF.yB) (aH (nc (y9 1 2 3 9 11 13 15 17 72 rfl) ?_))))))));refine bC rfl (fun hb=> ?_) (fun hb=> ?_)
   ·replace H:=H.1 hb;refine aG (aF (mv rfl (sc rfl rfl FF.yH H ?_)));rintro _ w10 ⟨b3,rfl,H⟩;exact ag rfl (aH (nc (kp 8 rfl zz) (bK (aQ (aN (res1 rfl rfl) ⟨_,rfl,_,rfl,H⟩)))))
   ·replace H:=H.2 hb;refine aX (nc (y8 1 2 3 9 11 13 15 17 rfl) (aG (aG (aF (ag rfl (aH (nc (y9 1 2 3 9 11 13 15 17 19 rfl) (aY ?_))))))));obtain⟨I1,⟨k1,hi⟩,H⟩:=H;refine fK (fun k1 a w'=>∃x9,Ok 111 [(1,.slice A2 n2 c2),(2,iv x1),(3,iv x2),(9,.pointer (some p1)),(11,.pointer q1),(13,.pointer q2),(15,.pointer q3),(17,.pointer q4),(19,iv x9)] a/\I1 k1 x9 w') (fun a ha=>⟨k1,0,ha.weaken cs,hi⟩) ?_;rintro k1 a w11 ⟨x9,ha,hI⟩;replace H:=H k1 x9 w11 hI;refine cu ha ?_;refine aG (aG (aF (mv rfl (mv rfl (sv rfl rfl (xb rfl (fun _=>bW TF.Sj)) (bo rfl rfl iY (aH (nc (y10 1 2 3 9 11 13 15 17 19 78 rfl) ?_))))))));refine bC rfl (fun hb=> ?_) (fun hb=> ?_)
    ·replace H:=H.1 hb;refine aX (nc (y9 1 2 3 9 11 13 15 17 19 rfl) (aG (aY (aG (aF (mv rfl (mv rfl ?_)))))));obtain⟨h2,h3,a1,e1,H⟩:=H;refine ix rfl rfl (aU TF.Xl TF.jD e1 h2 h3) ?_;obtain⟨x10,b4,x11,x12,x13,h4,H⟩:=H;refine ld rfl (gW (vs:=[iv x10,.bool b4,iv x11,iv x12,iv x13]) TF.mP TF.jD h4) (iP (f:=(fun p=> .pointer (some p))) rfl rfl (aI rfl) (fun a ha=>mV (nC TF.aAj)) ?_);intro p2 w12 hN;obtain⟨h6,H⟩:=H _ _ hN;refine oO rfl (aI rfl) (xs rfl rfl (kN TF.jD (by simp[Value.oneCell']) h6)) ?_;intro w13 hw;replace H:=H _ hw;clear hw;refine aH (nc (y10 1 2 3 9 11 13 15 17 19 20 rfl) (aG (aF (ag rfl (aH (nc (y10 1 2 3 9 11 13 15 17 19 20 rfl) ?_))))));refine fA (fun a w=>∃b8,Ok 111 [(1,.slice A2 n2 c2),(2,iv x1),(3,iv x2),(9,.pointer (some p1)),(11,.pointer q1),(13,.pointer q2),(15,.pointer q3),(17,.pointer q4),(19,iv x9),(20,.pointer (some p2)),(21,.bool b8)] a/\pO p2 x1 K k1 I1 x9 x2 b8 w) ?_ ?_
     ·rintro a w15 ⟨b8,ha,H⟩;unfold pO at H;refine cu ha ?_;refine fM (fun a=>∃b11,Ok 111 [(1,.slice A2 n2 c2),(2,iv x1),(3,iv x2),(9,.pointer (some p1)),(11,.pointer q1),(13,.pointer q2),(15,.pointer q3),(17,.pointer q4),(19,iv x9),(108,.bool b11)] a/\pJ K w15 k1 I1 x9 b11) ?_ ?_
      ·rintro a ⟨b11,ha,H⟩;unfold pJ at H;refine cu ha ?_;refine eG rfl (fun hb=> ?_) (fun hb=> ?_)
       ·replace H:=H.1 hb;exact aG (aF (ag rfl (aH (nc (kp 8 rfl zz) (bK (bF (aQ (aQ (bF (aQ (aN (res1 rfl rfl) ⟨_,rfl,_,rfl,H⟩)))))))))))
       ·replace H:=H.2 hb;refine aX (bZ (nc (y9 1 2 3 9 11 13 15 17 19 rfl) (aF (mv rfl (bo rfl rfl kC (ag rfl (aH ?_)))))));obtain⟨k2,hk,H⟩:=H;exact bD fun a ha=>⟨k2,hk,IntKind.wrap .i64 (x9+1),ha.weaken cs,H⟩
      ·refine aF (mv rfl (sv rfl rfl (xu rfl sK) ?_));rcases tf (!b8) with hb|hb
       ·replace H:=H.1 hb;refine sv rfl rfl (fun a ha=>aGb (iC (ha.ev rfl)) hb) (Zu rfl rfl rfl (TF.fV _ _) ?_);obtain⟨x22,h10,H⟩:=H;refine Qo rfl rfl rfl (aJ TF.aP h10) (Bv rfl rfl rfl (Qh rfl rfl rfl rfl Kq (pt rfl rfl ?_)));rcases Classical.em (x1<=x22) with hb|hb
        ·replace H:=H.1 hb;refine sv rfl rfl (xt rfl hb) (Zu rfl rfl rfl (TF.fV _ _) ?_);obtain⟨x23,h11,H⟩:=H;exact Qo rfl rfl rfl (aJ TF.aP h11) (Bv rfl rfl rfl (Qh rfl rfl rfl rfl aIt (pt rfl rfl (aH (bD fun a ha=>⟨⟨(decide (x23<=x2)),ha.weaken cs,H⟩,rfl⟩)))))
        ·replace H:=H.2 hb;exact sv rfl rfl (xf rfl hb) (sk rfl rfl rfl rfl (sk rfl rfl rfl rfl (sk rfl rfl rfl rfl (sk rfl rfl rfl rfl (pf rfl rfl (aH (bD fun a ha=>⟨⟨false,ha.weaken cs,H⟩,rfl⟩)))))))
       ·replace H:=H.2 hb;exact sv rfl rfl (fun a ha=>aGk (iC (ha.ev rfl)) hb) (sk rfl rfl rfl rfl (sk rfl rfl rfl rfl (sk rfl rfl rfl rfl (sk rfl rfl rfl rfl (pf rfl rfl (mv rfl (sk rfl rfl rfl rfl (sk rfl rfl rfl rfl (sk rfl rfl rfl rfl (sk rfl rfl rfl rfl (pf rfl rfl (aH (bD fun a ha=>⟨⟨false,ha.weaken cs,H⟩,rfl⟩)))))))))))))
     ·refine aG (aF (fa rfl (TF.Zj _ _) ?_));obtain⟨b5,h7,H⟩:=H;refine ld rfl (aJ TF.Ah h7) (aH (nc (y11 1 2 3 9 11 13 15 17 19 20 86 rfl) ?_));refine eG rfl (fun hb=> ?_) (fun hb=> ?_)
      ·replace H:=H.1 hb;refine aF ?_;obtain⟨x14,b6,x15,x16,x17,h8,H⟩:=H;refine ld rfl (gW (vs:=[iv x14,.bool b6,iv x15,iv x16,iv x17]) TF.mP TF.jD h8) (mv rfl (mv rfl (sc rfl rfl FF.Dq H ?_)));rintro _ w14 ⟨b7,rfl,H⟩;exact ag rfl (aH (bD fun a ha=>⟨b7,ha.weaken cs,H⟩))
      ·replace H:=H.2 hb;refine aF ?_;obtain⟨x18,b9,x19,x20,x21,h9,H⟩:=H;refine ld rfl (gW (vs:=[iv x18,.bool b9,iv x19,iv x20,iv x21]) TF.mP TF.jD h9) (mv rfl (mv rfl (sc rfl rfl FF.Dq H ?_)));rintro _ w16 ⟨b10,rfl,H⟩;exact ag rfl (aH (bD fun a ha=>⟨b10,ha.weaken cs,H⟩))
    ·replace H:=H.2 hb;refine eU (aT (aT (bQ (nc (kp 9 rfl zz) (aG (aF (mv rfl (sc rfl rfl FF.yH H ?_))))))));rintro _ w17 ⟨b12,rfl,H⟩;exact ag rfl (aH (nc (kp 8 rfl zz) (bK (aN (res1 rfl rfl) ⟨_,rfl,_,rfl,H⟩))))
 ·refine aF (mv rfl (sc rfl rfl FF.gY H ?_));rintro _ w7 ⟨x7,rfl,H⟩;refine mv rfl (bo rfl rfl qR ?_);rcases Classical.em (x7≠x5) with hb|hb
  ·replace H:=H.1 hb;exact sv rfl rfl (xt rfl hb) (sk rfl rfl rfl rfl (sk rfl rfl rfl rfl (sk rfl rfl rfl rfl (sk rfl rfl rfl rfl (pt rfl rfl (mv rfl (sk rfl rfl rfl rfl (sk rfl rfl rfl rfl (sk rfl rfl rfl rfl (sk rfl rfl rfl rfl (sk rfl rfl rfl rfl (pt rfl rfl (mv rfl (sk rfl rfl rfl rfl (sk rfl rfl rfl rfl (sk rfl rfl rfl rfl (sk rfl rfl rfl rfl (sk rfl rfl rfl rfl (pt rfl rfl (aH (bD fun a ha=>⟨true,ha.weaken cs,H⟩)))))))))))))))))))))
  ·replace H:=H.2 hb;refine sv rfl rfl (xf rfl hb) (Bv rfl rfl rfl (Eu rfl rfl (dW rfl rfl rfl) (xc rfl rfl FF.gY) H ?_));rintro _ w9 ⟨x8,rfl,H⟩;refine Bv rfl rfl rfl (Qh rfl rfl rfl rfl qR (pf rfl rfl ?_));rcases Classical.em (x8≠x5) with hb|hb
   ·replace H:=H.1 hb;exact sv rfl rfl (xt rfl hb) (sk rfl rfl rfl rfl (sk rfl rfl rfl rfl (sk rfl rfl rfl rfl (sk rfl rfl rfl rfl (sk rfl rfl rfl rfl (pt rfl rfl (mv rfl (sk rfl rfl rfl rfl (sk rfl rfl rfl rfl (sk rfl rfl rfl rfl (sk rfl rfl rfl rfl (sk rfl rfl rfl rfl (pt rfl rfl (aH (bD fun a ha=>⟨true,ha.weaken cs,H⟩)))))))))))))))
   ·replace H:=H.2 hb;refine sv rfl rfl (xf rfl hb) (Bv rfl rfl rfl (Qh rfl rfl rfl rfl (Wv TF.Yv) (Bv rfl rfl rfl (Qh rfl rfl rfl rfl (Wv TF.yB) (Qh rfl rfl rfl rfl (aFo TF.Wh) (pf rfl rfl ?_))))));rcases Classical.em ((decide (q1=none))≠(decide (q3=none))) with hb|hb
    ·replace H:=H.1 hb;exact sv rfl rfl (xt rfl hb) (sk rfl rfl rfl rfl (sk rfl rfl rfl rfl (sk rfl rfl rfl rfl (sk rfl rfl rfl rfl (sk rfl rfl rfl rfl (pt rfl rfl (aH (bD fun a ha=>⟨true,ha.weaken cs,H⟩))))))))
    ·replace H:=H.2 hb;exact sv rfl rfl (xf rfl hb) (Bv rfl rfl rfl (Qh rfl rfl rfl rfl (Wv TF.Yv) (Bv rfl rfl rfl (Qh rfl rfl rfl rfl (Wv TF.yB) (Qh rfl rfl rfl rfl (aFo TF.Wh) (pf rfl rfl (aH (bD fun a ha=>⟨(decide ((decide (q2=none))≠(decide (q3=none)))),ha.weaken cs,H⟩))))))))
def Hu (A1:Option Addr) (n1 c1:Nat) (A2:Option Addr) (n2 c2:Nat) (K:Bool->World->Prop) (w:World):Prop:=
 Calls P F.qQ #[.slice A1 n1 c1,.slice A2 n2 c2,iv 5,iv 8] w (cO fun v1 w1=>∃b2,v1=(.bool b2)/\K b2 w1)
theorem Vr (A1:Option Addr) (n1 c1:Nat) (A2:Option Addr) (n2 c2:Nat) (K:Bool->World->Prop) (w:World) (H:Hu A1 n1 c1 A2 n2 c2 K w):Calls P F.Nq #[.slice A1 n1 c1,.slice A2 n2 c2] w (cO fun v w'=>∃b1,v=(.bool b1)/\K b1 w'):=by
 unfold Hu at H;refine bT (P:=P) Tryz.func3 rfl [(0,.slice A1 n1 c1),(1,.slice A2 n2 c2)] 8 rfl rfl (aa rfl (aa rfl az)) (aG (aF (ag rfl (aH (nc (y2 0 1 rfl) (aG (aF (mv rfl (mv rfl (sc rfl rfl FF.qO H ?_))))))))));rintro _ w1 ⟨b2,rfl,H⟩;exact ag rfl (aH (nc (kp 4 rfl zz) (bK (aN (res1 rfl rfl) ⟨_,rfl,_,rfl,H⟩))))
def Iy (A1:Option Addr) (n1 c1:Nat) (A2:Option Addr) (n2 c2:Nat) (K:Bool->World->Prop) (w:World):Prop:=
 Calls P F.qQ #[.slice A1 n1 c1,.slice A2 n2 c2,iv 9,iv 11] w (cO fun v1 w1=>∃b2,v1=(.bool b2)/\K b2 w1)
theorem Wl (A1:Option Addr) (n1 c1:Nat) (A2:Option Addr) (n2 c2:Nat) (K:Bool->World->Prop) (w:World) (H:Iy A1 n1 c1 A2 n2 c2 K w):Calls P F.Pg #[.slice A1 n1 c1,.slice A2 n2 c2] w (cO fun v w'=>∃b1,v=(.bool b1)/\K b1 w'):=by
 unfold Iy at H;refine bT (P:=P) Tryz.func4 rfl [(0,.slice A1 n1 c1),(1,.slice A2 n2 c2)] 8 rfl rfl (aa rfl (aa rfl az)) (aG (aF (ag rfl (aH (nc (y2 0 1 rfl) (aG (aF (mv rfl (mv rfl (sc rfl rfl FF.qO H ?_))))))))));rintro _ w1 ⟨b2,rfl,H⟩;exact ag rfl (aH (nc (kp 4 rfl zz) (bK (aN (res1 rfl rfl) ⟨_,rfl,_,rfl,H⟩))))
def Fg (A1:Option Addr) (n1 c1:Nat) (A2:Option Addr) (n2 c2:Nat) (K:Bool->World->Prop) (w:World):Prop:=
 Calls P F.qQ #[.slice A1 n1 c1,.slice A2 n2 c2,iv 12,iv 12] w (cO fun v1 w1=>∃b2,v1=(.bool b2)/\K b2 w1)
theorem Ux (A1:Option Addr) (n1 c1:Nat) (A2:Option Addr) (n2 c2:Nat) (K:Bool->World->Prop) (w:World) (H:Fg A1 n1 c1 A2 n2 c2 K w):Calls P F.Lu #[.slice A1 n1 c1,.slice A2 n2 c2] w (cO fun v w'=>∃b1,v=(.bool b1)/\K b1 w'):=by
 unfold Fg at H;refine bT (P:=P) Tryz.func5 rfl [(0,.slice A1 n1 c1),(1,.slice A2 n2 c2)] 8 rfl rfl (aa rfl (aa rfl az)) (aG (aF (ag rfl (aH (nc (y2 0 1 rfl) (aG (aF (mv rfl (mv rfl (sc rfl rfl FF.qO H ?_))))))))));rintro _ w1 ⟨b2,rfl,H⟩;exact ag rfl (aH (nc (kp 4 rfl zz) (bK (aN (res1 rfl rfl) ⟨_,rfl,_,rfl,H⟩))))
def Ho (A1:Option Addr) (n1 c1:Nat) (A2:Option Addr) (n2 c2:Nat) (K:Bool->World->Prop) (w:World):Prop:=
 Calls P F.qQ #[.slice A1 n1 c1,.slice A2 n2 c2,iv 1,iv 12] w (cO fun v1 w1=>∃b2,v1=(.bool b2)/\K b2 w1)
theorem Vw (A1:Option Addr) (n1 c1:Nat) (A2:Option Addr) (n2 c2:Nat) (K:Bool->World->Prop) (w:World) (H:Ho A1 n1 c1 A2 n2 c2 K w):Calls P F.Nl #[.slice A1 n1 c1,.slice A2 n2 c2] w (cO fun v w'=>∃b1,v=(.bool b1)/\K b1 w'):=by
 unfold Ho at H;refine bT (P:=P) Tryz.func6 rfl [(0,.slice A1 n1 c1),(1,.slice A2 n2 c2)] 8 rfl rfl (aa rfl (aa rfl az)) (aG (aF (ag rfl (aH (nc (y2 0 1 rfl) (aG (aF (mv rfl (mv rfl (sc rfl rfl FF.qO H ?_))))))))));rintro _ w1 ⟨b2,rfl,H⟩;exact ag rfl (aH (nc (kp 4 rfl zz) (bK (aN (res1 rfl rfl) ⟨_,rfl,_,rfl,H⟩))))
def P2 (W0 B0:Nat) (w:World) (p q:Addr) (fs:List Flat) (Y:Nat->Prop) (st1:List dK) (ms1:List Int) (st2:List dK) (ms2:List Int):Prop:=
 ∃Zg H Zr,vH W0 B0 w p fs Zg H st1 ms1/\xP B0 w q fs Zr st2 ms2/\(∀b,Zg b->¬Zr b)/\∀b,Y b↔(Zg b\/Zr b)
section
variable {W0 B0:Nat} {w w':World} {p q:Addr} {fs:List Flat} {Y:Nat->Prop} {st st1 st2:List dK} {ms ms1 ms2:List Int} {a b t:Int}
theorem P2.bd (h:P2 W0 B0 w p q fs Y st1 ms1 st2 ms2):∀b,Y b->B0<=b/\b<w.heap.size:=by
 obtain⟨Zg,H,Zr,h1,h2,h3,h4⟩:=h
 intro b hb
 exact((h4 b).1 hb).elim (h1.FB b) (h2.ZB b)
theorem P2.off {X:Nat->Prop} (h:P2 W0 B0 w p q fs Y st1 ms1 st2 ms2) (k:Keep X w w') (hX:∀b,b<w.heap.size->X b->¬Y b/\B0<=b):P2 W0 B0 w' p q fs Y st1 ms1 st2 ms2:=by
 obtain⟨Zg,H,Zr,h1,h2,h3,h4⟩:=h
 exact⟨Zg,H,Zr,h1.off k fun b hb hx=>⟨fun hz=>(hX b hb hx).1 ((h4 b).2 (.inl hz)),(hX b hb hx).2⟩,h2.off k fun b hb hx hz=>(hX b hb hx).1 ((h4 b).2 (.inr hz)),h3,h4⟩
theorem P2.stay (h:P2 W0 B0 w p q fs Y st1 ms1 st2 ms2) (k:Ext w w'):P2 W0 B0 w' p q fs Y st1 ms1 st2 ms2:=h.off k fun _ _ h=>h.elim
theorem P2.aHk {Zg Zr H H':Nat->Prop} (h1:vH W0 B0 w p fs Zg H st ms) (h2:xP B0 w q fs Zr st2 ms2) (h3:∀b,Zg b->¬Zr b) (h4:∀b,Y b↔(Zg b\/Zr b)) (iI:dU H w H' w') (h:vH W0 B0 w' p fs (FN Zg w w') H' st1 ms1):
  ∃Y',dU Y w Y' w'/\P2 W0 B0 w' p q fs Y' st1 ms1 st2 ms2:=by
 refine⟨fun b=>FN Zg w w' b\/Zr b,⟨iI.keep.mono fun i _ hi=>(h4 i).2 (.inl (h1.HF i hi)),fun i hi hh=>(h4 i).2 ?_⟩,FN Zg w w',H',Zr,h,h2.off iI.keep fun b _ hb=>h3 b (h1.HF b hb),fun b hb hz=> ?_,fun b=> .rfl⟩
 ·rcases hh with(hh|hh)|hh
  ·exact .inl hh
  ·omega
  ·exact .inr hh
 ·rcases hb with hb|hb
  ·exact h3 b hb hz
  ·have:=(h2.ZB b hz).2
   omega
theorem P2.aLk {Zg Zr H:Nat->Prop} (h1:vH W0 B0 w p fs Zg H st1 ms1) (h2:xP B0 w q fs Zr st ms) (h3:∀b,Zg b->¬Zr b) (h4:∀b,Y b↔(Zg b\/Zr b)) (kp:Keep Zr w w') (h:xP B0 w' q fs (FN Zr w w') st2 ms2):
  ∃Y',dU Y w Y' w'/\P2 W0 B0 w' p q fs Y' st1 ms1 st2 ms2:=by
 refine⟨fun b=>Zg b\/FN Zr w w' b,⟨kp.mono fun i _ hi=>(h4 i).2 (.inr hi),fun i hi hh=>(h4 i).2 ?_⟩,Zg,H,FN Zr w w',h1.off kp fun b _ hb=>⟨fun hz=>h3 b hz hb,(h2.ZB b hb).1⟩,h,fun b hb hz=> ?_,fun b=> .rfl⟩
 ·rcases hh with hh|hh|hh
  ·exact .inl hh
  ·exact .inr hh
  ·omega
 ·rcases hz with hz|hz
  ·exact h3 b hb hz
  ·have:=(h1.FB b hb).2
   omega
theorem P2.equal (h:P2 W0 B0 w p q fs Y st1 ms1 st2 ms2) (hs:st1.length<=1048576):
  Calls P F.rD #[.pointer (some p),iv a,iv b,iv t] w (cO fun v w'=>∃e:Int,v= iv e/\∃Y',dU Y w Y' w'/\
   ((¬Aa fs a b/\e=80/\P2 W0 B0 w' p q fs Y' st1 ms1 st2 ms2)\/(Aa fs a b/\e=0/\P2 W0 B0 w' p q fs Y' (st1++[⟨a,b,t,false⟩]) ms1 st2 ms2))):=by
 obtain⟨Zg,H,Zr,h1,h2,h3,h4⟩:=h
 refine cO.mono (h1.equal hs) ?_
 rintro v w' ⟨e,rfl,H',iI,⟨k1,rfl,k⟩|⟨k1,rfl,k⟩⟩
 ·obtain⟨Y',a1,a2⟩:=P2.aHk h1 h2 h3 h4 iI k
  exact⟨_,rfl,Y',a1,.inl ⟨k1,rfl,a2⟩⟩
 ·obtain⟨Y',a1,a2⟩:=P2.aHk h1 h2 h3 h4 iI k
  exact⟨_,rfl,Y',a1,.inr ⟨k1,rfl,a2⟩⟩
theorem P2.differ (h:P2 W0 B0 w p q fs Y st1 ms1 st2 ms2) (hs:st1.length<=1048576):
  Calls P F.oV #[.pointer (some p),iv a,iv b,iv t] w (cO fun v w'=>∃e:Int,v= iv e/\∃Y',dU Y w Y' w'/\
   ((¬Aa fs a b/\e=80/\P2 W0 B0 w' p q fs Y' st1 ms1 st2 ms2)\/(Aa fs a b/\e=0/\P2 W0 B0 w' p q fs Y' (st1++[⟨a,b,t,true⟩]) ms1 st2 ms2))):=by
 obtain⟨Zg,H,Zr,h1,h2,h3,h4⟩:=h
 refine cO.mono (h1.differ hs) ?_
 rintro v w' ⟨e,rfl,H',iI,⟨k1,rfl,k⟩|⟨k1,rfl,k⟩⟩
 ·obtain⟨Y',a1,a2⟩:=P2.aHk h1 h2 h3 h4 iI k
  exact⟨_,rfl,Y',a1,.inl ⟨k1,rfl,a2⟩⟩
 ·obtain⟨Y',a1,a2⟩:=P2.aHk h1 h2 h3 h4 iI k
  exact⟨_,rfl,Y',a1,.inr ⟨k1,rfl,a2⟩⟩
theorem P2.push (h:P2 W0 B0 w p q fs Y st1 ms1 st2 ms2) (hm:ms1.length<=1048576):
  Calls P F.wH #[.pointer (some p)] w (cO fun v w'=>v= .tuple #[]/\∃Y',dU Y w Y' w'/\P2 W0 B0 w' p q fs Y' st1 (ms1++[(st1.length:Int)]) st2 ms2):=by
 obtain⟨Zg,H,Zr,h1,h2,h3,h4⟩:=h
 refine cO.mono (h1.push hm) ?_
 rintro v w' ⟨rfl,H',iI,k⟩
 exact⟨rfl,P2.aHk h1 h2 h3 h4 iI k⟩
theorem P2.pop {k:Int} (h:P2 W0 B0 w p q fs Y st1 ms1 st2 ms2) (hs:st1.length<=1048576) (hm:ms1.length<=1048576) (hk:I64 k):
  Calls P F.yD #[.pointer (some p),iv k] w (cO fun v w'=>∃e:Int,v= iv e/\((k<0\/ms1.length<k)/\e=81\/¬(k<0\/ms1.length<k)/\e=0)/\∃Y',dU Y w Y' w'/\P2 W0 B0 w' p q fs Y' (Ji st1 ms1 k).1 (Ji st1 ms1 k).2 st2 ms2):=by
 obtain⟨Zg,H,Zr,h1,h2,h3,h4⟩:=h
 refine cO.mono (h1.pop hs hm hk) ?_
 rintro v w' ⟨e,rfl,H',iI,he,k⟩
 exact⟨_,rfl,he,P2.aHk h1 h2 h3 h4 iI k⟩
theorem P2.say {x:Bool} (h:P2 W0 B0 w p q fs Y st1 ms1 st2 ms2) (hs:st2.length<=1048576):
  Calls P F.mM #[.pointer (some q),.bool x,iv a,iv b,iv t] w (cO fun v w'=>∃e:Int,v= iv e/\∃Y',dU Y w Y' w'/\
   ((¬Aa fs a b/\e=80/\P2 W0 B0 w' p q fs Y' st1 ms1 st2 ms2)\/(Aa fs a b/\e=0/\P2 W0 B0 w' p q fs Y' st1 ms1 (st2++[⟨a,b,t,x⟩]) ms2))):=by
 obtain⟨Zg,H,Zr,h1,h2,h3,h4⟩:=h
 refine cO.mono (aKe h2 hs) ?_
 rintro v w' ⟨e,rfl,kp,⟨k1,rfl,k⟩|⟨k1,rfl,k⟩⟩
 ·obtain⟨Y',a1,a2⟩:=P2.aLk h1 h2 h3 h4 kp k
  exact⟨_,rfl,Y',a1,.inl ⟨k1,rfl,a2⟩⟩
 ·obtain⟨Y',a1,a2⟩:=P2.aLk h1 h2 h3 h4 kp k
  exact⟨_,rfl,Y',a1,.inr ⟨k1,rfl,a2⟩⟩
theorem P2.aRt (h:P2 W0 B0 w p q fs Y st1 ms1 st2 ms2) (hm:ms2.length<=1048576):
  Calls P F.pV #[.pointer (some q)] w (cO fun v w'=>v= .tuple #[]/\∃Y',dU Y w Y' w'/\P2 W0 B0 w' p q fs Y' st1 ms1 st2 (ms2++[(st2.length:Int)])):=by
 obtain⟨Zg,H,Zr,h1,h2,h3,h4⟩:=h
 refine cO.mono (aJk h2 hm) ?_
 rintro v w' ⟨rfl,kp,k⟩
 exact⟨rfl,P2.aLk h1 h2 h3 h4 kp k⟩
theorem P2.aSc {k:Int} (h:P2 W0 B0 w p q fs Y st1 ms1 st2 ms2) (hm:ms2.length<=1048576) (hk:I64 k) (ok:aEs (st2,ms2)):
  Calls P F.qK #[.pointer (some q),iv k] w (cO fun v w'=>∃e:Int,v= iv e/\((k<0\/ms2.length<k)/\e=81\/¬(k<0\/ms2.length<k)/\e=0)/\∃Y',dU Y w Y' w'/\P2 W0 B0 w' p q fs Y' st1 ms1 (Ji st2 ms2 k).1 (Ji st2 ms2 k).2):=by
 obtain⟨Zg,H,Zr,h1,h2,h3,h4⟩:=h
 refine cO.mono (aKc h2 hm hk ok) ?_
 rintro v w' ⟨e,rfl,he,kp,k⟩
 exact⟨_,rfl,he,P2.aLk h1 h2 h3 h4 kp k⟩
theorem P2.live (h:P2 W0 B0 w p q fs Y st1 ms1 st2 ms2):∃H,Live W0 B0 w p fs H st1 ms1:=by
 obtain⟨Zg,H,Zr,h1,_⟩:=h
 exact⟨H,h1.live⟩
theorem P2.ref (h:P2 W0 B0 w p q fs Y st1 ms1 st2 ms2):∃Z,xP B0 w q fs Z st2 ms2:=by
 obtain⟨Zg,H,Zr,_,h2,_⟩:=h
 exact⟨Zr,h2⟩
theorem P2.cells {p1:Addr} {vs:List Value} {Y':Nat->Prop} (iI:dU Y w Y' w') (hp:¬Y p1.block) (hc:bG w p1 vs):bG w' p1 vs:=iI.keep.own hc hp
theorem aPt {o:OpR} (h:P2 W0 B0 w p q fs Y st ms st ms) (hs:st.length<=1048575) (hm:ms.length<=1048575) (ok:aEs (st,ms)) (hk:I64 o.a):
  Calls P F.Ci #[.agg #[iv o.kind,.bool o.second,iv o.a,iv o.b,iv o.tag],.pointer (some p),.pointer (some q)] w (cO fun v w'=>v= .bool true/\∃Y',dU Y w Y' w'/\P2 W0 B0 w' p q fs Y' (stepS fs (st,ms) o).1 (stepS fs (st,ms) o).2 (stepS fs (st,ms) o).1 (stepS fs (st,ms) o).2):=by
 refine cO.mono (aAm o.kind o.second o.a o.b o.tag (some p) (some q) (fun v w'=>v=true/\∃Y',dU Y w Y' w'/\P2 W0 B0 w' p q fs Y' (stepS fs (st,ms) o).1 (stepS fs (st,ms) o).2 (stepS fs (st,ms) o).1 (stepS fs (st,ms) o).2) w ?_) (by rintro _ w' ⟨b,rfl,rfl,h⟩;exact⟨rfl,h⟩)
 intro p1 w1 hN
 have E1:=Ext.eY hN
 have h1:=h.stay E1
 have c1:bG w1 p1 [iv o.kind,.bool o.second,iv o.a,iv o.b,iv o.tag]:=hN.cells rfl
 have hp:¬Y p1.block:=fun hy=>by have:=(h.bd _ hy).2;have:=hN.block;omega
 have A1:dU Y w Y w1:=dU.iL E1
 have nf:∀o,¬(fun _=>False:Nat->Prop) (p1.add o).block:=fun _ h=>h
 refine⟨o.kind,c1 0 _ rfl,fun k1=> ?_,fun k1=>⟨fun k2=> ?_,fun k2=>⟨fun k3=> ?_,fun k3=>⟨fun k4=> ?_,fun k4=> ?_⟩⟩⟩⟩
 ·refine⟨_,c1 2 _ rfl,_,c1 3 _ rfl,_,c1 4 _ rfl,(h1.equal (a:=o.a) (b:=o.b) (t:=o.tag) (by omega)).mono ?_⟩
  rintro _ w2 ⟨_,rfl,e,rfl,Y2,A2,hh⟩
  have c2:=P2.cells A2 hp c1
  refine⟨_,rfl,e,rfl,fun _=>False,_,c2 2 _ rfl,nf 2,_,c2 3 _ rfl,nf 3,_,c2 4 _ rfl,nf 4,fun w4 hw4=>(yX e).mono ?_⟩
  rintro _ w3 ⟨_,rfl,rfl,rfl⟩
  refine⟨_,rfl,e,rfl,Ext.aK hw4,fun w7 hw7=> ?_⟩
  have E7:=(Ext.aK hw4).drawn hw7
  rcases hh with⟨q1,rfl,q2⟩|⟨q1,rfl,q2⟩
  ·have es:stepS fs (st,ms) o=(st,ms):=by unfold stepS;rw[if_neg (fun q=>q1 q.2),if_neg (by omega),if_neg (by omega)]
   refine((q2.stay E7).say (by omega)).mono ?_
   rintro _ w6 ⟨_,rfl,e',rfl,Y6,A6,⟨_,rfl,q3⟩|⟨q4,_⟩⟩
   ·rw[es]
    exact⟨_,rfl,80,rfl,fun w9 hw9=>⟨by simp,Y6,((A1.trans A2).trans ((dU.iL E7).trans A6)).trans (dU.aK hw9),q3.stay (Ext.aK hw9)⟩⟩
   ·exact absurd q4 q1
  ·have es:stepS fs (st,ms) o=(st++[⟨o.a,o.b,o.tag,false⟩],ms):=by unfold stepS;rw[if_pos ⟨.inl k1,q1⟩,decide_eq_false (by omega)]
   refine((q2.stay E7).say (by omega)).mono ?_
   rintro _ w6 ⟨_,rfl,e',rfl,Y6,A6,⟨q4,_⟩|⟨_,rfl,q3⟩⟩
   ·exact absurd q1 q4
   ·rw[es]
    exact⟨_,rfl,0,rfl,fun w9 hw9=>⟨by simp,Y6,((A1.trans A2).trans ((dU.iL E7).trans A6)).trans (dU.aK hw9),q3.stay (Ext.aK hw9)⟩⟩
 ·refine⟨_,c1 2 _ rfl,_,c1 3 _ rfl,_,c1 4 _ rfl,(h1.differ (a:=o.a) (b:=o.b) (t:=o.tag) (by omega)).mono ?_⟩
  rintro _ w2 ⟨_,rfl,e,rfl,Y2,A2,hh⟩
  have c2:=P2.cells A2 hp c1
  refine⟨_,rfl,e,rfl,fun _=>False,_,c2 2 _ rfl,nf 2,_,c2 3 _ rfl,nf 3,_,c2 4 _ rfl,nf 4,fun w4 hw4=>(yX e).mono ?_⟩
  rintro _ w3 ⟨_,rfl,rfl,rfl⟩
  refine⟨_,rfl,e,rfl,Ext.aK hw4,fun w7 hw7=> ?_⟩
  have E7:=(Ext.aK hw4).drawn hw7
  rcases hh with⟨q1,rfl,q2⟩|⟨q1,rfl,q2⟩
  ·have es:stepS fs (st,ms) o=(st,ms):=by unfold stepS;rw[if_neg (fun q=>q1 q.2),if_neg (by omega),if_neg (by omega)]
   refine((q2.stay E7).say (by omega)).mono ?_
   rintro _ w6 ⟨_,rfl,e',rfl,Y6,A6,⟨_,rfl,q3⟩|⟨q4,_⟩⟩
   ·rw[es]
    exact⟨_,rfl,80,rfl,fun w9 hw9=>⟨by simp,Y6,((A1.trans A2).trans ((dU.iL E7).trans A6)).trans (dU.aK hw9),q3.stay (Ext.aK hw9)⟩⟩
   ·exact absurd q4 q1
  ·have es:stepS fs (st,ms) o=(st++[⟨o.a,o.b,o.tag,true⟩],ms):=by unfold stepS;rw[if_pos ⟨.inr k2,q1⟩,decide_eq_true k2]
   refine((q2.stay E7).say (by omega)).mono ?_
   rintro _ w6 ⟨_,rfl,e',rfl,Y6,A6,⟨q4,_⟩|⟨_,rfl,q3⟩⟩
   ·exact absurd q1 q4
   ·rw[es]
    exact⟨_,rfl,0,rfl,fun w9 hw9=>⟨by simp,Y6,((A1.trans A2).trans ((dU.iL E7).trans A6)).trans (dU.aK hw9),q3.stay (Ext.aK hw9)⟩⟩
 ·have es:stepS fs (st,ms) o=(st,ms++[(st.length:Int)]):=by unfold stepS;rw[if_neg (fun q=>q.1.elim k1 k2),if_pos k3]
  refine(h1.push (by omega)).mono ?_
  rintro _ w2 ⟨_,rfl,rfl,Y2,A2,h2⟩
  refine⟨_,rfl,rfl,(h2.aRt (by omega)).mono ?_⟩
  rintro _ w3 ⟨_,rfl,rfl,Y3,A3,h3⟩
  rw[es]
  exact⟨_,rfl,rfl,rfl,Y3,(A1.trans A2).trans A3,h3⟩
 ·have es:stepS fs (st,ms) o=Ji st ms o.a:=by unfold stepS;rw[if_neg (fun q=>q.1.elim k1 k2),if_neg k3,if_pos k4]
  refine⟨_,c1 2 _ rfl,(h1.pop (k:=o.a) (by omega) (by omega) hk).mono ?_⟩
  rintro _ w2 ⟨_,rfl,e,rfl,he,Y2,A2,h2⟩
  have c2:=P2.cells A2 hp c1
  refine⟨_,rfl,e,rfl,fun _=>False,_,c2 2 _ rfl,nf 2,fun w4 hw4=>(yX e).mono ?_⟩
  rintro _ w3 ⟨_,rfl,rfl,rfl⟩
  refine⟨_,rfl,e,rfl,Ext.aK hw4,fun w7 hw7=> ?_⟩
  have E7:=(Ext.aK hw4).drawn hw7
  refine((h2.stay E7).aSc (by omega) hk ok).mono ?_
  rintro _ w6 ⟨_,rfl,e',rfl,he',Y6,A6,h6⟩
  have ee:e=e':=by rcases he with⟨a1,a2⟩|⟨a1,a2⟩<;>rcases he' with⟨b1,b2⟩|⟨b1,b2⟩<;>omega
  subst ee
  rw[es]
  exact⟨_,rfl,e,rfl,fun w9 hw9=>⟨by simp,Y6,((A1.trans A2).trans ((dU.iL E7).trans A6)).trans (dU.aK hw9),h6.stay (Ext.aK hw9)⟩⟩
 ·have es:stepS fs (st,ms) o=(st,ms):=by unfold stepS;rw[if_neg (fun q=>q.1.elim k1 k2),if_neg k3,if_neg k4]
  rw[es]
  exact⟨rfl,Y,A1,h1⟩
end
theorem Bare.iff {P Q:List Int->Prop} {l:List Int} (h:Bare P l) (k:∀t,P t↔Q t):Bare Q l:=⟨h.rise,(k _).1 h.holds,fun j hj hq=>h.least j hj ((k _).2 hq)⟩
theorem aIi:∀{out L:List Int},out.Pairwise (·<·)->(∀x∈out,x∈L)->out.length<=L.length
 |[],_,_,_=>Nat.zero_le _
 |x::xs,L,h,k=>by
  have hx:=k x (by simp)
  have h':=List.pairwise_cons.1 h
  have:=aIi (out:=xs) (L:=L.erase x) h'.2 fun y hy=>(List.mem_erase_of_ne (by have:=h'.1 y hy;omega)).2 (k y (by simp[hy]))
  rw[List.length_erase_of_mem hx] at this
  have hpos:0<L.length:=List.length_pos_of_mem hx
  simp only[List.length_cons]
  omega
theorem Bare.few {st:List dK} {P:List dK->Prop} {out:List Int} (h:Bare (fun t=>P (pick st t)) out):out.length<=st.length:=by
 have hm:∀x∈out,x∈st.map dK.tag:=fun x hx=>by
  obtain⟨j,hj⟩:=List.mem_iff_getElem?.1 hx
  refine Classical.byContradiction fun hn=>h.least j (List.getElem?_eq_some_iff.1 hj).1 ?_
  have e:pick st (out.eraseIdx j)=pick st out:=by
   unfold pick
   refine List.filter_congr fun s hs=> ?_
   refine decide_eq_decide.2 ⟨fun q=>List.mem_of_mem_eraseIdx q,fun q=> ?_⟩
   obtain⟨i,hi⟩:=List.mem_iff_getElem?.1 q
   refine List.mem_eraseIdx_iff_getElem?.2 ⟨i,fun e=>hn (List.mem_map.2 ⟨s,hs,?_⟩),hi⟩
   rw[e,hj] at hi
   exact(Option.some.inj hi).symm
  rw[e]
  exact h.holds
 have:=aIi h.rise hm
 rwa [List.length_map] at this
section
variable {W0 B0:Nat} {w w':World} {p q:Addr} {fs:List Flat} {Y:Nat->Prop} {st:List dK} {ms:List Int} {o:OpR}
theorem aJy {n m:Nat} (h:n<=m) (k:m<=1048575):Sm n:=by unfold Sm;omega
abbrev aIk (o:OpR):Value:= .agg #[iv o.kind,.bool o.second,iv o.a,iv o.b,iv o.tag]
theorem aNa (h:P2 W0 B0 w p q fs Y st ms st ms) (hs:st.length<=1048575):
  Calls P F.zQ #[aIk o,.pointer (some p),.pointer (some q)] w (cO fun v w'=>v= .bool true/\Ext w w'):=by
 refine cO.mono (Yz o.kind o.second o.a o.b o.tag (some p) (some q) (fun v w'=>v=true/\Ext w w') w ?_) (by rintro _ w' ⟨b,rfl,rfl,h⟩;exact⟨rfl,h⟩)
 intro p1 w1 hN
 have E1:=Ext.eY hN
 have c1:bG w1 p1 [iv o.kind,.bool o.second,iv o.a,iv o.b,iv o.tag]:=hN.cells rfl
 obtain⟨H,L⟩:=(h.stay E1).live
 obtain⟨Z,R⟩:=(h.stay E1).ref
 have val:=L.val
 have snd:=L.sound
 have few:=L.ok.few
 refine⟨o.kind,c1 0 _ rfl,fun k=> ?_,fun _=>⟨fun k=> ?_,fun _=>⟨fun k=> ?_,fun k=> ?_⟩⟩⟩
 ·refine(L.roots (by omega)).mono ?_
  rintro _ w2 ⟨_,rfl,B,d,r,rfl,O2,ra,E2⟩
  refine⟨_,rfl,B,_,d,rfl,(aHx (R.stay E2) val snd few (by omega)).mono ?_⟩
  rintro _ w3 ⟨_,rfl,A,c,r',rfl,I3,ra',E3⟩
  refine⟨_,rfl,A,_,c,rfl,(Vl d c (O2.keep E3 fun _ _ h=>h).ints I3 (by unfold Sm;omega)).mono ?_⟩
  rintro _ w4 ⟨_,rfl,b,rfl,hb,E4⟩
  exact⟨_,rfl,b,rfl,hb.2 (ra.uniq ra' fun _ _=> .rfl),((E1.trans E2).trans E3).trans E4⟩
 ·refine⟨_,c1 2 _ rfl,_,c1 3 _ rfl,(L.same (a:=o.a) (b:=o.b)).mono ?_⟩
  rintro _ w2 ⟨_,rfl,r,e,rfl,hh,E2⟩
  have c2:=Ext.cells E2 c1
  refine⟨_,rfl,r,e,rfl,_,c2 2 _ rfl,_,c2 3 _ rfl,(aEc (a:=o.a) (b:=o.b) (R.stay E2) val snd few (by omega)).mono ?_⟩
  rintro _ w3 ⟨_,rfl,r',e',rfl,hh',E3⟩
  have E:=(E1.trans E2).trans E3
  have hre:r=r'/\e=e':=by
   rcases hh with⟨a1,rfl,rfl⟩|⟨a1,rfl,a2⟩<;>rcases hh' with⟨b1,rfl,rfl⟩|⟨b1,rfl,b2⟩
   ·exact⟨rfl,rfl⟩
   ·exact absurd b1 a1
   ·exact absurd a1 b1
   ·exact⟨Bool.eq_iff_iff.2 (a2.trans b2.symm),rfl⟩
  obtain⟨rfl,rfl⟩:=hre
  refine⟨_,rfl,r,e,rfl,fun _=>(yX e).mono ?_,fun k=>absurd rfl k⟩
  rintro _ w4 ⟨_,rfl,rfl,rfl⟩
  exact⟨_,rfl,e,rfl,by simp,E⟩
 ·refine⟨_,c1 2 _ rfl,_,c1 3 _ rfl,(L.apart (a:=o.a) (b:=o.b) (by omega)).mono ?_⟩
  rintro _ w2 ⟨_,rfl,r,e,rfl,hh,E2⟩
  have c2:=Ext.cells E2 c1
  refine⟨_,rfl,r,e,rfl,_,c2 2 _ rfl,_,c2 3 _ rfl,(aDg (a:=o.a) (b:=o.b) (R.stay E2) val snd few (by omega)).mono ?_⟩
  rintro _ w3 ⟨_,rfl,r',e',rfl,hh',E3⟩
  have E:=(E1.trans E2).trans E3
  have hre:r=r'/\e=e':=by
   rcases hh with⟨a1,rfl,rfl⟩|⟨a1,rfl,a2⟩<;>rcases hh' with⟨b1,rfl,rfl⟩|⟨b1,rfl,b2⟩
   ·exact⟨rfl,rfl⟩
   ·exact absurd b1 a1
   ·exact absurd a1 b1
   ·exact⟨Bool.eq_iff_iff.2 (a2.trans b2.symm),rfl⟩
  obtain⟨rfl,rfl⟩:=hre
  refine⟨_,rfl,r,e,rfl,fun _=>(yX e).mono ?_,fun k=>absurd rfl k⟩
  rintro _ w4 ⟨_,rfl,rfl,rfl⟩
  exact⟨_,rfl,e,rfl,by simp,E⟩
 ·refine(L.clash (by omega)).mono ?_
  rintro _ w2 ⟨_,rfl,b,rfl,hb,E2⟩
  refine⟨_,rfl,b,rfl,(aC4 (R.stay E2) val snd few (by omega)).mono ?_⟩
  rintro _ w3 ⟨_,rfl,b',rfl,hb',E3⟩
  exact⟨_,rfl,b',rfl,by rw[decide_eq_true_iff];exact Bool.eq_iff_iff.2 (hb.trans hb'.symm),(E1.trans E2).trans E3⟩
theorem aPr (h:P2 W0 B0 w p q fs Y st ms st ms) (hs:st.length<=1048575):
  Calls P F.Df #[aIk o,.pointer (some p),.pointer (some q)] w (cO fun v w'=>v= .bool true/\Ext w w'):=by
 refine cO.mono (aAf o.kind o.second o.a o.b o.tag (some p) (some q) (fun v w'=>v=true/\Ext w w') w ?_) (by rintro _ w' ⟨b,rfl,rfl,h⟩;exact⟨rfl,h⟩)
 intro p1 w1 hN
 have E1:=Ext.eY hN
 have c1:bG w1 p1 [iv o.kind,.bool o.second,iv o.a,iv o.b,iv o.tag]:=hN.cells rfl
 obtain⟨H,L⟩:=(h.stay E1).live
 obtain⟨Z,R⟩:=(h.stay E1).ref
 have val:=L.val
 have snd:=L.sound
 have few:=L.ok.few
 have J:∀(A:Option Addr) (n c:Nat) (e kind:Int) (out:List Int) w4,Ext w1 w4->(e≠0->n=0)->(e=0->Ints w4 A n out/\Sm n/\(kind=1\/kind=2->Aa fs o.a o.b)/\Bare (fun t=>aBz fs (pick st t) kind o.a o.b) out)->
   lK (fun v w'=>v=true/\Ext w w') p1 (some q) A n c e e kind w4:=by
  intro A n c e kind out w4 E4 h0 h1
  refine(yX e).mono ?_
  rintro _ w9 ⟨_,rfl,rfl,rfl⟩
  have c4:=Ext.cells E4 c1
  refine⟨_,rfl,e,rfl,fun k=>absurd rfl k,fun _=>⟨fun k=>⟨?_,E1.trans E4⟩,fun k=> ?_⟩⟩
  ·rw[h0 k];rfl
  ·obtain⟨a1,a2,a3,a4⟩:=h1 (Decidable.not_not.1 k)
   refine⟨_,c4 2 _ rfl,_,c4 3 _ rfl,(aIr (c1:=c) (R.stay E4) a1 val snd few (by omega) a2 a3 a4).mono ?_⟩
   rintro _ w10 ⟨_,rfl,rfl,E10⟩
   exact⟨_,rfl,true,rfl,rfl,(E1.trans E4).trans E10⟩
 refine⟨o.kind,c1 0 _ rfl,fun k=> ?_,fun _=>⟨fun k=> ?_,fun k=> ?_⟩⟩
 ·refine⟨_,c1 2 _ rfl,_,c1 3 _ rfl,(L.why (a:=o.a) (b:=o.b) (by omega)).mono ?_⟩
  rintro _ w2 ⟨_,rfl,B,m,d,e,rfl,E2,hh⟩
  have c2:=Ext.cells E2 c1
  refine⟨_,rfl,B,m,d,e,rfl,_,c2 2 _ rfl,_,c2 3 _ rfl,(aGl (a:=o.a) (b:=o.b) (R.stay E2) val snd few (by omega)).mono ?_⟩
  rintro _ w3 ⟨_,rfl,e',rfl,he',E3⟩
  have E:=E2.trans E3
  rcases hh with⟨a1,rfl,rfl⟩|⟨a1,a2,rfl,rfl⟩|⟨a1,a2,rfl,out,rfl,RR,hb⟩
  ·rcases he' with⟨b1,rfl⟩|⟨b1,_⟩|⟨b1,_⟩
   ·exact⟨_,rfl,80,rfl,J B 0 d 80 1 [] w3 E (fun _=>rfl) fun k=>(by cases k)⟩
   ·exact absurd a1 b1
   ·exact absurd a1 b1
  ·rcases he' with⟨b1,_⟩|⟨_,_,rfl⟩|⟨_,b2,_⟩
   ·exact absurd a1 b1
   ·exact⟨_,rfl,82,rfl,J B 0 d 82 1 [] w3 E (fun _=>rfl) fun k=>(by cases k)⟩
   ·exact absurd b2 a2
  ·rcases he' with⟨b1,_⟩|⟨_,b2,_⟩|⟨_,_,rfl⟩
   ·exact absurd a1 b1
   ·exact absurd a2 b2
   ·exact⟨_,rfl,0,rfl,J B out.length d 0 1 out w3 E (fun k=>absurd rfl k) fun _=>⟨Si (RR.keep E3 fun _ _ h=>h),aJy (Bare.few (st:=st) (P:=fun l=>iH fs l o.a o.b) hb) hs,fun _=>a1,hb.iff fun t=>aOi.symm⟩⟩
 ·refine⟨_,c1 2 _ rfl,_,c1 3 _ rfl,(L.aM7 (a:=o.a) (b:=o.b) (by omega)).mono ?_⟩
  rintro _ w2 ⟨_,rfl,B,m,d,e,rfl,E2,hh⟩
  have c2:=Ext.cells E2 c1
  refine⟨_,rfl,B,m,d,e,rfl,_,c2 2 _ rfl,_,c2 3 _ rfl,(aEt (a:=o.a) (b:=o.b) (R.stay E2) val snd few (by omega)).mono ?_⟩
  rintro _ w3 ⟨_,rfl,e',rfl,he',E3⟩
  have E:=E2.trans E3
  rcases hh with⟨a1,rfl,rfl⟩|⟨a1,a2,rfl,rfl⟩|⟨a1,a2,rfl,out,rfl,RR,hb⟩
  ·rcases he' with⟨b1,rfl⟩|⟨b1,_⟩|⟨b1,_⟩
   ·exact⟨_,rfl,80,rfl,J B 0 d 80 2 [] w3 E (fun _=>rfl) fun k=>(by cases k)⟩
   ·exact absurd a1 b1
   ·exact absurd a1 b1
  ·rcases he' with⟨b1,_⟩|⟨_,_,rfl⟩|⟨_,b2,_⟩
   ·exact absurd a1 b1
   ·exact⟨_,rfl,91,rfl,J B 0 d 91 2 [] w3 E (fun _=>rfl) fun k=>(by cases k)⟩
   ·exact absurd b2 a2
  ·rcases he' with⟨b1,_⟩|⟨_,b2,_⟩|⟨_,_,rfl⟩
   ·exact absurd a1 b1
   ·exact absurd a2 b2
   ·exact⟨_,rfl,0,rfl,J B out.length d 0 2 out w3 E (fun k=>absurd rfl k) fun _=>⟨Si (RR.keep E3 fun _ _ h=>h),aJy (Bare.few (st:=st) (P:=fun l=>jP fs l o.a o.b) hb) hs,fun _=>a1,hb.iff fun t=>kind2.symm⟩⟩
 ·refine(L.aNz (by omega)).mono ?_
  rintro _ w2 ⟨_,rfl,B,m,d,e,rfl,E2,hh⟩
  refine⟨_,rfl,B,m,d,e,rfl,(aEz (R.stay E2) val snd few (by omega)).mono ?_⟩
  rintro _ w3 ⟨_,rfl,e',rfl,he',E3⟩
  have E:=E2.trans E3
  rcases hh with⟨a2,rfl,rfl⟩|⟨a2,rfl,out,rfl,RR,hb⟩
  ·rcases he' with⟨b1,_⟩|⟨_,_,rfl⟩|⟨_,b2,_⟩
   ·exact b1.elim
   ·exact⟨_,rfl,91,rfl,J B 0 d 91 3 [] w3 E (fun _=>rfl) fun k=>(by cases k)⟩
   ·exact absurd b2 a2
  ·rcases he' with⟨b1,_⟩|⟨_,b2,_⟩|⟨_,_,rfl⟩
   ·exact b1.elim
   ·exact absurd a2 b2
   ·exact⟨_,rfl,0,rfl,J B out.length d 0 3 out w3 E (fun k=>absurd rfl k) fun _=>⟨Si (RR.keep E3 fun _ _ h=>h),aJy (Bare.few (st:=st) (P:=fun l=>mW fs l) hb) hs,fun k=>k.elim (fun k=>(by cases k)) fun k=>(by cases k),hb.iff fun t=>aQc.symm⟩⟩
theorem aL9 (h:P2 W0 B0 w p q fs Y st ms st ms) (hs:st.length<=1048575):
  Calls P F.yO #[aIk o,.pointer (some p),.pointer (some q)] w (cO fun v w'=>v= .bool true/\Ext w w'):=by
 refine cO.mono (Yk o.kind o.second o.a o.b o.tag (some p) (some q) (fun v w'=>v=true/\Ext w w') w ?_) (by rintro _ w' ⟨b,rfl,rfl,h⟩;exact⟨rfl,h⟩)
 intro p1 w1 hN
 have E1:=Ext.eY hN
 have c1:bG w1 p1 [iv o.kind,.bool o.second,iv o.a,iv o.b,iv o.tag]:=hN.cells rfl
 obtain⟨H,L⟩:=(h.stay E1).live
 obtain⟨Z,R⟩:=(h.stay E1).ref
 have val:=L.val
 have snd:=L.sound
 have few:=L.ok.few
 refine⟨_,c1 2 _ rfl,_,c1 3 _ rfl,(L.prove (a:=o.a) (b:=o.b) (by omega)).mono ?_⟩
 rintro _ w2 ⟨_,rfl,B,m,d,e,rfl,E2,hh⟩
 have c2:=Ext.cells E2 c1
 refine⟨_,rfl,B,m,d,e,rfl,_,c2 2 _ rfl,_,c2 3 _ rfl,(aGl (a:=o.a) (b:=o.b) (R.stay E2) val snd few (by omega)).mono ?_⟩
 rintro _ w3 ⟨_,rfl,e',rfl,he',E3⟩
 refine⟨_,rfl,e',rfl,(yX e).mono ?_⟩
 rintro _ w4 ⟨_,rfl,rfl,rfl⟩
 have E:=(E1.trans E2).trans E3
 rcases hh with⟨a1,rfl,rfl⟩|⟨a1,a2,rfl,rfl⟩|⟨a1,a2,rfl,ls,lv,rfl,hll,RL,SL,hall,last,hl,la,lb⟩
 ·rcases he' with⟨b1,rfl⟩|⟨b1,_⟩|⟨b1,_⟩
  ·exact⟨_,rfl,80,rfl,fun k=>absurd rfl k,fun _=>⟨fun _=>⟨rfl,E⟩,fun k=>absurd (by decide) k⟩⟩
  ·exact absurd a1 b1
  ·exact absurd a1 b1
 ·rcases he' with⟨b1,_⟩|⟨_,_,rfl⟩|⟨_,b2,_⟩
  ·exact absurd a1 b1
  ·exact⟨_,rfl,82,rfl,fun k=>absurd rfl k,fun _=>⟨fun _=>⟨rfl,E⟩,fun k=>absurd (by decide) k⟩⟩
  ·exact absurd b2 a2
 ·rcases he' with⟨b1,_⟩|⟨_,b2,_⟩|⟨_,_,rfl⟩
  ·exact absurd a1 b1
  ·exact absurd a2 b2
  have hpos:0<ls.length:=by
   have:=(List.getElem?_eq_some_iff.1 hl).1
   omega
  have hL2:Sl Ef w2 B ls.length ls:=aD5 (cd:=Ef) (e:=T.iT) RL SL.now (by decide)
  have hL:=hL2.ext E3
  have ew:IntKind.wrap .i64 ((ls.length:Int)-1)=ls.length-1:=wrap_small (by omega) (by omega)
  obtain⟨q',ad,B',m',cc,hq,hA,hc,_⟩:=hL.link (i:=(ls.length:Int)-1) (by omega) (by omega)
  rw[show((ls.length:Int)-1).toNat=ls.length-1 by omega,hl] at hq
  cases hq
  have c4:=Ext.cells E3 c2
  have J2:∀b w6,Ext w4 w6->b=false->kR (fun v w'=>v=true/\Ext w w') (some q) B ls.length d b w6:=by
   rintro b w6 E6 rfl
   obtain⟨A,n,c,nv,hR⟩:=(R.stay E2).stay (E3.trans E6)
   refine⟨fun k=>(by cases k),fun _=>⟨fun _=>False,q,rfl,_,_,_,hR.c0,fun h=>h,fun w10 hw10=> ?_⟩⟩
   have hR10:=hR.stay (Ext.aK hw10)
   refine(aIa (⟨A,n,c,nv,hR10⟩:xP B0 w10 q fs Z st ms) (by omega)).mono ?_
   rintro _ w9 ⟨_,rfl,A3,n3,c3,rfl,hn3,hG,E9⟩
   have E910:=(Ext.aK hw10).trans E9
   refine⟨_,rfl,A3,n3,c3,rfl,E910,fun w13 hw13=> ?_⟩
   have E13:=E910.drawn hw13
   refine(aHn (c 0) c3 d (hR.stay E13).nodes (hG.ext (Ext.aK hw13)) (hL.ext (E6.trans E13)) (by unfold Sm;omega) (by unfold Sm;omega) (by unfold Sm;omega)).mono ?_
   rintro _ w12 ⟨_,rfl,r,e,rfl,ha,E12⟩
   have hre:r= -1:=by
    rcases ha with⟨h,_⟩|⟨_,h,⟨h1,_⟩|⟨h1,h2,h3,_⟩⟩
    ·exact absurd snd h
    ·exact h1
    ·exfalso
     have:=aMg hall r.toNat (by omega)
     rw[show((r.toNat:Nat):Int)=r by omega] at this
     exact h3 this
   subst hre
   exact⟨_,rfl,-1,e,rfl,fun w15 hw15=>⟨by decide,((E.trans E6).trans (E13.trans E12)).drawn hw15⟩⟩
  refine⟨_,rfl,0,rfl,fun k=>absurd rfl k,fun _=>⟨fun k=>absurd rfl k,fun _=>⟨fun k=>(by omega),fun _=> ?_⟩⟩⟩
  rw[ew]
  refine⟨by omega,by omega,ad,hA,last.a,hc 1 _ rfl,_,c4 2 _ rfl,fun k=>absurd la k,fun _=>⟨by omega,by omega,ad,hA,last.b,hc 2 _ rfl,_,c4 3 _ rfl,fun w8 hw8=>J2 _ w8 (Ext.aK hw8) ?_⟩⟩
  rw[decide_eq_false_iff_not]
  exact fun k=>k lb
theorem aK5 (h:P2 W0 B0 w p q fs Y st ms st ms) (hs:st.length<=1048575) (hm:ms.length<=1048575) (ok:aEs (st,ms)) (hk:I64 o.a):
  Calls P F.uH #[aIk o,.pointer (some p),.pointer (some q)] w (cO fun v w'=>v= .bool true/\∃Y',dU Y w Y' w'/\P2 W0 B0 w' p q fs Y' (stepS fs (st,ms) o).1 (stepS fs (st,ms) o).2 (stepS fs (st,ms) o).1 (stepS fs (st,ms) o).2):=by
 refine cO.mono (aAi o.kind o.second o.a o.b o.tag (some p) (some q) (fun v w'=>v=true/\∃Y',dU Y w Y' w'/\P2 W0 B0 w' p q fs Y' (stepS fs (st,ms) o).1 (stepS fs (st,ms) o).2 (stepS fs (st,ms) o).1 (stepS fs (st,ms) o).2) w ?_) (by rintro _ w' ⟨b,rfl,rfl,h⟩;exact⟨rfl,h⟩)
 intro p1 w1 hN
 have E1:=Ext.eY hN
 have c1:bG w1 p1 [iv o.kind,.bool o.second,iv o.a,iv o.b,iv o.tag]:=hN.cells rfl
 have h1:=h.stay E1
 have A1:dU Y w Y w1:=dU.iL E1
 have quiet:¬(1<=o.kind/\o.kind<=4)->∀w',Ext w1 w'->(true=true/\∃Y',dU Y w Y' w'/\P2 W0 B0 w' p q fs Y' (stepS fs (st,ms) o).1 (stepS fs (st,ms) o).2 (stepS fs (st,ms) o).1 (stepS fs (st,ms) o).2):=fun hn w' E=>by
  have es:stepS fs (st,ms) o=(st,ms):=by unfold stepS;rw[if_neg (fun q=>by omega),if_neg (by omega),if_neg (by omega)]
  rw[es]
  exact⟨rfl,Y,A1.trans (dU.iL E),h1.stay E⟩
 have J1:∀b,(b=true↔(9<=o.kind/\o.kind<=11))->¬(1<=o.kind/\o.kind<=4)->oZ w1 p1 (some p) (some q) (fun v w'=>v=true/\∃Y',dU Y w Y' w'/\P2 W0 B0 w' p q fs Y' (stepS fs (st,ms) o).1 (stepS fs (st,ms) o).2 (stepS fs (st,ms) o).1 (stepS fs (st,ms) o).2) b:=by
  intro b hb hn
  refine⟨fun _=>⟨_,_,_,_,_,c1,(aPr (o:=o) h1 hs).mono ?_⟩,fun _=>⟨_,c1 0 _ rfl,fun _=>⟨_,_,_,_,_,c1,(aL9 (o:=o) h1 hs).mono ?_⟩,fun _=>quiet hn w1 (Ext.refl _)⟩⟩
  ·rintro _ w4 ⟨_,rfl,rfl,E4⟩
   exact⟨_,rfl,true,rfl,quiet hn w4 E4⟩
  ·rintro _ w4 ⟨_,rfl,rfl,E4⟩
   exact⟨_,rfl,true,rfl,quiet hn w4 E4⟩
 have J2:∀b,(b=true↔(5<=o.kind/\o.kind<=8))->¬(1<=o.kind/\o.kind<=4)->pY w1 p1 (some p) (some q) (fun v w'=>v=true/\∃Y',dU Y w Y' w'/\P2 W0 B0 w' p q fs Y' (stepS fs (st,ms) o).1 (stepS fs (st,ms) o).2 (stepS fs (st,ms) o).1 (stepS fs (st,ms) o).2) b:=by
  intro b hb hn
  refine⟨fun _=>⟨_,_,_,_,_,c1,(aNa (o:=o) h1 hs).mono ?_⟩,fun _=>⟨_,c1 0 _ rfl,fun k=>⟨_,c1 0 _ rfl,J1 _ ?_ hn⟩,fun k=>J1 false ⟨fun q=>(by cases q),fun q=>absurd q.1 k⟩ hn⟩⟩
  ·rintro _ w4 ⟨_,rfl,rfl,E4⟩
   exact⟨_,rfl,true,rfl,quiet hn w4 E4⟩
  ·rw[decide_eq_true_iff];exact⟨fun q=>⟨k,q⟩,fun q=>q.2⟩
 have J3:∀b,(b=true↔(1<=o.kind/\o.kind<=4))->oW w1 p1 (some p) (some q) (fun v w'=>v=true/\∃Y',dU Y w Y' w'/\P2 W0 B0 w' p q fs Y' (stepS fs (st,ms) o).1 (stepS fs (st,ms) o).2 (stepS fs (st,ms) o).1 (stepS fs (st,ms) o).2) b:=by
  intro b hb
  refine⟨fun _=>⟨_,_,_,_,_,c1,(aPt (o:=o) h1 hs hm ok hk).mono ?_⟩,fun hf=> ?_⟩
  ·rintro _ w4 ⟨_,rfl,rfl,Y4,A4,h4⟩
   exact⟨_,rfl,true,rfl,rfl,Y4,A1.trans A4,h4⟩
  ·have hn:¬(1<=o.kind/\o.kind<=4):=fun q=>by rw[hb.2 q] at hf;cases hf
   refine⟨_,c1 0 _ rfl,fun k=>⟨_,c1 0 _ rfl,J2 _ ?_ hn⟩,fun k=>J2 false ⟨fun q=>(by cases q),fun q=>absurd q.1 k⟩ hn⟩
   rw[decide_eq_true_iff];exact⟨fun q=>⟨k,q⟩,fun q=>q.2⟩
 refine⟨_,c1 0 _ rfl,fun k=>⟨_,c1 0 _ rfl,J3 _ ?_⟩,fun k=>J3 false ⟨fun q=>(by cases q),fun q=>absurd q.1 k⟩⟩
 rw[decide_eq_true_iff];exact⟨fun q=>⟨k,q⟩,fun q=>q.2⟩
end
end Go.Proofs.YtnbakpoahcndpaaGreatDoor
