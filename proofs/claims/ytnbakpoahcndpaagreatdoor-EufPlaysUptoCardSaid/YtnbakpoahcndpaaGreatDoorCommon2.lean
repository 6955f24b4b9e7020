/- Towards the laws of this seat. Gathered by a program (pack.py) out of smaller texts. -/
import Derived.Test.YtnbakpoahcndpaaGreatDoorCommon1
import Derived.Lib.AppendIntMem
import Derived.Shelf.SlGeneric
import Derived.Ground.NamesProg
import Derived.Ground.SlgmProg
import Derived.Ground.SlgnProg
import Derived.Shelf.Strconv.AppendIntPublic10
import Derived.Shelf.SortM.Plain
import Derived.Shelf.SortM.SortNone
import Derived.Shelf.SlicesG.Delete
import Derived.Lib.ItoaLen
import Derived.Laws.OwnMore
set_option linter.unusedSectionVars false
set_option linter.unusedVariables false
set_option linter.unusedSimpArgs false
set_option maxHeartbeats 2000000
set_option maxRecDepth 20000
namespace Go.Proofs.YtnbakpoahcndpaaGreatDoor
open Wk
def wB (A1:Option Addr) (n1 c1:Nat) (K:Option Addr->Nat->Nat->World->Prop) (w:World):Prop:=
 (A1=none->(K none 0 0 w))/\(¬(A1=none)->(∀(p1:Addr) (w1:World),New w (.cells #[] T.int) p1 w1->(∃(A3:Option Addr) (n3 c3:Nat) (w2:World),(Builtin.append_ #[T.bH,T.bH] T.bH #[.slice (some p1) 0 0,.slice A1 n1 c1]).run P w1= .ok (.slice A3 n3 c3) w2/\(K A3 n3 c3 w2))))
theorem Td (A1:Option Addr) (n1 c1:Nat) (K:Option Addr->Nat->Nat->World->Prop) (w:World) (H:wB A1 n1 c1 K w):Calls P F.kD #[.slice A1 n1 c1] w (cO fun v w'=>∃A2 n2 c2,v=(.slice A2 n2 c2)/\K A2 n2 c2 w'):=by
 unfold wB at H;refine bT (P:=P) Tryz.func16 rfl [(0,.slice A1 n1 c1)] 8 rfl rfl (fun p hp=>by rcases List.mem_singleton.1 hp with rfl;rfl) (aG (aF (ag rfl (aH (nc (kp 0 rfl zz) (aG (aG (aF (mv rfl (bo rfl rfl (aIp TF.aV) (aH (nc (y2 0 4 rfl) ?_))))))))))));refine bC rfl (fun hb=> ?_) (fun hb=> ?_)
 ·replace H:=H.1 hb;exact aG (aF (ag rfl (aH (nc (kp 2 rfl zz) (bK (aQ (aN (res1 rfl rfl) ⟨_,rfl,_,_,_,rfl,H⟩)))))))
 ·replace H:=H.2 hb;refine aX (nc (kp 0 rfl zz) (aG (aF (sz rfl rfl (xl 0 0 (.cells #[] T.int) rfl) ?_))));intro p1 w1 hN;replace H:=H _ _ hN;refine mv rfl ?_;obtain⟨A3,n3,c3,w2,h1,H⟩:=H;exact sv rfl rfl (xb rfl (fun _=>dY h1)) (ag rfl (aH (nc (kp 2 rfl zz) (bK (aN (res1 rfl rfl) ⟨_,rfl,_,_,_,rfl,H⟩)))))
def Qv (p1:Addr) (x1:Int) (K:Int->World->Prop) (w:World):Prop:=
 ∃A1 n1 c1,w.cell? (p1.add 0)=some (.slice A1 n1 c1)/\0<=x1/\x1<(n1:Int)/\∃a1,A1=some a1/\∃x3,w.cell? (a1.add (x1.toNat*1))=some (iv x3)/\K x3 w
theorem aBe (p1:Addr) (x1:Int) (K:Int->World->Prop) (w:World) (H:Qv p1 x1 K w):Calls P F.bV #[.pointer (some p1),iv x1] w (cO fun v w'=>∃x2,v=(iv x2)/\K x2 w'):=by
 unfold Qv at H;refine bT (P:=P) Tryz.func17 rfl [(0,.pointer (some p1)),(1,iv x1)] 12 rfl rfl (aa rfl (aa rfl az)) (aG (aF (ag rfl (aH (nc (y2 0 1 rfl) (aG (aF (mv rfl (nk rfl (fa rfl (TF.qF _ _) ?_))))))))));obtain⟨A1,n1,c1,h1,H⟩:=H;refine ld rfl (aJ TF.bM h1) (mv rfl ?_);obtain⟨h2,h3,a1,e1,H⟩:=H;refine ix rfl rfl (aU TF.aV TF.size_int e1 h2 h3) ?_;obtain⟨x3,h4,H⟩:=H;exact ld rfl (aJ TF.aP h4) (ag rfl (aH (nc (kp 4 rfl zz) (bK (aN (res1 rfl rfl) ⟨_,rfl,_,rfl,H⟩)))))
def Gy (p1:Addr) (x1:Int) (v1:Value) (K:World->Prop) (w:World):Prop:=
 ∃(f1:FuncId) (cs1:List Value),v1= .func (.func f1) #[] cs1.toArray/\callable P f1=true/\Calls P f1 ([iv x1]++cs1:List Value).toArray w (cO fun v2 w1=>v2=(.tuple #[])/\∃A1 n1 c1,w1.cell? (p1.add 1)=some (.slice A1 n1 c1)/\0<=x1/\x1<(n1:Int)/\∃a1,A1=some a1/\∃x2,w1.cell? (a1.add (x1.toNat*1))=some (iv x2)/\∃I1:Nat->Int->World->Prop,(∃k1,I1 k1 x2 w1)/\∀k1 (x3:Int) (w2:World),I1 k1 x3 w2->((x3≠x1->(∃(f2:FuncId) (cs2:List Value),v1= .func (.func f2) #[] cs2.toArray/\callable P f2=true/\Calls P f2 ([iv x3]++cs2:List Value).toArray w2 (cO fun v3 w3=>v3=(.tuple #[])/\∃A2 n2 c2,w3.cell? (p1.add 1)=some (.slice A2 n2 c2)/\0<=x3/\x3<(n2:Int)/\∃a2,A2=some a2/\∃x4,w3.cell? (a2.add (x3.toNat*1))=some (iv x4)/\∃k2,k2<k1/\I1 k2 x4 w3)))/\(¬(x3≠x1)->(K w2))))
theorem aBd (p1:Addr) (x1:Int) (v1:Value) (K:World->Prop) (w:World) (H:Gy p1 x1 v1 K w):Calls P F.vM #[.pointer (some p1),iv x1,v1] w (cO fun v w'=>v=(.tuple #[])/\K w'):=by
 unfold Gy at H;refine bT (P:=P) Tryz.func55 rfl [(0,.pointer (some p1)),(1,iv x1),(2,v1)] 30 rfl rfl (aa rfl (aa rfl (aa rfl az))) (aG (aF (mv rfl (mv rfl ?_))));obtain⟨f1,cs1,e1,h1,H⟩:=H;refine Eu rfl rfl (aI rfl) (fun a ha=>aFa ((ha.ev rfl).trans e1) (ha.evs rfl) h1) H ?_;rintro _ w1 ⟨rfl,H⟩;refine aH (nc (y3 0 1 2 rfl) (aG (aF (mv rfl (nk rfl (fa rfl (TF.gU _ _) ?_))))));obtain⟨A1,n1,c1,h2,H⟩:=H;refine ld rfl (aJ TF.bM h2) (mv rfl ?_);obtain⟨h3,h4,a1,e2,H⟩:=H;refine ix rfl rfl (aU TF.aV TF.size_int e2 h3 h4) ?_;obtain⟨x2,h5,H⟩:=H;refine ld rfl (aJ TF.aP h5) (ag rfl (aH (nc (y4 0 1 2 6 rfl) (aY ?_))));obtain⟨I1,⟨k1,hi⟩,H⟩:=H;refine fK (fun k1 a w'=>∃x3,Ok 30 [(0,.pointer (some p1)),(1,iv x1),(2,v1),(6,iv x3)] a/\I1 k1 x3 w') (fun a ha=>⟨k1,x2,ha.weaken cs,hi⟩) ?_;rintro k1 a w2 ⟨x3,ha,hI⟩;replace H:=H k1 x3 w2 hI;refine cu ha ?_;refine aG (aG (aF (mv rfl (mv rfl (bo rfl rfl qR (aH (nc (y5 0 1 2 6 19 rfl) ?_)))))));refine bC rfl (fun hb=> ?_) (fun hb=> ?_)
 ·replace H:=H.1 hb;refine aX (nc (y4 0 1 2 6 rfl) (aG (aY (aF (mv rfl (mv rfl ?_))))));obtain⟨f2,cs2,e3,h6,H⟩:=H;refine Eu rfl rfl (aI rfl) (fun a ha=>aFa ((ha.ev rfl).trans e3) (ha.evs rfl) h6) H ?_;rintro _ w3 ⟨rfl,H⟩;refine aH (bZ (nc (y4 0 1 2 6 rfl) (aF (mv rfl (nk rfl (fa rfl (TF.gU _ _) ?_))))));obtain⟨A2,n2,c2,h7,H⟩:=H;refine ld rfl (aJ TF.bM h7) (mv rfl ?_);obtain⟨h8,h9,a2,e4,H⟩:=H;refine ix rfl rfl (aU TF.aV TF.size_int e4 h8 h9) ?_;obtain⟨x4,h10,H⟩:=H;refine ld rfl (aJ TF.aP h10) (ag rfl (aH ?_));obtain⟨k2,hk,H⟩:=H;exact bD fun a ha=>⟨k2,hk,x4,ha.weaken cs,H⟩
 ·replace H:=H.2 hb;exact eU (aT (aT (bQ (pR (res0 rfl) ⟨_,rfl,rfl,H⟩))))
def Ae (x1:Int) (p1:Addr) (p2:Addr) (K:World->Prop) (w:World):Prop:=
 ∃q1,w.cell? p2=some (.pointer q1)/\∃p3,q1=some p3/\∃A1 n1 c1,w.cell? (p3.add 0)=some (.slice A1 n1 c1)/\∃x2,w.cell? p1=some (iv x2)/\0<=x1/\x1<(n1:Int)/\∃a1,A1=some a1/\∀w3,aO w w3->(∃u1,w3.cell? (a1.add (x1.toNat*1))=some u1)/\w3.frozen? (a1.add (x1.toNat*1))=false/\∀w1,w1=w3.setCell (a1.add (x1.toNat*1)) (iv x2)->(∀w2,aO w1 w2->(K w2))
theorem Yr (x1:Int) (p1:Addr) (p2:Addr) (K:World->Prop) (w:World) (H:Ae x1 p1 p2 K w):Calls P F.Gm #[iv x1,.pointer (some p1),.pointer (some p2)] w (cO fun v w'=>v=(.tuple #[])/\K w'):=by
 unfold Ae at H;refine bT (P:=P) Tryz.func56 rfl [(0,iv x1),(1,.pointer (some p1)),(2,.pointer (some p2))] 11 rfl rfl (aa rfl (aa rfl (aa rfl az))) ?_;refine bU follows [0,1,2,3,4,5,6] [0,3,5] 8 rfl rfl (by kernel_rfl) (fun _ _ d _ _ h=>by cases d<;>exact h) (fun cm W D=> ?_);obtain⟨q1,h1,H⟩:=H;refine vl 0 cm rfl rfl (fun hw=>(aJ TF.eP ((hw.cell _).trans h1))) D W fun _ D W=> ?_;obtain⟨p3,e1,H⟩:=H;refine pv 1 cm rfl rfl rfl (fun w' a ha=>dH ((ha.ev rfl).trans (by rw[e1]))) D W fun _ D W=>(lH 2 cm rfl rfl (TF.qF _ _) D W fun _ D W=> ?_);obtain⟨A1,n1,c1,h2,H⟩:=H;refine vl 3 cm rfl rfl (fun hw=>(aJ TF.bM ((hw.cell _).trans h2))) D W fun _ D W=>(gZ 4 cm rfl rfl D W fun _ D W=> ?_);obtain⟨x2,h3,H⟩:=H;refine vl 5 cm rfl rfl (fun hw=>(aJ TF.aP ((hw.cell _).trans h3))) D W fun _ D W=> ?_;obtain⟨h4,h5,a1,e2,H⟩:=H;refine aCh 6 cm rfl rfl rfl (aU TF.aV TF.size_int e2 h4 h5) D fun _ D=>(ar 7 ?_);obtain⟨⟨u1,h6⟩,h7,H⟩:=H _ D;refine mY rfl rfl (aI rfl) (xs rfl rfl (dM TF.size_int rfl rfl h6 h7)) rfl false (by kernel_rfl) ?_;intro w1 hw _ D;replace H:=H _ hw;clear hw;refine⟨fun h=>(by cases h),?_⟩;refine dJ (by kernel_rfl) D ?_;intro w2 D;replace H:=H _ D;clear D cm;exact pR (res0 rfl) ⟨_,rfl,rfl,H⟩
def tZ (p2:Addr) (p3:Addr) (x1:Int) (K:World->Prop) (w7:World):Prop:=
 ∃q6,w7.cell? p2=some (.pointer q6)/\∃p8,q6=some p8/\∃A5 n5 c5,w7.cell? (p8.add 2)=some (.slice A5 n5 c5)/\∃x7,w7.cell? p3=some (iv x7)/\0<=x7/\x7<(n5:Int)/\∃a5,A5=some a5/\∃x8,w7.cell? (a5.add (x7.toNat*1))=some (iv x8)/\∃q7,w7.cell? p2=some (.pointer q7)/\∃p9,q7=some p9/\∃A6 n6 c6,w7.cell? (p9.add 2)=some (.slice A6 n6 c6)/\0<=x1/\x1<(n6:Int)/\∃a6,A6=some a6/\∃x9,w7.cell? (a6.add (x1.toNat*1))=some (iv x9)/\0<=x7/\x7<(n5:Int)/\∃a7,A5=some a7/\∀w15,aO w7 w15->(∃u3,w15.cell? (a7.add (x7.toNat*1))=some u3)/\w15.frozen? (a7.add (x7.toNat*1))=false/\∀w10,w10=w15.setCell (a7.add (x7.toNat*1)) (iv (IntKind.wrap .i64 (x8+x9)))->(∀w11,aO w10 w11->(∃q8,w11.cell? p2=some (.pointer q8)/\∃p10,q8=some p10/\∃A7 n7 c7,w11.cell? (p10.add 3)=some (.slice A7 n7 c7)/\∃x10,w11.cell? p3=some (iv x10)/\∃q9,w11.cell? p2=some (.pointer q9)/\∃p11,q9=some p11/\∃A8 n8 c8,w11.cell? (p11.add 3)=some (.slice A8 n8 c8)/\∃x11,w11.cell? p3=some (iv x11)/\0<=x11/\x11<(n8:Int)/\∃a8,A8=some a8/\∃x12,w11.cell? (a8.add (x11.toNat*1))=some (iv x12)/\∃q10,w11.cell? p2=some (.pointer q10)/\∃p12,q10=some p12/\∃A9 n9 c9,w11.cell? (p12.add 3)=some (.slice A9 n9 c9)/\0<=x1/\x1<(n9:Int)/\∃a9,A9=some a9/\∃x13,w11.cell? (a9.add (x1.toNat*1))=some (iv x13)/\0<=x10/\x10<(n7:Int)/\∃a10,A7=some a10/\∀w14,aO w11 w14->(∃u4,w14.cell? (a10.add (x10.toNat*1))=some u4)/\w14.frozen? (a10.add (x10.toNat*1))=false/\∀w12,w12=w14.setCell (a10.add (x10.toNat*1)) (iv (if x13<x12 then x13 else x12))->(∀w13,aO w12 w13->(K w13))))
def Dl (p1:Addr) (x1:Int) (x2:Int) (K:World->Prop) (w:World):Prop:=
 ∀(p2:Addr) (w1:World),New w (.cells #[.pointer (some p1)] T.Vu) p2 w1->(∀(p3:Addr) (w2:World),New w1 (.cells #[iv x2] T.int) p3 w2->(∃q1,w2.cell? p2=some (.pointer q1)/\Calls P F.vM #[.pointer q1,iv x1,.func (.func F.Gm) #[] #[.pointer (some p3),.pointer (some p2)]] w2 (cO fun v1 w3=>v1=(.tuple #[])/\∃X1:Nat->Prop,∃q2,w3.cell? p2=some (.pointer q2)/\∃p4,q2=some p4/\∃A1 n1 c1,w3.cell? (p4.add 1)=some (.slice A1 n1 c1)/\∃q3,w3.cell? p2=some (.pointer q3)/\∃p5,q3=some p5/\∃A2 n2 c2,w3.cell? (p5.add 1)=some (.slice A2 n2 c2)/\∃x3,w3.cell? p3=some (iv x3)/\¬X1 p3.block/\∃q4,w3.cell? p2=some (.pointer q4)/\∃p6,q4=some p6/\∃A3 n3 c3,w3.cell? (p6.add 1)=some (.slice A3 n3 c3)/\∃x4,w3.cell? p3=some (iv x4)/\0<=x4/\x4<(n3:Int)/\∃a1,A3=some a1/\∃x5,w3.cell? (a1.add (x4.toNat*1))=some (iv x5)/\∃q5,w3.cell? p2=some (.pointer q5)/\∃p7,q5=some p7/\∃A4 n4 c4,w3.cell? (p7.add 1)=some (.slice A4 n4 c4)/\0<=x1/\x1<(n4:Int)/\∃a2,A4=some a2/\∃x6,w3.cell? (a2.add (x1.toNat*1))=some (iv x6)/\0<=x1/\x1<(n1:Int)/\∃a3,A1=some a3/\∀w9,aO w3 w9->(∃u1,w9.cell? (a3.add (x1.toNat*1))=some u1)/\w9.frozen? (a3.add (x1.toNat*1))=false/\∀w4,w4=w9.setCell (a3.add (x1.toNat*1)) (iv x5)->(Keep X1 w3 w4/\(0<=x3/\x3<(n2:Int)/\∃a4,A2=some a4/\∀w8,aO w4 w8->(∃u2,w8.cell? (a4.add (x3.toNat*1))=some u2)/\w8.frozen? (a4.add (x3.toNat*1))=false/\∀w5,w5=w8.setCell (a4.add (x3.toNat*1)) (iv x6)->(∀w6,aO w5 w6->((tZ p2 p3 x1 K) w6)))))))
theorem aAk (p1:Addr) (x1:Int) (x2:Int) (K:World->Prop) (w:World) (H:Dl p1 x1 x2 K w):Calls P F.Cf #[.pointer (some p1),iv x1,iv x2] w (cO fun v w'=>v=(.tuple #[])/\K w'):=by
 unfold Dl at H;refine bT (P:=P) Tryz.func28 rfl [(0,.pointer (some p1)),(1,iv x1),(2,iv x2)] 73 rfl rfl (aa rfl (aa rfl (aa rfl az))) (aG (aF (iP (f:=(fun p=> .pointer (some p))) rfl rfl (aI rfl) (fun a ha=>uM (ha.ev rfl) uO) ?_)));intro p2 w1 hN;replace H:=H _ _ hN;refine iP (f:=(fun p=> .pointer (some p))) rfl rfl (aI rfl) (fun a ha=>uM (ha.ev rfl) uO) ?_;intro p3 w2 hN;replace H:=H _ _ hN;refine aH (nc (y3 1 3 5 rfl) (aG (aF ?_)));obtain⟨q1,h3,H⟩:=H;refine ld rfl (aJ TF.eP h3) (mv rfl (sv rfl rfl (fun a ha=>Oe (ha.evs rfl) (ha.evs rfl)) (sc rfl rfl FF.Fj H ?_)));rintro _ w3 ⟨rfl,H⟩;refine aH (nc (y3 1 3 5 rfl) ?_);refine fA (fun a w=>Ok 73 [(1,iv x1),(3,.pointer (some p2)),(5,.pointer (some p3))] a/\tZ p2 p3 x1 K w) ?_ ?_
 ·rintro a w7 ⟨ha,H⟩;unfold tZ at H;refine cu ha ?_;refine aG ?_;refine bU follows [0,1,2,3,4,5,6,7,8,9,10,11,12,13,14,15] [0,3,4,6,7,10,13] 17 rfl rfl (by kernel_rfl) (fun _ _ d _ _ h=>by cases d<;>exact h) (fun cm W D=> ?_);obtain⟨q6,h28,H⟩:=H;refine vl 0 cm rfl rfl (fun hw=>(aJ TF.eP ((hw.cell _).trans h28))) D W fun _ D W=> ?_;obtain⟨p8,e9,H⟩:=H;refine pv 1 cm rfl rfl rfl (fun w' a ha=>dH ((ha.ev rfl).trans (by rw[e9]))) D W fun _ D W=>(lH 2 cm rfl rfl (TF.kJ _ _) D W fun _ D W=> ?_);obtain⟨A5,n5,c5,h29,H⟩:=H;refine vl 3 cm rfl rfl (fun hw=>(aJ TF.bM ((hw.cell _).trans h29))) D W fun _ D W=> ?_;obtain⟨x7,h30,H⟩:=H;refine vl 4 cm rfl rfl (fun hw=>(aJ TF.aP ((hw.cell _).trans h30))) D W fun _ D W=> ?_;obtain⟨h31,h32,a5,e10,H⟩:=H;refine Ie 5 cm rfl rfl rfl (aU TF.aV TF.size_int e10 h31 h32) D W fun _ D W=> ?_;obtain⟨x8,h33,H⟩:=H;refine vl 6 cm rfl rfl (fun hw=>(aJ TF.aP ((hw.cell _).trans h33))) D W fun _ D W=> ?_;obtain⟨q7,h34,H⟩:=H;refine vl 7 cm rfl rfl (fun hw=>(aJ TF.eP ((hw.cell _).trans h34))) D W fun _ D W=> ?_;obtain⟨p9,e11,H⟩:=H;refine pv 8 cm rfl rfl rfl (fun w' a ha=>dH ((ha.ev rfl).trans (by rw[e11]))) D W fun _ D W=>(lH 9 cm rfl rfl (TF.kJ _ _) D W fun _ D W=> ?_);obtain⟨A6,n6,c6,h35,H⟩:=H;refine vl 10 cm rfl rfl (fun hw=>(aJ TF.bM ((hw.cell _).trans h35))) D W fun _ D W=>(gZ 11 cm rfl rfl D W fun _ D W=> ?_);obtain⟨h36,h37,a6,e12,H⟩:=H;refine Ie 12 cm rfl rfl rfl (aU TF.aV TF.size_int e12 h36 h37) D W fun _ D W=> ?_;obtain⟨x9,h38,H⟩:=H;refine vl 13 cm rfl rfl (fun hw=>(aJ TF.aP ((hw.cell _).trans h38))) D W fun _ D W=>(Qj 14 cm rfl rfl rfl (fun w' a ha=>fZ (ha.ev rfl) (ha.ev rfl) kC) D fun _ D=> ?_);obtain⟨h39,h40,a7,e13,H⟩:=H;refine aCh 15 cm rfl rfl rfl (aU TF.aV TF.size_int e13 h39 h40) D fun _ D=>(ar 16 ?_);obtain⟨⟨u3,h41⟩,h42,H⟩:=H _ D;refine mY rfl rfl (aI rfl) (xs rfl rfl (dM TF.size_int rfl rfl h41 h42)) rfl false (by kernel_rfl) ?_;intro w10 hw _ D;replace H:=H _ hw;clear hw;refine⟨fun h=>(by cases h),?_⟩;refine dJ (by kernel_rfl) D ?_;intro w11 D;replace H:=H _ D;clear D cm;refine nc (y3 1 3 5 rfl) ?_;refine bU follows [0,1,2,3,4,5,6,7,8,9,10,11,12,13,14,15,16,17,18,19,20] [0,3,4,5,8,9,11,12,15,18] 22 rfl rfl (by kernel_rfl) (fun _ _ d _ _ h=>by cases d<;>exact h) (fun cm W D=> ?_);obtain⟨q8,h43,H⟩:=H;refine vl 0 cm rfl rfl (fun hw=>(aJ TF.eP ((hw.cell _).trans h43))) D W fun _ D W=> ?_;obtain⟨p10,e14,H⟩:=H;refine pv 1 cm rfl rfl rfl (fun w' a ha=>dH ((ha.ev rfl).trans (by rw[e14]))) D W fun _ D W=>(lH 2 cm rfl rfl (TF.kG _ _) D W fun _ D W=> ?_);obtain⟨A7,n7,c7,h44,H⟩:=H;refine vl 3 cm rfl rfl (fun hw=>(aJ TF.bM ((hw.cell _).trans h44))) D W fun _ D W=> ?_;obtain⟨x10,h45,H⟩:=H;refine vl 4 cm rfl rfl (fun hw=>(aJ TF.aP ((hw.cell _).trans h45))) D W fun _ D W=> ?_;obtain⟨q9,h46,H⟩:=H;refine vl 5 cm rfl rfl (fun hw=>(aJ TF.eP ((hw.cell _).trans h46))) D W fun _ D W=> ?_;obtain⟨p11,e15,H⟩:=H;refine pv 6 cm rfl rfl rfl (fun w' a ha=>dH ((ha.ev rfl).trans (by rw[e15]))) D W fun _ D W=>(lH 7 cm rfl rfl (TF.kG _ _) D W fun _ D W=> ?_);obtain⟨A8,n8,c8,h47,H⟩:=H;refine vl 8 cm rfl rfl (fun hw=>(aJ TF.bM ((hw.cell _).trans h47))) D W fun _ D W=> ?_;obtain⟨x11,h48,H⟩:=H;refine vl 9 cm rfl rfl (fun hw=>(aJ TF.aP ((hw.cell _).trans h48))) D W fun _ D W=> ?_;obtain⟨h49,h50,a8,e16,H⟩:=H;refine Ie 10 cm rfl rfl rfl (aU TF.aV TF.size_int e16 h49 h50) D W fun _ D W=> ?_;obtain⟨x12,h51,H⟩:=H;refine vl 11 cm rfl rfl (fun hw=>(aJ TF.aP ((hw.cell _).trans h51))) D W fun _ D W=> ?_;obtain⟨q10,h52,H⟩:=H;refine vl 12 cm rfl rfl (fun hw=>(aJ TF.eP ((hw.cell _).trans h52))) D W fun _ D W=> ?_;obtain⟨p12,e17,H⟩:=H;refine pv 13 cm rfl rfl rfl (fun w' a ha=>dH ((ha.ev rfl).trans (by rw[e17]))) D W fun _ D W=>(lH 14 cm rfl rfl (TF.kG _ _) D W fun _ D W=> ?_);obtain⟨A9,n9,c9,h53,H⟩:=H;refine vl 15 cm rfl rfl (fun hw=>(aJ TF.bM ((hw.cell _).trans h53))) D W fun _ D W=>(gZ 16 cm rfl rfl D W fun _ D W=> ?_);obtain⟨h54,h55,a9,e18,H⟩:=H;refine Ie 17 cm rfl rfl rfl (aU TF.aV TF.size_int e18 h54 h55) D W fun _ D W=> ?_;obtain⟨x13,h56,H⟩:=H;refine vl 18 cm rfl rfl (fun hw=>(aJ TF.aP ((hw.cell _).trans h56))) D W fun _ D W=>(Qj 19 cm rfl rfl rfl (fun w' a ha=>kQ (ha.evs rfl) (fun _=>aR3)) D fun _ D=> ?_);obtain⟨h57,h58,a10,e19,H⟩:=H;refine aCh 20 cm rfl rfl rfl (aU TF.aV TF.size_int e19 h57 h58) D fun _ D=>(ar 21 ?_);obtain⟨⟨u4,h59⟩,h60,H⟩:=H _ D;refine mY rfl rfl (aI rfl) (xs rfl rfl (dM TF.size_int rfl rfl h59 h60)) rfl false (by kernel_rfl) ?_;intro w12 hw _ D;replace H:=H _ hw;clear hw;refine⟨fun h=>(by cases h),?_⟩;refine dJ (by kernel_rfl) D ?_;intro w13 D;replace H:=H _ D;clear D cm;exact pR (res0 rfl) ⟨_,rfl,rfl,H⟩
 ·obtain⟨X1,H⟩:=H;refine iM follows X1 [0,1,2,3,4,5,6,7,8,9,10,11,12,13,14,15,16,17,18,19,20,21,22,23,24,26] [9] 28 rfl rfl (by kernel_rfl) (fun _ _ d _ _ h=>by cases d<;>exact h) (fun cm W D=> ?_);obtain⟨q2,h4,H⟩:=H;refine Qg (E:=aO w3) (i:=0) cm (fun _ _=>aO.trans) rfl (by kernel_rfl) D rfl rfl (aI rfl) (fun w' hw a ha=>nT (ha.ev rfl) (aJ TF.eP ((hw.cell _).trans h4))) rfl ?_;intro _ hd;replace D:=D.trans hd;replace W:=cm.held _ _ W hd;clear hd;obtain⟨p4,e1,H⟩:=H;refine pv 1 cm rfl rfl rfl (fun w' a ha=>dH ((ha.ev rfl).trans (by rw[e1]))) D W fun _ D W=>(lH 2 cm rfl rfl (TF.gU _ _) D W fun _ D W=> ?_);obtain⟨A1,n1,c1,h5,H⟩:=H;refine Qg (E:=aO w3) (i:=3) cm (fun _ _=>aO.trans) rfl (by kernel_rfl) D rfl rfl (aI rfl) (fun w' hw a ha=>nT (ha.ev rfl) (aJ TF.bM ((hw.cell _).trans h5))) rfl ?_;intro _ hd;replace D:=D.trans hd;replace W:=cm.held _ _ W hd;clear hd;refine gZ 4 cm rfl rfl D W fun _ D W=> ?_;obtain⟨q3,h6,H⟩:=H;refine Qg (E:=aO w3) (i:=5) cm (fun _ _=>aO.trans) rfl (by kernel_rfl) D rfl rfl (aI rfl) (fun w' hw a ha=>nT (ha.ev rfl) (aJ TF.eP ((hw.cell _).trans h6))) rfl ?_;intro _ hd;replace D:=D.trans hd;replace W:=cm.held _ _ W hd;clear hd;obtain⟨p5,e2,H⟩:=H;refine pv 6 cm rfl rfl rfl (fun w' a ha=>dH ((ha.ev rfl).trans (by rw[e2]))) D W fun _ D W=>(lH 7 cm rfl rfl (TF.gU _ _) D W fun _ D W=> ?_);obtain⟨A2,n2,c2,h7,H⟩:=H;refine Qg (E:=aO w3) (i:=8) cm (fun _ _=>aO.trans) rfl (by kernel_rfl) D rfl rfl (aI rfl) (fun w' hw a ha=>nT (ha.ev rfl) (aJ TF.bM ((hw.cell _).trans h7))) rfl ?_;intro _ hd;replace D:=D.trans hd;replace W:=cm.held _ _ W hd;clear hd;obtain⟨x3,h8,hx',H⟩:=H;replace h8:=And.intro h8 hx';clear hx';refine vl 9 cm rfl rfl (fun hw=>(aJ TF.aP (hw.cell h8))) D W fun _ D W=> ?_;obtain⟨q4,h9,H⟩:=H;refine Qg (E:=aO w3) (i:=10) cm (fun _ _=>aO.trans) rfl (by kernel_rfl) D rfl rfl (aI rfl) (fun w' hw a ha=>nT (ha.ev rfl) (aJ TF.eP ((hw.cell _).trans h9))) rfl ?_;intro _ hd;replace D:=D.trans hd;replace W:=cm.held _ _ W hd;clear hd;obtain⟨p6,e3,H⟩:=H;refine pv 11 cm rfl rfl rfl (fun w' a ha=>dH ((ha.ev rfl).trans (by rw[e3]))) D W fun _ D W=>(lH 12 cm rfl rfl (TF.gU _ _) D W fun _ D W=> ?_);obtain⟨A3,n3,c3,h10,H⟩:=H;refine Qg (E:=aO w3) (i:=13) cm (fun _ _=>aO.trans) rfl (by kernel_rfl) D rfl rfl (aI rfl) (fun w' hw a ha=>nT (ha.ev rfl) (aJ TF.bM ((hw.cell _).trans h10))) rfl ?_;intro _ hd;replace D:=D.trans hd;replace W:=cm.held _ _ W hd;clear hd;obtain⟨x4,h11,H⟩:=H;refine Qg (E:=aO w3) (i:=14) cm (fun _ _=>aO.trans) rfl (by kernel_rfl) D rfl rfl (aI rfl) (fun w' hw a ha=>nT (ha.ev rfl) (aJ TF.aP ((hw.cell _).trans h11))) rfl ?_;intro _ hd;replace D:=D.trans hd;replace W:=cm.held _ _ W hd;clear hd;obtain⟨h12,h13,a1,e4,H⟩:=H;refine Ie 15 cm rfl rfl rfl (aU TF.aV TF.size_int e4 h12 h13) D W fun _ D W=> ?_;obtain⟨x5,h14,H⟩:=H;refine Qg (E:=aO w3) (i:=16) cm (fun _ _=>aO.trans) rfl (by kernel_rfl) D rfl rfl (aI rfl) (fun w' hw a ha=>nT (ha.ev rfl) (aJ TF.aP ((hw.cell _).trans h14))) rfl ?_;intro _ hd;replace D:=D.trans hd;replace W:=cm.held _ _ W hd;clear hd;obtain⟨q5,h15,H⟩:=H;refine Qg (E:=aO w3) (i:=17) cm (fun _ _=>aO.trans) rfl (by kernel_rfl) D rfl rfl (aI rfl) (fun w' hw a ha=>nT (ha.ev rfl) (aJ TF.eP ((hw.cell _).trans h15))) rfl ?_;intro _ hd;replace D:=D.trans hd;replace W:=cm.held _ _ W hd;clear hd;obtain⟨p7,e5,H⟩:=H;refine pv 18 cm rfl rfl rfl (fun w' a ha=>dH ((ha.ev rfl).trans (by rw[e5]))) D W fun _ D W=>(lH 19 cm rfl rfl (TF.gU _ _) D W fun _ D W=> ?_);obtain⟨A4,n4,c4,h16,H⟩:=H;refine Qg (E:=aO w3) (i:=20) cm (fun _ _=>aO.trans) rfl (by kernel_rfl) D rfl rfl (aI rfl) (fun w' hw a ha=>nT (ha.ev rfl) (aJ TF.bM ((hw.cell _).trans h16))) rfl ?_;intro _ hd;replace D:=D.trans hd;replace W:=cm.held _ _ W hd;clear hd;refine gZ 21 cm rfl rfl D W fun _ D W=> ?_;obtain⟨h17,h18,a2,e6,H⟩:=H;refine Ie 22 cm rfl rfl rfl (aU TF.aV TF.size_int e6 h17 h18) D W fun _ D W=> ?_;obtain⟨x6,h19,H⟩:=H;refine Qg (E:=aO w3) (i:=23) cm (fun _ _=>aO.trans) rfl (by kernel_rfl) D rfl rfl (aI rfl) (fun w' hw a ha=>nT (ha.ev rfl) (aJ TF.aP ((hw.cell _).trans h19))) rfl ?_;intro _ hd;replace D:=D.trans hd;replace W:=cm.held _ _ W hd;clear hd;obtain⟨h20,h21,a3,e7,H⟩:=H;refine Ie 24 cm rfl rfl rfl (aU TF.aV TF.size_int e7 h20 h21) D W fun _ D W=>(ar 25 ?_);obtain⟨⟨u1,h22⟩,h23,H⟩:=H _ D;refine mY rfl rfl (aI rfl) (xs rfl rfl (dM TF.size_int rfl rfl h22 h23)) rfl true (by kernel_rfl) ?_;intro w4 hw _ D;replace H:=H _ hw;clear hw;have W:=H.1.drawn D;replace H:=H.2;refine⟨fun _=>W,?_⟩;obtain⟨h24,h25,a4,e8,H⟩:=H;refine aCh 26 cm rfl rfl rfl (aU TF.aV TF.size_int e8 h24 h25) D fun _ D=>(ar 27 ?_);obtain⟨⟨u2,h26⟩,h27,H⟩:=H _ D;refine mY rfl rfl (aI rfl) (xs rfl rfl (dM TF.size_int rfl rfl h26 h27)) rfl false (by kernel_rfl) ?_;intro w5 hw _ D;replace H:=H _ hw;clear hw;refine⟨fun h=>(by cases h),?_⟩;refine dJ (by kernel_rfl) D ?_;intro w6 D;replace H:=H _ D;clear D cm;exact bD fun a ha=>⟨ha.weaken cs,H⟩
def Ce (x1:Int) (p1:Addr) (p2:Addr) (K:World->Prop) (w:World):Prop:=
 ∃q1,w.cell? p2=some (.pointer q1)/\∃p3,q1=some p3/\∃A1 n1 c1,w.cell? (p3.add 0)=some (.slice A1 n1 c1)/\∃x2,w.cell? p1=some (iv x2)/\0<=x1/\x1<(n1:Int)/\∃a1,A1=some a1/\∀w3,aO w w3->(∃u1,w3.cell? (a1.add (x1.toNat*1))=some u1)/\w3.frozen? (a1.add (x1.toNat*1))=false/\∀w1,w1=w3.setCell (a1.add (x1.toNat*1)) (iv x2)->(∀w2,aO w1 w2->(K w2))
theorem Yx (x1:Int) (p1:Addr) (p2:Addr) (K:World->Prop) (w:World) (H:Ce x1 p1 p2 K w):Calls P F.Ib #[iv x1,.pointer (some p1),.pointer (some p2)] w (cO fun v w'=>v=(.tuple #[])/\K w'):=by
 unfold Ce at H;refine bT (P:=P) Tryz.func93 rfl [(0,iv x1),(1,.pointer (some p1)),(2,.pointer (some p2))] 11 rfl rfl (aa rfl (aa rfl (aa rfl az))) ?_;refine bU follows [0,1,2,3,4,5,6] [0,3,5] 8 rfl rfl (by kernel_rfl) (fun _ _ d _ _ h=>by cases d<;>exact h) (fun cm W D=> ?_);obtain⟨q1,h1,H⟩:=H;refine vl 0 cm rfl rfl (fun hw=>(aJ TF.eP ((hw.cell _).trans h1))) D W fun _ D W=> ?_;obtain⟨p3,e1,H⟩:=H;refine pv 1 cm rfl rfl rfl (fun w' a ha=>dH ((ha.ev rfl).trans (by rw[e1]))) D W fun _ D W=>(lH 2 cm rfl rfl (TF.qF _ _) D W fun _ D W=> ?_);obtain⟨A1,n1,c1,h2,H⟩:=H;refine vl 3 cm rfl rfl (fun hw=>(aJ TF.bM ((hw.cell _).trans h2))) D W fun _ D W=>(gZ 4 cm rfl rfl D W fun _ D W=> ?_);obtain⟨x2,h3,H⟩:=H;refine vl 5 cm rfl rfl (fun hw=>(aJ TF.aP ((hw.cell _).trans h3))) D W fun _ D W=> ?_;obtain⟨h4,h5,a1,e2,H⟩:=H;refine aCh 6 cm rfl rfl rfl (aU TF.aV TF.size_int e2 h4 h5) D fun _ D=>(ar 7 ?_);obtain⟨⟨u1,h6⟩,h7,H⟩:=H _ D;refine mY rfl rfl (aI rfl) (xs rfl rfl (dM TF.size_int rfl rfl h6 h7)) rfl false (by kernel_rfl) ?_;intro w1 hw _ D;replace H:=H _ hw;clear hw;refine⟨fun h=>(by cases h),?_⟩;refine dJ (by kernel_rfl) D ?_;intro w2 D;replace H:=H _ D;clear D cm;exact pR (res0 rfl) ⟨_,rfl,rfl,H⟩
def uV (p2:Addr) (p3:Addr) (x2:Int) (x3:Int) (K:World->Prop) (w6:World):Prop:=
 ∃q5,w6.cell? p2=some (.pointer q5)/\∃x8,w6.cell? p3=some (iv x8)/\Calls P F.vM #[.pointer q5,iv x8,.func (.func F.Ib) #[] #[.pointer (some p3),.pointer (some p2)]] w6 (cO fun v1 w9=>v1=(.tuple #[])/\∃q6,w9.cell? p2=some (.pointer q6)/\∃p8,q6=some p8/\∃A5 n5 c5,w9.cell? (p8.add 2)=some (.slice A5 n5 c5)/\0<=x2/\x2<(n5:Int)/\∃a5,A5=some a5/\∃x9,w9.cell? (a5.add (x2.toNat*1))=some (iv x9)/\∃q7,w9.cell? p2=some (.pointer q7)/\∃p9,q7=some p9/\∃A6 n6 c6,w9.cell? (p9.add 2)=some (.slice A6 n6 c6)/\∃x10,w9.cell? p3=some (iv x10)/\0<=x10/\x10<(n6:Int)/\∃a6,A6=some a6/\∃x11,w9.cell? (a6.add (x10.toNat*1))=some (iv x11)/\0<=x2/\x2<(n5:Int)/\∃a7,A5=some a7/\∀w13,aO w9 w13->(∃u3,w13.cell? (a7.add (x2.toNat*1))=some u3)/\w13.frozen? (a7.add (x2.toNat*1))=false/\∀w10,w10=w13.setCell (a7.add (x2.toNat*1)) (iv (IntKind.wrap .i64 (x9-x11)))->(∀w11,aO w10 w11->(∃q8,w11.cell? p2=some (.pointer q8)/\∃p10,q8=some p10/\∃A7 n7 c7,w11.cell? (p10.add 3)=some (.slice A7 n7 c7)/\0<=x2/\x2<(n7:Int)/\∃a8,A7=some a8/\(∃u4,w11.cell? (a8.add (x2.toNat*1))=some u4)/\w11.frozen? (a8.add (x2.toNat*1))=false/\∀w12,w12=w11.setCell (a8.add (x2.toNat*1)) (iv x3)->(K w12))))
def Gv (p1:Addr) (x1:Int) (x2:Int) (x3:Int) (K:World->Prop) (w:World):Prop:=
 ∀(p2:Addr) (w1:World),New w (.cells #[.pointer (some p1)] T.Vu) p2 w1->(∀(p3:Addr) (w2:World),New w1 (.cells #[iv x1] T.int) p3 w2->(∃q1,w2.cell? p2=some (.pointer q1)/\∃p4,q1=some p4/\∃A1 n1 c1,w2.cell? (p4.add 1)=some (.slice A1 n1 c1)/\∃x4,w2.cell? p3=some (iv x4)/\∃q2,w2.cell? p2=some (.pointer q2)/\∃p5,q2=some p5/\∃A2 n2 c2,w2.cell? (p5.add 1)=some (.slice A2 n2 c2)/\∃q3,w2.cell? p2=some (.pointer q3)/\∃p6,q3=some p6/\∃A3 n3 c3,w2.cell? (p6.add 1)=some (.slice A3 n3 c3)/\0<=x2/\x2<(n3:Int)/\∃a1,A3=some a1/\∃x5,w2.cell? (a1.add (x2.toNat*1))=some (iv x5)/\∃q4,w2.cell? p2=some (.pointer q4)/\∃p7,q4=some p7/\∃A4 n4 c4,w2.cell? (p7.add 1)=some (.slice A4 n4 c4)/\∃x6,w2.cell? p3=some (iv x6)/\0<=x6/\x6<(n4:Int)/\∃a2,A4=some a2/\∃x7,w2.cell? (a2.add (x6.toNat*1))=some (iv x7)/\0<=x4/\x4<(n1:Int)/\∃a3,A1=some a3/\∀w8,aO w2 w8->(∃u1,w8.cell? (a3.add (x4.toNat*1))=some u1)/\w8.frozen? (a3.add (x4.toNat*1))=false/\∀w3,w3=w8.setCell (a3.add (x4.toNat*1)) (iv x5)->(0<=x2/\x2<(n2:Int)/\∃a4,A2=some a4/\∀w7,aO w3 w7->(∃u2,w7.cell? (a4.add (x2.toNat*1))=some u2)/\w7.frozen? (a4.add (x2.toNat*1))=false/\∀w4,w4=w7.setCell (a4.add (x2.toNat*1)) (iv x7)->(∀w5,aO w4 w5->((uV p2 p3 x2 x3 K) w5)))))
theorem aBb (p1:Addr) (x1:Int) (x2:Int) (x3:Int) (K:World->Prop) (w:World) (H:Gv p1 x1 x2 x3 K w):Calls P F.Eo #[.pointer (some p1),iv x1,iv x2,iv x3] w (cO fun v w'=>v=(.tuple #[])/\K w'):=by
 unfold Gv at H;refine bT (P:=P) Tryz.func73 rfl [(0,.pointer (some p1)),(1,iv x1),(2,iv x2),(3,iv x3)] 61 rfl rfl (aa rfl (aa rfl (aa rfl (aa rfl az)))) (aG (aF (iP (f:=(fun p=> .pointer (some p))) rfl rfl (aI rfl) (fun a ha=>uM (ha.ev rfl) uO) ?_)));intro p2 w1 hN;replace H:=H _ _ hN;refine iP (f:=(fun p=> .pointer (some p))) rfl rfl (aI rfl) (fun a ha=>uM (ha.ev rfl) uO) ?_;intro p3 w2 hN;replace H:=H _ _ hN;refine aH (nc (y4 2 3 4 5 rfl) ?_);refine fA (fun a w=>Ok 61 [(2,iv x2),(3,iv x3),(4,.pointer (some p2)),(5,.pointer (some p3))] a/\uV p2 p3 x2 x3 K w) ?_ ?_
 ·rintro a w6 ⟨ha,H⟩;unfold uV at H;refine cu ha ?_;refine aG (aF ?_);obtain⟨q5,h27,H⟩:=H;refine ld rfl (aJ TF.eP h27) ?_;obtain⟨x8,h28,H⟩:=H;refine ld rfl (aJ TF.aP h28) (sv rfl rfl (fun a ha=>Oe (ha.evs rfl) (ha.evs rfl)) (sc rfl rfl FF.Fj H ?_));rintro _ w9 ⟨rfl,H⟩;refine aH (nc (y4 2 3 4 5 rfl) (aG ?_));refine bU follows [0,1,2,3,4,5,6,7,8,9,10,11,12,13,14,15] [0,3,6,7,10,11,13] 17 rfl rfl (by kernel_rfl) (fun _ _ d _ _ h=>by cases d<;>exact h) (fun cm W D=> ?_);obtain⟨q6,h29,H⟩:=H;refine vl 0 cm rfl rfl (fun hw=>(aJ TF.eP ((hw.cell _).trans h29))) D W fun _ D W=> ?_;obtain⟨p8,e9,H⟩:=H;refine pv 1 cm rfl rfl rfl (fun w' a ha=>dH ((ha.ev rfl).trans (by rw[e9]))) D W fun _ D W=>(lH 2 cm rfl rfl (TF.kJ _ _) D W fun _ D W=> ?_);obtain⟨A5,n5,c5,h30,H⟩:=H;refine vl 3 cm rfl rfl (fun hw=>(aJ TF.bM ((hw.cell _).trans h30))) D W fun _ D W=>(gZ 4 cm rfl rfl D W fun _ D W=> ?_);obtain⟨h31,h32,a5,e10,H⟩:=H;refine Ie 5 cm rfl rfl rfl (aU TF.aV TF.size_int e10 h31 h32) D W fun _ D W=> ?_;obtain⟨x9,h33,H⟩:=H;refine vl 6 cm rfl rfl (fun hw=>(aJ TF.aP ((hw.cell _).trans h33))) D W fun _ D W=> ?_;obtain⟨q7,h34,H⟩:=H;refine vl 7 cm rfl rfl (fun hw=>(aJ TF.eP ((hw.cell _).trans h34))) D W fun _ D W=> ?_;obtain⟨p9,e11,H⟩:=H;refine pv 8 cm rfl rfl rfl (fun w' a ha=>dH ((ha.ev rfl).trans (by rw[e11]))) D W fun _ D W=>(lH 9 cm rfl rfl (TF.kJ _ _) D W fun _ D W=> ?_);obtain⟨A6,n6,c6,h35,H⟩:=H;refine vl 10 cm rfl rfl (fun hw=>(aJ TF.bM ((hw.cell _).trans h35))) D W fun _ D W=> ?_;obtain⟨x10,h36,H⟩:=H;refine vl 11 cm rfl rfl (fun hw=>(aJ TF.aP ((hw.cell _).trans h36))) D W fun _ D W=> ?_;obtain⟨h37,h38,a6,e12,H⟩:=H;refine Ie 12 cm rfl rfl rfl (aU TF.aV TF.size_int e12 h37 h38) D W fun _ D W=> ?_;obtain⟨x11,h39,H⟩:=H;refine vl 13 cm rfl rfl (fun hw=>(aJ TF.aP ((hw.cell _).trans h39))) D W fun _ D W=>(Qj 14 cm rfl rfl rfl (fun w' a ha=>fZ (ha.ev rfl) (ha.ev rfl) Pn) D fun _ D=> ?_);obtain⟨h40,h41,a7,e13,H⟩:=H;refine aCh 15 cm rfl rfl rfl (aU TF.aV TF.size_int e13 h40 h41) D fun _ D=>(ar 16 ?_);obtain⟨⟨u3,h42⟩,h43,H⟩:=H _ D;refine mY rfl rfl (aI rfl) (xs rfl rfl (dM TF.size_int rfl rfl h42 h43)) rfl false (by kernel_rfl) ?_;intro w10 hw _ D;replace H:=H _ hw;clear hw;refine⟨fun h=>(by cases h),?_⟩;refine dJ (by kernel_rfl) D ?_;intro w11 D;replace H:=H _ D;clear D cm;refine nc (y3 2 3 4 rfl) (aF ?_);obtain⟨q8,h44,H⟩:=H;refine ld rfl (aJ TF.eP h44) ?_;obtain⟨p10,e14,H⟩:=H;refine sv rfl rfl (fun a ha=>dH ((ha.ev rfl).trans (by rw[e14]))) (fa rfl (TF.kG _ _) ?_);obtain⟨A7,n7,c7,h45,H⟩:=H;refine ld rfl (aJ TF.bM h45) (mv rfl (mv rfl ?_));obtain⟨h46,h47,a8,e15,H⟩:=H;refine ix rfl rfl (aU TF.aV TF.size_int e15 h46 h47) ?_;obtain⟨⟨u4,h48⟩,h49,H⟩:=H;refine oO rfl (aI rfl) (xs rfl rfl (dM TF.size_int rfl rfl h48 h49)) ?_;intro w12 hw;replace H:=H _ hw;clear hw;exact aH (pR (res0 rfl) ⟨_,rfl,rfl,H⟩)
 ·refine bU follows [0,1,2,3,4,5,6,7,8,9,10,11,12,13,14,15,16,17,18,19,20,21,22,23,24,26] [0,3,4,5,8,10,13,16,17,20,21,23] 28 rfl rfl (by kernel_rfl) (fun _ _ d _ _ h=>by cases d<;>exact h) (fun cm W D=> ?_);obtain⟨q1,h3,H⟩:=H;refine vl 0 cm rfl rfl (fun hw=>(aJ TF.eP ((hw.cell _).trans h3))) D W fun _ D W=> ?_;obtain⟨p4,e1,H⟩:=H;refine pv 1 cm rfl rfl rfl (fun w' a ha=>dH ((ha.ev rfl).trans (by rw[e1]))) D W fun _ D W=>(lH 2 cm rfl rfl (TF.gU _ _) D W fun _ D W=> ?_);obtain⟨A1,n1,c1,h4,H⟩:=H;refine vl 3 cm rfl rfl (fun hw=>(aJ TF.bM ((hw.cell _).trans h4))) D W fun _ D W=> ?_;obtain⟨x4,h5,H⟩:=H;refine vl 4 cm rfl rfl (fun hw=>(aJ TF.aP ((hw.cell _).trans h5))) D W fun _ D W=> ?_;obtain⟨q2,h6,H⟩:=H;refine vl 5 cm rfl rfl (fun hw=>(aJ TF.eP ((hw.cell _).trans h6))) D W fun _ D W=> ?_;obtain⟨p5,e2,H⟩:=H;refine pv 6 cm rfl rfl rfl (fun w' a ha=>dH ((ha.ev rfl).trans (by rw[e2]))) D W fun _ D W=>(lH 7 cm rfl rfl (TF.gU _ _) D W fun _ D W=> ?_);obtain⟨A2,n2,c2,h7,H⟩:=H;refine vl 8 cm rfl rfl (fun hw=>(aJ TF.bM ((hw.cell _).trans h7))) D W fun _ D W=>(gZ 9 cm rfl rfl D W fun _ D W=> ?_);obtain⟨q3,h8,H⟩:=H;refine vl 10 cm rfl rfl (fun hw=>(aJ TF.eP ((hw.cell _).trans h8))) D W fun _ D W=> ?_;obtain⟨p6,e3,H⟩:=H;refine pv 11 cm rfl rfl rfl (fun w' a ha=>dH ((ha.ev rfl).trans (by rw[e3]))) D W fun _ D W=>(lH 12 cm rfl rfl (TF.gU _ _) D W fun _ D W=> ?_);obtain⟨A3,n3,c3,h9,H⟩:=H;refine vl 13 cm rfl rfl (fun hw=>(aJ TF.bM ((hw.cell _).trans h9))) D W fun _ D W=>(gZ 14 cm rfl rfl D W fun _ D W=> ?_);obtain⟨h10,h11,a1,e4,H⟩:=H;refine Ie 15 cm rfl rfl rfl (aU TF.aV TF.size_int e4 h10 h11) D W fun _ D W=> ?_;obtain⟨x5,h12,H⟩:=H;refine vl 16 cm rfl rfl (fun hw=>(aJ TF.aP ((hw.cell _).trans h12))) D W fun _ D W=> ?_;obtain⟨q4,h13,H⟩:=H;refine vl 17 cm rfl rfl (fun hw=>(aJ TF.eP ((hw.cell _).trans h13))) D W fun _ D W=> ?_;obtain⟨p7,e5,H⟩:=H;refine pv 18 cm rfl rfl rfl (fun w' a ha=>dH ((ha.ev rfl).trans (by rw[e5]))) D W fun _ D W=>(lH 19 cm rfl rfl (TF.gU _ _) D W fun _ D W=> ?_);obtain⟨A4,n4,c4,h14,H⟩:=H;refine vl 20 cm rfl rfl (fun hw=>(aJ TF.bM ((hw.cell _).trans h14))) D W fun _ D W=> ?_;obtain⟨x6,h15,H⟩:=H;refine vl 21 cm rfl rfl (fun hw=>(aJ TF.aP ((hw.cell _).trans h15))) D W fun _ D W=> ?_;obtain⟨h16,h17,a2,e6,H⟩:=H;refine Ie 22 cm rfl rfl rfl (aU TF.aV TF.size_int e6 h16 h17) D W fun _ D W=> ?_;obtain⟨x7,h18,H⟩:=H;refine vl 23 cm rfl rfl (fun hw=>(aJ TF.aP ((hw.cell _).trans h18))) D W fun _ D W=> ?_;obtain⟨h19,h20,a3,e7,H⟩:=H;refine aCh 24 cm rfl rfl rfl (aU TF.aV TF.size_int e7 h19 h20) D fun _ D=>(ar 25 ?_);obtain⟨⟨u1,h21⟩,h22,H⟩:=H _ D;refine mY rfl rfl (aI rfl) (xs rfl rfl (dM TF.size_int rfl rfl h21 h22)) rfl false (by kernel_rfl) ?_;intro w3 hw _ D;replace H:=H _ hw;clear hw;refine⟨fun h=>(by cases h),?_⟩;obtain⟨h23,h24,a4,e8,H⟩:=H;refine aCh 26 cm rfl rfl rfl (aU TF.aV TF.size_int e8 h23 h24) D fun _ D=>(ar 27 ?_);obtain⟨⟨u2,h25⟩,h26,H⟩:=H _ D;refine mY rfl rfl (aI rfl) (xs rfl rfl (dM TF.size_int rfl rfl h25 h26)) rfl false (by kernel_rfl) ?_;intro w4 hw _ D;replace H:=H _ hw;clear hw;refine⟨fun h=>(by cases h),?_⟩;refine dJ (by kernel_rfl) D ?_;intro w5 D;replace H:=H _ D;clear D cm;exact bD fun a ha=>⟨ha.weaken cs,H⟩
def Gx (k1:Nat) (I1:Nat->Option Addr->Nat->Nat->Int->World->Prop) (x4:Int) (A8:Option Addr) (n8 c8:Nat) (w14:World):Prop:=
 ∃k2,k2<k1/\I1 k2 A8 n8 c8 (IntKind.wrap .i64 (x4+1)) w14
def Nu (p1:Addr) (x1:Int) (K:ByteArray->World->Prop) (w:World):Prop:=
 ∃A1 n1 c1,w.cell? (p1.add 4)=some (.slice A1 n1 c1)/\0<=x1/\x1<(n1:Int)/\∃a1,A1=some a1/\∃x2,∃A2 n2 c2,bG w (a1.add (x1.toNat*2)) [iv x2,.slice A2 n2 c2]/\∀(p2:Addr) (w1:World),New w (.cells #[iv 0,.slice none 0 0] T.fJ) p2 w1->(oH w1 p2 2/\∀w2,w2=cZ w1 p2 [iv x2,.slice A2 n2 c2]->(∃x3,w2.cell? (p2.add 0)=some (iv x3)/\Calls P F.xR #[.slice none 0 0,iv x3,iv 10] w2 (cO fun v1 w3=>∃A3 n3 c3,v1=(.slice A3 n3 c3)/\∃A4 n4 c4,w3.cell? (p2.add 1)=some (.slice A4 n4 c4)/\∃I1:Nat->Option Addr->Nat->Nat->Int->World->Prop,(∃k1,I1 k1 A3 n3 c3 0 w3)/\∀k1 (A5:Option Addr) (n5 c5:Nat) (x4:Int) (w4:World),I1 k1 A5 n5 c5 x4 w4->((x4<(n4:Int)->(0<=x4/\x4<(n4:Int)/\∃a2,A4=some a2/\∃x5,w4.cell? (a2.add (x4.toNat*1))=some (iv x5)/\∀w16,aO w4 w16->∀(p3:Addr) (w5:World),New w16 (.cells #[.int .u8 32] T.uint8) p3 w5->(∀w15,aO w5 w15->∃(A6:Option Addr) (n6 c6:Nat) (w6:World),(Builtin.append_ #[T.Pj,T.Pj] T.Pj #[.slice A5 n5 c5,.slice (some p3) 1 1]).run P w15= .ok (.slice A6 n6 c6) w6/\(∀w8,aO w6 w8->Calls P F.bV #[.pointer (some (p1.add 0)),iv x5] w8 (cO fun v2 w7=>∃x6,v2=(iv x6)/\∀w11,aO w7 w11->Calls P F.xR #[.slice A6 n6 c6,iv x6,iv 10] w11 (cO fun v3 w10=>∃A7 n7 c7,v3=(.slice A7 n7 c7)/\∀w13,aO w10 w13->((Gx k1 I1 x4) A7 n7 c7 w13)))))))/\(¬(x4<(n4:Int))->(∃s2:ByteArray,(convert T.Pj T.string (.slice A5 n5 c5)).run P w4= .ok (.string s2) w4/\K s2 w4))))))
theorem aDz (p1:Addr) (x1:Int) (K:ByteArray->World->Prop) (w:World) (H:Nu p1 x1 K w):Calls P F.Bc #[.pointer (some p1),iv x1] w (cO fun v w'=>∃s1:ByteArray,v=(.string s1)/\K s1 w'):=by
 unfold Nu at H;refine bT (P:=P) Tryz.func26 rfl [(0,.pointer (some p1)),(1,iv x1)] 38 rfl rfl (aa rfl (aa rfl az)) (aG (aF (ag rfl (aH (nc (y2 0 1 rfl) (aG (aF (mv rfl (nk rfl (fa rfl (TF.jB _ _) ?_))))))))));obtain⟨A1,n1,c1,h1,H⟩:=H;refine ld rfl (aJ TF.fD h1) (mv rfl ?_);obtain⟨h2,h3,a1,e1,H⟩:=H;refine ix rfl rfl (aU TF.dN TF.bY e1 h2 h3) ?_;obtain⟨x2,A2,n2,c2,h4,H⟩:=H;refine ld rfl (gW (vs:=[iv x2,.slice A2 n2 c2]) TF.oK TF.bY h4) (iP (f:=(fun p=> .pointer (some p))) rfl rfl (aI rfl) (fun a ha=>mV (nC TF.Ar)) ?_);intro p2 w1 hN;obtain⟨h6,H⟩:=H _ _ hN;refine oO rfl (aI rfl) (xs rfl rfl (kN TF.bY (by simp[Value.oneCell']) h6)) ?_;intro w2 hw;replace H:=H _ hw;clear hw;refine aH (nc (y2 0 5 rfl) (aG (aF (fa rfl (TF.kU _ _) ?_))));obtain⟨x3,h7,H⟩:=H;refine ld rfl (aJ TF.aP h7) (sc rfl rfl FF.Ee H ?_);rintro _ w3 ⟨A3,n3,c3,rfl,H⟩;refine ag rfl (aH (nc (y3 0 5 6 rfl) (aG (aG (aF (fa rfl (TF.fF _ _) ?_))))));obtain⟨A4,n4,c4,h8,H⟩:=H;refine ld rfl (aJ TF.bM h8) (sv rfl rfl (xb rfl (fun _=>bW TF.bP)) (mv rfl (aH (nc (y5 0 6 20 21 22 rfl) (aY ?_)))));obtain⟨I1,⟨k1,hi⟩,H⟩:=H;refine fK (fun k1 a w'=>∃A5 n5 c5,∃x4,Ok 38 [(0,.pointer (some p1)),(6,.slice A5 n5 c5),(20,.slice A4 n4 c4),(21,iv (n4:Int)),(22,iv x4)] a/\I1 k1 A5 n5 c5 x4 w') (fun a ha=>⟨k1,A3,n3,c3,0,ha.weaken cs,hi⟩) ?_;rintro k1 a w4 ⟨A5,n5,c5,x4,ha,hI⟩;replace H:=H k1 A5 n5 c5 x4 w4 hI;refine cu ha ?_;refine aG (aF (bo rfl rfl iY (aH (nc (y6 0 6 20 21 22 23 rfl) (aG ?_)))));refine bC rfl (fun hb=> ?_) (fun hb=> ?_)
 ·replace H:=H.1 hb;refine aX (nc (y5 0 6 20 21 22 rfl) ?_);refine fA (fun a w=>∃A8 n8 c8,Ok 38 [(0,.pointer (some p1)),(6,.slice A8 n8 c8),(20,.slice A4 n4 c4),(21,iv (n4:Int)),(22,iv x4)] a/\Gx k1 I1 x4 A8 n8 c8 w) ?_ ?_
  ·rintro a w14 ⟨A8,n8,c8,ha,H⟩;unfold Gx at H;refine cu ha ?_;refine aF (bo rfl rfl kC (mv rfl (aH ?_)));obtain⟨k2,hk,H⟩:=H;exact bD fun a ha=>⟨k2,hk,A8,n8,c8,IntKind.wrap .i64 (x4+1),ha.weaken cs,H⟩
  ·refine aY (aG (aF ?_));obtain⟨h9,h10,a2,e2,H⟩:=H;refine ix rfl rfl (aU TF.aV TF.size_int e2 h9 h10) ?_;obtain⟨x5,h11,H⟩:=H;refine ld rfl (aJ TF.aP h11) (ag rfl (aH (nc (y6 0 6 8 20 21 22 rfl) ?_)));refine bU follows [0,3,4,5,6,9] [] 10 rfl rfl (by kernel_rfl) (fun _ _ d _ _ h=>by cases d<;>exact h) (fun cm W D=> ?_);refine aBv 0 cm rfl rfl D fun _ D=>(aBv 3 cm rfl rfl D fun _ D=>(Ut 4 cm rfl rfl D fun _ D=>(Fb 5 cm rfl rfl (TF.bI _ _) D fun _ D=>(aBv 6 cm rfl rfl D fun _ D=>(ar 1 ?_)))));replace H:=H _ D;refine lS (f:=(fun p=> .slice (some p) 1 1)) rfl rfl rfl (aI rfl) (xl 1 1 (.cells #[.int .u8 32] T.uint8) rfl) rfl false (by kernel_rfl) ?_;intro p3 w5 hN _ D;replace H:=H _ _ hN;refine⟨fun h=>(by cases h),?_⟩;refine ar 2 ?_;obtain⟨A6,n6,c6,w6,h12,H⟩:=H _ D;refine Ap rfl rfl rfl (aI rfl) (xb rfl (fun _=>dY h12)) rfl false (by kernel_rfl) ?_;intro _ D;refine⟨fun h=>(by cases h),?_⟩;refine ar 7 ?_;replace H:=H _ D;refine Vx rfl rfl rfl (aI rfl) (xc rfl rfl FF.bJ) rfl false (by kernel_rfl) H ?_;rintro _ w7 ⟨x6,rfl,H⟩ _ D;refine⟨fun h=>(by cases h),?_⟩;refine ar 8 ?_;replace H:=H _ D;refine Vx rfl rfl rfl (aI rfl) (xc rfl rfl FF.Ee) rfl false (by kernel_rfl) H ?_;rintro _ w10 ⟨A7,n7,c7,rfl,H⟩ _ D;refine⟨fun h=>(by cases h),?_⟩;refine Bo 9 cm rfl rfl D fun _ D=>(dJ (by kernel_rfl) D ?_);intro w13 D;replace H:=H _ D;clear D cm;exact bZ (bD fun a ha=>⟨A7,n7,c7,ha.weaken cs,H⟩)
 ·replace H:=H.2 hb;refine eU (aT (aT (bQ (nc (kp 6 rfl zz) (aG (aF (mv rfl ?_)))))));obtain⟨s2,h17,H⟩:=H;exact sv rfl rfl (fun a ha=>aMb (ha.ev rfl) h17) (ag rfl (aH (nc (kp 4 rfl zz) (bK (aN (res1 rfl rfl) ⟨_,rfl,_,rfl,H⟩)))))
def Ic (p1:Addr) (x1:Int) (K:Int->Bool->World->Prop) (w:World):Prop:=
 Calls P F.Bc #[.pointer (some p1),iv x1] w (cO fun v1 w1=>∃s1:ByteArray,v1=(.string s1)/\∃m1:Option Nat,w1.cell? (p1.add 6)=some (.map m1)/\∃x3,∃b2,(Instr.lookup T.Ec (.map m1) (.string s1) true).run P w1= .ok (.tuple #[iv x3,.bool b2]) w1/\(b2=true->(K x3 false w1))/\(b2=false->(∃m2:Option Nat,w1.cell? (p1.add 6)=some (.map m2)/\∃w2:World,(Instr.mapUpdate T.Ec (.map m2) (.string s1) (iv x1)).run P w1= .ok () w2/\(∃A1 n1 c1,w2.cell? (p1.add 9)=some (.slice A1 n1 c1)/\∀(p2:Addr) (w3:World),New w2 (.cells #[.string s1,.bool false,iv 0,iv 0,iv 0,iv 0,iv 0,iv 0] T.kS) p2 w3->(∃(A2:Option Addr) (n2 c2:Nat) (w4:World),(Builtin.append_ #[T.kH,T.kH] T.kH #[.slice A1 n1 c1,.slice (some p2) 1 1]).run P w3= .ok (.slice A2 n2 c2) w4/\((∃u1,w4.cell? (p1.add 9)=some u1)/\w4.frozen? (p1.add 9)=false/\∀w5,w5=w4.setCell (p1.add 9) (.slice A2 n2 c2)->(K x1 true w5)))))))
theorem aCf (p1:Addr) (x1:Int) (K:Int->Bool->World->Prop) (w:World) (H:Ic p1 x1 K w):Calls P F.uK #[.pointer (some p1),iv x1] w (cO fun v w'=>∃x2,∃b1,v=(.tuple #[iv x2,.bool b1])/\K x2 b1 w'):=by
 unfold Ic at H;refine bT (P:=P) Tryz.func18 rfl [(0,.pointer (some p1)),(1,iv x1)] 41 rfl rfl (aa rfl (aa rfl az)) (aG (aF (ag rfl (ag rfl (aH (nc (y2 0 1 rfl) (aG (aF (mv rfl (mv rfl (sc rfl rfl FF.Xt H ?_)))))))))));rintro _ w1 ⟨s1,rfl,H⟩;refine ag rfl (aH (nc (y3 0 1 6 rfl) (aG (aG (aF (mv rfl (nk rfl (fa rfl (TF.Qk _ _) ?_))))))));obtain⟨m1,h1,H⟩:=H;refine ld rfl (aJ TF.Iq h1) (mv rfl ?_);obtain⟨x3,b2,h2,H⟩:=H;refine sv rfl rfl (fun a ha=>aF4 (ha.ev rfl) (ha.ev rfl) h2) (mv rfl (sv rfl rfl (xe rfl rfl) (sv rfl rfl (xe rfl rfl) (ag rfl (ag rfl (aH (nc (y5 0 1 6 7 8 rfl) (aG (aF (mv rfl (aH (nc (y5 0 1 6 7 21 rfl) ?_))))))))))));refine eG rfl (fun hb=> ?_) (fun hb=> ?_)
 ·replace H:=H.1 hb;exact aG (aF (mv rfl (ag rfl (ag rfl (aH (nc (y2 4 5 rfl) (bK (aQ (aN (Jk rfl rfl rfl) ⟨_,rfl,_,_,rfl,H⟩)))))))))
 ·replace H:=H.2 hb;refine aX (nc (y3 0 1 6 rfl) (aG (aF (mv rfl (nk rfl (fa rfl (TF.Qk _ _) ?_))))));obtain⟨m2,h3,H⟩:=H;refine ld rfl (aJ TF.Iq h3) (mv rfl (mv rfl ?_));obtain⟨w2,h4,H⟩:=H;refine aL7 rfl (aI rfl) (fun a ha=>aAh (ha.ev rfl) (ha.ev rfl) (ha.ev rfl) h4) (aH (nc (y3 0 1 6 rfl) (aG (aF (mv rfl (mv rfl (nk rfl (fa rfl (TF.kT _ _) ?_))))))));obtain⟨A1,n1,c1,h5,H⟩:=H;refine ld rfl (aJ TF.qY h5) (mv rfl (sv rfl rfl (xp (.agg #[.string s1,.bool false,iv 0,iv 0,iv 0,iv 0,iv 0,iv 0]) rfl) (sz rfl rfl (xl 1 1 (.cells #[.string s1,.bool false,iv 0,iv 0,iv 0,iv 0,iv 0,iv 0] T.kS) rfl) ?_)));intro p2 w3 hN;obtain⟨A2,n2,c2,w4,h6,H⟩:=H _ _ hN;refine sv rfl rfl (xb rfl (fun _=>dY h6)) (nk rfl (fa rfl (TF.kT _ _) ?_));obtain⟨⟨u1,h7⟩,h8,H⟩:=H;refine oO rfl (aI rfl) (xs rfl rfl (dM TF.zS rfl rfl h7 h8)) ?_;intro w5 hw;replace H:=H _ hw;clear hw;exact aH (nc (kp 1 rfl zz) (aG (aF (mv rfl (ag rfl (ag rfl (aH (nc (y2 4 5 rfl) (bK (aN (Jk rfl rfl rfl) ⟨_,rfl,_,_,rfl,H⟩))))))))))
def xW (p1:Addr) (x1:Int) (K:World->Prop) (x6:Int) (p3:Addr) (w4:World):Prop:=
 ∃A2 n2 c2,w4.cell? (p1.add 7)=some (.slice A2 n2 c2)/\0<=x1/\x1<(n2:Int)/\∃a2,A2=some a2/\(∃u1,w4.cell? ((a2.add (x1.toNat*5)).add 0)=some u1)/\w4.frozen? ((a2.add (x1.toNat*5)).add 0)=false/\∀w7,w7=w4.setCell ((a2.add (x1.toNat*5)).add 0) (iv (-1))->(∃I1:Nat->Int->World->Prop,(∃k1,I1 k1 x6 w7)/\∀k1 (x7:Int) (w8:World),I1 k1 x7 w8->(∃x8,w8.cell? (p3.add 0)=some (iv x8)/\(0<=x8->(∃x9,w8.cell? (p3.add 0)=some (iv x9)/\∃A3 n3 c3,w8.cell? (p1.add 7)=some (.slice A3 n3 c3)/\0<=x9/\x9<(n3:Int)/\∃a3,A3=some a3/\∃x10,∃b2,∃x11,∃x12,∃x13,bG w8 (a3.add (x9.toNat*5)) [iv x10,.bool b2,iv x11,iv x12,iv x13]/\∀(p4:Addr) (w9:World),New w8 (.cells #[iv 0,.bool false,iv 0,iv 0,iv 0] T.jG) p4 w9->(oH w9 p4 5/\∀w10,w10=cZ w9 p4 [iv x10,.bool b2,iv x11,iv x12,iv x13]->((∃u2,w10.cell? (p3.add 0)=some u2)/\w10.frozen? (p3.add 0)=false/\∀w11,w11=w10.setCell (p3.add 0) (iv x7)->(∃A4 n4 c4,w11.cell? (p1.add 7)=some (.slice A4 n4 c4)/\∃x14,∃b3,∃x15,∃x16,∃x17,bG w11 p3 [iv x14,.bool b3,iv x15,iv x16,iv x17]/\0<=x9/\x9<(n4:Int)/\∃a4,A4=some a4/\∀w17,aO w11 w17->oH w17 (a4.add (x9.toNat*5)) 5/\∀w12,w12=cZ w17 (a4.add (x9.toNat*5)) [iv x14,.bool b3,iv x15,iv x16,iv x17]->(∀w13,aO w12 w13->(∃x18,∃b4,∃x19,∃x20,∃x21,bG w13 p4 [iv x18,.bool b4,iv x19,iv x20,iv x21]/\∀w16,aO w13 w16->oH w16 p3 5/\∀w14,w14=cZ w16 p3 [iv x18,.bool b4,iv x19,iv x20,iv x21]->(∀w15,aO w14 w15->(∃k2,k2<k1/\I1 k2 x9 w15)))))))))/\(¬(0<=x8)->(K w8))))
def Ju (p1:Addr) (x1:Int) (K:World->Prop) (w:World):Prop:=
 ∃A1 n1 c1,w.cell? (p1.add 7)=some (.slice A1 n1 c1)/\0<=x1/\x1<(n1:Int)/\∃a1,A1=some a1/\∃x2,∃b1,∃x3,∃x4,∃x5,bG w (a1.add (x1.toNat*5)) [iv x2,.bool b1,iv x3,iv x4,iv x5]/\∀w6,aO w w6->∀(p2:Addr) (w1:World),New w6 (.cells #[iv 0,.bool false,iv 0,iv 0,iv 0] T.jG) p2 w1->(∀w5,aO w1 w5->oH w5 p2 5/\∀w2,w2=cZ w5 p2 [iv x2,.bool b1,iv x3,iv x4,iv x5]->(∀w3,aO w2 w3->((xW p1 x1 K) x1 p2 w3)))
theorem aCv (p1:Addr) (x1:Int) (K:World->Prop) (w:World) (H:Ju p1 x1 K w):Calls P F.Ky #[.pointer (some p1),iv x1] w (cO fun v w'=>v=(.tuple #[])/\K w'):=by
 unfold Ju at H;refine bT (P:=P) Tryz.func27 rfl [(0,.pointer (some p1)),(1,iv x1)] 46 rfl rfl (aa rfl (aa rfl az)) ?_;refine fA (fun a w=>∃x6,∃p3:Addr,Ok 46 [(0,.pointer (some p1)),(1,iv x1),(4,iv x6),(5,.pointer (some p3))] a/\xW p1 x1 K x6 p3 w) ?_ ?_
 ·rintro a w4 ⟨x6,p3,ha,H⟩;unfold xW at H;refine cu ha ?_;refine aG (aF (mv rfl (nk rfl (fa rfl (TF.jX _ _) ?_))));obtain⟨A2,n2,c2,h7,H⟩:=H;refine ld rfl (aJ TF.jW h7) (mv rfl ?_);obtain⟨h8,h9,a2,e2,H⟩:=H;refine ix rfl rfl (aU TF.iD TF.dQ e2 h8 h9) (fa rfl (TF.nX _ _) ?_);obtain⟨⟨u1,h10⟩,h11,H⟩:=H;refine oO rfl (aI rfl) (xs rfl rfl (dM TF.size_int rfl rfl h10 h11)) ?_;intro w7 hw;replace H:=H _ hw;clear hw;refine aH (nc (y3 0 4 5 rfl) (aY ?_));obtain⟨I1,⟨k1,hi⟩,H⟩:=H;refine fK (fun k1 a w'=>∃x7,Ok 46 [(0,.pointer (some p1)),(4,iv x7),(5,.pointer (some p3))] a/\I1 k1 x7 w') (fun a ha=>⟨k1,x6,ha.weaken cs,hi⟩) ?_;rintro k1 a w8 ⟨x7,ha,hI⟩;replace H:=H k1 x7 w8 hI;refine cu ha ?_;refine aG (aG (aF (fa rfl (TF.nX _ _) ?_)));obtain⟨x8,h12,H⟩:=H;refine ld rfl (aJ TF.aP h12) (bo rfl rfl Kq (aH (nc (y4 0 4 5 25 rfl) ?_)));refine bC rfl (fun hb=> ?_) (fun hb=> ?_)
  ·replace H:=H.1 hb;refine aX (nc (y3 0 4 5 rfl) (aY (aG (aF (fa rfl (TF.nX _ _) ?_)))));obtain⟨x9,h13,H⟩:=H;refine ld rfl (aJ TF.aP h13) (ag rfl (aH (nc (y4 0 4 5 6 rfl) (aG (aF (mv rfl (nk rfl (fa rfl (TF.jX _ _) ?_))))))));obtain⟨A3,n3,c3,h14,H⟩:=H;refine ld rfl (aJ TF.jW h14) (mv rfl ?_);obtain⟨h15,h16,a3,e3,H⟩:=H;refine ix rfl rfl (aU TF.iD TF.dQ e3 h15 h16) ?_;obtain⟨x10,b2,x11,x12,x13,h17,H⟩:=H;refine ld rfl (gW (vs:=[iv x10,.bool b2,iv x11,iv x12,iv x13]) TF.uY TF.dQ h17) (iP (f:=(fun p=> .pointer (some p))) rfl rfl (aI rfl) (fun a ha=>mV (nC TF.Oo)) ?_);intro p4 w9 hN;obtain⟨h19,H⟩:=H _ _ hN;refine oO rfl (aI rfl) (xs rfl rfl (kN TF.dQ (by simp[Value.oneCell']) h19)) ?_;intro w10 hw;replace H:=H _ hw;clear hw;refine aH (nc (y5 0 4 5 6 7 rfl) (aG (aF (mv rfl (fa rfl (TF.nX _ _) ?_)))));obtain⟨⟨u2,h20⟩,h21,H⟩:=H;refine oO rfl (aI rfl) (xs rfl rfl (dM TF.size_int rfl rfl h20 h21)) ?_;intro w11 hw;replace H:=H _ hw;clear hw;refine aH (nc (y4 0 5 6 7 rfl) (aG ?_));refine bU follows [0,1,2,3,4,5,6] [3,5] 8 rfl rfl (by kernel_rfl) (fun _ _ d _ _ h=>by cases d<;>exact h) (fun cm W D=> ?_);refine gZ 0 cm rfl rfl D W fun _ D W=>(Gh 1 cm rfl rfl D W fun _ D W=>(lH 2 cm rfl rfl (TF.jX _ _) D W fun _ D W=> ?_));obtain⟨A4,n4,c4,h22,H⟩:=H;refine vl 3 cm rfl rfl (fun hw=>(aJ TF.jW ((hw.cell _).trans h22))) D W fun _ D W=>(gZ 4 cm rfl rfl D W fun _ D W=> ?_);obtain⟨x14,b3,x15,x16,x17,h23,H⟩:=H;refine vl 5 cm rfl rfl (fun hw=>(gW (vs:=[iv x14,.bool b3,iv x15,iv x16,iv x17]) TF.uY TF.dQ (hw.cells h23))) D W fun _ D W=> ?_;obtain⟨h24,h25,a4,e4,H⟩:=H;refine aCh 6 cm rfl rfl rfl (aU TF.iD TF.dQ e4 h24 h25) D fun _ D=>(ar 7 ?_);obtain⟨h26,H⟩:=H _ D;refine mY rfl rfl (aI rfl) (xs rfl rfl (kN TF.dQ (by simp[Value.oneCell']) h26)) rfl false (by kernel_rfl) ?_;intro w12 hw _ D;replace H:=H _ hw;clear hw;refine⟨fun h=>(by cases h),?_⟩;refine dJ (by kernel_rfl) D ?_;intro w13 D;replace H:=H _ D;clear D cm;refine nc (y4 0 5 6 7 rfl) ?_;refine bU follows [0,1,2] [1] 4 rfl rfl (by kernel_rfl) (fun _ _ d _ _ h=>by cases d<;>exact h) (fun cm W D=> ?_);refine gZ 0 cm rfl rfl D W fun _ D W=> ?_;obtain⟨x18,b4,x19,x20,x21,h27,H⟩:=H;refine vl 1 cm rfl rfl (fun hw=>(gW (vs:=[iv x18,.bool b4,iv x19,iv x20,iv x21]) TF.uY TF.dQ (hw.cells h27))) D W fun _ D W=>(Bo 2 cm rfl rfl D fun _ D=>(ar 3 ?_));obtain⟨h28,H⟩:=H _ D;refine mY rfl rfl (aI rfl) (xs rfl rfl (kN TF.dQ (by simp[Value.oneCell']) h28)) rfl false (by kernel_rfl) ?_;intro w14 hw _ D;replace H:=H _ hw;clear hw;refine⟨fun h=>(by cases h),?_⟩;refine dJ (by kernel_rfl) D ?_;intro w15 D;replace H:=H _ D;clear D cm;refine bZ ?_;obtain⟨k2,hk,H⟩:=H;exact bD fun a ha=>⟨k2,hk,x9,ha.weaken cs,H⟩
  ·replace H:=H.2 hb;exact eU (aT (aT (bQ (pR (res0 rfl) ⟨_,rfl,rfl,H⟩))))
 ·refine iM follows (fun _=>False) [0,1,2,3,4,5,6,7,9] [4,7] 11 rfl rfl (by kernel_rfl) (fun _ _ d _ _ h=>by cases d<;>exact h) (fun cm W D=> ?_);refine gZ 0 cm rfl rfl D W fun _ D W=>(gZ 1 cm rfl rfl D W fun _ D W=>(Gh 2 cm rfl rfl D W fun _ D W=>(lH 3 cm rfl rfl (TF.jX _ _) D W fun _ D W=> ?_)));obtain⟨A1,n1,c1,h1,H⟩:=H;refine vl 4 cm rfl rfl (fun hw=>(aJ TF.jW (hw.cell ⟨h1,fun h=>h⟩))) D W fun _ D W=>(gZ 5 cm rfl rfl D W fun _ D W=> ?_);obtain⟨h2,h3,a1,e1,H⟩:=H;refine Ie 6 cm rfl rfl rfl (aU TF.iD TF.dQ e1 h2 h3) D W fun _ D W=> ?_;obtain⟨x2,b1,x3,x4,x5,h4,H⟩:=H;refine vl 7 cm rfl rfl (fun hw=>(gW (vs:=[iv x2,.bool b1,iv x3,iv x4,iv x5]) TF.uY TF.dQ (hw.cells ⟨h4,fun h=>h⟩))) D W fun _ D W=>(ar 8 ?_);replace H:=H _ D;refine lS (f:=(fun p=> .pointer (some p))) rfl rfl rfl (aI rfl) (fun a ha=>mV (nC TF.Oo)) rfl true (by kernel_rfl) ?_;intro p2 w1 hN _ D;replace H:=H _ _ hN;replace W:=(W.new hN).drawn D;refine⟨fun _=>W,?_⟩;refine Bo 9 cm rfl rfl D fun _ D=>(ar 10 ?_);obtain⟨h6,H⟩:=H _ D;refine mY rfl rfl (aI rfl) (xs rfl rfl (kN TF.dQ (by simp[Value.oneCell']) h6)) rfl false (by kernel_rfl) ?_;intro w2 hw _ D;replace H:=H _ hw;clear hw;refine⟨fun h=>(by cases h),?_⟩;refine dJ (by kernel_rfl) D ?_;intro w3 D;replace H:=H _ D;clear D cm;exact bD fun a ha=>⟨x1,p2,ha.weaken cs,H⟩
def lG (K:Bool->World->Prop) (w:World) (b2:Bool):Prop:=
 K b2 w
def Ir (p1:Addr) (x1:Int) (x2:Int) (K:Bool->World->Prop) (w:World):Prop:=
 (0<=x1->((0<=x2->(∃A1 n1 c1,w.cell? (p1.add 4)=some (.slice A1 n1 c1)/\(x1<(n1:Int)->(∃A2 n2 c2,w.cell? (p1.add 4)=some (.slice A2 n2 c2)/\(lG K w) (decide (x2<(n2:Int)))))/\(¬(x1<(n1:Int))->((lG K w) false))))/\(¬(0<=x2)->((lG K w) false))))/\(¬(0<=x1)->((lG K w) false))
theorem aB6 (p1:Addr) (x1:Int) (x2:Int) (K:Bool->World->Prop) (w:World) (H:Ir p1 x1 x2 K w):Calls P F.lX #[.pointer (some p1),iv x1,iv x2] w (cO fun v w'=>∃b1,v=(.bool b1)/\K b1 w'):=by
 unfold Ir at H;refine bT (P:=P) Tryz.func57 rfl [(0,.pointer (some p1)),(1,iv x1),(2,iv x2)] 31 rfl rfl (aa rfl (aa rfl (aa rfl az))) (aG (aF (ag rfl (aH (nc (y3 0 1 2 rfl) ?_)))));refine fM (fun a=>∃b2,Ok 31 [(6,.bool b2)] a/\lG K w b2) ?_ ?_
 ·rintro a ⟨b2,ha,H⟩;unfold lG at H;refine cu ha ?_;exact bK (aN (res1 rfl rfl) ⟨_,rfl,_,rfl,H⟩)
 ·refine aF (mv rfl (bo rfl rfl Kq ?_));rcases Classical.em (0<=x1) with hb|hb
  ·replace H:=H.1 hb;refine sv rfl rfl (xt rfl hb) (Bv rfl rfl rfl (Qh rfl rfl rfl rfl Kq (pt rfl rfl ?_)));rcases Classical.em (0<=x2) with hb|hb
   ·replace H:=H.1 hb;refine sv rfl rfl (xt rfl hb) (Bv rfl rfl rfl (Bv rfl rfl rfl (nkg rfl rfl rfl (Zu rfl rfl rfl (TF.jB _ _) ?_))));obtain⟨A1,n1,c1,h1,H⟩:=H;refine Qo rfl rfl rfl (aJ TF.fD h1) (svg rfl rfl rfl rfl (xb rfl (fun _=>bW TF.dS)) (Qh rfl rfl rfl rfl iY (pt rfl rfl ?_)));rcases Classical.em (x1<(n1:Int)) with hb|hb
    ·replace H:=H.1 hb;refine sv rfl rfl (xt rfl hb) (Bv rfl rfl rfl (Bv rfl rfl rfl (nkg rfl rfl rfl (Zu rfl rfl rfl (TF.jB _ _) ?_))));obtain⟨A2,n2,c2,h2,H⟩:=H;exact Qo rfl rfl rfl (aJ TF.fD h2) (svg rfl rfl rfl rfl (xb rfl (fun _=>bW TF.dS)) (Qh rfl rfl rfl rfl iY (pt rfl rfl (ag rfl (aH (bD fun a ha=>⟨⟨(decide (x2<(n2:Int))),ha.weaken cs,H⟩,rfl⟩))))))
    ·replace H:=H.2 hb;exact sv rfl rfl (xf rfl hb) (sk rfl rfl rfl rfl (sk rfl rfl rfl rfl (sk rfl rfl rfl rfl (sk rfl rfl rfl rfl (sk rfl rfl rfl rfl (sk rfl rfl rfl rfl (sk rfl rfl rfl rfl (pf rfl rfl (ag rfl (aH (bD fun a ha=>⟨⟨false,ha.weaken cs,H⟩,rfl⟩)))))))))))
   ·replace H:=H.2 hb;exact sv rfl rfl (xf rfl hb) (sk rfl rfl rfl rfl (sk rfl rfl rfl rfl (sk rfl rfl rfl rfl (sk rfl rfl rfl rfl (sk rfl rfl rfl rfl (sk rfl rfl rfl rfl (sk rfl rfl rfl rfl (pf rfl rfl (mv rfl (sk rfl rfl rfl rfl (sk rfl rfl rfl rfl (sk rfl rfl rfl rfl (sk rfl rfl rfl rfl (sk rfl rfl rfl rfl (sk rfl rfl rfl rfl (sk rfl rfl rfl rfl (pf rfl rfl (ag rfl (aH (bD fun a ha=>⟨⟨false,ha.weaken cs,H⟩,rfl⟩))))))))))))))))))))
  ·replace H:=H.2 hb;exact sv rfl rfl (xf rfl hb) (sk rfl rfl rfl rfl (sk rfl rfl rfl rfl (pf rfl rfl (mv rfl (sk rfl rfl rfl rfl (sk rfl rfl rfl rfl (sk rfl rfl rfl rfl (sk rfl rfl rfl rfl (sk rfl rfl rfl rfl (sk rfl rfl rfl rfl (sk rfl rfl rfl rfl (pf rfl rfl (mv rfl (sk rfl rfl rfl rfl (sk rfl rfl rfl rfl (sk rfl rfl rfl rfl (sk rfl rfl rfl rfl (sk rfl rfl rfl rfl (sk rfl rfl rfl rfl (sk rfl rfl rfl rfl (pf rfl rfl (ag rfl (aH (bD fun a ha=>⟨⟨false,ha.weaken cs,H⟩,rfl⟩))))))))))))))))))))))))
def uS (w:World) (p1:Addr) (K:World->Prop) (x4:Int):Prop:=
 ∃A2 n2 c2,w.cell? (p1.add 7)=some (.slice A2 n2 c2)/\0<=x4/\x4<(n2:Int)/\∃a2,A2=some a2/\(∃u1,w.cell? ((a2.add (x4.toNat*5)).add 0)=some u1)/\w.frozen? ((a2.add (x4.toNat*5)).add 0)=false/\∀w1,w1=w.setCell ((a2.add (x4.toNat*5)).add 0) (iv (-1))->(K w1)
def Nv (p1:Addr) (x1:Int) (x2:Int) (K:World->Prop) (w:World):Prop:=
 ∃A1 n1 c1,w.cell? (p1.add 7)=some (.slice A1 n1 c1)/\0<=x1/\x1<(n1:Int)/\∃a1,A1=some a1/\∃x3,w.cell? ((a1.add (x1.toNat*5)).add 0)=some (iv x3)/\(x3≠x2->((uS w p1 K) x2))/\(¬(x3≠x2)->((uS w p1 K) x1))
theorem aD8 (p1:Addr) (x1:Int) (x2:Int) (K:World->Prop) (w:World) (H:Nv p1 x1 x2 K w):Calls P F.Om #[.pointer (some p1),iv x1,iv x2] w (cO fun v w'=>v=(.tuple #[])/\K w'):=by
 unfold Nv at H;refine bT (P:=P) Tryz.func74 rfl [(0,.pointer (some p1)),(1,iv x1),(2,iv x2)] 24 rfl rfl (aa rfl (aa rfl (aa rfl az))) ?_;refine fM (fun a=>∃x4,Ok 24 [(0,.pointer (some p1)),(1,iv x4)] a/\uS w p1 K x4) ?_ ?_
 ·rintro a ⟨x4,ha,H⟩;unfold uS at H;refine cu ha ?_;refine aF (mv rfl (nk rfl (fa rfl (TF.jX _ _) ?_)));obtain⟨A2,n2,c2,h5,H⟩:=H;refine ld rfl (aJ TF.jW h5) (mv rfl ?_);obtain⟨h6,h7,a2,e2,H⟩:=H;refine ix rfl rfl (aU TF.iD TF.dQ e2 h6 h7) (fa rfl (TF.nX _ _) ?_);obtain⟨⟨u1,h8⟩,h9,H⟩:=H;refine oO rfl (aI rfl) (xs rfl rfl (dM TF.size_int rfl rfl h8 h9)) ?_;intro w1 hw;replace H:=H _ hw;clear hw;exact aH (pR (res0 rfl) ⟨_,rfl,rfl,H⟩)
 ·refine aG (aF (mv rfl (nk rfl (fa rfl (TF.jX _ _) ?_))));obtain⟨A1,n1,c1,h1,H⟩:=H;refine ld rfl (aJ TF.jW h1) (mv rfl ?_);obtain⟨h2,h3,a1,e1,H⟩:=H;refine ix rfl rfl (aU TF.iD TF.dQ e1 h2 h3) (fa rfl (TF.nX _ _) ?_);obtain⟨x3,h4,H⟩:=H;refine ld rfl (aJ TF.aP h4) (mv rfl (bo rfl rfl qR (aH (nc (y4 0 1 2 15 rfl) ?_))));refine bC rfl (fun hb=> ?_) (fun hb=> ?_)
  ·replace H:=H.1 hb;exact aF (mv rfl (ag rfl (aH (bD fun a ha=>⟨⟨x2,ha.weaken cs,H⟩,rfl⟩))))
  ·replace H:=H.2 hb;exact aX (bD fun a ha=>⟨⟨x1,ha.weaken cs,H⟩,rfl⟩)
def Ia (p1:Addr) (K:Option Addr->Nat->Nat->World->Prop) (w:World):Prop:=
 ∃A2 n2 c2,w.cell? (p1.add 4)=some (.slice A2 n2 c2)/\∃(A3:Option Addr) (n3 c3:Nat) (w1:World),(Instr.makeSlice T.bH (iv (n2:Int)) (iv (n2:Int))).run P w= .ok (.slice A3 n3 c3) w1/\(∃I1:Nat->Int->World->Prop,(∃k1,I1 k1 0 w1)/\∀k1 (x1:Int) (w2:World),I1 k1 x1 w2->((x1<(n3:Int)->(∃A4 n4 c4,w2.cell? ((p1.add 0).add 3)=some (.slice A4 n4 c4)/\∃x2,(∀w',aO w2 w'->Calls P F.bV #[.pointer (some (p1.add 0)),iv x1] w' fun x w''=>x= .returned (iv x2)/\aO w' w'')/\0<=x2/\x2<(n4:Int)/\∃a1,A4=some a1/\∃x3,w2.cell? (a1.add (x2.toNat*1))=some (iv x3)/\0<=x1/\x1<(n3:Int)/\∃a2,A3=some a2/\∀w5,aO w2 w5->(∃u1,w5.cell? (a2.add (x1.toNat*1))=some u1)/\w5.frozen? (a2.add (x1.toNat*1))=false/\∀w3,w3=w5.setCell (a2.add (x1.toNat*1)) (iv x3)->(∀w4,aO w3 w4->(∃k2,k2<k1/\I1 k2 (IntKind.wrap .i64 (x1+1)) w4))))/\(¬(x1<(n3:Int))->(K A3 n3 c3 w2))))
theorem aBy (p1:Addr) (K:Option Addr->Nat->Nat->World->Prop) (w:World) (H:Ia p1 K w):Calls P F.Ak #[.pointer (some p1)] w (cO fun v w'=>∃A1 n1 c1,v=(.slice A1 n1 c1)/\K A1 n1 c1 w'):=by
 unfold Ia at H;refine bT (P:=P) Tryz.func36 rfl [(0,.pointer (some p1))] 33 rfl rfl (fun p hp=>by rcases List.mem_singleton.1 hp with rfl;rfl) (aG (aF (ag rfl (aH (nc (kp 0 rfl zz) (aG (aF (mv rfl (nk rfl (fa rfl (TF.jB _ _) ?_))))))))));obtain⟨A2,n2,c2,h1,H⟩:=H;refine ld rfl (aJ TF.fD h1) (sv rfl rfl (xb rfl (fun _=>bW TF.dS)) ?_);obtain⟨A3,n3,c3,w1,h2,H⟩:=H;refine sv rfl rfl (fun a ha=>pW (ha.ev rfl) (ha.ev rfl) h2) (ag rfl (aH (nc (y2 0 3 rfl) (aG (aG (aF (mv rfl (sv rfl rfl (xb rfl (fun _=>bW TF.bP)) (mv rfl (aH (nc (y4 0 3 12 13 rfl) (aY ?_))))))))))));obtain⟨I1,⟨k1,hi⟩,H⟩:=H;refine fK (fun k1 a w'=>∃x1,Ok 33 [(0,.pointer (some p1)),(3,.slice A3 n3 c3),(12,iv (n3:Int)),(13,iv x1)] a/\I1 k1 x1 w') (fun a ha=>⟨k1,0,ha.weaken cs,hi⟩) ?_;rintro k1 a w2 ⟨x1,ha,hI⟩;replace H:=H k1 x1 w2 hI;refine cu ha ?_;refine aG (aF (bo rfl rfl iY (aH (nc (y5 0 3 12 13 14 rfl) (aG ?_)))));refine bC rfl (fun hb=> ?_) (fun hb=> ?_)
 ·replace H:=H.1 hb;refine aX (nc (y4 0 3 12 13 rfl) (aG (aY (aG (aF (mv rfl (ag rfl (aH (nc (y5 0 3 4 12 13 rfl) ?_)))))))));refine bU follows [0,1,2,3,4,5,6,7,8,9,10,11,12,13,14] [6,11,13] 16 rfl rfl (by kernel_rfl) (fun _ _ d _ _ h=>by cases d<;>exact h) (fun cm W D=> ?_);refine gZ 0 cm rfl rfl D W fun _ D W=>(gZ 1 cm rfl rfl D W fun _ D W=>(gZ 2 cm rfl rfl D W fun _ D W=>(Gh 3 cm rfl rfl D W fun _ D W=>(lH 4 cm rfl rfl (TF.bI _ _) D W fun _ D W=>(lH 5 cm rfl rfl (TF.kG _ _) D W fun _ D W=> ?_)))));obtain⟨A4,n4,c4,h3,H⟩:=H;refine vl 6 cm rfl rfl (fun hw=>(aJ TF.bM ((hw.cell _).trans h3))) D W fun _ D W=>(gZ 7 cm rfl rfl D W fun _ D W=>(Gh 8 cm rfl rfl D W fun _ D W=>(lH 9 cm rfl rfl (TF.bI _ _) D W fun _ D W=>(gZ 10 cm rfl rfl D W fun _ D W=> ?_))));obtain⟨x2,h4,H⟩:=H;refine Ql (i:=11) cm rfl (by kernel_rfl) W rfl rfl (aI rfl) (fun w' hw a ha=>nD (ha.ev rfl) (ha.evs rfl) FF.bJ) h4 rfl ?_;intro _ hd W;replace D:=D.trans hd;clear hd;obtain⟨h5,h6,a1,e1,H⟩:=H;refine Ie 12 cm rfl rfl rfl (aU TF.aV TF.size_int e1 h5 h6) D W fun _ D W=> ?_;obtain⟨x3,h7,H⟩:=H;refine vl 13 cm rfl rfl (fun hw=>(aJ TF.aP ((hw.cell _).trans h7))) D W fun _ D W=> ?_;obtain⟨h8,h9,a2,e2,H⟩:=H;refine aCh 14 cm rfl rfl rfl (aU TF.aV TF.size_int e2 h8 h9) D fun _ D=>(ar 15 ?_);obtain⟨⟨u1,h10⟩,h11,H⟩:=H _ D;refine mY rfl rfl (aI rfl) (xs rfl rfl (dM TF.size_int rfl rfl h10 h11)) rfl false (by kernel_rfl) ?_;intro w3 hw _ D;replace H:=H _ hw;clear hw;refine⟨fun h=>(by cases h),?_⟩;refine dJ (by kernel_rfl) D ?_;intro w4 D;replace H:=H _ D;clear D cm;refine bZ (nc (y4 0 3 12 13 rfl) (aF (bo rfl rfl kC (mv rfl (aH ?_)))));obtain⟨k2,hk,H⟩:=H;exact bD fun a ha=>⟨k2,hk,IntKind.wrap .i64 (x1+1),ha.weaken cs,H⟩
 ·replace H:=H.2 hb;exact eU (aT (aT (bQ (nc (kp 3 rfl zz) (aG (aF (mv rfl (ag rfl (aH (nc (kp 2 rfl zz) (bK (aN (res1 rfl rfl) ⟨_,rfl,_,_,_,rfl,H⟩))))))))))))
def Ls (p1:Addr) (x1:Int) (x2:Int) (K:Bool->Int->World->Prop) (w:World):Prop:=
 Calls P F.lX #[.pointer (some p1),iv x1,iv x2] w (cO fun v1 w1=>∃b2,v1=(.bool b2)/\((!b2)=true->(K false 80 w1))/\((!b2)=false->(∃x4,(∀w',aO w1 w'->Calls P F.bV #[.pointer (some (p1.add 0)),iv x1] w' fun x w''=>x= .returned (iv x4)/\aO w' w'')/\∃x5,(∀w',aO w1 w'->Calls P F.bV #[.pointer (some (p1.add 0)),iv x2] w' fun x w''=>x= .returned (iv x5)/\aO w' w'')/\∀w2,aO w1 w2->(K (decide (x4=x5)) 0 w2))))
theorem aC3 (p1:Addr) (x1:Int) (x2:Int) (K:Bool->Int->World->Prop) (w:World) (H:Ls p1 x1 x2 K w):Calls P F.Em #[.pointer (some p1),iv x1,iv x2] w (cO fun v w'=>∃b1,∃x3,v=(.tuple #[.bool b1,iv x3])/\K b1 x3 w'):=by
 unfold Ls at H;refine bT (P:=P) Tryz.func38 rfl [(0,.pointer (some p1)),(1,iv x1),(2,iv x2)] 24 rfl rfl (aa rfl (aa rfl (aa rfl az))) (aG (aF (ag rfl (ag rfl (aH (nc (y3 0 1 2 rfl) (aG (aG (aF (mv rfl (mv rfl (mv rfl (sc rfl rfl FF.jL H ?_)))))))))))));rintro _ w1 ⟨b2,rfl,H⟩;refine sv rfl rfl (xu rfl sK) (aH (nc (y4 0 1 2 12 rfl) ?_));refine eG rfl (fun hb=> ?_) (fun hb=> ?_)
 ·replace H:=H.1 hb;exact aG (aF (ag rfl (ag rfl (aH (nc (y2 6 7 rfl) (bK (aQ (aN (Jk rfl rfl rfl) ⟨_,rfl,_,_,rfl,H⟩))))))))
 ·replace H:=H.2 hb;refine aX (nc (y3 0 1 2 rfl) (aG ?_));refine bU follows [0,1,2,3,4,5,6,7,8,9,10,11,12] [4,9] 13 rfl rfl (by kernel_rfl) (fun _ _ d _ _ h=>by cases d<;>exact h) (fun cm W D=> ?_);refine gZ 0 cm rfl rfl D W fun _ D W=>(Gh 1 cm rfl rfl D W fun _ D W=>(lH 2 cm rfl rfl (TF.bI _ _) D W fun _ D W=>(gZ 3 cm rfl rfl D W fun _ D W=> ?_)));obtain⟨x4,h1,H⟩:=H;refine Ql (i:=4) cm rfl (by kernel_rfl) W rfl rfl (aI rfl) (fun w' hw a ha=>nD (ha.ev rfl) (ha.evs rfl) FF.bJ) h1 rfl ?_;intro _ hd W;replace D:=D.trans hd;clear hd;refine gZ 5 cm rfl rfl D W fun _ D W=>(Gh 6 cm rfl rfl D W fun _ D W=>(lH 7 cm rfl rfl (TF.bI _ _) D W fun _ D W=>(gZ 8 cm rfl rfl D W fun _ D W=> ?_)));obtain⟨x5,h2,H⟩:=H;refine Ql (i:=9) cm rfl (by kernel_rfl) W rfl rfl (aI rfl) (fun w' hw a ha=>nD (ha.ev rfl) (ha.evs rfl) FF.bJ) h2 rfl ?_;intro _ hd W;replace D:=D.trans hd;clear hd;refine Qj 10 cm rfl rfl rfl (fun w' a ha=>fZ (ha.ev rfl) (ha.ev rfl) iR) D fun _ D=>(Bo 11 cm rfl rfl D fun _ D=>(Bo 12 cm rfl rfl D fun _ D=>(dJ (by kernel_rfl) D ?_)));intro w2 D;replace H:=H _ D;clear D cm;exact nc (y2 6 7 rfl) (bK (aN (Jk rfl rfl rfl) ⟨_,rfl,_,_,rfl,H⟩))
def Jr (p1:Addr) (K:World->Prop) (w:World):Prop:=
 ∃A1 n1 c1,w.cell? (p1.add 10)=some (.slice A1 n1 c1)/\∃A2 n2 c2,w.cell? (p1.add 8)=some (.slice A2 n2 c2)/\∃A3 n3 c3,w.cell? (p1.add 9)=some (.slice A3 n3 c3)/\∀w7,aO w w7->∀(p2:Addr) (w1:World),New w7 (.cells #[iv (n2:Int),iv (n3:Int)] T.Dt) p2 w1->(∀w6,aO w1 w6->∃(A4:Option Addr) (n4 c4:Nat) (w2:World),(Builtin.append_ #[T.zN,T.zN] T.zN #[.slice A1 n1 c1,.slice (some p2) 1 1]).run P w6= .ok (.slice A4 n4 c4) w2/\(∀w5,aO w2 w5->(∃u1,w5.cell? (p1.add 10)=some u1)/\w5.frozen? (p1.add 10)=false/\∀w3,w3=w5.setCell (p1.add 10) (.slice A4 n4 c4)->(∀w4,aO w3 w4->(K w4))))
theorem aCz (p1:Addr) (K:World->Prop) (w:World) (H:Jr p1 K w):Calls P F.wH #[.pointer (some p1)] w (cO fun v w'=>v=(.tuple #[])/\K w'):=by
 unfold Jr at H;refine bT (P:=P) Tryz.func32 rfl [(0,.pointer (some p1))] 22 rfl rfl (fun p hp=>by rcases List.mem_singleton.1 hp with rfl;rfl) ?_;refine iM follows (fun _=>False) [0,1,2,3,4,5,6,7,8,9,10,11,12,13,14,15,18,19] [4] 21 rfl rfl (by kernel_rfl) (fun _ _ d _ _ h=>by cases d<;>exact h) (fun cm W D=> ?_);refine gZ 0 cm rfl rfl D W fun _ D W=>(gZ 1 cm rfl rfl D W fun _ D W=>(Gh 2 cm rfl rfl D W fun _ D W=>(lH 3 cm rfl rfl (TF.rF _ _) D W fun _ D W=> ?_)));obtain⟨A1,n1,c1,h1,H⟩:=H;refine vl 4 cm rfl rfl (fun hw=>(aJ TF.xJ (hw.cell ⟨h1,fun h=>h⟩))) D W fun _ D W=>(gZ 5 cm rfl rfl D W fun _ D W=>(Gh 6 cm rfl rfl D W fun _ D W=>(lH 7 cm rfl rfl (TF.jV _ _) D W fun _ D W=> ?_)));obtain⟨A2,n2,c2,h2,H⟩:=H;refine Qg (E:=aO w) (i:=8) cm (fun _ _=>aO.trans) rfl (by kernel_rfl) D rfl rfl (aI rfl) (fun w' hw a ha=>nT (ha.ev rfl) (aJ TF.oJ ((hw.cell _).trans h2))) rfl ?_;intro _ hd;replace D:=D.trans hd;replace W:=cm.held _ _ W hd;clear hd;refine pv 9 cm rfl rfl rfl (fun w' a ha=>kQ (ha.evs rfl) (fun _=>bW TF.Gg)) D W fun _ D W=>(gZ 10 cm rfl rfl D W fun _ D W=>(Gh 11 cm rfl rfl D W fun _ D W=>(lH 12 cm rfl rfl (TF.kT _ _) D W fun _ D W=> ?_)));obtain⟨A3,n3,c3,h3,H⟩:=H;refine Qg (E:=aO w) (i:=13) cm (fun _ _=>aO.trans) rfl (by kernel_rfl) D rfl rfl (aI rfl) (fun w' hw a ha=>nT (ha.ev rfl) (aJ TF.qY ((hw.cell _).trans h3))) rfl ?_;intro _ hd;replace D:=D.trans hd;replace W:=cm.held _ _ W hd;clear hd;refine pv 14 cm rfl rfl rfl (fun w' a ha=>kQ (ha.evs rfl) (fun _=>bW TF.Bf)) D W fun _ D W=>(pv 15 cm rfl rfl rfl (fun w'=>xp (.agg #[iv (n2:Int),iv (n3:Int)]) rfl) D W fun _ D W=>(ar 16 ?_));replace H:=H _ D;refine lS (f:=(fun p=> .slice (some p) 1 1)) rfl rfl rfl (aI rfl) (xl 1 1 (.cells #[iv (n2:Int),iv (n3:Int)] T.Dt) rfl) rfl true (by kernel_rfl) ?_;intro p2 w1 hN _ D;replace H:=H _ _ hN;replace W:=(W.new hN).drawn D;refine⟨fun _=>W,?_⟩;refine ar 17 ?_;obtain⟨A4,n4,c4,w2,h4,H⟩:=H _ D;refine Ap rfl rfl rfl (aI rfl) (xb rfl (fun _=>dY h4)) rfl false (by kernel_rfl) ?_;intro _ D;refine⟨fun h=>(by cases h),?_⟩;refine Ut 18 cm rfl rfl D fun _ D=>(Fb 19 cm rfl rfl (TF.rF _ _) D fun _ D=>(ar 20 ?_));obtain⟨⟨u1,h5⟩,h6,H⟩:=H _ D;refine mY rfl rfl (aI rfl) (xs rfl rfl (dM TF.Wn rfl rfl h5 h6)) rfl false (by kernel_rfl) ?_;intro w3 hw _ D;replace H:=H _ hw;clear hw;refine⟨fun h=>(by cases h),?_⟩;refine dJ (by kernel_rfl) D ?_;intro w4 D;replace H:=H _ D;clear D cm;exact pR (res0 rfl) ⟨_,rfl,rfl,H⟩
structure Edge where
 to:Int
 wZ:Bool
 a:Int
 b:Int
 tag:Int
structure dK where
 a:Int
 b:Int
 tag:Int
 not:Bool
structure Chg where
 sig:ByteArray
 Oa:Bool
 s:Int
 b:Int
 from_:Int
 to:Int
 least:Int
 uses:Int
structure Mk where
 said:Int
 changes:Int
def Edge.vals (e:Edge):List Value:=[iv e.to,.bool e.wZ,iv e.a,iv e.b,iv e.tag]
def dK.vals (e:dK):List Value:=[iv e.a,iv e.b,iv e.tag,.bool e.not]
def Chg.vals (e:Chg):List Value:=[.string e.sig,.bool e.Oa,iv e.s,iv e.b,iv e.from_,iv e.to,iv e.least,iv e.uses]
def Mk.vals (e:Mk):List Value:=[iv e.said,iv e.changes]
structure NV where
 adr:Option Addr
 vals:List Value
structure GS where
 nodes:List Flat
 nvals:NV
 first:List Int
 ring:List Int
 size:List Int
 least:List Int
 uses:List (List Int)
 sigs:List (ByteArray×Int)
 why:List Edge
 stand:List dK
 changes:List Chg
 marks:List Mk
def GS.vals (g:GS):Nat->List Value
 |0=>g.first.map iv
 |1=>g.ring.map iv
 |2=>g.size.map iv
 |3=>g.least.map iv
 |4=>g.nvals.vals
 |5=>g.why.flatMap Edge.vals
 |6=>g.stand.flatMap dK.vals
 |7=>g.changes.flatMap Chg.vals
 |8=>g.marks.flatMap Mk.vals
 |k+9=>(g.uses.getD k []).map iv
def gsz:Nat->Nat
 |4=>2
 |5=>5
 |6=>4
 |7=>8
 |8=>2
 |_=>1
def gty:Nat->TypeId
 |4=>T.fJ
 |5=>T.jG
 |6=>T.qW
 |7=>T.kS
 |8=>T.Dt
 |_=>T.int
def Xm (k:Nat):Nat:=if k<5 then k else k+2
def kF (p U:Addr) (N:Nat):Lay where
 K:=9+N
 ty:=gty
 sz:=gsz
 hdr k:=if k<9 then p.add (Xm k) else U.add (k-9)
 HB b:=b=p.block\/b=U.block
abbrev yG (B0:Nat) (w:World):Prop:=Lib.TabBelow P B0 w "internal/strconv.uint64pow10" .u64 Lib.pow10Tab
theorem zH {B0:Nat} {X:Nat->Prop} {w w':World} (h:yG B0 w) (k:Keep X w w') (hB:B0<=w.heap.size) (hX:∀b,b<w.heap.size->X b->B0<=b):yG B0 w':=
 h.on ⟨k.os,k.tape,k.output,k.size,fun b hb=>k.block b (Nat.lt_of_lt_of_le hb hB) fun hx=>by have:=hX b (Nat.lt_of_lt_of_le hb hB) hx;omega⟩
theorem dU.low {H H':Nat->Prop} {w w':World} {B:Nat} (h:dU H w H' w'):dU (fun b=>b<B\/H b) w (fun b=>b<B\/H' b) w':=⟨h.keep.mono fun _ _ k=> .inr k,fun i hi k=>k.imp id (h.grow i hi)⟩
structure dF (B0:Nat) (w:World) (p:Addr) (U:Addr) (M N:Nat) (A:Nat->Option Addr) (n c:Nat->Nat) (H:Nat->Prop) (g:GS):Prop where
 yK:Vz (kF p U N) B0 w A n c g.vals
 ucell:∃cU,w.cell? (p.add 5)=some (.slice (some U) N cU)
 mcell:w.cell? (p.add 6)=some (.map (some M))
 map:rQ Value.string iv w M g.sigs
 mno:¬FX (kF p U N) A M
 nad:A 4=g.nvals.adr
 nd:St (fun b=>b<B0\/H b) w fun w=>Yi mO w g.nvals.vals g.nodes
 sub:∀b,FX (kF p U N) A b->H b
 subM:H M
 lo:∀b,H b->B0<=b/\b<w.heap.size
 pU:p.block≠U.block
 tab:yG B0 w
section
variable {B0:Nat} {w w':World} {p U:Addr} {M N:Nat} {A:Nat->Option Addr} {n c:Nat->Nat} {H:Nat->Prop} {g:GS}
theorem dF.le (h:dF B0 w p U M N A n c H g):B0<=w.heap.size:=by have:=h.lo _ h.subM;omega
theorem dF.aL0 (h:dF B0 w p U M N A n c H g):FX (kF p U N) A p.block:= .inl (.inl rfl)
theorem dF.pM (h:dF B0 w p U M N A n c H g):p.block≠M:=fun hh=>h.mno (by rw[<-hh];exact h.aL0)
theorem dF.stay (h:dF B0 w p U M N A n c H g) (k:Ext w w'):dF B0 w' p U M N A n c H g:=
 ⟨h.yK.stay k,h.ucell.imp fun _=>k.cell,k.cell h.mcell,h.map.keep k (fun h=>h),h.mno,h.nad,h.nd.iI (dU.iL k),h.sub,h.subM,fun b hb=>⟨(h.lo b hb).1,Nat.lt_of_lt_of_le (h.lo b hb).2 k.size⟩,h.pU,zH h.tab k h.le (fun _ _ h=>h.elim)⟩
theorem dF.write {X:Nat->Prop} (h:dF B0 w p U M N A n c H g) (k:Keep X w w') (hX:∀b,b<w.heap.size->X b->H b/\¬FX (kF p U N) A b/\b≠M):dF B0 w' p U M N A n c H g/\dU H w H w':=by
 have k':Keep (fun b=>X b/\b<w.heap.size) w w':=k.mono fun i hi hx=>⟨hx,hi⟩
 have iI:dU H w H w':=⟨k'.mono fun i hi hx=>(hX i hx.2 hx.1).1,fun _ _ k=>k⟩
 have hp:¬(fun b=>X b/\b<w.heap.size) p.block:=fun hx=>(hX _ hx.2 hx.1).2.1 h.aL0
 refine⟨⟨h.yK.keep k' fun b hb hx=>(hX b hx.2 hx.1).2.1 hb,?_,?_,h.map.keep k' fun hx=>(hX M hx.2 hx.1).2.2 rfl,h.mno,h.nad,h.nd.iI iI.low,h.sub,h.subM,fun b hb=>⟨(h.lo b hb).1,Nat.lt_of_lt_of_le (h.lo b hb).2 k.size⟩,h.pU,zH h.tab k' h.le (fun b _ hx=>(h.lo b (hX b hx.2 hx.1).1).1)⟩,iI⟩
 ·exact h.ucell.imp fun _ hc=>k'.cell ⟨hc,by rw[Addr.add_block];exact hp⟩
 ·exact k'.cell ⟨h.mcell,by rw[Addr.add_block];exact hp⟩
theorem dF.aE9 (h:dF B0 w p U M N A n c H g) {cs:Array Value} {T:TypeId} {q:Addr} (hN:New w (.cells cs T) q w'):dF B0 w' p U M N A n c (fun b=>H b\/b=q.block) g/\dU H w (fun b=>H b\/b=q.block) w'/\¬FX (kF p U N) A q.block/\q.block≠M:=by
 have hb:=hN.block
 have adv0:dU H w (fun b=>H b\/b=q.block) w':=⟨(Keep.refl H w).new hN,fun i hi hh=>hh.elim id fun hh=>by omega⟩
 have h':=h.stay (Ext.eY hN)
 have hsz:=hN.size
 refine⟨⟨h'.yK,h'.ucell,h'.mcell,h'.map,h'.mno,h.nad,h.nd.iI adv0.low,fun b hb=> .inl (h.sub b hb),.inl h.subM,?_,h.pU,h'.tab⟩,adv0,fun hh=> ?_,fun hh=> ?_⟩
 ·have h0:=(h.lo _ h.subM).1
  have h1:=h.map.lt
  rintro b (hb|rfl)
  ·have:=h.lo b hb
   omega
  ·omega
 ·have:=(h.yK.fx hh).2
  omega
 ·have:=h.map.lt
  omega
theorem dF.aJo {X:Nat->Prop} {A':Nat->Option Addr} {n' c':Nat->Nat} {g':GS} (h:dF B0 w p U M N A n c H g) (k:Keep X w w') (hX:∀b,b<w.heap.size->X b->FX (kF p U N) A b) (yK:Vz (kF p U N) B0 w' A' n' c' g'.vals)
  (hp:∀o,o=5\/o=6->w'.cell? (p.add o)=w.cell? (p.add o)) (hA:∀b,b<w.heap.size->FX (kF p U N) A' b->FX (kF p U N) A b) (hg:g'.nvals=g.nvals/\g'.nodes=g.nodes/\g'.sigs=g.sigs) (hA4:A' 4=A 4):
  ∃H',dF B0 w' p U M N A' n' c' H' g'/\dU H w H' w'/\∀b,H b->H' b:=by
 have hM:=h.map.lt
 have iI:dU H w (fun b=>H b\/FX (kF p U N) A' b) w':=⟨k.mono fun i hi hx=>h.sub i (hX i hi hx),fun i hi hh=>hh.elim id fun hh=>h.sub i (hA i hi hh)⟩
 obtain⟨g1,g2,g3⟩:=hg
 refine⟨_,⟨yK,h.ucell.imp fun _ hc=>(hp 5 (.inl rfl)).trans hc,(hp 6 (.inr rfl)).trans h.mcell,?_,fun hh=>h.mno (hA M hM hh),hA4.trans (h.nad.trans (by rw[g1])),?_,fun b hb=> .inr hb,.inl h.subM,?_,h.pU,zH h.tab k h.le (fun b hb hx=>(h.lo b (h.sub b (hX b hb hx))).1)⟩,iI,fun b hb=> .inl hb⟩
 ·rw[g3];exact h.map.keep k fun hx=>h.mno (hX M hM hx)
 ·rw[g1,g2];exact h.nd.iI iI.low
 ·rintro b (hb|hb)
  ·exact⟨(h.lo b hb).1,Nat.lt_of_lt_of_le (h.lo b hb).2 k.size⟩
  ·exact yK.fx hb
theorem dF.hk (h:dF B0 w p U M N A n c H g) {k:Nat} (hk:k<9):(kF p U N).hdr k=p.add (Xm k):=by
 show(if k<9 then _ else _)=_
 rw[if_pos hk]
theorem dF.aJ4 (h:dF B0 w p U M N A n c H g) (k:Nat) {o:Nat} (ho:o=5\/o=6):(kF p U N).hdr k≠p.add o:=by
 intro q
 show False
 have q':(if k<9 then p.add (Xm k) else U.add (k-9))=p.add o:=q
 split at q'
 ·have:=Et q'
  unfold Xm at this
  split at this<;>omega
 ·have hb:(U.add (k-9)).block=(p.add o).block:=by rw[q']
  rw[Addr.add_block,Addr.add_block] at hb
  exact h.pU hb.symm
theorem dF.cell (h:dF B0 w p U M N A n c H g) {k:Nat} (hk:k<9):w.cell? (p.add (Xm k))=some (.slice (A k) (n k) (c k)):=by
 have:=h.yK.cell k (show k<9+N by omega)
 rwa [h.hk hk] at this
theorem dF.row (h:dF B0 w p U M N A n c H g) {k:Nat} (hk:k<9):Row w B0 (gty k) (gsz k) (A k) (n k) (c k) (g.vals k):=h.yK.row k (show k<9+N by omega)
theorem dF.aPy (h:dF B0 w p U M N A n c H g) {k:Nat} (hk:k<9) {a:Addr} (hA:A k=some a) {j:Nat} {u:Value} (hj:j<n k*gsz k) (hw:w'=w.setCell (a.add j) u) {g':GS}
  (hv:∀i,upd g.vals k ((g.vals k).set j u) i=g'.vals i) (hg:g'.nvals=g.nvals/\g'.nodes=g.nodes/\g'.sigs=g.sigs):∃H',dF B0 w' p U M N A n c H' g'/\dU H w H' w'/\∀b,H b->H' b:=by
 obtain⟨hf,hK⟩:=h.yK.aPy (show k<9+N by omega) hA hj hw
 refine h.aJo hK (fun b _ hb=> .inr ⟨k,show k<9+N by omega,hb⟩) (hf.congr fun j _=>hv j) (fun o _=> ?_) (fun b _ hb=>hb) hg rfl
 rw[hw]
 refine World.cell?_setCell_other _ _ _ _ fun q=> ?_
 have hb:(a.add j).block=(p.add o).block:=by rw[q]
 rw[Addr.add_block,Addr.add_block] at hb
 exact h.yK.seph k (show k<9+N by omega) _ ⟨a,hA,rfl⟩ (.inl hb)
theorem dF.put (h:dF B0 w p U M N A n c H g) {k:Nat} (hk:k<9) {a:Addr} (hA:A k=some a) {j:Nat} {us:List Value} (hj:j+us.length<=n k*gsz k) (hw:w'=cZ w (a.add j) us) {g':GS}
  (hv:∀i,upd g.vals k ((g.vals k).take j++us++(g.vals k).drop (j+us.length)) i=g'.vals i) (hg:g'.nvals=g.nvals/\g'.nodes=g.nodes/\g'.sigs=g.sigs):∃H',dF B0 w' p U M N A n c H' g'/\dU H w H' w'/\∀b,H b->H' b:=by
 obtain⟨hf,hK⟩:=h.yK.put (show k<9+N by omega) hA hj hw
 refine h.aJo hK (fun b _ hb=> .inr ⟨k,show k<9+N by omega,hb⟩) (hf.congr fun j _=>hv j) (fun o _=> ?_) (fun b _ hb=>hb) hg rfl
 refine World.cell?_of_block (hK.block _ ?_ fun hb=> ?_)
 ·rw[Addr.add_block]
  exact(h.yK.hlt _ (.inl rfl)).2
 ·rw[Addr.add_block] at hb
  exact h.yK.seph k (show k<9+N by omega) _ hb (.inl rfl)
theorem dF.cut (h:dF B0 w p U M N A n c H g) {k:Nat} (hk:k<9+N) {m d:Nat} (hm:m<=n k) (hd:m<=d) (hc:d<=c k) (hw:w'=w.setCell ((kF p U N).hdr k) (.slice (A k) m d)) {g':GS}
  (hv:∀i,i<9+N->upd g.vals k ((g.vals k).take (m*gsz k)) i=g'.vals i) (hg:g'.nvals=g.nvals/\g'.nodes=g.nodes/\g'.sigs=g.sigs):∃H',dF B0 w' p U M N A (upd n k m) (upd c k d) H' g'/\dU H w H' w'/\∀b,H b->H' b:=by
 obtain⟨hf,hK⟩:=h.yK.cut (w':=w') hk hm hd hc hw
 rw[Qp] at hf
 refine h.aJo hK (fun b _ hb=> ?_) (hf.congr fun j hj=>hv j hj) (fun o ho=> ?_) (fun b _ hb=>hb) hg rfl
 ·rw[hb];exact .inl (h.yK.hb k hk)
 ·rw[hw]
  exact World.cell?_setCell_other _ _ _ _ (h.aJ4 k ho)
theorem dF.append {P:Program} (h:dF B0 w p U M N A n c H g) {k:Nat} (hk:k<9+N) {t:TypeId} {by_ m c2:Nat} {news:List Value} {a:Addr} (ht:iV P t=some (gty k)) (hinf:wP P (gty k)=some (gsz k,by_,gsz k)) (hs:0<gsz k)
  (hl:news.length=m*gsz k) (hc:bG w a news) (h1:∀u∈news,u.oneCell'=true) (hby:(n k+m)*by_<=140737488355328) (hn:n k+m<=140737488355328) {g':GS} (hv:∀i,i<9+N->upd g.vals k (g.vals k++news) i=g'.vals i) (hg:g'.nvals=g.nvals/\g'.nodes=g.nodes/\g'.sigs=g.sigs) (hk4:k≠4:=by omega):
  ∃A' c' w',(Builtin.append_ #[t,t] t #[.slice (A k) (n k) (c k),.slice (some a) m c2]).run P w= .ok (.slice A' (n k+m) c') w'/\Keep (At (A k)) w w'/\
   ∀w8,Ext w' w8->(∃u,w8.cell? ((kF p U N).hdr k)=some u)/\w8.frozen? ((kF p U N).hdr k)=false/\∀w9,w9=w8.setCell ((kF p U N).hdr k) (.slice A' (n k+m) c')->
    ∃H',dF B0 w9 p U M N (upd A k A') (upd n k (n k+m)) (upd c k c') H' g'/\dU H w H' w9/\(∀b,H b->H' b)/\∀b,b<w.heap.size->FX (kF p U N) (upd A k A') b->FX (kF p U N) A b:=by
 have hB:B0<=w.heap.size:=by have:=h.lo _ h.subM;omega
 obtain⟨A',c',w',hr,hK,hA',hh⟩:=h.yK.append (c2:=c2) hk ht hinf hs hl hc h1 hby hn hB
 refine⟨A',c',w',hr,hK,fun w8 hw8=> ?_⟩
 obtain⟨g1,g2,_,g4⟩:=hh w8 hw8
 refine⟨g1,g2,fun w9 hw9=> ?_⟩
 obtain⟨hf,hK9,hgrow⟩:=g4 w9 hw9
 have key:=h.aJo hK9 (fun b _ hb=> ?_) (hf.congr fun j hj=>hv j hj) (fun o ho=> ?_) hgrow hg (upd_ne _ _ (fun q=>hk4 q.symm))
 ·obtain⟨H',q1,q2,q3⟩:=key
  exact⟨H',q1,q2,q3,hgrow⟩
 ·rcases hb with hb|hb
  ·exact .inr ⟨k,hk,hb⟩
  ·rw[hb];exact .inl (h.yK.hb k hk)
 ·rw[hw9,World.cell?_setCell_other _ _ _ _ (h.aJ4 k ho)]
  have hno:¬At (A k) (p.add o).block:=fun hb=>h.yK.seph k hk _ hb (by rw[Addr.add_block];exact .inl rfl)
  have hlt:(p.add o).block<w.heap.size:=by rw[Addr.add_block];exact(h.yK.hlt _ (.inl rfl)).2
  exact(World.cell?_of_block (hw8.block _ (Nat.lt_of_lt_of_le hlt hK.size) (fun h=>h))).trans (World.cell?_of_block (hK.block _ hlt hno))
theorem dF.aQh (h:dF B0 w p U M N A n c H g) {l:List (ByteArray×Int)} (hm:rQ Value.string iv w' M l) (k:Keep (fun b=>b=M) w w'):dF B0 w' p U M N A n c H {g with sigs:=l}/\dU H w H w':=by
 have iI:dU H w H w':=⟨k.mono fun i _ hi=>by rw[hi];exact h.subM,fun _ _ k=>k⟩
 have hp:=h.pM
 refine⟨⟨h.yK.keep k fun b hb hx=>h.mno (by rw[<-hx];exact hb),?_,?_,hm,h.mno,h.nad,h.nd.iI iI.low,h.sub,h.subM,fun b hb=>⟨(h.lo b hb).1,Nat.lt_of_lt_of_le (h.lo b hb).2 k.size⟩,h.pU,zH h.tab k h.le (fun b _ hx=>by rw[hx];exact(h.lo _ h.subM).1)⟩,iI⟩
 ·exact h.ucell.imp fun _ hc=>k.cell ⟨hc,by rw[Addr.add_block];exact hp⟩
 ·exact k.cell ⟨h.mcell,by rw[Addr.add_block];exact hp⟩
theorem dF.Zw (h:dF B0 w p U M N A n c H g) {i:Nat} (hi:i<N):w.cell? (U.add (i*1))=some (.slice (A (9+i)) (n (9+i)) (c (9+i))):=by
 have:=h.yK.cell (9+i) (show 9+i<9+N by omega)
 have e:(kF p U N).hdr (9+i)=U.add (i*1):=by
  show(if 9+i<9 then _ else _)=_
  rw[if_neg (by omega),show 9+i-9=i*1 by omega]
 rwa [e] at this
theorem dF.aNv (h:dF B0 w p U M N A n c H g) (i:Nat):(kF p U N).hdr (9+i)=U.add (i*1):=by
 show(if 9+i<9 then _ else _)=_
 rw[if_neg (by omega),show 9+i-9=i*1 by omega]
end
theorem uN {α:Type} {f:α->List Value} {s:Nat} (hf:∀x,(f x).length=s):∀l:List α,(l.flatMap f).length=l.length*s
 |[]=>by simp
 |x::l=>by simp[hf,uN hf l,Nat.add_mul];omega
theorem Ba {α:Type} {f:α->List Value} {s:Nat} (hf:∀x,(f x).length=s):∀(l:List α) (i:Nat) (x:α),l[i]? =some x->((l.flatMap f).drop (i*s)).take s=f x
 |[],i,x,h=>by simp at h
 |y::l,0,x,h=>by
  simp at h
  subst h
  simp[List.take_append_of_le_length,hf]
 |y::l,i+1,x,h=>by
  have:=Ba hf l i x (by simpa using h)
  rw[List.flatMap_cons,Nat.add_mul,Nat.one_mul,Nat.add_comm,<-List.drop_drop,<-hf y,List.drop_left,hf y]
  exact this
theorem aI8 {α:Type} {f:α->List Value} {s:Nat} (hf:∀x,(f x).length=s):∀(l:List α) (i:Nat) (x:α),i<l.length->(l.flatMap f).take (i*s)++f x++(l.flatMap f).drop (i*s+(f x).length)=(l.set i x).flatMap f
 |[],i,x,h=>by simp at h
 |y::l,0,x,h=>by
  simp only[Nat.zero_mul,List.take_zero,List.nil_append,List.set_cons_zero,List.flatMap_cons,Nat.zero_add]
  rw[hf x,<-hf y,List.drop_left]
 |y::l,i+1,x,h=>by
  have:=aI8 hf l i x (by simpa using h)
  simp only[List.set_cons_succ,List.flatMap_cons]
  rw[<-this]
  have e:(i+1)*s=(f y).length+i*s:=by rw[hf y,Nat.add_mul,Nat.one_mul,Nat.add_comm]
  rw[e,List.take_length_add_append,Nat.add_assoc,List.drop_length_add_append]
  simp
theorem Xi {α:Type} {f:α->List Value} {s:Nat} (hf:∀x,(f x).length=s) (l:List α) (m:Nat):(l.flatMap f).take (m*s)=(l.take m).flatMap f:=by
 induction l generalizing m with
 |nil=>simp
 |cons y l ih=>
  cases m with
  |zero=>simp
  |succ m=>
   rw[List.take_succ_cons,List.flatMap_cons,List.flatMap_cons,<-ih m,Nat.add_mul,Nat.one_mul,Nat.add_comm,<-hf y,List.take_length_add_append]
section
variable {B0:Nat} {w w':World} {p U:Addr} {M N:Nat} {A:Nat->Option Addr} {n c:Nat->Nat} {H:Nat->Prop} {g:GS}
theorem dF.num (h:dF B0 w p U M N A n c H g) {k:Nat} (hk:k<4) {l:List Int} (hl:g.vals k=l.map iv) {i x:Int} (h0:0<=i) (hx:l[i.toNat]? =some x):
  w.cell? (p.add k)=some (.slice (A k) (n k) (c k))/\i<n k/\l.length=n k/\∃a,A k=some a/\w.cell? (a.add (i.toNat*1))=some (iv x)/\w.frozen? (a.add (i.toNat*1))=false:=by
 have hc:=h.cell (show k<9 by omega)
 have hr:=h.row (show k<9 by omega)
 have e1:Xm k=k:=by unfold Xm;rw[if_pos (by omega)]
 have e2:gsz k=1:=by
  match k,hk with
  |0,_=>rfl
  |1,_=>rfl
  |2,_=>rfl
  |3,_=>rfl
 rw[e1] at hc
 rw[e2] at hr
 have hlen:=hr.1
 rw[hl,List.length_map] at hlen
 have hi:=(List.getElem?_eq_some_iff.1 hx).1
 obtain⟨a,v,hA,hv,hcell,hf⟩:=hr.get h0 (show i<n k by omega)
 rw[hl,List.getElem?_map,hx] at hv
 simp only[Option.map_some,Option.some.injEq] at hv
 subst hv
 exact⟨hc,by omega,by omega,a,hA,hcell,hf⟩
theorem tC (h:dF B0 w p U M N A n c H g) {a r:Int} (h0:0<=a) (hr:g.first[a.toNat]? =some r):Quiet P F.bV #[.pointer (some p),iv a] w (iv r):=by
 obtain⟨hc,hlt,_,ad,hA,hcell,_⟩:=h.num (k:=0) (by decide) rfl h0 hr
 refine Quiet.of (cO.mono (aBe p a (fun x w'=>x=r/\aO w w') w ⟨_,_,_,hc,h0,hlt,ad,hA,r,hcell,rfl,aO.refl w⟩) ?_)
 rintro _ w' ⟨x,rfl,rfl,hd⟩
 exact⟨rfl,hd⟩
theorem aOr {cyc:List Int} {s:Int} {f:FuncId} {cs:List Value} (hf:callable P f=true) (I:Nat->World->Prop) (h0:I 0 w) (hs:cyc[0]? =some s) (hnd:cyc.Nodup)
  (hring:∀j w1,I j w1->∀(i:Nat) x,cyc[i]? =some x->∃A1 n1 c1,w1.cell? (p.add 1)=some (.slice A1 n1 c1)/\0<=x/\x<(n1:Int)/\∃a1,A1=some a1/\w1.cell? (a1.add (x.toNat*1))=some (iv (cyc.getD ((i+1)%cyc.length) 0)))
  (hcall:∀j x w1,cyc[j]? =some x->I j w1->Calls P f ([iv x]++cs:List Value).toArray w1 (cO fun v w2=>v= .tuple #[]/\I (j+1) w2)):
  Calls P F.vM #[.pointer (some p),iv s,.func (.func f) #[] cs.toArray] w (cO fun v w'=>v= .tuple #[]/\I cyc.length w'):=by
 have hpos:0<cyc.length:=(List.getElem?_eq_some_iff.1 hs).1
 refine aBd p s _ (fun w'=>I cyc.length w') w ?_
 unfold Gy
 refine⟨f,cs,rfl,hf,(hcall 0 s w hs h0).mono ?_⟩
 rintro _ w1 ⟨_,rfl,rfl,h1⟩
 obtain⟨A1,n1,c1,k1,k2,k3,a1,k4,k5⟩:=hring 1 w1 h1 0 s hs
 refine⟨_,rfl,rfl,A1,n1,c1,k1,k2,k3,a1,k4,_,k5,fun q x w2=>∃j,1<=j/\j<=cyc.length/\q=cyc.length-j/\x=cyc.getD (j%cyc.length) 0/\I j w2,⟨cyc.length-1,1,by omega,by omega,rfl,by simp,h1⟩,?_⟩
 rintro q x w2 ⟨j,j1,j2,rfl,rfl,hI⟩
 have s0:cyc.getD 0 0=s:=by rw[List.getD_eq_getElem?_getD,hs];rfl
 rcases Nat.lt_or_ge j cyc.length with hj|hj
 ·rw[Nat.mod_eq_of_lt hj]
  have hx:cyc[j]? =some (cyc.getD j 0):=by rw[List.getD_eq_getElem?_getD,List.getElem?_eq_getElem hj];rfl
  refine⟨fun hne=>⟨f,cs,rfl,hf,(hcall j _ w2 hx hI).mono ?_⟩,fun heq=> ?_⟩
  ·rintro _ w3 ⟨_,rfl,rfl,h3⟩
   obtain⟨A1,n1,c1,k1,k2,k3,a1,k4,k5⟩:=hring (j+1) w3 h3 j _ hx
   exact⟨_,rfl,rfl,A1,n1,c1,k1,k2,k3,a1,k4,_,k5,cyc.length-(j+1),by omega,j+1,by omega,by omega,rfl,rfl,h3⟩
  ·exfalso
   have heq:cyc.getD j 0=s:=Decidable.not_not.1 heq
   rw[heq] at hx
   have:=(List.getElem?_inj hj hnd).1 (hx.trans hs.symm)
   omega
 ·have hj':j=cyc.length:=by omega
  subst hj'
  rw[Nat.mod_self,s0]
  exact⟨fun hne=>absurd rfl hne,fun _=>hI⟩
def yR (l:List Int) (cyc:List Int) (b:Int):List Int:=cyc.foldl (fun l x=>l.set x.toNat b) l
theorem Yd (cyc:List Int) (b:Int):∀l:List Int,(yR l cyc b).length=l.length:=by
 unfold yR
 induction cyc with
 |nil=>intro l;rfl
 |cons x cyc ih=>intro l;simp only[List.foldl_cons];rw[ih];simp
theorem aJd (l cyc:List Int) (x b:Int):yR l (cyc++[x]) b=(yR l cyc b).set x.toNat b:=by simp[yR]
theorem aBw (b:Int) (i:Nat):∀(cyc l:List Int),(∀x∈cyc,0<=x)->(yR l cyc b)[i]? =if (i:Int)∈cyc/\i<l.length then some b else l[i]? :=by
 intro cyc
 induction cyc with
 |nil=>intro l _;simp[yR]
 |cons x cyc ih=>
  intro l hx
  have h1:yR l (x::cyc) b=yR (l.set x.toNat b) cyc b:=rfl
  rw[h1,ih _ (fun y hy=>hx y (List.mem_cons_of_mem _ hy))]
  have hx0:=hx x (List.mem_cons_self ..)
  simp only[List.length_set,List.mem_cons]
  by_cases hi:i<l.length
  ·by_cases hix:(i:Int)=x
   ·have:x.toNat=i:=by omega
    simp[hi,hix,this,List.getElem?_set]
   ·have:¬x.toNat=i:=by omega
    by_cases hm:(i:Int)∈cyc
    ·simp[hi,hm]
    ·simp[hi,hm,hix,List.getElem?_set,this]
  ·have h2:l[i]? =none:=List.getElem?_eq_none_iff.2 (by omega)
   have h3:(l.set x.toNat b)[i]? =none:=List.getElem?_eq_none_iff.2 (by simp;omega)
   simp[hi,h2,h3]
theorem aJ1 (g:GS) (l:List Int) (j:Nat) (x:Int) (hl:g.first=l):∀i,upd g.vals 0 ((g.vals 0).set j (iv x)) i=({g with first:=l.set j x}:GS).vals i:=by
 intro i
 subst hl
 match i with
 |0=>simp[upd,GS.vals,List.map_set]
 |1=>rfl
 |2=>rfl
 |3=>rfl
 |4=>rfl
 |5=>rfl
 |6=>rfl
 |7=>rfl
 |8=>rfl
 |i+9=>rfl
theorem aA1 (g:GS) (j:Nat) (x:Int):∀i,upd g.vals 1 ((g.vals 1).set j (iv x)) i=({g with ring:=g.ring.set j x}:GS).vals i:=by
 intro i
 match i with
 |0=>rfl
 |1=>simp[upd,GS.vals,List.map_set]
 |2=>rfl
 |3=>rfl
 |4=>rfl
 |5=>rfl
 |6=>rfl
 |7=>rfl
 |8=>rfl
 |i+9=>rfl
theorem aHe (g:GS) (j:Nat) (x:Int):∀i,upd g.vals 2 ((g.vals 2).set j (iv x)) i=({g with size:=g.size.set j x}:GS).vals i:=by
 intro i
 match i with
 |0=>rfl
 |1=>rfl
 |2=>simp[upd,GS.vals,List.map_set]
 |3=>rfl
 |4=>rfl
 |5=>rfl
 |6=>rfl
 |7=>rfl
 |8=>rfl
 |i+9=>rfl
theorem aFg (g:GS) (j:Nat) (x:Int):∀i,upd g.vals 3 ((g.vals 3).set j (iv x)) i=({g with least:=g.least.set j x}:GS).vals i:=by
 intro i
 match i with
 |0=>rfl
 |1=>rfl
 |2=>rfl
 |3=>simp[upd,GS.vals,List.map_set]
 |4=>rfl
 |5=>rfl
 |6=>rfl
 |7=>rfl
 |8=>rfl
 |i+9=>rfl
theorem dF.Yc (h:dF B0 w p U M N A n c H g) {k:Nat} (hk:k<4) {l:List Int} (hl:g.vals k=l.map iv) {i x y:Int} (h0:0<=i) (hx:l[i.toNat]? =some x) {a:Addr} (hA:A k=some a) (hw:w'=w.setCell (a.add (i.toNat*1)) (iv y)) {g':GS}
  (hv:∀j,upd g.vals k ((g.vals k).set i.toNat (iv y)) j=g'.vals j) (hg:g'.nvals=g.nvals/\g'.nodes=g.nodes/\g'.sigs=g.sigs):∃H',dF B0 w' p U M N A n c H' g'/\dU H w H' w'/\∀b,H b->H' b:=by
 obtain⟨_,hlt,hlen,_⟩:=h.num hk hl h0 hx
 have e2:gsz k=1:=by
  match k,hk with
  |0,_=>rfl
  |1,_=>rfl
  |2,_=>rfl
  |3,_=>rfl
 refine h.aPy (show k<9 by omega) hA (j:=i.toNat) (u:=iv y) (by rw[e2];omega) (by rw[hw,Nat.mul_one]) hv hg
def Ub (g:GS) (s b:Int) (cyc:List Int) (rs rb ss sb ls lb:Int):GS:=
 {g with first:=yR g.first cyc b,ring:=(g.ring.set s.toNat rb).set b.toNat rs,size:=g.size.set b.toNat (sb+ss),least:=g.least.set b.toNat (if ls<lb then ls else lb)}
structure aFp (g:GS) (s:Int) (cyc:List Int):Prop where
 head:cyc[0]? =some s
 nd:cyc.Nodup
 pos:∀x∈cyc,0<=x
 ring:∀(i:Nat) x,cyc[i]? =some x->g.ring[x.toNat]? =some (cyc.getD ((i+1)%cyc.length) 0)
 first:∀x∈cyc,∃y,g.first[x.toNat]? =some y
theorem aIo {q1 q2:Addr} {x y b:Int} (h:dF B0 w p U M N A n c H g) (h1:w.cell? q1=some (iv b)) (h2:w.cell? q2=some (.pointer (some p))) (x0:0<=x) (hx:g.first[x.toNat]? =some y)
  {K:World->Prop} (hK:∀w' H',dF B0 w' p U M N A n c H' {g with first:=g.first.set x.toNat b}->dU H w H' w'->(∀b,H b->H' b)->K w'):Ae x q1 q2 K w/\Ce x q1 q2 K w:=by
 obtain⟨hc,hlt,_,a,hA,hcell,hf⟩:=h.num (k:=0) (by decide) rfl x0 hx
 have key:∀w3,aO w w3->(∃u1,w3.cell? (a.add (x.toNat*1))=some u1)/\w3.frozen? (a.add (x.toNat*1))=false/\∀w1,w1=w3.setCell (a.add (x.toNat*1)) (iv b)->∀w2,aO w1 w2->K w2:=by
  intro w3 hw3
  refine⟨⟨_,(hw3.cell _).trans hcell⟩,(hw3.frozen _).trans hf,fun w1 hw1 w2 hw2=> ?_⟩
  obtain⟨H1,r1,adv1,sub1⟩:=(h.stay (Ext.aK hw3)).Yc (k:=0) (by decide) rfl x0 hx hA hw1 (aJ1 g g.first x.toNat b rfl) ⟨rfl,rfl,rfl⟩
  exact hK w2 H1 (r1.stay (Ext.aK hw2)) (((dU.aK hw3).trans adv1).trans (dU.aK hw2)) sub1
 exact⟨⟨some p,h2,p,rfl,A 0,n 0,c 0,by simpa using hc,b,h1,x0,hlt,a,hA,key⟩,⟨some p,h2,p,rfl,A 0,n 0,c 0,by simpa using hc,b,h1,x0,hlt,a,hA,key⟩⟩
end
section
variable {B0:Nat} {w w':World} {p U:Addr} {M N:Nat} {A:Nat->Option Addr} {n c:Nat->Nat} {H:Nat->Prop} {g:GS}
theorem dF.aLh (h:dF B0 w p U M N A n c H g) {b:Nat} (hb:w.heap.size<=b):¬H b:=fun hh=>by have:=(h.lo b hh).2;omega
theorem add0 (a:Addr):a.add 0=a:=Addr.add_zero a
theorem aG8 (h:dF B0 w p U M N A n c H g) {s b:Int} {cyc:List Int} (hc:aFp g s cyc) {q2 q3:Addr} (c2:w.cell? q2=some (.pointer (some p))) (c3:w.cell? q3=some (iv b)) (n2:¬H q2.block) (n3:¬H q3.block) {f:FuncId} (hf:f=F.Gm\/f=F.Ib):
  Calls P F.vM #[.pointer (some p),iv s,.func (.func f) #[] #[.pointer (some q3),.pointer (some q2)]] w (cO fun v w'=>v= .tuple #[]/\∃H',dF B0 w' p U M N A n c H' {g with first:=yR g.first cyc b}/\dU H w H' w'/\∀b,H b->H' b):=by
 have hcall:callable P f=true:=by rcases hf with rfl|rfl<;>kernel_rfl
 refine cO.mono (aOr (cs:=[.pointer (some q3),.pointer (some q2)]) hcall (fun j w'=>∃H',dF B0 w' p U M N A n c H' {g with first:=yR g.first (cyc.take j) b}/\dU H w H' w'/\∀b,H b->H' b) ⟨H,h,dU.refl H w,fun _ h=>h⟩ hc.head hc.nd ?_ ?_) ?_
 ·rintro j w1 ⟨H1,h1,adv1,_⟩ i x hx
  obtain⟨hcell,hlt,_,a,hA,hv,_⟩:=h1.num (k:=1) (by decide) rfl (hc.pos x (List.mem_of_getElem? hx)) (hc.ring i x hx)
  exact⟨_,_,_,hcell,hc.pos x (List.mem_of_getElem? hx),hlt,a,hA,hv⟩
 ·rintro j x w1 hx ⟨H1,h1,adv1,sub1⟩
  have x0:=hc.pos x (List.mem_of_getElem? hx)
  obtain⟨y,hy⟩:=hc.first x (List.mem_of_getElem? hx)
  have hy':∃z,(yR g.first (cyc.take j) b)[x.toNat]? =some z:=by
   have:=(List.getElem?_eq_some_iff.1 hy).1
   exact⟨_,List.getElem?_eq_getElem (by rw[Yd];exact this)⟩
  obtain⟨z,hz⟩:=hy'
  have key:=aIo (K:=fun w2=>∃H',dF B0 w2 p U M N A n c H' {g with first:=yR g.first (cyc.take (j+1)) b}/\dU H w H' w2/\∀b,H b->H' b) h1 (adv1.keep.cell ⟨c3,n3⟩) (adv1.keep.cell ⟨c2,n2⟩) x0 hz (fun w' H' h' adv' sub'=>by
   refine⟨H',?_,adv1.trans adv',fun b hb=>sub' b (sub1 b hb)⟩
   rw[List.take_add_one,hx]
   simp only[Option.toList_some]
   rw[aJd]
   exact h')
  rcases hf with rfl|rfl
  ·exact cO.mono (Yr x q3 q2 _ w1 key.1) (by rintro v w2 ⟨rfl,hk⟩;exact⟨rfl,hk⟩)
  ·exact cO.mono (Yx x q3 q2 _ w1 key.2) (by rintro v w2 ⟨rfl,hk⟩;exact⟨rfl,hk⟩)
 ·rintro v w' ⟨rfl,hh⟩
  rw[List.take_length] at hh
  exact⟨rfl,hh⟩
theorem aLr {l:List Int} {i j x y:Int} (h0:0<=i) (hx:l[i.toNat]? =some x):∃z,(l.set j.toNat y)[i.toNat]? =some z:=by
 have:=(List.getElem?_eq_some_iff.1 hx).1
 exact⟨_,List.getElem?_eq_getElem (by simpa using this)⟩
theorem aNj (h:dF B0 w p U M N A n c H g) {s b rs rb ss sb ls lb:Int} {cyc:List Int} (hc:aFp g s cyc) (b0:0<=b) (h1:g.ring[s.toNat]? =some rs) (h2:g.ring[b.toNat]? =some rb) (h3:g.size[s.toNat]? =some ss) (h4:g.size[b.toNat]? =some sb) (h5:g.least[s.toNat]? =some ls) (h6:g.least[b.toNat]? =some lb)
  (z0:0<=ss) (z1:0<=sb) (z2:ss<=1099511627776) (z3:sb<=1099511627776):
  Calls P F.Cf #[.pointer (some p),iv s,iv b] w (cO fun v w'=>v= .tuple #[]/\∃H',dF B0 w' p U M N A n c H' (Ub g s b cyc rs rb ss sb ls lb)/\dU H w H' w'/\∀b,H b->H' b):=by
 refine cO.mono (aAk p s b (fun w'=>∃H',dF B0 w' p U M N A n c H' (Ub g s b cyc rs rb ss sb ls lb)/\dU H w H' w'/\∀b,H b->H' b) w ?_) (by rintro v w' ⟨rfl,hk⟩;exact⟨rfl,hk⟩)
 have s0:0<=s:=hc.pos s (List.mem_of_getElem? hc.head)
 unfold Dl
 intro p2 w1 hN1 p3 w2 hN2
 have E2:Ext w w2:=(Ext.eY hN1).new hN2
 have c2:w2.cell? p2=some (.pointer (some p)):=(Ext.eY hN2).cell (by simpa [add0] using hN1.cells rfl 0 _ rfl)
 have c3:w2.cell? p3=some (iv b):=by simpa [add0] using hN2.cells rfl 0 _ rfl
 have no2:¬H p2.block:=h.aLh (by rw[hN1.block];exact Nat.le_refl _)
 have no3:¬H p3.block:=h.aLh (by rw[hN2.block];exact(Ext.eY hN1).size)
 refine⟨some p,c2,(aG8 (h.stay E2) hc c2 c3 no2 no3 (.inl rfl)).mono ?_⟩
 rintro _ w3 ⟨_,rfl,rfl,H3,g3,adv3,sub3⟩
 refine⟨_,rfl,rfl,?_⟩
 have d2:=adv3.keep.cell ⟨c2,no2⟩
 have d3:=adv3.keep.cell ⟨c3,no3⟩
 have m2:¬H3 p2.block:=fun hh=>no2 (adv3.grow _ (World.block_lt_of_cell? w2 _ c2) hh)
 have m3:¬H3 p3.block:=fun hh=>no3 (adv3.grow _ (World.block_lt_of_cell? w2 _ c3) hh)
 obtain⟨r1,r2,_,a,hA,r3,r4⟩:=g3.num (k:=1) (by decide) rfl s0 h1
 obtain⟨_,q2,_,a',hA',q3,q4⟩:=g3.num (k:=1) (by decide) rfl b0 h2
 rw[hA] at hA'
 cases hA'
 refine⟨At (A 1),some p,d2,p,rfl,_,_,_,r1,some p,d2,p,rfl,_,_,_,r1,b,d3,?_,some p,d2,p,rfl,_,_,_,r1,b,d3,b0,q2,a,hA,rb,q3,some p,d2,p,rfl,_,_,_,r1,s0,r2,a,hA,rs,r3,s0,r2,a,hA,fun w9 hw9=>⟨⟨_,(hw9.cell _).trans r3⟩,(hw9.frozen _).trans r4,fun w4 hw4=> ?_⟩⟩
 ·exact fun hh=>m3 (g3.sub _ (.inr ⟨1,show 1<9+N by omega,hh⟩))
 obtain⟨H4,g4,adv4,sub4⟩:=(g3.stay (Ext.aK hw9)).Yc (k:=1) (by decide) rfl s0 h1 hA hw4 (aA1 _ s.toNat rb) ⟨rfl,rfl,rfl⟩
 refine⟨?_,b0,q2,a,hA,fun w8 hw8=> ?_⟩
 ·have:=jE hw4
  rw[Addr.add_block] at this
  exact(Keep.aK hw9).trans (this.mono fun i _ hi=>⟨a,hA,hi.symm⟩)
 obtain⟨zz,hz⟩:=aLr (y:=rb) (j:=s) b0 h2
 obtain⟨_,_,_,a',hA',t3,t4⟩:=(g4.stay (Ext.aK hw8)).num (k:=1) (by decide) rfl b0 hz
 rw[hA] at hA'
 cases hA'
 refine⟨⟨_,t3⟩,t4,fun w5 hw5 w6 hw6=> ?_⟩
 obtain⟨H5,g5,adv5,sub5⟩:=(g4.stay (Ext.aK hw8)).Yc (k:=1) (by decide) rfl b0 hz hA hw5 (aA1 _ b.toNat rs) ⟨rfl,rfl,rfl⟩
 have g6:=g5.stay (Ext.aK hw6)
 have adv36:dU H3 w3 H5 w6:=(((dU.aK hw9).trans adv4).trans ((dU.aK hw8).trans adv5)).trans (dU.aK hw6)
 have e2:=adv36.keep.cell ⟨d2,m2⟩
 have e3:=adv36.keep.cell ⟨d3,m3⟩
 have k2:¬H5 p2.block:=fun hh=>m2 (adv36.grow _ (World.block_lt_of_cell? w3 _ d2) hh)
 have k3:¬H5 p3.block:=fun hh=>m3 (adv36.grow _ (World.block_lt_of_cell? w3 _ d3) hh)
 --the sizes
 unfold tZ
 obtain⟨u1,u2,_,a2,hA2,u3,u4⟩:=g6.num (k:=2) (by decide) rfl s0 h3
 obtain⟨_,v2,_,a2',hA2',v3,v4⟩:=g6.num (k:=2) (by decide) rfl b0 h4
 rw[hA2] at hA2'
 cases hA2'
 refine⟨some p,e2,p,rfl,_,_,_,u1,b,e3,b0,v2,a2,hA2,sb,v3,some p,e2,p,rfl,_,_,_,u1,s0,u2,a2,hA2,ss,u3,b0,v2,a2,hA2,fun w15 hw15=>⟨⟨_,(hw15.cell _).trans v3⟩,(hw15.frozen _).trans v4,fun w10 hw10 w11 hw11=> ?_⟩⟩
 rw[wrap_small (by omega) (by omega)] at hw10
 obtain⟨H7,g7,adv7,sub7⟩:=(g6.stay (Ext.aK hw15)).Yc (k:=2) (by decide) rfl b0 h4 hA2 hw10 (aHe _ b.toNat (sb+ss)) ⟨rfl,rfl,rfl⟩
 have g8:=g7.stay (Ext.aK hw11)
 have adv68:dU H5 w6 H7 w11:=((dU.aK hw15).trans adv7).trans (dU.aK hw11)
 have f2:=adv68.keep.cell ⟨e2,k2⟩
 have f3:=adv68.keep.cell ⟨e3,k3⟩
 obtain⟨x1,x2,_,a3,hA3,x3,x4⟩:=g8.num (k:=3) (by decide) rfl s0 h5
 obtain⟨_,y2,_,a3',hA3',y3,y4⟩:=g8.num (k:=3) (by decide) rfl b0 h6
 rw[hA3] at hA3'
 cases hA3'
 refine⟨some p,f2,p,rfl,_,_,_,x1,b,f3,some p,f2,p,rfl,_,_,_,x1,b,f3,b0,y2,a3,hA3,lb,y3,some p,f2,p,rfl,_,_,_,x1,s0,x2,a3,hA3,ls,x3,b0,y2,a3,hA3,fun w14 hw14=>⟨⟨_,(hw14.cell _).trans y3⟩,(hw14.frozen _).trans y4,fun w12 hw12 w13 hw13=> ?_⟩⟩
 obtain⟨H9,g9,adv9,sub9⟩:=(g8.stay (Ext.aK hw14)).Yc (k:=3) (by decide) rfl b0 h6 hA3 hw12 (aFg _ b.toNat (if ls<lb then ls else lb)) ⟨rfl,rfl,rfl⟩
 refine⟨H9,g9.stay (Ext.aK hw13),?_,fun b hb=>sub9 b (sub7 b (sub5 b (sub4 b (sub3 b hb))))⟩
 exact((((dU.iL E2).trans adv3).trans adv36).trans adv68).trans (((dU.aK hw14).trans adv9).trans (dU.aK hw13))
def aLi (g:GS) (s b:Int) (cyc:List Int) (rs rb ss sb least:Int):GS:=
 {g with ring:=(g.ring.set s.toNat rb).set b.toNat rs,first:=yR g.first cyc s,size:=g.size.set b.toNat (sb-ss),least:=g.least.set b.toNat least}
theorem aPw (h:dF B0 w p U M N A n c H g) {s b rs rb ss sb lb least:Int} {cyc:List Int} (s0:0<=s) (b0:0<=b) (h1:g.ring[s.toNat]? =some rs) (h2:g.ring[b.toNat]? =some rb) (hc:aFp {g with ring:=(g.ring.set s.toNat rb).set b.toNat rs} s cyc) (h3:g.size[s.toNat]? =some ss) (h4:g.size[b.toNat]? =some sb) (h6:g.least[b.toNat]? =some lb)
  (z0:0<=ss) (z1:0<=sb) (z2:ss<=1099511627776) (z3:sb<=1099511627776):
  Calls P F.Eo #[.pointer (some p),iv s,iv b,iv least] w (cO fun v w'=>v= .tuple #[]/\∃H',dF B0 w' p U M N A n c H' (aLi g s b cyc rs rb ss sb least)/\dU H w H' w'/\∀b,H b->H' b):=by
 refine cO.mono (aBb p s b least (fun w'=>∃H',dF B0 w' p U M N A n c H' (aLi g s b cyc rs rb ss sb least)/\dU H w H' w'/\∀b,H b->H' b) w ?_) (by rintro v w' ⟨rfl,hk⟩;exact⟨rfl,hk⟩)
 unfold Gv
 intro p2 w1 hN1 p3 w2 hN2
 have E2:Ext w w2:=(Ext.eY hN1).new hN2
 have g2:=h.stay E2
 have c2:w2.cell? p2=some (.pointer (some p)):=(Ext.eY hN2).cell (by simpa [add0] using hN1.cells rfl 0 _ rfl)
 have c3:w2.cell? p3=some (iv s):=by simpa [add0] using hN2.cells rfl 0 _ rfl
 have no2:¬H p2.block:=h.aLh (by rw[hN1.block];exact Nat.le_refl _)
 have no3:¬H p3.block:=h.aLh (by rw[hN2.block];exact(Ext.eY hN1).size)
 obtain⟨r1,r2,_,a,hA,r3,r4⟩:=g2.num (k:=1) (by decide) rfl s0 h1
 obtain⟨_,q2,_,a',hA',q3,q4⟩:=g2.num (k:=1) (by decide) rfl b0 h2
 rw[hA] at hA'
 cases hA'
 refine⟨some p,c2,p,rfl,_,_,_,r1,s,c3,some p,c2,p,rfl,_,_,_,r1,some p,c2,p,rfl,_,_,_,r1,b0,q2,a,hA,rb,q3,some p,c2,p,rfl,_,_,_,r1,s,c3,s0,r2,a,hA,rs,r3,s0,r2,a,hA,fun w8 hw8=>⟨⟨_,(hw8.cell _).trans r3⟩,(hw8.frozen _).trans r4,fun w3 hw3=> ?_⟩⟩
 obtain⟨H4,g4,adv4,sub4⟩:=(g2.stay (Ext.aK hw8)).Yc (k:=1) (by decide) rfl s0 h1 hA hw3 (aA1 _ s.toNat rb) ⟨rfl,rfl,rfl⟩
 obtain⟨zz,hz⟩:=aLr (y:=rb) (j:=s) b0 h2
 refine⟨b0,q2,a,hA,fun w7 hw7=> ?_⟩
 obtain⟨_,_,_,a',hA',t3,t4⟩:=(g4.stay (Ext.aK hw7)).num (k:=1) (by decide) rfl b0 hz
 rw[hA] at hA'
 cases hA'
 refine⟨⟨_,t3⟩,t4,fun w4 hw4 w5 hw5=> ?_⟩
 obtain⟨H5,g5,adv5,sub5⟩:=(g4.stay (Ext.aK hw7)).Yc (k:=1) (by decide) rfl b0 hz hA hw4 (aA1 _ b.toNat rs) ⟨rfl,rfl,rfl⟩
 have g6:=g5.stay (Ext.aK hw5)
 have adv26:dU H w2 H5 w5:=(((dU.aK hw8).trans adv4).trans ((dU.aK hw7).trans adv5)).trans (dU.aK hw5)
 have e2:=adv26.keep.cell ⟨c2,no2⟩
 have e3:=adv26.keep.cell ⟨c3,no3⟩
 have k2:¬H5 p2.block:=fun hh=>no2 (adv26.grow _ (World.block_lt_of_cell? w2 _ c2) hh)
 have k3:¬H5 p3.block:=fun hh=>no3 (adv26.grow _ (World.block_lt_of_cell? w2 _ c3) hh)
 unfold uV
 refine⟨some p,e2,s,e3,(aG8 g6 hc e2 e3 k2 k3 (.inr rfl)).mono ?_⟩
 rintro _ w9 ⟨_,rfl,rfl,H9,g9,adv9,sub9⟩
 have f2:=adv9.keep.cell ⟨e2,k2⟩
 have f3:=adv9.keep.cell ⟨e3,k3⟩
 have m2:¬H9 p2.block:=fun hh=>k2 (adv9.grow _ (World.block_lt_of_cell? w5 _ e2) hh)
 obtain⟨u1,u2,_,a2,hA2,u3,u4⟩:=g9.num (k:=2) (by decide) rfl s0 h3
 obtain⟨_,v2,_,a2',hA2',v3,v4⟩:=g9.num (k:=2) (by decide) rfl b0 h4
 rw[hA2] at hA2'
 cases hA2'
 refine⟨_,rfl,rfl,some p,f2,p,rfl,_,_,_,u1,b0,v2,a2,hA2,sb,v3,some p,f2,p,rfl,_,_,_,u1,s,f3,s0,u2,a2,hA2,ss,u3,b0,v2,a2,hA2,fun w13 hw13=>⟨⟨_,(hw13.cell _).trans v3⟩,(hw13.frozen _).trans v4,fun w10 hw10 w11 hw11=> ?_⟩⟩
 rw[wrap_small (by omega) (by omega)] at hw10
 obtain⟨H7,g7,adv7,sub7⟩:=(g9.stay (Ext.aK hw13)).Yc (k:=2) (by decide) rfl b0 h4 hA2 hw10 (aHe _ b.toNat (sb-ss)) ⟨rfl,rfl,rfl⟩
 have g8:=g7.stay (Ext.aK hw11)
 have adv98:dU H9 w9 H7 w11:=((dU.aK hw13).trans adv7).trans (dU.aK hw11)
 have i2:=adv98.keep.cell ⟨f2,m2⟩
 obtain⟨x1,y2,_,a3,hA3,y3,y4⟩:=g8.num (k:=3) (by decide) rfl b0 h6
 refine⟨some p,i2,p,rfl,_,_,_,x1,b0,y2,a3,hA3,⟨_,y3⟩,y4,fun w12 hw12=> ?_⟩
 obtain⟨H10,g10,adv10,sub10⟩:=g8.Yc (k:=3) (by decide) rfl b0 h6 hA3 hw12 (aFg _ b.toNat least) ⟨rfl,rfl,rfl⟩
 refine⟨H10,g10,?_,fun b hb=>sub10 b (sub7 b (sub9 b (sub5 b (sub4 b hb))))⟩
 exact((((dU.iL E2).trans adv26).trans adv9).trans adv98).trans adv10
end
theorem Jp {w w':World} {a q:Addr} {v:Value} {k:Nat} (hs:oH w q k) (hw:w'=w.setCell a v):oH w' q k:=by
 intro j hj
 obtain⟨h1,h2⟩:=hs j hj
 obtain⟨u,hu⟩:=Option.isSome_iff_exists.1 h1
 subst hw
 refine⟨?_,by rw[World.frozen?_setCell];exact h2⟩
 by_cases he:a=q.add j
 ·rw[<-he] at hu⊢
  rw[World.cell?_setCell_same w _ _ hu];rfl
 ·rw[World.cell?_setCell_other w _ _ _ he];exact h1
theorem Ve {q:Addr} {k:Nat} (p:Addr):∀(us:List Value) (i:Nat) (w:World),oH w q k->oH (dL w p i us) q k
 |[],i,w,h=>h
 |u::us,i,w,h=>Ve p us (i+1) _ (Jp h rfl)
theorem aAb {w w':World} {p q:Addr} {us:List Value} {k:Nat} (hs:oH w q k) (hw:w'=cZ w p us):oH w' q k:=by
 subst hw
 exact Ve p us 0 w hs
theorem Kw (e:Edge):e.vals.length=5:=rfl
section
variable {B0:Nat} {w w':World} {p U:Addr} {M N:Nat} {A:Nat->Option Addr} {n c:Nat->Nat} {H:Nat->Prop} {g:GS}
theorem aJb (g:GS) (l:List Edge) (us:List Value) (h:us=l.flatMap Edge.vals):∀i,upd g.vals 5 us i=({g with why:=l}:GS).vals i:=by
 intro i
 subst h
 match i with
 |0=>rfl
 |1=>rfl
 |2=>rfl
 |3=>rfl
 |4=>rfl
 |5=>rfl
 |6=>rfl
 |7=>rfl
 |8=>rfl
 |i+9=>rfl
theorem dF.edge (h:dF B0 w p U M N A n c H g) {i:Int} {e:Edge} (h0:0<=i) (he:g.why[i.toNat]? =some e):
  w.cell? (p.add 7)=some (.slice (A 5) (n 5) (c 5))/\i<n 5/\g.why.length=n 5/\∃a,A 5=some a/\bG w (a.add (i.toNat*5)) e.vals/\oH w (a.add (i.toNat*5)) 5:=by
 have hc:=h.cell (show 5<9 by omega)
 have hr:=h.row (show 5<9 by omega)
 have hlen:(g.why.flatMap Edge.vals).length=n 5*5:=hr.1
 rw[uN Kw] at hlen
 have hi:=(List.getElem?_eq_some_iff.1 he).1
 obtain⟨a,us,hA,hu,_,hcell,hs⟩:=hr.elem (s:=5) h0 (show i<n 5 by omega) (by decide)
 have:us=e.vals:=hu.trans (Ba Kw _ _ _ he)
 subst this
 exact⟨hc,by omega,by omega,a,hA,hcell,hs⟩
theorem dF.aK4 (h:dF B0 w p U M N A n c H g) {i:Int} {e f:Edge} (h0:0<=i) (he:g.why[i.toNat]? =some e) {a:Addr} (hA:A 5=some a) (hw:w'=cZ w (a.add (i.toNat*5)) f.vals):
  ∃H',dF B0 w' p U M N A n c H' {g with why:=g.why.set i.toNat f}/\dU H w H' w'/\∀b,H b->H' b:=by
 obtain⟨_,hlt,hlen,_⟩:=h.edge h0 he
 have hi:=(List.getElem?_eq_some_iff.1 he).1
 refine h.put (k:=5) (by decide) hA (j:=i.toNat*5) (us:=f.vals) (show i.toNat*5+5<=n 5*5 by omega) hw (aJb g _ _ ?_) ⟨rfl,rfl,rfl⟩
 exact aI8 Kw g.why i.toNat f hi
theorem aJn (e:Edge) (x:Int):e.vals.set 0 (iv x)=({e with to:=x}:Edge).vals:=rfl
theorem aEf {α:Type} {f:α->List Value} {s:Nat} (hf:∀x,(f x).length=s) (o:Nat) (ho:o<s) (v:Value) (y:α):∀(l:List α) (i:Nat) (x:α),l[i]? =some x->(f x).set o v=f y->(l.flatMap f).set (i*s+o) v=(l.set i y).flatMap f
 |[],i,x,h,_=>by simp at h
 |z::l,0,x,h,hy=>by
  simp at h
  subst h
  simp only[List.flatMap_cons,List.set_cons_zero,Nat.zero_mul,Nat.zero_add]
  rw[List.set_append_left _ _ (by rw[hf];exact ho),hy]
 |z::l,i+1,x,h,hy=>by
  have:=aEf hf o ho v y l i x (by simpa using h) hy
  simp only[List.flatMap_cons,List.set_cons_succ]
  rw[<-this,List.set_append_right _ _ (by rw[hf,Nat.add_mul];omega)]
  congr 2
  rw[hf,Nat.add_mul]
  omega
theorem dF.aK1 (h:dF B0 w p U M N A n c H g) {i x:Int} {e:Edge} (h0:0<=i) (he:g.why[i.toNat]? =some e) {a:Addr} (hA:A 5=some a) (hw:w'=w.setCell ((a.add (i.toNat*5)).add 0) (iv x)):
  ∃H',dF B0 w' p U M N A n c H' {g with why:=g.why.set i.toNat {e with to:=x}}/\dU H w H' w'/\∀b,H b->H' b:=by
 obtain⟨_,hlt,hlen,_⟩:=h.edge h0 he
 rw[Addr.add_add] at hw
 refine h.aPy (k:=5) (by decide) hA (j:=i.toNat*5+0) (u:=iv x) (show i.toNat*5+0<n 5*5 by omega) hw (aJb g _ _ ?_) ⟨rfl,rfl,rfl⟩
 exact aEf Kw 0 (by decide) (iv x) _ g.why i.toNat e he (aJn e x)
def aFn (g:GS) (a b:Int) (e f:Edge):GS:=if e.to≠b then {g with why:=g.why.set b.toNat {f with to:= -1}} else {g with why:=g.why.set a.toNat {e with to:= -1}}
theorem aQ3 (h:dF B0 w p U M N A n c H g) {a b:Int} {e f:Edge} (a0:0<=a) (b0:0<=b) (he:g.why[a.toNat]? =some e) (hf:g.why[b.toNat]? =some f):
  Calls P F.Om #[.pointer (some p),iv a,iv b] w (cO fun v w'=>v= .tuple #[]/\∃H',dF B0 w' p U M N A n c H' (aFn g a b e f)/\dU H w H' w'/\∀b,H b->H' b):=by
 refine cO.mono (aD8 p a b (fun w'=>∃H',dF B0 w' p U M N A n c H' (aFn g a b e f)/\dU H w H' w'/\∀b,H b->H' b) w ?_) (by rintro v w' ⟨rfl,hk⟩;exact⟨rfl,hk⟩)
 obtain⟨r1,r2,_,a1,hA,r3,r4⟩:=h.edge a0 he
 obtain⟨_,q2,_,a1',hA',q3,q4⟩:=h.edge b0 hf
 rw[hA] at hA'
 cases hA'
 unfold Nv uS
 refine⟨_,_,_,r1,a0,r2,a1,hA,e.to,r3 0 _ rfl,fun hne=>⟨_,_,_,r1,b0,q2,a1,hA,⟨_,q3 0 _ rfl⟩,(q4 0 (by decide)).2,fun w1 hw1=> ?_⟩,fun hne=>⟨_,_,_,r1,a0,r2,a1,hA,⟨_,r3 0 _ rfl⟩,(r4 0 (by decide)).2,fun w1 hw1=> ?_⟩⟩
 ·unfold aFn
  rw[if_pos hne]
  exact h.aK1 b0 hf hA hw1
 ·unfold aFn
  rw[if_neg hne]
  exact h.aK1 a0 he hA hw1
structure aB5 (why:List Edge) (a:Int) (vs:List Int):Prop where
 head:vs[0]? =some a
 nd:vs.Nodup
 pos:∀x∈vs,0<=x
 step:∀(i:Nat) x y,vs[i]? =some x->vs[i+1]? =some y->∃e,why[x.toNat]? =some e/\e.to=y
 last:∀x,vs[vs.length-1]? =some x->∃e,why[x.toNat]? =some e/\e.to<0
def aW (why:List Edge) (x:Int):Edge:=why.getD x.toNat ⟨-1,false,0,0,0⟩
theorem Oc {why:List Edge} {x:Int} {e:Edge} (h:why[x.toNat]? =some e):aW why x=e:=by unfold aW;rw[List.getD_eq_getElem?_getD,h];rfl
def uP (why:List Edge) (vs:List Int):Nat->List Edge
 |0=>why.set (vs.getD 0 0).toNat {aW why (vs.getD 0 0) with to:= -1}
 |i+1=>(uP why vs i).set (vs.getD (i+1) 0).toNat {aW why (vs.getD i 0) with to:=vs.getD i 0}
theorem Wy (why:List Edge) (vs:List Int):∀i,(uP why vs i).length=why.length
 |0=>by simp[uP]
 |i+1=>by simp[uP,Wy why vs i]
theorem aAn (why:List Edge) (vs:List Int) (k:Nat):∀i,(∀j,j<=i->(vs.getD j 0).toNat≠k)->(uP why vs i)[k]? =why[k]?
 |0,h=>by simp only[uP];rw[List.getElem?_set_ne (h 0 (Nat.le_refl _))]
 |i+1,h=>by simp only[uP];rw[List.getElem?_set_ne (h (i+1) (Nat.le_refl _)),aAn why vs k i fun j hj=>h j (by omega)]
theorem aB5.at {why:List Edge} {a:Int} {vs:List Int} (h:aB5 why a vs) {i:Nat} (hi:i<vs.length):∃x e,vs[i]? =some x/\vs.getD i 0=x/\0<=x/\why[x.toNat]? =some e/\(e.to<0/\i+1=vs.length\/i+1<vs.length/\e.to=vs.getD (i+1) 0):=by
 have hx:vs[i]? =some vs[i]:=List.getElem?_eq_getElem hi
 have hp:=h.pos _ (List.mem_of_getElem? hx)
 rcases Nat.lt_or_ge (i+1) vs.length with h1|h1
 ·have hy:vs[i+1]? =some vs[i+1]:=List.getElem?_eq_getElem h1
  obtain⟨e,he,ht⟩:=h.step i _ _ hx hy
  exact⟨_,e,hx,by rw[List.getD_eq_getElem?_getD,hx];rfl,hp,he,.inr ⟨h1,by rw[ht,List.getD_eq_getElem?_getD,hy];rfl⟩⟩
 ·have hl:i=vs.length-1:=by omega
  obtain⟨e,he,ht⟩:=h.last _ (by rw[<-hl];exact hx)
  exact⟨_,e,hx,by rw[List.getD_eq_getElem?_getD,hx];rfl,hp,he,.inl ⟨ht,by omega⟩⟩
theorem aB5.apart {why:List Edge} {a:Int} {vs:List Int} (h:aB5 why a vs) {i j:Nat} (hi:i<vs.length) (hj:j<vs.length) (hij:i≠j):(vs.getD i 0).toNat≠(vs.getD j 0).toNat:=by
 obtain⟨x,_,hx,e1,x0,_⟩:=h.at hi
 obtain⟨y,_,hy,e2,y0,_⟩:=h.at hj
 rw[e1,e2]
 intro q
 have:x=y:=by omega
 subst this
 exact hij ((List.getElem?_inj hi h.nd).1 (hx.trans hy.symm))
theorem aO9 (h:dF B0 w p U M N A n c H g) {a:Int} {vs:List Int} (hp:aB5 g.why a vs):
  Calls P F.Ky #[.pointer (some p),iv a] w (cO fun v w'=>v= .tuple #[]/\∃H',dF B0 w' p U M N A n c H' {g with why:=uP g.why vs (vs.length-1)}/\dU H w H' w'/\∀b,H b->H' b):=by
 refine cO.mono (aCv p a (fun w'=>∃H',dF B0 w' p U M N A n c H' {g with why:=uP g.why vs (vs.length-1)}/\dU H w H' w'/\∀b,H b->H' b) w ?_) (by rintro v w' ⟨rfl,hk⟩;exact⟨rfl,hk⟩)
 have hpos:0<vs.length:=(List.getElem?_eq_some_iff.1 hp.head).1
 obtain⟨a',e0,ha',hv0,a0,he0,_⟩:=hp.at hpos
 rw[hp.head] at ha'
 cases ha'
 obtain⟨r1,r2,_,a1,hA,r3,r4⟩:=h.edge a0 he0
 unfold Ju
 refine⟨_,_,_,r1,a0,r2,a1,hA,_,_,_,_,_,r3,fun w6 hw6 p2 w1 hN1 w5 hw5=> ?_⟩
 have hN5:oH w5 p2 5:=(Ext.aK hw5).soft (hN1.soft rfl) (fun h=>h)
 refine⟨hN5,fun w2 hw2 w3 hw3=> ?_⟩
 obtain⟨g1,adv1,nfx,nM⟩:=(h.stay (Ext.aK hw6)).aE9 hN1
 obtain⟨g2,adv2⟩:=(g1.stay (Ext.aK hw5)).write (iQ hw2) (fun b _ hb=>by rw[hb];exact⟨.inr rfl,nfx,nM⟩)
 have g3:=g2.stay (Ext.aK hw3)
 have adv3:dU H w (fun b=>H b\/b=p2.block) w3:=(((dU.aK hw6).trans adv1).trans (dU.aK hw5)).trans (adv2.trans (dU.aK hw3))
 have c3:bG w3 p2 e0.vals:=(Ext.aK hw3).cells (zF hw2 hN5)
 have s3:oH w3 p2 5:=(Ext.aK hw3).soft (aAb hN5 hw2) (fun h=>h)
 unfold xW
 obtain⟨t1,t2,_,a1',hA',t3,t4⟩:=g3.edge a0 he0
 rw[hA] at hA'
 cases hA'
 refine⟨_,_,_,t1,a0,t2,a1,hA,⟨_,t3 0 _ rfl⟩,(t4 0 (by decide)).2,fun w7 hw7=> ?_⟩
 obtain⟨H7,g7,adv7,sub7⟩:=g3.aK1 a0 he0 hA hw7
 have nH:¬At (A 5) p2.block:=fun hh=>nfx (.inr ⟨5,show 5<9+N by omega,hh⟩)
 have k7:=jE hw7
 rw[Addr.add_block,Addr.add_block] at k7
 have hne:¬p2.block=a1.block:=fun hh=>nH ⟨a1,hA,hh.symm⟩
 have c7:bG w7 p2 e0.vals:=k7.own c3 hne
 have s7:oH w7 p2 5:=Jp s3 hw7
 have e0':aW g.why a=e0:=Oc he0
 refine⟨fun q x w8=>∃i,q=vs.length-i/\i<vs.length/\x=vs.getD i 0/\∃H',dF B0 w8 p U M N A n c H' {g with why:=uP g.why vs i}/\H' p2.block/\dU H w H' w8/\(∀b,H b->H' b)/\bG w8 p2 (aW g.why (vs.getD i 0)).vals/\oH w8 p2 5,
  ⟨vs.length,0,by omega,hpos,hv0.symm,H7,?_,sub7 _ (.inr rfl),adv3.trans adv7,fun b hb=>sub7 b (.inl hb),?_,s7⟩,?_⟩
 ·have:uP g.why vs 0=g.why.set a.toNat {e0 with to:= -1}:=by simp only[uP];rw[hv0,e0']
  rw[this]
  exact g7
 ·rw[hv0,e0']
  exact c7
 rintro q x w8 ⟨i,rfl,hi,rfl,H8,g8,hp2,adv8,sub8,c8,s8⟩
 obtain⟨x,e,hx,hvx,x0,he,hto⟩:=hp.at hi
 rw[hvx,Oc he] at c8
 refine⟨e.to,c8 0 _ rfl,fun h0=> ?_,fun h0=> ?_⟩
 ·rcases hto with⟨hneg,_⟩|⟨hi1,hto⟩
  ·omega
  obtain⟨y,f,hy,hvy,y0,hf,_⟩:=hp.at hi1
  have hyt:e.to=y:=by rw[hto,hvy]
  have hfw:(uP g.why vs i)[y.toNat]? =some f:=by
   rw[aAn _ _ _ _ (fun j hj=>by rw[<-hvy];exact hp.apart (by omega) hi1 (by omega))]
   exact hf
  obtain⟨u1,u2,_,a3,hA3,u3,u4⟩:=g8.edge y0 hfw
  rw[hA] at hA3
  cases hA3
  refine⟨y,(by rw[<-hyt];exact c8 0 _ rfl),_,_,_,u1,y0,u2,a1,hA,_,_,_,_,_,u3,fun p4 w9 hN9=>⟨hN9.soft rfl,fun w10 hw10=> ?_⟩⟩
  have hN10:=hN9.store hw10 rfl
  have E10:Ext w8 w10:=Ext.eY hN10
  have g10:=g8.stay E10
  have c10:=E10.cells c8
  have s10:oH w10 p2 5:=E10.soft s8 (fun h=>h)
  have f10:=hN10.cells rfl
  refine⟨⟨_,c10 0 _ rfl⟩,(s10 0 (by decide)).2,fun w11 hw11=> ?_⟩
  have k11:=jE hw11
  rw[Addr.add_block] at k11
  obtain⟨g11,adv11⟩:=g10.write k11 (fun b _ hb=>by rw[hb];exact⟨hp2,nfx,nM⟩)
  have s11:oH w11 p2 5:=Jp s10 hw11
  have p4b:=hN10.block
  have n42:¬p4.block=p2.block:=fun hh=>by
   have:=(g8.lo _ hp2).2
   omega
  have f11:bG w11 p4 f.vals:=k11.own f10 n42
  have c11:bG w11 p2 ({e with to:=x}:Edge).vals:=by
   subst hw11
   rw[hvx]
   intro t v ht
   match t,ht with
   |0,ht=>cases ht;exact World.cell?_setCell_same _ _ _ (c10 0 _ rfl)
   |1,ht=>cases ht;rw[World.cell?_setCell_other _ _ _ _ (fun q=>absurd (Et q) (by decide))];exact c10 1 _ rfl
   |2,ht=>cases ht;rw[World.cell?_setCell_other _ _ _ _ (fun q=>absurd (Et q) (by decide))];exact c10 2 _ rfl
   |3,ht=>cases ht;rw[World.cell?_setCell_other _ _ _ _ (fun q=>absurd (Et q) (by decide))];exact c10 3 _ rfl
   |4,ht=>cases ht;rw[World.cell?_setCell_other _ _ _ _ (fun q=>absurd (Et q) (by decide))];exact c10 4 _ rfl
  obtain⟨v1,v2,_,a4,hA4,v3,v4⟩:=g11.edge y0 hfw
  rw[hA] at hA4
  cases hA4
  refine⟨_,_,_,v1,_,_,_,_,_,c11,y0,v2,a1,hA,fun w17 hw17=>⟨(Ext.aK hw17).soft v4 (fun h=>h),fun w12 hw12 w13 hw13=> ?_⟩⟩
  obtain⟨H12,g12,adv12,sub12⟩:=(g11.stay (Ext.aK hw17)).aK4 (f:={e with to:=x}) y0 hfw hA hw12
  have k12:=iQ hw12
  rw[Addr.add_block] at k12
  have n4a:¬p4.block=a1.block:=fun hh=>by
   have:=(g8.yK.fx (.inr ⟨5,show 5<9+N by omega,⟨a1,hA,rfl⟩⟩)).2
   omega
  have f13:bG w13 p4 f.vals:=(Ext.aK hw13).cells (k12.own ((Ext.aK hw17).cells f11) n4a)
  have s13:oH w13 p2 5:=(Ext.aK hw13).soft (aAb ((Ext.aK hw17).soft s11 (fun h=>h)) hw12) (fun h=>h)
  refine⟨_,_,_,_,_,f13,fun w16 hw16=>⟨(Ext.aK hw16).soft s13 (fun h=>h),fun w14 hw14 w15 hw15=> ?_⟩⟩
  have g13:=(g12.stay (Ext.aK hw13)).stay (Ext.aK hw16)
  have s16:oH w16 p2 5:=(Ext.aK hw16).soft s13 (fun h=>h)
  obtain⟨g14,adv14⟩:=g13.write (iQ hw14) (fun b _ hb=>by rw[hb];exact⟨sub12 _ hp2,nfx,nM⟩)
  have advA:dU H8 w8 H12 w13:=(((dU.iL E10).trans adv11).trans (dU.aK hw17)).trans (adv12.trans (dU.aK hw13))
  have advB:dU H12 w13 H12 w15:=((dU.aK hw16).trans adv14).trans (dU.aK hw15)
  refine⟨vs.length-(i+1),by omega,i+1,rfl,hi1,hvy.symm,H12,?_,sub12 _ hp2,adv8.trans (advA.trans advB),fun b hb=>sub12 b (sub8 b hb),?_,(Ext.aK hw15).soft (aAb s16 hw14) (fun h=>h)⟩
  ·have:uP g.why vs (i+1)=(uP g.why vs i).set y.toNat {e with to:=x}:=by simp only[uP];rw[hvy,hvx,Oc he]
   rw[this]
   exact g14.stay (Ext.aK hw15)
  ·rw[hvy,Oc hf]
   exact(Ext.aK hw15).cells (zF hw14 s16)
 ·rcases hto with⟨hneg,hlast⟩|⟨hi1,hto⟩
  ·have:i=vs.length-1:=by omega
   subst this
   exact⟨H8,g8,adv8,sub8⟩
  ·exfalso
   obtain⟨y,f,hy,hvy,y0,hf,_⟩:=hp.at hi1
   rw[hvy] at hto
   omega
end
end Go.Proofs.YtnbakpoahcndpaaGreatDoor
namespace Go.Proofs
open Go.Shelf
def Tryz.aB0:Go.Shelf.Ren:=⟨fun|176=>54|249=>72|288=>92|283=>99|284=>100|285=>101|286=>102|129=>113|317=>115|318=>116|319=>117|320=>118|337=>125|338=>126|n=>n,fun|37=>97|2=>2|3=>3|53=>139|4=>4|9=>9|171=>147|0=>0|173=>150|212=>162|51=>159|5=>5|20=>20|213=>163|46=>145|232=>172|233=>173|n=>n,fun|17=>0|18=>1|19=>2|n=>n⟩
theorem Tryz.laysAILaysM176:Go.Proofs.LaysM.n176 Tryz.prog Tryz.aB0:={
 mixed:=by kernel_rfl
 f129:=Tryz.func113.trans (congrArg some (by kernel_rfl))
 f176:=Tryz.func54.trans (congrArg some (by kernel_rfl))
 f249:=Tryz.func72.trans (congrArg some (by kernel_rfl))
 f283:=Tryz.func99.trans (congrArg some (by kernel_rfl))
 f284:=Tryz.func100.trans (congrArg some (by kernel_rfl))
 f285:=Tryz.func101.trans (congrArg some (by kernel_rfl))
 f286:=Tryz.func102.trans (congrArg some (by kernel_rfl))
 f288:=Tryz.func92.trans (congrArg some (by kernel_rfl))
 f317:=Tryz.func115.trans (congrArg some (by kernel_rfl))
 f318:=Tryz.func116.trans (congrArg some (by kernel_rfl))
 f319:=Tryz.func117.trans (congrArg some (by kernel_rfl))
 f320:=Tryz.func118.trans (congrArg some (by kernel_rfl))
 f337:=Tryz.func125.trans (congrArg some (by kernel_rfl))
 f338:=Tryz.func126.trans (congrArg some (by kernel_rfl))
 t0:=Tryz.underlying0
 a0:=Tryz.isAgg0
 z0:=Tryz.sizeOf0
 v0:=Tryz.zeroValue0
 t2:=Tryz.underlying2
 a2:=Tryz.isAgg2
 z2:=Tryz.sizeOf2
 v2:=Tryz.zeroValue2
 t3:=Tryz.underlying3
 a3:=Tryz.isAgg3
 z3:=Tryz.sizeOf3
 v3:=Tryz.zeroValue3
 t4:=Tryz.underlying4
 a4:=Tryz.isAgg4
 z4:=Tryz.sizeOf4
 v4:=Tryz.zeroValue4
 t5:=Tryz.underlying5
 a5:=Tryz.isAgg5
 z5:=Tryz.sizeOf5
 v5:=Tryz.zeroValue5
 t9:=Tryz.underlying9
 a9:=Tryz.isAgg9
 z9:=Tryz.sizeOf9
 v9:=Tryz.zeroValue9
 t20:=Tryz.underlying20
 a20:=Tryz.isAgg20
 z20:=Tryz.sizeOf20
 v20:=Tryz.zeroValue20
 t37:=Tryz.underlying97
 a37:=Tryz.isAgg97
 z37:=Tryz.sizeOf97
 v37:=Tryz.zeroValue97
 t46:=Tryz.underlying145
 a46:=Tryz.isAgg145
 z46:=Tryz.sizeOf145
 v46:=Tryz.zeroValue145
 t51:=Tryz.underlying159
 a51:=Tryz.isAgg159
 z51:=Tryz.sizeOf159
 v51:=Tryz.zeroValue159
 t53:=Tryz.underlying139
 a53:=Tryz.isAgg139
 z53:=Tryz.sizeOf139
 v53:=Tryz.zeroValue139
 t171:=Tryz.underlying147
 a171:=Tryz.isAgg147
 z171:=Tryz.sizeOf147
 v171:=Tryz.zeroValue147
 t173:=Tryz.underlying150
 a173:=Tryz.isAgg150
 z173:=Tryz.sizeOf150
 v173:=Tryz.zeroValue150
 t212:=Tryz.underlying162
 a212:=Tryz.isAgg162
 z212:=Tryz.sizeOf162
 v212:=Tryz.zeroValue162
 t213:=Tryz.underlying163
 a213:=Tryz.isAgg163
 z213:=Tryz.sizeOf163
 t232:=Tryz.underlying172
 a232:=Tryz.isAgg172
 z232:=Tryz.sizeOf172
 v232:=Tryz.zeroValue172
 t233:=Tryz.underlying173
 a233:=Tryz.isAgg173
 z233:=Tryz.sizeOf173
 v233:=Tryz.zeroValue173
 g17:=by kernel_rfl
 g18:=by kernel_rfl
 g19:=by kernel_rfl
 i0:=by kernel_rfl
 i2:=by kernel_rfl
 i3:=by kernel_rfl
 i4:=by kernel_rfl
 i5:=by kernel_rfl
 i9:=by kernel_rfl
 i20:=by kernel_rfl
 i37:=by kernel_rfl
 i46:=by kernel_rfl
 i51:=by kernel_rfl
 i53:=by kernel_rfl
 i171:=by kernel_rfl
 i173:=by kernel_rfl
 i212:=by kernel_rfl
 i232:=by kernel_rfl
 i233:=by kernel_rfl
 m17:=by kernel_rfl
 m18:=by kernel_rfl
 m19:=by kernel_rfl}
def Tryz.laysSort_ren:Go.Shelf.Ren:=⟨fun|5=>83|8=>97|7=>96|19=>112|20=>113|10=>103|11=>104|12=>105|13=>106|14=>107|15=>108|16=>109|17=>110|18=>111|30=>119|31=>120|32=>121|33=>122|34=>123|35=>124|40=>127|n=>n,fun|23=>45|25=>3|3=>3|32=>145|22=>45|0=>0|44=>159|46=>139|4=>4|36=>153|35=>152|41=>62|5=>5|9=>9|53=>164|57=>168|63=>170|64=>94|n=>n,fun|n=>n⟩
theorem Tryz.laysSort:Go.Proofs.SlLaysM.n5 Tryz.prog Tryz.laysSort_ren:={
 mixed:=by kernel_rfl
 f5:=⟨Tryz.f83.name,by decide,Tryz.func83.trans (congrArg some (by kernel_rfl))⟩
 f7:=⟨Tryz.f96.name,by decide,Tryz.func96.trans (congrArg some (by kernel_rfl))⟩
 f8:=Tryz.func97.trans (congrArg some (by kernel_rfl))
 f10:=⟨Tryz.f103.name,by decide,Tryz.func103.trans (congrArg some (by kernel_rfl))⟩
 f11:=⟨Tryz.f104.name,by decide,Tryz.func104.trans (congrArg some (by kernel_rfl))⟩
 f12:=⟨Tryz.f105.name,by decide,Tryz.func105.trans (congrArg some (by kernel_rfl))⟩
 f13:=⟨Tryz.f106.name,by decide,Tryz.func106.trans (congrArg some (by kernel_rfl))⟩
 f14:=⟨Tryz.f107.name,by decide,Tryz.func107.trans (congrArg some (by kernel_rfl))⟩
 f15:=⟨Tryz.f108.name,by decide,Tryz.func108.trans (congrArg some (by kernel_rfl))⟩
 f16:=⟨Tryz.f109.name,by decide,Tryz.func109.trans (congrArg some (by kernel_rfl))⟩
 f17:=⟨Tryz.f110.name,by decide,Tryz.func110.trans (congrArg some (by kernel_rfl))⟩
 f18:=⟨Tryz.f111.name,by decide,Tryz.func111.trans (congrArg some (by kernel_rfl))⟩
 f19:=Tryz.func112.trans (congrArg some (by kernel_rfl))
 f20:=Tryz.func113.trans (congrArg some (by kernel_rfl))
 f30:=⟨Tryz.f119.name,by decide,Tryz.func119.trans (congrArg some (by kernel_rfl))⟩
 f31:=Tryz.func120.trans (congrArg some (by kernel_rfl))
 f32:=Tryz.func121.trans (congrArg some (by kernel_rfl))
 f33:=⟨Tryz.f122.name,by decide,Tryz.func122.trans (congrArg some (by kernel_rfl))⟩
 f34:=⟨Tryz.f123.name,by decide,Tryz.func123.trans (congrArg some (by kernel_rfl))⟩
 f35:=⟨Tryz.f124.name,by decide,Tryz.func124.trans (congrArg some (by kernel_rfl))⟩
 f40:=⟨Tryz.f127.name,by decide,Tryz.func127.trans (congrArg some (by kernel_rfl))⟩
 t0:=Tryz.underlying0
 a0:=Tryz.isAgg0
 z0:=Tryz.sizeOf0
 v0:=Tryz.zeroValue0
 t3:=Tryz.underlying3
 a3:=Tryz.isAgg3
 z3:=Tryz.sizeOf3
 v3:=Tryz.zeroValue3
 t4:=Tryz.underlying4
 a4:=Tryz.isAgg4
 z4:=Tryz.sizeOf4
 v4:=Tryz.zeroValue4
 t5:=Tryz.underlying5
 a5:=Tryz.isAgg5
 z5:=Tryz.sizeOf5
 v5:=Tryz.zeroValue5
 t9:=Tryz.underlying9
 a9:=Tryz.isAgg9
 z9:=Tryz.sizeOf9
 v9:=Tryz.zeroValue9
 t22:=Tryz.underlying45
 a22:=Tryz.isAgg45
 z22:=Tryz.sizeOf45
 v22:=Tryz.zeroValue45
 t23:=Tryz.underlying45
 a23:=Tryz.isAgg45
 z23:=Tryz.sizeOf45
 v23:=Tryz.zeroValue45
 t25:=Tryz.underlying3
 a25:=Tryz.isAgg3
 z25:=Tryz.sizeOf3
 v25:=Tryz.zeroValue3
 t32:=Tryz.underlying145
 a32:=Tryz.isAgg145
 z32:=Tryz.sizeOf145
 v32:=Tryz.zeroValue145
 t35:=Tryz.underlying152
 a35:=Tryz.isAgg152
 z35:=Tryz.sizeOf152
 v35:=Tryz.zeroValue152
 t36:=Tryz.underlying153
 a36:=Tryz.isAgg153
 z36:=Tryz.sizeOf153
 v36:=Tryz.zeroValue153
 t41:=Tryz.underlying62
 a41:=Tryz.isAgg62
 z41:=Tryz.sizeOf62
 v41:=Tryz.zeroValue62
 t44:=Tryz.underlying159
 a44:=Tryz.isAgg159
 z44:=Tryz.sizeOf159
 v44:=Tryz.zeroValue159
 t46:=Tryz.underlying139
 a46:=Tryz.isAgg139
 z46:=Tryz.sizeOf139
 v46:=Tryz.zeroValue139
 t53:=Tryz.underlying164
 a53:=Tryz.isAgg164
 z53:=Tryz.sizeOf164
 v53:=Tryz.zeroValue164
 t57:=Tryz.underlying168
 a57:=Tryz.isAgg168
 z57:=Tryz.sizeOf168
 v57:=Tryz.zeroValue168
 t63:=Tryz.underlying170
 a63:=Tryz.isAgg170
 z63:=Tryz.sizeOf170
 v63:=Tryz.zeroValue170
 t64:=Tryz.underlying94
 a64:=Tryz.isAgg94
 z64:=Tryz.sizeOf94
 v64:=Tryz.zeroValue94}
def Tryz.aFh:Go.Shelf.Ren:=⟨fun|45=>84|n=>n,fun|22=>45|23=>3|3=>3|4=>4|0=>0|n=>n,fun|n=>n⟩
theorem Tryz.laysDelete:Go.Proofs.SlLaysN.n45 Tryz.prog Tryz.aFh:={
 mixed:=by kernel_rfl
 f45:=⟨Tryz.f84.name,by decide,Tryz.func84.trans (congrArg some (by kernel_rfl))⟩
 t0:=Tryz.underlying0
 a0:=Tryz.isAgg0
 z0:=Tryz.sizeOf0
 v0:=Tryz.zeroValue0
 t3:=Tryz.underlying3
 a3:=Tryz.isAgg3
 z3:=Tryz.sizeOf3
 v3:=Tryz.zeroValue3
 t4:=Tryz.underlying4
 a4:=Tryz.isAgg4
 z4:=Tryz.sizeOf4
 v4:=Tryz.zeroValue4
 t22:=Tryz.underlying45
 a22:=Tryz.isAgg45
 z22:=Tryz.sizeOf45
 v22:=Tryz.zeroValue45
 t23:=Tryz.underlying3
 a23:=Tryz.isAgg3
 z23:=Tryz.sizeOf3
 v23:=Tryz.zeroValue3
 i23:=by kernel_rfl}
namespace YtnbakpoahcndpaaGreatDoor
open Wk
abbrev I64 (x:Int):Prop:= -9223372036854775808<=x/\x<=9223372036854775807
theorem aDe {w:World} {B:Nat} {A:Option Addr} {n c:Nat} {xs:List Value} {i:Int} (hO:Own w B T.uint8 1 A n c xs) (hB:B<=w.heap.size) (hn:n+21<=140737488355328) (hi:I64 i) (ht:yG B w):
  Calls P F.xR #[.slice A n c,iv i,iv 10] w (cO fun v w'=>∃A' c',v= .slice A' (n+(Lib.itoa i).length) c'/\Own w' B T.uint8 1 A' (n+(Lib.itoa i).length) c' (xs++Lib.byteCells (Lib.itoa i))/\Keep (fun b=>B<=b) w w'):=by
 have h:=Any.strconv_AppendInt_10 (P:=P) Tryz.laysAILaysM176 B n i hi.1 hi.2 (.slice A n c) xs w hO hB hn ht
 refine Calls.mono (show Calls P F.xR _ w _ from h) ?_
 rintro e w' ⟨v',rfl,hO',hb,_⟩
 have hv:∃A' c',v'= .slice A' (n+(Lib.itoa i).length) c':=by
  rcases hO'.2 with⟨rfl,h0⟩|⟨g,cap,cur,rfl,_⟩
  ·exact⟨none,0,by rw[h0]⟩
  ·exact⟨_,_,rfl⟩
 obtain⟨A',c',rfl⟩:=hv
 exact⟨_,rfl,A',c',rfl,hO',hb.size,hb.os,hb.tape,hb.output,fun b hb' hx=>hb.block b (by omega)⟩
theorem aKh {w:World} {A:Option Addr} {n c:Nat} {l:List UInt8} {B:Nat} (hO:Own w B T.uint8 1 A n c (Lib.byteCells l)) (hl:l≠[]):(convert T.Pj T.string (.slice A n c)).run P w= .ok (.string ⟨l.toArray⟩) w:=by
 have hlen:l.length=n:=by have:=hO.1;rw[Lib.byteCells_length] at this;omega
 subst hlen
 rcases hO.cells with h0|⟨a,rfl,hc⟩
 ·have:=Lib.byteCells_length l
  rw[h0] at this
  exact absurd (List.length_eq_zero_iff.1 this.symm) hl
 ·refine run_convert_bytes_back (P:=P) w T.Pj T.string T.uint8 a c l (by kernel_rfl) (by kernel_rfl) (by kernel_rfl) fun j hj=>hc j _ ?_
  simp[Lib.byteCells,hj]
end YtnbakpoahcndpaaGreatDoor
end Go.Proofs
namespace Go.Proofs.YtnbakpoahcndpaaGreatDoor
open Wk
def Po (fn:Int) (rs:List Int):List UInt8:=Lib.itoa fn++rs.flatMap fun r=>32::Lib.itoa r
def aI4 (fn:Int) (rs:List Int):ByteArray:=⟨(Po fn rs).toArray⟩
theorem aLt (fn:Int) (rs:List Int) (r:Int):Po fn (rs++[r])=Po fn rs++[32]++Lib.itoa r:=by simp[Po]
theorem aN9 (fn:Int) (h:I64 fn):∀rs:List Int,(∀r∈rs,I64 r)->(Po fn rs).length<=21+22*rs.length:=by
 intro rs hr
 have h0:=Lib.itoa_length_le fn h.1 h.2
 simp only[Po,List.length_append]
 have:(rs.flatMap fun r=>(32:UInt8)::Lib.itoa r).length<=22*rs.length:=by
  clear h0
  induction rs with
  |nil=>simp
  |cons r rs ih=>
   have h1:=Lib.itoa_length_le r (hr r (by simp)).1 (hr r (by simp)).2
   have:=ih fun x hx=>hr x (List.mem_cons_of_mem _ hx)
   simp only[List.flatMap_cons,List.length_append,List.length_cons]
   omega
 omega
theorem aG5 (a b:List UInt8):Lib.byteCells (a++b)=Lib.byteCells a++Lib.byteCells b:=by simp[Lib.byteCells]
theorem aHt (u:Nat):Lib.decDigits u≠[]:=by
 intro h
 have:=Lib.decDigits_length u
 rw[h] at this
 unfold Lib.nDigits at this
 split at this<;>simp at this
theorem aPh (i:Int):Lib.itoa i≠[]:=by
 unfold Lib.itoa
 split
 ·simp
 ·exact aHt _
theorem aPf (fn:Int) (rs:List Int):Po fn rs≠[]:=by simp[Po,aPh]
section
variable {B0:Nat} {w w':World} {p U:Addr} {M N:Nat} {A:Nat->Option Addr} {n c:Nat->Nat} {H:Nat->Prop} {g:GS}
theorem dF.node (h:dF B0 w p U M N A n c H g) {i:Int} {x:Flat} (h0:0<=i) (hx:g.nodes[i.toNat]? =some x):
  w.cell? (p.add 4)=some (.slice (A 4) (n 4) (c 4))/\i<n 4/\g.nodes.length=n 4/\∃a C k d,A 4=some a/\bG w (a.add (i.toNat*2)) [iv x.fn,.slice C k d]/\Sm k/\Ints w C k x.args:=by
 have hc:=h.cell (show 4<9 by omega)
 have hr:Row w B0 T.fJ 2 (A 4) (n 4) (c 4) g.nvals.vals:=h.row (show 4<9 by omega)
 have hv:=h.nd.now
 have hi:=(List.getElem?_eq_some_iff.1 hx).1
 have e1:=hr.1
 have e2:g.nvals.vals.length=g.nodes.length*2:=hv.1
 obtain⟨a,us,hA,hu,_,hcell,_⟩:=hr.elem h0 (show i<n 4 by omega) (by decide)
 have hrd:=hv.2 i.toNat x hx
 rw[show(mO.size:Nat)=2 from rfl,<-hu] at hrd
 obtain⟨C,k,d,rfl,hs,hi'⟩:=hrd
 exact⟨hc,by omega,by omega,a,C,k,d,hA,hcell,hs,hi'⟩
theorem aQ5 (h:dF B0 w p U M N A n c H g) {i:Int} {x:Flat} {rs:List Int} (h0:0<=i) (hx:g.nodes[i.toNat]? =some x) (hfn:I64 x.fn) (ha:∀a∈x.args,0<=a) (hl:rs.length=x.args.length) (hr:∀(j:Nat) a,x.args[j]? =some a->∃r,rs[j]? =some r/\g.first[a.toNat]? =some r) (h64:∀r∈rs,I64 r):
  Calls P F.Bc #[.pointer (some p),iv i] w (cO fun v w'=>v= .string (aI4 x.fn rs)/\Ext w w'):=by
 refine cO.mono (aDz p i (fun s w'=>s=aI4 x.fn rs/\Ext w w') w ?_) (by rintro _ w' ⟨s,rfl,rfl,hk⟩;exact⟨rfl,hk⟩)
 obtain⟨r1,r2,_,a1,C,k,d,hA,r3,hk,hC⟩:=h.node h0 hx
 unfold Nu
 refine⟨_,_,_,r1,h0,r2,a1,hA,_,C,k,d,r3,fun p2 w1 hN1=>⟨hN1.soft rfl,fun w2 hw2=> ?_⟩⟩
 have hN2:=hN1.store hw2 rfl
 have E2:Ext w w2:=Ext.eY hN2
 have c2:=hN2.cells rfl
 have g2:=h.stay E2
 have hk':=hk
 unfold Sm at hk'
 have ec:=hC.1
 have hB:=g2.le
 have tab2:yG w2.heap.size w2:=fun w' hw'=>g2.tab w' ⟨hw'.os,hw'.tape,hw'.output,hw'.size,fun b hb=>hw'.block b (by omega)⟩
 have keep_ext:∀{wa wb:World},Ext w2 wa->Keep (fun b=>w2.heap.size<=b) wa wb->Ext w2 wb:=fun ha hb=>ha.over hb fun b hb hx=>by omega
 have tab_on:∀{wa:World},Ext w2 wa->yG w2.heap.size wa:=fun ha=>tab2.on ⟨ha.os,ha.tape,ha.output,ha.size,fun b hb=>ha.block b hb fun h=>h⟩
 refine⟨x.fn,c2 0 _ rfl,(aDe (Own.nil w2 w2.heap.size T.uint8 1) (Nat.le_refl _) (by omega) hfn tab2).mono ?_⟩
 rintro _ w3 ⟨_,rfl,A3,c3,rfl,hO3,hK3⟩
 have E3:Ext w2 w3:=keep_ext (Ext.refl _) hK3
 refine⟨_,rfl,A3,_,c3,rfl,C,k,d,E3.cell (c2 1 _ rfl),?_⟩
 refine⟨fun q A5 n5 c5 j w4=>q=k-j.toNat/\0<=j/\j<=k/\Ext w2 w4/\n5=(Po x.fn (rs.take j.toNat)).length/\Own w4 w2.heap.size T.uint8 1 A5 n5 c5 (Lib.byteCells (Po x.fn (rs.take j.toNat))),⟨k,by simp,by omega,by omega,E3,by simp[Po],by simpa [Po] using hO3⟩,?_⟩
 rintro q A5 n5 c5 j w4 ⟨rfl,j0,j1,E4,rfl,hO4⟩
 have hlen:=aN9 x.fn hfn (rs.take j.toNat) (fun r hr=>h64 r (List.mem_of_mem_take hr))
 rw[List.length_take] at hlen
 refine⟨fun hlt=> ?_,fun hge=> ?_⟩
 ·obtain⟨a,a2,haj,hCa,hca⟩:=(hC.ext (E2.trans E4)).int j0 hlt
  obtain⟨r,hrj,hfr⟩:=hr j.toNat a haj
  have hO4':=hO4
  refine⟨j0,hlt,a2,hCa,a,hca,fun w16 hw16 p3 w5 hN5 w15 hw15=> ?_⟩
  have E15':Ext w4 w15:=((Ext.aK hw16).new hN5).drawn hw15
  have E15:=E4.trans E15'
  have hO15:=hO4.keep E15' (fun _ _ h=>h)
  obtain⟨A6,c6,w6,hrun,hO6,hK6,_⟩:=hO15.aHm (m:=1) (c2:=1) (ty:=T.Pj) (t:=T.Pj) (by kernel_rfl) (show wP P T.uint8=some (1,1,1) by kernel_rfl) (by decide) (news:=[.int .u8 32]) rfl ((Ext.aK hw15).cells (hN5.cells rfl)) (by intro u hu;simp at hu;subst hu;rfl) (by omega) (by omega) E15.size
  have E6:Ext w2 w6:=E15.over hK6 fun b hb hx=>by have:=(hO15.at hx).1;omega
  refine⟨A6,_,c6,w6,hrun,fun w8 hw8=> ?_⟩
  have E8:Ext w2 w8:=E6.drawn hw8
  rw[add0]
  refine(tC (h.stay (E2.trans E8)) (ha a (List.mem_of_getElem? haj)) hfr).use fun w7 hw7=>⟨r,rfl,fun w11 hw11=> ?_⟩
  have E11:Ext w2 w11:=(E8.drawn hw7).drawn hw11
  have hO11:=hO6.keep (((Ext.aK hw8).drawn hw7).drawn hw11) (fun _ _ h=>h)
  refine(aDe hO11 E11.size (by omega) (h64 r (List.mem_of_getElem? hrj)) (tab_on E11)).mono ?_
  rintro _ w10 ⟨_,rfl,A7,c7,rfl,hO7,hK7⟩
  have E10:Ext w2 w10:=keep_ext E11 hK7
  refine⟨_,rfl,A7,_,c7,rfl,fun w13 hw13=> ?_⟩
  refine⟨k-(j.toNat+1),by omega,?_⟩
  rw[gI j0 hlt hk]
  have e1:Po x.fn (rs.take (j+1).toNat)=Po x.fn (rs.take j.toNat)++[32]++Lib.itoa r:=by
   rw[show(j+1).toNat=j.toNat+1 by omega,List.take_add_one,hrj]
   exact aLt _ _ _
  refine⟨by omega,by omega,by omega,E10.drawn hw13,by rw[e1];simp;omega,?_⟩
  rw[e1,aG5,aG5]
  exact hO7.keep (Ext.aK hw13) (fun _ _ h=>h)
 ·have hj:j.toNat=k:=by omega
  have et:rs.take j.toNat=rs:=by rw[hj];exact List.take_of_length_le (by omega)
  rw[et] at hO4⊢
  refine⟨_,aKh hO4 (aPf _ _),rfl,E2.trans E4⟩
theorem aFb (e:Chg):e.vals.length=8:=rfl
theorem Xw (g:GS) (l:List Chg) (us:List Value) (h:us=l.flatMap Chg.vals):∀i,upd g.vals 7 us i=({g with changes:=l}:GS).vals i:=by
 intro i
 subst h
 match i with
 |0=>rfl
 |1=>rfl
 |2=>rfl
 |3=>rfl
 |4=>rfl
 |5=>rfl
 |6=>rfl
 |7=>rfl
 |8=>rfl
 |i+9=>rfl
def aCd (s:ByteArray):Chg:=⟨s,false,0,0,0,0,0,0⟩
def gG (g:GS) (s:ByteArray) (i:Int):GS:=match fQ g.sigs s with
 |some _=>g
 |none=>{g with sigs:=Dj g.sigs s i,changes:=g.changes++[aCd s]}
theorem dF.aLc (h:dF B0 w p U M N A n c H g) {t:Chg} {p2:Addr} (hc:bG w p2 t.vals) (hn:g.changes.length+1<=1099511627776) {c2:Nat}:
  ∃A' c' w',w.cell? (p.add 9)=some (.slice (A 7) (n 7) (c 7))/\n 7=g.changes.length/\(Builtin.append_ #[T.kH,T.kH] T.kH #[.slice (A 7) (n 7) (c 7),.slice (some p2) 1 c2]).run P w= .ok (.slice A' (n 7+1) c') w'/\
   ∀w8,Ext w' w8->(∃u,w8.cell? (p.add 9)=some u)/\w8.frozen? (p.add 9)=false/\∀w9,w9=w8.setCell (p.add 9) (.slice A' (n 7+1) c')->
    ∃H',dF B0 w9 p U M N (upd A 7 A') (upd n 7 (n 7+1)) (upd c 7 c') H' {g with changes:=g.changes++[t]}/\dU H w H' w9/\(∀b,H b->H' b)/\∀b,b<w.heap.size->FX (kF p U N) (upd A 7 A') b->FX (kF p U N) A b:=by
 have hr:=h.row (show 7<9 by omega)
 have hlen:(g.changes.flatMap Chg.vals).length=n 7*8:=hr.1
 rw[uN aFb] at hlen
 have e7:n 7=g.changes.length:=by omega
 obtain⟨A',c',w',hrun,_,hh⟩:=h.append (c2:=c2) (k:=7) (show 7<9+N by omega) (t:=T.kH) (m:=1) (by kernel_rfl) (show wP P T.kS=some (8,72,8) by kernel_rfl) (by decide) (news:=t.vals) rfl hc (by intro u hu;simp[Chg.vals] at hu;rcases hu with rfl|rfl|rfl|rfl|rfl|rfl|rfl|rfl<;>rfl) (by omega) (by omega)
  (g':={g with changes:=g.changes++[t]}) (fun i _=>Xw g _ _ (by show g.changes.flatMap Chg.vals++t.vals=_;simp) i) ⟨rfl,rfl,rfl⟩
 have e9:(kF p U N).hdr 7=p.add 9:=rfl
 rw[e9] at hh
 exact⟨A',c',w',h.cell (show 7<9 by omega),e7,hrun,hh⟩
theorem aQ4:P.underlying T.Ec=some (.map T.string T.int):=by kernel_rfl
theorem aQw:aAl P T.string .string Value.string:=aH1 (by kernel_rfl)
theorem aQ9 (w:World):(zeroValue T.int).run P w= .ok (iv 0) w:=by
 have h:(P.info? T.int).bind (·.zero)=some (iv 0):=by kernel_rfl
 obtain⟨i,h1,h2⟩:=Option.bind_eq_some_iff.1 h
 simp[zeroValue,typeInfo,h1,h2]
theorem aI3 (h:dF B0 w p U M N A n c H g) {i:Int} {s:ByteArray} (hsig:Calls P F.Bc #[.pointer (some p),iv i] w (cO fun v w'=>v= .string s/\Ext w w')) (hn:g.changes.length+1<=1099511627776):
  Calls P F.uK #[.pointer (some p),iv i] w (cO fun v w'=>v= .tuple #[iv ((fQ g.sigs s).getD i),.bool (fQ g.sigs s).isNone]/\∃A7 n7 c7 H',dF B0 w' p U M N (upd A 7 A7) (upd n 7 n7) (upd c 7 c7) H' (gG g s i)/\dU H w H' w'/\(∀b,H b->H' b)/\∀b,b<w.heap.size->FX (kF p U N) (upd A 7 A7) b->FX (kF p U N) A b):=by
 refine cO.mono (aCf p i (fun x b w'=>x=(fQ g.sigs s).getD i/\b=(fQ g.sigs s).isNone/\∃A7 n7 c7 H',dF B0 w' p U M N (upd A 7 A7) (upd n 7 n7) (upd c 7 c7) H' (gG g s i)/\dU H w H' w'/\(∀b,H b->H' b)/\∀b,b<w.heap.size->FX (kF p U N) (upd A 7 A7) b->FX (kF p U N) A b) w ?_) (by rintro _ w' ⟨x,b,rfl,rfl,rfl,hk⟩;exact⟨rfl,hk⟩)
 unfold Ic
 refine hsig.mono ?_
 rintro _ w1 ⟨_,rfl,rfl,E1⟩
 have g1:=h.stay E1
 have hl:=g1.map.aG9 aQw aQ4 (aQ9 w1) s
 refine⟨_,rfl,s,rfl,some M,g1.mcell,?_⟩
 cases hg:fQ g.sigs s with
 |some q=>
  rw[hg] at hl
  refine⟨q,true,hl,fun _=>⟨rfl,rfl,A 7,n 7,c 7,H,?_,dU.iL E1,fun _ h=>h,fun b _ h=>by rw[Qp] at h;exact h⟩,fun q=>(by cases q)⟩
  unfold gG
  rw[hg,Qp,Qp,Qp]
  exact g1
 |none=>
  rw[hg] at hl
  refine⟨0,false,hl,fun q=>(by cases q),fun _=>⟨some M,g1.mcell,?_⟩⟩
  obtain⟨w2,hrun,hm2,hK2⟩:=g1.map.update aQw aQ4 s i
  obtain⟨g2,adv2⟩:=g1.aQh hm2 hK2
  refine⟨w2,hrun,?_⟩
  refine⟨A 7,n 7,c 7,g2.cell (show 7<9 by omega),fun p2 w3 hN3=> ?_⟩
  have E3:Ext w2 w3:=Ext.eY hN3
  obtain⟨A',c',w4,_,e7,hrun4,hh⟩:=(g2.stay E3).aLc (t:=aCd s) (hN3.cells rfl) hn (c2:=1)
  obtain⟨k1,k2,k3⟩:=hh w4 (Ext.refl w4)
  refine⟨A',n 7+1,c',w4,hrun4,k1,k2,fun w5 hw5=> ?_⟩
  obtain⟨H5,g5,adv5,sub5,gr5⟩:=k3 w5 hw5
  refine⟨rfl,rfl,A',n 7+1,c',H5,?_,(dU.iL E1).trans (adv2.trans ((dU.iL E3).trans adv5)),sub5,fun b hb hh=>gr5 b (Nat.lt_of_lt_of_le hb (((dU.iL (H:=H) E1).trans (adv2.trans (dU.iL E3))).keep.size)) hh⟩
  unfold gG
  rw[hg]
  exact g5
end
def nN (x31:Int) (x32:Int) (A12:Option Addr) (n12 c12:Nat) (jc4:Option Addr->Nat->Nat->World->Prop) (b6:Bool) (w27:World):Prop:=
 (b6=true->(∀(p5:Addr) (w29:World),New w27 (.cells #[iv 0,.bool true,iv x31,iv x32,iv 0] T.jG) p5 w29->(∃(A13:Option Addr) (n13 c13:Nat) (w30:World),(Builtin.append_ #[T.jR,T.jR] T.jR #[.slice A12 n12 c12,.slice (some p5) 1 1]).run P w29= .ok (.slice A13 n13 c13) w30/\(jc4 A13 n13 c13 w30))))/\(b6=false->(jc4 A12 n12 c12 w27))
def jQ (k3:Nat) (I2:Nat->Option Addr->Nat->Nat->Int->World->Prop) (x30:Int) (A14:Option Addr) (n14 c14:Nat) (w31:World):Prop:=
 ∃k4,k4<k3/\I2 k4 A14 n14 c14 (IntKind.wrap .i64 (x30+1)) w31
def nP (p1:Addr) (x23:Int) (x24:Int) (A1:Option Addr) (c1:Nat) (n1:Nat) (k1:Nat) (I1:Nat->Option Addr->Nat->Nat->World->Prop) (w19:World):Prop:=
 Calls P F.Cf #[.pointer (some (p1.add 0)),iv x23,iv x24] w19 (cO fun v2 w23=>v2=(.tuple #[])/\∃A10 n10 c10,w23.cell? (p1.add 5)=some (.slice A10 n10 c10)/\0<=x23/\x23<(n10:Int)/\∃a7,A10=some a7/\∃A11 n11 c11,w23.cell? (a7.add (x23.toNat*1))=some (.slice A11 n11 c11)/\∃I2:Nat->Option Addr->Nat->Nat->Int->World->Prop,(∃k3,I2 k3 (Jl A1 c1 ((1:Int).toNat) 5) (n1-(1:Int).toNat) (c1-(1:Int).toNat) 0 w23)/\∀k3 (A12:Option Addr) (n12 c12:Nat) (x30:Int) (w24:World),I2 k3 A12 n12 c12 x30 w24->((x30<(n11:Int)->(0<=x30/\x30<(n11:Int)/\∃a8,A11=some a8/\∃x31,w24.cell? (a8.add (x30.toNat*1))=some (iv x31)/\Calls P F.uK #[.pointer (some p1),iv x31] w24 (cO fun v3 w25=>∃x32,∃b5,v3=(.tuple #[iv x32,.bool b5])/\((!b5)=true->(∃x33,(∀w',aO w25 w'->Calls P F.bV #[.pointer (some (p1.add 0)),iv x32] w' fun x w''=>x= .returned (iv x33)/\aO w' w'')/\∃x34,(∀w',aO w25 w'->Calls P F.bV #[.pointer (some (p1.add 0)),iv x31] w' fun x w''=>x= .returned (iv x34)/\aO w' w'')/\∀w26,aO w25 w26->((nN x31 x32 A12 n12 c12 (jQ k3 I2 x30)) (decide (x33≠x34)) w26)))/\((!b5)=false->(∀w28,aO w25 w28->((nN x31 x32 A12 n12 c12 (jQ k3 I2 x30)) false w28))))))/\(¬(x30<(n11:Int))->(∃X1:Nat->Prop,∃A15 n15 c15,w24.cell? (p1.add 5)=some (.slice A15 n15 c15)/\¬X1 (p1.add 5).block/\∃A16 n16 c16,w24.cell? (p1.add 5)=some (.slice A16 n16 c16)/\0<=x24/\x24<(n16:Int)/\∃a9,A16=some a9/\∃A17 n17 c17,w24.cell? (a9.add (x24.toNat*1))=some (.slice A17 n17 c17)/\∃A18 n18 c18,w24.cell? (p1.add 5)=some (.slice A18 n18 c18)/\0<=x23/\x23<(n18:Int)/\∃a10,A18=some a10/\∃A19 n19 c19,w24.cell? (a10.add (x23.toNat*1))=some (.slice A19 n19 c19)/\∀w36,aO w24 w36->∃(A20:Option Addr) (n20 c20:Nat) (w32:World),(Builtin.append_ #[T.bH,T.bH] T.bH #[.slice A17 n17 c17,.slice A19 n19 c19]).run P w36= .ok (.slice A20 n20 c20) w32/\(Keep X1 w24 w32/\(0<=x24/\x24<(n15:Int)/\∃a11,A15=some a11/\∀w35,aO w32 w35->(∃u3,w35.cell? (a11.add (x24.toNat*1))=some u3)/\w35.frozen? (a11.add (x24.toNat*1))=false/\∀w33,w33=w35.setCell (a11.add (x24.toNat*1)) (.slice A20 n20 c20)->(∀w34,aO w33 w34->(∃k5,k5<k1/\I1 k5 A12 n12 c12 w34))))))))
def jS (p1:Addr) (p2:Addr) (A1:Option Addr) (c1:Nat) (n1:Nat) (k1:Nat) (I1:Nat->Option Addr->Nat->Nat->World->Prop) (x21:Int) (x22:Int) (w9:World):Prop:=
 ∃x23,(∀w',aO w9 w'->Calls P F.bV #[.pointer (some (p1.add 0)),iv x21] w' fun x w''=>x= .returned (iv x23)/\aO w' w'')/\∃x24,(∀w',aO w9 w'->Calls P F.bV #[.pointer (some (p1.add 0)),iv x22] w' fun x w''=>x= .returned (iv x24)/\aO w' w'')/\∀w10,aO w9 w10->(Calls P F.Ky #[.pointer (some p1),iv x21] w10 (cO fun v1 w11=>v1=(.tuple #[])/\(∃u1,w11.cell? (p2.add 0)=some u1)/\w11.frozen? (p2.add 0)=false/\∀w12,w12=w11.setCell (p2.add 0) (iv x22)->(∃A4 n4 c4,w12.cell? (p1.add 7)=some (.slice A4 n4 c4)/\∃x25,∃b4,∃x26,∃x27,∃x28,bG w12 p2 [iv x25,.bool b4,iv x26,iv x27,iv x28]/\0<=x21/\x21<(n4:Int)/\∃a4,A4=some a4/\∀w37,aO w12 w37->oH w37 (a4.add (x21.toNat*5)) 5/\∀w13,w13=cZ w37 (a4.add (x21.toNat*5)) [iv x25,.bool b4,iv x26,iv x27,iv x28]->(∀w14,aO w13 w14->(∃A5 n5 c5,w14.cell? (p1.add 9)=some (.slice A5 n5 c5)/\∃A6 n6 c6,w14.cell? ((p1.add 0).add 3)=some (.slice A6 n6 c6)/\0<=x24/\x24<(n6:Int)/\∃a5,A6=some a5/\∃x29,w14.cell? (a5.add (x24.toNat*1))=some (iv x29)/\∃A7 n7 c7,w14.cell? (p1.add 5)=some (.slice A7 n7 c7)/\0<=x24/\x24<(n7:Int)/\∃a6,A7=some a6/\∃A8 n8 c8,w14.cell? (a6.add (x24.toNat*1))=some (.slice A8 n8 c8)/\∀w22,aO w14 w22->∀(p4:Addr) (w15:World),New w22 (.cells #[.string .empty,.bool true,iv x23,iv x24,iv x21,iv x22,iv x29,iv (n8:Int)] T.kS) p4 w15->(∀w21,aO w15 w21->∃(A9:Option Addr) (n9 c9:Nat) (w16:World),(Builtin.append_ #[T.kH,T.kH] T.kH #[.slice A5 n5 c5,.slice (some p4) 1 1]).run P w21= .ok (.slice A9 n9 c9) w16/\(∀w20,aO w16 w20->(∃u2,w20.cell? (p1.add 9)=some u2)/\w20.frozen? (p1.add 9)=false/\∀w17,w17=w20.setCell (p1.add 9) (.slice A9 n9 c9)->(∀w18,aO w17 w18->((nP p1 x23 x24 A1 c1 n1 k1 I1) w18)))))))))
def Ik (p1:Addr) (x1:Int) (b1:Bool) (x2:Int) (x3:Int) (x4:Int) (K:World->Prop) (w:World):Prop:=
 ∀(p2:Addr) (w1:World),New w (.cells #[iv x1,.bool b1,iv x2,iv x3,iv x4] T.jG) p2 w1->(∃x5,∃b2,∃x6,∃x7,∃x8,bG w1 p2 [iv x5,.bool b2,iv x6,iv x7,iv x8]/\∀(p3:Addr) (w2:World),New w1 (.cells #[iv x5,.bool b2,iv x6,iv x7,iv x8] T.jG) p3 w2->(∃I1:Nat->Option Addr->Nat->Nat->World->Prop,(∃k1,I1 k1 (some p3) 1 1 w2)/\∀k1 (A1:Option Addr) (n1 c1:Nat) (w3:World),I1 k1 A1 n1 c1 w3->((0<(n1:Int)->(0<=(0:Int)/\(0:Int)<(n1:Int)/\∃a1,A1=some a1/\∃x9,∃b3,∃x10,∃x11,∃x12,bG w3 (a1.add ((0:Int).toNat*5)) [iv x9,.bool b3,iv x10,iv x11,iv x12]/\0<=(1:Int)/\(1:Int)<=(n1:Int)/\∀w38,aO w3 w38->oH w38 p2 5/\∀w4,w4=cZ w38 p2 [iv x9,.bool b3,iv x10,iv x11,iv x12]->(∀w5,aO w4 w5->(∃x13,w5.cell? (p2.add 2)=some (iv x13)/\∃x14,w5.cell? (p2.add 3)=some (iv x14)/\∀w6,aO w5 w6->(∃x15,(∀w',aO w6 w'->Calls P F.bV #[.pointer (some (p1.add 0)),iv x13] w' fun x w''=>x= .returned (iv x15)/\aO w' w'')/\∃x16,(∀w',aO w6 w'->Calls P F.bV #[.pointer (some (p1.add 0)),iv x14] w' fun x w''=>x= .returned (iv x16)/\aO w' w'')/\∀w7,aO w6 w7->((x15=x16->(∃k2,k2<k1/\I1 k2 (Jl A1 c1 ((1:Int).toNat) 5) (n1-(1:Int).toNat) (c1-(1:Int).toNat) w7))/\(¬(x15=x16)->(∃A2 n2 c2,w7.cell? ((p1.add 0).add 2)=some (.slice A2 n2 c2)/\∃x17,(∀w',aO w7 w'->Calls P F.bV #[.pointer (some (p1.add 0)),iv x13] w' fun x w''=>x= .returned (iv x17)/\aO w' w'')/\0<=x17/\x17<(n2:Int)/\∃a2,A2=some a2/\∃x18,w7.cell? (a2.add (x17.toNat*1))=some (iv x18)/\∃A3 n3 c3,w7.cell? ((p1.add 0).add 2)=some (.slice A3 n3 c3)/\∃x19,(∀w',aO w7 w'->Calls P F.bV #[.pointer (some (p1.add 0)),iv x14] w' fun x w''=>x= .returned (iv x19)/\aO w' w'')/\0<=x19/\x19<(n3:Int)/\∃a3,A3=some a3/\∃x20,w7.cell? (a3.add (x19.toNat*1))=some (iv x20)/\∀w8,aO w7 w8->((x20<x18->((jS p1 p2 A1 c1 n1 k1 I1) x14 x13 w8))/\(¬(x20<x18)->((jS p1 p2 A1 c1 n1 k1 I1) x13 x14 w8)))))))))))/\(¬(0<(n1:Int))->(K w3)))))
theorem aCb (p1:Addr) (x1:Int) (b1:Bool) (x2:Int) (x3:Int) (x4:Int) (K:World->Prop) (w:World) (H:Ik p1 x1 b1 x2 x3 x4 K w):Calls P F.xM #[.pointer (some p1),.agg #[iv x1,.bool b1,iv x2,iv x3,iv x4]] w (cO fun v w'=>v=(.tuple #[])/\K w'):=by
 unfold Ik at H;refine bT (P:=P) Tryz.func19 rfl [(0,.pointer (some p1)),(1,.agg #[iv x1,.bool b1,iv x2,iv x3,iv x4])] 184 rfl rfl (aa rfl (aa rfl az)) (aG (aF (iP (f:=(fun p=> .pointer (some p))) rfl rfl (aI rfl) (fun a ha=>uM (ha.ev rfl) uO) ?_)));intro p2 w1 hN;replace H:=H _ _ hN;refine aH (nc (y2 0 3 rfl) (aG (aF ?_)));obtain⟨x5,b2,x6,x7,x8,h2,H⟩:=H;refine ld rfl (gW (vs:=[iv x5,.bool b2,iv x6,iv x7,iv x8]) TF.uY TF.dQ h2) (sz rfl rfl (xl 1 1 (.cells #[iv x5,.bool b2,iv x6,iv x7,iv x8] T.jG) rfl) ?_);intro p3 w2 hN;replace H:=H _ _ hN;refine ag rfl (aH (nc (y3 0 3 4 rfl) (aY ?_)));obtain⟨I1,⟨k1,hi⟩,H⟩:=H;refine fK (fun k1 a w'=>∃A1 n1 c1,Ok 184 [(0,.pointer (some p1)),(3,.pointer (some p2)),(4,.slice A1 n1 c1)] a/\I1 k1 A1 n1 c1 w') (fun a ha=>⟨k1,some p3,1,1,ha.weaken cs,hi⟩) ?_;rintro k1 a w3 ⟨A1,n1,c1,ha,hI⟩;replace H:=H k1 A1 n1 c1 w3 hI;refine cu ha ?_;refine aG (aG (aF (mv rfl (sv rfl rfl (xb rfl (fun _=>bW TF.aBj)) (bo rfl rfl aBu (aH (nc (y4 0 3 4 17 rfl) ?_)))))));refine bC rfl (fun hb=> ?_) (fun hb=> ?_)
 ·replace H:=H.1 hb;refine aX (nc (y3 0 3 4 rfl) (aY (aG ?_)));refine bU follows [0,1,2,3,4,6] [2] 7 rfl rfl (by kernel_rfl) (fun _ _ d _ _ h=>by cases d<;>exact h) (fun cm W D=> ?_);refine gZ 0 cm rfl rfl D W fun _ D W=> ?_;obtain⟨h3,h4,a1,e1,H⟩:=H;refine Ie 1 cm rfl rfl rfl (aU TF.iD TF.dQ e1 h3 h4) D W fun _ D W=> ?_;obtain⟨x9,b3,x10,x11,x12,h5,H⟩:=H;refine vl 2 cm rfl rfl (fun hw=>(gW (vs:=[iv x9,.bool b3,iv x10,iv x11,iv x12]) TF.uY TF.dQ (hw.cells h5))) D W fun _ D W=>(aBv 3 cm rfl rfl D fun _ D=> ?_);obtain⟨h6,h7,H⟩:=H;refine Qj 4 cm rfl rfl rfl (fun w' a ha=>Ad (ha.ev rfl) (yP (ha.ev rfl)) rfl rfl (aG3 TF.iD TF.dQ h6 h7)) D fun _ D=>(ar 5 ?_);obtain⟨h10,H⟩:=H _ D;refine mY rfl rfl (aI rfl) (xs rfl rfl (kN TF.dQ (by simp[Value.oneCell']) h10)) rfl false (by kernel_rfl) ?_;intro w4 hw _ D;replace H:=H _ hw;clear hw;refine⟨fun h=>(by cases h),?_⟩;refine Bo 6 cm rfl rfl D fun _ D=>(dJ (by kernel_rfl) D ?_);intro w5 D;replace H:=H _ D;clear D cm;refine nc (y3 0 3 4 rfl) (aG ?_);refine bU follows [0,1,2,3,4,5] [1,3] 6 rfl rfl (by kernel_rfl) (fun _ _ d _ _ h=>by cases d<;>exact h) (fun cm W D=> ?_);refine lH 0 cm rfl rfl (TF.yV _ _) D W fun _ D W=> ?_;obtain⟨x13,h11,H⟩:=H;refine vl 1 cm rfl rfl (fun hw=>(aJ TF.aP ((hw.cell _).trans h11))) D W fun _ D W=>(lH 2 cm rfl rfl (TF.Eb _ _) D W fun _ D W=> ?_);obtain⟨x14,h12,H⟩:=H;refine vl 3 cm rfl rfl (fun hw=>(aJ TF.aP ((hw.cell _).trans h12))) D W fun _ D W=>(Bo 4 cm rfl rfl D fun _ D=>(Bo 5 cm rfl rfl D fun _ D=>(dJ (by kernel_rfl) D ?_)));intro w6 D;replace H:=H _ D;clear D cm;refine nc (y5 0 3 4 5 6 rfl) (aG (aG ?_));refine bU follows [0,1,2,3,4,5,6,7,8,9,10] [4,9] 11 rfl rfl (by kernel_rfl) (fun _ _ d _ _ h=>by cases d<;>exact h) (fun cm W D=> ?_);refine gZ 0 cm rfl rfl D W fun _ D W=>(Gh 1 cm rfl rfl D W fun _ D W=>(lH 2 cm rfl rfl (TF.bI _ _) D W fun _ D W=>(gZ 3 cm rfl rfl D W fun _ D W=> ?_)));obtain⟨x15,h13,H⟩:=H;refine Ql (i:=4) cm rfl (by kernel_rfl) W rfl rfl (aI rfl) (fun w' hw a ha=>nD (ha.ev rfl) (ha.evs rfl) FF.bJ) h13 rfl ?_;intro _ hd W;replace D:=D.trans hd;clear hd;refine gZ 5 cm rfl rfl D W fun _ D W=>(Gh 6 cm rfl rfl D W fun _ D W=>(lH 7 cm rfl rfl (TF.bI _ _) D W fun _ D W=>(gZ 8 cm rfl rfl D W fun _ D W=> ?_)));obtain⟨x16,h14,H⟩:=H;refine Ql (i:=9) cm rfl (by kernel_rfl) W rfl rfl (aI rfl) (fun w' hw a ha=>nD (ha.ev rfl) (ha.evs rfl) FF.bJ) h14 rfl ?_;intro _ hd W;replace D:=D.trans hd;clear hd;refine Qj 10 cm rfl rfl rfl (fun w' a ha=>fZ (ha.ev rfl) (ha.ev rfl) iR) D fun _ D=>(dJ (by kernel_rfl) D ?_);intro w7 D;replace H:=H _ D;clear D cm;refine nc (y6 0 3 4 5 6 37 rfl) ?_;refine bC rfl (fun hb=> ?_) (fun hb=> ?_)
  ·replace H:=H.1 hb;refine eU (aT (bQ ?_));obtain⟨k2,hk,H⟩:=H;exact bD fun a ha=>⟨k2,hk,Jl A1 c1 ((1:Int).toNat) 5,n1-(1:Int).toNat,c1-(1:Int).toNat,ha.weaken cs,H⟩
  ·replace H:=H.2 hb;refine aX (nc (y5 0 3 4 5 6 rfl) ?_);refine fA (fun a w=>∃x21,∃x22,Ok 184 [(0,.pointer (some p1)),(3,.pointer (some p2)),(4,(.slice (Jl A1 c1 ((1:Int).toNat) 5) (n1-(1:Int).toNat) (c1-(1:Int).toNat))),(5,iv x21),(6,iv x22)] a/\jS p1 p2 A1 c1 n1 k1 I1 x21 x22 w) ?_ ?_
   ·rintro a w9 ⟨x21,x22,ha,H⟩;unfold jS at H;refine cu ha ?_;refine aG ?_;refine bU follows [0,1,2,3,4,5,6,7,8,9,10,11] [4,9] 12 rfl rfl (by kernel_rfl) (fun _ _ d _ _ h=>by cases d<;>exact h) (fun cm W D=> ?_);refine gZ 0 cm rfl rfl D W fun _ D W=>(Gh 1 cm rfl rfl D W fun _ D W=>(lH 2 cm rfl rfl (TF.bI _ _) D W fun _ D W=>(gZ 3 cm rfl rfl D W fun _ D W=> ?_)));obtain⟨x23,h25,H⟩:=H;refine Ql (i:=4) cm rfl (by kernel_rfl) W rfl rfl (aI rfl) (fun w' hw a ha=>nD (ha.ev rfl) (ha.evs rfl) FF.bJ) h25 rfl ?_;intro _ hd W;replace D:=D.trans hd;clear hd;refine gZ 5 cm rfl rfl D W fun _ D W=>(Gh 6 cm rfl rfl D W fun _ D W=>(lH 7 cm rfl rfl (TF.bI _ _) D W fun _ D W=>(gZ 8 cm rfl rfl D W fun _ D W=> ?_)));obtain⟨x24,h26,H⟩:=H;refine Ql (i:=9) cm rfl (by kernel_rfl) W rfl rfl (aI rfl) (fun w' hw a ha=>nD (ha.ev rfl) (ha.evs rfl) FF.bJ) h26 rfl ?_;intro _ hd W;replace D:=D.trans hd;clear hd;refine Bo 10 cm rfl rfl D fun _ D=>(Bo 11 cm rfl rfl D fun _ D=>(dJ (by kernel_rfl) D ?_));intro w10 D;replace H:=H _ D;clear D cm;refine nc (y7 0 3 4 5 6 7 8 rfl) (aG (aF (mv rfl (mv rfl (sc rfl rfl FF.Xo H ?_)))));rintro _ w11 ⟨rfl,H⟩;refine aH (nc (y7 0 3 4 5 6 7 8 rfl) (aG (aF (mv rfl (fa rfl (TF.nX _ _) ?_)))));obtain⟨⟨u1,h27⟩,h28,H⟩:=H;refine oO rfl (aI rfl) (xs rfl rfl (dM TF.size_int rfl rfl h27 h28)) ?_;intro w12 hw;replace H:=H _ hw;clear hw;refine aH (nc (y7 0 3 4 5 6 7 8 rfl) (aG ?_));refine bU follows [0,1,2,3,4,5,6] [3,5] 8 rfl rfl (by kernel_rfl) (fun _ _ d _ _ h=>by cases d<;>exact h) (fun cm W D=> ?_);refine gZ 0 cm rfl rfl D W fun _ D W=>(Gh 1 cm rfl rfl D W fun _ D W=>(lH 2 cm rfl rfl (TF.jX _ _) D W fun _ D W=> ?_));obtain⟨A4,n4,c4,h29,H⟩:=H;refine vl 3 cm rfl rfl (fun hw=>(aJ TF.jW ((hw.cell _).trans h29))) D W fun _ D W=>(gZ 4 cm rfl rfl D W fun _ D W=> ?_);obtain⟨x25,b4,x26,x27,x28,h30,H⟩:=H;refine vl 5 cm rfl rfl (fun hw=>(gW (vs:=[iv x25,.bool b4,iv x26,iv x27,iv x28]) TF.uY TF.dQ (hw.cells h30))) D W fun _ D W=> ?_;obtain⟨h31,h32,a4,e4,H⟩:=H;refine aCh 6 cm rfl rfl rfl (aU TF.iD TF.dQ e4 h31 h32) D fun _ D=>(ar 7 ?_);obtain⟨h33,H⟩:=H _ D;refine mY rfl rfl (aI rfl) (xs rfl rfl (kN TF.dQ (by simp[Value.oneCell']) h33)) rfl false (by kernel_rfl) ?_;intro w13 hw _ D;replace H:=H _ hw;clear hw;refine⟨fun h=>(by cases h),?_⟩;refine dJ (by kernel_rfl) D ?_;intro w14 D;replace H:=H _ D;clear D cm;refine nc (y7 0 3 4 5 6 7 8 rfl) ?_;refine fA (fun a w=>Ok 184 [(0,.pointer (some p1)),(3,.pointer (some p2)),(4,(.slice (Jl A1 c1 ((1:Int).toNat) 5) (n1-(1:Int).toNat) (c1-(1:Int).toNat))),(7,iv x23),(8,iv x24)] a/\nP p1 x23 x24 A1 c1 n1 k1 I1 w) ?_ ?_
    ·rintro a w19 ⟨ha,H⟩;unfold nP at H;refine cu ha ?_;refine aG (aF (mv rfl (nk rfl (fa rfl (TF.bI _ _) (mv rfl (mv rfl (sc rfl rfl FF.Tz H ?_)))))));rintro _ w23 ⟨rfl,H⟩;refine aH (nc (y5 0 3 4 7 8 rfl) (aG (aG (aF (mv rfl (nk rfl (fa rfl (TF.oN _ _) ?_)))))));obtain⟨A10,n10,c10,h46,H⟩:=H;refine ld rfl (aJ TF.jK h46) (mv rfl ?_);obtain⟨h47,h48,a7,e7,H⟩:=H;refine ix rfl rfl (aU TF.kY TF.fH e7 h47 h48) ?_;obtain⟨A11,n11,c11,h49,H⟩:=H;refine ld rfl (aJ TF.bM h49) (sv rfl rfl (xb rfl (fun _=>bW TF.bP)) (mv rfl (aH (nc (y8 0 3 4 7 8 129 130 131 rfl) (aY ?_)))));obtain⟨I2,⟨k3,hi⟩,H⟩:=H;refine fK (fun k3 a w'=>∃A12 n12 c12,∃x30,Ok 184 [(0,.pointer (some p1)),(3,.pointer (some p2)),(4,.slice A12 n12 c12),(7,iv x23),(8,iv x24),(129,.slice A11 n11 c11),(130,iv (n11:Int)),(131,iv x30)] a/\I2 k3 A12 n12 c12 x30 w') (fun a ha=>⟨k3,Jl A1 c1 ((1:Int).toNat) 5,n1-(1:Int).toNat,c1-(1:Int).toNat,0,ha.weaken cs,hi⟩) ?_;rintro k3 a w24 ⟨A12,n12,c12,x30,ha,hI⟩;replace H:=H k3 A12 n12 c12 x30 w24 hI;refine cu ha ?_;refine aG (aF (bo rfl rfl iY (aH (nc (y9 0 3 4 7 8 129 130 131 132 rfl) (aG ?_)))));refine bC rfl (fun hb=> ?_) (fun hb=> ?_)
     ·replace H:=H.1 hb;refine aX (nc (y8 0 3 4 7 8 129 130 131 rfl) ?_);refine fA (fun a w=>∃A14 n14 c14,Ok 184 [(0,.pointer (some p1)),(3,.pointer (some p2)),(4,.slice A14 n14 c14),(7,iv x23),(8,iv x24),(129,.slice A11 n11 c11),(130,iv (n11:Int)),(131,iv x30)] a/\jQ k3 I2 x30 A14 n14 c14 w) ?_ ?_
      ·rintro a w31 ⟨A14,n14,c14,ha,H⟩;unfold jQ at H;refine cu ha ?_;refine aF (bo rfl rfl kC (mv rfl (aH ?_)));obtain⟨k4,hk,H⟩:=H;exact bD fun a ha=>⟨k4,hk,A14,n14,c14,IntKind.wrap .i64 (x30+1),ha.weaken cs,H⟩
      ·refine aY (aG (aF ?_));obtain⟨h50,h51,a8,e8,H⟩:=H;refine ix rfl rfl (aU TF.aV TF.size_int e8 h50 h51) ?_;obtain⟨x31,h52,H⟩:=H;refine ld rfl (aJ TF.aP h52) (ag rfl (aH (nc (y9 0 3 4 7 8 10 129 130 131 rfl) (aG (aF (mv rfl (mv rfl (sc rfl rfl FF.Gz H ?_))))))));rintro _ w25 ⟨x32,b5,rfl,H⟩;refine mv rfl (sv rfl rfl (xe rfl rfl) (sv rfl rfl (xe rfl rfl) (ag rfl (ag rfl (aH (nc (y11 0 3 4 7 8 10 11 12 129 130 131 rfl) ?_))))));refine fA (fun a w=>∃b6,Ok 184 [(0,.pointer (some p1)),(3,.pointer (some p2)),(4,.slice A12 n12 c12),(7,iv x23),(8,iv x24),(10,iv x31),(11,iv x32),(129,.slice A11 n11 c11),(130,iv (n11:Int)),(131,iv x30),(155,.bool b6)] a/\nN x31 x32 A12 n12 c12 (jQ k3 I2 x30) b6 w) ?_ ?_
       ·rintro a w27 ⟨b6,ha,H⟩;unfold nN at H;refine cu ha ?_;refine eG rfl (fun hb=> ?_) (fun hb=> ?_)
        ·replace H:=H.1 hb;refine aF (mv rfl (mv rfl (mv rfl (sv rfl rfl (xp (.agg #[iv 0,.bool true,iv x31,iv x32,iv 0]) rfl) (sz rfl rfl (xl 1 1 (.cells #[iv 0,.bool true,iv x31,iv x32,iv 0] T.jG) rfl) ?_)))));intro p5 w29 hN;obtain⟨A13,n13,c13,w30,h55,H⟩:=H _ _ hN;exact sv rfl rfl (xb rfl (fun _=>dY h55)) (ag rfl (aH (bZ (bD fun a ha=>⟨A13,n13,c13,ha.weaken cs,H⟩))))
        ·replace H:=H.2 hb;exact aX (bZ (bD fun a ha=>⟨A12,n12,c12,ha.weaken cs,H⟩))
       ·refine bU follows [0,1,2,3,4,5,6,7,8,9,10,11,12,13,14] [7,12] 15 rfl rfl (by kernel_rfl) (fun _ _ d _ _ h=>by cases d<;>exact h) (fun cm W D=> ?_);refine gZ 0 cm rfl rfl D W fun _ D W=>(pv 1 cm rfl rfl rfl (fun w' a ha=>aHw (ha.ev rfl) sK) D W fun _ D W=> ?_);rcases tf (!b5) with hb|hb
        ·replace H:=H.1 hb;refine pv 2 cm rfl rfl rfl (fun w' a ha=>aGb (iC (ha.ev rfl)) hb) D W fun _ D W=>(zX 3 cm rfl rfl rfl rfl D W fun _ D W=>(aPk 4 cm rfl rfl rfl rfl D W fun _ D W=>(Ti 5 cm rfl rfl rfl rfl (TF.bI _ _) D W fun _ D W=>(zX 6 cm rfl rfl rfl rfl D W fun _ D W=> ?_))));obtain⟨x33,h53,H⟩:=H;refine Ql (i:=7) cm rfl (by kernel_rfl) W rfl rfl (dW rfl rfl rfl) (fun w' hw a ha=>nD (ha.ev rfl) (ha.evs rfl) FF.bJ) h53 rfl ?_;intro _ hd W;replace D:=D.trans hd;clear hd;refine zX 8 cm rfl rfl rfl rfl D W fun _ D W=>(aPk 9 cm rfl rfl rfl rfl D W fun _ D W=>(Ti 10 cm rfl rfl rfl rfl (TF.bI _ _) D W fun _ D W=>(zX 11 cm rfl rfl rfl rfl D W fun _ D W=> ?_)));obtain⟨x34,h54,H⟩:=H;refine Ql (i:=12) cm rfl (by kernel_rfl) W rfl rfl (dW rfl rfl rfl) (fun w' hw a ha=>nD (ha.ev rfl) (ha.evs rfl) FF.bJ) h54 rfl ?_;intro _ hd W;replace D:=D.trans hd;clear hd;refine aGj 13 cm rfl rfl rfl rfl rfl (fun w' a ha=>fZ (ha.ev rfl) (ha.ev rfl) qR) D fun _ D=>(aDp 14 cm rfl rfl rfl D fun _ D=>(dJ (by kernel_rfl) D ?_));intro w26 D;replace H:=H _ D;clear D cm;exact bD fun a ha=>⟨(decide (x33≠x34)),ha.weaken cs,H⟩
        ·replace H:=H.2 hb;refine pv 2 cm rfl rfl rfl (fun w' a ha=>aGk (iC (ha.ev rfl)) hb) D W fun _ D W=>(ps 3 cm rfl rfl rfl rfl rfl D W fun _ D W=>(ps 4 cm rfl rfl rfl rfl rfl D W fun _ D W=>(ps 5 cm rfl rfl rfl rfl rfl D W fun _ D W=>(ps 6 cm rfl rfl rfl rfl rfl D W fun _ D W=>(ps 7 cm rfl rfl rfl rfl rfl D W fun _ D W=>(ps 8 cm rfl rfl rfl rfl rfl D W fun _ D W=>(ps 9 cm rfl rfl rfl rfl rfl D W fun _ D W=>(ps 10 cm rfl rfl rfl rfl rfl D W fun _ D W=>(ps 11 cm rfl rfl rfl rfl rfl D W fun _ D W=>(ps 12 cm rfl rfl rfl rfl rfl D W fun _ D W=>(psd 13 cm rfl rfl rfl rfl rfl D fun _ D=>(aCs 14 cm rfl rfl rfl D fun _ D=>(dJ (by kernel_rfl) D ?_)))))))))))));intro w28 D;replace H:=H _ D;clear D cm;exact bD fun a ha=>⟨false,ha.weaken cs,H⟩
     ·replace H:=H.2 hb;refine eU (aT (aT (bQ (nc (y5 0 3 4 7 8 rfl) ?_))));obtain⟨X1,H⟩:=H;refine iM follows X1 [0,1,2,3,4,5,6,7,8,9,10,11,12,13,14,15,16,17,18,20] [3] 22 rfl rfl (by kernel_rfl) (fun _ _ d _ _ h=>by cases d<;>exact h) (fun cm W D=> ?_);refine gZ 0 cm rfl rfl D W fun _ D W=>(Gh 1 cm rfl rfl D W fun _ D W=>(lH 2 cm rfl rfl (TF.oN _ _) D W fun _ D W=> ?_));obtain⟨A15,n15,c15,h56,hx',H⟩:=H;replace h56:=And.intro h56 hx';clear hx';refine vl 3 cm rfl rfl (fun hw=>(aJ TF.jK (hw.cell h56))) D W fun _ D W=>(gZ 4 cm rfl rfl D W fun _ D W=>(gZ 5 cm rfl rfl D W fun _ D W=>(Gh 6 cm rfl rfl D W fun _ D W=>(lH 7 cm rfl rfl (TF.oN _ _) D W fun _ D W=> ?_))));obtain⟨A16,n16,c16,h57,H⟩:=H;refine Qg (E:=aO w24) (i:=8) cm (fun _ _=>aO.trans) rfl (by kernel_rfl) D rfl rfl (aI rfl) (fun w' hw a ha=>nT (ha.ev rfl) (aJ TF.jK ((hw.cell _).trans h57))) rfl ?_;intro _ hd;replace D:=D.trans hd;replace W:=cm.held _ _ W hd;clear hd;refine gZ 9 cm rfl rfl D W fun _ D W=> ?_;obtain⟨h58,h59,a9,e9,H⟩:=H;refine Ie 10 cm rfl rfl rfl (aU TF.kY TF.fH e9 h58 h59) D W fun _ D W=> ?_;obtain⟨A17,n17,c17,h60,H⟩:=H;refine Qg (E:=aO w24) (i:=11) cm (fun _ _=>aO.trans) rfl (by kernel_rfl) D rfl rfl (aI rfl) (fun w' hw a ha=>nT (ha.ev rfl) (aJ TF.bM ((hw.cell _).trans h60))) rfl ?_;intro _ hd;replace D:=D.trans hd;replace W:=cm.held _ _ W hd;clear hd;refine gZ 12 cm rfl rfl D W fun _ D W=>(Gh 13 cm rfl rfl D W fun _ D W=>(lH 14 cm rfl rfl (TF.oN _ _) D W fun _ D W=> ?_));obtain⟨A18,n18,c18,h61,H⟩:=H;refine Qg (E:=aO w24) (i:=15) cm (fun _ _=>aO.trans) rfl (by kernel_rfl) D rfl rfl (aI rfl) (fun w' hw a ha=>nT (ha.ev rfl) (aJ TF.jK ((hw.cell _).trans h61))) rfl ?_;intro _ hd;replace D:=D.trans hd;replace W:=cm.held _ _ W hd;clear hd;refine gZ 16 cm rfl rfl D W fun _ D W=> ?_;obtain⟨h62,h63,a10,e10,H⟩:=H;refine Ie 17 cm rfl rfl rfl (aU TF.kY TF.fH e10 h62 h63) D W fun _ D W=> ?_;obtain⟨A19,n19,c19,h64,H⟩:=H;refine Qg (E:=aO w24) (i:=18) cm (fun _ _=>aO.trans) rfl (by kernel_rfl) D rfl rfl (aI rfl) (fun w' hw a ha=>nT (ha.ev rfl) (aJ TF.bM ((hw.cell _).trans h64))) rfl ?_;intro _ hd;replace D:=D.trans hd;replace W:=cm.held _ _ W hd;clear hd;refine ar 19 ?_;obtain⟨A20,n20,c20,w32,h65,H⟩:=H _ D;refine Ap rfl rfl rfl (aI rfl) (xb rfl (fun _=>dY h65)) rfl true (by kernel_rfl) ?_;intro _ D;have W:=H.1.drawn D;replace H:=H.2;refine⟨fun _=>W,?_⟩;obtain⟨h66,h67,a11,e11,H⟩:=H;refine aCh 20 cm rfl rfl rfl (aU TF.kY TF.fH e11 h66 h67) D fun _ D=>(ar 21 ?_);obtain⟨⟨u3,h68⟩,h69,H⟩:=H _ D;refine mY rfl rfl (aI rfl) (xs rfl rfl (dM TF.fH rfl rfl h68 h69)) rfl false (by kernel_rfl) ?_;intro w33 hw _ D;replace H:=H _ hw;clear hw;refine⟨fun h=>(by cases h),?_⟩;refine dJ (by kernel_rfl) D ?_;intro w34 D;replace H:=H _ D;clear D cm;refine bZ ?_;obtain⟨k5,hk,H⟩:=H;exact bD fun a ha=>⟨k5,hk,A12,n12,c12,ha.weaken cs,H⟩
    ·refine iM follows (fun _=>False) [0,1,2,3,4,5,6,7,8,9,10,11,12,13,14,15,16,17,18,19,20,21,22,23,24,25,28,29] [4] 31 rfl rfl (by kernel_rfl) (fun _ _ d _ _ h=>by cases d<;>exact h) (fun cm W D=> ?_);refine gZ 0 cm rfl rfl D W fun _ D W=>(gZ 1 cm rfl rfl D W fun _ D W=>(Gh 2 cm rfl rfl D W fun _ D W=>(lH 3 cm rfl rfl (TF.kT _ _) D W fun _ D W=> ?_)));obtain⟨A5,n5,c5,h34,H⟩:=H;refine vl 4 cm rfl rfl (fun hw=>(aJ TF.qY (hw.cell ⟨h34,fun h=>h⟩))) D W fun _ D W=>(gZ 5 cm rfl rfl D W fun _ D W=>(gZ 6 cm rfl rfl D W fun _ D W=>(gZ 7 cm rfl rfl D W fun _ D W=>(gZ 8 cm rfl rfl D W fun _ D W=>(gZ 9 cm rfl rfl D W fun _ D W=>(Gh 10 cm rfl rfl D W fun _ D W=>(lH 11 cm rfl rfl (TF.bI _ _) D W fun _ D W=>(lH 12 cm rfl rfl (TF.kG _ _) D W fun _ D W=> ?_))))))));obtain⟨A6,n6,c6,h35,H⟩:=H;refine Qg (E:=aO w14) (i:=13) cm (fun _ _=>aO.trans) rfl (by kernel_rfl) D rfl rfl (aI rfl) (fun w' hw a ha=>nT (ha.ev rfl) (aJ TF.bM ((hw.cell _).trans h35))) rfl ?_;intro _ hd;replace D:=D.trans hd;replace W:=cm.held _ _ W hd;clear hd;refine gZ 14 cm rfl rfl D W fun _ D W=> ?_;obtain⟨h36,h37,a5,e5,H⟩:=H;refine Ie 15 cm rfl rfl rfl (aU TF.aV TF.size_int e5 h36 h37) D W fun _ D W=> ?_;obtain⟨x29,h38,H⟩:=H;refine Qg (E:=aO w14) (i:=16) cm (fun _ _=>aO.trans) rfl (by kernel_rfl) D rfl rfl (aI rfl) (fun w' hw a ha=>nT (ha.ev rfl) (aJ TF.aP ((hw.cell _).trans h38))) rfl ?_;intro _ hd;replace D:=D.trans hd;replace W:=cm.held _ _ W hd;clear hd;refine gZ 17 cm rfl rfl D W fun _ D W=>(Gh 18 cm rfl rfl D W fun _ D W=>(lH 19 cm rfl rfl (TF.oN _ _) D W fun _ D W=> ?_));obtain⟨A7,n7,c7,h39,H⟩:=H;refine Qg (E:=aO w14) (i:=20) cm (fun _ _=>aO.trans) rfl (by kernel_rfl) D rfl rfl (aI rfl) (fun w' hw a ha=>nT (ha.ev rfl) (aJ TF.jK ((hw.cell _).trans h39))) rfl ?_;intro _ hd;replace D:=D.trans hd;replace W:=cm.held _ _ W hd;clear hd;refine gZ 21 cm rfl rfl D W fun _ D W=> ?_;obtain⟨h40,h41,a6,e6,H⟩:=H;refine Ie 22 cm rfl rfl rfl (aU TF.kY TF.fH e6 h40 h41) D W fun _ D W=> ?_;obtain⟨A8,n8,c8,h42,H⟩:=H;refine Qg (E:=aO w14) (i:=23) cm (fun _ _=>aO.trans) rfl (by kernel_rfl) D rfl rfl (aI rfl) (fun w' hw a ha=>nT (ha.ev rfl) (aJ TF.bM ((hw.cell _).trans h42))) rfl ?_;intro _ hd;replace D:=D.trans hd;replace W:=cm.held _ _ W hd;clear hd;refine pv 24 cm rfl rfl rfl (fun w' a ha=>kQ (ha.evs rfl) (fun _=>bW TF.bP)) D W fun _ D W=>(pv 25 cm rfl rfl rfl (fun w'=>xp (.agg #[.string .empty,.bool true,iv x23,iv x24,iv x21,iv x22,iv x29,iv (n8:Int)]) rfl) D W fun _ D W=>(ar 26 ?_));replace H:=H _ D;refine lS (f:=(fun p=> .slice (some p) 1 1)) rfl rfl rfl (aI rfl) (xl 1 1 (.cells #[.string .empty,.bool true,iv x23,iv x24,iv x21,iv x22,iv x29,iv (n8:Int)] T.kS) rfl) rfl true (by kernel_rfl) ?_;intro p4 w15 hN _ D;replace H:=H _ _ hN;replace W:=(W.new hN).drawn D;refine⟨fun _=>W,?_⟩;refine ar 27 ?_;obtain⟨A9,n9,c9,w16,h43,H⟩:=H _ D;refine Ap rfl rfl rfl (aI rfl) (xb rfl (fun _=>dY h43)) rfl false (by kernel_rfl) ?_;intro _ D;refine⟨fun h=>(by cases h),?_⟩;refine Ut 28 cm rfl rfl D fun _ D=>(Fb 29 cm rfl rfl (TF.kT _ _) D fun _ D=>(ar 30 ?_));obtain⟨⟨u2,h44⟩,h45,H⟩:=H _ D;refine mY rfl rfl (aI rfl) (xs rfl rfl (dM TF.zS rfl rfl h44 h45)) rfl false (by kernel_rfl) ?_;intro w17 hw _ D;replace H:=H _ hw;clear hw;refine⟨fun h=>(by cases h),?_⟩;refine dJ (by kernel_rfl) D ?_;intro w18 D;replace H:=H _ D;clear D cm;exact bD fun a ha=>⟨ha.weaken cs,H⟩
   ·refine aG ?_;refine bU follows [0,1,2,3,4,5,6,7,8,9,10,11,12,13,14,15,16,17,18,19,20,21,22,23,24] [4,9,11,16,21,23] 25 rfl rfl (by kernel_rfl) (fun _ _ d _ _ h=>by cases d<;>exact h) (fun cm W D=> ?_);refine gZ 0 cm rfl rfl D W fun _ D W=>(Gh 1 cm rfl rfl D W fun _ D W=>(lH 2 cm rfl rfl (TF.bI _ _) D W fun _ D W=>(lH 3 cm rfl rfl (TF.kJ _ _) D W fun _ D W=> ?_)));obtain⟨A2,n2,c2,h15,H⟩:=H;refine vl 4 cm rfl rfl (fun hw=>(aJ TF.bM ((hw.cell _).trans h15))) D W fun _ D W=>(gZ 5 cm rfl rfl D W fun _ D W=>(Gh 6 cm rfl rfl D W fun _ D W=>(lH 7 cm rfl rfl (TF.bI _ _) D W fun _ D W=>(gZ 8 cm rfl rfl D W fun _ D W=> ?_))));obtain⟨x17,h16,H⟩:=H;refine Ql (i:=9) cm rfl (by kernel_rfl) W rfl rfl (aI rfl) (fun w' hw a ha=>nD (ha.ev rfl) (ha.evs rfl) FF.bJ) h16 rfl ?_;intro _ hd W;replace D:=D.trans hd;clear hd;obtain⟨h17,h18,a2,e2,H⟩:=H;refine Ie 10 cm rfl rfl rfl (aU TF.aV TF.size_int e2 h17 h18) D W fun _ D W=> ?_;obtain⟨x18,h19,H⟩:=H;refine vl 11 cm rfl rfl (fun hw=>(aJ TF.aP ((hw.cell _).trans h19))) D W fun _ D W=>(gZ 12 cm rfl rfl D W fun _ D W=>(Gh 13 cm rfl rfl D W fun _ D W=>(lH 14 cm rfl rfl (TF.bI _ _) D W fun _ D W=>(lH 15 cm rfl rfl (TF.kJ _ _) D W fun _ D W=> ?_))));obtain⟨A3,n3,c3,h20,H⟩:=H;refine vl 16 cm rfl rfl (fun hw=>(aJ TF.bM ((hw.cell _).trans h20))) D W fun _ D W=>(gZ 17 cm rfl rfl D W fun _ D W=>(Gh 18 cm rfl rfl D W fun _ D W=>(lH 19 cm rfl rfl (TF.bI _ _) D W fun _ D W=>(gZ 20 cm rfl rfl D W fun _ D W=> ?_))));obtain⟨x19,h21,H⟩:=H;refine Ql (i:=21) cm rfl (by kernel_rfl) W rfl rfl (aI rfl) (fun w' hw a ha=>nD (ha.ev rfl) (ha.evs rfl) FF.bJ) h21 rfl ?_;intro _ hd W;replace D:=D.trans hd;clear hd;obtain⟨h22,h23,a3,e3,H⟩:=H;refine Ie 22 cm rfl rfl rfl (aU TF.aV TF.size_int e3 h22 h23) D W fun _ D W=> ?_;obtain⟨x20,h24,H⟩:=H;refine vl 23 cm rfl rfl (fun hw=>(aJ TF.aP ((hw.cell _).trans h24))) D W fun _ D W=>(Qj 24 cm rfl rfl rfl (fun w' a ha=>fZ (ha.ev rfl) (ha.ev rfl) aBu) D fun _ D=>(dJ (by kernel_rfl) D ?_));intro w8 D;replace H:=H _ D;clear D cm;refine nc (y6 0 3 4 5 6 62 rfl) ?_;refine bC rfl (fun hb=> ?_) (fun hb=> ?_)
    ·replace H:=H.1 hb;exact aF (mv rfl (mv rfl (ag rfl (ag rfl (aH (bD fun a ha=>⟨x14,x13,ha.weaken cs,H⟩))))))
    ·replace H:=H.2 hb;exact aX (bD fun a ha=>⟨x13,x14,ha.weaken cs,H⟩)
 ·replace H:=H.2 hb;exact eU (aT (aT (bQ (pR (res0 rfl) ⟨_,rfl,rfl,H⟩))))
def Ld (p1:Addr) (K:World->Prop) (w:World):Prop:=
 ∃A1 n1 c1,w.cell? (p1.add 9)=some (.slice A1 n1 c1)/\∃A2 n2 c2,w.cell? (p1.add 9)=some (.slice A2 n2 c2)/\0<=IntKind.wrap .i64 ((n1:Int)-1)/\IntKind.wrap .i64 ((n1:Int)-1)<(n2:Int)/\∃a1,A2=some a1/\∃s1:ByteArray,∃b1,∃x1,∃x2,∃x3,∃x4,∃x5,∃x6,bG w (a1.add ((IntKind.wrap .i64 ((n1:Int)-1)).toNat*8)) [.string s1,.bool b1,iv x1,iv x2,iv x3,iv x4,iv x5,iv x6]/\∀(p2:Addr) (w1:World),New w (.cells #[.string .empty,.bool false,iv 0,iv 0,iv 0,iv 0,iv 0,iv 0] T.kS) p2 w1->(oH w1 p2 8/\∀w2,w2=cZ w1 p2 [.string s1,.bool b1,iv x1,iv x2,iv x3,iv x4,iv x5,iv x6]->(∃A3 n3 c3,w2.cell? (p1.add 9)=some (.slice A3 n3 c3)/\0<=IntKind.wrap .i64 ((n1:Int)-1)/\IntKind.wrap .i64 ((n1:Int)-1)<=(c3:Int)/\(∃u1,w2.cell? (p1.add 9)=some u1)/\w2.frozen? (p1.add 9)=false/\∀w3,w3=w2.setCell (p1.add 9) (.slice A3 ((IntKind.wrap .i64 ((n1:Int)-1)).toNat) c3)->(∃b2,w3.cell? (p2.add 1)=some (.bool b2)/\((!b2)=true->(∃m1:Option Nat,w3.cell? (p1.add 6)=some (.map m1)/\∃s2:ByteArray,w3.cell? (p2.add 0)=some (.string s2)/\∀w6,aO w3 w6->∃w4:World,(Builtin.delete_ #[T.Ec,T.string] T.t #[.map m1,.string s2]).run P w6= .ok (.tuple #[]) w4/\(∀w5,aO w4 w5->(K w5))))/\((!b2)=false->(∃A4 n4 c4,w3.cell? (p1.add 5)=some (.slice A4 n4 c4)/\∃x7,w3.cell? (p2.add 3)=some (iv x7)/\∃A5 n5 c5,w3.cell? (p1.add 5)=some (.slice A5 n5 c5)/\∃x8,w3.cell? (p2.add 3)=some (iv x8)/\0<=x8/\x8<(n5:Int)/\∃a2,A5=some a2/\∃A6 n6 c6,w3.cell? (a2.add (x8.toNat*1))=some (.slice A6 n6 c6)/\∃x9,w3.cell? (p2.add 7)=some (iv x9)/\∃x10,w3.cell? (p2.add 7)=some (iv x10)/\(0:Int)<=x9/\x9<=x10/\x10<=(c6:Int)/\0<=x7/\x7<(n4:Int)/\∃a3,A4=some a3/\∀w14,aO w3 w14->(∃u2,w14.cell? (a3.add (x7.toNat*1))=some u2)/\w14.frozen? (a3.add (x7.toNat*1))=false/\∀w7,w7=w14.setCell (a3.add (x7.toNat*1)) (.slice (Jl A6 (x10.toNat) 0 1) x9.toNat x10.toNat)->(∀w8,aO w7 w8->(∃x11,w8.cell? (p2.add 2)=some (iv x11)/\∃x12,w8.cell? (p2.add 3)=some (iv x12)/\∃x13,w8.cell? (p2.add 6)=some (iv x13)/\∀w10,aO w8 w10->Calls P F.Eo #[.pointer (some (p1.add 0)),iv x11,iv x12,iv x13] w10 (cO fun v1 w9=>v1=(.tuple #[])/\∀w12,aO w9 w12->(∃x14,w12.cell? (p2.add 4)=some (iv x14)/\∃x15,w12.cell? (p2.add 5)=some (iv x15)/\Calls P F.Om #[.pointer (some p1),iv x14,iv x15] w12 (cO fun v2 w13=>v2=(.tuple #[])/\K w13))))))))))
theorem aCg (p1:Addr) (K:World->Prop) (w:World) (H:Ld p1 K w):Calls P F.Kz #[.pointer (some p1)] w (cO fun v w'=>v=(.tuple #[])/\K w'):=by
 unfold Ld at H;refine bT (P:=P) Tryz.func59 rfl [(0,.pointer (some p1))] 71 rfl rfl (fun p hp=>by rcases List.mem_singleton.1 hp with rfl;rfl) (aG (aF (mv rfl (nk rfl (fa rfl (TF.kT _ _) ?_)))));obtain⟨A1,n1,c1,h1,H⟩:=H;refine ld rfl (aJ TF.qY h1) (sv rfl rfl (xb rfl (fun _=>bW TF.Bf)) (bo rfl rfl Pn (ag rfl (aH (nc (y2 0 2 rfl) (aG (aF (mv rfl (nk rfl (fa rfl (TF.kT _ _) ?_))))))))));obtain⟨A2,n2,c2,h2,H⟩:=H;refine ld rfl (aJ TF.qY h2) (mv rfl ?_);obtain⟨h3,h4,a1,e1,H⟩:=H;refine ix rfl rfl (aU TF.Uj TF.Hw e1 h3 h4) ?_;obtain⟨s1,b1,x1,x2,x3,x4,x5,x6,h5,H⟩:=H;refine ld rfl (gW (vs:=[.string s1,.bool b1,iv x1,iv x2,iv x3,iv x4,iv x5,iv x6]) TF.aFy TF.Hw h5) (iP (f:=(fun p=> .pointer (some p))) rfl rfl (aI rfl) (fun a ha=>mV (nC TF.aEy)) ?_);intro p2 w1 hN;obtain⟨h7,H⟩:=H _ _ hN;refine oO rfl (aI rfl) (xs rfl rfl (kN TF.Hw (by simp[Value.oneCell']) h7)) ?_;intro w2 hw;replace H:=H _ hw;clear hw;refine aH (nc (y3 0 2 3 rfl) (aG (aF (mv rfl (mv rfl (nk rfl (fa rfl (TF.kT _ _) ?_)))))));obtain⟨A3,n3,c3,h8,H⟩:=H;refine ld rfl (aJ TF.qY h8) (mv rfl ?_);obtain⟨h9,h10,H⟩:=H;refine sv rfl rfl (fun a ha=>Ad (ha.ev rfl) rfl (yP (ha.ev rfl)) rfl (xI TF.Uj TF.Hw h9 h10)) (nk rfl (fa rfl (TF.kT _ _) ?_));obtain⟨⟨u1,h13⟩,h14,H⟩:=H;refine oO rfl (aI rfl) (xs rfl rfl (dM TF.zS rfl rfl h13 h14)) ?_;intro w3 hw;replace H:=H _ hw;clear hw;refine aH (nc (y2 0 3 rfl) (aG (aG (aF (fa rfl (TF.aD9 _ _) ?_)))));obtain⟨b2,h15,H⟩:=H;refine ld rfl (aJ TF.Ah h15) (sv rfl rfl (xu rfl sK) (aH (nc (y3 0 3 28 rfl) ?_)));refine eG rfl (fun hb=> ?_) (fun hb=> ?_)
 ·replace H:=H.1 hb;refine aG ?_;refine bU follows [0,1,2,3,4,5] [3,5] 7 rfl rfl (by kernel_rfl) (fun _ _ d _ _ h=>by cases d<;>exact h) (fun cm W D=> ?_);refine gZ 0 cm rfl rfl D W fun _ D W=>(Gh 1 cm rfl rfl D W fun _ D W=>(lH 2 cm rfl rfl (TF.Qk _ _) D W fun _ D W=> ?_));obtain⟨m1,h16,H⟩:=H;refine vl 3 cm rfl rfl (fun hw=>(aJ TF.Iq ((hw.cell _).trans h16))) D W fun _ D W=>(lH 4 cm rfl rfl (TF.aDw _ _) D W fun _ D W=> ?_);obtain⟨s2,h17,H⟩:=H;refine vl 5 cm rfl rfl (fun hw=>(aJ TF.aKk ((hw.cell _).trans h17))) D W fun _ D W=>(ar 6 ?_);obtain⟨w4,h18,H⟩:=H _ D;refine aRu rfl rfl (aI rfl) (xb rfl (fun _=>aMk h18)) rfl false (by kernel_rfl) ?_;intro _ D;refine⟨fun h=>(by cases h),?_⟩;refine dJ (by kernel_rfl) D ?_;intro w5 D;replace H:=H _ D;clear D cm;exact nc zz (bK (aQ (aN (res0 rfl) ⟨_,rfl,rfl,H⟩)))
 ·replace H:=H.2 hb;refine aX (nc (y2 0 3 rfl) (aG ?_));refine bU follows [0,1,2,3,4,5,6,7,8,9,10,11,12,13,14,15,16,17,18,19] [3,5,9,11,13,15,17] 21 rfl rfl (by kernel_rfl) (fun _ _ d _ _ h=>by cases d<;>exact h) (fun cm W D=> ?_);refine gZ 0 cm rfl rfl D W fun _ D W=>(Gh 1 cm rfl rfl D W fun _ D W=>(lH 2 cm rfl rfl (TF.oN _ _) D W fun _ D W=> ?_));obtain⟨A4,n4,c4,h19,H⟩:=H;refine vl 3 cm rfl rfl (fun hw=>(aJ TF.jK ((hw.cell _).trans h19))) D W fun _ D W=>(lH 4 cm rfl rfl (TF.Oh _ _) D W fun _ D W=> ?_);obtain⟨x7,h20,H⟩:=H;refine vl 5 cm rfl rfl (fun hw=>(aJ TF.aP ((hw.cell _).trans h20))) D W fun _ D W=>(gZ 6 cm rfl rfl D W fun _ D W=>(Gh 7 cm rfl rfl D W fun _ D W=>(lH 8 cm rfl rfl (TF.oN _ _) D W fun _ D W=> ?_)));obtain⟨A5,n5,c5,h21,H⟩:=H;refine vl 9 cm rfl rfl (fun hw=>(aJ TF.jK ((hw.cell _).trans h21))) D W fun _ D W=>(lH 10 cm rfl rfl (TF.Oh _ _) D W fun _ D W=> ?_);obtain⟨x8,h22,H⟩:=H;refine vl 11 cm rfl rfl (fun hw=>(aJ TF.aP ((hw.cell _).trans h22))) D W fun _ D W=> ?_;obtain⟨h23,h24,a2,e2,H⟩:=H;refine Ie 12 cm rfl rfl rfl (aU TF.kY TF.fH e2 h23 h24) D W fun _ D W=> ?_;obtain⟨A6,n6,c6,h25,H⟩:=H;refine vl 13 cm rfl rfl (fun hw=>(aJ TF.bM ((hw.cell _).trans h25))) D W fun _ D W=>(lH 14 cm rfl rfl (TF.Xb _ _) D W fun _ D W=> ?_);obtain⟨x9,h26,H⟩:=H;refine vl 15 cm rfl rfl (fun hw=>(aJ TF.aP ((hw.cell _).trans h26))) D W fun _ D W=>(lH 16 cm rfl rfl (TF.Xb _ _) D W fun _ D W=> ?_);obtain⟨x10,h27,H⟩:=H;refine vl 17 cm rfl rfl (fun hw=>(aJ TF.aP ((hw.cell _).trans h27))) D W fun _ D W=> ?_;obtain⟨h28,h29,h30,H⟩:=H;refine Qj 18 cm rfl rfl rfl (fun w' a ha=>Ad (ha.ev rfl) rfl (yP (ha.ev rfl)) (yP (ha.ev rfl)) (aNe TF.aV TF.size_int h28 h29 h30)) D fun _ D=> ?_;obtain⟨h32,h33,a3,e3,H⟩:=H;refine aCh 19 cm rfl rfl rfl (aU TF.kY TF.fH e3 h32 h33) D fun _ D=>(ar 20 ?_);obtain⟨⟨u2,h34⟩,h35,H⟩:=H _ D;refine mY rfl rfl (aI rfl) (xs rfl rfl (dM TF.fH rfl rfl h34 h35)) rfl false (by kernel_rfl) ?_;intro w7 hw _ D;replace H:=H _ hw;clear hw;refine⟨fun h=>(by cases h),?_⟩;refine dJ (by kernel_rfl) D ?_;intro w8 D;replace H:=H _ D;clear D cm;refine nc (y2 0 3 rfl) (aG ?_);refine bU follows [0,1,2,3,4,5,6,7,8] [4,6,8] 10 rfl rfl (by kernel_rfl) (fun _ _ d _ _ h=>by cases d<;>exact h) (fun cm W D=> ?_);refine gZ 0 cm rfl rfl D W fun _ D W=>(Gh 1 cm rfl rfl D W fun _ D W=>(lH 2 cm rfl rfl (TF.bI _ _) D W fun _ D W=>(lH 3 cm rfl rfl (TF.aD1 _ _) D W fun _ D W=> ?_)));obtain⟨x11,h36,H⟩:=H;refine vl 4 cm rfl rfl (fun hw=>(aJ TF.aP ((hw.cell _).trans h36))) D W fun _ D W=>(lH 5 cm rfl rfl (TF.Oh _ _) D W fun _ D W=> ?_);obtain⟨x12,h37,H⟩:=H;refine vl 6 cm rfl rfl (fun hw=>(aJ TF.aP ((hw.cell _).trans h37))) D W fun _ D W=>(lH 7 cm rfl rfl (TF.aDl _ _) D W fun _ D W=> ?_);obtain⟨x13,h38,H⟩:=H;refine vl 8 cm rfl rfl (fun hw=>(aJ TF.aP ((hw.cell _).trans h38))) D W fun _ D W=>(ar 9 ?_);replace H:=H _ D;refine Vx rfl rfl rfl (aI rfl) (xc rfl rfl FF.Us) rfl false (by kernel_rfl) H ?_;rintro _ w9 ⟨rfl,H⟩ _ D;refine⟨fun h=>(by cases h),?_⟩;refine dJ (by kernel_rfl) D ?_;intro w12 D;replace H:=H _ D;clear D cm;refine nc (y2 0 3 rfl) (aF (mv rfl (fa rfl (TF.aDr _ _) ?_)));obtain⟨x14,h41,H⟩:=H;refine ld rfl (aJ TF.aP h41) (fa rfl (TF.aDu _ _) ?_);obtain⟨x15,h42,H⟩:=H;refine ld rfl (aJ TF.aP h42) (sc rfl rfl FF.Xz H ?_);rintro _ w13 ⟨rfl,H⟩;exact aH (pR (res0 rfl) ⟨_,rfl,rfl,H⟩)
def yN (p1:Addr) (x1:Int) (K:Int->World->Prop) (p3:Addr) (w4:World):Prop:=
 ∃A4 n4 c4,w4.cell? (p1.add 10)=some (.slice A4 n4 c4)/\∃A5 n5 c5,w4.cell? (p1.add 10)=some (.slice A5 n5 c5)/\0<=IntKind.wrap .i64 ((n5:Int)-x1)/\IntKind.wrap .i64 ((n5:Int)-x1)<=(c4:Int)/\∀w15,aO w4 w15->(∃u1,w15.cell? (p1.add 10)=some u1)/\w15.frozen? (p1.add 10)=false/\∀w7,w7=w15.setCell (p1.add 10) (.slice A4 ((IntKind.wrap .i64 ((n5:Int)-x1)).toNat) c4)->(∀w8,aO w7 w8->(∃A6 n6 c6,w8.cell? (p1.add 8)=some (.slice A6 n6 c6)/\∃x5,w8.cell? (p3.add 0)=some (iv x5)/\0<=x5/\x5<=(c6:Int)/\∀w14,aO w8 w14->(∃u2,w14.cell? (p1.add 8)=some u2)/\w14.frozen? (p1.add 8)=false/\∀w9,w9=w14.setCell (p1.add 8) (.slice A6 x5.toNat c6)->(∀w10,aO w9 w10->(∃I1:Nat->World->Prop,(∃k1,I1 k1 w10)/\∀k1 (w11:World),I1 k1 w11->(∃A7 n7 c7,w11.cell? (p1.add 9)=some (.slice A7 n7 c7)/\∃x6,w11.cell? (p3.add 1)=some (iv x6)/\∀w12,aO w11 w12->((x6<(n7:Int)->(Calls P F.Kz #[.pointer (some p1)] w12 (cO fun v1 w13=>v1=(.tuple #[])/\∃k2,k2<k1/\I1 k2 w13)))/\(¬(x6<(n7:Int))->(K 0 w12))))))))
def qZ (K:Int->World->Prop) (w:World) (x1:Int) (p1:Addr) (b1:Bool):Prop:=
 (b1=true->(K 81 w))/\(b1=false->((x1=0->(K 0 w))/\(¬(x1=0)->(∃A2 n2 c2,w.cell? (p1.add 10)=some (.slice A2 n2 c2)/\∃A3 n3 c3,w.cell? (p1.add 10)=some (.slice A3 n3 c3)/\0<=IntKind.wrap .i64 ((n3:Int)-x1)/\IntKind.wrap .i64 ((n3:Int)-x1)<(n2:Int)/\∃a1,A2=some a1/\∃x3,∃x4,bG w (a1.add ((IntKind.wrap .i64 ((n3:Int)-x1)).toNat*2)) [iv x3,iv x4]/\∀w6,aO w w6->∀(p2:Addr) (w1:World),New w6 (.cells #[iv 0,iv 0] T.Dt) p2 w1->(∀w5,aO w1 w5->oH w5 p2 2/\∀w2,w2=cZ w5 p2 [iv x3,iv x4]->(∀w3,aO w2 w3->((yN p1 x1 K) p2 w3)))))))
def Oj (p1:Addr) (x1:Int) (K:Int->World->Prop) (w:World):Prop:=
 (x1<0->((qZ K w x1 p1) true))/\(¬(x1<0)->(∃A1 n1 c1,w.cell? (p1.add 10)=some (.slice A1 n1 c1)/\(qZ K w x1 p1) (decide ((n1:Int)<x1))))
theorem aDo (p1:Addr) (x1:Int) (K:Int->World->Prop) (w:World) (H:Oj p1 x1 K w):Calls P F.yD #[.pointer (some p1),iv x1] w (cO fun v w'=>∃x2,v=(iv x2)/\K x2 w'):=by
 unfold Oj at H;refine bT (P:=P) Tryz.func34 rfl [(0,.pointer (some p1)),(1,iv x1)] 67 rfl rfl (aa rfl (aa rfl az)) (aG (aF (ag rfl (aH (nc (y2 0 1 rfl) (aG ?_))))));refine fM (fun a=>∃b1,Ok 67 [(0,.pointer (some p1)),(1,iv x1),(16,.bool b1)] a/\qZ K w x1 p1 b1) ?_ ?_
 ·rintro a ⟨b1,ha,H⟩;unfold qZ at H;refine cu ha ?_;refine eG rfl (fun hb=> ?_) (fun hb=> ?_)
  ·replace H:=H.1 hb;exact aG (aF (ag rfl (aH (nc (kp 4 rfl zz) (bK (aQ (aN (res1 rfl rfl) ⟨_,rfl,_,rfl,H⟩)))))))
  ·replace H:=H.2 hb;refine aX (nc (y2 0 1 rfl) (aG (aG (aF (mv rfl (bo rfl rfl iR (aH (nc (y3 0 1 18 rfl) ?_))))))));refine bC rfl (fun hb=> ?_) (fun hb=> ?_)
   ·replace H:=H.1 hb;exact aG (aF (ag rfl (aH (nc (kp 4 rfl zz) (bK (aQ (aN (res1 rfl rfl) ⟨_,rfl,_,rfl,H⟩)))))))
   ·replace H:=H.2 hb;refine aX (nc (y2 0 1 rfl) ?_);refine fA (fun a w=>∃p3:Addr,Ok 67 [(0,.pointer (some p1)),(1,iv x1),(5,.pointer (some p3))] a/\yN p1 x1 K p3 w) ?_ ?_
    ·rintro a w4 ⟨p3,ha,H⟩;unfold yN at H;refine cu ha ?_;refine aG ?_;refine bU follows [0,1,2,3,4,5,6,7,8,9,10,11,12,13,14] [4,8] 16 rfl rfl (by kernel_rfl) (fun _ _ d _ _ h=>by cases d<;>exact h) (fun cm W D=> ?_);refine gZ 0 cm rfl rfl D W fun _ D W=>(gZ 1 cm rfl rfl D W fun _ D W=>(Gh 2 cm rfl rfl D W fun _ D W=>(lH 3 cm rfl rfl (TF.rF _ _) D W fun _ D W=> ?_)));obtain⟨A4,n4,c4,h9,H⟩:=H;refine vl 4 cm rfl rfl (fun hw=>(aJ TF.xJ ((hw.cell _).trans h9))) D W fun _ D W=>(gZ 5 cm rfl rfl D W fun _ D W=>(Gh 6 cm rfl rfl D W fun _ D W=>(lH 7 cm rfl rfl (TF.rF _ _) D W fun _ D W=> ?_)));obtain⟨A5,n5,c5,h10,H⟩:=H;refine vl 8 cm rfl rfl (fun hw=>(aJ TF.xJ ((hw.cell _).trans h10))) D W fun _ D W=>(Qj 9 cm rfl rfl rfl (fun w' a ha=>kQ (ha.evs rfl) (fun _=>bW TF.Gf)) D fun _ D=>(aBv 10 cm rfl rfl D fun _ D=>(Qj 11 cm rfl rfl rfl (fun w' a ha=>fZ (ha.ev rfl) (ha.ev rfl) Pn) D fun _ D=> ?_)));obtain⟨h11,h12,H⟩:=H;refine Qj 12 cm rfl rfl rfl (fun w' a ha=>Ad (ha.ev rfl) rfl (yP (ha.ev rfl)) rfl (xI TF.Xd TF.Ot h11 h12)) D fun _ D=>(Ut 13 cm rfl rfl D fun _ D=>(Fb 14 cm rfl rfl (TF.rF _ _) D fun _ D=>(ar 15 ?_)));obtain⟨⟨u1,h15⟩,h16,H⟩:=H _ D;refine mY rfl rfl (aI rfl) (xs rfl rfl (dM TF.Wn rfl rfl h15 h16)) rfl false (by kernel_rfl) ?_;intro w7 hw _ D;replace H:=H _ hw;clear hw;refine⟨fun h=>(by cases h),?_⟩;refine dJ (by kernel_rfl) D ?_;intro w8 D;replace H:=H _ D;clear D cm;refine nc (y2 0 5 rfl) (aG ?_);refine bU follows [0,1,2,3,4,5,6,7,8,9] [4,6] 11 rfl rfl (by kernel_rfl) (fun _ _ d _ _ h=>by cases d<;>exact h) (fun cm W D=> ?_);refine gZ 0 cm rfl rfl D W fun _ D W=>(gZ 1 cm rfl rfl D W fun _ D W=>(Gh 2 cm rfl rfl D W fun _ D W=>(lH 3 cm rfl rfl (TF.jV _ _) D W fun _ D W=> ?_)));obtain⟨A6,n6,c6,h17,H⟩:=H;refine vl 4 cm rfl rfl (fun hw=>(aJ TF.oJ ((hw.cell _).trans h17))) D W fun _ D W=>(lH 5 cm rfl rfl (TF.aGm _ _) D W fun _ D W=> ?_);obtain⟨x5,h18,H⟩:=H;refine vl 6 cm rfl rfl (fun hw=>(aJ TF.aP ((hw.cell _).trans h18))) D W fun _ D W=> ?_;obtain⟨h19,h20,H⟩:=H;refine Qj 7 cm rfl rfl rfl (fun w' a ha=>Ad (ha.ev rfl) rfl (yP (ha.ev rfl)) rfl (xI TF.zC TF.mD h19 h20)) D fun _ D=>(Ut 8 cm rfl rfl D fun _ D=>(Fb 9 cm rfl rfl (TF.jV _ _) D fun _ D=>(ar 10 ?_)));obtain⟨⟨u2,h23⟩,h24,H⟩:=H _ D;refine mY rfl rfl (aI rfl) (xs rfl rfl (dM TF.Oi rfl rfl h23 h24)) rfl false (by kernel_rfl) ?_;intro w9 hw _ D;replace H:=H _ hw;clear hw;refine⟨fun h=>(by cases h),?_⟩;refine dJ (by kernel_rfl) D ?_;intro w10 D;replace H:=H _ D;clear D cm;refine nc (y2 0 5 rfl) (aG (aY ?_));obtain⟨I1,⟨k1,hi⟩,H⟩:=H;refine fK (fun k1 a w'=>Ok 67 [(0,.pointer (some p1)),(5,.pointer (some p3))] a/\I1 k1 w') (fun a ha=>⟨k1,ha.weaken cs,hi⟩) ?_;rintro k1 a w11 ⟨ha,hI⟩;replace H:=H k1 w11 hI;refine cu ha ?_;refine aG (aG ?_);refine bU follows [0,1,2,3,4,5,6,7] [3,6] 8 rfl rfl (by kernel_rfl) (fun _ _ d _ _ h=>by cases d<;>exact h) (fun cm W D=> ?_);refine gZ 0 cm rfl rfl D W fun _ D W=>(Gh 1 cm rfl rfl D W fun _ D W=>(lH 2 cm rfl rfl (TF.kT _ _) D W fun _ D W=> ?_));obtain⟨A7,n7,c7,h25,H⟩:=H;refine vl 3 cm rfl rfl (fun hw=>(aJ TF.qY ((hw.cell _).trans h25))) D W fun _ D W=>(pv 4 cm rfl rfl rfl (fun w' a ha=>kQ (ha.evs rfl) (fun _=>bW TF.Bf)) D W fun _ D W=>(lH 5 cm rfl rfl (TF.aFk _ _) D W fun _ D W=> ?_));obtain⟨x6,h26,H⟩:=H;refine vl 6 cm rfl rfl (fun hw=>(aJ TF.aP ((hw.cell _).trans h26))) D W fun _ D W=>(Qj 7 cm rfl rfl rfl (fun w' a ha=>fZ (ha.ev rfl) (ha.ev rfl) aBu) D fun _ D=>(dJ (by kernel_rfl) D ?_));intro w12 D;replace H:=H _ D;clear D cm;refine nc (y3 0 5 64 rfl) ?_;refine bC rfl (fun hb=> ?_) (fun hb=> ?_)
     ·replace H:=H.1 hb;refine aX (nc (y2 0 5 rfl) (aY (aF (mv rfl (sc rfl rfl FF.Wp H ?_)))));rintro _ w13 ⟨rfl,H⟩;refine aH (bZ ?_);obtain⟨k2,hk,H⟩:=H;exact bD fun a ha=>⟨k2,hk,ha.weaken cs,H⟩
     ·replace H:=H.2 hb;exact eU (aT (aT (bQ (nc zz (aG (aF (ag rfl (aH (nc (kp 4 rfl zz) (bK (aN (res1 rfl rfl) ⟨_,rfl,_,rfl,H⟩)))))))))))
    ·refine iM follows (fun _=>False) [0,1,2,3,4,5,6,7,8,9,10,11,12] [3,7,12] 15 rfl rfl (by kernel_rfl) (fun _ _ d _ _ h=>by cases d<;>exact h) (fun cm W D=> ?_);refine gZ 0 cm rfl rfl D W fun _ D W=>(Gh 1 cm rfl rfl D W fun _ D W=>(lH 2 cm rfl rfl (TF.rF _ _) D W fun _ D W=> ?_));obtain⟨A2,n2,c2,h2,H⟩:=H;refine vl 3 cm rfl rfl (fun hw=>(aJ TF.xJ (hw.cell ⟨h2,fun h=>h⟩))) D W fun _ D W=>(gZ 4 cm rfl rfl D W fun _ D W=>(Gh 5 cm rfl rfl D W fun _ D W=>(lH 6 cm rfl rfl (TF.rF _ _) D W fun _ D W=> ?_)));obtain⟨A3,n3,c3,h3,H⟩:=H;refine vl 7 cm rfl rfl (fun hw=>(aJ TF.xJ (hw.cell ⟨h3,fun h=>h⟩))) D W fun _ D W=>(pv 8 cm rfl rfl rfl (fun w' a ha=>kQ (ha.evs rfl) (fun _=>bW TF.Gf)) D W fun _ D W=>(gZ 9 cm rfl rfl D W fun _ D W=>(pv 10 cm rfl rfl rfl (fun w' a ha=>fZ (ha.ev rfl) (ha.ev rfl) Pn) D W fun _ D W=> ?_)));obtain⟨h4,h5,a1,e1,H⟩:=H;refine Ie 11 cm rfl rfl rfl (aU TF.Xd TF.Ot e1 h4 h5) D W fun _ D W=> ?_;obtain⟨x3,x4,h6,H⟩:=H;refine vl 12 cm rfl rfl (fun hw=>(gW (vs:=[iv x3,iv x4]) TF.aH4 TF.Ot (hw.cells ⟨h6,fun h=>h⟩))) D W fun _ D W=>(ar 13 ?_);replace H:=H _ D;refine lS (f:=(fun p=> .pointer (some p))) rfl rfl rfl (aI rfl) (fun a ha=>mV (nC TF.aGr)) rfl true (by kernel_rfl) ?_;intro p2 w1 hN _ D;replace H:=H _ _ hN;replace W:=(W.new hN).drawn D;refine⟨fun _=>W,?_⟩;refine ar 14 ?_;obtain⟨h8,H⟩:=H _ D;refine mY rfl rfl (aI rfl) (xs rfl rfl (kN TF.Ot (by simp[Value.oneCell']) h8)) rfl false (by kernel_rfl) ?_;intro w2 hw _ D;replace H:=H _ hw;clear hw;refine⟨fun h=>(by cases h),?_⟩;refine dJ (by kernel_rfl) D ?_;intro w3 D;replace H:=H _ D;clear D cm;exact bD fun a ha=>⟨p2,ha.weaken cs,H⟩
 ·refine aF (mv rfl (bo rfl rfl iY ?_));rcases Classical.em (x1<0) with hb|hb
  ·replace H:=H.1 hb;exact sv rfl rfl (xt rfl hb) (sk rfl rfl rfl rfl (sk rfl rfl rfl rfl (sk rfl rfl rfl rfl (sk rfl rfl rfl rfl (sk rfl rfl rfl rfl (sk rfl rfl rfl rfl (sk rfl rfl rfl rfl (pt rfl rfl (aH (bD fun a ha=>⟨⟨true,ha.weaken cs,H⟩,rfl⟩))))))))))
  ·replace H:=H.2 hb;refine sv rfl rfl (xf rfl hb) (Bv rfl rfl rfl (Bv rfl rfl rfl (nkg rfl rfl rfl (Zu rfl rfl rfl (TF.rF _ _) ?_))));obtain⟨A1,n1,c1,h1,H⟩:=H;exact Qo rfl rfl rfl (aJ TF.xJ h1) (svg rfl rfl rfl rfl (xb rfl (fun _=>bW TF.Gf)) (Qh rfl rfl rfl rfl aBu (pf rfl rfl (aH (bD fun a ha=>⟨⟨(decide ((n1:Int)<x1)),ha.weaken cs,H⟩,rfl⟩)))))
def Ip (p1:Addr) (x1:Int) (x2:Int) (x3:Int) (K:Int->World->Prop) (w:World):Prop:=
 Calls P F.lX #[.pointer (some p1),iv x1,iv x2] w (cO fun v1 w1=>∃b1,v1=(.bool b1)/\((!b1)=true->(K 80 w1))/\((!b1)=false->(∃A1 n1 c1,w1.cell? (p1.add 8)=some (.slice A1 n1 c1)/\∀(p2:Addr) (w2:World),New w1 (.cells #[iv x1,iv x2,iv x3,.bool false] T.qW) p2 w2->(∃(A2:Option Addr) (n2 c2:Nat) (w3:World),(Builtin.append_ #[T.mZ,T.mZ] T.mZ #[.slice A1 n1 c1,.slice (some p2) 1 1]).run P w2= .ok (.slice A2 n2 c2) w3/\((∃u1,w3.cell? (p1.add 8)=some u1)/\w3.frozen? (p1.add 8)=false/\∀w4,w4=w3.setCell (p1.add 8) (.slice A2 n2 c2)->(Calls P F.xM #[.pointer (some p1),.agg #[iv 0,.bool false,iv x1,iv x2,iv x3]] w4 (cO fun v2 w5=>v2=(.tuple #[])/\K 0 w5)))))))
theorem aB4 (p1:Addr) (x1:Int) (x2:Int) (x3:Int) (K:Int->World->Prop) (w:World) (H:Ip p1 x1 x2 x3 K w):Calls P F.rD #[.pointer (some p1),iv x1,iv x2,iv x3] w (cO fun v w'=>∃x4,v=(iv x4)/\K x4 w'):=by
 unfold Ip at H;refine bT (P:=P) Tryz.func29 rfl [(0,.pointer (some p1)),(1,iv x1),(2,iv x2),(3,iv x3)] 33 rfl rfl (aa rfl (aa rfl (aa rfl (aa rfl az)))) (aG (aF (ag rfl (aH (nc (y4 0 1 2 3 rfl) (aG (aG (aF (mv rfl (mv rfl (mv rfl (sc rfl rfl FF.jL H ?_))))))))))));rintro _ w1 ⟨b1,rfl,H⟩;refine sv rfl rfl (xu rfl sK) (aH (nc (y5 0 1 2 3 13 rfl) ?_));refine eG rfl (fun hb=> ?_) (fun hb=> ?_)
 ·replace H:=H.1 hb;exact aG (aF (ag rfl (aH (nc (kp 8 rfl zz) (bK (aQ (aN (res1 rfl rfl) ⟨_,rfl,_,rfl,H⟩)))))))
 ·replace H:=H.2 hb;refine aX (nc (y4 0 1 2 3 rfl) (aG (aF (mv rfl (mv rfl (nk rfl (fa rfl (TF.jV _ _) ?_)))))));obtain⟨A1,n1,c1,h1,H⟩:=H;refine ld rfl (aJ TF.oJ h1) (mv rfl (mv rfl (mv rfl (sv rfl rfl (xp (.agg #[iv x1,iv x2,iv x3,.bool false]) rfl) (sz rfl rfl (xl 1 1 (.cells #[iv x1,iv x2,iv x3,.bool false] T.qW) rfl) ?_)))));intro p2 w2 hN;obtain⟨A2,n2,c2,w3,h2,H⟩:=H _ _ hN;refine sv rfl rfl (xb rfl (fun _=>dY h2)) (nk rfl (fa rfl (TF.jV _ _) ?_));obtain⟨⟨u1,h3⟩,h4,H⟩:=H;refine oO rfl (aI rfl) (xs rfl rfl (dM TF.Oi rfl rfl h3 h4)) ?_;intro w4 hw;replace H:=H _ hw;clear hw;refine aH (nc (y4 0 1 2 3 rfl) (aG (aF (mv rfl (mv rfl (mv rfl (mv rfl (sv rfl rfl (xp (.agg #[iv 0,.bool false,iv x1,iv x2,iv x3]) rfl) (sc rfl rfl FF.Hq H ?_)))))))));rintro _ w5 ⟨rfl,H⟩;exact aH (nc zz (aG (aF (ag rfl (aH (nc (kp 8 rfl zz) (bK (aN (res1 rfl rfl) ⟨_,rfl,_,rfl,H⟩))))))))
def Gq (p1:Addr) (x1:Int) (x2:Int) (x3:Int) (K:Int->World->Prop) (w:World):Prop:=
 Calls P F.lX #[.pointer (some p1),iv x1,iv x2] w (cO fun v1 w1=>∃b1,v1=(.bool b1)/\((!b1)=true->(K 80 w1))/\((!b1)=false->(∃A1 n1 c1,w1.cell? (p1.add 8)=some (.slice A1 n1 c1)/\∀(p2:Addr) (w2:World),New w1 (.cells #[iv x1,iv x2,iv x3,.bool true] T.qW) p2 w2->(∃(A2:Option Addr) (n2 c2:Nat) (w3:World),(Builtin.append_ #[T.mZ,T.mZ] T.mZ #[.slice A1 n1 c1,.slice (some p2) 1 1]).run P w2= .ok (.slice A2 n2 c2) w3/\((∃u1,w3.cell? (p1.add 8)=some u1)/\w3.frozen? (p1.add 8)=false/\∀w4,w4=w3.setCell (p1.add 8) (.slice A2 n2 c2)->(K 0 w4))))))
theorem aBg (p1:Addr) (x1:Int) (x2:Int) (x3:Int) (K:Int->World->Prop) (w:World) (H:Gq p1 x1 x2 x3 K w):Calls P F.oV #[.pointer (some p1),iv x1,iv x2,iv x3] w (cO fun v w'=>∃x4,v=(iv x4)/\K x4 w'):=by
 unfold Gq at H;refine bT (P:=P) Tryz.func31 rfl [(0,.pointer (some p1)),(1,iv x1),(2,iv x2),(3,iv x3)] 27 rfl rfl (aa rfl (aa rfl (aa rfl (aa rfl az)))) (aG (aF (ag rfl (aH (nc (y4 0 1 2 3 rfl) (aG (aG (aF (mv rfl (mv rfl (mv rfl (sc rfl rfl FF.jL H ?_))))))))))));rintro _ w1 ⟨b1,rfl,H⟩;refine sv rfl rfl (xu rfl sK) (aH (nc (y5 0 1 2 3 13 rfl) ?_));refine eG rfl (fun hb=> ?_) (fun hb=> ?_)
 ·replace H:=H.1 hb;exact aG (aF (ag rfl (aH (nc (kp 8 rfl zz) (bK (aQ (aN (res1 rfl rfl) ⟨_,rfl,_,rfl,H⟩)))))))
 ·replace H:=H.2 hb;refine aX (nc (y4 0 1 2 3 rfl) (aG (aF (mv rfl (mv rfl (nk rfl (fa rfl (TF.jV _ _) ?_)))))));obtain⟨A1,n1,c1,h1,H⟩:=H;refine ld rfl (aJ TF.oJ h1) (mv rfl (mv rfl (mv rfl (sv rfl rfl (xp (.agg #[iv x1,iv x2,iv x3,.bool true]) rfl) (sz rfl rfl (xl 1 1 (.cells #[iv x1,iv x2,iv x3,.bool true] T.qW) rfl) ?_)))));intro p2 w2 hN;obtain⟨A2,n2,c2,w3,h2,H⟩:=H _ _ hN;refine sv rfl rfl (xb rfl (fun _=>dY h2)) (nk rfl (fa rfl (TF.jV _ _) ?_));obtain⟨⟨u1,h3⟩,h4,H⟩:=H;refine oO rfl (aI rfl) (xs rfl rfl (dM TF.Oi rfl rfl h3 h4)) ?_;intro w4 hw;replace H:=H _ hw;clear hw;exact aH (nc zz (aG (aF (ag rfl (aH (nc (kp 8 rfl zz) (bK (aN (res1 rfl rfl) ⟨_,rfl,_,rfl,H⟩))))))))
def gX (K:Bool->World->Prop) (w2:World) (b4:Bool):Prop:=
 K b4 w2
def Nj (x1:Int) (x2:Int) (x3:Int) (b1:Bool) (p1:Addr) (p2:Addr) (p3:Addr) (K:Bool->World->Prop) (w:World):Prop:=
 ∀(p4:Addr) (w1:World),New w (.cells #[iv x1,iv x2,iv x3,.bool b1] T.qW) p4 w1->(∃q1,w1.cell? p1=some (.pointer q1)/\∃p5,q1=some p5/\∃x4,w1.cell? (p4.add 0)=some (iv x4)/\∃x5,(∀w',aO w1 w'->Calls P F.bV #[.pointer (some (p5.add 0)),iv x4] w' fun x w''=>x= .returned (iv x5)/\aO w' w'')/\∃q2,w1.cell? p1=some (.pointer q2)/\∃p6,q2=some p6/\∃x6,w1.cell? (p4.add 1)=some (iv x6)/\∃x7,(∀w',aO w1 w'->Calls P F.bV #[.pointer (some (p6.add 0)),iv x6] w' fun x w''=>x= .returned (iv x7)/\aO w' w'')/\∀w2,aO w1 w2->(∃b3,w2.cell? (p4.add 3)=some (.bool b3)/\(b3=true->(∃x8,w2.cell? p2=some (iv x8)/\(x5=x8->(∃x9,w2.cell? p3=some (iv x9)/\(x7=x9->((gX K w2) true))/\(¬(x7=x9)->(∃x10,w2.cell? p3=some (iv x10)/\(x5=x10->(∃x11,w2.cell? p2=some (iv x11)/\(gX K w2) (decide (x7=x11))))/\(¬(x5=x10)->((gX K w2) false))))))/\(¬(x5=x8)->(∃x12,w2.cell? p3=some (iv x12)/\(x5=x12->(∃x13,w2.cell? p2=some (iv x13)/\(gX K w2) (decide (x7=x13))))/\(¬(x5=x12)->((gX K w2) false))))))/\(b3=false->((gX K w2) false))))
theorem Yy (x1:Int) (x2:Int) (x3:Int) (b1:Bool) (p1:Addr) (p2:Addr) (p3:Addr) (K:Bool->World->Prop) (w:World) (H:Nj x1 x2 x3 b1 p1 p2 p3 K w):Calls P F.Af #[.agg #[iv x1,iv x2,iv x3,.bool b1],.pointer (some p1),.pointer (some p2),.pointer (some p3)] w (cO fun v w'=>∃b2,v=(.bool b2)/\K b2 w'):=by
 unfold Nj at H;refine bT (P:=P) Tryz.func80 rfl [(0,.agg #[iv x1,iv x2,iv x3,.bool b1]),(1,.pointer (some p1)),(2,.pointer (some p2)),(3,.pointer (some p3))] 42 rfl rfl (aa rfl (aa rfl (aa rfl (aa rfl az)))) (aG (aF (iP (f:=(fun p=> .pointer (some p))) rfl rfl (aI rfl) (fun a ha=>uM (ha.ev rfl) uO) ?_)));intro p4 w1 hN;replace H:=H _ _ hN;refine ag rfl (aH (nc (y4 1 2 3 4 rfl) (aG ?_)));refine bU follows [0,1,2,3,4,5,6,7,8,9,10,11,12,13] [0,4,5,6,10,11] 14 rfl rfl (by kernel_rfl) (fun _ _ d _ _ h=>by cases d<;>exact h) (fun cm W D=> ?_);obtain⟨q1,h2,H⟩:=H;refine vl 0 cm rfl rfl (fun hw=>(aJ TF.jU ((hw.cell _).trans h2))) D W fun _ D W=> ?_;obtain⟨p5,e1,H⟩:=H;refine pv 1 cm rfl rfl rfl (fun w' a ha=>dH ((ha.ev rfl).trans (by rw[e1]))) D W fun _ D W=>(lH 2 cm rfl rfl (TF.bI _ _) D W fun _ D W=>(lH 3 cm rfl rfl (TF.qN _ _) D W fun _ D W=> ?_));obtain⟨x4,h3,H⟩:=H;refine vl 4 cm rfl rfl (fun hw=>(aJ TF.aP ((hw.cell _).trans h3))) D W fun _ D W=> ?_;obtain⟨x5,h4,H⟩:=H;refine Ql (i:=5) cm rfl (by kernel_rfl) W rfl rfl (aI rfl) (fun w' hw a ha=>nD (ha.ev rfl) (ha.evs rfl) FF.bJ) h4 rfl ?_;intro _ hd W;replace D:=D.trans hd;clear hd;obtain⟨q2,h5,H⟩:=H;refine vl 6 cm rfl rfl (fun hw=>(aJ TF.jU ((hw.cell _).trans h5))) D W fun _ D W=> ?_;obtain⟨p6,e2,H⟩:=H;refine pv 7 cm rfl rfl rfl (fun w' a ha=>dH ((ha.ev rfl).trans (by rw[e2]))) D W fun _ D W=>(lH 8 cm rfl rfl (TF.bI _ _) D W fun _ D W=>(lH 9 cm rfl rfl (TF.sJ _ _) D W fun _ D W=> ?_));obtain⟨x6,h6,H⟩:=H;refine vl 10 cm rfl rfl (fun hw=>(aJ TF.aP ((hw.cell _).trans h6))) D W fun _ D W=> ?_;obtain⟨x7,h7,H⟩:=H;refine Ql (i:=11) cm rfl (by kernel_rfl) W rfl rfl (aI rfl) (fun w' hw a ha=>nD (ha.ev rfl) (ha.evs rfl) FF.bJ) h7 rfl ?_;intro _ hd W;replace D:=D.trans hd;clear hd;refine Bo 12 cm rfl rfl D fun _ D=>(Bo 13 cm rfl rfl D fun _ D=>(dJ (by kernel_rfl) D ?_));intro w2 D;replace H:=H _ D;clear D cm;refine nc (y5 2 3 4 6 7 rfl) ?_;refine fM (fun a=>∃b4,Ok 42 [(5,.bool b4)] a/\gX K w2 b4) ?_ ?_
 ·rintro a ⟨b4,ha,H⟩;unfold gX at H;refine cu ha ?_;exact bK (aN (res1 rfl rfl) ⟨_,rfl,_,rfl,H⟩)
 ·refine aF (fa rfl (TF.Rx _ _) ?_);obtain⟨b3,h8,H⟩:=H;refine ld rfl (aJ TF.Ah h8) ?_;rcases tf b3 with hb|hb
  ·replace H:=H.1 hb;refine sv rfl rfl (fun a ha=>aGb (iC (ha.ev rfl)) hb) (Bv rfl rfl rfl ?_);obtain⟨x8,h9,H⟩:=H;refine Qo rfl rfl rfl (aJ TF.aP h9) (Qh rfl rfl rfl rfl iR ?_);rcases Classical.em (x5=x8) with hb|hb
   ·replace H:=H.1 hb;refine svg rfl rfl rfl rfl (xt rfl hb) (Bv rfl rfl rfl ?_);obtain⟨x9,h10,H⟩:=H;refine Qo rfl rfl rfl (aJ TF.aP h10) (Qh rfl rfl rfl rfl iR (ptg rfl rfl rfl rfl ?_));rcases Classical.em (x7=x9) with hb|hb
    ·replace H:=H.1 hb;exact svg rfl rfl rfl rfl (xt rfl hb) (sk rfl rfl rfl rfl (sk rfl rfl rfl rfl (sk rfl rfl rfl rfl (sk rfl rfl rfl rfl (iE rfl rfl (dI rfl rfl rfl) (iE rfl rfl (dI rfl rfl rfl) (iE rfl rfl (dI rfl rfl rfl) (sk rfl rfl rfl rfl (ptg rfl rfl rfl rfl (pt rfl rfl (ag rfl (aH (bD fun a ha=>⟨⟨true,ha.weaken cs,H⟩,rfl⟩)))))))))))))
    ·replace H:=H.2 hb;refine svg rfl rfl rfl rfl (xf rfl hb) (Bv rfl rfl rfl ?_);obtain⟨x10,h11,H⟩:=H;refine Qo rfl rfl rfl (aJ TF.aP h11) (Qh rfl rfl rfl rfl iR ?_);rcases Classical.em (x5=x10) with hb|hb
     ·replace H:=H.1 hb;refine svg rfl rfl rfl rfl (xt rfl hb) (Bv rfl rfl rfl ?_);obtain⟨x11,h12,H⟩:=H;exact Qo rfl rfl rfl (aJ TF.aP h12) (Qh rfl rfl rfl rfl iR (ptg rfl rfl rfl rfl (pfg rfl rfl rfl rfl (pt rfl rfl (ag rfl (aH (bD fun a ha=>⟨⟨(decide (x7=x11)),ha.weaken cs,H⟩,rfl⟩)))))))
     ·replace H:=H.2 hb;exact svg rfl rfl rfl rfl (xf rfl hb) (sk rfl rfl rfl rfl (sk rfl rfl rfl rfl (sk rfl rfl rfl rfl (pfg rfl rfl rfl rfl (pfg rfl rfl rfl rfl (pt rfl rfl (ag rfl (aH (bD fun a ha=>⟨⟨false,ha.weaken cs,H⟩,rfl⟩)))))))))
   ·replace H:=H.2 hb;refine svg rfl rfl rfl rfl (xf rfl hb) (sk rfl rfl rfl rfl (sk rfl rfl rfl rfl (sk rfl rfl rfl rfl (pfg rfl rfl rfl rfl (Bv rfl rfl rfl (Bv rfl rfl rfl ?_))))));obtain⟨x12,h13,H⟩:=H;refine Qo rfl rfl rfl (aJ TF.aP h13) (Qh rfl rfl rfl rfl iR ?_);rcases Classical.em (x5=x12) with hb|hb
    ·replace H:=H.1 hb;refine svg rfl rfl rfl rfl (xt rfl hb) (Bv rfl rfl rfl ?_);obtain⟨x13,h14,H⟩:=H;exact Qo rfl rfl rfl (aJ TF.aP h14) (Qh rfl rfl rfl rfl iR (ptg rfl rfl rfl rfl (pfg rfl rfl rfl rfl (pt rfl rfl (ag rfl (aH (bD fun a ha=>⟨⟨(decide (x7=x13)),ha.weaken cs,H⟩,rfl⟩)))))))
    ·replace H:=H.2 hb;exact svg rfl rfl rfl rfl (xf rfl hb) (sk rfl rfl rfl rfl (sk rfl rfl rfl rfl (sk rfl rfl rfl rfl (pfg rfl rfl rfl rfl (pfg rfl rfl rfl rfl (pt rfl rfl (ag rfl (aH (bD fun a ha=>⟨⟨false,ha.weaken cs,H⟩,rfl⟩)))))))))
  ·replace H:=H.2 hb;exact sv rfl rfl (fun a ha=>aGk (iC (ha.ev rfl)) hb) (sk rfl rfl rfl rfl (sk rfl rfl rfl rfl (sk rfl rfl rfl rfl (sk rfl rfl rfl rfl (iE rfl rfl (dI rfl rfl rfl) (iE rfl rfl (dI rfl rfl rfl) (iE rfl rfl (dI rfl rfl rfl) (sk rfl rfl rfl rfl (sk rfl rfl rfl rfl (iE rfl rfl (dI rfl rfl rfl) (iE rfl rfl (dI rfl rfl rfl) (iE rfl rfl (dI rfl rfl rfl) (iE rfl rfl (dI rfl rfl rfl) (iE rfl rfl (dI rfl rfl rfl) (iE rfl rfl (dI rfl rfl rfl) (iE rfl rfl (dI rfl rfl rfl) (iE rfl rfl (dI rfl rfl rfl) (sk rfl rfl rfl rfl (pf rfl rfl (ag rfl (aH (bD fun a ha=>⟨⟨false,ha.weaken cs,H⟩,rfl⟩))))))))))))))))))))))
def qH (p2:Addr) (K:Int->World->Prop) (p7:Addr) (p8:Addr) (w7:World):Prop:=
 ∃q3,w7.cell? p2=some (.pointer q3)/\∃p11,q3=some p11/\∃A1 n1 c1,w7.cell? (p11.add 8)=some (.slice A1 n1 c1)/\Calls P F.iG #[.slice A1 n1 c1,.func (.func F.Af) #[] #[.pointer (some p2),.pointer (some p7),.pointer (some p8)]] w7 (cO fun v1 w21=>∃x6,v1=(iv x6)/\K x6 w21)
def Qu (p1:Addr) (x1:Int) (x2:Int) (K:Int->World->Prop) (w:World):Prop:=
 ∀(p2:Addr) (w1:World),New w (.cells #[.pointer (some p1)] T.Vk) p2 w1->(∃q1,w1.cell? p2=some (.pointer q1)/\∃p3,q1=some p3/\∃x4,(∀w',Keep (fun _=>False) w1 w'->Calls P F.bV #[.pointer (some (p3.add 0)),iv x1] w' fun x w''=>x= .returned (iv x4)/\aO w' w'')/\∃q2,w1.cell? p2=some (.pointer q2)/\∃p4,q2=some p4/\∃x5,(∀w',Keep (fun _=>False) w1 w'->Calls P F.bV #[.pointer (some (p4.add 0)),iv x2] w' fun x w''=>x= .returned (iv x5)/\aO w' w'')/\(∀w11,aO w1 w11->∀(p5:Addr) (w2:World),New w11 (.cells #[iv 0] T.int) p5 w2->(∀w10,aO w2 w10->∀(p6:Addr) (w3:World),New w10 (.cells #[iv 0] T.int) p6 w3->(∀w9,aO w3 w9->(∃u1,w9.cell? p5=some u1)/\w9.frozen? p5=false/\∀w4,w4=w9.setCell p5 (iv x4)->(∀w8,aO w4 w8->(∃u2,w8.cell? p6=some u2)/\w8.frozen? p6=false/\∀w5,w5=w8.setCell p6 (iv x5)->(∀w6,aO w5 w6->((qH p2 K) p5 p6 w6))))))/\(∀w20,aO w1 w20->∀(p9:Addr) (w12:World),New w20 (.cells #[iv 0] T.int) p9 w12->(∀w19,aO w12 w19->∀(p10:Addr) (w13:World),New w19 (.cells #[iv 0] T.int) p10 w13->(∀w18,aO w13 w18->(∃u3,w18.cell? p10=some u3)/\w18.frozen? p10=false/\∀w14,w14=w18.setCell p10 (iv x4)->(∀w17,aO w14 w17->(∃u4,w17.cell? p9=some u4)/\w17.frozen? p9=false/\∀w15,w15=w17.setCell p9 (iv x5)->(∀w16,aO w15 w16->((qH p2 K) p10 p9 w16)))))))
theorem aBh (p1:Addr) (x1:Int) (x2:Int) (K:Int->World->Prop) (w:World) (H:Qu p1 x1 x2 K w):Calls P F.vK #[.pointer (some p1),iv x1,iv x2] w (cO fun v w'=>∃x3,v=(iv x3)/\K x3 w'):=by
 unfold Qu at H;refine bT (P:=P) Tryz.func62 rfl [(0,.pointer (some p1)),(1,iv x1),(2,iv x2)] 25 rfl rfl (aa rfl (aa rfl (aa rfl az))) (aG (aF (iP (f:=(fun p=> .pointer (some p))) rfl rfl (aI rfl) (fun a ha=>uM (ha.ev rfl) uO) ?_)));intro p2 w1 hN;replace H:=H _ _ hN;refine ag rfl (aH (nc (y3 1 2 3 rfl) ?_));refine fA (fun a w=>∃p7:Addr,∃p8:Addr,Ok 25 [(3,.pointer (some p2)),(7,.pointer (some p7)),(8,.pointer (some p8))] a/\qH p2 K p7 p8 w) ?_ ?_
 ·rintro a w7 ⟨p7,p8,ha,H⟩;unfold qH at H;refine cu ha ?_;refine aG (aF ?_);obtain⟨q3,h18,H⟩:=H;refine ld rfl (aJ TF.jU h18) ?_;obtain⟨p11,e3,H⟩:=H;refine sv rfl rfl (fun a ha=>dH ((ha.ev rfl).trans (by rw[e3]))) (fa rfl (TF.jV _ _) ?_);obtain⟨A1,n1,c1,h19,H⟩:=H;refine ld rfl (aJ TF.oJ h19) (sv rfl rfl (fun a ha=>Oe (ha.evs rfl) (ha.evs rfl)) (sc rfl rfl FF.oD H ?_));rintro _ w21 ⟨x6,rfl,H⟩;exact ag rfl (aH (nc (kp 6 rfl zz) (bK (aN (res1 rfl rfl) ⟨_,rfl,_,rfl,H⟩))))
 ·refine iM follows (fun _=>False) [0,1,2,3,4,5,6,7,8,9] [0,4,5,9] 14 rfl rfl (by kernel_rfl) (fun _ _ d _ _ h=>by cases d<;>exact h) (fun cm W D=> ?_);obtain⟨q1,h2,H⟩:=H;refine vl 0 cm rfl rfl (fun hw=>(aJ TF.jU (hw.cell ⟨h2,fun h=>h⟩))) D W fun _ D W=> ?_;obtain⟨p3,e1,H⟩:=H;refine pv 1 cm rfl rfl rfl (fun w' a ha=>dH ((ha.ev rfl).trans (by rw[e1]))) D W fun _ D W=>(lH 2 cm rfl rfl (TF.bI _ _) D W fun _ D W=>(gZ 3 cm rfl rfl D W fun _ D W=> ?_));obtain⟨x4,h3,H⟩:=H;refine Ql (i:=4) cm rfl (by kernel_rfl) W rfl rfl (aI rfl) (fun w' hw a ha=>nD (ha.ev rfl) (ha.evs rfl) FF.bJ) h3 rfl ?_;intro _ hd W;replace D:=D.trans hd;clear hd;obtain⟨q2,h4,H⟩:=H;refine vl 5 cm rfl rfl (fun hw=>(aJ TF.jU (hw.cell ⟨h4,fun h=>h⟩))) D W fun _ D W=> ?_;obtain⟨p4,e2,H⟩:=H;refine pv 6 cm rfl rfl rfl (fun w' a ha=>dH ((ha.ev rfl).trans (by rw[e2]))) D W fun _ D W=>(lH 7 cm rfl rfl (TF.bI _ _) D W fun _ D W=>(gZ 8 cm rfl rfl D W fun _ D W=> ?_));obtain⟨x5,h5,H⟩:=H;refine Ql (i:=9) cm rfl (by kernel_rfl) W rfl rfl (aI rfl) (fun w' hw a ha=>nD (ha.ev rfl) (ha.evs rfl) FF.bJ) h5 rfl ?_;intro _ hd W;replace D:=D.trans hd;clear hd;refine Hr (rs:=[10,11]) (by kernel_rfl) rfl (tY ?_ (tY ?_ Vp))
  ·replace H:=H.1;replace H:=H _ D;refine lS (f:=(fun p=> .pointer (some p))) rfl rfl rfl (aI rfl) (fun a ha=>mV (nC TF.aCx)) rfl true (by kernel_rfl) ?_;intro p5 w2 hN _ D;replace H:=H _ _ hN;replace W:=(W.new hN).drawn D;refine⟨fun _=>W,?_⟩;refine ar 11 ?_;replace H:=H _ D;refine lS (f:=(fun p=> .pointer (some p))) rfl rfl rfl (aI rfl) (fun a ha=>mV (nC TF.aCx)) rfl true (by kernel_rfl) ?_;intro p6 w3 hN _ D;replace H:=H _ _ hN;replace W:=(W.new hN).drawn D;refine⟨fun _=>W,?_⟩;refine ar 12 ?_;obtain⟨⟨u1,h8⟩,h9,H⟩:=H _ D;refine mY rfl rfl (aI rfl) (xs rfl rfl (dM TF.size_int rfl rfl h8 h9)) rfl false (by kernel_rfl) ?_;intro w4 hw _ D;replace H:=H _ hw;clear hw;refine⟨fun h=>(by cases h),?_⟩;refine ar 13 ?_;obtain⟨⟨u2,h10⟩,h11,H⟩:=H _ D;refine mY rfl rfl (aI rfl) (xs rfl rfl (dM TF.size_int rfl rfl h10 h11)) rfl false (by kernel_rfl) ?_;intro w5 hw _ D;replace H:=H _ hw;clear hw;refine⟨fun h=>(by cases h),?_⟩;refine dJ (by kernel_rfl) D ?_;intro w6 D;replace H:=H _ D;clear D cm;exact bD fun a ha=>⟨p5,p6,ha.weaken cs,H⟩
  ·replace H:=H.2;replace H:=H _ D;refine lS (f:=(fun p=> .pointer (some p))) rfl rfl rfl (aI rfl) (fun a ha=>mV (nC TF.aCx)) rfl true (by kernel_rfl) ?_;intro p9 w12 hN _ D;replace H:=H _ _ hN;replace W:=(W.new hN).drawn D;refine⟨fun _=>W,?_⟩;refine ar 10 ?_;replace H:=H _ D;refine lS (f:=(fun p=> .pointer (some p))) rfl rfl rfl (aI rfl) (fun a ha=>mV (nC TF.aCx)) rfl true (by kernel_rfl) ?_;intro p10 w13 hN _ D;replace H:=H _ _ hN;replace W:=(W.new hN).drawn D;refine⟨fun _=>W,?_⟩;refine ar 12 ?_;obtain⟨⟨u3,h14⟩,h15,H⟩:=H _ D;refine mY rfl rfl (aI rfl) (xs rfl rfl (dM TF.size_int rfl rfl h14 h15)) rfl false (by kernel_rfl) ?_;intro w14 hw _ D;replace H:=H _ hw;clear hw;refine⟨fun h=>(by cases h),?_⟩;refine ar 13 ?_;obtain⟨⟨u4,h16⟩,h17,H⟩:=H _ D;refine mY rfl rfl (aI rfl) (xs rfl rfl (dM TF.size_int rfl rfl h16 h17)) rfl false (by kernel_rfl) ?_;intro w15 hw _ D;replace H:=H _ hw;clear hw;refine⟨fun h=>(by cases h),?_⟩;refine dJ (by kernel_rfl) D ?_;intro w16 D;replace H:=H _ D;clear D cm;exact bD fun a ha=>⟨p10,p9,ha.weaken cs,H⟩
def rH (K:Bool->World->Prop) (b4:Bool) (w3:World):Prop:=
 K b4 w3
def Ko (x1:Int) (x2:Int) (x3:Int) (b1:Bool) (p1:Addr) (K:Bool->World->Prop) (w:World):Prop:=
 ∀(p2:Addr) (w1:World),New w (.cells #[iv x1,iv x2,iv x3,.bool b1] T.qW) p2 w1->(∃b3,w1.cell? (p2.add 3)=some (.bool b3)/\(b3=true->(∃q1,w1.cell? p1=some (.pointer q1)/\∃p3,q1=some p3/\∃x4,w1.cell? (p2.add 0)=some (iv x4)/\∃x5,(∀w',aO w1 w'->Calls P F.bV #[.pointer (some (p3.add 0)),iv x4] w' fun x w''=>x= .returned (iv x5)/\aO w' w'')/\∃q2,w1.cell? p1=some (.pointer q2)/\∃p4,q2=some p4/\∃x6,w1.cell? (p2.add 1)=some (iv x6)/\∃x7,(∀w',aO w1 w'->Calls P F.bV #[.pointer (some (p4.add 0)),iv x6] w' fun x w''=>x= .returned (iv x7)/\aO w' w'')/\∀w2,aO w1 w2->((rH K) (decide (x5=x7)) w2)))/\(b3=false->(∀w4,aO w1 w4->((rH K) false w4))))
theorem Yp (x1:Int) (x2:Int) (x3:Int) (b1:Bool) (p1:Addr) (K:Bool->World->Prop) (w:World) (H:Ko x1 x2 x3 b1 p1 K w):Calls P F.yQ #[.agg #[iv x1,iv x2,iv x3,.bool b1],.pointer (some p1)] w (cO fun v w'=>∃b2,v=(.bool b2)/\K b2 w'):=by
 unfold Ko at H;refine bT (P:=P) Tryz.func81 rfl [(0,.agg #[iv x1,iv x2,iv x3,.bool b1]),(1,.pointer (some p1))] 21 rfl rfl (aa rfl (aa rfl az)) (aG (aF (iP (f:=(fun p=> .pointer (some p))) rfl rfl (aI rfl) (fun a ha=>uM (ha.ev rfl) uO) ?_)));intro p2 w1 hN;replace H:=H _ _ hN;refine ag rfl (aH (nc (y2 1 2 rfl) ?_));refine fA (fun a w=>∃b4,Ok 21 [(3,.bool b4)] a/\rH K b4 w) ?_ ?_
 ·rintro a w3 ⟨b4,ha,H⟩;unfold rH at H;refine cu ha ?_;exact bK (aN (res1 rfl rfl) ⟨_,rfl,_,rfl,H⟩)
 ·refine bU follows [0,1,2,3,4,5,6,7,8,9,10,11,12,13,14,15,16,17] [1,3,7,8,9,13,14] 18 rfl rfl (by kernel_rfl) (fun _ _ d _ _ h=>by cases d<;>exact h) (fun cm W D=> ?_);refine lH 0 cm rfl rfl (TF.Rx _ _) D W fun _ D W=> ?_;obtain⟨b3,h2,H⟩:=H;refine vl 1 cm rfl rfl (fun hw=>(aJ TF.Ah ((hw.cell _).trans h2))) D W fun _ D W=> ?_;rcases tf b3 with hb|hb
  ·replace H:=H.1 hb;refine pv 2 cm rfl rfl rfl (fun w' a ha=>aGb (iC (ha.ev rfl)) hb) D W fun _ D W=> ?_;obtain⟨q1,h3,H⟩:=H;refine vlg 3 cm rfl rfl rfl rfl (fun hw=>(aJ TF.jU ((hw.cell _).trans h3))) D W fun _ D W=> ?_;obtain⟨p3,e1,H⟩:=H;refine pvg 4 cm rfl rfl rfl rfl rfl (fun w' a ha=>dH ((ha.ev rfl).trans (by rw[e1]))) D W fun _ D W=>(Ti 5 cm rfl rfl rfl rfl (TF.bI _ _) D W fun _ D W=>(Ti 6 cm rfl rfl rfl rfl (TF.qN _ _) D W fun _ D W=> ?_));obtain⟨x4,h4,H⟩:=H;refine vlg 7 cm rfl rfl rfl rfl (fun hw=>(aJ TF.aP ((hw.cell _).trans h4))) D W fun _ D W=> ?_;obtain⟨x5,h5,H⟩:=H;refine Ql (i:=8) cm rfl (by kernel_rfl) W rfl rfl (dW rfl rfl rfl) (fun w' hw a ha=>nD (ha.ev rfl) (ha.evs rfl) FF.bJ) h5 rfl ?_;intro _ hd W;replace D:=D.trans hd;clear hd;obtain⟨q2,h6,H⟩:=H;refine vlg 9 cm rfl rfl rfl rfl (fun hw=>(aJ TF.jU ((hw.cell _).trans h6))) D W fun _ D W=> ?_;obtain⟨p4,e2,H⟩:=H;refine pvg 10 cm rfl rfl rfl rfl rfl (fun w' a ha=>dH ((ha.ev rfl).trans (by rw[e2]))) D W fun _ D W=>(Ti 11 cm rfl rfl rfl rfl (TF.bI _ _) D W fun _ D W=>(Ti 12 cm rfl rfl rfl rfl (TF.sJ _ _) D W fun _ D W=> ?_));obtain⟨x6,h7,H⟩:=H;refine vlg 13 cm rfl rfl rfl rfl (fun hw=>(aJ TF.aP ((hw.cell _).trans h7))) D W fun _ D W=> ?_;obtain⟨x7,h8,H⟩:=H;refine Ql (i:=14) cm rfl (by kernel_rfl) W rfl rfl (dW rfl rfl rfl) (fun w' hw a ha=>nD (ha.ev rfl) (ha.evs rfl) FF.bJ) h8 rfl ?_;intro _ hd W;replace D:=D.trans hd;clear hd;refine aGj 15 cm rfl rfl rfl rfl rfl (fun w' a ha=>fZ (ha.ev rfl) (ha.ev rfl) iR) D fun _ D=>(aDp 16 cm rfl rfl rfl D fun _ D=>(Bo 17 cm rfl rfl D fun _ D=>(dJ (by kernel_rfl) D ?_)));intro w2 D;replace H:=H _ D;clear D cm;exact bD fun a ha=>⟨(decide (x5=x7)),ha.weaken cs,H⟩
  ·replace H:=H.2 hb;refine pv 2 cm rfl rfl rfl (fun w' a ha=>aGk (iC (ha.ev rfl)) hb) D W fun _ D W=>(ps 3 cm rfl rfl rfl rfl rfl D W fun _ D W=>(ps 4 cm rfl rfl rfl rfl rfl D W fun _ D W=>(ps 5 cm rfl rfl rfl rfl rfl D W fun _ D W=>(ps 6 cm rfl rfl rfl rfl rfl D W fun _ D W=>(ps 7 cm rfl rfl rfl rfl rfl D W fun _ D W=>(ps 8 cm rfl rfl rfl rfl rfl D W fun _ D W=>(ps 9 cm rfl rfl rfl rfl rfl D W fun _ D W=>(ps 10 cm rfl rfl rfl rfl rfl D W fun _ D W=>(ps 11 cm rfl rfl rfl rfl rfl D W fun _ D W=>(ps 12 cm rfl rfl rfl rfl rfl D W fun _ D W=>(ps 13 cm rfl rfl rfl rfl rfl D W fun _ D W=>(ps 14 cm rfl rfl rfl rfl rfl D W fun _ D W=>(psd 15 cm rfl rfl rfl rfl rfl D fun _ D=>(aCs 16 cm rfl rfl rfl D fun _ D=>(Bo 17 cm rfl rfl D fun _ D=>(dJ (by kernel_rfl) D ?_))))))))))))))));intro w4 D;replace H:=H _ D;clear D cm;exact bD fun a ha=>⟨false,ha.weaken cs,H⟩
def Pm (p1:Addr) (K:Int->World->Prop) (w:World):Prop:=
 ∀(p2:Addr) (w1:World),New w (.cells #[.pointer (some p1)] T.Vk) p2 w1->(∃q1,w1.cell? p2=some (.pointer q1)/\∃p3,q1=some p3/\∃A1 n1 c1,w1.cell? (p3.add 8)=some (.slice A1 n1 c1)/\Calls P F.iG #[.slice A1 n1 c1,.func (.func F.yQ) #[] #[.pointer (some p2)]] w1 (cO fun v1 w2=>∃x2,v1=(iv x2)/\K x2 w2))
theorem aAs (p1:Addr) (K:Int->World->Prop) (w:World) (H:Pm p1 K w):Calls P F.xZ #[.pointer (some p1)] w (cO fun v w'=>∃x1,v=(iv x1)/\K x1 w'):=by
 unfold Pm at H;refine bT (P:=P) Tryz.func63 rfl [(0,.pointer (some p1))] 9 rfl rfl (fun p hp=>by rcases List.mem_singleton.1 hp with rfl;rfl) (aG (aF (iP (f:=(fun p=> .pointer (some p))) rfl rfl (aI rfl) (fun a ha=>uM (ha.ev rfl) uO) ?_)));intro p2 w1 hN;replace H:=H _ _ hN;refine ag rfl (aH (nc (kp 1 rfl zz) (aG (aF ?_))));obtain⟨q1,h2,H⟩:=H;refine ld rfl (aJ TF.jU h2) ?_;obtain⟨p3,e1,H⟩:=H;refine sv rfl rfl (fun a ha=>dH ((ha.ev rfl).trans (by rw[e1]))) (fa rfl (TF.jV _ _) ?_);obtain⟨A1,n1,c1,h3,H⟩:=H;refine ld rfl (aJ TF.oJ h3) (sv rfl rfl (fun a ha=>Oe (ha.evs rfl) (ha.evs rfl)) (sc rfl rfl FF.oD H ?_));rintro _ w2 ⟨x2,rfl,H⟩;exact ag rfl (aH (nc (kp 2 rfl zz) (bK (aN (res1 rfl rfl) ⟨_,rfl,_,rfl,H⟩))))
def Ig (p1:Addr) (x1:Int) (x2:Int) (K:Bool->Int->World->Prop) (w:World):Prop:=
 Calls P F.lX #[.pointer (some p1),iv x1,iv x2] w (cO fun v1 w1=>∃b2,v1=(.bool b2)/\((!b2)=true->(K false 80 w1))/\((!b2)=false->(Calls P F.vK #[.pointer (some p1),iv x1,iv x2] w1 (cO fun v2 w2=>∃x4,v2=(iv x4)/\K (decide (0<=x4)) 0 w2))))
theorem aB8 (p1:Addr) (x1:Int) (x2:Int) (K:Bool->Int->World->Prop) (w:World) (H:Ig p1 x1 x2 K w):Calls P F.Aj #[.pointer (some p1),iv x1,iv x2] w (cO fun v w'=>∃b1,∃x3,v=(.tuple #[.bool b1,iv x3])/\K b1 x3 w'):=by
 unfold Ig at H;refine bT (P:=P) Tryz.func40 rfl [(0,.pointer (some p1)),(1,iv x1),(2,iv x2)] 18 rfl rfl (aa rfl (aa rfl (aa rfl az))) (aG (aF (ag rfl (ag rfl (aH (nc (y3 0 1 2 rfl) (aG (aG (aF (mv rfl (mv rfl (mv rfl (sc rfl rfl FF.jL H ?_)))))))))))));rintro _ w1 ⟨b2,rfl,H⟩;refine sv rfl rfl (xu rfl sK) (aH (nc (y4 0 1 2 12 rfl) ?_));refine eG rfl (fun hb=> ?_) (fun hb=> ?_)
 ·replace H:=H.1 hb;exact aG (aF (ag rfl (ag rfl (aH (nc (y2 6 7 rfl) (bK (aQ (aN (Jk rfl rfl rfl) ⟨_,rfl,_,_,rfl,H⟩))))))))
 ·replace H:=H.2 hb;refine aX (nc (y3 0 1 2 rfl) (aG (aF (mv rfl (mv rfl (mv rfl (sc rfl rfl FF.wV H ?_)))))));rintro _ w2 ⟨x4,rfl,H⟩;exact bo rfl rfl Kq (ag rfl (ag rfl (aH (nc (y2 6 7 rfl) (bK (aN (Jk rfl rfl rfl) ⟨_,rfl,_,_,rfl,H⟩))))))
def Ii (p1:Addr) (K:Bool->World->Prop) (w:World):Prop:=
 Calls P F.xZ #[.pointer (some p1)] w (cO fun v1 w1=>∃x1,v1=(iv x1)/\K (decide (0<=x1)) w1)
theorem aB9 (p1:Addr) (K:Bool->World->Prop) (w:World) (H:Ii p1 K w):Calls P F.xK #[.pointer (some p1)] w (cO fun v w'=>∃b1,v=(.bool b1)/\K b1 w'):=by
 unfold Ii at H;refine bT (P:=P) Tryz.func42 rfl [(0,.pointer (some p1))] 6 rfl rfl (fun p hp=>by rcases List.mem_singleton.1 hp with rfl;rfl) (aG (aF (ag rfl (aH (nc (kp 0 rfl zz) (aG (aF (mv rfl (sc rfl rfl FF.Ea H ?_)))))))));rintro _ w1 ⟨x1,rfl,H⟩;exact bo rfl rfl Kq (ag rfl (aH (nc (kp 2 rfl zz) (bK (aN (res1 rfl rfl) ⟨_,rfl,_,rfl,H⟩)))))
def lI (A1:Option Addr) (n1 c1:Nat) (v1:Value) (K:Int->World->Prop) (w:World):Prop:=
 ∃I1:Nat->Int->World->Prop,(∃k1,I1 k1 0 w)/\∀k1 (x2:Int) (w1:World),I1 k1 x2 w1->((x2<(n1:Int)->(0<=x2/\x2<(n1:Int)/\∃a1,A1=some a1/\∃x3,∃x4,∃x5,∃b1,bG w1 (a1.add (x2.toNat*4)) [iv x3,iv x4,iv x5,.bool b1]/\∃(f1:FuncId) (cs1:List Value),v1= .func (.func f1) #[] cs1.toArray/\callable P f1=true/\Calls P f1 ([.agg #[iv x3,iv x4,iv x5,.bool b1]]++cs1:List Value).toArray w1 (cO fun v2 w2=>∃b2,v2=(.bool b2)/\(b2=true->(K x2 w2))/\(b2=false->(∃k2,k2<k1/\I1 k2 (IntKind.wrap .i64 (x2+1)) w2)))))/\(¬(x2<(n1:Int))->(K (-1) w1)))
theorem Bl (A1:Option Addr) (n1 c1:Nat) (v1:Value) (K:Int->World->Prop) (w:World) (H:lI A1 n1 c1 v1 K w):Calls P F.iG #[.slice A1 n1 c1,v1] w (cO fun v w'=>∃x1,v=(iv x1)/\K x1 w'):=by
 unfold lI at H;refine bT (P:=P) Tryz.func79 rfl [(0,.slice A1 n1 c1),(1,v1)] 19 rfl rfl (aa rfl (aa rfl az)) (aG (aF (ag rfl (aH (nc (y2 0 1 rfl) (aG (aG (aF (mv rfl (sv rfl rfl (xb rfl (fun _=>bW TF.Gg)) (mv rfl (aH (nc (y4 0 1 7 8 rfl) (aY ?_))))))))))))));obtain⟨I1,⟨k1,hi⟩,H⟩:=H;refine fK (fun k1 a w'=>∃x2,Ok 19 [(0,.slice A1 n1 c1),(1,v1),(7,iv (n1:Int)),(8,iv x2)] a/\I1 k1 x2 w') (fun a ha=>⟨k1,0,ha.weaken cs,hi⟩) ?_;rintro k1 a w1 ⟨x2,ha,hI⟩;replace H:=H k1 x2 w1 hI;refine cu ha ?_;refine aG (aF (bo rfl rfl iY (aH (nc (y5 0 1 7 8 9 rfl) (aG ?_)))));refine bC rfl (fun hb=> ?_) (fun hb=> ?_)
 ·replace H:=H.1 hb;refine aX (nc (y4 0 1 7 8 rfl) (aG (aY (aG (aF (mv rfl (ag rfl (aH (nc (y5 0 1 5 7 8 rfl) (aG (aF (mv rfl (mv rfl (mv rfl ?_))))))))))))));obtain⟨h1,h2,a1,e1,H⟩:=H;refine ix rfl rfl (aU TF.zC TF.mD e1 h1 h2) ?_;obtain⟨x3,x4,x5,b1,h3,H⟩:=H;refine ld rfl (gW (vs:=[iv x3,iv x4,iv x5,.bool b1]) TF.Rt TF.mD h3) ?_;obtain⟨f1,cs1,e2,h4,H⟩:=H;refine Eu rfl rfl (aI rfl) (fun a ha=>aFa ((ha.ev rfl).trans e2) (ha.evs rfl) h4) H ?_;rintro _ w2 ⟨b2,rfl,H⟩;refine aH (nc (y6 0 1 5 7 8 16 rfl) ?_);refine eG rfl (fun hb=> ?_) (fun hb=> ?_)
  ·replace H:=H.1 hb;exact aG (aF (mv rfl (ag rfl (aH (nc (kp 4 rfl zz) (bK (bF (aQ (aQ (bF (aQ (aN (res1 rfl rfl) ⟨_,rfl,_,rfl,H⟩))))))))))))
  ·replace H:=H.2 hb;refine aX (bZ (nc (y4 0 1 7 8 rfl) (aF (bo rfl rfl kC (mv rfl (aH ?_))))));obtain⟨k2,hk,H⟩:=H;exact bD fun a ha=>⟨k2,hk,IntKind.wrap .i64 (x2+1),ha.weaken cs,H⟩
 ·replace H:=H.2 hb;exact eU (aT (aT (bQ (nc zz (aG (aF (ag rfl (aH (nc (kp 4 rfl zz) (bK (aN (res1 rfl rfl) ⟨_,rfl,_,rfl,H⟩)))))))))))
theorem aGe (e:dK):e.vals.length=4:=rfl
theorem aJ3 (e:Mk):e.vals.length=2:=rfl
section
variable {B0:Nat} {w w' w0:World} {p U:Addr} {M N:Nat} {A:Nat->Option Addr} {n c:Nat->Nat} {H:Nat->Prop} {g:GS}
theorem dF.n4 (h:dF B0 w p U M N A n c H g):g.nodes.length=n 4:=by
 have hr:Row w B0 T.fJ 2 (A 4) (n 4) (c 4) g.nvals.vals:=h.row (show 4<9 by omega)
 have e1:=hr.1
 have e2:g.nvals.vals.length=g.nodes.length*2:=h.nd.now.1
 omega
def There (g:GS) (a b:Int):Prop:=0<=a/\0<=b/\a<g.nodes.length/\b<g.nodes.length
theorem Uf (h:dF B0 w p U M N A n c H g) (a b:Int):Calls P F.lX #[.pointer (some p),iv a,iv b] w (cO fun v w'=>∃r,v= .bool r/\(r=true↔There g a b)/\w'=w):=by
 refine aB6 p a b (fun r w'=>(r=true↔There g a b)/\w'=w) w ?_
 have e4:=h.n4
 have hc:w.cell? (p.add 4)=some (.slice (A 4) (n 4) (c 4)):=h.cell (show 4<9 by omega)
 unfold Ir lG There
 refine⟨fun h1=>⟨fun h2=>⟨_,_,_,hc,fun h3=>⟨_,_,_,hc,?_,rfl⟩,fun h3=>⟨⟨fun q=>(by cases q),fun q=>absurd q.2.2.1 (by omega)⟩,rfl⟩⟩,fun h2=>⟨⟨fun q=>(by cases q),fun q=>absurd q.2.1 h2⟩,rfl⟩⟩,fun h1=>⟨⟨fun q=>(by cases q),fun q=>absurd q.1 h1⟩,rfl⟩⟩
 rw[decide_eq_true_iff]
 omega
theorem aPl (h:dF B0 w p U M N A n c H g) {a b:Int} (hf:∀x:Int,0<=x->x<g.nodes.length->∃r,g.first[x.toNat]? =some r):
  Calls P F.Em #[.pointer (some p),iv a,iv b] w (cO fun v w'=>∃(r:Bool) (e:Int),v= .tuple #[.bool r,iv e]/\((¬There g a b/\r=false/\e=80)\/(There g a b/\e=0/\(r=true↔g.first[a.toNat]? =g.first[b.toNat]?)))/\aO w w'):=by
 refine aC3 p a b (fun r e w'=>((¬There g a b/\r=false/\e=80)\/(There g a b/\e=0/\(r=true↔g.first[a.toNat]? =g.first[b.toNat]?)))/\aO w w') w ?_
 unfold Ls
 refine(Uf h a b).mono ?_
 rintro _ w1 ⟨_,rfl,r,rfl,hr,rfl⟩
 refine⟨_,rfl,r,rfl,fun hn=>⟨.inl ⟨fun ht=> ?_,rfl,rfl⟩,aO.refl _⟩,fun hn=> ?_⟩
 ·rw[hr.2 ht] at hn;cases hn
 ·have ht:=hr.1 (by cases r<;>simp at hn⊢)
  obtain⟨x,hx⟩:=hf a ht.1 ht.2.2.1
  obtain⟨y,hy⟩:=hf b ht.2.1 ht.2.2.2
  rw[add0]
  refine⟨x,fun w' hw'=>tC (h.stay (Ext.aK hw')) ht.1 hx,y,fun w' hw'=>tC (h.stay (Ext.aK hw')) ht.2.1 hy,fun w2 hw2=>⟨.inr ⟨ht,rfl,?_⟩,hw2⟩⟩
  rw[decide_eq_true_iff,hx,hy]
  simp
theorem aF3 (g:GS) (l:List dK) (us:List Value) (h:us=l.flatMap dK.vals):∀i,upd g.vals 6 us i=({g with stand:=l}:GS).vals i:=by
 intro i
 subst h
 match i with
 |0=>rfl
 |1=>rfl
 |2=>rfl
 |3=>rfl
 |4=>rfl
 |5=>rfl
 |6=>rfl
 |7=>rfl
 |8=>rfl
 |i+9=>rfl
theorem aFq (g:GS) (l:List Mk) (us:List Value) (h:us=l.flatMap Mk.vals):∀i,upd g.vals 8 us i=({g with marks:=l}:GS).vals i:=by
 intro i
 subst h
 match i with
 |0=>rfl
 |1=>rfl
 |2=>rfl
 |3=>rfl
 |4=>rfl
 |5=>rfl
 |6=>rfl
 |7=>rfl
 |8=>rfl
 |i+9=>rfl
theorem dF.n6 (h:dF B0 w p U M N A n c H g):g.stand.length=n 6:=by
 have hr:=(h.row (show 6<9 by omega)).1
 have hlen:(g.stand.flatMap dK.vals).length=n 6*4:=hr
 rw[uN aGe] at hlen
 omega
theorem dF.n7 (h:dF B0 w p U M N A n c H g):g.changes.length=n 7:=by
 have hr:=(h.row (show 7<9 by omega)).1
 have hlen:(g.changes.flatMap Chg.vals).length=n 7*8:=hr
 rw[uN aFb] at hlen
 omega
theorem dF.n8 (h:dF B0 w p U M N A n c H g):g.marks.length=n 8:=by
 have hr:=(h.row (show 8<9 by omega)).1
 have hlen:(g.marks.flatMap Mk.vals).length=n 8*2:=hr
 rw[uN aJ3] at hlen
 omega
theorem dF.aJe (h:dF B0 w p U M N A n c H g) {t:dK} {p2:Addr} (hc:bG w p2 t.vals) (hn:g.stand.length+1<=1099511627776) {c2:Nat}:
  ∃A' c' w',w.cell? (p.add 8)=some (.slice (A 6) (n 6) (c 6))/\(Builtin.append_ #[T.mZ,T.mZ] T.mZ #[.slice (A 6) (n 6) (c 6),.slice (some p2) 1 c2]).run P w= .ok (.slice A' (n 6+1) c') w'/\
   ∀w8,Ext w' w8->(∃u,w8.cell? (p.add 8)=some u)/\w8.frozen? (p.add 8)=false/\∀w9,w9=w8.setCell (p.add 8) (.slice A' (n 6+1) c')->
    ∃H',dF B0 w9 p U M N (upd A 6 A') (upd n 6 (n 6+1)) (upd c 6 c') H' {g with stand:=g.stand++[t]}/\dU H w H' w9/\(∀b,H b->H' b)/\∀b,b<w.heap.size->FX (kF p U N) (upd A 6 A') b->FX (kF p U N) A b:=by
 have e6:=h.n6
 obtain⟨A',c',w',hrun,_,hh⟩:=h.append (c2:=c2) (k:=6) (show 6<9+N by omega) (t:=T.mZ) (m:=1) (by kernel_rfl) (show wP P T.qW=some (4,32,4) by kernel_rfl) (by decide) (news:=t.vals) rfl hc (by intro u hu;simp[dK.vals] at hu;rcases hu with rfl|rfl|rfl|rfl<;>rfl) (by omega) (by omega)
  (g':={g with stand:=g.stand++[t]}) (fun i _=>aF3 g _ _ (by show g.stand.flatMap dK.vals++t.vals=_;simp) i) ⟨rfl,rfl,rfl⟩
 have e9:(kF p U N).hdr 6=p.add 8:=rfl
 rw[e9] at hh
 exact⟨A',c',w',h.cell (show 6<9 by omega),hrun,hh⟩
theorem aD2 (h:dF B0 w p U M N A n c H g) {a b t:Int} (hn:g.stand.length+1<=1099511627776):
  Calls P F.oV #[.pointer (some p),iv a,iv b,iv t] w (cO fun v w'=>∃e:Int,v= iv e/\∃A' n' c' H' g',dF B0 w' p U M N A' n' c' H' g'/\dU H w H' w'/\(∀b,H b->H' b)/\
   ((¬There g a b/\e=80/\g'=g)\/(There g a b/\e=0/\g'={g with stand:=g.stand++[⟨a,b,t,true⟩]}))):=by
 refine aBg p a b t (fun e w'=>∃A' n' c' H' g',dF B0 w' p U M N A' n' c' H' g'/\dU H w H' w'/\(∀b,H b->H' b)/\
   ((¬There g a b/\e=80/\g'=g)\/(There g a b/\e=0/\g'={g with stand:=g.stand++[⟨a,b,t,true⟩]}))) w ?_
 unfold Gq
 refine(Uf h a b).mono ?_
 rintro _ w1 ⟨_,rfl,r,rfl,hr,rfl⟩
 refine⟨_,rfl,r,rfl,fun hn=>⟨A,n,c,H,g,h,dU.refl _ _,fun _ h=>h,.inl ⟨fun ht=> ?_,rfl,rfl⟩⟩,fun hn'=> ?_⟩
 ·rw[hr.2 ht] at hn;cases hn
 ·have ht:=hr.1 (by cases r<;>simp at hn'⊢)
  refine⟨A 6,n 6,c 6,h.cell (show 6<9 by omega),fun p2 w2 hN2=> ?_⟩
  have E2:=Ext.eY hN2
  obtain⟨A',c',w3,_,hrun,hh⟩:=(h.stay E2).aJe (t:=⟨a,b,t,true⟩) (hN2.cells rfl) hn (c2:=1)
  obtain⟨k1,k2,k3⟩:=hh w3 (Ext.refl w3)
  refine⟨A',n 6+1,c',w3,hrun,k1,k2,fun w4 hw4=> ?_⟩
  obtain⟨H4,g4,adv4,sub4,_⟩:=k3 w4 hw4
  exact⟨_,_,_,H4,_,g4,(dU.iL E2).trans adv4,sub4,.inr ⟨ht,rfl,rfl⟩⟩
theorem aLd (h:dF B0 w p U M N A n c H g) (hn:g.marks.length+1<=1099511627776):
  Calls P F.wH #[.pointer (some p)] w (cO fun v w'=>v= .tuple #[]/\∃A' n' c' H',dF B0 w' p U M N A' n' c' H' {g with marks:=g.marks++[⟨g.stand.length,g.changes.length⟩]}/\dU H w H' w'/\∀b,H b->H' b):=by
 refine cO.mono (aCz p (fun w'=>∃A' n' c' H',dF B0 w' p U M N A' n' c' H' {g with marks:=g.marks++[⟨g.stand.length,g.changes.length⟩]}/\dU H w H' w'/\∀b,H b->H' b) w ?_) (by rintro v w' ⟨rfl,hk⟩;exact⟨rfl,hk⟩)
 have e6:=h.n6
 have e7:=h.n7
 have e8:=h.n8
 unfold Jr
 refine⟨A 8,n 8,c 8,h.cell (show 8<9 by omega),A 6,n 6,c 6,h.cell (show 6<9 by omega),A 7,n 7,c 7,h.cell (show 7<9 by omega),fun w7 hw7 p2 w1 hN1 w6 hw6=> ?_⟩
 have E6:Ext w w6:=((Ext.aK hw7).new hN1).drawn hw6
 have g6:=h.stay E6
 obtain⟨A',c',w2,hrun,_,hh⟩:=g6.append (c2:=1) (k:=8) (show 8<9+N by omega) (t:=T.zN) (m:=1) (by kernel_rfl) (show wP P T.Dt=some (2,16,2) by kernel_rfl) (by decide) (news:=(Mk.vals ⟨n 6,n 7⟩)) rfl ((Ext.aK hw6).cells (hN1.cells rfl)) (by intro u hu;simp[Mk.vals] at hu;rcases hu with rfl|rfl<;>rfl) (by omega) (by omega)
  (g':={g with marks:=g.marks++[⟨g.stand.length,g.changes.length⟩]}) (fun i _=>aFq g _ _ (by show g.marks.flatMap Mk.vals++_=_;rw[e6,e7];simp) i) ⟨rfl,rfl,rfl⟩
 have e9:(kF p U N).hdr 8=p.add 10:=rfl
 rw[e9] at hh
 refine⟨A',n 8+1,c',w2,hrun,fun w5 hw5=> ?_⟩
 obtain⟨k1,k2,k3⟩:=hh w5 (Ext.aK hw5)
 refine⟨k1,k2,fun w3 hw3 w4 hw4=> ?_⟩
 obtain⟨H3,g3,adv3,sub3,_⟩:=k3 w3 hw3
 exact⟨_,_,_,H3,g3.stay (Ext.aK hw4),((dU.iL E6).trans adv3).trans (dU.aK hw4),sub3⟩
theorem dF.said (h:dF B0 w p U M N A n c H g) {i:Int} {e:dK} (h0:0<=i) (he:g.stand[i.toNat]? =some e):
  w.cell? (p.add 8)=some (.slice (A 6) (n 6) (c 6))/\i<n 6/\∃a,A 6=some a/\bG w (a.add (i.toNat*4)) e.vals:=by
 have hc:=h.cell (show 6<9 by omega)
 have hr:=h.row (show 6<9 by omega)
 have hlen:=h.n6
 have hi:=(List.getElem?_eq_some_iff.1 he).1
 obtain⟨a,us,hA,hu,_,hcell,hs⟩:=hr.elem (s:=4) h0 (show i<n 6 by omega) (by decide)
 have:us=e.vals:=hu.trans (Ba aGe _ _ _ he)
 subst this
 exact⟨hc,by omega,a,hA,hcell⟩
def Vf (l:List dK) (q:dK->Prop) (r:Int):Prop:=(r= -1/\∀s∈l,¬q s)\/(0<=r/\∃s,l[r.toNat]? =some s/\q s/\∀(j:Nat) t,(j:Int)<r->l[j]? =some t->¬q t)
theorem aF9 (h:dF B0 w p U M N A n c H g) (hs:Sm g.stand.length) {f:FuncId} {cs:List Value} (hf:callable P f=true) (q:dK->Prop)
  (hq:∀s∈g.stand,∀w',Ext w w'->Calls P f ([.agg s.vals.toArray]++cs:List Value).toArray w' (cO fun v w2=>∃b,v= .bool b/\(b=true↔q s)/\Ext w' w2)):
  Calls P F.iG #[.slice (A 6) (n 6) (c 6),.func (.func f) #[] cs.toArray] w (cO fun v w'=>∃r:Int,v= iv r/\Vf g.stand q r/\Ext w w'):=by
 refine Bl (A 6) (n 6) (c 6) _ (fun r w'=>Vf g.stand q r/\Ext w w') w ?_
 have e6:=h.n6
 unfold lI
 refine⟨fun m i w'=>m=n 6-i.toNat/\0<=i/\i<=n 6/\(∀(k:Nat) t,(k:Int)<i->g.stand[k]? =some t->¬q t)/\Ext w w',⟨n 6,by omega,by omega,by omega,fun k t hk=>by omega,Ext.refl w⟩,?_⟩
 rintro m i w1 ⟨rfl,h0,h1,hall,hE⟩
 refine⟨fun hlt=> ?_,fun hge=>⟨.inl ⟨rfl,fun s hs'=> ?_⟩,hE⟩⟩
 ·obtain⟨s,hsi⟩:∃s,g.stand[i.toNat]? =some s:=⟨_,List.getElem?_eq_getElem (by omega)⟩
  obtain⟨_,_,a,hA,hc⟩:=(h.stay hE).said h0 hsi
  refine⟨h0,hlt,a,hA,_,_,_,_,hc,f,cs,rfl,hf,(hq s (List.mem_of_getElem? hsi) w1 hE).mono ?_⟩
  rintro _ w2 ⟨v,rfl,b,rfl,hb,hE2⟩
  refine⟨_,rfl,b,rfl,fun hbt=>⟨.inr ⟨h0,s,hsi,hb.1 hbt,fun j t hj ht=>hall j t hj ht⟩,hE.trans hE2⟩,fun hbf=> ?_⟩
  rw[gI h0 hlt (by rw[<-e6];exact hs)]
  refine⟨n 6-(i+1).toNat,by omega,rfl,by omega,by omega,fun k t hk ht=> ?_,hE.trans hE2⟩
  rcases Int.lt_or_eq_of_le (show(k:Int)<=i by omega) with hk|hk
  ·exact hall k t hk ht
  ·rw[show k=i.toNat by omega,hsi] at ht
   cases ht
   intro hqs
   rw[hb.2 hqs] at hbf
   cases hbf
 ·obtain⟨k,hk⟩:=List.mem_iff_getElem?.1 hs'
  have:=(List.getElem?_eq_some_iff.1 hk).1
  exact hall k s (by omega) hk
end
structure Known (g:GS):Prop where
 first:∀x:Int,0<=x->x<g.nodes.length->∃r,g.first[x.toNat]? =some r
 stand:∀s∈g.stand,There g s.a s.b
 small:Sm g.stand.length
def fd (g:GS) (x:Int):Int:=g.first.getD x.toNat (-1)
theorem aR5 {g:GS} {x r:Int} (h:g.first[x.toNat]? =some r):fd g x=r:=by unfold fd;rw[List.getD_eq_getElem?_getD,h];rfl
def Vg (g:GS) (s:dK):Prop:=s.not=true/\fd g s.a=fd g s.b
def Tj (g:GS) (x y:Int) (s:dK):Prop:=s.not=true/\((fd g s.a=x/\fd g s.b=y)\/(fd g s.a=y/\fd g s.b=x))
section
variable {B0:Nat} {w w' w0:World} {p U:Addr} {M N:Nat} {A:Nat->Option Addr} {n c:Nat->Nat} {H:Nat->Prop} {g:GS}
theorem Xv (h:dF B0 w p U M N A n c H g) (k:Known g) {a:Int} (h0:0<=a) (h1:a<g.nodes.length):Quiet P F.bV #[.pointer (some p),iv a] w (iv (fd g a)):=by
 obtain⟨r,hr⟩:=k.first a h0 h1
 rw[aR5 hr]
 exact tC h h0 hr
theorem aHr (h:dF B0 w p U M N A n c H g) (k:Known g) {s:dK} (hs:s∈g.stand) {q:Addr} (hq:w.cell? q=some (.pointer (some p))):
  Calls P F.yQ #[.agg s.vals.toArray,.pointer (some q)] w (cO fun v w2=>∃b,v= .bool b/\(b=true↔Vg g s)/\Ext w w2):=by
 refine Yp s.a s.b s.tag s.not q (fun b w'=>(b=true↔Vg g s)/\Ext w w') w ?_
 obtain⟨a0,b0,a1,b1⟩:=k.stand s hs
 intro p2 w1 hN
 have E1:Ext w w1:=Ext.eY hN
 have hc:=hN.cells rfl
 have h1:=h.stay E1
 refine⟨s.not,hc 3 _ rfl,fun hn=>⟨some p,E1.cell hq,p,rfl,s.a,hc 0 _ rfl,fd g s.a,fun w' hw'=> ?_,some p,E1.cell hq,p,rfl,s.b,hc 1 _ rfl,fd g s.b,fun w' hw'=> ?_,fun w2 hw2=> ?_⟩,fun hn w4 hw4=> ?_⟩
 ·rw[add0];exact Xv (h1.stay (Ext.aK hw')) k a0 a1
 ·rw[add0];exact Xv (h1.stay (Ext.aK hw')) k b0 b1
 ·refine⟨?_,E1.drawn hw2⟩
  rw[decide_eq_true_iff]
  exact⟨fun e=>⟨hn,e⟩,fun e=>e.2⟩
 ·exact⟨⟨fun e=>(by cases e),fun e=>by rw[e.1] at hn;cases hn⟩,E1.drawn hw4⟩
theorem aFr (h:dF B0 w p U M N A n c H g) (k:Known g):Calls P F.xZ #[.pointer (some p)] w (cO fun v w'=>∃r:Int,v= iv r/\Vf g.stand (Vg g) r/\Ext w w'):=by
 refine aAs p (fun r w'=>Vf g.stand (Vg g) r/\Ext w w') w ?_
 intro p2 w1 hN
 have E1:Ext w w1:=Ext.eY hN
 have h1:=h.stay E1
 have c2:w1.cell? p2=some (.pointer (some p)):=by simpa [add0] using hN.cells rfl 0 _ rfl
 refine⟨some p,c2,p,rfl,A 6,n 6,c 6,h1.cell (show 6<9 by omega),?_⟩
 refine(aF9 (cs:=[.pointer (some p2)]) h1 k.small (show callable P F.yQ=true by kernel_rfl) (Vg g) (fun s hs w' hw'=>aHr (h1.stay hw') k hs (hw'.cell c2))).mono ?_
 rintro _ w2 ⟨v,rfl,r,rfl,hr,E2⟩
 exact⟨_,rfl,r,rfl,hr,E1.trans E2⟩
theorem aIw (h:dF B0 w p U M N A n c H g) (k:Known g):Calls P F.xK #[.pointer (some p)] w (cO fun v w'=>∃b,v= .bool b/\(b=true↔∃s∈g.stand,Vg g s)/\Ext w w'):=by
 refine aB9 p (fun b w'=>(b=true↔∃s∈g.stand,Vg g s)/\Ext w w') w ?_
 unfold Ii
 refine(aFr h k).mono ?_
 rintro _ w1 ⟨v,rfl,r,rfl,hr,E1⟩
 refine⟨_,rfl,r,rfl,?_,E1⟩
 rw[decide_eq_true_iff]
 rcases hr with⟨rfl,hr⟩|⟨h0,s,hs,hq,_⟩
 ·exact⟨fun e=>absurd e (by decide),fun⟨s,hs,hq⟩=>absurd hq (hr s hs)⟩
 ·exact⟨fun _=>⟨s,List.mem_of_getElem? hs,hq⟩,fun _=>h0⟩
theorem aIq (h:dF B0 w p U M N A n c H g) (k:Known g) {s:dK} (hs:s∈g.stand) {q q2 q3:Addr} {x y:Int} (hq:w.cell? q=some (.pointer (some p))) (h2:w.cell? q2=some (iv x)) (h3:w.cell? q3=some (iv y)):
  Calls P F.Af #[.agg s.vals.toArray,.pointer (some q),.pointer (some q2),.pointer (some q3)] w (cO fun v w2=>∃b,v= .bool b/\(b=true↔Tj g x y s)/\Ext w w2):=by
 refine Yy s.a s.b s.tag s.not q q2 q3 (fun b w'=>(b=true↔Tj g x y s)/\Ext w w') w ?_
 obtain⟨a0,b0,a1,b1⟩:=k.stand s hs
 intro p4 w1 hN
 have E1:Ext w w1:=Ext.eY hN
 have hc:=hN.cells rfl
 have h1:=h.stay E1
 refine⟨some p,E1.cell hq,p,rfl,s.a,hc 0 _ rfl,fd g s.a,fun w' hw'=> ?_,some p,E1.cell hq,p,rfl,s.b,hc 1 _ rfl,fd g s.b,fun w' hw'=> ?_,fun w2 hw2=> ?_⟩
 ·rw[add0];exact Xv (h1.stay (Ext.aK hw')) k a0 a1
 ·rw[add0];exact Xv (h1.stay (Ext.aK hw')) k b0 b1
 have E2:Ext w w2:=E1.drawn hw2
 have d2:=E2.cell h2
 have d3:=E2.cell h3
 have J:∀b,(b=true↔Tj g x y s)->gX (fun b w'=>(b=true↔Tj g x y s)/\Ext w w') w2 b:=fun b hb=>⟨hb,E2⟩
 refine⟨s.not,(Ext.aK hw2).cell (hc 3 _ rfl),fun hn=>⟨x,d2,fun e1=>⟨y,d3,fun e2=>J true ⟨fun _=>⟨hn,.inl ⟨e1,e2⟩⟩,fun _=>rfl⟩,fun e2=>⟨y,d3,fun e3=>⟨x,d2,J _ ?_⟩,fun e3=>J false ⟨fun q=>(by cases q),fun q=> ?_⟩⟩⟩,fun e1=>⟨y,d3,fun e3=>⟨x,d2,J _ ?_⟩,fun e3=>J false ⟨fun q=>(by cases q),fun q=> ?_⟩⟩⟩,fun hn=>J false ⟨fun q=>(by cases q),fun q=>by rw[q.1] at hn;cases hn⟩⟩
 ·rw[decide_eq_true_iff]
  exact⟨fun e=>⟨hn,.inr ⟨e3,e⟩⟩,fun q=>q.2.elim (fun q=>absurd q.2 e2) fun q=>q.2⟩
 ·exact(q.2.elim (fun q=>e2 q.2) fun q=>e3 q.1).elim
 ·rw[decide_eq_true_iff]
  exact⟨fun e=>⟨hn,.inr ⟨e3,e⟩⟩,fun q=>q.2.elim (fun q=>absurd q.1 e1) fun q=>q.2⟩
 ·exact(q.2.elim (fun q=>e1 q.1) fun q=>e3 q.1).elim
theorem aDm (h:dF B0 w p U M N A n c H g) (k:Known g) {a b:Int} (ht:There g a b):Calls P F.vK #[.pointer (some p),iv a,iv b] w (cO fun v w'=>∃r:Int,v= iv r/\Vf g.stand (Tj g (fd g a) (fd g b)) r/\Ext w w'):=by
 refine aBh p a b (fun r w'=>Vf g.stand (Tj g (fd g a) (fd g b)) r/\Ext w w') w ?_
 obtain⟨a0,b0,a1,b1⟩:=ht
 intro p2 w1 hN
 have E1:Ext w w1:=Ext.eY hN
 have h1:=h.stay E1
 have c2:w1.cell? p2=some (.pointer (some p)):=by simpa [add0] using hN.cells rfl 0 _ rfl
 have fin:∀(px py:Addr) w6,Ext w1 w6->w6.cell? px=some (iv (fd g a))->w6.cell? py=some (iv (fd g b))->qH p2 (fun r w'=>Vf g.stand (Tj g (fd g a) (fd g b)) r/\Ext w w') px py w6:=by
  intro px py w6 E6 cx cy
  have h6:=h1.stay E6
  refine⟨some p,E6.cell c2,p,rfl,A 6,n 6,c 6,h6.cell (show 6<9 by omega),?_⟩
  refine(aF9 (cs:=[.pointer (some p2),.pointer (some px),.pointer (some py)]) h6 k.small (show callable P F.Af=true by kernel_rfl) (Tj g (fd g a) (fd g b)) (fun s hs w' hw'=>aIq (h6.stay hw') k hs (hw'.cell (E6.cell c2)) (hw'.cell cx) (hw'.cell cy))).mono ?_
  rintro _ w2 ⟨v,rfl,r,rfl,hr,E2⟩
  exact⟨_,rfl,r,rfl,hr,(E1.trans E6).trans E2⟩
 refine⟨some p,c2,p,rfl,fd g a,fun w' hw'=> ?_,some p,c2,p,rfl,fd g b,fun w' hw'=> ?_,?_,?_⟩
 ·rw[add0];exact Xv (h1.stay hw') k a0 a1
 ·rw[add0];exact Xv (h1.stay hw') k b0 b1
 ·intro w11 hw11 p5 w2 hN5 w10 hw10 p6 w3 hN6 w9 hw9
  obtain⟨E,s1,s2,hne,q1,q2⟩:=aKw hw11 hN5 hw10 hN6 hw9
  have t1:=s1 0 (by decide)
  rw[add0] at t1
  obtain⟨u1,hu1⟩:=Option.isSome_iff_exists.1 t1.1
  refine⟨⟨u1,hu1⟩,t1.2,fun w4 hw4 w8 hw8=> ?_⟩
  have hw4':w4=cZ w9 p5 [iv (fd g a)]:=by rw[hw4];simp[cZ,dL,add0]
  obtain⟨E',s3,hh⟩:=aK6 (us:=[iv (fd g a)]) (vs:=[iv (fd g b)]) E s1 s2 hne q1 q2 hw4' hw8
  have t3:=s3 0 (show 0<1 by decide)
  rw[add0] at t3
  obtain⟨u3,hu3⟩:=Option.isSome_iff_exists.1 t3.1
  refine⟨⟨u3,hu3⟩,t3.2,fun w5 hw5 w6 hw6=> ?_⟩
  obtain⟨E6,k1,k2⟩:=hh w5 (by rw[hw5];simp[cZ,dL,add0]) w6 hw6
  exact fin p5 p6 w6 E6 (by simpa [add0] using k1 0 _ rfl) (by simpa [add0] using k2 0 _ rfl)
 ·intro w11 hw11 p5 w2 hN5 w10 hw10 p6 w3 hN6 w9 hw9
  obtain⟨E,s1,s2,hne,q1,q2⟩:=aKw hw11 hN5 hw10 hN6 hw9
  have t1:=s2 0 (by decide)
  rw[add0] at t1
  obtain⟨u1,hu1⟩:=Option.isSome_iff_exists.1 t1.1
  refine⟨⟨u1,hu1⟩,t1.2,fun w4 hw4 w8 hw8=> ?_⟩
  have hw4':w4=cZ w9 p6 [iv (fd g a)]:=by rw[hw4];simp[cZ,dL,add0]
  obtain⟨E',s3,hh⟩:=aK6 (us:=[iv (fd g a)]) (vs:=[iv (fd g b)]) E s2 s1 hne.symm q2 q1 hw4' hw8
  have t3:=s3 0 (show 0<1 by decide)
  rw[add0] at t3
  obtain⟨u3,hu3⟩:=Option.isSome_iff_exists.1 t3.1
  refine⟨⟨u3,hu3⟩,t3.2,fun w5 hw5 w6 hw6=> ?_⟩
  obtain⟨E6,k1,k2⟩:=hh w5 (by rw[hw5];simp[cZ,dL,add0]) w6 hw6
  exact fin p6 p5 w6 E6 (by simpa [add0] using k1 0 _ rfl) (by simpa [add0] using k2 0 _ rfl)
theorem aOk (h:dF B0 w p U M N A n c H g) (k:Known g) (a b:Int):
  Calls P F.Aj #[.pointer (some p),iv a,iv b] w (cO fun v w'=>∃(r:Bool) (e:Int),v= .tuple #[.bool r,iv e]/\((¬There g a b/\r=false/\e=80)\/(There g a b/\e=0/\(r=true↔∃s∈g.stand,Tj g (fd g a) (fd g b) s)))/\Ext w w'):=by
 refine aB8 p a b (fun r e w'=>((¬There g a b/\r=false/\e=80)\/(There g a b/\e=0/\(r=true↔∃s∈g.stand,Tj g (fd g a) (fd g b) s)))/\Ext w w') w ?_
 unfold Ig
 refine(Uf h a b).mono ?_
 rintro _ w1 ⟨_,rfl,r,rfl,hr,rfl⟩
 refine⟨_,rfl,r,rfl,fun hn=>⟨.inl ⟨fun ht=> ?_,rfl,rfl⟩,Ext.refl _⟩,fun hn=> ?_⟩
 ·rw[hr.2 ht] at hn;cases hn
 have ht:=hr.1 (by cases r<;>simp at hn⊢)
 refine(aDm h k ht).mono ?_
 rintro _ w2 ⟨v,rfl,x,rfl,hx,E2⟩
 refine⟨_,rfl,x,rfl,.inr ⟨ht,rfl,?_⟩,E2⟩
 rw[decide_eq_true_iff]
 rcases hx with⟨rfl,hr⟩|⟨h0,s,hs,hq,_⟩
 ·exact⟨fun e=>absurd e (by decide),fun⟨s,hs,hq⟩=>absurd hq (hr s hs)⟩
 ·exact⟨fun _=>⟨s,List.mem_of_getElem? hs,hq⟩,fun _=>h0⟩
end
theorem aAr {P:Program} {w:World} {t e:TypeId} {s by_ n:Nat} (ht:iV P t=some e) (hi:wP P e=some (s,by_,s)) (hb:by_*n<=281474976710656) (hn:n<=1099511627776):
  ∃w' vs,(Instr.makeSlice t (iv (n:Int)) (iv (n:Int))).run P w= .ok (.slice (some ⟨w.heap.size,0,none⟩) n n) w'/\Own w' w.heap.size e s (some ⟨w.heap.size,0,none⟩) n n vs/\Ext w w'/\(∀i,(P.info? e)=some i->∀z,i.zero=some z->vs=(madeCells z.cells (n*s)).toList):=by
 unfold wP at hi
 obtain⟨i,hi1,hi2⟩:=Option.bind_eq_some_iff.1 hi
 obtain⟨z,hz,hq⟩:=Option.map_eq_some_iff.1 hi2
 injection hq with q1 q2
 injection q2 with q2 q3
 obtain⟨w',hr,ho,hg⟩:=run_make_full w w.heap.size t e i z s (lW ht) hi1 hz q1 .i64 .i64 n (by rw[q2];exact hb) (by simp only[maxLen];omega) (Nat.le_refl _)
 refine⟨w',_,hr,ho,⟨hg.size,hg.os,hg.tape,hg.output,fun b hb _=>hg.block b hb (by simp)⟩,fun j hj y hy=> ?_⟩
 rw[hi1] at hj
 cases hj
 rw[hz] at hy
 cases hy
 rfl
def Ij (g:GS):List Int:=(List.range g.nodes.length).map fun(i:Nat)=>g.least.getD (fd g (i:Int)).toNat 0
section
variable {B0:Nat} {w w' w0:World} {p U:Addr} {M N:Nat} {A:Nat->Option Addr} {n c:Nat->Nat} {H:Nat->Prop} {g:GS}
theorem aNx (h:dF B0 w p U M N A n c H g) (k:Known g) (hs:Sm g.nodes.length) (hl:∀x:Int,0<=x->x<g.nodes.length->0<=fd g x/\∃r,g.least[(fd g x).toNat]? =some r):
  Calls P F.Ak #[.pointer (some p)] w (cO fun v w'=>∃B d,v= .slice B g.nodes.length d/\Own w' w.heap.size T.int 1 B g.nodes.length d ((Ij g).map iv)/\Ext w w'):=by
 have e4:=h.n4
 refine cO.mono (aBy p (fun B m d w'=>m=g.nodes.length/\Own w' w.heap.size T.int 1 B m d ((Ij g).map iv)/\Ext w w') w ?_) (by rintro _ w' ⟨B,m,d,rfl,rfl,hO,hE⟩;exact⟨B,d,rfl,hO,hE⟩)
 have hs':=hs
 unfold Sm at hs'
 obtain⟨w1,vs,hr,hO,E1,_⟩:=aAr (P:=P) (w:=w) (t:=T.bH) (e:=T.int) (s:=1) (by_:=8) (n:=g.nodes.length) (by kernel_rfl) (by kernel_rfl) (by omega) (by omega)
 have hvl:=hO.1
 unfold Ia
 have hc4:w.cell? (p.add 4)=some (.slice (A 4) (n 4) (c 4)):=h.cell (show 4<9 by omega)
 refine⟨_,_,_,hc4,some ⟨w.heap.size,0,none⟩,g.nodes.length,g.nodes.length,w1,by rw[<-e4];exact hr,?_⟩
 have hrl:(Ij g).length=g.nodes.length:=by simp[Ij]
 refine⟨fun q i w2=>q=g.nodes.length-i.toNat/\0<=i/\i<=g.nodes.length/\Ext w w2/\Own w2 w.heap.size T.int 1 (some ⟨w.heap.size,0,none⟩) g.nodes.length g.nodes.length (((Ij g).take i.toNat).map iv++vs.drop i.toNat),⟨g.nodes.length,by simp,by omega,by omega,E1,by simpa using hO⟩,?_⟩
 rintro q i w2 ⟨rfl,i0,i1,E2,hO2⟩
 refine⟨fun hlt=> ?_,fun hge=> ?_⟩
 ·have h2:=h.stay E2
  obtain⟨f0,r,hr⟩:=hl i i0 hlt
  obtain⟨u1,u2,_,a,hA,u3,u4⟩:=h2.num (k:=3) (by decide) rfl f0 hr
  rw[add0]
  refine⟨_,_,_,u1,fd g i,fun w' hw'=>Xv (h2.stay (Ext.aK hw')) k i0 hlt,f0,u2,a,hA,r,u3,i0,hlt,_,rfl,fun w5 hw5=> ?_⟩
  have hO5:=hO2.keep (Ext.aK hw5) (fun _ _ h=>h)
  obtain⟨a2,v,ha2,hv,hc5,hf5⟩:=hO5.row.get i0 hlt
  cases ha2
  refine⟨⟨_,hc5⟩,hf5,fun w3 hw3 w4 hw4=> ?_⟩
  rw[gI i0 hlt hs]
  have hk3:=jE hw3
  have hK:Keep (fun b=>b=w.heap.size) w5 w3:=hk3.mono fun b _ hb=>by rw[hb,Addr.add_block]
  have E4:Ext w w4:=((E2.drawn hw5).over hK fun b hb hx=>by omega).drawn hw4
  refine⟨g.nodes.length-(i+1).toNat,by omega,rfl,by omega,by omega,E4,?_⟩
  have hset:Own w3 w.heap.size T.int 1 (some ⟨w.heap.size,0,none⟩) g.nodes.length g.nodes.length ((((Ij g).take i.toNat).map iv++vs.drop i.toNat).set i.toNat (iv r)):=by
   refine hO5.set1 rfl (by omega) (j:=i.toNat) (by rw[hw3,Nat.mul_one])
  have e1:(((Ij g).take i.toNat).map iv++vs.drop i.toNat).set i.toNat (iv r)=((Ij g).take (i+1).toNat).map iv++vs.drop (i+1).toNat:=by
   have hrr:(Ij g)[i.toNat]? =some r:=by
    simp only[Ij,List.getElem?_map]
    rw[List.getElem?_range (by omega)]
    simp only[Option.map_some]
    rw[show((i.toNat:Nat):Int)=i by omega,List.getD_eq_getElem?_getD,hr]
    rfl
   rw[show(i+1).toNat=i.toNat+1 by omega,List.take_add_one,hrr]
   have hlt':i.toNat<vs.length:=by omega
   rw[List.set_append_right _ _ (by simp;omega)]
   simp only[List.length_map,List.length_take]
   rw[show i.toNat-min i.toNat (Ij g).length=0 by omega,List.drop_eq_getElem_cons hlt',List.set_cons_zero]
   simp
  rw[e1] at hset
  exact hset.keep (Ext.aK hw4) (fun _ _ h=>h)
 ·have hi:i.toNat=g.nodes.length:=by omega
  rw[hi,List.take_of_length_le (by omega),List.drop_of_length_le (by omega),List.append_nil] at hO2
  exact⟨rfl,hO2,E2⟩
end
def aJw (why:List Edge):Nat->Int->List Int
 |0,a=>[a]
 |f+1,a=>a::if 0<=(aW why a).to then aJw why f (aW why a).to else []
def pathOf (g:GS) (a:Int):List Int:=aJw g.why g.nodes.length a
def ringAt (g:GS) (a:Int):Int:=g.ring.getD a.toNat 0
def aI7 (g:GS) (s:Int):Nat->Int->List Int
 |0,_=>[]
 |f+1,x=>if x=s then [] else x::aI7 g s f (ringAt g x)
def vN (g:GS) (s:Int):List Int:=s::aI7 g s g.nodes.length (ringAt g s)
def gV (g:GS) (r:Int):Int:=g.size.getD r.toNat 0
def gQ (g:GS) (r:Int):Int:=g.least.getD r.toNat 0
def dG (g:GS) (r:Int):List Int:=g.uses.getD r.toNat []
def nodeAt (g:GS) (p:Int):Flat:=g.nodes.getD p.toNat ⟨-1,[]⟩
def fC (g:GS) (p:Int):ByteArray:=aI4 (nodeAt g p).fn ((nodeAt g p).args.map (fd g))
def dD:GS->List Int->GS×List Edge
 |g,[]=>(g,[])
 |g,p::ps=>
  let g':=gG g (fC g p) p
  let r:=dD g' ps
  match fQ g.sigs (fC g p) with
  |some q=>(r.1,(if fd g q≠fd g p then [⟨0,true,p,q,0⟩] else [])++r.2)
  |none=>r
def iJ (g:GS) (a b:Int) (e:Edge):GS:=
 let g1:GS:={g with why:=(uP g.why (pathOf g a) ((pathOf g a).length-1)).set a.toNat {e with to:=b}}
 {g1 with changes:=g1.changes++[⟨.empty,true,fd g a,fd g b,a,b,gQ g (fd g b),(dG g (fd g b)).length⟩]}
def oQ (g:GS) (s r:Int):GS×List Edge:=
 let g3:=Ub g s r (vN g s) (ringAt g s) (ringAt g r) (gV g s) (gV g r) (gQ g s) (gQ g r)
 let x:=dD g3 (dG g s)
 ({x.1 with uses:=x.1.uses.set r.toNat (dG g r++dG g s)},x.2)
def rM (g:GS) (e:Edge):GS×List Edge:=
 if gV g (fd g e.b)<gV g (fd g e.a) then oQ (iJ g e.b e.a e) (fd g e.b) (fd g e.a) else oQ (iJ g e.a e.b e) (fd g e.a) (fd g e.b)
theorem aBn:iV P T.bH=some T.int:=by kernel_rfl
theorem aBl:wP P T.int=some (1,8,1):=by kernel_rfl
section
variable {B0:Nat} {w w' w0:World} {p U:Addr} {M N:Nat} {A:Nat->Option Addr} {n c:Nat->Nat} {H:Nat->Prop} {g:GS}
theorem aNl (i:Nat):gty (9+i)=T.int:=by rw[Nat.add_comm];rfl
theorem aH9 (i:Nat):gsz (9+i)=1:=by rw[Nat.add_comm];rfl
theorem aJm (g:GS) (i:Nat):g.vals (9+i)=(g.uses.getD i []).map iv:=by rw[Nat.add_comm];rfl
theorem aA7 (g:GS) (r:Nat) (hr:r<g.uses.length) (l:List Int) (us:List Value) (h:us=l.map iv):∀i,upd g.vals (9+r) us i=({g with uses:=g.uses.set r l}:GS).vals i:=by
 intro i
 subst h
 match i with
 |0=>exact upd_ne _ _ (by omega)
 |1=>exact upd_ne _ _ (by omega)
 |2=>exact upd_ne _ _ (by omega)
 |3=>exact upd_ne _ _ (by omega)
 |4=>exact upd_ne _ _ (by omega)
 |5=>exact upd_ne _ _ (by omega)
 |6=>exact upd_ne _ _ (by omega)
 |7=>exact upd_ne _ _ (by omega)
 |8=>exact upd_ne _ _ (by omega)
 |i+9=>
  by_cases hi:i=r
  ·subst hi
   rw[show 9+i=i+9 by omega,upd_same]
   show _=List.map iv ((g.uses.set i l).getD i [])
   rw[List.getD_eq_getElem?_getD,List.getElem?_set_self hr]
   rfl
  ·rw[upd_ne _ _ (by omega)]
   show List.map iv (g.uses.getD i [])=List.map iv ((g.uses.set r l).getD i [])
   rw[List.getD_eq_getElem?_getD,List.getD_eq_getElem?_getD,List.getElem?_set_ne (fun q=>hi q.symm)]
theorem dF.useRow (h:dF B0 w p U M N A n c H g) {i:Nat} (hi:i<N):Row w B0 T.int 1 (A (9+i)) (n (9+i)) (c (9+i)) ((g.uses.getD i []).map iv):=by
 have:=h.yK.row (9+i) (show 9+i<9+N by omega)
 rw[<-aJm]
 have e1:(kF p U N).ty (9+i)=T.int:=aNl i
 have e2:(kF p U N).sz (9+i)=1:=aH9 i
 rw[e1,e2] at this
 exact this
theorem aNr (h:dF B0 w p U M N A n c H g) {s r:Int} (s0:0<=s) (r0:0<=r) (s1:s.toNat<N) (r1:r.toNat<N) (hN:g.uses.length=N) (hsr:s≠r) (hlen:(dG g r).length+(dG g s).length<=1099511627776) {K:World->Prop}
  (hK:∀w' A' n' c' H',dF B0 w' p U M N A' n' c' H' {g with uses:=g.uses.set r.toNat (dG g r++dG g s)}->dU H w H' w'->(∀b,H b->H' b)->(∀b,b<w.heap.size->FX (kF p U N) A' b->FX (kF p U N) A b)->K w'):
  ∃X1:Nat->Prop,∃A15:Option Addr,∃n15:Nat,∃c15:Nat,w.cell? (p.add 5)=some (.slice A15 n15 c15)/\¬X1 (p.add 5).block/\∃A16:Option Addr,∃n16:Nat,∃c16:Nat,w.cell? (p.add 5)=some (.slice A16 n16 c16)/\0<=r/\r<(n16:Int)/\∃a9,A16=some a9/\∃A17:Option Addr,∃n17:Nat,∃c17:Nat,w.cell? (a9.add (r.toNat*1))=some (.slice A17 n17 c17)/\∃A18:Option Addr,∃n18:Nat,∃c18:Nat,w.cell? (p.add 5)=some (.slice A18 n18 c18)/\0<=s/\s<(n18:Int)/\∃a10,A18=some a10/\∃A19:Option Addr,∃n19:Nat,∃c19:Nat,w.cell? (a10.add (s.toNat*1))=some (.slice A19 n19 c19)/\∀w36,Wk.aO w w36->∃(A20:Option Addr) (n20 c20:Nat) (w32:World),(Builtin.append_ #[T.bH,T.bH] T.bH #[.slice A17 n17 c17,.slice A19 n19 c19]).run P w36= .ok (.slice A20 n20 c20) w32/\(Wk.Keep X1 w w32/\(0<=r/\r<(n15:Int)/\∃a11,A15=some a11/\∀w35,Wk.aO w32 w35->(∃u3,w35.cell? (a11.add (r.toNat*1))=some u3)/\w35.frozen? (a11.add (r.toNat*1))=false/\∀w33,w33=w35.setCell (a11.add (r.toNat*1)) (.slice A20 n20 c20)->(∀w34,Wk.aO w33 w34->K w34))):=by
 obtain⟨cU,hcU⟩:=h.ucell
 have hr:=h.useRow r1
 have hs:=h.useRow s1
 have er:(g.uses.getD r.toNat []).length=n (9+r.toNat):=by have:=hr.1;simpa using this
 have es:(g.uses.getD s.toNat []).length=n (9+s.toNat):=by have:=hs.1;simpa using this
 unfold dG at hlen hK
 have k1:9+r.toNat<9+N:=by omega
 refine⟨At (A (9+r.toNat)),some U,N,cU,hcU,?_,some U,N,cU,hcU,r0,by omega,U,rfl,_,_,_,h.Zw r1,some U,N,cU,hcU,s0,by omega,U,rfl,_,_,_,h.Zw s1,fun w36 hw36=> ?_⟩
 ·rw[Addr.add_block]
  exact fun hb=>h.yK.seph (9+r.toNat) k1 _ hb (.inl rfl)
 have h36:=h.stay (Ext.aK hw36)
 have hs36:=h36.useRow s1
 rcases hA:A (9+s.toNat) with _|a
 ·--nothing is there
  rw[hA] at hs36
  have hn0:n (9+s.toNat)=0/\c (9+s.toNat)=0:=by
   rcases hs36.2 with⟨_,q1,q2⟩|⟨_,_,_,q,_⟩
   ·exact⟨q1,q2⟩
   ·cases q
  rw[hn0.1,hn0.2]
  refine⟨_,_,_,w36,aEg (P:=P) (t:=T.bH) (ty:=T.bH) (h36.useRow r1) aBn aBl,Keep.aK hw36,r0,by omega,U,rfl,fun w35 hw35=> ?_⟩
  have h35:=h36.stay (Ext.aK hw35)
  refine⟨⟨_,h35.Zw r1⟩,by have:=h35.yK.froz _ k1;rwa [h35.aNv] at this,fun w33 hw33 w34 hw34=> ?_⟩
  obtain⟨H',g',adv',sub'⟩:=h35.cut (w':=w33) (k:=9+r.toNat) k1 (m:=n (9+r.toNat)) (d:=c (9+r.toNat)) (Nat.le_refl _) hr.le (Nat.le_refl _) (by rw[h35.aNv];exact hw33)
   (g':={g with uses:=g.uses.set r.toNat (g.uses.getD r.toNat []++g.uses.getD s.toNat [])}) (fun i _=>aA7 g r.toNat (by omega) _ _ (by
    rw[aH9,Nat.mul_one,aJm,<-er]
    rw[hn0.1] at es
    rw[List.length_eq_zero_iff.1 es,List.append_nil,List.take_of_length_le (by simp)]) i) ⟨rfl,rfl,rfl⟩
  exact hK w34 _ _ _ H' (g'.stay (Ext.aK hw34)) (((dU.aK hw36).trans (dU.aK hw35)).trans (adv'.trans (dU.aK hw34))) sub' (fun _ _ h=>h)
 ·have hc36:bG w36 a ((g.uses.getD s.toNat []).map iv):=by
   rcases hs36.cells with h0|⟨a',ha',hc⟩
   ·rw[h0];exact Wk.bG.nil
   ·rw[hA] at ha';cases ha';exact hc
  obtain⟨A',c',w32,hrun,hk32,hh⟩:=h36.append (c2:=c (9+s.toNat)) (k:=9+r.toNat) k1 (t:=T.bH) (m:=n (9+s.toNat)) (by rw[aNl];exact aBn) (by rw[aNl,aH9];exact aBl) (by rw[aH9];decide) (news:=(g.uses.getD s.toNat []).map iv) (by rw[aH9];simpa using es) hc36 (by intro u hu;obtain⟨x,_,rfl⟩:=List.mem_map.1 hu;rfl) (by omega) (by omega)
   (g':={g with uses:=g.uses.set r.toNat (g.uses.getD r.toNat []++g.uses.getD s.toNat [])}) (fun i _=>aA7 g r.toNat (by omega) _ _ (by rw[aJm,List.map_append]) i) ⟨rfl,rfl,rfl⟩
  refine⟨A',_,c',w32,hrun,(Keep.aK hw36).trans hk32,r0,by omega,U,rfl,fun w35 hw35=> ?_⟩
  obtain⟨q1,q2,q3⟩:=hh w35 (Ext.aK hw35)
  rw[h36.aNv] at q1 q2 q3
  refine⟨q1,q2,fun w33 hw33 w34 hw34=> ?_⟩
  obtain⟨H',g',adv',sub',gr'⟩:=q3 w33 hw33
  exact hK w34 _ _ _ H' (g'.stay (Ext.aK hw34)) ((dU.aK hw36).trans (adv'.trans (dU.aK hw34))) sub' (fun b hb hh=>gr' b (by rw[hw36.heap];exact hb) hh)
end
theorem aIe {α:Type} (f:Nat->α) (k:Nat) (x y:α):upd (upd f k x) k y=upd f k y:=by funext j;unfold upd;split<;>rfl
structure Fit (g:GS):Prop where
 few:g.nodes.length<=1048576
 lfirst:g.first.length=g.nodes.length
 sound:Sound g.nodes
 fn64:∀x∈g.nodes,I64 x.fn
 rng:∀x:Int,0<=x->x<g.nodes.length->0<=fd g x/\fd g x<g.nodes.length
 sigs:∀s q,fQ g.sigs s=some q->0<=q/\q<g.nodes.length
theorem Jf (g:GS) (s:ByteArray) (i:Int):(gG g s i).nodes=g.nodes/\(gG g s i).first=g.first/\(gG g s i).uses=g.uses:=by
 unfold gG
 split<;>exact⟨rfl,rfl,rfl⟩
theorem tX {α β:Type} [DecidableEq α] (l:List (α×β)) (k k':α) (v:β):fQ (Dj l k v) k'=if k=k' then some v else fQ l k':=by
 induction l with
 |nil=>
  by_cases h:k=k'
  ·simp[Dj,fQ,h]
  ·simp[Dj,fQ,h]
 |cons x l ih=>
  by_cases hx:x.1=k
  ·by_cases h:k=k'
   ·simp[Dj,fQ,hx,h]
   ·have:¬x.1=k':=fun q=>h (hx.symm.trans q)
    simp[Dj,fQ,hx,h,this]
  ·by_cases h:x.1=k'
   ·have:¬k=k':=fun q=>hx (h.trans q.symm)
    have t2:¬k'=k:=fun q=>this q.symm
    simp[Dj,fQ,hx,h,this,t2]
   ·have e1:fQ (Dj (x::l) k v) k'=fQ (Dj l k v) k':=by simp[Dj,fQ,hx,h]
    have e2:fQ (x::l) k'=fQ l k':=by simp[fQ,h]
    rw[e1,e2,ih]
theorem Yj {g g':GS} (h:g'.first=g.first) (x:Int):fd g' x=fd g x:=by unfold fd;rw[h]
theorem Fit.enter {g:GS} (h:Fit g) (s:ByteArray) {i:Int} (i0:0<=i) (i1:i<g.nodes.length):Fit (gG g s i):=by
 obtain⟨e1,e2,_⟩:=Jf g s i
 refine⟨by rw[e1];exact h.few,by rw[e1,e2];exact h.lfirst,by rw[e1];exact h.sound,by rw[e1];exact h.fn64,?_,?_⟩
 ·intro x x0 x1
  rw[Yj e2,e1]
  rw[e1] at x1
  exact h.rng x x0 x1
 ·intro t q hq
  rw[e1]
  unfold gG at hq
  split at hq
  ·exact h.sigs t q hq
  ·rw[tX] at hq
   split at hq
   ·cases hq;exact⟨i0,i1⟩
   ·exact h.sigs t q hq
section
variable {B0:Nat} {w w' w0:World} {p U:Addr} {M N:Nat} {A:Nat->Option Addr} {n c:Nat->Nat} {H:Nat->Prop} {g:GS}
theorem aLo {g:GS} (hl:g.first.length=g.nodes.length) {x:Int} (h0:0<=x) (h1:x<g.nodes.length):g.first[x.toNat]? =some (fd g x):=by
 unfold fd
 rw[List.getD_eq_getElem?_getD,List.getElem?_eq_getElem (by omega)]
 rfl
theorem aHf (h:dF B0 w p U M N A n c H g) (k:Fit g) {i:Int} (h0:0<=i) (h1:i<g.nodes.length):Calls P F.Bc #[.pointer (some p),iv i] w (cO fun v w'=>v= .string (fC g i)/\Ext w w'):=by
 have hx:g.nodes[i.toNat]? =some (nodeAt g i):=by
  unfold nodeAt
  rw[List.getD_eq_getElem?_getD,List.getElem?_eq_getElem (by omega)]
  rfl
 have hmem:=List.mem_of_getElem? hx
 have few:=k.few
 have harg:∀(j:Nat) a,(nodeAt g i).args[j]? =some a->0<=a/\a<g.nodes.length:=fun j a ha=>by
  have:=k.sound i.toNat _ hx j a ha
  omega
 refine aQ5 h h0 hx (k.fn64 _ hmem) (fun a ha=> ?_) (by simp) (fun j a ha=> ?_) (fun r hr=> ?_)
 ·obtain⟨j,hj⟩:=List.mem_iff_getElem?.1 ha
  exact(harg j a hj).1
 ·obtain⟨a0,a1⟩:=harg j a ha
  exact⟨fd g a,by simp[ha],aLo k.lfirst a0 a1⟩
 ·obtain⟨a,ha,rfl⟩:=List.mem_map.1 hr
  obtain⟨j,hj⟩:=List.mem_iff_getElem?.1 ha
  obtain⟨a0,a1⟩:=harg j a hj
  have:=k.rng a a0 a1
  exact⟨by omega,by omega⟩
theorem aJx (h:dF B0 w p U M N A n c H g) (k:Fit g) {a:Int} (h0:0<=a) (h1:a<g.nodes.length):Quiet P F.bV #[.pointer (some p),iv a] w (iv (fd g a)):=
 tC h h0 (aLo k.lfirst h0 h1)
structure sF (w:World) (p U:Addr) (M N:Nat) (A:Nat->Option Addr) (H:Nat->Prop) (Bw:Nat) (C:Option Addr) (m d:Nat) (l:List Edge):Prop where
 row:Row w Bw T.jG 5 C m d (l.flatMap Edge.vals)
 inH:∀b,At C b->H b
 out:∀b,At C b->¬FX (kF p U N) A b/\b≠M
theorem aP9:wP P T.jG=some (5,40,5):=by kernel_rfl
theorem aPx:iV P T.jR=some T.jG:=by kernel_rfl
theorem sF.iI {Bw:Nat} {C:Option Addr} {m d:Nat} {l:List Edge} {A':Nat->Option Addr} {H':Nat->Prop} {X:Nat->Prop} (h:sF w p U M N A H Bw C m d l) (k:Keep X w w') (hX:∀b,At C b->¬X b) (hs:∀b,H b->H' b) (hg:∀b,b<w.heap.size->FX (kF p U N) A' b->FX (kF p U N) A b):sF w' p U M N A' H' Bw C m d l:=
 ⟨h.row.keep k hX,fun b hb=>hs b (h.inH b hb),fun b hb=>⟨fun hh=>(h.out b hb).1 (hg b (h.row.at hb).2 hh),(h.out b hb).2⟩⟩
theorem aMd (h:dF B0 w p U M N A n c H g) {Bw:Nat} {C:Option Addr} {m d:Nat} {l:List Edge} (hw:sF w p U M N A H Bw C m d l) (hB0:B0<=Bw) (hBw:Bw<=w.heap.size) {e:Edge} {q:Addr} (hc:bG w q e.vals) (hm:m+1<=1099511627776):
  ∃C' d' w',(Builtin.append_ #[T.jR,T.jR] T.jR #[.slice C m d,.slice (some q) 1 1]).run P w= .ok (.slice C' (m+1) d') w'/\∃H',dF B0 w' p U M N A n c H' g/\sF w' p U M N A H' Bw C' (m+1) d' (l++[e])/\dU H w H' w'/\∀b,H b->H' b:=by
 obtain⟨C',d',w',hr,hR,hK,hC'⟩:=hw.row.append (m:=1) (c2:=1) (ty:=T.jR) aPx aP9 (by decide) (news:=e.vals) rfl hc (by intro u hu;simp[Edge.vals] at hu;rcases hu with rfl|rfl|rfl|rfl|rfl<;>rfl) (by omega) (by omega) hBw
 obtain⟨g1,adv1⟩:=h.write hK (fun b _ hb=>⟨hw.inH b hb,(hw.out b hb).1,(hw.out b hb).2⟩)
 have less:dU H w' (fun b=>H b\/At C' b) w'\/True:= .inr trivial
 have advH:dU H w (fun b=>H b\/At C' b) w':=⟨adv1.keep,fun i hi hh=>hh.elim id fun hh=>by
  rcases hC' i hh with q|q
  ·exact hw.inH i q
  ·omega⟩
 refine⟨C',d',w',hr,fun b=>H b\/At C' b,⟨g1.yK,g1.ucell,g1.mcell,g1.map,g1.mno,h.nad,h.nd.iI advH.low,fun b hb=> .inl (h.sub b hb),.inl h.subM,?_,h.pU,g1.tab⟩,⟨by simpa using hR,fun b hb=> .inr hb,fun b hb=> ?_⟩,advH,fun b hb=> .inl hb⟩
 ·rintro b (hb|hb)
  ·exact g1.lo b hb
  ·have:=hR.at hb
   omega
 ·rcases hC' b hb with q|q
  ·exact hw.out b q
  ·refine⟨fun hh=> ?_,fun hh=> ?_⟩
   ·have:=(h.yK.fx hh).2
    omega
   ·have:=h.map.lt
    omega
end
theorem Oq:∀(ps:List Int) (g:GS),(dD g ps).1.nodes=g.nodes/\(dD g ps).1.first=g.first/\(dD g ps).1.uses=g.uses
 |[],g=>⟨rfl,rfl,rfl⟩
 |p::ps,g=>by
  obtain⟨e1,e2,e3⟩:=Jf g (fC g p) p
  obtain⟨f1,f2,f3⟩:=Oq ps (gG g (fC g p) p)
  unfold dD
  simp only
  split<;>exact⟨f1.trans e1,f2.trans e2,f3.trans e3⟩
theorem aBs (p:Int):∀(ps:List Int) (g:GS),dD g (ps++[p])=(gG (dD g ps).1 (fC (dD g ps).1 p) p,(dD g ps).2++(match fQ (dD g ps).1.sigs (fC (dD g ps).1 p) with|some q=>if fd g q≠fd g p then [⟨0,true,p,q,0⟩] else []|none=>[]))
 |[],g=>by
  simp only[List.nil_append,dD]
  cases fQ g.sigs (fC g p)<;>simp
 |x::ps,g=>by
  have ih:=aBs p ps (gG g (fC g x) x)
  have e2:=(Jf g (fC g x) x).2.1
  have hfd:∀y,fd (gG g (fC g x) x) y=fd g y:=fun y=>Yj e2 y
  simp only[hfd] at ih
  simp only[List.cons_append,dD]
  rw[ih]
  cases fQ g.sigs (fC g x)<;>simp
theorem aC5:∀(ps:List Int) (g:GS),Fit g->(∀q∈ps,0<=q/\q<g.nodes.length)->Fit (dD g ps).1
 |[],g,h,_=>h
 |p::ps,g,h,hp=>by
  obtain⟨p0,p1⟩:=hp p (by simp)
  have h1:=h.enter (fC g p) p0 p1
  have h2:=aC5 ps _ h1 (fun q hq=>by rw[(Jf g (fC g p) p).1];exact hp q (List.mem_cons_of_mem _ hq))
  unfold dD
  simp only
  split<;>exact h2
theorem Yq:∀(ps:List Int) (g:GS),(dD g ps).1.changes.length<=g.changes.length+ps.length
 |[],g=>by simp[dD]
 |p::ps,g=>by
  have h1:=Yq ps (gG g (fC g p) p)
  have h2:(gG g (fC g p) p).changes.length<=g.changes.length+1:=by unfold gG;split<;>simp
  unfold dD
  simp only
  split<;>(simp only[List.length_cons];omega)
theorem Zq:∀(ps:List Int) (g:GS),(dD g ps).2.length<=ps.length
 |[],g=>by simp[dD]
 |p::ps,g=>by
  have h1:=Zq ps (gG g (fC g p) p)
  unfold dD
  simp only
  split
  ·simp only[List.length_append,List.length_cons]
   split<;>simp<;>omega
  ·simp only[List.length_cons];omega
section
variable {B0:Nat} {w w' w0:World} {p U:Addr} {M N:Nat} {A:Nat->Option Addr} {n c:Nat->Nat} {H:Nat->Prop} {g:GS}
def GX (p U:Addr) (M N:Nat) (A:Nat->Option Addr) (b:Nat):Prop:=FX (kF p U N) A b\/b=M
theorem dF.min (h:dF B0 w p U M N A n c H g):dF B0 w p U M N A n c (GX p U M N A) g:=by
 have hs:∀b,GX p U M N A b->H b:=fun b hb=>hb.elim (h.sub b) fun e=>by rw[e];exact h.subM
 exact⟨h.yK,h.ucell,h.mcell,h.map,h.mno,h.nad,fun w' hw=>h.nd w' (hw.mono fun i _ hi=>hi.imp id (hs i)),fun b hb=> .inl hb,.inr rfl,fun b hb=>h.lo b (hs b hb),h.pU,h.tab⟩
theorem dF.lift {A':Nat->Option Addr} {n' c':Nat->Nat} {H':Nat->Prop} {g':GS} (h:dF B0 w p U M N A n c H g) (h':dF B0 w' p U M N A' n' c' H' g') (a:dU (GX p U M N A) w H' w') (hg:g'.nvals=g.nvals/\g'.nodes=g.nodes):
  dF B0 w' p U M N A' n' c' (fun b=>H b\/H' b) g'/\dU H w (fun b=>H b\/H' b) w'/\Keep (GX p U M N A) w w'/\∀b,b<w.heap.size->FX (kF p U N) A' b->FX (kF p U N) A b:=by
 have hs:∀b,GX p U M N A b->H b:=fun b hb=>hb.elim (h.sub b) fun e=>by rw[e];exact h.subM
 have iI:dU H w (fun b=>H b\/H' b) w':=⟨a.keep.mono fun i _ hi=>hs i hi,fun i hi hh=>hh.elim id fun hh=>hs i (a.grow i hi hh)⟩
 refine⟨⟨h'.yK,h'.ucell,h'.mcell,h'.map,h'.mno,h'.nad,?_,fun b hb=> .inr (h'.sub b hb),.inl h.subM,?_,h'.pU,h'.tab⟩,iI,a.keep,fun b hb hh=> ?_⟩
 ·rw[hg.1,hg.2];exact h.nd.iI iI.low
 ·rintro b (hb|hb)
  ·exact⟨(h.lo b hb).1,Nat.lt_of_lt_of_le (h.lo b hb).2 a.keep.size⟩
  ·exact h'.lo b hb
 ·rcases a.grow b hb (h'.sub b hh) with q|q
  ·exact q
  ·exact absurd (by rw[<-q];exact hh) h'.mno
theorem aMl (g:GS) (s:ByteArray) (i:Int):(gG g s i).nvals=g.nvals/\(gG g s i).nodes=g.nodes:=by
 unfold gG
 split<;>exact⟨rfl,rfl⟩
def aJl (B0:Nat) (w:World) (p U:Addr) (M N:Nat) (A:Nat->Option Addr) (n c:Nat->Nat) (H:Nat->Prop) (g:GS) (ps:List Int) (Bw:Nat) (l:List Edge) (q:Nat) (C':Option Addr) (m' d':Nat) (i:Int) (w':World):Prop:=
 q=ps.length-i.toNat/\0<=i/\i<=ps.length/\∃A7 n7 c7 H',dF B0 w' p U M N (upd A 7 A7) (upd n 7 n7) (upd c 7 c7) H' (dD g (ps.take i.toNat)).1/\sF w' p U M N (upd A 7 A7) H' Bw C' m' d' (l++(dD g (ps.take i.toNat)).2)/\dU H w H' w'/\(∀b,H b->H' b)/\(∀b,b<w.heap.size->FX (kF p U N) (upd A 7 A7) b->FX (kF p U N) A b)
theorem aKa {ps:List Int} (h:dF B0 w p U M N A n c H g) (k:Fit g) (hps:∀q∈ps,0<=q/\q<g.nodes.length) {s:Nat} (hs:s<N) (hu:g.uses.getD s []=ps) (hch:g.changes.length+ps.length+1<=1099511627776)
  {Bw:Nat} {C:Option Addr} {m d:Nat} {l:List Edge} (hw:sF w p U M N A H Bw C m d l) (hB0:B0<=Bw) (hBw:Bw<=w.heap.size) (hl:l.length+ps.length+1<=1099511627776) {T:Option Addr->Nat->Nat->World->Prop}
  (hT:∀w' A7 n7 c7 H' C' m' d',dF B0 w' p U M N (upd A 7 A7) (upd n 7 n7) (upd c 7 c7) H' (dD g ps).1->sF w' p U M N (upd A 7 A7) H' Bw C' m' d' (l++(dD g ps).2)->dU H w H' w'->(∀b,H b->H' b)->(∀b,b<w.heap.size->FX (kF p U N) (upd A 7 A7) b->FX (kF p U N) A b)->T C' m' d' w'):
  ∃I2:Nat->Option Addr->Nat->Nat->Int->World->Prop,(∃k3,I2 k3 C m d 0 w)/\∀k3 (A12:Option Addr) (n12:Nat) (c12:Nat) (x30:Int) (w24:World),I2 k3 A12 n12 c12 x30 w24->((x30<(n (9+s):Int)->(0<=x30/\x30<(n (9+s):Int)/\∃a8,A (9+s)=some a8/\∃x31:Int,w24.cell? (a8.add (x30.toNat*1))=some (iv x31)/\Calls P F.uK #[.pointer (some p),iv x31] w24 (Wk.cO fun v3 w25=>∃x32:Int,∃b5:Bool,v3=(.tuple #[iv x32,.bool b5])/\((!b5)=true->(∃x33:Int,(∀w',Wk.aO w25 w'->Calls P F.bV #[.pointer (some (p.add 0)),iv x32] w' fun x w''=>x= .returned (iv x33)/\Wk.aO w' w'')/\∃x34:Int,(∀w',Wk.aO w25 w'->Calls P F.bV #[.pointer (some (p.add 0)),iv x31] w' fun x w''=>x= .returned (iv x34)/\Wk.aO w' w'')/\∀w26,Wk.aO w25 w26->((nN x31 x32 A12 n12 c12 (jQ k3 I2 x30)) (decide (x33≠x34)) w26)))/\((!b5)=false->(∀w28,Wk.aO w25 w28->((nN x31 x32 A12 n12 c12 (jQ k3 I2 x30)) false w28))))))/\(¬(x30<(n (9+s):Int))->T A12 n12 c12 w24)):=by
 have hlen:ps.length=n (9+s):=by have:=(h.useRow hs).1;rw[hu] at this;simpa using this
 have few:=k.few
 refine⟨aJl B0 w p U M N A n c H g ps Bw l,
  ⟨ps.length,by simp,by omega,by omega,A 7,n 7,c 7,H,by simpa [dD,Qp] using h,by simpa [dD,Qp] using hw,dU.refl H w,fun _ h=>h,fun b _ hb=>by rw[Qp] at hb;exact hb⟩,?_⟩
 rintro q C' m' d' i w' ⟨rfl,i0,i1,A7,n7,c7,H1,g1,w1,adv1,sub1,gr1⟩
 refine⟨fun hlt=> ?_,fun hge=> ?_⟩
 ·have hi:i.toNat<ps.length:=by omega
  obtain⟨pp,hpp⟩:∃pp,ps[i.toNat]? =some pp:=⟨_,List.getElem?_eq_getElem hi⟩
  obtain⟨p0,p1⟩:=hps pp (List.mem_of_getElem? hpp)
  obtain⟨e1,e2,e3⟩:=Oq (ps.take i.toNat) g
  have k1:=aC5 (ps.take i.toNat) g k (fun q hq=>hps q (List.mem_of_mem_take hq))
  have hur:=g1.useRow hs
  rw[e3,hu,upd_ne _ _ (by omega),upd_ne _ _ (by omega),upd_ne _ _ (by omega)] at hur
  obtain⟨a8,v,ha8,hv,hc8,_⟩:=hur.get i0 hlt
  rw[List.getElem?_map,hpp] at hv
  simp only[Option.map_some,Option.some.injEq] at hv
  subst hv
  have hsig:=aHf g1 k1 p0 (by rw[e1];exact p1)
  have hcl:=Yq (ps.take i.toNat) g
  rw[List.length_take] at hcl
  refine⟨i0,hlt,a8,ha8,pp,hc8,(aI3 g1.min hsig (by omega)).mono ?_⟩
  rintro _ w25 ⟨_,rfl,rfl,A7',n7',c7',H2,g2,adv2,sub2,gr2⟩
  rw[aIe,aIe,aIe] at g2
  obtain⟨g3,adv3,kp3,gr3⟩:=g1.lift g2 adv2 (aMl _ _ _)
  have k2:=k1.enter (fC (dD g (ps.take i.toNat)).1 pp) p0 (by rw[e1];exact p1)
  have w3:sF w25 p U M N (upd A 7 A7') (fun b=>H1 b\/H2 b) Bw C' m' d' (l++(dD g (ps.take i.toNat)).2):=w1.iI kp3 (fun b hb hh=>hh.elim (w1.out b hb).1 (w1.out b hb).2) (fun b hb=> .inl hb) gr3
  have ef:=(Jf (dD g (ps.take i.toNat)).1 (fC (dD g (ps.take i.toNat)).1 pp) pp)
  have hfd:∀x,fd (gG (dD g (ps.take i.toNat)).1 (fC (dD g (ps.take i.toNat)).1 pp) pp) x=fd g x:=fun x=>(Yj ef.2.1 x).trans (Yj e2 x)
  have snoc:=aBs pp (ps.take i.toNat) g
  have et:ps.take (i+1).toNat=ps.take i.toNat++[pp]:=by rw[show(i+1).toNat=i.toNat+1 by omega,List.take_add_one,hpp];rfl
  rw[<-et] at snoc
  have gr03:∀b,b<w.heap.size->FX (kF p U N) (upd A 7 A7') b->FX (kF p U N) A b:=fun b hb hh=>gr1 b hb (gr3 b (Nat.lt_of_lt_of_le hb adv1.keep.size) hh)
  have hes:=Zq (ps.take i.toNat) g
  rw[List.length_take] at hes
  have hml:(l++(dD g (ps.take i.toNat)).2).length=m':=by
   have:=w3.row.1
   rw[uN Kw] at this
   omega
  rw[List.length_append] at hml
  have next:∀(more:List Edge) w27 C2 m2 d2 H3,(dD g (ps.take (i+1).toNat)).2=(dD g (ps.take i.toNat)).2++more->dF B0 w27 p U M N (upd A 7 A7') (upd n 7 n7') (upd c 7 c7') H3 (gG (dD g (ps.take i.toNat)).1 (fC (dD g (ps.take i.toNat)).1 pp) pp)->
    sF w27 p U M N (upd A 7 A7') H3 Bw C2 m2 d2 (l++(dD g (ps.take i.toNat)).2++more)->dU H w H3 w27->(∀b,H b->H3 b)->jQ (ps.length-i.toNat) (aJl B0 w p U M N A n c H g ps Bw l) i C2 m2 d2 w27:=by
   intro more w27 C2 m2 d2 H3 hm hg hw3 hadv hsub
   refine⟨ps.length-(i.toNat+1),by omega,?_⟩
   rw[gI (n:=ps.length) i0 (by omega) (by unfold Sm;omega)]
   refine⟨by omega,by omega,by omega,A7',n7',c7',H3,?_,?_,hadv,hsub,gr03⟩
   ·rw[snoc];exact hg
   ·rw[hm,<-List.append_assoc];exact hw3
  have advA:dU H w (fun b=>H1 b\/H2 b) w25:=adv1.trans adv3
  have subA':∀b,H b->H1 b\/H2 b:=fun b hb=> .inl (sub1 b hb)
  cases hq:fQ (dD g (ps.take i.toNat)).1.sigs (fC (dD g (ps.take i.toNat)).1 pp) with
  |none=>
   rw[hq] at snoc
   refine⟨_,rfl,_,_,rfl,fun hn=>(by cases hn),fun hn w28 hw28=> ?_⟩
   refine⟨fun hh=>(by cases hh),fun _=> ?_⟩
   refine next [] w28 C' m' d' _ (by rw[snoc]) (g3.stay (Ext.aK hw28)) ?_ (advA.trans (dU.aK hw28)) subA'
   rw[List.append_nil]
   exact w3.iI (X:=fun _=>False) (Ext.aK hw28) (fun _ _ h=>h) (fun _ h=>h) (fun _ _ h=>h)
  |some q=>
   rw[hq] at snoc
   obtain⟨q0,q1⟩:=k1.sigs _ _ hq
   rw[e1] at q1
   have en:=(Jf (dD g (ps.take i.toNat)).1 (fC (dD g (ps.take i.toNat)).1 pp) pp).1.trans e1
   refine⟨_,rfl,_,_,rfl,fun hn=>⟨fd g q,fun w' hw'=> ?_,fd g pp,fun w' hw'=> ?_,fun w26 hw26=> ?_⟩,fun hn=>(by cases hn)⟩
   ·rw[add0]
    show Calls P _ #[_,iv q] _ _
    rw[<-hfd q]
    exact aJx (g3.stay (Ext.aK hw')) k2 q0 (by rw[en];exact q1)
   ·rw[add0,<-hfd pp]
    exact aJx (g3.stay (Ext.aK hw')) k2 p0 (by rw[en];exact p1)
   ·have g26:=g3.stay (Ext.aK hw26)
    have w26':sF w26 p U M N (upd A 7 A7') (fun b=>H1 b\/H2 b) Bw C' m' d' (l++(dD g (ps.take i.toNat)).2):=w3.iI (X:=fun _=>False) (Ext.aK hw26) (fun _ _ h=>h) (fun _ h=>h) (fun _ _ h=>h)
    refine⟨fun hd p5 w29 hN29=> ?_,fun hd=> ?_⟩
    ·have hne:=of_decide_eq_true hd
     have E29:Ext w26 w29:=Ext.eY hN29
     have g29:=g26.stay E29
     have w29':sF w29 p U M N (upd A 7 A7') (fun b=>H1 b\/H2 b) Bw C' m' d' (l++(dD g (ps.take i.toNat)).2):=w26'.iI (X:=fun _=>False) E29 (fun _ _ h=>h) (fun _ h=>h) (fun _ _ h=>h)
     have hBw29:Bw<=w29.heap.size:=Nat.le_trans hBw (advA.trans ((dU.aK hw26).trans (dU.iL E29))).keep.size
     obtain⟨C2,d2,w30,hrun,H3,g30,w30',adv30,sub30⟩:=aMd g29 w29' hB0 hBw29 (e:=⟨0,true,pp,q,0⟩) (hN29.cells rfl) (by omega)
     refine⟨C2,m'+1,d2,w30,hrun,?_⟩
     exact next [⟨0,true,pp,q,0⟩] w30 C2 (m'+1) d2 H3 (by rw[snoc];simp[hne]) g30 w30' (advA.trans ((dU.aK hw26).trans ((dU.iL E29).trans adv30))) (fun b hb=>sub30 b (subA' b hb))
    ·have heq:fd g q=fd g pp:=Decidable.not_not.1 (of_decide_eq_false hd)
     refine next [] w26 C' m' d' _ (by rw[snoc];simp[heq]) g26 (by rw[List.append_nil];exact w26') (advA.trans (dU.aK hw26)) subA'
 ·have hi:i.toNat=ps.length:=by omega
  rw[hi,List.take_length] at g1 w1
  exact hT w' A7 n7 c7 H1 C' m' d' g1 w1 adv1 sub1 gr1
end
end Go.Proofs.YtnbakpoahcndpaaGreatDoor
