/- Towards: The law LinPicks answers true at every input whose reading is of bulk at most 1048576, and the input reads as it did; the tables that it reads are tied to the program's text. Gathered by a program (pack.py) out of smaller texts. -/
import Derived.Test.YtfedkedpgdphdaaGreatDoorLinPicks3
set_option linter.unusedSectionVars false
set_option linter.unusedVariables false
set_option linter.unusedSimpArgs false
set_option linter.deprecated false
set_option linter.unnecessarySimpa false
set_option maxHeartbeats 2000000
set_option maxRecDepth 20000
namespace Go.Proofs.YtfedkedpgdphdaaGreatDoor
open Wk
section
variable {w w':World} {p o:Addr} {q r:Rat} {A:Option Addr} {n c k:Nat} {t f u:Bool}
theorem Sd.set2 {e:TypeId} {a b x y:Value} (h:Sd w p e [a,b]) (hw:w'=aX w p [x,y]):Sd w' p e [x,y]/\Kp p w w':=by
 have k:=mD hw
 refine⟨?_,k⟩
 obtain⟨g,rfl,hg⟩:=h
 refine⟨g,rfl,?_⟩
 subst hw
 exact(pK g e (0,0) [x,y] 0 w _ hg (by simp)).1
theorem Sd.cells {e:TypeId} {vs:List Value} (h:Sd w p e vs):bC w p vs:=fun j v hj=>h.cell hj
theorem Sd.Wq {e:TypeId} {vs:List Value} (h:Sd w p e vs) {m:Nat} (hm:m<=vs.length):jR w p m:=fun j hj=>by
 refine⟨?_,h.fro j⟩
 rw[h.cell (List.getElem?_eq_getElem (show j<vs.length by omega))]
 rfl
theorem dX.other {e:TypeId} {vs:List Value} (h:dX w o q) (hs:Sd w p e vs) (k:Kp p w w') (h1:e≠T.lF:=by decide) (h2:e≠T.uint32:=by decide):dX w' o q:=by
 obtain⟨s,A,n,c,B,m,d,x,y,h3,h4,h5,h6⟩:=h
 exact⟨s,A,n,c,B,m,d,x,y,h3.keep k fun e=>h1 (h3.same hs e).2.1.symm,h4.sd hs h2 k,h5.imp id fun h=>⟨h.1,h.2.sd hs h2 k⟩,h6⟩
theorem DAt.other {e:TypeId} {vs:List Value} {a b:Addr} {d:Rat×Rat} (h:DAt w a b d) (hs:Sd w p e vs) (k:Kp p w w') (h1:e≠T.lF:=by decide) (h2:e≠T.uint32:=by decide):DAt w' a b d:=⟨h.1.other hs k h1 h2,h.2.other hs k h1 h2⟩
def Lc (w0 w:World) (p:Addr) (e:TypeId) (vs:List Value):Prop:=Sd w p e vs/\w0.heap.size<=p.block
theorem Lc.new {w0:World} {e:TypeId} {cs:Array Value} (h:New w (.cells cs e) p w') (E:Ext w0 w):Lc w0 w' p e cs.toList:=⟨(Sd.new h rfl).1,by have:=E.size;have:=h.block;omega⟩
theorem Lc.ext {w0:World} {e:TypeId} {vs:List Value} (h:Lc w0 w p e vs) (E:Ext w w'):Lc w0 w' p e vs:=⟨h.1.ext E,h.2⟩
theorem Lc.over {w0:World} {e:TypeId} {vs:List Value} (h:Lc w0 w p e vs) (E:Ext w0 w) (k:Kp p w w'):Ext w0 w':=k.bI E h.2
theorem Lc.ne {w0:World} {e e':TypeId} {vs:List Value} {cs:Array Value} (h:Lc w0 w p e vs) (hN:New w (.cells cs e') o w'):p.block≠o.block:=by
 have:=h.1.lt
 have:=hN.block
 omega
theorem Lc.other {w0:World} {e:TypeId} {vs:List Value} (h:Lc w0 w p e vs) (k:Kp o w w') (hne:p.block≠o.block):Lc w0 w' p e vs:=⟨h.1.keep k hne,h.2⟩
theorem Lc.set2 {w0:World} {e:TypeId} {a b x y:Value} (h:Lc w0 w p e [a,b]) (hw:w'=aX w p [x,y]):Lc w0 w' p e [x,y]/\Kp p w w':=⟨⟨(h.1.set2 hw).1,h.2⟩,(h.1.set2 hw).2⟩
end
abbrev PT:=(ByteArray×ByteArray)×(ByteArray×ByteArray)
abbrev PQ:=(Rat×Rat)×(Rat×Rat)
def IsP (s:PT) (d:PQ):Prop:=IsD s.1 d.1/\IsD s.2 d.2
abbrev Tp (s:PT):Prop:=(Ts s.1.1.size/\Ts s.1.2.size)/\(Ts s.2.1.size/\Ts s.2.2.size)
section
variable {w0 w w':World} {p o:Addr} {q r:Rat} {A:Option Addr} {n c k:Nat} {t f u:Bool}
noncomputable def tV (r:Rat) (d:PQ):Rat:=
 if Ew (d.2.1-d.1.1)<=0\/Ew (d.1.2-d.2.2)<=0 then r else if Vk ((d.2.1-d.1.1)/(d.1.2-d.2.2)) r<0 then(d.2.1-d.1.1)/(d.1.2-d.2.2) else r
structure LbP (d:PQ) (k:Nat):Prop where
 a:mF d.1.1 k
 b:mF d.1.2 k
 c:mF d.2.1 k
 d:mF d.2.2 k
theorem mF.sub (h:mF q n) (hr:mF r c):mF (q-r) (n+c+1):=by rw[Rat.sub_eq_add_neg];exact h.add hr.neg
theorem aEi {d:PQ} (l:LbP d k) {kb:Nat} (hr:mF r kb) (hk:4*k+2<=kb):mF (tV r d) kb:=by
 unfold tV
 split
 ·exact hr
 ·rename_i h
  split
  ·have h0:d.1.2-d.2.2≠0:=fun e=>h (.inr (by rw[e];decide))
   exact((l.c.sub l.a).div (l.b.sub l.d) h0).mono (by omega)
  ·exact hr
theorem aI0 {d:PQ} {pu pd ob:Addr} {jc:Option Addr->World->Prop} {kb:Nat} (l:LbP d k) (lb:mF r kb) (hk:4*k+2<=kb) (hkb:Sh (kb+kb)) (E:Ext w0 w) (hu:dX w pu (d.2.1-d.1.1)) (hd:dX w pd (d.1.2-d.2.2)) (hf:w0.heap.size<=pu.block)
  (hb:∀w',Ext w0 w'->dX w' ob r) (hj:∀w' o,Ext w0 w'->dX w' o (tV r d)->jc (some o) w'):nT jc (some ob) (some pu) (some pd) w:=by
 have lu:=(l.c.sub l.a)
 have ld:=(l.b.sub l.d)
 unfold Sh at hkb
 have out:∀w',Ext w0 w'->(Ew (d.2.1-d.1.1)<=0\/Ew (d.1.2-d.2.2)<=0)->vO jc (some ob) (some pu) (some pd) true w':=fun w' E' h=>⟨fun _=>hj w' ob E' (by unfold tV;rw[if_pos h];exact hb w' E'),fun h=>by cases h⟩
 refine aS.mono (Um hu) ?_
 rintro _ w1 ⟨E1,rfl⟩
 have E01:=E.trans E1
 refine⟨_,rfl,fun h=>out w1 E01 (.inl h),fun h1=>aS.mono (Um (hd.ext E1)) ?_⟩
 rintro _ w2 ⟨E2,rfl⟩
 have E02:=E01.trans E2
 refine⟨_,rfl,?_⟩
 by_cases h2:Ew (d.1.2-d.2.2)<=0
 ·rw[decide_eq_true h2]
  exact out w2 E02 (.inr h2)
 rw[decide_eq_false h2]
 refine⟨fun h=>(by cases h),fun _=> ?_⟩
 have h0:d.1.2-d.2.2≠0:=fun e=>h2 (by rw[e];decide)
 have hu2:=hu.ext (E1.trans E2)
 refine aS.mono (aKj hu2.isZ hu2 (hd.ext (E1.trans E2)) lu ld h0 (by unfold Sh;omega)) ?_
 rintro _ w3 ⟨rfl,k3,hq⟩
 have E03:Ext w0 w3:=k3.bI E02 hf
 refine⟨_,rfl,aS.mono (Yz hq (hb w3 E03) (lu.div ld h0) lb (by unfold Sh;omega)) ?_⟩
 rintro _ w4 ⟨E4,rfl⟩
 have E04:=E03.trans E4
 refine⟨_,rfl,fun h=>hj w4 pu E04 ?_,fun h=>hj w4 ob E04 ?_⟩
 ·unfold tV
  rw[if_neg (fun e=>e.elim h1 h2),if_pos h]
  exact hq.ext E4
 ·unfold tV
  rw[if_neg (fun e=>e.elim h1 h2),if_neg h]
  exact hb w4 E04
theorem yN {a b:Addr} {x y z:Value} {j:Nat} (m:Lc w0 w p T.lF [x,y,z]) (E:Ext w0 w) (hx:dX w a q) (hy:dX w b r) (lq:mF q k) (lr:mF r j) (hk:Sh (k+j+1)):Calls P F.nM #[.pointer (some p),.pointer (some a),.pointer (some b)] w (aS fun v w'=>v= .pointer (some p)/\Ext w0 w'/\Kp p w w'/\dX w' p (q-r)):=by
 refine aS.mono (aJ9 ⟨_,_,_,m.1⟩ hx hy lq lr hk) ?_
 rintro _ w' ⟨rfl,k,h⟩
 exact⟨rfl,m.over E k,k,h⟩
theorem aI1 {d:PQ} {pl ph a b a' b' ob:Addr} {K:ByteArray->Int->World->Prop} {jc:Option Addr->World->Prop} {kb:Nat} (l:LbP d k) (lb:mF r kb) (hk:4*k+2<=kb) (hkb:Sh (kb+kb)) (E:Ext w0 w) (hl:bC w pl [.pointer (some a),.pointer (some b)]) (hh:bC w ph [.pointer (some a'),.pointer (some b')]) (dl:DAt w a b d.1) (dh:DAt w a' b' d.2)
  (hb:∀w',Ext w0 w'->dX w' ob r) (hK:0<Zb d.1 d.2->∀w',Ext w0 w'->K .empty 3 w') (hj:¬0<Zb d.1 d.2->∀w' o,Ext w0 w'->dX w' o (tV r d)->jc (some o) w'):fF K jc (some ob) pl ph w:=by
 have hkb':=hkb
 unfold Sh at hkb'
 refine⟨_,_,hl,_,_,hh,aS.mono (aD5 dl dh l.a l.b l.c l.d (by unfold Sh;omega)) ?_⟩
 rintro _ w1 ⟨E1,rfl⟩
 have E01:=E.trans E1
 refine⟨_,rfl,fun h=>hK h w1 E01,fun h=> ?_⟩
 have cl:=E1.cells hl
 have ch:=E1.cells hh
 have da:=fun w' (e:Ext w1 w')=>(dl.ext (E1.trans e))
 have db:=fun w' (e:Ext w1 w')=>(dh.ext (E1.trans e))
 have fin:∀w' pu pd,Ext w1 w'->dX w' pu (d.2.1-d.1.1)->dX w' pd (d.1.2-d.2.2)->w1.heap.size<=pu.block->nT jc (some ob) (some pu) (some pd) w':=fun w' pu pd e hu hd hf=>aI0 l lb hk hkb (E01.trans e) hu hd (Nat.le_trans E01.size hf) hb (hj h)
 have shk:Sh (k+k+1):=by unfold Sh;omega
 refine⟨fun _=>False,_,ch.at 0 rfl,id,_,cl.at 0 rfl,id,_,cl.at 1 rfl,id,_,ch.at 1 rfl,id,?_,?_⟩
 ·intro w2 D2 p25 w3 N3
  have e2:=Ext.aO D2
  have m3:=Lc.new N3 e2
  have e3:=e2.trans (Ext.bI N3)
  refine⟨fun w4 D4=> ?_,fun w4 D4 p27 w5 N5 w6 D6=> ?_⟩
  ·have e4:=e3.drawn D4
   refine aS.mono (yN (m3.ext (Ext.aO D4)) e4 (db _ e4).1 (da _ e4).1 l.c l.a shk) ?_
   rintro _ w5 ⟨rfl,e5,_,hu⟩
   refine⟨_,rfl,e5,fun w6 D6 p26 w7 N7 w8 D8=> ?_⟩
   have e6:=e5.drawn D6
   have m7:=Lc.new N7 e6
   have e7:=e6.trans (Ext.bI N7)
   have e8:=e7.drawn D8
   have lt:=hu.isZ.lt
   refine aS.mono (yN (m7.ext (Ext.aO D8)) e8 (da _ e8).2 (db _ e8).2 l.b l.d shk) ?_
   rintro _ w9 ⟨rfl,e9,k9,hd⟩
   have hu8:=((hu.ext (Ext.aO D6)).ext (Ext.bI N7)).ext (Ext.aO D8)
   have hne:p25.block≠p26.block:=by
    have:=N7.block
    have:=(Ext.aO D6).size
    omega
   refine⟨_,rfl,fun w10 D10=>fin w10 _ _ (e9.drawn D10) ((hu8.keep k9 ⟨_,_,_,(m7.ext (Ext.aO D8)).1⟩ hne).ext (Ext.aO D10)) (hd.ext (Ext.aO D10)) m3.2⟩
  ·have e4:=e3.drawn D4
   have m5:=Lc.new N5 e4
   have hne:=(m3.ext (Ext.aO D4)).ne N5
   have e5:=e4.trans (Ext.bI N5)
   have e6:=e5.drawn D6
   have m3':=((m3.ext (Ext.aO D4)).ext (Ext.bI N5)).ext (Ext.aO D6)
   refine aS.mono (yN m3' e6 (db _ e6).1 (da _ e6).1 l.c l.a shk) ?_
   rintro _ w7 ⟨rfl,e7,k7,hu⟩
   refine⟨_,rfl,e7,fun w8 D8=> ?_⟩
   have e8:=e7.drawn D8
   have m5':=((m5.ext (Ext.aO D6)).other k7 hne.symm).ext (Ext.aO D8)
   refine aS.mono (yN m5' e8 (da _ e8).2 (db _ e8).2 l.b l.d shk) ?_
   rintro _ w9 ⟨rfl,e9,k9,hd⟩
   refine⟨_,rfl,fun w10 D10=>fin w10 _ _ (e9.drawn D10) (((hu.ext (Ext.aO D8)).keep k9 ⟨_,_,_,m5'.1⟩ hne).ext (Ext.aO D10)) (hd.ext (Ext.aO D10)) m3.2⟩
 ·intro w2 D2 p28 w3 N3 w4 D4 p29 w5 N5 w6 D6
  have e2:=Ext.aO D2
  have m3:=Lc.new N3 e2
  have e3:=e2.trans (Ext.bI N3)
  have e4:=e3.drawn D4
  have m5:=Lc.new N5 e4
  have hne:=(m3.ext (Ext.aO D4)).ne N5
  have e5:=e4.trans (Ext.bI N5)
  have e6:=e5.drawn D6
  refine aS.mono (yN (m5.ext (Ext.aO D6)) e6 (db _ e6).1 (da _ e6).1 l.c l.a shk) ?_
  rintro _ w7 ⟨rfl,e7,k7,hu⟩
  refine⟨_,rfl,e7,fun w8 D8=> ?_⟩
  have e8:=e7.drawn D8
  have m3':=((((m3.ext (Ext.aO D4)).ext (Ext.bI N5)).ext (Ext.aO D6)).other k7 hne).ext (Ext.aO D8)
  refine aS.mono (yN m3' e8 (da _ e8).2 (db _ e8).2 l.b l.d shk) ?_
  rintro _ w9 ⟨rfl,e9,k9,hd⟩
  refine⟨_,rfl,fun w10 D10=>fin w10 _ _ (e9.drawn D10) (((hu.ext (Ext.aO D8)).keep k9 ⟨_,_,_,m3'.1⟩ hne.symm).ext (Ext.aO D10)) (hd.ext (Ext.aO D10)) m5.2⟩
end
def jU (p1:Addr) (b1:Bool) (K:Bool->Option Addr->Nat->Nat->Option Addr->Nat->Nat->World->Prop) (A14:Option Addr) (n14 c14:Nat) (A15:Option Addr) (n15 c15:Nat) (w9:World):Prop:=
 jR w9 p1 3/\∀w10,w10=aX w9 p1 [.bool b1,.slice A14 n14 c14,.slice A15 n15 c15]->(∃b4,∃A16 n16 c16,∃A17 n17 c17,bC w10 p1 [.bool b4,.slice A16 n16 c16,.slice A17 n17 c17]/\(K b4 A16 n16 c16 A17 n17 c17 w10))
def Dx (b1:Bool) (A1:Option Addr) (n1 c1:Nat) (A2:Option Addr) (n2 c2:Nat) (K:Bool->Option Addr->Nat->Nat->Option Addr->Nat->Nat->World->Prop) (w:World):Prop:=
 ∀(p1:Addr) (w1:World),New w (.cells #[.bool false,.slice none 0 0,.slice none 0 0] T.bM) p1 w1->(((n1:Int)=0->(Calls P F.dS #[.int .i64 1] w1 (aS fun v1 w2=>∃A5 n5 c5,v1=(.slice A5 n5 c5)/\jR w2 p1 3/\∀w3,w3=aX w2 p1 [.bool false,.slice A1 n1 c1,.slice A5 n5 c5]->(∃b3,∃A6 n6 c6,∃A7 n7 c7,bC w3 p1 [.bool b3,.slice A6 n6 c6,.slice A7 n7 c7]/\(K b3 A6 n6 c6 A7 n7 c7 w3)))))/\(¬((n1:Int)=0)->(Calls P F.sJ #[.slice A1 n1 c1,.slice A2 n2 c2] w1 (aS fun v2 w4=>∃A8 n8 c8,v2=(.slice A8 n8 c8)/\Calls P F.dS #[.int .i64 1] w4 (aS fun v3 w5=>∃A9 n9 c9,v3=(.slice A9 n9 c9)/\Calls P F.iT #[.slice A8 n8 c8,.slice A9 n9 c9] w5 (aS fun v4 w6=>∃x1,v4=(.int .i64 x1)/\(x1≠0->(Calls P F.kX #[.slice A1 n1 c1,.slice A8 n8 c8] w6 (aS fun v5 w7=>∃A10 n10 c10,∃A11 n11 c11,v5=(.tuple #[.slice A10 n10 c10,.slice A11 n11 c11])/\Calls P F.kX #[.slice A2 n2 c2,.slice A8 n8 c8] w7 (aS fun v6 w8=>∃A12 n12 c12,∃A13 n13 c13,v6=(.tuple #[.slice A12 n12 c12,.slice A13 n13 c13])/\(jU p1 b1 K) A10 n10 c10 A12 n12 c12 w8))))/\(¬(x1≠0)->((jU p1 b1 K) A1 n1 c1 A2 n2 c2 w6))))))))
theorem Uh (b1:Bool) (A1:Option Addr) (n1 c1:Nat) (A2:Option Addr) (n2 c2:Nat) (K:Bool->Option Addr->Nat->Nat->Option Addr->Nat->Nat->World->Prop) (w:World) (H:Dx b1 A1 n1 c1 A2 n2 c2 K w):Calls P F.jF #[.bool b1,.slice A1 n1 c1,.slice A2 n2 c2] w (aS fun v w'=>∃b2,∃A3 n3 c3,∃A4 n4 c4,v=(.agg #[.bool b2,.slice A3 n3 c3,.slice A4 n4 c4])/\K b2 A3 n3 c3 A4 n4 c4 w'):=by
 unfold Dx at H;refine aY (P:=P) Tryz.func201 rfl [(0,.bool b1),(1,.slice A1 n1 c1),(2,.slice A2 n2 c2)] 37 rfl rfl (aa rfl (aa rfl (aa rfl az))) (aB (aA (fM (f:=(fun p=> .pointer (some p))) rfl rfl (aF rfl) (fun a ha=>dR (dV TF.dY)) ?_)));intro p1 w1 hN;replace H:=H _ _ hN;refine aC (nc (y4 0 1 2 6 rfl) (aB (aB (aA (mv rfl (sv rfl rfl (xb rfl (fun _=>bD TF.bT)) (bo rfl rfl nN (aC (nc (y5 0 1 2 6 10 rfl) ?_)))))))));refine aK rfl (fun hb=> ?_) (fun hb=> ?_)
 ·replace H:=H.1 hb;refine aB (aA (mv rfl (sc rfl rfl FF.dF H ?_)));rintro _ w2 ⟨A5,n5,c5,rfl,H⟩;refine sv rfl rfl (xp (.agg #[.bool false,.slice A1 n1 c1,.slice A5 n5 c5]) rfl) ?_;obtain⟨h2,H⟩:=H;refine gX rfl (aF rfl) (xs rfl rfl (cO TF.aQ (by simp[Value.oneCell']) h2)) ?_;intro w3 hw;replace H:=H _ hw;clear hw;refine aC (nc (kp 6 rfl zz) (aW (aI ?_)));obtain⟨b3,A6,n6,c6,A7,n7,c7,h3,H⟩:=H;exact aG (Me rfl (mG (vs:=[.bool b3,.slice A6 n6 c6,.slice A7 n7 c7]) rfl TF.bP TF.aQ h3)) ⟨_,rfl,_,_,_,_,_,_,_,rfl,H⟩
 ·replace H:=H.2 hb;refine aN (nc (y4 0 1 2 6 rfl) (aB (aA (mv rfl (mv rfl (sc rfl rfl FF.Hg H ?_))))));rintro _ w4 ⟨A8,n8,c8,rfl,H⟩;refine ag rfl (aC (nc (y5 0 1 2 6 7 rfl) ?_));refine dI (fun a w=>∃A14 n14 c14,∃A15 n15 c15,Ok 37 [(0,.bool b1),(1,.slice A14 n14 c14),(2,.slice A15 n15 c15),(6,.pointer (some p1))] a/\jU p1 b1 K A14 n14 c14 A15 n15 c15 w) ?_ ?_
  ·rintro a w9 ⟨A14,n14,c14,A15,n15,c15,ha,H⟩;unfold jU at H;refine cu ha ?_;refine aB (aA (mv rfl (mv rfl (mv rfl (sv rfl rfl (xp (.agg #[.bool b1,.slice A14 n14 c14,.slice A15 n15 c15]) rfl) ?_)))));obtain⟨h4,H⟩:=H;refine gX rfl (aF rfl) (xs rfl rfl (cO TF.aQ (by simp[Value.oneCell']) h4)) ?_;intro w10 hw;replace H:=H _ hw;clear hw;refine aC (nc (kp 6 rfl zz) (aW ?_));obtain⟨b4,A16,n16,c16,A17,n17,c17,h5,H⟩:=H;exact aG (Me rfl (mG (vs:=[.bool b4,.slice A16 n16 c16,.slice A17 n17 c17]) rfl TF.bP TF.aQ h5)) ⟨_,rfl,_,_,_,_,_,_,_,rfl,H⟩
  ·refine aB (aA (mv rfl (sc rfl rfl FF.dF H ?_)));rintro _ w5 ⟨A9,n9,c9,rfl,H⟩;refine sc rfl rfl FF.iK H ?_;rintro _ w6 ⟨x1,rfl,H⟩;refine bo rfl rfl zC (aC (nc (y6 0 1 2 6 7 20 rfl) ?_));refine aK rfl (fun hb=> ?_) (fun hb=> ?_)
   ·replace H:=H.1 hb;refine aB (aA (mv rfl (mv rfl (sc rfl rfl FF.nG H ?_))));rintro _ w7 ⟨A10,n10,c10,A11,n11,c11,rfl,H⟩;refine mv rfl (sv rfl rfl (xe rfl rfl) (sv rfl rfl (xe rfl rfl) (ag rfl (aC (nc (y5 0 1 2 6 7 rfl) (aA (mv rfl (mv rfl (sc rfl rfl FF.nG H ?_)))))))));rintro _ w8 ⟨A12,n12,c12,A13,n13,c13,rfl,H⟩;exact mv rfl (sv rfl rfl (xe rfl rfl) (sv rfl rfl (xe rfl rfl) (ag rfl (aC (aT fun a ha=>⟨A10,n10,c10,A12,n12,c12,ha.weaken cs,H⟩)))))
   ·replace H:=H.2 hb;exact aN (aT fun a ha=>⟨A1,n1,c1,A2,n2,c2,ha.weaken cs,H⟩)
def Dv (x1:Int) (K:Bool->Option Addr->Nat->Nat->Option Addr->Nat->Nat->World->Prop) (w:World):Prop:=
 ∀(p1:Addr) (w1:World),New w (.cells #[.bool false,.slice none 0 0,.slice none 0 0] T.bM) p1 w1->((x1<0->(Calls P F.dS #[.int .i64 (IntKind.wrap .i64 (0-x1))] w1 (aS fun v1 w2=>∃A3 n3 c3,v1=(.slice A3 n3 c3)/\Calls P F.dS #[.int .i64 1] w2 (aS fun v2 w3=>∃A4 n4 c4,v2=(.slice A4 n4 c4)/\jR w3 p1 3/\∀w4,w4=aX w3 p1 [.bool true,.slice A3 n3 c3,.slice A4 n4 c4]->(∃b2,∃A5 n5 c5,∃A6 n6 c6,bC w4 p1 [.bool b2,.slice A5 n5 c5,.slice A6 n6 c6]/\(K b2 A5 n5 c5 A6 n6 c6 w4))))))/\(¬(x1<0)->(Calls P F.dS #[.int .i64 x1] w1 (aS fun v3 w5=>∃A7 n7 c7,v3=(.slice A7 n7 c7)/\Calls P F.dS #[.int .i64 1] w5 (aS fun v4 w6=>∃A8 n8 c8,v4=(.slice A8 n8 c8)/\jR w6 p1 3/\∀w7,w7=aX w6 p1 [.bool false,.slice A7 n7 c7,.slice A8 n8 c8]->(∃b3,∃A9 n9 c9,∃A10 n10 c10,bC w7 p1 [.bool b3,.slice A9 n9 c9,.slice A10 n10 c10]/\(K b3 A9 n9 c9 A10 n10 c10 w7)))))))
theorem Sv (x1:Int) (K:Bool->Option Addr->Nat->Nat->Option Addr->Nat->Nat->World->Prop) (w:World) (H:Dv x1 K w):Calls P F.uV #[.int .i64 x1] w (aS fun v w'=>∃b1,∃A1 n1 c1,∃A2 n2 c2,v=(.agg #[.bool b1,.slice A1 n1 c1,.slice A2 n2 c2])/\K b1 A1 n1 c1 A2 n2 c2 w'):=by
 unfold Dv at H;refine aY (P:=P) Tryz.func200 rfl [(0,.int .i64 x1)] 14 rfl rfl (fun p hp=>by rcases List.mem_singleton.1 hp with rfl;rfl) (aB (aA (fM (f:=(fun p=> .pointer (some p))) rfl rfl (aF rfl) (fun a ha=>dR (dV TF.dY)) ?_)));intro p1 w1 hN;replace H:=H _ _ hN;refine aC (nc (y2 0 2 rfl) (aB (aB (aA (mv rfl (bo rfl rfl fO (aC (nc (y3 0 2 4 rfl) ?_))))))));refine aK rfl (fun hb=> ?_) (fun hb=> ?_)
 ·replace H:=H.1 hb;refine aB (aA (mv rfl (sv rfl rfl (xu rfl aB9) (sc rfl rfl FF.dF H ?_))));rintro _ w2 ⟨A3,n3,c3,rfl,H⟩;refine sc rfl rfl FF.dF H ?_;rintro _ w3 ⟨A4,n4,c4,rfl,H⟩;refine sv rfl rfl (xp (.agg #[.bool true,.slice A3 n3 c3,.slice A4 n4 c4]) rfl) ?_;obtain⟨h2,H⟩:=H;refine gX rfl (aF rfl) (xs rfl rfl (cO TF.aQ (by simp[Value.oneCell']) h2)) ?_;intro w4 hw;replace H:=H _ hw;clear hw;refine aC (nc (kp 2 rfl zz) (aW (aI ?_)));obtain⟨b2,A5,n5,c5,A6,n6,c6,h3,H⟩:=H;exact aG (Me rfl (mG (vs:=[.bool b2,.slice A5 n5 c5,.slice A6 n6 c6]) rfl TF.bP TF.aQ h3)) ⟨_,rfl,_,_,_,_,_,_,_,rfl,H⟩
 ·replace H:=H.2 hb;refine aN (nc (y2 0 2 rfl) (aB (aA (mv rfl (sc rfl rfl FF.dF H ?_)))));rintro _ w5 ⟨A7,n7,c7,rfl,H⟩;refine sc rfl rfl FF.dF H ?_;rintro _ w6 ⟨A8,n8,c8,rfl,H⟩;refine sv rfl rfl (xp (.agg #[.bool false,.slice A7 n7 c7,.slice A8 n8 c8]) rfl) ?_;obtain⟨h4,H⟩:=H;refine gX rfl (aF rfl) (xs rfl rfl (cO TF.aQ (by simp[Value.oneCell']) h4)) ?_;intro w7 hw;replace H:=H _ hw;clear hw;refine aC (nc (kp 2 rfl zz) (aW ?_));obtain⟨b3,A9,n9,c9,A10,n10,c10,h5,H⟩:=H;exact aG (Me rfl (mG (vs:=[.bool b3,.slice A9 n9 c9,.slice A10 n10 c10]) rfl TF.bP TF.aQ h5)) ⟨_,rfl,_,_,_,_,_,_,_,rfl,H⟩
def Gf (b1:Bool) (A1:Option Addr) (n1 c1:Nat) (A2:Option Addr) (n2 c2:Nat) (K:Int->World->Prop) (w:World):Prop:=
 ∀(p1:Addr) (w1:World),New w (.cells #[.bool b1,.slice A1 n1 c1,.slice A2 n2 c2] T.bM) p1 w1->(∃A3 n3 c3,w1.cell? (p1.add 1)=some (.slice A3 n3 c3)/\((n3:Int)=0->(K 0 w1))/\(¬((n3:Int)=0)->(∃b2,w1.cell? (p1.add 0)=some (.bool b2)/\(b2=true->(K (-1) w1))/\(b2=false->(K 1 w1)))))
theorem Ve (b1:Bool) (A1:Option Addr) (n1 c1:Nat) (A2:Option Addr) (n2 c2:Nat) (K:Int->World->Prop) (w:World) (H:Gf b1 A1 n1 c1 A2 n2 c2 K w):Calls P F.nP #[.agg #[.bool b1,.slice A1 n1 c1,.slice A2 n2 c2]] w (aS fun v w'=>∃x1,v=(.int .i64 x1)/\K x1 w'):=by
 unfold Gf at H;refine aY (P:=P) Tryz.func159 rfl [(0,.agg #[.bool b1,.slice A1 n1 c1,.slice A2 n2 c2])] 9 rfl rfl (fun p hp=>by rcases List.mem_singleton.1 hp with rfl;rfl) (aB (aA (fM (f:=(fun p=> .pointer (some p))) rfl rfl (aF rfl) (fun a ha=>tN (ha.ev rfl) uD) ?_)));intro p1 w1 hN;replace H:=H _ _ hN;refine ag rfl (aC (nc (kp 1 rfl zz) (aB (aB (aA (fa rfl (TF.fQ _ _) ?_))))));obtain⟨A3,n3,c3,h2,H⟩:=H;refine ld rfl (aJ TF.iE h2) (sv rfl rfl (xb rfl (fun _=>bD TF.bT)) (bo rfl rfl nN (aC (nc (y2 1 6 rfl) ?_))));refine aK rfl (fun hb=> ?_) (fun hb=> ?_)
 ·replace H:=H.1 hb;exact aB (aA (ag rfl (aC (nc (kp 2 rfl zz) (aW (aI (aG (res1 rfl rfl) ⟨_,rfl,_,rfl,H⟩)))))))
 ·replace H:=H.2 hb;refine aN (nc (kp 1 rfl zz) (aB (aB (aA (fa rfl (TF.fA _ _) ?_)))));obtain⟨b2,h3,H⟩:=H;refine ld rfl (aJ TF.gU h3) (aC (nc (kp 8 rfl zz) ?_));refine dG rfl (fun hb=> ?_) (fun hb=> ?_)
  ·replace H:=H.1 hb;exact aB (aA (ag rfl (aC (nc (kp 2 rfl zz) (aW (aI (aG (res1 rfl rfl) ⟨_,rfl,_,rfl,H⟩)))))))
  ·replace H:=H.2 hb;exact aN (nc zz (aB (aA (ag rfl (aC (nc (kp 2 rfl zz) (aW (aG (res1 rfl rfl) ⟨_,rfl,_,rfl,H⟩))))))))
def oK (p2:Addr) (K:Bool->Option Addr->Nat->Nat->Option Addr->Nat->Nat->World->Prop) (w4:World):Prop:=
 ∃b4,∃A10 n10 c10,∃A11 n11 c11,bC w4 p2 [.bool b4,.slice A10 n10 c10,.slice A11 n11 c11]/\(K b4 A10 n10 c10 A11 n11 c11 w4)
def Ir (b1:Bool) (A1:Option Addr) (n1 c1:Nat) (A2:Option Addr) (n2 c2:Nat) (K:Bool->Option Addr->Nat->Nat->Option Addr->Nat->Nat->World->Prop) (w:World):Prop:=
 ∀(p1:Addr) (w1:World),New w (.cells #[.bool b1,.slice A1 n1 c1,.slice A2 n2 c2] T.bM) p1 w1->(∀(p2:Addr) (w2:World),New w1 (.cells #[.bool false,.slice none 0 0,.slice none 0 0] T.bM) p2 w2->(∃b3,w2.cell? (p1.add 0)=some (.bool b3)/\((!b3)=true->(∃A5 n5 c5,w2.cell? (p1.add 1)=some (.slice A5 n5 c5)/\∃A6 n6 c6,w2.cell? (p1.add 1)=some (.slice A6 n6 c6)/\∃A7 n7 c7,w2.cell? (p1.add 2)=some (.slice A7 n7 c7)/\jR w2 p2 3/\∀w3,w3=aX w2 p2 [(.bool (decide (0<(n5:Int)))),.slice A6 n6 c6,.slice A7 n7 c7]->((oK p2 K) w3)))/\((!b3)=false->(∃A8 n8 c8,w2.cell? (p1.add 1)=some (.slice A8 n8 c8)/\∃A9 n9 c9,w2.cell? (p1.add 2)=some (.slice A9 n9 c9)/\jR w2 p2 3/\∀w5,w5=aX w2 p2 [.bool false,.slice A8 n8 c8,.slice A9 n9 c9]->((oK p2 K) w5)))))
theorem Xj (b1:Bool) (A1:Option Addr) (n1 c1:Nat) (A2:Option Addr) (n2 c2:Nat) (K:Bool->Option Addr->Nat->Nat->Option Addr->Nat->Nat->World->Prop) (w:World) (H:Ir b1 A1 n1 c1 A2 n2 c2 K w):Calls P F.xX #[.agg #[.bool b1,.slice A1 n1 c1,.slice A2 n2 c2]] w (aS fun v w'=>∃b2,∃A3 n3 c3,∃A4 n4 c4,v=(.agg #[.bool b2,.slice A3 n3 c3,.slice A4 n4 c4])/\K b2 A3 n3 c3 A4 n4 c4 w'):=by
 unfold Ir at H;refine aY (P:=P) Tryz.func198 rfl [(0,.agg #[.bool b1,.slice A1 n1 c1,.slice A2 n2 c2])] 17 rfl rfl (fun p hp=>by rcases List.mem_singleton.1 hp with rfl;rfl) (aB (aA (fM (f:=(fun p=> .pointer (some p))) rfl rfl (aF rfl) (fun a ha=>tN (ha.ev rfl) uD) ?_)));intro p1 w1 hN;replace H:=H _ _ hN;refine fM (f:=(fun p=> .pointer (some p))) rfl rfl (aF rfl) (fun a ha=>dR (dV TF.dY)) ?_;intro p2 w2 hN;replace H:=H _ _ hN;refine aC (nc (y2 1 2 rfl) ?_);refine dI (fun a w=>Ok 17 [(2,.pointer (some p2))] a/\oK p2 K w) ?_ ?_
 ·rintro a w4 ⟨ha,H⟩;unfold oK at H;refine cu ha ?_;refine aW ?_;obtain⟨b4,A10,n10,c10,A11,n11,c11,h11,H⟩:=H;exact aG (Me rfl (mG (vs:=[.bool b4,.slice A10 n10 c10,.slice A11 n11 c11]) rfl TF.bP TF.aQ h11)) ⟨_,rfl,_,_,_,_,_,_,_,rfl,H⟩
 ·refine aA (fa rfl (TF.fA _ _) ?_);obtain⟨b3,h3,H⟩:=H;refine ld rfl (aJ TF.gU h3) (sv rfl rfl (xu rfl Gg) ?_);rcases tf (!b3) with hb|hb
  ·replace H:=H.1 hb;refine sv rfl rfl (fun a ha=>Ya (eU (ha.ev rfl)) hb) (fag rfl rfl rfl (TF.fQ _ _) ?_);obtain⟨A5,n5,c5,h4,H⟩:=H;refine ldg rfl rfl rfl (aJ TF.iE h4) (svg rfl rfl rfl rfl (xb rfl (fun _=>bD TF.bT)) (Uu rfl rfl rfl rfl kF (pt rfl rfl (fa rfl (TF.fQ _ _) ?_))));obtain⟨A6,n6,c6,h5,H⟩:=H;refine ld rfl (aJ TF.iE h5) (fa rfl (TF.fB _ _) ?_);obtain⟨A7,n7,c7,h6,H⟩:=H;refine ld rfl (aJ TF.iE h6) (sv rfl rfl (xp (.agg #[(.bool (decide (0<(n5:Int)))),.slice A6 n6 c6,.slice A7 n7 c7]) rfl) ?_);obtain⟨h7,H⟩:=H;refine gX rfl (aF rfl) (xs rfl rfl (cO TF.aQ (by simp[Value.oneCell']) h7)) ?_;intro w3 hw;replace H:=H _ hw;clear hw;exact aC (aT fun a ha=>⟨ha.weaken cs,H⟩)
  ·replace H:=H.2 hb;refine sv rfl rfl (fun a ha=>Xq (eU (ha.ev rfl)) hb) (sk rfl rfl rfl rfl (sk rfl rfl rfl rfl (sk rfl rfl rfl rfl (sk rfl rfl rfl rfl (pf rfl rfl (fa rfl (TF.fQ _ _) ?_))))));obtain⟨A8,n8,c8,h8,H⟩:=H;refine ld rfl (aJ TF.iE h8) (fa rfl (TF.fB _ _) ?_);obtain⟨A9,n9,c9,h9,H⟩:=H;refine ld rfl (aJ TF.iE h9) (sv rfl rfl (xp (.agg #[.bool false,.slice A8 n8 c8,.slice A9 n9 c9]) rfl) ?_);obtain⟨h10,H⟩:=H;refine gX rfl (aF rfl) (xs rfl rfl (cO TF.aQ (by simp[Value.oneCell']) h10)) ?_;intro w5 hw;replace H:=H _ hw;clear hw;exact aC (aT fun a ha=>⟨ha.weaken cs,H⟩)
def sV (p3:Addr) (K:Bool->Option Addr->Nat->Nat->Option Addr->Nat->Nat->World->Prop) (w15:World):Prop:=
 ∃b8,∃A19 n19 c19,∃A20 n20 c20,bC w15 p3 [.bool b8,.slice A19 n19 c19,.slice A20 n20 c20]/\(K b8 A19 n19 c19 A20 n20 c20 w15)
def rZ (p3:Addr) (K:Bool->Option Addr->Nat->Nat->Option Addr->Nat->Nat->World->Prop) (w26:World):Prop:=
 ∃b11,∃A24 n24 c24,∃A25 n25 c25,bC w26 p3 [.bool b11,.slice A24 n24 c24,.slice A25 n25 c25]/\(K b11 A24 n24 c24 A25 n25 c25 w26)
def tJ (p3:Addr) (K:Bool->Option Addr->Nat->Nat->Option Addr->Nat->Nat->World->Prop) (w36:World):Prop:=
 ∃b14,∃A29 n29 c29,∃A30 n30 c30,bC w36 p3 [.bool b14,.slice A29 n29 c29,.slice A30 n30 c30]/\(K b14 A29 n29 c29 A30 n30 c30 w36)
def Fz (b1:Bool) (A1:Option Addr) (n1 c1:Nat) (A2:Option Addr) (n2 c2:Nat) (b2:Bool) (A3:Option Addr) (n3 c3:Nat) (A4:Option Addr) (n4 c4:Nat) (K:Bool->Option Addr->Nat->Nat->Option Addr->Nat->Nat->World->Prop) (w:World):Prop:=
 ∀(p1:Addr) (w1:World),New w (.cells #[.bool b1,.slice A1 n1 c1,.slice A2 n2 c2] T.bM) p1 w1->(∀(p2:Addr) (w2:World),New w1 (.cells #[.bool b2,.slice A3 n3 c3,.slice A4 n4 c4] T.bM) p2 w2->(∀(p3:Addr) (w3:World),New w2 (.cells #[.bool false,.slice none 0 0,.slice none 0 0] T.bM) p3 w3->(∃A7 n7 c7,w3.cell? (p1.add 1)=some (.slice A7 n7 c7)/\∃A8 n8 c8,w3.cell? (p2.add 2)=some (.slice A8 n8 c8)/\Calls P F.gI #[.slice A7 n7 c7,.slice A8 n8 c8] w3 (aS fun v1 w4=>∃A9 n9 c9,v1=(.slice A9 n9 c9)/\∃A10 n10 c10,w4.cell? (p2.add 1)=some (.slice A10 n10 c10)/\∃A11 n11 c11,w4.cell? (p1.add 2)=some (.slice A11 n11 c11)/\Calls P F.gI #[.slice A10 n10 c10,.slice A11 n11 c11] w4 (aS fun v2 w5=>∃A12 n12 c12,v2=(.slice A12 n12 c12)/\∃A13 n13 c13,w5.cell? (p1.add 2)=some (.slice A13 n13 c13)/\∃A14 n14 c14,w5.cell? (p2.add 2)=some (.slice A14 n14 c14)/\Calls P F.gI #[.slice A13 n13 c13,.slice A14 n14 c14] w5 (aS fun v3 w6=>∃A15 n15 c15,v3=(.slice A15 n15 c15)/\∃b4,w6.cell? (p1.add 0)=some (.bool b4)/\∃b5,w6.cell? (p2.add 0)=some (.bool b5)/\(b4=b5->(∃X1:Nat->Prop,∃b6,w6.cell? (p1.add 0)=some (.bool b6)/\¬X1 (p1.add 0).block/\∀w8,aP w6 w8->Calls P F.sU #[.slice A9 n9 c9,.slice A12 n12 c12] w8 (aS fun v4 w7=>∃A16 n16 c16,v4=(.slice A16 n16 c16)/\Keep X1 w6 w7/\∀w11,aP w7 w11->Calls P F.jF #[.bool b6,.slice A16 n16 c16,.slice A15 n15 c15] w11 (aS fun v5 w10=>∃b7,∃A17 n17 c17,∃A18 n18 c18,v5=(.agg #[.bool b7,.slice A17 n17 c17,.slice A18 n18 c18])/\∀w16,aP w10 w16->jR w16 p3 3/\∀w13,w13=aX w16 p3 [.bool b7,.slice A17 n17 c17,.slice A18 n18 c18]->(∀w14,aP w13 w14->((sV p3 K) w14))))))/\(¬(b4=b5)->(Calls P F.iT #[.slice A9 n9 c9,.slice A12 n12 c12] w6 (aS fun v6 w17=>∃x1,v6=(.int .i64 x1)/\(0<=x1->(∃X2:Nat->Prop,∃b9,w17.cell? (p1.add 0)=some (.bool b9)/\¬X2 (p1.add 0).block/\∀w19,aP w17 w19->Calls P F.kP #[.slice A9 n9 c9,.slice A12 n12 c12] w19 (aS fun v7 w18=>∃A21 n21 c21,v7=(.slice A21 n21 c21)/\Keep X2 w17 w18/\∀w22,aP w18 w22->Calls P F.jF #[.bool b9,.slice A21 n21 c21,.slice A15 n15 c15] w22 (aS fun v8 w21=>∃b10,∃A22 n22 c22,∃A23 n23 c23,v8=(.agg #[.bool b10,.slice A22 n22 c22,.slice A23 n23 c23])/\∀w27,aP w21 w27->jR w27 p3 3/\∀w24,w24=aX w27 p3 [.bool b10,.slice A22 n22 c22,.slice A23 n23 c23]->(∀w25,aP w24 w25->((rZ p3 K) w25))))))/\(¬(0<=x1)->(∃X3:Nat->Prop,∃b12,w17.cell? (p2.add 0)=some (.bool b12)/\¬X3 (p2.add 0).block/\∀w29,aP w17 w29->Calls P F.kP #[.slice A12 n12 c12,.slice A9 n9 c9] w29 (aS fun v9 w28=>∃A26 n26 c26,v9=(.slice A26 n26 c26)/\Keep X3 w17 w28/\∀w32,aP w28 w32->Calls P F.jF #[.bool b12,.slice A26 n26 c26,.slice A15 n15 c15] w32 (aS fun v10 w31=>∃b13,∃A27 n27 c27,∃A28 n28 c28,v10=(.agg #[.bool b13,.slice A27 n27 c27,.slice A28 n28 c28])/\∀w37,aP w31 w37->jR w37 p3 3/\∀w34,w34=aX w37 p3 [.bool b13,.slice A27 n27 c27,.slice A28 n28 c28]->(∀w35,aP w34 w35->((tJ p3 K) w35)))))))))))))))
theorem Vl (b1:Bool) (A1:Option Addr) (n1 c1:Nat) (A2:Option Addr) (n2 c2:Nat) (b2:Bool) (A3:Option Addr) (n3 c3:Nat) (A4:Option Addr) (n4 c4:Nat) (K:Bool->Option Addr->Nat->Nat->Option Addr->Nat->Nat->World->Prop) (w:World) (H:Fz b1 A1 n1 c1 A2 n2 c2 b2 A3 n3 c3 A4 n4 c4 K w):Calls P F.wJ #[.agg #[.bool b1,.slice A1 n1 c1,.slice A2 n2 c2],.agg #[.bool b2,.slice A3 n3 c3,.slice A4 n4 c4]] w (aS fun v w'=>∃b3,∃A5 n5 c5,∃A6 n6 c6,v=(.agg #[.bool b3,.slice A5 n5 c5,.slice A6 n6 c6])/\K b3 A5 n5 c5 A6 n6 c6 w'):=by
 unfold Fz at H;refine aY (P:=P) Tryz.func197 rfl [(0,.agg #[.bool b1,.slice A1 n1 c1,.slice A2 n2 c2]),(1,.agg #[.bool b2,.slice A3 n3 c3,.slice A4 n4 c4])] 53 rfl rfl (aa rfl (aa rfl az)) (aB (aA (fM (f:=(fun p=> .pointer (some p))) rfl rfl (aF rfl) (fun a ha=>tN (ha.ev rfl) uD) ?_)));intro p1 w1 hN;replace H:=H _ _ hN;refine fM (f:=(fun p=> .pointer (some p))) rfl rfl (aF rfl) (fun a ha=>tN (ha.ev rfl) uD) ?_;intro p2 w2 hN;replace H:=H _ _ hN;refine fM (f:=(fun p=> .pointer (some p))) rfl rfl (aF rfl) (fun a ha=>dR (dV TF.dY)) ?_;intro p3 w3 hN;replace H:=H _ _ hN;refine aC (nc (y3 2 3 4 rfl) (aB (aA (fa rfl (TF.fQ _ _) ?_))));obtain⟨A7,n7,c7,h4,H⟩:=H;refine ld rfl (aJ TF.iE h4) (fa rfl (TF.fB _ _) ?_);obtain⟨A8,n8,c8,h5,H⟩:=H;refine ld rfl (aJ TF.iE h5) (sc rfl rfl FF.fG H ?_);rintro _ w4 ⟨A9,n9,c9,rfl,H⟩;refine ag rfl (aC (nc (y4 2 3 4 5 rfl) (aB (aA (fa rfl (TF.fQ _ _) ?_)))));obtain⟨A10,n10,c10,h6,H⟩:=H;refine ld rfl (aJ TF.iE h6) (fa rfl (TF.fB _ _) ?_);obtain⟨A11,n11,c11,h7,H⟩:=H;refine ld rfl (aJ TF.iE h7) (sc rfl rfl FF.fG H ?_);rintro _ w5 ⟨A12,n12,c12,rfl,H⟩;refine ag rfl (aC (nc (y5 2 3 4 5 6 rfl) (aB (aA (fa rfl (TF.fB _ _) ?_)))));obtain⟨A13,n13,c13,h8,H⟩:=H;refine ld rfl (aJ TF.iE h8) (fa rfl (TF.fB _ _) ?_);obtain⟨A14,n14,c14,h9,H⟩:=H;refine ld rfl (aJ TF.iE h9) (sc rfl rfl FF.fG H ?_);rintro _ w6 ⟨A15,n15,c15,rfl,H⟩;refine ag rfl (aC (nc (y6 2 3 4 5 6 7 rfl) (aB (aB (aA (fa rfl (TF.fA _ _) ?_))))));obtain⟨b4,h10,H⟩:=H;refine ld rfl (aJ TF.gU h10) (fa rfl (TF.fA _ _) ?_);obtain⟨b5,h11,H⟩:=H;refine ld rfl (aJ TF.gU h11) (bo rfl rfl (aBh TF.Hu) (aC (nc (y7 2 3 4 5 6 7 27 rfl) ?_)));refine aK rfl (fun hb=> ?_) (fun hb=> ?_)
 ·replace H:=H.1 hb;refine dI (fun a w=>Ok 53 [(4,.pointer (some p3))] a/\sV p3 K w) ?_ ?_
  ·rintro a w15 ⟨ha,H⟩;unfold sV at H;refine cu ha ?_;refine aW (aI ?_);obtain⟨b8,A19,n19,c19,A20,n20,c20,h18,H⟩:=H;exact aG (Me rfl (mG (vs:=[.bool b8,.slice A19 n19 c19,.slice A20 n20 c20]) rfl TF.bP TF.aQ h18)) ⟨_,rfl,_,_,_,_,_,_,_,rfl,H⟩
  ·obtain⟨X1,H⟩:=H;refine iI follows X1 [0,1,2,3,5] [1] 8 rfl rfl (by kernel_rfl) (fun _ _ d _ _ h=>by cases d<;>exact h) (fun cm W D=> ?_);refine Nw 0 cm rfl rfl (TF.fA _ _) D W fun _ D W=> ?_;obtain⟨b6,h12,hx',H⟩:=H;replace h12:=And.intro h12 hx';clear hx';refine vl 1 cm rfl rfl (fun hw=>(aJ TF.gU (hw.cell h12))) D W fun _ D W=>(lU 2 cm rfl rfl D W fun _ D W=>(lU 3 cm rfl rfl D W fun _ D W=>(lU 5 cm rfl rfl D W fun _ D W=>(ar 4 ?_))));replace H:=H _ D;refine iZ rfl rfl rfl (aF rfl) (xc rfl rfl FF.He) rfl true (by kernel_rfl) H ?_;rintro _ w7 ⟨A16,n16,c16,rfl,H⟩ _ D;have W:=H.1.drawn D;replace H:=H.2;refine⟨fun _=>W,?_⟩;refine ar 6 ?_;replace H:=H _ D;refine iZ rfl rfl rfl (aF rfl) (xc rfl rfl FF.iQ) rfl false (by kernel_rfl) H ?_;rintro _ w10 ⟨b7,A17,n17,c17,A18,n18,c18,rfl,H⟩ _ D;refine⟨fun h=>(by cases h),?_⟩;refine ar 7 ?_;obtain⟨h17,H⟩:=H _ D;refine oM rfl rfl (aF rfl) (xs rfl rfl (cO TF.aQ (by simp[Value.oneCell']) h17)) rfl false (by kernel_rfl) ?_;intro w13 hw _ D;replace H:=H _ hw;clear hw;refine⟨fun h=>(by cases h),?_⟩;refine dU (by kernel_rfl) D ?_;intro w14 D;replace H:=H _ D;clear D cm;exact aT fun a ha=>⟨ha.weaken cs,H⟩
 ·replace H:=H.2 hb;refine aN (nc (y6 2 3 4 5 6 7 rfl) (aB (aB (aA (mv rfl (mv rfl (sc rfl rfl FF.iK H ?_)))))));rintro _ w17 ⟨x1,rfl,H⟩;refine bo rfl rfl Nr (aC (nc (y7 2 3 4 5 6 7 38 rfl) ?_));refine aK rfl (fun hb=> ?_) (fun hb=> ?_)
  ·replace H:=H.1 hb;refine dI (fun a w=>Ok 53 [(4,.pointer (some p3))] a/\rZ p3 K w) ?_ ?_
   ·rintro a w26 ⟨ha,H⟩;unfold rZ at H;refine cu ha ?_;refine aW (aI ?_);obtain⟨b11,A24,n24,c24,A25,n25,c25,h25,H⟩:=H;exact aG (Me rfl (mG (vs:=[.bool b11,.slice A24 n24 c24,.slice A25 n25 c25]) rfl TF.bP TF.aQ h25)) ⟨_,rfl,_,_,_,_,_,_,_,rfl,H⟩
   ·obtain⟨X2,H⟩:=H;refine iI follows X2 [0,1,2,3,5] [1] 8 rfl rfl (by kernel_rfl) (fun _ _ d _ _ h=>by cases d<;>exact h) (fun cm W D=> ?_);refine Nw 0 cm rfl rfl (TF.fA _ _) D W fun _ D W=> ?_;obtain⟨b9,h19,hx',H⟩:=H;replace h19:=And.intro h19 hx';clear hx';refine vl 1 cm rfl rfl (fun hw=>(aJ TF.gU (hw.cell h19))) D W fun _ D W=>(lU 2 cm rfl rfl D W fun _ D W=>(lU 3 cm rfl rfl D W fun _ D W=>(lU 5 cm rfl rfl D W fun _ D W=>(ar 4 ?_))));replace H:=H _ D;refine iZ rfl rfl rfl (aF rfl) (xc rfl rfl FF.nI) rfl true (by kernel_rfl) H ?_;rintro _ w18 ⟨A21,n21,c21,rfl,H⟩ _ D;have W:=H.1.drawn D;replace H:=H.2;refine⟨fun _=>W,?_⟩;refine ar 6 ?_;replace H:=H _ D;refine iZ rfl rfl rfl (aF rfl) (xc rfl rfl FF.iQ) rfl false (by kernel_rfl) H ?_;rintro _ w21 ⟨b10,A22,n22,c22,A23,n23,c23,rfl,H⟩ _ D;refine⟨fun h=>(by cases h),?_⟩;refine ar 7 ?_;obtain⟨h24,H⟩:=H _ D;refine oM rfl rfl (aF rfl) (xs rfl rfl (cO TF.aQ (by simp[Value.oneCell']) h24)) rfl false (by kernel_rfl) ?_;intro w24 hw _ D;replace H:=H _ hw;clear hw;refine⟨fun h=>(by cases h),?_⟩;refine dU (by kernel_rfl) D ?_;intro w25 D;replace H:=H _ D;clear D cm;exact aT fun a ha=>⟨ha.weaken cs,H⟩
  ·replace H:=H.2 hb;refine aN (nc (y5 3 4 5 6 7 rfl) ?_);refine dI (fun a w=>Ok 53 [(4,.pointer (some p3))] a/\tJ p3 K w) ?_ ?_
   ·rintro a w36 ⟨ha,H⟩;unfold tJ at H;refine cu ha ?_;refine aW ?_;obtain⟨b14,A29,n29,c29,A30,n30,c30,h32,H⟩:=H;exact aG (Me rfl (mG (vs:=[.bool b14,.slice A29 n29 c29,.slice A30 n30 c30]) rfl TF.bP TF.aQ h32)) ⟨_,rfl,_,_,_,_,_,_,_,rfl,H⟩
   ·obtain⟨X3,H⟩:=H;refine iI follows X3 [0,1,2,3,5] [1] 8 rfl rfl (by kernel_rfl) (fun _ _ d _ _ h=>by cases d<;>exact h) (fun cm W D=> ?_);refine Nw 0 cm rfl rfl (TF.fA _ _) D W fun _ D W=> ?_;obtain⟨b12,h26,hx',H⟩:=H;replace h26:=And.intro h26 hx';clear hx';refine vl 1 cm rfl rfl (fun hw=>(aJ TF.gU (hw.cell h26))) D W fun _ D W=>(lU 2 cm rfl rfl D W fun _ D W=>(lU 3 cm rfl rfl D W fun _ D W=>(lU 5 cm rfl rfl D W fun _ D W=>(ar 4 ?_))));replace H:=H _ D;refine iZ rfl rfl rfl (aF rfl) (xc rfl rfl FF.nI) rfl true (by kernel_rfl) H ?_;rintro _ w28 ⟨A26,n26,c26,rfl,H⟩ _ D;have W:=H.1.drawn D;replace H:=H.2;refine⟨fun _=>W,?_⟩;refine ar 6 ?_;replace H:=H _ D;refine iZ rfl rfl rfl (aF rfl) (xc rfl rfl FF.iQ) rfl false (by kernel_rfl) H ?_;rintro _ w31 ⟨b13,A27,n27,c27,A28,n28,c28,rfl,H⟩ _ D;refine⟨fun h=>(by cases h),?_⟩;refine ar 7 ?_;obtain⟨h31,H⟩:=H _ D;refine oM rfl rfl (aF rfl) (xs rfl rfl (cO TF.aQ (by simp[Value.oneCell']) h31)) rfl false (by kernel_rfl) ?_;intro w34 hw _ D;replace H:=H _ hw;clear hw;refine⟨fun h=>(by cases h),?_⟩;refine dU (by kernel_rfl) D ?_;intro w35 D;replace H:=H _ D;clear D cm;exact aT fun a ha=>⟨ha.weaken cs,H⟩
def sN (p3:Addr) (K:Bool->Option Addr->Nat->Nat->Option Addr->Nat->Nat->World->Prop) (w12:World):Prop:=
 ∃b8,∃A15 n15 c15,∃A16 n16 c16,bC w12 p3 [.bool b8,.slice A15 n15 c15,.slice A16 n16 c16]/\(K b8 A15 n15 c15 A16 n16 c16 w12)
def Gs (b1:Bool) (A1:Option Addr) (n1 c1:Nat) (A2:Option Addr) (n2 c2:Nat) (b2:Bool) (A3:Option Addr) (n3 c3:Nat) (A4:Option Addr) (n4 c4:Nat) (K:Bool->Option Addr->Nat->Nat->Option Addr->Nat->Nat->World->Prop) (w:World):Prop:=
 ∀(p1:Addr) (w1:World),New w (.cells #[.bool b1,.slice A1 n1 c1,.slice A2 n2 c2] T.bM) p1 w1->(∀(p2:Addr) (w2:World),New w1 (.cells #[.bool b2,.slice A3 n3 c3,.slice A4 n4 c4] T.bM) p2 w2->(∀(p3:Addr) (w3:World),New w2 (.cells #[.bool false,.slice none 0 0,.slice none 0 0] T.bM) p3 w3->(∃X1:Nat->Prop,∃b4,∃A7 n7 c7,∃A8 n8 c8,bC w3 p1 [.bool b4,.slice A7 n7 c7,.slice A8 n8 c8]/\¬X1 p1.block/\∃b5,∃A9 n9 c9,∃A10 n10 c10,bC w3 p2 [.bool b5,.slice A9 n9 c9,.slice A10 n10 c10]/\∀w5,aP w3 w5->Calls P F.xX #[.agg #[.bool b5,.slice A9 n9 c9,.slice A10 n10 c10]] w5 (aS fun v1 w4=>∃b6,∃A11 n11 c11,∃A12 n12 c12,v1=(.agg #[.bool b6,.slice A11 n11 c11,.slice A12 n12 c12])/\Keep X1 w3 w4/\∀w8,aP w4 w8->Calls P F.wJ #[.agg #[.bool b4,.slice A7 n7 c7,.slice A8 n8 c8],.agg #[.bool b6,.slice A11 n11 c11,.slice A12 n12 c12]] w8 (aS fun v2 w7=>∃b7,∃A13 n13 c13,∃A14 n14 c14,v2=(.agg #[.bool b7,.slice A13 n13 c13,.slice A14 n14 c14])/\∀w13,aP w7 w13->jR w13 p3 3/\∀w10,w10=aX w13 p3 [.bool b7,.slice A13 n13 c13,.slice A14 n14 c14]->(∀w11,aP w10 w11->((sN p3 K) w11)))))))
theorem Vx (b1:Bool) (A1:Option Addr) (n1 c1:Nat) (A2:Option Addr) (n2 c2:Nat) (b2:Bool) (A3:Option Addr) (n3 c3:Nat) (A4:Option Addr) (n4 c4:Nat) (K:Bool->Option Addr->Nat->Nat->Option Addr->Nat->Nat->World->Prop) (w:World) (H:Gs b1 A1 n1 c1 A2 n2 c2 b2 A3 n3 c3 A4 n4 c4 K w):Calls P F.rF #[.agg #[.bool b1,.slice A1 n1 c1,.slice A2 n2 c2],.agg #[.bool b2,.slice A3 n3 c3,.slice A4 n4 c4]] w (aS fun v w'=>∃b3,∃A5 n5 c5,∃A6 n6 c6,v=(.agg #[.bool b3,.slice A5 n5 c5,.slice A6 n6 c6])/\K b3 A5 n5 c5 A6 n6 c6 w'):=by
 unfold Gs at H;refine aY (P:=P) Tryz.func157 rfl [(0,.agg #[.bool b1,.slice A1 n1 c1,.slice A2 n2 c2]),(1,.agg #[.bool b2,.slice A3 n3 c3,.slice A4 n4 c4])] 9 rfl rfl (aa rfl (aa rfl az)) (aB (aA (fM (f:=(fun p=> .pointer (some p))) rfl rfl (aF rfl) (fun a ha=>tN (ha.ev rfl) uD) ?_)));intro p1 w1 hN;replace H:=H _ _ hN;refine fM (f:=(fun p=> .pointer (some p))) rfl rfl (aF rfl) (fun a ha=>tN (ha.ev rfl) uD) ?_;intro p2 w2 hN;replace H:=H _ _ hN;refine fM (f:=(fun p=> .pointer (some p))) rfl rfl (aF rfl) (fun a ha=>dR (dV TF.dY)) ?_;intro p3 w3 hN;replace H:=H _ _ hN;refine aC (nc (y3 2 3 4 rfl) ?_);refine dI (fun a w=>Ok 9 [(4,.pointer (some p3))] a/\sN p3 K w) ?_ ?_
 ·rintro a w12 ⟨ha,H⟩;unfold sN at H;refine cu ha ?_;refine aW ?_;obtain⟨b8,A15,n15,c15,A16,n16,c16,h11,H⟩:=H;exact aG (Me rfl (mG (vs:=[.bool b8,.slice A15 n15 c15,.slice A16 n16 c16]) rfl TF.bP TF.aQ h11)) ⟨_,rfl,_,_,_,_,_,_,_,rfl,H⟩
 ·obtain⟨X1,H⟩:=H;refine iI follows X1 [0,1] [0] 5 rfl rfl (by kernel_rfl) (fun _ _ d _ _ h=>by cases d<;>exact h) (fun cm W D=> ?_);obtain⟨b4,A7,n7,c7,A8,n8,c8,h4,hx',H⟩:=H;replace h4:=And.intro h4 hx';clear hx';refine vl 0 cm rfl rfl (fun hw=>(gG (vs:=[.bool b4,.slice A7 n7 c7,.slice A8 n8 c8]) TF.bP TF.aQ (hw.cells h4))) D W fun _ D W=> ?_;obtain⟨b5,A9,n9,c9,A10,n10,c10,h5,H⟩:=H;refine aJc (E:=aP w3) (i:=1) cm (fun _ _=>aP.trans) rfl (by kernel_rfl) D rfl rfl (aF rfl) (fun w' hw a ha=>Ey (ha.ev rfl) (gG (vs:=[.bool b5,.slice A9 n9 c9,.slice A10 n10 c10]) TF.bP TF.aQ (hw.cells h5))) rfl ?_;intro _ hd;replace D:=D.trans hd;replace W:=cm.held _ _ W hd;clear hd;refine ar 2 ?_;replace H:=H _ D;refine iZ rfl rfl rfl (aF rfl) (xc rfl rfl FF.Ky) rfl true (by kernel_rfl) H ?_;rintro _ w4 ⟨b6,A11,n11,c11,A12,n12,c12,rfl,H⟩ _ D;have W:=H.1.drawn D;replace H:=H.2;refine⟨fun _=>W,?_⟩;refine ar 3 ?_;replace H:=H _ D;refine iZ rfl rfl rfl (aF rfl) (xc rfl rfl FF.Jk) rfl false (by kernel_rfl) H ?_;rintro _ w7 ⟨b7,A13,n13,c13,A14,n14,c14,rfl,H⟩ _ D;refine⟨fun h=>(by cases h),?_⟩;refine ar 4 ?_;obtain⟨h10,H⟩:=H _ D;refine oM rfl rfl (aF rfl) (xs rfl rfl (cO TF.aQ (by simp[Value.oneCell']) h10)) rfl false (by kernel_rfl) ?_;intro w10 hw _ D;replace H:=H _ hw;clear hw;refine⟨fun h=>(by cases h),?_⟩;refine dU (by kernel_rfl) D ?_;intro w11 D;replace H:=H _ D;clear D cm;exact aT fun a ha=>⟨ha.weaken cs,H⟩
def sZ (p3:Addr) (K:Bool->Option Addr->Nat->Nat->Option Addr->Nat->Nat->World->Prop) (w15:World):Prop:=
 ∃b7,∃A15 n15 c15,∃A16 n16 c16,bC w15 p3 [.bool b7,.slice A15 n15 c15,.slice A16 n16 c16]/\(K b7 A15 n15 c15 A16 n16 c16 w15)
def Gq (b1:Bool) (A1:Option Addr) (n1 c1:Nat) (A2:Option Addr) (n2 c2:Nat) (b2:Bool) (A3:Option Addr) (n3 c3:Nat) (A4:Option Addr) (n4 c4:Nat) (K:Bool->Option Addr->Nat->Nat->Option Addr->Nat->Nat->World->Prop) (w:World):Prop:=
 ∀(p1:Addr) (w1:World),New w (.cells #[.bool b1,.slice A1 n1 c1,.slice A2 n2 c2] T.bM) p1 w1->(∀(p2:Addr) (w2:World),New w1 (.cells #[.bool b2,.slice A3 n3 c3,.slice A4 n4 c4] T.bM) p2 w2->(∀(p3:Addr) (w3:World),New w2 (.cells #[.bool false,.slice none 0 0,.slice none 0 0] T.bM) p3 w3->(∃X1:Nat->Prop,∃b4,w3.cell? (p1.add 0)=some (.bool b4)/\¬X1 (p1.add 0).block/\∃b5,w3.cell? (p2.add 0)=some (.bool b5)/\¬X1 (p2.add 0).block/\∃A7 n7 c7,w3.cell? (p1.add 1)=some (.slice A7 n7 c7)/\∃A8 n8 c8,w3.cell? (p2.add 2)=some (.slice A8 n8 c8)/\∃A9 n9 c9,w3.cell? (p1.add 2)=some (.slice A9 n9 c9)/\¬X1 (p1.add 2).block/\∃A10 n10 c10,w3.cell? (p2.add 1)=some (.slice A10 n10 c10)/\¬X1 (p2.add 1).block/\∀w5,aP w3 w5->Calls P F.gI #[.slice A7 n7 c7,.slice A8 n8 c8] w5 (aS fun v1 w4=>∃A11 n11 c11,v1=(.slice A11 n11 c11)/\Keep X1 w3 w4/\∀w8,aP w4 w8->Calls P F.gI #[.slice A9 n9 c9,.slice A10 n10 c10] w8 (aS fun v2 w7=>∃A12 n12 c12,v2=(.slice A12 n12 c12)/\Keep X1 w3 w7/\∀w11,aP w7 w11->Calls P F.jF #[.bool (decide (b4≠b5)),.slice A11 n11 c11,.slice A12 n12 c12] w11 (aS fun v3 w10=>∃b6,∃A13 n13 c13,∃A14 n14 c14,v3=(.agg #[.bool b6,.slice A13 n13 c13,.slice A14 n14 c14])/\∀w16,aP w10 w16->jR w16 p3 3/\∀w13,w13=aX w16 p3 [.bool b6,.slice A13 n13 c13,.slice A14 n14 c14]->(∀w14,aP w13 w14->((sZ p3 K) w14))))))))
theorem Vf (b1:Bool) (A1:Option Addr) (n1 c1:Nat) (A2:Option Addr) (n2 c2:Nat) (b2:Bool) (A3:Option Addr) (n3 c3:Nat) (A4:Option Addr) (n4 c4:Nat) (K:Bool->Option Addr->Nat->Nat->Option Addr->Nat->Nat->World->Prop) (w:World) (H:Gq b1 A1 n1 c1 A2 n2 c2 b2 A3 n3 c3 A4 n4 c4 K w):Calls P F.wP #[.agg #[.bool b1,.slice A1 n1 c1,.slice A2 n2 c2],.agg #[.bool b2,.slice A3 n3 c3,.slice A4 n4 c4]] w (aS fun v w'=>∃b3,∃A5 n5 c5,∃A6 n6 c6,v=(.agg #[.bool b3,.slice A5 n5 c5,.slice A6 n6 c6])/\K b3 A5 n5 c5 A6 n6 c6 w'):=by
 unfold Gq at H;refine aY (P:=P) Tryz.func160 rfl [(0,.agg #[.bool b1,.slice A1 n1 c1,.slice A2 n2 c2]),(1,.agg #[.bool b2,.slice A3 n3 c3,.slice A4 n4 c4])] 21 rfl rfl (aa rfl (aa rfl az)) (aB (aA (fM (f:=(fun p=> .pointer (some p))) rfl rfl (aF rfl) (fun a ha=>tN (ha.ev rfl) uD) ?_)));intro p1 w1 hN;replace H:=H _ _ hN;refine fM (f:=(fun p=> .pointer (some p))) rfl rfl (aF rfl) (fun a ha=>tN (ha.ev rfl) uD) ?_;intro p2 w2 hN;replace H:=H _ _ hN;refine fM (f:=(fun p=> .pointer (some p))) rfl rfl (aF rfl) (fun a ha=>dR (dV TF.dY)) ?_;intro p3 w3 hN;replace H:=H _ _ hN;refine aC (nc (y3 2 3 4 rfl) ?_);refine dI (fun a w=>Ok 21 [(4,.pointer (some p3))] a/\sZ p3 K w) ?_ ?_
 ·rintro a w15 ⟨ha,H⟩;unfold sZ at H;refine cu ha ?_;refine aW ?_;obtain⟨b7,A15,n15,c15,A16,n16,c16,h17,H⟩:=H;exact aG (Me rfl (mG (vs:=[.bool b7,.slice A15 n15 c15,.slice A16 n16 c16]) rfl TF.bP TF.aQ h17)) ⟨_,rfl,_,_,_,_,_,_,_,rfl,H⟩
 ·obtain⟨X1,H⟩:=H;refine iI follows X1 [0,1,2,3,4,5,6,7,8,10,11,12,13] [1,3,11,13] 17 rfl rfl (by kernel_rfl) (fun _ _ d _ _ h=>by cases d<;>exact h) (fun cm W D=> ?_);refine Nw 0 cm rfl rfl (TF.fA _ _) D W fun _ D W=> ?_;obtain⟨b4,h4,hx',H⟩:=H;replace h4:=And.intro h4 hx';clear hx';refine vl 1 cm rfl rfl (fun hw=>(aJ TF.gU (hw.cell h4))) D W fun _ D W=>(Nw 2 cm rfl rfl (TF.fA _ _) D W fun _ D W=> ?_);obtain⟨b5,h5,hx',H⟩:=H;replace h5:=And.intro h5 hx';clear hx';refine vl 3 cm rfl rfl (fun hw=>(aJ TF.gU (hw.cell h5))) D W fun _ D W=>(pv 4 cm rfl rfl rfl (fun w' a ha=>dK (ha.ev rfl) (ha.ev rfl) (Oz TF.Hu)) D W fun _ D W=>(Nw 5 cm rfl rfl (TF.fQ _ _) D W fun _ D W=> ?_));obtain⟨A7,n7,c7,h6,H⟩:=H;refine aJc (E:=aP w3) (i:=6) cm (fun _ _=>aP.trans) rfl (by kernel_rfl) D rfl rfl (aF rfl) (fun w' hw a ha=>Ey (ha.ev rfl) (aJ TF.iE ((hw.cell _).trans h6))) rfl ?_;intro _ hd;replace D:=D.trans hd;replace W:=cm.held _ _ W hd;clear hd;refine Nw 7 cm rfl rfl (TF.fB _ _) D W fun _ D W=> ?_;obtain⟨A8,n8,c8,h7,H⟩:=H;refine aJc (E:=aP w3) (i:=8) cm (fun _ _=>aP.trans) rfl (by kernel_rfl) D rfl rfl (aF rfl) (fun w' hw a ha=>Ey (ha.ev rfl) (aJ TF.iE ((hw.cell _).trans h7))) rfl ?_;intro _ hd;replace D:=D.trans hd;replace W:=cm.held _ _ W hd;clear hd;refine Nw 10 cm rfl rfl (TF.fB _ _) D W fun _ D W=> ?_;obtain⟨A9,n9,c9,h8,hx',H⟩:=H;replace h8:=And.intro h8 hx';clear hx';refine vl 11 cm rfl rfl (fun hw=>(aJ TF.iE (hw.cell h8))) D W fun _ D W=>(Nw 12 cm rfl rfl (TF.fQ _ _) D W fun _ D W=> ?_);obtain⟨A10,n10,c10,h9,hx',H⟩:=H;replace h9:=And.intro h9 hx';clear hx';refine vl 13 cm rfl rfl (fun hw=>(aJ TF.iE (hw.cell h9))) D W fun _ D W=>(ar 9 ?_);replace H:=H _ D;refine iZ rfl rfl rfl (aF rfl) (xc rfl rfl FF.fG) rfl true (by kernel_rfl) H ?_;rintro _ w4 ⟨A11,n11,c11,rfl,H⟩ _ D;have W:=H.1.drawn D;replace H:=H.2;refine⟨fun _=>W,?_⟩;refine ar 14 ?_;replace H:=H _ D;refine iZ rfl rfl rfl (aF rfl) (xc rfl rfl FF.fG) rfl true (by kernel_rfl) H ?_;rintro _ w7 ⟨A12,n12,c12,rfl,H⟩ _ D;have W:=H.1.drawn D;replace H:=H.2;refine⟨fun _=>W,?_⟩;refine ar 15 ?_;replace H:=H _ D;refine iZ rfl rfl rfl (aF rfl) (xc rfl rfl FF.iQ) rfl false (by kernel_rfl) H ?_;rintro _ w10 ⟨b6,A13,n13,c13,A14,n14,c14,rfl,H⟩ _ D;refine⟨fun h=>(by cases h),?_⟩;refine ar 16 ?_;obtain⟨h16,H⟩:=H _ D;refine oM rfl rfl (aF rfl) (xs rfl rfl (cO TF.aQ (by simp[Value.oneCell']) h16)) rfl false (by kernel_rfl) ?_;intro w13 hw _ D;replace H:=H _ hw;clear hw;refine⟨fun h=>(by cases h),?_⟩;refine dU (by kernel_rfl) D ?_;intro w14 D;replace H:=H _ D;clear D cm;exact aT fun a ha=>⟨ha.weaken cs,H⟩
def Ad (b1:Bool) (A1:Option Addr) (n1 c1:Nat) (A2:Option Addr) (n2 c2:Nat) (b2:Bool) (A3:Option Addr) (n3 c3:Nat) (A4:Option Addr) (n4 c4:Nat) (K:Int->World->Prop) (w:World):Prop:=
 ∀(p1:Addr) (w1:World),New w (.cells #[.bool b1,.slice A1 n1 c1,.slice A2 n2 c2] T.bM) p1 w1->(∀(p2:Addr) (w2:World),New w1 (.cells #[.bool b2,.slice A3 n3 c3,.slice A4 n4 c4] T.bM) p2 w2->(∃b3,∃A5 n5 c5,∃A6 n6 c6,bC w2 p1 [.bool b3,.slice A5 n5 c5,.slice A6 n6 c6]/\∃b4,∃A7 n7 c7,∃A8 n8 c8,bC w2 p2 [.bool b4,.slice A7 n7 c7,.slice A8 n8 c8]/\Calls P F.rF #[.agg #[.bool b3,.slice A5 n5 c5,.slice A6 n6 c6],.agg #[.bool b4,.slice A7 n7 c7,.slice A8 n8 c8]] w2 (aS fun v1 w3=>∃b5,∃A9 n9 c9,∃A10 n10 c10,v1=(.agg #[.bool b5,.slice A9 n9 c9,.slice A10 n10 c10])/\Calls P F.nP #[.agg #[.bool b5,.slice A9 n9 c9,.slice A10 n10 c10]] w3 (aS fun v2 w4=>∃x2,v2=(.int .i64 x2)/\K x2 w4))))
theorem Ov (b1:Bool) (A1:Option Addr) (n1 c1:Nat) (A2:Option Addr) (n2 c2:Nat) (b2:Bool) (A3:Option Addr) (n3 c3:Nat) (A4:Option Addr) (n4 c4:Nat) (K:Int->World->Prop) (w:World) (H:Ad b1 A1 n1 c1 A2 n2 c2 b2 A3 n3 c3 A4 n4 c4 K w):Calls P F.qO #[.agg #[.bool b1,.slice A1 n1 c1,.slice A2 n2 c2],.agg #[.bool b2,.slice A3 n3 c3,.slice A4 n4 c4]] w (aS fun v w'=>∃x1,v=(.int .i64 x1)/\K x1 w'):=by
 unfold Ad at H;refine aY (P:=P) Tryz.func161 rfl [(0,.agg #[.bool b1,.slice A1 n1 c1,.slice A2 n2 c2]),(1,.agg #[.bool b2,.slice A3 n3 c3,.slice A4 n4 c4])] 9 rfl rfl (aa rfl (aa rfl az)) (aB (aA (fM (f:=(fun p=> .pointer (some p))) rfl rfl (aF rfl) (fun a ha=>tN (ha.ev rfl) uD) ?_)));intro p1 w1 hN;replace H:=H _ _ hN;refine fM (f:=(fun p=> .pointer (some p))) rfl rfl (aF rfl) (fun a ha=>tN (ha.ev rfl) uD) ?_;intro p2 w2 hN;replace H:=H _ _ hN;refine ag rfl (aC (nc (y2 2 3 rfl) (aB (aA ?_))));obtain⟨b3,A5,n5,c5,A6,n6,c6,h3,H⟩:=H;refine ld rfl (gG (vs:=[.bool b3,.slice A5 n5 c5,.slice A6 n6 c6]) TF.bP TF.aQ h3) ?_;obtain⟨b4,A7,n7,c7,A8,n8,c8,h4,H⟩:=H;refine ld rfl (gG (vs:=[.bool b4,.slice A7 n7 c7,.slice A8 n8 c8]) TF.bP TF.aQ h4) (sc rfl rfl FF.wX H ?_);rintro _ w3 ⟨b5,A9,n9,c9,A10,n10,c10,rfl,H⟩;refine sc rfl rfl FF.oU H ?_;rintro _ w4 ⟨x2,rfl,H⟩;exact ag rfl (aC (nc (kp 4 rfl zz) (aW (aG (res1 rfl rfl) ⟨_,rfl,_,rfl,H⟩))))
def sD (s3:ByteArray) (p1:Addr) (jc3:ByteArray->World->Prop) (b3:Bool) (w10:World):Prop:=
 (b3=true->(s3.size+(⟨#[47]⟩:ByteArray).size<=9223372036854775807/\∃A6 n6 c6,w10.cell? (p1.add 2)=some (.slice A6 n6 c6)/\Calls P F.mO #[.slice A6 n6 c6] w10 (aS fun v4 w11=>∃s4:ByteArray,v4=(.string s4)/\(s3++(⟨#[47]⟩:ByteArray)).size+s4.size<=9223372036854775807/\jc3 ((s3++(⟨#[47]⟩:ByteArray))++s4) w11)))/\(b3=false->(jc3 s3 w10))
def nC (K:ByteArray->World->Prop) (s5:ByteArray) (w12:World):Prop:=
 K s5 w12
def kC (w2:World) (p1:Addr) (K:ByteArray->World->Prop) (s3:ByteArray):Prop:=
 ∃X1:Nat->Prop,∃A4 n4 c4,w2.cell? (p1.add 2)=some (.slice A4 n4 c4)/\¬X1 (p1.add 2).block/\∀w4,aP w2 w4->Calls P F.dS #[.int .i64 1] w4 (aS fun v2 w3=>∃A5 n5 c5,v2=(.slice A5 n5 c5)/\Keep X1 w2 w3/\∀w7,aP w3 w7->Calls P F.iT #[.slice A4 n4 c4,.slice A5 n5 c5] w7 (aS fun v3 w6=>∃x1,v3=(.int .i64 x1)/\∀w9,aP w6 w9->((sD s3 p1 (nC K)) (decide (x1≠0)) w9)))
def Fv (b1:Bool) (A1:Option Addr) (n1 c1:Nat) (A2:Option Addr) (n2 c2:Nat) (K:ByteArray->World->Prop) (w:World):Prop:=
 ∀(p1:Addr) (w1:World),New w (.cells #[.bool b1,.slice A1 n1 c1,.slice A2 n2 c2] T.bM) p1 w1->(∃A3 n3 c3,w1.cell? (p1.add 1)=some (.slice A3 n3 c3)/\Calls P F.mO #[.slice A3 n3 c3] w1 (aS fun v1 w2=>∃s2:ByteArray,v1=(.string s2)/\∃b2,w2.cell? (p1.add 0)=some (.bool b2)/\(b2=true->((⟨#[45]⟩:ByteArray).size+s2.size<=9223372036854775807/\(kC w2 p1 K) ((⟨#[45]⟩:ByteArray)++s2)))/\(b2=false->((kC w2 p1 K) s2))))
theorem Vq (b1:Bool) (A1:Option Addr) (n1 c1:Nat) (A2:Option Addr) (n2 c2:Nat) (K:ByteArray->World->Prop) (w:World) (H:Fv b1 A1 n1 c1 A2 n2 c2 K w):Calls P F.nR #[.agg #[.bool b1,.slice A1 n1 c1,.slice A2 n2 c2]] w (aS fun v w'=>∃s1:ByteArray,v=(.string s1)/\K s1 w'):=by
 unfold Fv at H;refine aY (P:=P) Tryz.func156 rfl [(0,.agg #[.bool b1,.slice A1 n1 c1,.slice A2 n2 c2])] 23 rfl rfl (fun p hp=>by rcases List.mem_singleton.1 hp with rfl;rfl) (aB (aA (fM (f:=(fun p=> .pointer (some p))) rfl rfl (aF rfl) (fun a ha=>tN (ha.ev rfl) uD) ?_)));intro p1 w1 hN;replace H:=H _ _ hN;refine ag rfl (aC (nc (kp 1 rfl zz) (aB (aA (fa rfl (TF.fQ _ _) ?_)))));obtain⟨A3,n3,c3,h2,H⟩:=H;refine ld rfl (aJ TF.iE h2) (sc rfl rfl FF.uG H ?_);rintro _ w2 ⟨s2,rfl,H⟩;refine ag rfl (aC (nc (y2 1 3 rfl) ?_));refine bK (fun a=>∃s3:ByteArray,Ok 23 [(1,.pointer (some p1)),(3,.string s3)] a/\kC w2 p1 K s3) ?_ ?_
 ·rintro a ⟨s3,ha,H⟩;unfold kC at H;refine cu ha ?_;refine dI (fun a w=>∃s5:ByteArray,Ok 23 [(3,.string s5)] a/\nC K s5 w) ?_ ?_
  ·rintro a w12 ⟨s5,ha,H⟩;unfold nC at H;refine cu ha ?_;exact aB (aA (mv rfl (ag rfl (aC (nc (kp 2 rfl zz) (aW (aG (res1 rfl rfl) ⟨_,rfl,_,rfl,H⟩)))))))
  ·refine dI (fun a w=>∃b3,Ok 23 [(1,.pointer (some p1)),(3,.string s3),(15,.bool b3)] a/\sD s3 p1 (nC K) b3 w) ?_ ?_
   ·rintro a w10 ⟨b3,ha,H⟩;unfold sD at H;refine cu ha ?_;refine dG rfl (fun hb=> ?_) (fun hb=> ?_)
    ·replace H:=H.1 hb;refine aA (mv rfl ?_);obtain⟨h10,H⟩:=H;refine bo rfl rfl (wH h10) (fa rfl (TF.fB _ _) ?_);obtain⟨A6,n6,c6,h11,H⟩:=H;refine ld rfl (aJ TF.iE h11) (sc rfl rfl FF.uG H ?_);rintro _ w11 ⟨s4,rfl,H⟩;obtain⟨h12,H⟩:=H;exact bo rfl rfl (wH h12) (ag rfl (aC (aT fun a ha=>⟨(s3++(⟨#[47]⟩:ByteArray))++s4,ha.weaken cs,H⟩)))
    ·replace H:=H.2 hb;exact aN (aT fun a ha=>⟨s3,ha.weaken cs,H⟩)
   ·obtain⟨X1,H⟩:=H;refine iI follows X1 [0,1,4] [1] 5 rfl rfl (by kernel_rfl) (fun _ _ d _ _ h=>by cases d<;>exact h) (fun cm W D=> ?_);refine Nw 0 cm rfl rfl (TF.fB _ _) D W fun _ D W=> ?_;obtain⟨A4,n4,c4,h5,hx',H⟩:=H;replace h5:=And.intro h5 hx';clear hx';refine vl 1 cm rfl rfl (fun hw=>(aJ TF.iE (hw.cell h5))) D W fun _ D W=>(ar 2 ?_);replace H:=H _ D;refine iZ rfl rfl rfl (aF rfl) (xc rfl rfl FF.dF) rfl true (by kernel_rfl) H ?_;rintro _ w3 ⟨A5,n5,c5,rfl,H⟩ _ D;have W:=H.1.drawn D;replace H:=H.2;refine⟨fun _=>W,?_⟩;refine ar 3 ?_;replace H:=H _ D;refine iZ rfl rfl rfl (aF rfl) (xc rfl rfl FF.iK) rfl false (by kernel_rfl) H ?_;rintro _ w6 ⟨x1,rfl,H⟩ _ D;refine⟨fun h=>(by cases h),?_⟩;refine Ji 4 cm rfl rfl rfl (fun w' a ha=>dK (ha.ev rfl) (ha.ev rfl) zC) D fun _ D=>(dU (by kernel_rfl) D ?_);intro w9 D;replace H:=H _ D;clear D cm;exact aT fun a ha=>⟨(decide (x1≠0)),ha.weaken cs,H⟩
 ·refine aB (aA (fa rfl (TF.fA _ _) ?_));obtain⟨b2,h3,H⟩:=H;refine ld rfl (aJ TF.gU h3) (aC (nc (y3 1 3 8 rfl) ?_));refine dG rfl (fun hb=> ?_) (fun hb=> ?_)
  ·replace H:=H.1 hb;refine aA (mv rfl ?_);obtain⟨h4,H⟩:=H;exact bo rfl rfl (wH h4) (ag rfl (aC (aT fun a ha=>⟨⟨(⟨#[45]⟩:ByteArray)++s2,ha.weaken cs,H⟩,rfl⟩)))
  ·replace H:=H.2 hb;exact aN (aT fun a ha=>⟨⟨s2,ha.weaken cs,H⟩,rfl⟩)
def lH (K:Bool->World->Prop) (w:World) (k1:Nat) (I1:Nat->Int->Prop) (x1:Int) (b2:Bool):Prop:=
 (b2=true->(K false w))/\(b2=false->(∃k2,k2<k1/\I1 k2 (IntKind.wrap .i64 (x1+1))))
def jK (K:Bool->World->Prop) (w:World) (b3:Bool):Prop:=
 K b3 w
def uK (s1:ByteArray) (K:Bool->World->Prop) (w:World):Prop:=
 ∃I1:Nat->Int->Prop,(∃k1,I1 k1 0)/\∀k1 (x1:Int),I1 k1 x1->((x1<(s1.size:Int)->(0<=x1/\x1<(s1.size:Int)/\((byteAt s1 x1)<48->((lH K w k1 I1 x1) true))/\(¬((byteAt s1 x1)<48)->(0<=x1/\x1<(s1.size:Int)/\(lH K w k1 I1 x1) (decide (57<(byteAt s1 x1)))))))/\(¬(x1<(s1.size:Int))->(((s1.size:Int)=1->((jK K w) true))/\(¬((s1.size:Int)=1)->((1<(s1.size:Int)->(0<=(0:Int)/\(0:Int)<(s1.size:Int)/\(jK K w) (decide ((byteAt s1 0)≠48))))/\(¬(1<(s1.size:Int))->((jK K w) false)))))))
theorem Qy (s1:ByteArray) (K:Bool->World->Prop) (w:World) (H:uK s1 K w):Calls P F.nU #[.string s1] w (aS fun v w'=>∃b1,v=(.bool b1)/\K b1 w'):=by
 unfold uK at H;refine aY (P:=P) Tryz.func229 rfl [(0,.string s1)] 33 rfl rfl (fun p hp=>by rcases List.mem_singleton.1 hp with rfl;rfl) (aB (aA (ag rfl (aC (nc (kp 0 rfl zz) (aB (aB (aA (ag rfl (aC (nc (y2 0 3 rfl) (aV ?_))))))))))));obtain⟨I1,⟨k1,hi⟩,H⟩:=H;refine lC (fun k1 a=>∃x1,Ok 33 [(0,.string s1),(3,.int .i64 x1)] a/\I1 k1 x1) (fun a ha=>⟨k1,0,ha.weaken cs,hi⟩) ?_;rintro k1 a ⟨x1,ha,hI⟩;replace H:=H k1 x1 hI;refine cu ha ?_;refine aB (aB (aA (mv rfl (mv rfl (sv rfl rfl (xb rfl (fun _=>Nv TF.dQ)) (bo rfl rfl fO (aC (nc (y3 0 3 7 rfl) ?_))))))));refine aK rfl (fun hb=> ?_) (fun hb=> ?_)
 ·replace H:=H.1 hb;refine aN (nc (y2 0 3 rfl) (aB (aV ?_)));refine bK (fun a=>∃b2,Ok 33 [(0,.string s1),(3,.int .i64 x1),(19,.bool b2)] a/\lH K w k1 I1 x1 b2) ?_ ?_
  ·rintro a ⟨b2,ha,H⟩;unfold lH at H;refine cu ha ?_;refine dG rfl (fun hb=> ?_) (fun hb=> ?_)
   ·replace H:=H.1 hb;exact aB (aA (ag rfl (aC (nc (kp 2 rfl zz) (aW (bF (aI (aI (bF (aI (aG (res1 rfl rfl) ⟨_,rfl,_,rfl,H⟩)))))))))))
   ·replace H:=H.2 hb;refine aN (bQ (nc (y2 0 3 rfl) (aA (mv rfl (bo rfl rfl dJ (ag rfl (aC ?_)))))));obtain⟨k2,hk,H⟩:=H;exact aT fun a ha=>⟨k2,hk,⟨IntKind.wrap .i64 (x1+1),ha.weaken cs,H⟩,rfl⟩
  ·refine aA (mv rfl (mv rfl ?_));obtain⟨h2,h3,H⟩:=H;refine sv rfl rfl (fun a ha=>Om (ha.ev rfl) (ha.ev rfl) (Xe TF.dQ h2 h3)) (bo rfl rfl fO ?_);rcases Classical.em ((byteAt s1 x1)<48) with hb|hb
   ·replace H:=H.1 hb;exact sv rfl rfl (xt rfl hb) (sk rfl rfl rfl rfl (sk rfl rfl rfl rfl (sk rfl rfl rfl rfl (sk rfl rfl rfl rfl (pt rfl rfl (aC (aT fun a ha=>⟨⟨true,ha.weaken cs,H⟩,rfl⟩)))))))
   ·replace H:=H.2 hb;refine sv rfl rfl (xf rfl hb) (Kw rfl rfl rfl (Kw rfl rfl rfl ?_));obtain⟨h5,h6,H⟩:=H;exact svg rfl rfl rfl rfl (fun a ha=>Om (ha.ev rfl) (ha.ev rfl) (Xe TF.dQ h5 h6)) (Uu rfl rfl rfl rfl kF (pf rfl rfl (aC (aT fun a ha=>⟨⟨(decide (57<(byteAt s1 x1))),ha.weaken cs,H⟩,rfl⟩))))
 ·replace H:=H.2 hb;refine bW (aH (aH (aZ (nc (kp 0 rfl zz) ?_))));refine bK (fun a=>∃b3,Ok 33 [(2,.bool b3)] a/\jK K w b3) ?_ ?_
  ·rintro a ⟨b3,ha,H⟩;unfold jK at H;refine cu ha ?_;exact aW (aG (res1 rfl rfl) ⟨_,rfl,_,rfl,H⟩)
  ·refine aA (mv rfl (sv rfl rfl (xb rfl (fun _=>Nv TF.dQ)) (bo rfl rfl nN ?_)));rcases Classical.em ((s1.size:Int)=1) with hb|hb
   ·replace H:=H.1 hb;exact sv rfl rfl (xt rfl hb) (sk rfl rfl rfl rfl (sk rfl rfl rfl rfl (sk rfl rfl rfl rfl (sk rfl rfl rfl rfl (Dj rfl rfl (mW rfl rfl rfl) (Dj rfl rfl (mW rfl rfl rfl) (Dj rfl rfl (mW rfl rfl rfl) (sk rfl rfl rfl rfl (pt rfl rfl (ag rfl (aC (aT fun a ha=>⟨⟨true,ha.weaken cs,H⟩,rfl⟩))))))))))))
   ·replace H:=H.2 hb;refine sv rfl rfl (xf rfl hb) (Kw rfl rfl rfl (svg rfl rfl rfl rfl (xb rfl (fun _=>Nv TF.dQ)) (Uu rfl rfl rfl rfl kF ?_)));rcases Classical.em (1<(s1.size:Int)) with hb|hb
    ·replace H:=H.1 hb;refine svg rfl rfl rfl rfl (xt rfl hb) (Kw rfl rfl rfl ?_);obtain⟨h8,h9,H⟩:=H;exact svg rfl rfl rfl rfl (fun a ha=>Om (ha.ev rfl) (ha.ev rfl) (Xe TF.dQ h8 h9)) (Uu rfl rfl rfl rfl zC (ptg rfl rfl rfl rfl (pf rfl rfl (ag rfl (aC (aT fun a ha=>⟨⟨(decide ((byteAt s1 0)≠48)),ha.weaken cs,H⟩,rfl⟩))))))
    ·replace H:=H.2 hb;exact svg rfl rfl rfl rfl (xf rfl hb) (sk rfl rfl rfl rfl (sk rfl rfl rfl rfl (sk rfl rfl rfl rfl (pfg rfl rfl rfl rfl (pf rfl rfl (ag rfl (aC (aT fun a ha=>⟨⟨false,ha.weaken cs,H⟩,rfl⟩))))))))
def qF (s1:ByteArray) (jc2:ByteArray->Prop) (b3:Bool):Prop:=
 (b3=true->(0<=(1:Int)/\(1:Int)<=(s1.size:Int)/\jc2 (s1.extract (1:Int).toNat s1.size)))/\(b3=false->(jc2 s1))
def lK (p1:Addr) (K:Bool->Option Addr->Nat->Nat->Option Addr->Nat->Nat->Bool->World->Prop) (s5:ByteArray) (s6:ByteArray) (s2:ByteArray) (s1:ByteArray) (b5:Bool) (w3:World):Prop:=
 (b5=true->(jR w3 p1 3/\∀w5,w5=aX w3 p1 [.bool false,.slice none 0 0,.slice none 0 0]->(∃b7,∃A3 n3 c3,∃A4 n4 c4,bC w5 p1 [.bool b7,.slice A3 n3 c3,.slice A4 n4 c4]/\(K b7 A3 n3 c3 A4 n4 c4 false w5))))/\(b5=false->(Calls P F.qB #[.string s5] w3 (aS fun v3 w6=>∃A5 n5 c5,v3=(.slice A5 n5 c5)/\Calls P F.qB #[.string s6] w6 (aS fun v4 w7=>∃A6 n6 c6,v4=(.slice A6 n6 c6)/\Calls P F.jF #[(.bool (decide ((s2.size:Int)<(s1.size:Int)))),.slice A5 n5 c5,.slice A6 n6 c6] w7 (aS fun v5 w8=>∃b8,∃A7 n7 c7,∃A8 n8 c8,v5=(.agg #[.bool b8,.slice A7 n7 c7,.slice A8 n8 c8])/\∀(p2:Addr) (w9:World),New w8 (.cells #[.bool false,.slice none 0 0,.slice none 0 0] T.bM) p2 w9->(jR w9 p2 3/\∀w10,w10=aX w9 p2 [.bool b8,.slice A7 n7 c7,.slice A8 n8 c8]->(∃b9,∃A9 n9 c9,∃A10 n10 c10,bC w10 p2 [.bool b9,.slice A9 n9 c9,.slice A10 n10 c10]/\Calls P F.nR #[.agg #[.bool b9,.slice A9 n9 c9,.slice A10 n10 c10]] w10 (aS fun v6 w11=>∃s7:ByteArray,v6=(.string s7)/\(s7≠s1->(jR w11 p1 3/\∀w12,w12=aX w11 p1 [.bool false,.slice none 0 0,.slice none 0 0]->(∃b10,∃A11 n11 c11,∃A12 n12 c12,bC w12 p1 [.bool b10,.slice A11 n11 c11,.slice A12 n12 c12]/\(K b10 A11 n11 c11 A12 n12 c12 false w12))))/\(¬(s7≠s1)->(∃b11,∃A13 n13 c13,∃A14 n14 c14,bC w11 p2 [.bool b11,.slice A13 n13 c13,.slice A14 n14 c14]/\jR w11 p1 3/\∀w13,w13=aX w11 p1 [.bool b11,.slice A13 n13 c13,.slice A14 n14 c14]->(∃b12,∃A15 n15 c15,∃A16 n16 c16,bC w13 p1 [.bool b12,.slice A15 n15 c15,.slice A16 n16 c16]/\(K b12 A15 n15 c15 A16 n16 c16 true w13))))))))))))
def lM (w1:World) (p1:Addr) (K:Bool->Option Addr->Nat->Nat->Option Addr->Nat->Nat->Bool->World->Prop) (s2:ByteArray) (s1:ByteArray) (s5:ByteArray) (s6:ByteArray):Prop:=
 Calls P F.nU #[.string s5] w1 (aS fun v1 w2=>∃b4,v1=(.bool b4)/\((!b4)=true->((lK p1 K s5 s6 s2 s1) true w2))/\((!b4)=false->(Calls P F.nU #[.string s6] w2 (aS fun v2 w4=>∃b6,v2=(.bool b6)/\((!b6)=true->((lK p1 K s5 s6 s2 s1) true w4))/\((!b6)=false->((lK p1 K s5 s6 s2 s1) (decide (s6=⟨#[48]⟩)) w4))))))
def iR (w1:World) (p1:Addr) (K:Bool->Option Addr->Nat->Nat->Option Addr->Nat->Nat->Bool->World->Prop) (s1:ByteArray) (s2:ByteArray):Prop:=
 ∃I1:Nat->ByteArray->ByteArray->Int->Prop,(∃k1,I1 k1 s2 ⟨#[49]⟩ 0)/\∀k1 (s3:ByteArray) (s4:ByteArray) (x2:Int),I1 k1 s3 s4 x2->((x2<(s2.size:Int)->(0<=x2/\x2<(s2.size:Int)/\((byteAt s2 x2)=47->(0<=x2/\x2<=(s2.size:Int)/\0<=IntKind.wrap .i64 (x2+1)/\IntKind.wrap .i64 (x2+1)<=(s2.size:Int)/\(lM w1 p1 K s2 s1) (s2.extract 0 x2.toNat) (s2.extract (IntKind.wrap .i64 (x2+1)).toNat s2.size)))/\(¬((byteAt s2 x2)=47)->(∃k2,k2<k1/\I1 k2 s3 s4 (IntKind.wrap .i64 (x2+1))))))/\(¬(x2<(s2.size:Int))->((lM w1 p1 K s2 s1) s3 s4)))
def Ko (s1:ByteArray) (K:Bool->Option Addr->Nat->Nat->Option Addr->Nat->Nat->Bool->World->Prop) (w:World):Prop:=
 ∀(p1:Addr) (w1:World),New w (.cells #[.bool false,.slice none 0 0,.slice none 0 0] T.bM) p1 w1->((0<(s1.size:Int)->(0<=(0:Int)/\(0:Int)<(s1.size:Int)/\(qF s1 (iR w1 p1 K s1)) (decide ((byteAt s1 0)=45))))/\(¬(0<(s1.size:Int))->((qF s1 (iR w1 p1 K s1)) false)))
theorem Yv (s1:ByteArray) (K:Bool->Option Addr->Nat->Nat->Option Addr->Nat->Nat->Bool->World->Prop) (w:World) (H:Ko s1 K w):Calls P F.vT #[.string s1] w (aS fun v w'=>∃b1,∃A1 n1 c1,∃A2 n2 c2,∃b2,v=(.tuple #[.agg #[.bool b1,.slice A1 n1 c1,.slice A2 n2 c2],.bool b2])/\K b1 A1 n1 c1 A2 n2 c2 b2 w'):=by
 unfold Ko at H;refine aY (P:=P) Tryz.func199 rfl [(0,.string s1)] 67 rfl rfl (fun p hp=>by rcases List.mem_singleton.1 hp with rfl;rfl) (aB (aA (fM (f:=(fun p=> .pointer (some p))) rfl rfl (aF rfl) (fun a ha=>dR (dV TF.dY)) ?_)));intro p1 w1 hN;replace H:=H _ _ hN;refine ag rfl (aC (nc (y2 0 2 rfl) (aB (aA (mv rfl (ag rfl (aC (nc (y3 0 2 4 rfl) ?_))))))));refine bK (fun a=>∃s2:ByteArray,Ok 67 [(0,.string s1),(2,.pointer (some p1)),(4,.string s2)] a/\iR w1 p1 K s1 s2) ?_ ?_
 ·rintro a ⟨s2,ha,H⟩;unfold iR at H;refine cu ha ?_;refine aB (aA (mv rfl (ag rfl (aC (nc (y4 0 2 4 5 rfl) (aB (aA (ag rfl (aC (nc (y5 0 2 4 5 6 rfl) ?_))))))))));refine bK (fun a=>∃s5:ByteArray,∃s6:ByteArray,Ok 67 [(0,.string s1),(2,.pointer (some p1)),(4,.string s2),(5,.string s5),(6,.string s6)] a/\lM w1 p1 K s2 s1 s5 s6) ?_ ?_
  ·rintro a ⟨s5,s6,ha,H⟩;unfold lM at H;refine cu ha ?_;refine aB ?_;refine dI (fun a w=>∃b5,Ok 67 [(0,.string s1),(2,.pointer (some p1)),(4,.string s2),(5,.string s5),(6,.string s6),(49,.bool b5)] a/\lK p1 K s5 s6 s2 s1 b5 w) ?_ ?_
   ·rintro a w3 ⟨b5,ha,H⟩;unfold lK at H;refine cu ha ?_;refine dG rfl (fun hb=> ?_) (fun hb=> ?_)
    ·replace H:=H.1 hb;refine aB (aA (sv rfl rfl (xp (.agg #[.bool false,.slice none 0 0,.slice none 0 0]) rfl) ?_));obtain⟨h20,H⟩:=H;refine gX rfl (aF rfl) (xs rfl rfl (cO TF.aQ (by simp[Value.oneCell']) h20)) ?_;intro w5 hw;replace H:=H _ hw;clear hw;refine ag rfl (aC (nc (y2 2 3 rfl) (aW (aI ?_))));obtain⟨b7,A3,n3,c3,A4,n4,c4,h21,H⟩:=H;exact aG (aH9 rfl (mG (vs:=[.bool b7,.slice A3 n3 c3,.slice A4 n4 c4]) rfl TF.bP TF.aQ h21) (aFm rfl)) ⟨_,rfl,_,_,_,_,_,_,_,_,rfl,H⟩
    ·replace H:=H.2 hb;refine aN (nc (y5 0 2 4 5 6 rfl) (aB (aA (mv rfl (sv rfl rfl (xb rfl (fun _=>Nv TF.dQ)) (mv rfl (sv rfl rfl (xb rfl (fun _=>Nv TF.dQ)) (bo rfl rfl fO (mv rfl (sc rfl rfl FF.vN H ?_))))))))));rintro _ w6 ⟨A5,n5,c5,rfl,H⟩;refine mv rfl (sc rfl rfl FF.vN H ?_);rintro _ w7 ⟨A6,n6,c6,rfl,H⟩;refine sc rfl rfl FF.iQ H ?_;rintro _ w8 ⟨b8,A7,n7,c7,A8,n8,c8,rfl,H⟩;refine fM (f:=(fun p=> .pointer (some p))) rfl rfl (aF rfl) (fun a ha=>dR (dV TF.dY)) ?_;intro p2 w9 hN;obtain⟨h23,H⟩:=H _ _ hN;refine gX rfl (aF rfl) (xs rfl rfl (cO TF.aQ (by simp[Value.oneCell']) h23)) ?_;intro w10 hw;replace H:=H _ hw;clear hw;refine aC (nc (y3 0 2 8 rfl) (aB (aB (aA ?_))));obtain⟨b9,A9,n9,c9,A10,n10,c10,h24,H⟩:=H;refine ld rfl (gG (vs:=[.bool b9,.slice A9 n9 c9,.slice A10 n10 c10]) TF.bP TF.aQ h24) (sc rfl rfl FF.oP H ?_);rintro _ w11 ⟨s7,rfl,H⟩;refine mv rfl (bo rfl rfl rW (aC (nc (y3 2 8 64 rfl) ?_)));refine aK rfl (fun hb=> ?_) (fun hb=> ?_)
     ·replace H:=H.1 hb;refine aB (aA (sv rfl rfl (xp (.agg #[.bool false,.slice none 0 0,.slice none 0 0]) rfl) ?_));obtain⟨h25,H⟩:=H;refine gX rfl (aF rfl) (xs rfl rfl (cO TF.aQ (by simp[Value.oneCell']) h25)) ?_;intro w12 hw;replace H:=H _ hw;clear hw;refine ag rfl (aC (nc (y2 2 3 rfl) (aW (aI ?_))));obtain⟨b10,A11,n11,c11,A12,n12,c12,h26,H⟩:=H;exact aG (aH9 rfl (mG (vs:=[.bool b10,.slice A11 n11 c11,.slice A12 n12 c12]) rfl TF.bP TF.aQ h26) (aFm rfl)) ⟨_,rfl,_,_,_,_,_,_,_,_,rfl,H⟩
     ·replace H:=H.2 hb;refine aN (nc (y2 2 8 rfl) (aB (aA ?_)));obtain⟨b11,A13,n13,c13,A14,n14,c14,h27,H⟩:=H;refine ld rfl (gG (vs:=[.bool b11,.slice A13 n13 c13,.slice A14 n14 c14]) TF.bP TF.aQ h27) ?_;obtain⟨h28,H⟩:=H;refine gX rfl (aF rfl) (xs rfl rfl (cO TF.aQ (by simp[Value.oneCell']) h28)) ?_;intro w13 hw;replace H:=H _ hw;clear hw;refine ag rfl (aC (nc (y2 2 3 rfl) (aW ?_)));obtain⟨b12,A15,n15,c15,A16,n16,c16,h29,H⟩:=H;exact aG (aH9 rfl (mG (vs:=[.bool b12,.slice A15 n15 c15,.slice A16 n16 c16]) rfl TF.bP TF.aQ h29) (aFm rfl)) ⟨_,rfl,_,_,_,_,_,_,_,_,rfl,H⟩
   ·refine aA (mv rfl (sc rfl rfl FF.uX H ?_));rintro _ w2 ⟨b4,rfl,H⟩;refine sv rfl rfl (xu rfl Gg) ?_;rcases tf (!b4) with hb|hb
    ·replace H:=H.1 hb;exact sv rfl rfl (fun a ha=>Ya (eU (ha.ev rfl)) hb) (sk rfl rfl rfl rfl (sk rfl rfl rfl rfl (sk rfl rfl rfl rfl (pt rfl rfl (mv rfl (sk rfl rfl rfl rfl (sk rfl rfl rfl rfl (pt rfl rfl (aC (aT fun a ha=>⟨true,ha.weaken cs,H⟩))))))))))
    ·replace H:=H.2 hb;refine sv rfl rfl (fun a ha=>Xq (eU (ha.ev rfl)) hb) (Kw rfl rfl rfl (uU rfl rfl (cZ rfl rfl rfl) (xc rfl rfl FF.uX) H ?_));rintro _ w4 ⟨b6,rfl,H⟩;refine svg rfl rfl rfl rfl (xu rfl Gg) (pf rfl rfl ?_);rcases tf (!b6) with hb|hb
     ·replace H:=H.1 hb;exact sv rfl rfl (fun a ha=>Ya (eU (ha.ev rfl)) hb) (sk rfl rfl rfl rfl (sk rfl rfl rfl rfl (pt rfl rfl (aC (aT fun a ha=>⟨true,ha.weaken cs,H⟩)))))
     ·replace H:=H.2 hb;exact sv rfl rfl (fun a ha=>Xq (eU (ha.ev rfl)) hb) (Kw rfl rfl rfl (Uu rfl rfl rfl rfl Bq (pf rfl rfl (aC (aT fun a ha=>⟨(decide (s6=⟨#[48]⟩)),ha.weaken cs,H⟩)))))
  ·refine aB (aA (ag rfl (aC (nc (y6 0 2 4 5 6 7 rfl) (aV ?_)))));obtain⟨I1,⟨k1,hi⟩,H⟩:=H;refine lC (fun k1 a=>∃s3:ByteArray,∃s4:ByteArray,∃x2,Ok 67 [(0,.string s1),(2,.pointer (some p1)),(4,.string s2),(5,.string s3),(6,.string s4),(7,.int .i64 x2)] a/\I1 k1 s3 s4 x2) (fun a ha=>⟨k1,s2,⟨#[49]⟩,0,ha.weaken cs,hi⟩) ?_;rintro k1 a ⟨s3,s4,x2,ha,hI⟩;replace H:=H k1 s3 s4 x2 hI;refine cu ha ?_;refine aB (aB (aA (mv rfl (mv rfl (sv rfl rfl (xb rfl (fun _=>Nv TF.dQ)) (bo rfl rfl fO (aC (nc (y7 0 2 4 5 6 7 24 rfl) ?_))))))));refine aK rfl (fun hb=> ?_) (fun hb=> ?_)
   ·replace H:=H.1 hb;refine aN (nc (y6 0 2 4 5 6 7 rfl) (aB (aV (aB (aA (mv rfl (mv rfl ?_)))))));obtain⟨h10,h11,H⟩:=H;refine sv rfl rfl (fun a ha=>Om (ha.ev rfl) (ha.ev rfl) (Xe TF.dQ h10 h11)) (bo rfl rfl nN (aC (nc (y7 0 2 4 5 6 7 30 rfl) ?_)));refine aK rfl (fun hb=> ?_) (fun hb=> ?_)
    ·replace H:=H.1 hb;refine aB (aA (mv rfl (mv rfl ?_)));obtain⟨h12,h13,H⟩:=H;refine sv rfl rfl (fun a ha=>qR (ha.ev rfl) rfl (qA (ha.ev rfl)) rfl (aGh TF.dQ h12 h13)) (ag rfl (aC (nc (y5 0 2 4 5 7 rfl) (aB (aA (mv rfl (mv rfl (bo rfl rfl dJ ?_))))))));obtain⟨h16,h17,H⟩:=H;exact sv rfl rfl (fun a ha=>qR (ha.ev rfl) (qA (ha.ev rfl)) rfl rfl (aDs TF.dQ h16 h17)) (ag rfl (aC (nc (y5 0 2 4 5 6 rfl) (bW (Qb rfl (aH (aH (aZ (aT fun a ha=>⟨⟨s2.extract 0 x2.toNat,s2.extract (IntKind.wrap .i64 (x2+1)).toNat s2.size,ha.weaken cs,H⟩,rfl⟩)))))))))
    ·replace H:=H.2 hb;refine aN (bQ (nc (y6 0 2 4 5 6 7 rfl) (aA (mv rfl (bo rfl rfl dJ (ag rfl (aC ?_)))))));obtain⟨k2,hk,H⟩:=H;exact aT fun a ha=>⟨k2,hk,⟨s3,s4,IntKind.wrap .i64 (x2+1),ha.weaken cs,H⟩,rfl⟩
   ·replace H:=H.2 hb;exact bW (aH (aH (aZ (aT fun a ha=>⟨⟨s3,s4,ha.weaken cs,H⟩,rfl⟩))))
 ·refine bK (fun a=>∃b3,Ok 67 [(0,.string s1),(2,.pointer (some p1)),(4,.string s1),(17,.bool b3)] a/\qF s1 (iR w1 p1 K s1) b3) ?_ ?_
  ·rintro a ⟨b3,ha,H⟩;unfold qF at H;refine cu ha ?_;refine dG rfl (fun hb=> ?_) (fun hb=> ?_)
   ·replace H:=H.1 hb;refine aA (mv rfl ?_);obtain⟨h5,h6,H⟩:=H;exact sv rfl rfl (fun a ha=>qR (ha.ev rfl) (qA (ha.ev rfl)) rfl rfl (aDs TF.dQ h5 h6)) (ag rfl (aC (aT fun a ha=>⟨⟨s1.extract (1:Int).toNat s1.size,ha.weaken cs,H⟩,rfl⟩)))
   ·replace H:=H.2 hb;exact aN (aT fun a ha=>⟨⟨s1,ha.weaken cs,H⟩,rfl⟩)
  ·refine aA (mv rfl (sv rfl rfl (xb rfl (fun _=>Nv TF.dQ)) (bo rfl rfl kF ?_)));rcases Classical.em (0<(s1.size:Int)) with hb|hb
   ·replace H:=H.1 hb;refine sv rfl rfl (xt rfl hb) (Kw rfl rfl rfl ?_);obtain⟨h3,h4,H⟩:=H;exact svg rfl rfl rfl rfl (fun a ha=>Om (ha.ev rfl) (ha.ev rfl) (Xe TF.dQ h3 h4)) (Uu rfl rfl rfl rfl nN (pt rfl rfl (aC (aT fun a ha=>⟨⟨(decide ((byteAt s1 0)=45)),ha.weaken cs,H⟩,rfl⟩))))
   ·replace H:=H.2 hb;exact sv rfl rfl (xf rfl hb) (sk rfl rfl rfl rfl (sk rfl rfl rfl rfl (sk rfl rfl rfl rfl (pf rfl rfl (aC (aT fun a ha=>⟨⟨false,ha.weaken cs,H⟩,rfl⟩))))))
def Ec (s1:ByteArray) (K:Bool->World->Prop) (w:World):Prop:=
 Calls P F.vT #[.string s1] w (aS fun v1 w1=>∃b2,∃A1 n1 c1,∃A2 n2 c2,∃b3,v1=(.tuple #[.agg #[.bool b2,.slice A1 n1 c1,.slice A2 n2 c2],.bool b3])/\∀(p1:Addr) (w2:World),New w1 (.cells #[.bool false,.slice none 0 0,.slice none 0 0] T.bM) p1 w2->(jR w2 p1 3/\∀w3,w3=aX w2 p1 [.bool b2,.slice A1 n1 c1,.slice A2 n2 c2]->(K b3 w3)))
theorem Tt (s1:ByteArray) (K:Bool->World->Prop) (w:World) (H:Ec s1 K w):Calls P F.vC #[.string s1] w (aS fun v w'=>∃b1,v=(.bool b1)/\K b1 w'):=by
 unfold Ec at H;refine aY (P:=P) Tryz.func166 rfl [(0,.string s1)] 11 rfl rfl (fun p hp=>by rcases List.mem_singleton.1 hp with rfl;rfl) (aB (aA (ag rfl (aC (nc (kp 0 rfl zz) (aB (aA (mv rfl (sc rfl rfl FF.yL H ?_)))))))));rintro _ w1 ⟨b2,A1,n1,c1,A2,n2,c2,b3,rfl,H⟩;refine mv rfl (sv rfl rfl (xe rfl rfl) (sv rfl rfl (xe rfl rfl) (fM (f:=(fun p=> .pointer (some p))) rfl rfl (aF rfl) (fun a ha=>dR (dV TF.dY)) ?_)));intro p1 w2 hN;obtain⟨h2,H⟩:=H _ _ hN;refine gX rfl (aF rfl) (xs rfl rfl (cO TF.aQ (by simp[Value.oneCell']) h2)) ?_;intro w3 hw;replace H:=H _ hw;clear hw;exact ag rfl (aC (nc (kp 4 rfl zz) (aB (aA (mv rfl (ag rfl (aC (nc (kp 2 rfl zz) (aW (aG (res1 rfl rfl) ⟨_,rfl,_,rfl,H⟩))))))))))
def Ee (s1:ByteArray) (K:Bool->Option Addr->Nat->Nat->Option Addr->Nat->Nat->World->Prop) (w:World):Prop:=
 ∀(p1:Addr) (w1:World),New w (.cells #[.bool false,.slice none 0 0,.slice none 0 0] T.bM) p1 w1->(Calls P F.vT #[.string s1] w1 (aS fun v1 w2=>∃b2,∃A3 n3 c3,∃A4 n4 c4,∃b3,v1=(.tuple #[.agg #[.bool b2,.slice A3 n3 c3,.slice A4 n4 c4],.bool b3])/\∀(p2:Addr) (w3:World),New w2 (.cells #[.bool false,.slice none 0 0,.slice none 0 0] T.bM) p2 w3->(jR w3 p2 3/\∀w4,w4=aX w3 p2 [.bool b2,.slice A3 n3 c3,.slice A4 n4 c4]->(((!b3)=true->(Calls P F.uV #[.int .i64 0] w4 (aS fun v2 w5=>∃b4,∃A5 n5 c5,∃A6 n6 c6,v2=(.agg #[.bool b4,.slice A5 n5 c5,.slice A6 n6 c6])/\jR w5 p1 3/\∀w6,w6=aX w5 p1 [.bool b4,.slice A5 n5 c5,.slice A6 n6 c6]->(∃b5,∃A7 n7 c7,∃A8 n8 c8,bC w6 p1 [.bool b5,.slice A7 n7 c7,.slice A8 n8 c8]/\(K b5 A7 n7 c7 A8 n8 c8 w6)))))/\((!b3)=false->(∃b6,∃A9 n9 c9,∃A10 n10 c10,bC w4 p2 [.bool b6,.slice A9 n9 c9,.slice A10 n10 c10]/\jR w4 p1 3/\∀w7,w7=aX w4 p1 [.bool b6,.slice A9 n9 c9,.slice A10 n10 c10]->(∃b7,∃A11 n11 c11,∃A12 n12 c12,bC w7 p1 [.bool b7,.slice A11 n11 c11,.slice A12 n12 c12]/\(K b7 A11 n11 c11 A12 n12 c12 w7))))))))
theorem Tq (s1:ByteArray) (K:Bool->Option Addr->Nat->Nat->Option Addr->Nat->Nat->World->Prop) (w:World) (H:Ee s1 K w):Calls P F.gV #[.string s1] w (aS fun v w'=>∃b1,∃A1 n1 c1,∃A2 n2 c2,v=(.agg #[.bool b1,.slice A1 n1 c1,.slice A2 n2 c2])/\K b1 A1 n1 c1 A2 n2 c2 w'):=by
 unfold Ee at H;refine aY (P:=P) Tryz.func158 rfl [(0,.string s1)] 14 rfl rfl (fun p hp=>by rcases List.mem_singleton.1 hp with rfl;rfl) (aB (aA (fM (f:=(fun p=> .pointer (some p))) rfl rfl (aF rfl) (fun a ha=>dR (dV TF.dY)) ?_)));intro p1 w1 hN;replace H:=H _ _ hN;refine aC (nc (y2 0 2 rfl) (aB (aA (mv rfl (sc rfl rfl FF.yL H ?_)))));rintro _ w2 ⟨b2,A3,n3,c3,A4,n4,c4,b3,rfl,H⟩;refine mv rfl (sv rfl rfl (xe rfl rfl) (sv rfl rfl (xe rfl rfl) (fM (f:=(fun p=> .pointer (some p))) rfl rfl (aF rfl) (fun a ha=>dR (dV TF.dY)) ?_)));intro p2 w3 hN;obtain⟨h3,H⟩:=H _ _ hN;refine gX rfl (aF rfl) (xs rfl rfl (cO TF.aQ (by simp[Value.oneCell']) h3)) ?_;intro w4 hw;replace H:=H _ hw;clear hw;refine ag rfl (aC (nc (y3 2 3 4 rfl) (aB (aB (aA (mv rfl (sv rfl rfl (xu rfl Gg) (aC (nc (y3 2 3 11 rfl) ?_)))))))));refine dG rfl (fun hb=> ?_) (fun hb=> ?_)
 ·replace H:=H.1 hb;refine aB (aA (sc rfl rfl FF.Ip H ?_));rintro _ w5 ⟨b4,A5,n5,c5,A6,n6,c6,rfl,H⟩;obtain⟨h4,H⟩:=H;refine gX rfl (aF rfl) (xs rfl rfl (cO TF.aQ (by simp[Value.oneCell']) h4)) ?_;intro w6 hw;replace H:=H _ hw;clear hw;refine aC (nc (kp 2 rfl zz) (aW (aI ?_)));obtain⟨b5,A7,n7,c7,A8,n8,c8,h5,H⟩:=H;exact aG (Me rfl (mG (vs:=[.bool b5,.slice A7 n7 c7,.slice A8 n8 c8]) rfl TF.bP TF.aQ h5)) ⟨_,rfl,_,_,_,_,_,_,_,rfl,H⟩
 ·replace H:=H.2 hb;refine aN (nc (y2 2 3 rfl) (aB (aA ?_)));obtain⟨b6,A9,n9,c9,A10,n10,c10,h6,H⟩:=H;refine ld rfl (gG (vs:=[.bool b6,.slice A9 n9 c9,.slice A10 n10 c10]) TF.bP TF.aQ h6) ?_;obtain⟨h7,H⟩:=H;refine gX rfl (aF rfl) (xs rfl rfl (cO TF.aQ (by simp[Value.oneCell']) h7)) ?_;intro w7 hw;replace H:=H _ hw;clear hw;refine aC (nc (kp 2 rfl zz) (aW ?_));obtain⟨b7,A11,n11,c11,A12,n12,c12,h8,H⟩:=H;exact aG (Me rfl (mG (vs:=[.bool b7,.slice A11 n11 c11,.slice A12 n12 c12]) rfl TF.bP TF.aQ h8)) ⟨_,rfl,_,_,_,_,_,_,_,rfl,H⟩
def Gh (s1:ByteArray) (s2:ByteArray) (K:ByteArray->World->Prop) (w:World):Prop:=
 Calls P F.gV #[.string s1] w (aS fun v1 w1=>∃b1,∃A1 n1 c1,∃A2 n2 c2,v1=(.agg #[.bool b1,.slice A1 n1 c1,.slice A2 n2 c2])/\Calls P F.gV #[.string s2] w1 (aS fun v2 w2=>∃b2,∃A3 n3 c3,∃A4 n4 c4,v2=(.agg #[.bool b2,.slice A3 n3 c3,.slice A4 n4 c4])/\Calls P F.rF #[.agg #[.bool b1,.slice A1 n1 c1,.slice A2 n2 c2],.agg #[.bool b2,.slice A3 n3 c3,.slice A4 n4 c4]] w2 (aS fun v3 w3=>∃b3,∃A5 n5 c5,∃A6 n6 c6,v3=(.agg #[.bool b3,.slice A5 n5 c5,.slice A6 n6 c6])/\Calls P F.nR #[.agg #[.bool b3,.slice A5 n5 c5,.slice A6 n6 c6]] w3 (aS fun v4 w4=>∃s4:ByteArray,v4=(.string s4)/\K s4 w4))))
theorem Vs (s1:ByteArray) (s2:ByteArray) (K:ByteArray->World->Prop) (w:World) (H:Gh s1 s2 K w):Calls P F.rP #[.string s1,.string s2] w (aS fun v w'=>∃s3:ByteArray,v=(.string s3)/\K s3 w'):=by
 unfold Gh at H;refine aY (P:=P) Tryz.func90 rfl [(0,.string s1),(1,.string s2)] 11 rfl rfl (aa rfl (aa rfl az)) (aB (aA (ag rfl (aC (nc (y2 0 1 rfl) (aB (aA (mv rfl (sc rfl rfl FF.fP H ?_)))))))));rintro _ w1 ⟨b1,A1,n1,c1,A2,n2,c2,rfl,H⟩;refine mv rfl (sc rfl rfl FF.fP H ?_);rintro _ w2 ⟨b2,A3,n3,c3,A4,n4,c4,rfl,H⟩;refine sc rfl rfl FF.wX H ?_;rintro _ w3 ⟨b3,A5,n5,c5,A6,n6,c6,rfl,H⟩;refine sc rfl rfl FF.oP H ?_;rintro _ w4 ⟨s4,rfl,H⟩;exact ag rfl (aC (nc (kp 4 rfl zz) (aW (aG (res1 rfl rfl) ⟨_,rfl,_,rfl,H⟩))))
def sH (K:ByteArray->World->Prop) (s5:ByteArray) (w15:World):Prop:=
 K s5 w15
def Gj (s1:ByteArray) (s2:ByteArray) (K:ByteArray->World->Prop) (w:World):Prop:=
 Calls P F.gV #[.string s2] w (aS fun v1 w1=>∃b1,∃A1 n1 c1,∃A2 n2 c2,v1=(.agg #[.bool b1,.slice A1 n1 c1,.slice A2 n2 c2])/\∀(p1:Addr) (w2:World),New w1 (.cells #[.bool false,.slice none 0 0,.slice none 0 0] T.bM) p1 w2->(jR w2 p1 3/\∀w3,w3=aX w2 p1 [.bool b1,.slice A1 n1 c1,.slice A2 n2 c2]->(∃b2,∃A3 n3 c3,∃A4 n4 c4,bC w3 p1 [.bool b2,.slice A3 n3 c3,.slice A4 n4 c4]/\Calls P F.nP #[.agg #[.bool b2,.slice A3 n3 c3,.slice A4 n4 c4]] w3 (aS fun v2 w4=>∃x1,v2=(.int .i64 x1)/\(x1=0->(K ⟨#[48]⟩ w4))/\(¬(x1=0)->(∃X1:Nat->Prop,∃b3,∃A5 n5 c5,∃A6 n6 c6,bC w4 p1 [.bool b3,.slice A5 n5 c5,.slice A6 n6 c6]/\¬X1 p1.block/\∀w6,aP w4 w6->Calls P F.gV #[.string s1] w6 (aS fun v3 w5=>∃b4,∃A7 n7 c7,∃A8 n8 c8,v3=(.agg #[.bool b4,.slice A7 n7 c7,.slice A8 n8 c8])/\Keep X1 w4 w5/\∀w9,aP w5 w9->Calls P F.wP #[.agg #[.bool b4,.slice A7 n7 c7,.slice A8 n8 c8],.agg #[.bool b3,.slice A5 n5 c5,.slice A6 n6 c6]] w9 (aS fun v4 w8=>∃b5,∃A9 n9 c9,∃A10 n10 c10,v4=(.agg #[.bool b5,.slice A9 n9 c9,.slice A10 n10 c10])/\∀w12,aP w8 w12->Calls P F.nR #[.agg #[.bool b5,.slice A9 n9 c9,.slice A10 n10 c10]] w12 (aS fun v5 w11=>∃s4:ByteArray,v5=(.string s4)/\∀w14,aP w11 w14->((sH K) s4 w14))))))))))
theorem Vb (s1:ByteArray) (s2:ByteArray) (K:ByteArray->World->Prop) (w:World) (H:Gj s1 s2 K w):Calls P F.wI #[.string s1,.string s2] w (aS fun v w'=>∃s3:ByteArray,v=(.string s3)/\K s3 w'):=by
 unfold Gj at H;refine aY (P:=P) Tryz.func92 rfl [(0,.string s1),(1,.string s2)] 16 rfl rfl (aa rfl (aa rfl az)) (aB (aA (ag rfl (aC (nc (y2 0 1 rfl) (aB (aA (mv rfl (sc rfl rfl FF.fP H ?_)))))))));rintro _ w1 ⟨b1,A1,n1,c1,A2,n2,c2,rfl,H⟩;refine fM (f:=(fun p=> .pointer (some p))) rfl rfl (aF rfl) (fun a ha=>dR (dV TF.dY)) ?_;intro p1 w2 hN;obtain⟨h2,H⟩:=H _ _ hN;refine gX rfl (aF rfl) (xs rfl rfl (cO TF.aQ (by simp[Value.oneCell']) h2)) ?_;intro w3 hw;replace H:=H _ hw;clear hw;refine aC (nc (y2 0 5 rfl) (aB (aB (aA ?_))));obtain⟨b2,A3,n3,c3,A4,n4,c4,h3,H⟩:=H;refine ld rfl (gG (vs:=[.bool b2,.slice A3 n3 c3,.slice A4 n4 c4]) TF.bP TF.aQ h3) (sc rfl rfl FF.oU H ?_);rintro _ w4 ⟨x1,rfl,H⟩;refine bo rfl rfl nN (aC (nc (y3 0 5 10 rfl) ?_));refine aK rfl (fun hb=> ?_) (fun hb=> ?_)
 ·replace H:=H.1 hb;exact aB (aA (ag rfl (aC (nc (kp 4 rfl zz) (aW (aI (aG (res1 rfl rfl) ⟨_,rfl,_,rfl,H⟩)))))))
 ·replace H:=H.2 hb;refine aN (nc (y2 0 5 rfl) ?_);refine dI (fun a w=>∃s5:ByteArray,Ok 16 [(4,.string s5)] a/\sH K s5 w) ?_ ?_
  ·rintro a w15 ⟨s5,ha,H⟩;unfold sH at H;refine cu ha ?_;exact aW (aG (res1 rfl rfl) ⟨_,rfl,_,rfl,H⟩)
  ·obtain⟨X1,H⟩:=H;refine iI follows X1 [0,2,5] [2] 6 rfl rfl (by kernel_rfl) (fun _ _ d _ _ h=>by cases d<;>exact h) (fun cm W D=> ?_);refine lU 0 cm rfl rfl D W fun _ D W=> ?_;obtain⟨b3,A5,n5,c5,A6,n6,c6,h4,hx',H⟩:=H;replace h4:=And.intro h4 hx';clear hx';refine vl 2 cm rfl rfl (fun hw=>(gG (vs:=[.bool b3,.slice A5 n5 c5,.slice A6 n6 c6]) TF.bP TF.aQ (hw.cells h4))) D W fun _ D W=>(ar 1 ?_);replace H:=H _ D;refine iZ rfl rfl rfl (aF rfl) (xc rfl rfl FF.fP) rfl true (by kernel_rfl) H ?_;rintro _ w5 ⟨b4,A7,n7,c7,A8,n8,c8,rfl,H⟩ _ D;have W:=H.1.drawn D;replace H:=H.2;refine⟨fun _=>W,?_⟩;refine ar 3 ?_;replace H:=H _ D;refine iZ rfl rfl rfl (aF rfl) (xc rfl rfl FF.Jh) rfl false (by kernel_rfl) H ?_;rintro _ w8 ⟨b5,A9,n9,c9,A10,n10,c10,rfl,H⟩ _ D;refine⟨fun h=>(by cases h),?_⟩;refine ar 4 ?_;replace H:=H _ D;refine iZ rfl rfl rfl (aF rfl) (xc rfl rfl FF.oP) rfl false (by kernel_rfl) H ?_;rintro _ w11 ⟨s4,rfl,H⟩ _ D;refine⟨fun h=>(by cases h),?_⟩;refine vP 5 cm rfl rfl D fun _ D=>(dU (by kernel_rfl) D ?_);intro w14 D;replace H:=H _ D;clear D cm;exact aT fun a ha=>⟨s4,ha.weaken cs,H⟩
def Gp (s1:ByteArray) (s2:ByteArray) (K:Int->World->Prop) (w:World):Prop:=
 Calls P F.gV #[.string s1] w (aS fun v1 w1=>∃b1,∃A1 n1 c1,∃A2 n2 c2,v1=(.agg #[.bool b1,.slice A1 n1 c1,.slice A2 n2 c2])/\Calls P F.gV #[.string s2] w1 (aS fun v2 w2=>∃b2,∃A3 n3 c3,∃A4 n4 c4,v2=(.agg #[.bool b2,.slice A3 n3 c3,.slice A4 n4 c4])/\Calls P F.qO #[.agg #[.bool b1,.slice A1 n1 c1,.slice A2 n2 c2],.agg #[.bool b2,.slice A3 n3 c3,.slice A4 n4 c4]] w2 (aS fun v3 w3=>∃x2,v3=(.int .i64 x2)/\K x2 w3)))
theorem Vd (s1:ByteArray) (s2:ByteArray) (K:Int->World->Prop) (w:World) (H:Gp s1 s2 K w):Calls P F.nS #[.string s1,.string s2] w (aS fun v w'=>∃x1,v=(.int .i64 x1)/\K x1 w'):=by
 unfold Gp at H;refine aY (P:=P) Tryz.func93 rfl [(0,.string s1),(1,.string s2)] 10 rfl rfl (aa rfl (aa rfl az)) (aB (aA (ag rfl (aC (nc (y2 0 1 rfl) (aB (aA (mv rfl (sc rfl rfl FF.fP H ?_)))))))));rintro _ w1 ⟨b1,A1,n1,c1,A2,n2,c2,rfl,H⟩;refine mv rfl (sc rfl rfl FF.fP H ?_);rintro _ w2 ⟨b2,A3,n3,c3,A4,n4,c4,rfl,H⟩;refine sc rfl rfl FF.Fh H ?_;rintro _ w3 ⟨x2,rfl,H⟩;exact ag rfl (aC (nc (kp 4 rfl zz) (aW (aG (res1 rfl rfl) ⟨_,rfl,_,rfl,H⟩))))
def Ei (s1:ByteArray) (K:Int->World->Prop) (w:World):Prop:=
 Calls P F.gV #[.string s1] w (aS fun v1 w1=>∃b1,∃A1 n1 c1,∃A2 n2 c2,v1=(.agg #[.bool b1,.slice A1 n1 c1,.slice A2 n2 c2])/\Calls P F.nP #[.agg #[.bool b1,.slice A1 n1 c1,.slice A2 n2 c2]] w1 (aS fun v2 w2=>∃x2,v2=(.int .i64 x2)/\K x2 w2))
theorem Sm (s1:ByteArray) (K:Int->World->Prop) (w:World) (H:Ei s1 K w):Calls P F.qG #[.string s1] w (aS fun v w'=>∃x1,v=(.int .i64 x1)/\K x1 w'):=by
 unfold Ei at H;refine aY (P:=P) Tryz.func91 rfl [(0,.string s1)] 6 rfl rfl (fun p hp=>by rcases List.mem_singleton.1 hp with rfl;rfl) (aB (aA (ag rfl (aC (nc (kp 0 rfl zz) (aB (aA (mv rfl (sc rfl rfl FF.fP H ?_)))))))));rintro _ w1 ⟨b1,A1,n1,c1,A2,n2,c2,rfl,H⟩;refine sc rfl rfl FF.oU H ?_;rintro _ w2 ⟨x2,rfl,H⟩;exact ag rfl (aC (nc (kp 2 rfl zz) (aW (aG (res1 rfl rfl) ⟨_,rfl,_,rfl,H⟩))))
section
variable {w0 w w':World} {p o:Addr} {q r:Rat} {A B:Option Addr} {n c m d x y k j:Nat} {s t:Bool}
theorem Sd.aE9 {e:TypeId} {vs us:List Value} (h:Sd w p e vs) (hl:us.length=vs.length) (hw:w'=aX w p us):Sd w' p e us/\Kp p w w':=by
 refine⟨?_,mD hw⟩
 obtain⟨g,rfl,hg⟩:=h
 refine⟨g,rfl,?_⟩
 subst hw
 have:=(pK g e (0,0) us 0 w _ hg (by simp[hl])).1
 unfold aX
 rw[this]
 simp[hl]
theorem IN.sd {e:TypeId} {vs:List Value} (h:IN w A n c x) (k:Sd w p e vs) (ht:e≠T.int) (kk:Kp p w w'):IN w' A n c x:=by
 obtain⟨l,h1,h2⟩:=h
 exact⟨l,h1.keep kk fun b hb e=>k.row h1 ht (by rw[<-e];exact hb),h2⟩
def IQ (w:World) (s:Bool) (A:Option Addr) (n c:Nat) (B:Option Addr) (m d:Nat) (q:Rat):Prop:=∃x y,IN w A n c x/\IN w B m d y/\RQ s x y q
theorem IQ.ext (h:IQ w s A n c B m d q) (E:Ext w w'):IQ w' s A n c B m d q:=by
 obtain⟨x,y,h1,h2,h3⟩:=h
 exact⟨x,y,h1.ext E,h2.ext E,h3⟩
theorem IQ.sd {e:TypeId} {vs:List Value} (h:IQ w s A n c B m d q) (k:Sd w p e vs) (ht:e≠T.int) (kk:Kp p w w'):IQ w' s A n c B m d q:=by
 obtain⟨x,y,h1,h2,h3⟩:=h
 exact⟨x,y,h1.sd k ht kk,h2.sd k ht kk,h3⟩
theorem IQ.len (h:IQ w s A n c B m d q) (l:mF q k):n<=k/\m<=k:=by
 obtain⟨x,y,h1,h2,h3⟩:=h
 exact⟨h1.le (h3.ln l),h2.le (h3.ld l)⟩
abbrev QK:=Bool->Option Addr->Nat->Nat->Option Addr->Nat->Nat->World->Prop
theorem aA7 {a b c0:Value} {K:QK} (h:Lc w0 w p T.bM [a,b,c0]) (E:Ext w0 w) (hq:IQ w s A n c B m d q) (hK:∀w',Ext w0 w'->Lc w0 w' p T.bM [.bool s,.slice A n c,.slice B m d]->IQ w' s A n c B m d q->K s A n c B m d w'):
  jR w p 3/\∀w',w'=aX w p [.bool s,.slice A n c,.slice B m d]->(∃b A n c,∃B m d,bC w' p [.bool b,.slice A n c,.slice B m d]/\K b A n c B m d w'):=by
 refine⟨h.1.Wq (Nat.le_refl 3),fun w' hw=> ?_⟩
 obtain⟨h1,k⟩:=h.1.aE9 (us:=[.bool s,.slice A n c,.slice B m d]) rfl hw
 exact⟨s,A,n,c,B,m,d,h1.cells,hK w' (h.over E k) ⟨h1,h.2⟩ (hq.sd h.1 (by decide) k)⟩
theorem aBr {a b c0:Value} {K:QK} (h:Lc w0 w p T.bM [a,b,c0]) (E:Ext w0 w) (hq:IQ w s A n c B m d q) (hK:∀w',Ext w0 w'->IQ w' s A n c B m d q->K s A n c B m d w'):
  ∀w1,aP w w1->jR w1 p 3/\∀w',w'=aX w1 p [.bool s,.slice A n c,.slice B m d]->∀w2,aP w' w2->(∃b A n c,∃B m d,bC w2 p [.bool b,.slice A n c,.slice B m d]/\K b A n c B m d w2):=by
 intro w1 D1
 have e1:=Ext.aO D1
 have h1:=h.ext e1
 refine⟨h1.1.Wq (Nat.le_refl 3),fun w' hw w2 D2=> ?_⟩
 obtain⟨h2,k⟩:=h1.1.aE9 (us:=[.bool s,.slice A n c,.slice B m d]) rfl hw
 have e2:=Ext.aO D2
 exact⟨s,A,n,c,B,m,d,(h2.ext e2).cells,hK w2 ((h1.over (E.trans e1) k).trans e2) (((hq.ext e1).sd h1.1 (by decide) k).ext e2)⟩
abbrev QR (w0:World) (q:Rat):Value->World->Prop:=fun v w'=>∃s A n c,∃B m d,v= .agg #[.bool s,.slice A n c,.slice B m d]/\Ext w0 w'/\IQ w' s A n c B m d q
abbrev KQ (w0:World) (q:Rat):QK:=fun s A n c B m d w'=>Ext w0 w'/\IQ w' s A n c B m d q
theorem Rk (hx:IN w A n c x) (hy:IN w B m d y) (y0:y≠0) (hn:Sh n) (hm:Sh m):Calls P F.jF #[.bool s,.slice A n c,.slice B m d] w (aS (QR w (mkRat (sg s x) y))):=by
 refine Uh s A n c B m d (KQ w (mkRat (sg s x) y)) w ?_
 intro p w1 hN
 have m1:=Lc.new hN (Ext.refl w)
 have E1:=Ext.bI hN
 have hz:=hx.zero
 unfold Sh at hn hm
 refine⟨fun h0=> ?_,fun h0=> ?_⟩
 ·refine aS.mono (sK (x:=1) (by decide)) ?_
  rintro _ w2 ⟨A5,n5,c5,rfl,E2,h5⟩
  have x0:x=0:=by omega
  subst x0
  refine⟨A5,n5,c5,rfl,aA7 (m1.ext E2) (E1.trans E2) ⟨0,1,hx.ext (E1.trans E2),h5,RQ.zero⟩ fun w' E _ hq=>⟨E,?_⟩⟩
  rw[RQ.aLg y0]
  exact hq
 ·have x0:x≠0:=by omega
  have hg:x.gcd y≠0:=fun h=>x0 (Nat.gcd_eq_zero_iff.1 h).1
  have hq:=RQ.put s x0 y0
  have last:∀w9 A8 n8 c8 A9 n9 c9,Ext w1 w9->IN w9 A8 n8 c8 (x/x.gcd y)->IN w9 A9 n9 c9 (y/x.gcd y)->jU p s (KQ w (mkRat (sg s x) y)) A8 n8 c8 A9 n9 c9 w9:=fun w9 A8 n8 c8 A9 n9 c9 E h8 h9=>aA7 (m1.ext E) (E1.trans E) ⟨_,_,h8,h9,hq⟩ fun w' E _ hq=>⟨E,hq⟩
  refine aS.mono (aI2 (hx.ext E1) (hy.ext E1) hn hm) ?_
  rintro _ w4 ⟨A8,n8,c8,rfl,E4,h8⟩
  have l8:=h8.le (Lb.le hx.lb (Nat.gcd_le_left y (Nat.pos_of_ne_zero x0)))
  refine⟨A8,n8,c8,rfl,aS.mono (sK (x:=1) (by decide)) ?_⟩
  rintro _ w5 ⟨A9,n9,c9,rfl,E5,h9⟩
  refine⟨A9,n9,c9,rfl,aS.mono (Yl (h8.ext E5) h9 (by unfold Sn;omega)) ?_⟩
  rintro _ w6 ⟨rfl,D6⟩
  have E6:=(E4.trans E5).drawn D6
  have E16:=E1.trans E6
  have h86:=(h8.ext E5).ext (Ext.aO D6)
  refine⟨_,rfl,fun hne=> ?_,fun he=> ?_⟩
  ·refine aS.mono (aDt (hx.ext E16) h86 (Nat.pos_of_ne_zero hg) hn (by unfold Sh;omega)) ?_
   rintro _ w7 ⟨A10,n10,c10,A11,n11,c11,rfl,E7,h10,_⟩
   refine⟨A10,n10,c10,A11,n11,c11,rfl,aS.mono (aDt (hy.ext (E16.trans E7)) (h86.ext E7) (Nat.pos_of_ne_zero hg) hm (by unfold Sh;omega)) ?_⟩
   rintro _ w8 ⟨A12,n12,c12,A13,n13,c13,rfl,E8,h12,_⟩
   exact⟨A12,n12,c12,A13,n13,c13,rfl,last w8 _ _ _ _ _ _ ((E6.trans E7).trans E8) (h10.ext E8) h12⟩
  ·have e1:x.gcd y=1:=by
    unfold xQ at he
    split at he
    ·omega
    ·split at he<;>omega
   refine last w6 _ _ _ _ _ _ E6 ?_ ?_
   ·rw[e1,Nat.div_one];exact hx.ext E16
   ·rw[e1,Nat.div_one];exact hy.ext E16
theorem aG9:Calls P F.uV #[.int .i64 0] w (aS (QR w 0)):=by
 refine Sv 0 (KQ w 0) w ?_
 intro p w1 hN
 refine⟨fun h=>absurd h (by decide),fun _=>aS.mono (sK (x:=0) (by decide)) ?_⟩
 rintro _ w2 ⟨A3,n3,c3,rfl,E2,h3⟩
 refine⟨A3,n3,c3,rfl,aS.mono (sK (x:=1) (by decide)) ?_⟩
 rintro _ w3 ⟨A4,n4,c4,rfl,E3,h4⟩
 have E:=(Ext.bI hN).trans (E2.trans E3)
 exact⟨A4,n4,c4,rfl,aA7 ((Lc.new hN (Ext.refl w)).ext (E2.trans E3)) E ⟨0,1,h3.ext E3,h4,RQ.zero⟩ fun w' E _ hq=>⟨E,hq⟩⟩
theorem aA0 (h:IQ w s A n c B m d q):Calls P F.nP #[.agg #[.bool s,.slice A n c,.slice B m d]] w (aS fun v w'=>Ext w w'/\v= .int .i64 (Ew q)):=by
 refine aS.mono (Ve s A n c B m d (fun v w'=>Ext w w'/\v=Ew q) w ?_) (by rintro _ w' ⟨v,rfl,h,rfl⟩;exact⟨h,rfl⟩)
 intro p w1 hN
 have m1:=(Lc.new hN (Ext.refl w)).1
 have E:=Ext.bI hN
 obtain⟨x,y,h1,h2,h3⟩:=h
 have hz:=h1.zero
 have hs:=h3.aKm
 have hn:=h3.neg
 refine⟨A,n,c,m1.cell (i:=1) rfl,fun e=>⟨E,?_⟩,fun e=>⟨s,m1.cell (i:=0) rfl,fun e2=>⟨E,?_⟩,fun e2=>⟨E,?_⟩⟩⟩
 ·have x0:x=0:=by omega
  rw[hs,x0]
  cases s
  ·rfl
  ·exact absurd x0 (hn rfl)
 ·rw[hs,e2];rfl
 ·rw[hs,e2,if_neg (by decide),if_neg (by omega)]
theorem aKa (h:IQ w s A n c B m d q):Calls P F.xX #[.agg #[.bool s,.slice A n c,.slice B m d]] w (aS (QR w (-q))):=by
 refine Xj s A n c B m d (KQ w (-q)) w ?_
 intro p1 w1 hN1 p2 w2 hN2
 have m1:=(Lc.new hN1 (Ext.refl w)).ext (Ext.bI hN2)
 have m2:=Lc.new hN2 (Ext.bI hN1)
 have E:=(Ext.bI hN1).trans (Ext.bI hN2)
 obtain⟨x,y,h1,h2,h3⟩:=h
 have hz:=h1.zero
 have ho:=h3.opp
 have hd:decide (0<(n:Int))=decide (x≠0):=by rw[decide_eq_decide];omega
 refine⟨s,m1.1.cell (i:=0) rfl,fun e=> ?_,fun e=> ?_⟩
 ·refine⟨A,n,c,m1.1.cell (i:=1) rfl,A,n,c,m1.1.cell (i:=1) rfl,B,m,d,m1.1.cell (i:=2) rfl,aA7 m2 E ⟨x,y,h1.ext E,h2.ext E,?_⟩ fun w' E _ hq=>⟨E,hq⟩⟩
  rw[hd]
  rw[e,Bool.true_and] at ho
  exact ho
 ·refine⟨A,n,c,m1.1.cell (i:=1) rfl,B,m,d,m1.1.cell (i:=2) rfl,aA7 m2 E ⟨x,y,h1.ext E,h2.ext E,?_⟩ fun w' E _ hq=>⟨E,hq⟩⟩
  rw[e,Bool.false_and] at ho
  exact ho
end
section
variable {w0 w w':World} {p o:Addr} {q r:Rat} {A B A' B':Option Addr} {n c m d n' c' m' d' x y k j:Nat} {s t:Bool}
theorem aIt (h:IQ w s A n c B m d q) (h':IQ w t A' n' c' B' m' d' r) (r0:r≠0) (lq:mF q k) (lr:mF r j) (hk:Sh (k+j)):Calls P F.wP #[.agg #[.bool s,.slice A n c,.slice B m d],.agg #[.bool t,.slice A' n' c',.slice B' m' d']] w (aS (QR w (q/r))):=by
 refine Vf s A n c B m d t A' n' c' B' m' d' (KQ w (q/r)) w ?_
 intro p1 w1 hN1 p2 w2 hN2 p3 w3 hN3
 have E12:=(Ext.bI hN1).trans (Ext.bI hN2)
 have m1:=((Lc.new hN1 (Ext.refl w)).ext (Ext.bI hN2)).ext (Ext.bI hN3)
 have m2:=(Lc.new hN2 (Ext.bI hN1)).ext (Ext.bI hN3)
 have m3:=Lc.new hN3 E12
 have E:=E12.trans (Ext.bI hN3)
 have ln:=h.len lq
 have ln':=h'.len lr
 obtain⟨x,y,h1,h2,h3⟩:=h.ext E
 obtain⟨x',y',h1',h2',h3'⟩:=h'.ext E
 have x0:x'≠0:=fun e=>r0 (h3'.is0.2 e)
 unfold Sh at hk
 refine⟨fun _=>False,s,m1.1.cell (i:=0) rfl,id,t,m2.1.cell (i:=0) rfl,id,A,n,c,m1.1.cell (i:=1) rfl,B',m',d',m2.1.cell (i:=2) rfl,B,m,d,m1.1.cell (i:=2) rfl,id,A',n',c',m2.1.cell (i:=1) rfl,id,fun w5 D5=> ?_⟩
 have E5:=Ext.aO D5
 refine aS.mono (Qc (h1.ext E5) (h2'.ext E5) (by unfold Sn;omega)) ?_
 rintro _ w4 ⟨A11,n11,c11,rfl,E4,hX⟩
 have E54:=E5.trans E4
 refine⟨A11,n11,c11,rfl,E54,fun w8 D8=> ?_⟩
 have E8:=E54.drawn D8
 refine aS.mono (Qc (h2.ext E8) (h1'.ext E8) (by unfold Sn;omega)) ?_
 rintro _ w7 ⟨A12,n12,c12,rfl,E7,hY⟩
 have E87:=E8.trans E7
 refine⟨A12,n12,c12,rfl,E87,fun w11 D11=> ?_⟩
 have E11:=E87.drawn D11
 have lX:=hX.le ((h3.ln lq).mul (h3'.ld lr))
 have lY:=hY.le ((h3.ld lq).mul (h3'.ln lr))
 refine aS.mono (Rk (s:=decide (s≠t)) (hX.ext (((Ext.aO D8).trans E7).drawn D11)) (hY.ext (Ext.aO D11)) (Nat.mul_ne_zero h3.d0 x0) (by unfold Sh;omega) (by unfold Sh;omega)) ?_
 rintro _ w10 ⟨b6,A13,n13,c13,A14,n14,c14,rfl,E10,hq⟩
 rw[aGc,<-h3.aK1 h3'] at hq
 exact⟨b6,A13,n13,c13,A14,n14,c14,rfl,aBr (m3.ext (E11.trans E10)) (E.trans (E11.trans E10)) hq fun w' E hq=>⟨E,hq⟩⟩
theorem aH2 (h:IQ w s A n c B m d q) (h':IQ w t A' n' c' B' m' d' r) (lq:mF q k) (lr:mF r j) (hk:Sh (k+j+1)):Calls P F.wJ #[.agg #[.bool s,.slice A n c,.slice B m d],.agg #[.bool t,.slice A' n' c',.slice B' m' d']] w (aS (QR w (q+r))):=by
 refine Vl s A n c B m d t A' n' c' B' m' d' (KQ w (q+r)) w ?_
 intro p1 w1 hN1 p2 w2 hN2 p3 w3 hN3
 have E12:=(Ext.bI hN1).trans (Ext.bI hN2)
 have m1:=((Lc.new hN1 (Ext.refl w)).ext (Ext.bI hN2)).ext (Ext.bI hN3)
 have m2:=(Lc.new hN2 (Ext.bI hN1)).ext (Ext.bI hN3)
 have m3:=Lc.new hN3 E12
 have E:=E12.trans (Ext.bI hN3)
 have ln:=h.len lq
 have ln':=h'.len lr
 obtain⟨x,y,h1,h2,h3⟩:=h.ext E
 obtain⟨x',y',h1',h2',h3'⟩:=h'.ext E
 unfold Sh at hk
 refine⟨A,n,c,m1.1.cell (i:=1) rfl,B',m',d',m2.1.cell (i:=2) rfl,aS.mono (Qc h1 h2' (by unfold Sn;omega)) ?_⟩
 rintro _ w4 ⟨A9,n9,c9,rfl,E4,hX⟩
 have m1:=m1.ext E4
 have m2:=m2.ext E4
 refine⟨A9,n9,c9,rfl,A',n',c',m2.1.cell (i:=1) rfl,B,m,d,m1.1.cell (i:=2) rfl,aS.mono (Qc (h1'.ext E4) (h2.ext E4) (by unfold Sn;omega)) ?_⟩
 rintro _ w5 ⟨A12,n12,c12,rfl,E5,hY⟩
 have m1:=m1.ext E5
 have m2:=m2.ext E5
 have E45:=E4.trans E5
 refine⟨A12,n12,c12,rfl,B,m,d,m1.1.cell (i:=2) rfl,B',m',d',m2.1.cell (i:=2) rfl,aS.mono (Qc (h2.ext E45) (h2'.ext E45) (by unfold Sn;omega)) ?_⟩
 rintro _ w6 ⟨A15,n15,c15,rfl,E6,hD⟩
 have m1:=m1.ext E6
 have m2:=m2.ext E6
 have m3:=m3.ext (E45.trans E6)
 have E46:=E.trans (E45.trans E6)
 have hX:=hX.ext (E5.trans E6)
 have hY:=hY.ext E6
 have bX:=(h3.ln lq).mul (h3'.ld lr)
 have bY:Lb (x'*y) (k+j):=by rw[Nat.add_comm];exact(h3'.ln lr).mul (h3.ld lq)
 have lX:=hX.le bX
 have lY:=hY.le bY
 have lD:=hD.le ((h3.ld lq).mul (h3'.ld lr))
 have d0:=Nat.mul_ne_zero h3.d0 h3'.d0
 have hadd:=h3.aJx h3'
 refine⟨A15,n15,c15,rfl,s,m1.1.cell (i:=0) rfl,t,m2.1.cell (i:=0) rfl,fun he=> ?_,fun hne=> ?_⟩
 ·subst he
  refine⟨fun _=>False,s,m1.1.cell (i:=0) rfl,id,fun w8 D8=> ?_⟩
  have E8:=Ext.aO D8
  refine aS.mono (aJt (hX.ext E8) (hY.ext E8) (by unfold Sn;omega) (by unfold Sn;omega)) ?_
  rintro _ w7 ⟨A16,n16,c16,rfl,E7,hZ⟩
  have E87:=E8.trans E7
  refine⟨A16,n16,c16,rfl,E87,fun w11 D11=> ?_⟩
  have E11:=E87.drawn D11
  have lZ:=hZ.le (bX.add bY)
  refine aS.mono (Rk (s:=s) (hZ.ext (Ext.aO D11)) (hD.ext E11) d0 (by unfold Sh;omega) (by unfold Sh;omega)) ?_
  rintro _ w10 ⟨b6,A13,n13,c13,A14,n14,c14,rfl,E10,hq⟩
  rw[<-aCs,<-hadd] at hq
  exact⟨b6,A13,n13,c13,A14,n14,c14,rfl,aBr (m3.ext (E11.trans E10)) (E46.trans (E11.trans E10)) hq fun w' E hq=>⟨E,hq⟩⟩
 ·refine aS.mono (Yl hX hY (by unfold Sn;omega)) ?_
  rintro _ w17 ⟨rfl,D17⟩
  have E17:=Ext.aO D17
  have m1:=m1.ext E17
  have m2:=m2.ext E17
  have hX:=hX.ext E17
  have hY:=hY.ext E17
  refine⟨_,rfl,fun hge=> ?_,fun hlt=> ?_⟩
  ·have hle:x'*y<=x*y':=by
    unfold xQ at hge
    split at hge<;>omega
   refine⟨fun _=>False,s,m1.1.cell (i:=0) rfl,id,fun w8 D8=> ?_⟩
   have E8:=Ext.aO D8
   refine aS.mono (aC1 (hX.ext E8) (hY.ext E8) hle (by unfold Sn;omega)) ?_
   rintro _ w7 ⟨A16,n16,c16,rfl,E7,hZ⟩
   have E87:=E8.trans E7
   refine⟨A16,n16,c16,rfl,E87,fun w11 D11=> ?_⟩
   have E11:=E87.drawn D11
   have lZ:=hZ.le (bX.le (Nat.sub_le _ _))
   refine aS.mono (Rk (s:=s) (hZ.ext (Ext.aO D11)) (hD.ext (E17.trans E11)) d0 (by unfold Sh;omega) (by unfold Sh;omega)) ?_
   rintro _ w10 ⟨b6,A13,n13,c13,A14,n14,c14,rfl,E10,hq⟩
   rw[<-aHp hne hle,<-hadd] at hq
   exact⟨b6,A13,n13,c13,A14,n14,c14,rfl,aBr (m3.ext (E17.trans (E11.trans E10))) (E46.trans (E17.trans (E11.trans E10))) hq fun w' E hq=>⟨E,hq⟩⟩
  ·have hle:x*y'<=x'*y:=by
    unfold xQ at hlt
    split at hlt
    ·omega
    ·split at hlt<;>omega
   refine⟨fun _=>False,t,m2.1.cell (i:=0) rfl,id,fun w8 D8=> ?_⟩
   have E8:=Ext.aO D8
   refine aS.mono (aC1 (hY.ext E8) (hX.ext E8) hle (by unfold Sn;omega)) ?_
   rintro _ w7 ⟨A16,n16,c16,rfl,E7,hZ⟩
   have E87:=E8.trans E7
   refine⟨A16,n16,c16,rfl,E87,fun w11 D11=> ?_⟩
   have E11:=E87.drawn D11
   have lZ:=hZ.le (bY.le (Nat.sub_le _ _))
   refine aS.mono (Rk (s:=t) (hZ.ext (Ext.aO D11)) (hD.ext (E17.trans E11)) d0 (by unfold Sh;omega) (by unfold Sh;omega)) ?_
   rintro _ w10 ⟨b6,A13,n13,c13,A14,n14,c14,rfl,E10,hq⟩
   rw[<-aIg hne hle,<-hadd] at hq
   exact⟨b6,A13,n13,c13,A14,n14,c14,rfl,aBr (m3.ext (E17.trans (E11.trans E10))) (E46.trans (E17.trans (E11.trans E10))) hq fun w' E hq=>⟨E,hq⟩⟩
theorem aGo (h:IQ w s A n c B m d q) (h':IQ w t A' n' c' B' m' d' r) (lq:mF q k) (lr:mF r j) (hk:Sh (k+j+1)):Calls P F.rF #[.agg #[.bool s,.slice A n c,.slice B m d],.agg #[.bool t,.slice A' n' c',.slice B' m' d']] w (aS (QR w (q-r))):=by
 refine Vx s A n c B m d t A' n' c' B' m' d' (KQ w (q-r)) w ?_
 intro p1 w1 hN1 p2 w2 hN2 p3 w3 hN3
 have E12:=(Ext.bI hN1).trans (Ext.bI hN2)
 have m1:=((Lc.new hN1 (Ext.refl w)).ext (Ext.bI hN2)).ext (Ext.bI hN3)
 have m2:=(Lc.new hN2 (Ext.bI hN1)).ext (Ext.bI hN3)
 have m3:=Lc.new hN3 E12
 have E:=E12.trans (Ext.bI hN3)
 refine⟨fun _=>False,s,A,n,c,B,m,d,m1.1.cells,id,t,A',n',c',B',m',d',m2.1.cells,fun w5 D5=> ?_⟩
 have E5:=Ext.aO D5
 refine aS.mono (aKa ((h'.ext E).ext E5)) ?_
 rintro _ w4 ⟨b6,A11,n11,c11,A12,n12,c12,rfl,E4,hO⟩
 have E54:=E5.trans E4
 refine⟨b6,A11,n11,c11,A12,n12,c12,rfl,E54,fun w8 D8=> ?_⟩
 have E8:=E54.drawn D8
 refine aS.mono (aH2 (h.ext (E.trans E8)) (hO.ext (Ext.aO D8)) lq lr.neg hk) ?_
 rintro _ w7 ⟨b7,A13,n13,c13,A14,n14,c14,rfl,E7,hq⟩
 rw[<-Rat.sub_eq_add_neg] at hq
 exact⟨b7,A13,n13,c13,A14,n14,c14,rfl,aBr (m3.ext (E8.trans E7)) (E.trans (E8.trans E7)) hq fun w' E hq=>⟨E,hq⟩⟩
theorem aFf (h:IQ w s A n c B m d q) (h':IQ w t A' n' c' B' m' d' r) (lq:mF q k) (lr:mF r j) (hk:Sh (k+j+1)):Calls P F.qO #[.agg #[.bool s,.slice A n c,.slice B m d],.agg #[.bool t,.slice A' n' c',.slice B' m' d']] w (aS fun v w'=>Ext w w'/\v= .int .i64 (Vk q r)):=by
 refine aS.mono (Ov s A n c B m d t A' n' c' B' m' d' (fun v w'=>Ext w w'/\v=Vk q r) w ?_) (by rintro _ w' ⟨v,rfl,h,rfl⟩;exact⟨h,rfl⟩)
 intro p1 w1 hN1 p2 w2 hN2
 have E:=(Ext.bI hN1).trans (Ext.bI hN2)
 have m1:=(Lc.new hN1 (Ext.refl w)).ext (Ext.bI hN2)
 have m2:=Lc.new hN2 (Ext.bI hN1)
 refine⟨s,A,n,c,B,m,d,m1.1.cells,t,A',n',c',B',m',d',m2.1.cells,aS.mono (aGo (h.ext E) (h'.ext E) lq lr hk) ?_⟩
 rintro _ w3 ⟨b5,A9,n9,c9,A10,n10,c10,rfl,E3,hq⟩
 refine⟨b5,A9,n9,c9,A10,n10,c10,rfl,aS.mono (aA0 hq) ?_⟩
 rintro _ w4 ⟨E4,rfl⟩
 exact⟨_,rfl,(E.trans E3).trans E4,(aHz q r).symm⟩
theorem aDh (h:IQ w s A n c B m d q) (l:mF q k) (hk:Sh k):Calls P F.nR #[.agg #[.bool s,.slice A n c,.slice B m d]] w (aS fun v w'=>∃t,v= .string t/\Ext w w'/\jG (bl t) q/\t.size<=18*k+4):=by
 refine aS.mono (Vq s A n c B m d (fun t w'=>Ext w w'/\jG (bl t) q/\t.size<=18*k+4) w ?_) (by rintro _ w' ⟨t,rfl,h⟩;exact⟨t,rfl,h⟩)
 intro p w1 hN
 have m1:=(Lc.new hN (Ext.refl w)).1
 have E1:=Ext.bI hN
 have ln:=h.len l
 obtain⟨x,y,h1,h2,h3⟩:=h.ext E1
 have hden:=h3.den
 unfold Sh at hk
 have e45:(⟨#[45]⟩:ByteArray).size=1:=rfl
 have e47:(⟨#[47]⟩:ByteArray).size=1:=rfl
 refine⟨A,n,c,m1.cell (i:=1) rfl,aS.mono (Zw h1 (by unfold Sh;omega)) ?_⟩
 rintro _ w2 ⟨t,rfl,E2,ht,hz⟩
 have E:=E1.trans E2
 have m2:=m1.ext E2
 have key:∀u:ByteArray,bl u=(if q.num<0 then [45] else [])++bl t->kC w2 p (fun t w'=>Ext w w'/\jG (bl t) q/\t.size<=18*k+4) u:=fun u hu=>by
  have zu:u.size<=9*k+2:=by
   rw[eY,hu,List.length_append]
   have zt:=eY t
   split<;>simp<;>omega
  refine⟨fun _=>False,B,m,d,m2.cell (i:=2) rfl,id,fun w4 D4=>aS.mono (sK (x:=1) (by decide)) ?_⟩
  rintro _ w3 ⟨A5,n5,c5,rfl,E3,h5⟩
  have E43:=(Ext.aO D4).trans E3
  refine⟨A5,n5,c5,rfl,E43,fun w7 D7=> ?_⟩
  have E7:=E43.drawn D7
  refine aS.mono (Yl (h2.ext (E2.trans E7)) (h5.ext (Ext.aO D7)) (by unfold Sn;omega)) ?_
  rintro _ w6 ⟨rfl,D6⟩
  refine⟨_,rfl,fun w9 D9=> ?_⟩
  have E9:=(E7.drawn D6).drawn D9
  have m9:=m2.ext E9
  have h29:=h2.ext (E2.trans E9)
  refine⟨fun hb=> ?_,fun hb=> ?_⟩
  ·have hb:=of_decide_eq_true hb
   have y1:y≠1:=fun e=>hb (by subst e;rfl)
   refine⟨by omega,B,m,d,m9.cell (i:=2) rfl,aS.mono (Zw h29 (by unfold Sh;omega)) ?_⟩
   rintro _ w11 ⟨t2,rfl,E11,ht2,hz2⟩
   refine⟨t2,rfl,by rw[ByteArray.size_append];omega,(E.trans E9).trans E11,⟨bl t,bl t2,?_,by rw[h3.abs];exact ht,by rw[hden];exact ht2⟩,by rw[ByteArray.size_append,ByteArray.size_append];omega⟩
   unfold Vz
   rw[wC,wC,hu,if_neg (show¬q.den=1 by omega),List.append_assoc]
   rfl
  ·have hb:=of_decide_eq_false hb
   have y1:y=1:=by
    refine Classical.byContradiction fun h=>hb ?_
    unfold xQ
    split
    ·decide
    ·split
     ·decide
     ·omega
   refine⟨E.trans E9,⟨bl t,[49],?_,by rw[h3.abs];exact ht,?_⟩,by omega⟩
   ·unfold Vz
    rw[hu,if_pos (show q.den=1 by rw[hden];exact y1),List.append_nil]
   ·rw[hden,y1]
    exact⟨by simp,fun c hc=>by simp at hc;subst hc;exact⟨by decide,by decide⟩,.inr (by decide),rfl⟩
 have hs:=h3.lt0
 refine⟨t,rfl,s,m2.cell (i:=0) rfl,fun e=>⟨by omega,key _ ?_⟩,fun e=>key _ ?_⟩
 ·rw[wC,if_pos (hs.2 e)]
 ·rw[if_neg (fun h=>by rw[hs.1 h] at e;cases e)]
  rfl
end
open Classical in
noncomputable def rY (s:ByteArray):Rat:=if h:∃q,jG (bl s) q then h.choose else 0
theorem Xm {s:ByteArray} (h:yI s=true):jG (bl s) (rY s):=by
 have h:=Us.1 h
 unfold rY
 rw[dif_pos h]
 exact h.choose_spec
theorem aAv {s:ByteArray} {q:Rat} (h:jG (bl s) q):rY s=q:=(Xm (Us.2 ⟨q,h⟩)).inj h
noncomputable def aFv (s:ByteArray×ByteArray):Rat×Rat:=(rY s.1,rY s.2)
theorem aGj {s:ByteArray×ByteArray} (h:Kv s=true):IsD s (aFv s):=by
 unfold Kv at h
 rw[Bool.and_eq_true] at h
 exact⟨Xm h.1,Xm h.2⟩
noncomputable def Rq (s:PT):Bool:=Kv s.1&&Kv s.2
noncomputable def yG (s:PT):PQ:=(aFv s.1,aFv s.2)
theorem aF9 {s:PT} (h:Rq s=true):IsP s (yG s):=by
 unfold Rq at h
 rw[Bool.and_eq_true] at h
 exact⟨aGj h.1,aGj h.2⟩
noncomputable def Bd:Rat->List PQ->Option Rat
 |r,[]=>some r
 |r,d::l=>if 0<Zb d.1 d.2 then none else Bd (tV r d) l
def Zv (xs:List PT) (t:ByteArray) (e:Int):Prop:=
 (xs.all Rq=false->t= .empty/\e=1)/\(xs.all Rq=true->(Bd 1 (xs.map yG)=none->t= .empty/\e=3)/\∀r,Bd 1 (xs.map yG)=some r->e=0/\jG (bl t) r)
theorem Zv.uniq {xs:List PT} {t t':ByteArray} {e e':Int} (h:Zv xs t e) (k:Zv xs t' e'):t=t'/\e=e':=by
 cases ha:xs.all Rq with
 |false=>
  obtain⟨rfl,rfl⟩:=h.1 ha
  obtain⟨rfl,rfl⟩:=k.1 ha
  exact⟨rfl,rfl⟩
 |true=>
  cases hp:Bd 1 (xs.map yG) with
  |none=>
   obtain⟨rfl,rfl⟩:=(h.2 ha).1 hp
   obtain⟨rfl,rfl⟩:=(k.2 ha).1 hp
   exact⟨rfl,rfl⟩
  |some r=>
   obtain⟨rfl,h1⟩:=(h.2 ha).2 r hp
   obtain⟨rfl,k1⟩:=(k.2 ha).2 r hp
   exact⟨Xb (h1.uniq k1),rfl⟩
theorem aEj {α:Type} {f:α->Bool} {xs:List α} {j:Nat} (h:j<xs.length):(xs.take (j+1)).all f=((xs.take j).all f&&f xs[j]):=by
 rw[List.take_succ,List.getElem?_eq_getElem h,Option.toList_some,List.all_append]
 simp
theorem mF.ts {s:ByteArray} {q:Rat} (h:jG (bl s) q) (hs:Ts s.size):mF q 268435457:=(aId h).mono (by rw[<-eY];exact Nat.succ_le_succ hs)
section
variable {w w':World} {p o:Addr} {A:Option Addr} {n c:Nat}
theorem aJw {T:TypeId} {s1 s2 s3 s4:ByteArray} (h:New w (.cells #[.string s1,.string s2,.string s3,.string s4] T) p w') {z:Addr} {w2:World} (k:Kp z w' w2) (hz:z.block≠p.block):Sl Zi w2 (some p) 2 [(s1,s2),(s3,s4)]:=by
 have hc:=k.own (h.cells rfl:bC w' p [.string s1,.string s2,.string s3,.string s4]) fun e=>hz e.symm
 refine⟨rfl,fun i x hx=>⟨p,[.string x.1,.string x.2],rfl,rfl,fun j v hj=> ?_,rfl⟩⟩
 rw[Addr.add_add]
 refine hc _ v ?_
 have e:Zi.size=2:=rfl
 rw[e]
 rcases i with _|_|i
 ·cases hx
  rcases j with _|_|j
  ·exact hj
  ·exact hj
  ·cases hj
 ·cases hx
  rcases j with _|_|j
  ·exact hj
  ·exact hj
  ·cases hj
 ·cases hx
theorem aJk {xs:List PT} (hT:Sl zT w A n xs) (hs:∀x∈xs,Tp x) (hn:Sn n):Calls P F.Xt #[.slice A n c] w (aS fun v w'=>Ext w w'/\∃(t:ByteArray) (e:Int),v= .tuple #[.string t,.int .i64 e]/\Zv xs t e):=by
 refine aS.mono (aD9 A n c (fun t e w'=>Ext w w'/\Zv xs t e) w ?_) (by rintro _ w' ⟨t,e,rfl,h,h2⟩;exact⟨h,t,e,rfl,h2⟩)
 have hl:=hT.1
 unfold Sn at hn
 intro p1 w1 hN1
 have m1:=Lc.new hN1 (Ext.refl w)
 refine⟨fun m i w'=>∃j:Nat,i=j/\m=n-j/\j<=n/\Ext w w'/\Lc w w' p1 T.Bj [.bool (!(xs.take j).all Rq),.bool false,.bool false],⟨n,0,rfl,by omega,by omega,Ext.bI hN1,m1⟩,?_⟩
 rintro m i w2 ⟨j,rfl,rfl,hj,E2,m2⟩
 refine⟨fun hlt=> ?_,fun hge=> ?_⟩
 ·have hjl:j<xs.length:=by omega
  obtain⟨a,vs,ha,_,hc,hr⟩:=(hT.ext E2).2 j xs[j] (List.getElem?_eq_getElem hjl)
  have hv:vs=[.string xs[j].1.1,.string xs[j].1.2,.string xs[j].2.1,.string xs[j].2.2]:=hr
  subst hv
  refine⟨by omega,hlt,a,ha,_,_,_,_,hc,fun p2 w3 hN3=>⟨hN3.soft rfl,fun w4 hw4=> ?_⟩⟩
  have hN4:=hN3.store hw4 rfl
  have c4:=(hN4.cells rfl:bC w4 p2 [.string xs[j].1.1,.string xs[j].1.2,.string xs[j].2.1,.string xs[j].2.2])
  refine⟨xs[j].1.1,xs[j].1.2,fun i v hv=> ?_,xs[j].2.1,xs[j].2.2,fun i v hv=> ?_,fun p3 w5 hN5=> ?_⟩
  ·rw[Addr.add_add]
   refine c4 _ v ?_
   rcases i with _|_|i
   ·exact hv
   ·exact hv
   ·cases hv
  ·rw[Addr.add_add]
   refine c4 _ v ?_
   rcases i with _|_|i
   ·exact hv
   ·exact hv
   ·cases hv
  have m5:=(m2.ext (Ext.bI hN4)).ext (Ext.bI hN5)
  have hne:=(m2.ext (Ext.bI hN4)).ne hN5
  have hsj:=hs _ (List.getElem_mem hjl)
  refine aS.mono (aHi (n:=2) m5.1 (fun w' k=>aJw hN5 k hne) (fun x hx=>by
   simp only[List.mem_cons,List.not_mem_nil,or_false] at hx
   rcases hx with rfl|rfl
   ·exact hsj.1
   ·exact hsj.2) (by decide)) ?_
  rintro _ w6 ⟨rfl,K6,F6⟩
  have E6:=m5.over ((E2.trans (Ext.bI hN4)).trans (Ext.bI hN5)) K6
  refine⟨_,rfl,n-(j+1),by omega,j+1,by rw[wrap_i64 (by omega) (by omega)];omega,rfl,by omega,E6,?_,m5.2⟩
  rw[aEj hjl]
  have e2:(!(xs.take j).all Rq|| !([(xs[j].1.1,xs[j].1.2),(xs[j].2.1,xs[j].2.2)]:List (ByteArray×ByteArray)).all Kv)=(!((xs.take j).all Rq&&Rq xs[j])):=by
   unfold Rq
   simp
  rw[e2] at F6
  exact F6
 have hj:j=xs.length:=by omega
 subst hj
 rw[List.take_length] at m2
 refine aS.mono (aIh m2.1) ?_
 rintro _ w3 ⟨rfl,rfl⟩
 cases hall:xs.all Rq with
 |false=>exact⟨_,rfl,fun _=>⟨E2,fun _=>⟨rfl,by simp⟩,fun h=>by rw[hall] at h;cases h⟩,fun h=>absurd (show(1:Int)≠0 by decide) (by simpa [hall] using h)⟩
 |true=>
 refine⟨_,rfl,fun h=>absurd rfl h,fun _=>aS.mono aGx ?_⟩
 rintro _ w4 ⟨o,rfl,E4,hR,_⟩
 have E04:=E2.trans E4
 have e1:mF (1:Rat) 1073741830:=⟨Lb.one.mono (by decide),Lb.one.mono (by decide)⟩
 refine⟨_,rfl,fun m o i w'=>∃(j:Nat) (ob:Addr) (r:Rat),o=some ob/\i=j/\m=n-j/\j<=n/\Ext w w'/\dX w' ob r/\mF r 1073741830/\Bd r ((xs.drop j).map yG)=Bd 1 (xs.map yG),⟨n,0,o,1,rfl,rfl,by omega,by omega,E04,hR,e1,by rw[List.drop_zero]⟩,?_⟩
 rintro m o i w9 ⟨j,ob,r,rfl,rfl,rfl,hj,E9,hR,lr,hp⟩
 refine⟨fun hlt=> ?_,fun hge=> ?_⟩
 ·have hjl:j<xs.length:=by omega
  obtain⟨a,vs,ha,_,hc,hr⟩:=(hT.ext E9).2 j xs[j] (List.getElem?_eq_getElem hjl)
  have hv:vs=[.string xs[j].1.1,.string xs[j].1.2,.string xs[j].2.1,.string xs[j].2.2]:=hr
  subst hv
  have hI:=aF9 (List.all_eq_true.1 hall _ (List.getElem_mem hjl))
  have hsj:=hs _ (List.getElem_mem hjl)
  have hl4:LbP (yG xs[j]) 268435457:=⟨mF.ts hI.1.1 hsj.1.1,mF.ts hI.1.2 hsj.1.2,mF.ts hI.2.1 hsj.2.1,mF.ts hI.2.2 hsj.2.2⟩
  rw[List.drop_eq_getElem_cons hjl,List.map_cons] at hp
  refine⟨by omega,hlt,a,ha,_,_,_,_,hc,fun p4 w10 hN10=>⟨hN10.soft rfl,fun w11 hw11=> ?_⟩⟩
  have hN11:=hN10.store hw11 rfl
  have c4:=(hN11.cells rfl:bC w11 p4 [.string xs[j].1.1,.string xs[j].1.2,.string xs[j].2.1,.string xs[j].2.2])
  have E11:=E9.trans (Ext.bI hN11)
  have hR11:=hR.ext (Ext.bI hN11)
  have fin:∀w' pl ph a b a' b',Ext w11 w'->Lc w11 w' pl T.eH [.pointer (some a),.pointer (some b)]->Lc w11 w' ph T.eH [.pointer (some a'),.pointer (some b')]->DAt w' a b (yG xs[j]).1->DAt w' a' b' (yG xs[j]).2->fF (fun t e w'=>Ext w w'/\Zv xs t e) (dZ (n-j) (fun m o i w'=>∃(j:Nat) (ob:Addr) (r:Rat),o=some ob/\i=j/\m=n-j/\j<=n/\Ext w w'/\dX w' ob r/\mF r 1073741830/\Bd r ((xs.drop j).map yG)=Bd 1 (xs.map yG)) (j:Int)) (some ob) pl ph w':=fun w' pl ph a b a' b' E cl ch dl dh=>by
   refine aI1 (w0:=w11) hl4 lr (by omega) (by unfold Sh;omega) E cl.1.cells ch.1.cells dl dh (fun w2 e=>hR11.ext e) (fun h w2 e=>⟨E11.trans e,fun h2=>(by rw[hall] at h2;cases h2),fun _=>⟨fun _=>⟨rfl,rfl⟩,fun r2 h2=> ?_⟩⟩) fun h w2 o2 e hR2=>⟨n-(j+1),by omega,j+1,o2,_,rfl,by rw[wrap_i64 (by omega) (by omega)];omega,rfl,by omega,E11.trans e,hR2,aEi hl4 lr (by omega),?_⟩
   ·rw[<-hp] at h2
    unfold Bd at h2
    rw[if_pos h] at h2
    cases h2
   ·rw[<-hp]
    conv=>rhs;unfold Bd
    rw[if_neg h]
  have E:=Ext.refl w11
  clear hR11 hR hT hp hw11 hN10
  refine⟨fun _=>False,xs[j].1.1,xs[j].1.2,fun i v hv=> ?_,id,xs[j].2.1,xs[j].2.2,fun i v hv=> ?_,id,?_⟩
  ·rw[Addr.add_add]
   refine c4 _ v ?_
   rcases i with _|_|i
   ·exact hv
   ·exact hv
   ·cases hv
  ·rw[Addr.add_add]
   refine c4 _ v ?_
   rcases i with _|_|i
   ·exact hv
   ·exact hv
   ·cases hv
  clear c4
  repeat' (first
   |exact fin _ _ _ _ _ _ _ E m1 m2 hl' hh'
   |exact fin _ _ _ _ _ _ _ E m2 m1 hl' hh'
   |exact E
   |(refine aS.mono (aJ6 hI.1 hsj.1) ?_
     rintro _ w' ⟨a,b,rfl,e,hl'⟩
     replace E:=E.trans e
     try replace hh':=hh'.ext e
     try replace m1:=m1.ext e
     try replace m2:=m2.ext e
     clear e
     refine⟨_,_,rfl,?_⟩)
   |(refine aS.mono (aJ6 hI.2 hsj.2) ?_
     rintro _ w' ⟨a,b,rfl,e,hh'⟩
     replace E:=E.trans e
     try replace hl':=hl'.ext e
     try replace m1:=m1.ext e
     try replace m2:=m2.ext e
     clear e
     refine⟨_,_,rfl,?_⟩)
   |(intro w' D
     have e:=Ext.aO D
     replace E:=E.trans e
     try replace hh':=hh'.ext e
     try replace hl':=hl'.ext e
     try replace m1:=m1.ext e
     try replace m2:=m2.ext e
     clear e)
   |(intro p w' N
     have hne:=Lc.ne m1 N
     have m2:=Lc.new N E
     have e:=Ext.bI N
     replace E:=E.trans e
     try replace hh':=hh'.ext e
     try replace hl':=hl'.ext e
     replace m1:=m1.ext e
     clear e)
   |(intro p w' N
     have m1:=Lc.new N E
     have e:=Ext.bI N
     replace E:=E.trans e
     try replace hh':=hh'.ext e
     try replace hl':=hl'.ext e
     clear e)
   |(refine⟨m1.1.Wq (by decide),fun w' hw=> ?_⟩
     obtain⟨m3,kk⟩:=m1.set2 hw
     replace E:=m1.over E kk
     replace hh':=hh'.other m1.1 kk
     replace hl':=hl'.other m1.1 kk
     replace m2:=m2.other kk hne.symm
     replace m1:=m3
     clear kk m3)
   |(refine⟨m2.1.Wq (by decide),fun w' hw=> ?_⟩
     obtain⟨m3,kk⟩:=m2.set2 hw
     replace E:=m2.over E kk
     replace hh':=hh'.other m2.1 kk
     replace hl':=hl'.other m2.1 kk
     replace m1:=m1.other kk hne
     replace m2:=m3
     clear kk m3)
   |refine⟨?_,?_⟩)
 ·have hj:j=xs.length:=by omega
  subst hj
  rw[List.drop_length] at hp
  refine aS.mono (Xn hR lr (by unfold Sh;omega)) ?_
  rintro _ w10 ⟨t,rfl,E10,ht,_⟩
  refine⟨t,rfl,E9.trans E10,fun h=>(by rw[hall] at h;cases h),fun _=>⟨fun h=> ?_,fun r2 h=>⟨rfl,?_⟩⟩⟩
  ·rw[<-hp] at h;cases h
  ·rw[<-hp] at h;cases h;exact ht
end
def Vr (l:List UInt8):Bool:=Eo l&&(l.length==1||l.head? !=some 48)
theorem aE5 {l:List UInt8} {n:Nat} (h:wZ l n):Vr l=true:=by
 unfold Vr
 rw[lJ.2 ⟨h.ne,h.ds⟩,Bool.true_and,Bool.or_eq_true]
 rcases h.hd with e|e
 ·left;rw[e];rfl
 ·right;simpa using e
theorem Io {l:List UInt8} (h:Vr l=true):wZ l (dv l):=by
 unfold Vr at h
 rw[Bool.and_eq_true,Bool.or_eq_true] at h
 obtain⟨h1,h2⟩:=lJ.1 h.1
 refine⟨h1,h2,?_,rfl⟩
 rcases h.2 with e|e
 ·obtain⟨c,rfl⟩:=List.length_eq_one_iff.1 (by simpa using e)
  by_cases hc:c=48
  ·left;rw[hc]
  ·right;simpa using hc
 ·right;simpa using e
theorem aDl {l:List UInt8} {q:Rat} (h:jG l q):Vr (upto 47 (bare l))=true/\Vr ((past 47 (bare l)).getD [49])=true/\(past 47 (bare l)).getD [49]≠[48]:=by
 obtain⟨a,b,rfl,ha,hb⟩:=h
 have e:Vz q a b=tx (decide (q.num<0)) a (if q.den=1 then none else some b):=by
  unfold Vz tx
  by_cases h1:q.num<0<;>by_cases h2:q.den=1<;>simp[h1,h2]
 obtain⟨_,h2,h3⟩:=aIs (s:=decide (q.num<0)) (b:=if q.den=1 then none else some b) ha.ne ha.ds
 rw[e,h2,h3]
 refine⟨aE5 ha,?_⟩
 by_cases hd:q.den=1
 ·rw[if_pos hd]
  exact⟨by decide,by decide⟩
 ·rw[if_neg hd]
  refine⟨aE5 hb,fun h=> ?_⟩
  have:b=[48]:=h
  have hv:=hb.val
  rw[this] at hv
  have:dv [48]=0:=rfl
  exact q.den_nz (by omega)
theorem aCd {l:List UInt8} (h1:Vr (upto 47 (bare l))=true) (h2:Vr ((past 47 (bare l)).getD [49])=true) (h3:(past 47 (bare l)).getD [49]≠[48]):
  dv ((past 47 (bare l)).getD [49])≠0/\gJ l=some (mkRat (sg (Cc l) (dv (upto 47 (bare l)))) (dv ((past 47 (bare l)).getD [49]))):=by
 have d1:=Io h1
 have d2:=Io h2
 have hd0:dv ((past 47 (bare l)).getD [49])≠0:=fun e=>by rw[e] at d2;exact h3 d2.zero
 refine⟨hd0,?_⟩
 rw[Xv (lJ.2 ⟨d1.ne,d1.ds⟩)]
 ·cases past 47 (bare l)<;>rfl
 ·intro d hd
  rw[hd] at d2 hd0
  exact⟨lJ.2 ⟨d2.ne,d2.ds⟩,hd0⟩
theorem aKd {l:List UInt8} {i:Nat} (h:l[i]? =some 47) (hb:∀j,j<i->l[j]?≠some 47):upto 47 l=l.take i/\past 47 l=some (l.drop (i+1)):=by
 have hi:=(List.getElem?_eq_some_iff.1 h).1
 have e:l=l.take i++(some (l.drop (i+1))).elim [] (47::·):=by
  show l=l.take i++47::l.drop (i+1)
  have:l[i]=47:=by rw[List.getElem?_eq_getElem hi] at h;exact Option.some.inj h
  rw[<-this,<-List.drop_eq_getElem_cons hi,List.take_append_drop]
 have h2:=aFh (c:=47) (a:=l.take i) (fun x hx e=>by
  subst e
  obtain⟨j,hj,hx⟩:=List.getElem_of_mem hx
  rw[List.length_take] at hj
  exact hb j (by omega) (by rw[List.getElem?_eq_getElem (by omega),<-hx,List.getElem_take])) (some (l.drop (i+1)))
 rw[<-e] at h2
 exact h2
theorem aKb {l:List UInt8} (hb:∀j,j<l.length->l[j]?≠some 47):upto 47 l=l/\past 47 l=none:=by
 have h2:=aFh (c:=47) (a:=l) (fun x hx e=>by
  subst e
  obtain⟨j,hj,hx⟩:=List.getElem_of_mem hx
  exact hb j hj (by rw[List.getElem?_eq_getElem hj,hx])) none
 rwa [show l++(none:Option (List UInt8)).elim [] (47::·)=l from List.append_nil l] at h2
theorem aCe {s:ByteArray} {j k:Nat} {c:UInt8} (hj:j<(bl s).length) (hk:c.toNat=k):byteAt s (j:Int)=(k:Int)↔(bl s)[j]? =some c:=by
 rw[Rn (List.getElem?_eq_getElem hj),List.getElem?_eq_getElem hj]
 refine⟨fun h=>congrArg some (UInt8.toNat_inj.1 (by omega)),fun h=>by rw[Option.some.inj h,hk]⟩
section
variable {w0 w w':World} {p o:Addr} {q r:Rat} {k j:Nat}
theorem aA8 (s:ByteArray) (w:World) (hs:s.size<=1099511627776):Calls P F.nU #[.string s] w (aS fun v w'=>w'=w/\v= .bool (Vr (bl s))):=by
 refine aS.mono (Qy s (fun b w'=>w'=w/\b=Vr (bl s)) w ?_) (by rintro _ w' ⟨b,rfl,h,rfl⟩;exact⟨h,rfl⟩)
 have hz:=eY s
 unfold uK
 rw[hz]
 rw[hz] at hs
 refine⟨fun q i=>∃j:Nat,i=j/\q=(bl s).length-j/\j<=(bl s).length/\∀c∈(bl s).take j,Dg c,⟨_,0,rfl,rfl,by omega,fun c hc=>by simp at hc⟩,?_⟩
 rintro q i ⟨j,rfl,rfl,hj,hd⟩
 refine⟨fun hlt=> ?_,fun hge=> ?_⟩
 ·have hj:j<(bl s).length:=by omega
  have hb:=Rn (List.getElem?_eq_getElem hj)
  rw[hb]
  have no:¬Dg (bl s)[j]->w=w/\false=Vr (bl s):=fun h=>⟨rfl,by
   cases hn:Vr (bl s)
   ·rfl
   ·exact absurd ((Io hn).ds _ (List.getElem_mem hj)) h⟩
  refine⟨by omega,hlt,fun h=>⟨fun _=>no fun hd=>by have:=hd.1;omega,fun h=>by cases h⟩,fun h=>⟨by omega,hlt,fun h2=>no fun hd=> ?_,fun h2=> ?_⟩⟩
  ·have:=of_decide_eq_true h2
   have:=hd.2
   omega
  ·have:=of_decide_eq_false h2
   rw[wrap_i64 (by omega) (by omega)]
   refine⟨(bl s).length-(j+1),by omega,j+1,by omega,rfl,by omega,fun c hc=> ?_⟩
   rw[List.take_succ,List.getElem?_eq_getElem hj,Option.toList_some,List.mem_append,List.mem_singleton] at hc
   rcases hc with hc|rfl
   ·exact hd c hc
   ·exact⟨by omega,by omega⟩
 ·have hj:j=(bl s).length:=by omega
  subst hj
  rw[List.take_length] at hd
  refine⟨fun h1=>⟨rfl,?_⟩,fun h1=>⟨fun h2=>⟨by omega,by omega,rfl,?_⟩,fun h2=>⟨rfl,?_⟩⟩⟩
  ·unfold Vr
   have h1':(bl s).length=1:=by omega
   rw[lJ.2 ⟨fun e=>(by rw[e] at h1';cases h1'),hd⟩,h1']
   rfl
  ·have hf:Eo (bl s)=true:=lJ.2 ⟨fun e=>by rw[e] at h2;simp at h2,hd⟩
   have h1':((bl s).length==1)=false:=by
    have:¬(bl s).length=1:=by omega
    simpa using this
   unfold Vr
   rw[hf,h1',Bool.true_and,Bool.false_or]
   have hb:byteAt s 0=48↔(bl s)[0]? =some 48:=aCe (s:=s) (j:=0) (k:=48) (c:=48) (by omega) rfl
   rw[List.head?_eq_getElem?]
   by_cases h:(bl s)[0]? =some 48
   ·rw[h,decide_eq_false (show¬byteAt s 0≠48 from fun e=>e (hb.2 h))];rfl
   ·rw[decide_eq_true (show byteAt s 0≠48 from fun e=>h (hb.1 e))]
    simpa using h
  ·have:bl s=[]:=List.length_eq_zero_iff.1 (by omega)
   rw[this];rfl
abbrev OfR (w0:World) (s:ByteArray):Bool->Option Addr->Nat->Nat->Option Addr->Nat->Nat->Bool->World->Prop:=fun t A n c B m d b w'=>Ext w0 w'/\b=yI s/\∀q,jG (bl s) q->IQ w' t A n c B m d q
theorem aF2 {s:ByteArray} (h:¬∃q,jG (bl s) q):false=yI s:=aDj ⟨fun h=>(by cases h),fun h2=>absurd h2 h⟩
theorem aIw (s:ByteArray) (w:World) (hs:Ts s.size):Calls P F.vT #[.string s] w (aS fun v w'=>∃t A n c,∃B m d,∃b,v= .tuple #[.agg #[.bool t,.slice A n c,.slice B m d],.bool b]/\OfR w s t A n c B m d b w'):=by
 refine Yv s (OfR w s) w ?_
 intro p w1 hN
 have m1:=Lc.new hN (Ext.refl w)
 have E1:=Ext.bI hN
 unfold Ts at hs
 have hz:=eY s
 have bl1:(bare (bl s)).length<=(bl s).length:=by
  unfold bare
  split
  ·rw[List.length_drop];omega
  ·omega
 have hc:=congrArg List.length (aC0 47 (bare (bl s)))
 rw[List.length_append] at hc
 have no:∀w3 (a b c0:Value),Lc w w3 p T.bM [a,b,c0]->Ext w w3->(¬∃q,jG (bl s) q)->jR w3 p 3/\∀w5,w5=aX w3 p [.bool false,.slice none 0 0,.slice none 0 0]->(∃b7 A3 n3 c3,∃A4 n4 c4,bC w5 p [.bool b7,.slice A3 n3 c3,.slice A4 n4 c4]/\OfR w s b7 A3 n3 c3 A4 n4 c4 false w5):=fun w3 a b c0 hm E h=>by
  refine⟨hm.1.Wq (Nat.le_refl 3),fun w5 h5=> ?_⟩
  obtain⟨h1,k⟩:=hm.1.aE9 (us:=[.bool false,.slice none 0 0,.slice none 0 0]) rfl h5
  exact⟨_,_,_,_,_,_,_,h1.cells,hm.over E k,aF2 h,fun q hq=>absurd ⟨q,hq⟩ h⟩
 have J3:∀s2 s5 s6:ByteArray,bl s2=bare (bl s)->bl s5=upto 47 (bare (bl s))->bl s6=(past 47 (bare (bl s))).getD [49]->lM w1 p (OfR w s) s2 s s5 s6:=fun s2 s5 s6 h2 h5 h6=>by
  have l5:s5.size<=268435457:=by rw[eY,h5];omega
  have l6:s6.size<=268435457:=by
   rw[eY,h6]
   cases hp:past 47 (bare (bl s)) with
   |none=>simp
   |some d=>rw[hp] at hc;simp at hc⊢;omega
  refine aS.mono (aA8 s5 w1 (by omega)) ?_
  rintro _ w2 ⟨rfl,rfl⟩
  rw[h5]
  refine⟨_,rfl,fun hb=>⟨fun _=>no _ _ _ _ m1 E1 fun⟨q,hq⟩=> ?_,fun h=>by cases h⟩,fun hb=>aS.mono (aA8 s6 w2 (by omega)) ?_⟩
  ·rw[(aDl hq).1] at hb;cases hb
  rintro _ w4 ⟨rfl,rfl⟩
  rw[h6]
  refine⟨_,rfl,fun hb2=>⟨fun _=>no _ _ _ _ m1 E1 fun⟨q,hq⟩=> ?_,fun h=>by cases h⟩,fun hb2=>⟨fun h0=>no _ _ _ _ m1 E1 fun⟨q,hq⟩=> ?_,fun h0=> ?_⟩⟩
  ·rw[(aDl hq).2.1] at hb2;cases hb2
  ·have h0:=of_decide_eq_true h0
   exact(aDl hq).2.2 (by rw[<-h6,h0])
  have n1:Vr (upto 47 (bare (bl s)))=true:=by simpa using hb
  have n2:Vr ((past 47 (bare (bl s))).getD [49])=true:=by simpa using hb2
  have n3:(past 47 (bare (bl s))).getD [49]≠[48]:=fun e=>of_decide_eq_false h0 (Xb (by rw[h6,e]))
  obtain⟨d0,hp⟩:=aCd n1 n2 n3
  have hneg:decide ((s2.size:Int)<(s.size:Int))=Cc (bl s):=by
   rw[eY s2,h2,hz]
   unfold bare
   cases hn:Cc (bl s)
   ·simp
   ·have:(bl s).length≠0:=fun e=>by
     rw[List.length_eq_zero_iff.1 e] at hn
     cases hn
    simp
    omega
  refine aS.mono (aCp s5 w4 (by rw[h5];exact(Io n1).ds) (by omega)) ?_
  rintro _ w6 ⟨A5,n5,c5,rfl,E6,i5⟩
  refine⟨A5,n5,c5,rfl,aS.mono (aCp s6 w6 (by rw[h6];exact(Io n2).ds) (by omega)) ?_⟩
  rintro _ w7 ⟨A6,n6,c6,rfl,E7,i6⟩
  have z5:=eY s5
  have z6:=eY s6
  have l5':=i5.le (Lb.dec (by rw[h5];exact(Io n1).ds))
  have l6':=i6.le (Lb.dec (by rw[h6];exact(Io n2).ds))
  rw[h5] at i5
  rw[h6] at i6
  refine⟨A6,n6,c6,rfl,?_⟩
  rw[hneg]
  refine aS.mono (Rk (i5.ext E7) i6 d0 (by unfold Sh;omega) (by unfold Sh;omega)) ?_
  rintro _ w8 ⟨b8,A7,n7,c7,A8,n8,c8,rfl,E8,hq⟩
  generalize mkRat (sg (Cc (bl s)) (dv (upto 47 (bare (bl s))))) (dv ((past 47 (bare (bl s))).getD [49]))=q at*
  have E68:=(E6.trans E7).trans E8
  have E08:=E1.trans E68
  refine⟨b8,A7,n7,c7,A8,n8,c8,rfl,fun p2 w9 hN2=> ?_⟩
  have m2:=Lc.new hN2 E08
  have E09:=E08.trans (Ext.bI hN2)
  have m19:=(m1.ext E68).ext (Ext.bI hN2)
  have hne:=(m1.ext E68).ne hN2
  refine⟨m2.1.Wq (Nat.le_refl 3),fun w10 h10=> ?_⟩
  obtain⟨g2,k2⟩:=m2.1.aE9 (us:=[.bool b8,.slice A7 n7 c7,.slice A8 n8 c8]) rfl h10
  have E10:=m2.over E09 k2
  have hq10:=(hq.ext (Ext.bI hN2)).sd m2.1 (by decide) k2
  have m10:=m19.other k2 hne
  refine⟨_,_,_,_,_,_,_,g2.cells,aS.mono (aDh hq10 (aA4 hp) (by unfold Sh;omega)) ?_⟩
  rintro _ w11 ⟨t,rfl,E11,ht,_⟩
  have hci:=aCj hp ht
  refine⟨t,rfl,fun hne2=>no _ _ _ _ (m10.ext E11) (E10.trans E11) fun h=>hne2 (Xb (hci.2 h)),fun he=> ?_⟩
  have he:t=s:=Classical.byContradiction he
  refine⟨_,_,_,_,_,_,_,(g2.ext E11).cells,(m10.ext E11).1.Wq (Nat.le_refl 3),fun w13 h13=> ?_⟩
  obtain⟨g13,k13⟩:=(m10.ext E11).1.aE9 (us:=[.bool b8,.slice A7 n7 c7,.slice A8 n8 c8]) rfl h13
  refine⟨_,_,_,_,_,_,_,g13.cells,(m10.ext E11).over (E10.trans E11) k13,aDj ⟨fun _=>hci.1 (by rw[he]),fun _=>rfl⟩,fun q' hq'=> ?_⟩
  have:q'=q:=by
   have:=Ny hq'
   rw[hp] at this
   cases this
   rfl
  subst this
  exact(hq10.ext E11).sd (m10.ext E11).1 (by decide) k13
 have J4:∀s2:ByteArray,bl s2=bare (bl s)->iR w1 p (OfR w s) s s2:=fun s2 h2=>by
  have z2:=eY s2
  unfold iR
  rw[z2,h2]
  refine⟨fun q a b i=>∃j:Nat,i=j/\q=(bare (bl s)).length-j/\j<=(bare (bl s)).length/\a=s2/\b=⟨#[49]⟩/\∀t,t<j->(bare (bl s))[t]?≠some 47,⟨_,0,rfl,rfl,by omega,rfl,rfl,fun t ht=>by omega⟩,?_⟩
  rintro q a b i ⟨j,rfl,rfl,hj,rfl,rfl,hb⟩
  refine⟨fun hlt=> ?_,fun hge=> ?_⟩
  ·have hj:j<(bare (bl s)).length:=by omega
   have hbe:=aCe (s:=a) (j:=j) (k:=47) (c:=47) (by rw[h2];exact hj) rfl
   rw[h2] at hbe
   refine⟨by omega,hlt,fun h=> ?_,fun h=> ?_⟩
   ·obtain⟨e1,e2⟩:=aKd (hbe.1 h) hb
    rw[wrap_i64 (by omega) (by omega)]
    refine⟨by omega,by omega,by omega,by omega,J3 _ _ _ h2 ?_ ?_⟩
    ·rw[Ci,h2,e1];simp
    ·rw[Ci,h2,e2,show((j:Int)+1).toNat=j+1 by omega]
     show _=(bare (bl s)).drop (j+1)
     rw[List.take_of_length_le (by rw[List.length_drop];omega)]
   ·rw[wrap_i64 (by omega) (by omega)]
    refine⟨_,by omega,j+1,by omega,rfl,by omega,rfl,rfl,fun t ht=> ?_⟩
    rcases Nat.lt_or_ge t j with h1|h1
    ·exact hb t h1
    ·have:t=j:=by omega
     subst this
     exact fun e=>h (hbe.2 e)
  ·have hj:j=(bare (bl s)).length:=by omega
   subst hj
   obtain⟨e1,e2⟩:=aKb hb
   exact J3 _ _ _ h2 (by rw[h2,e1]) (by rw[e2];rfl)
 have minus:=Za (s:=s)
 refine⟨fun hpos=>⟨by omega,hpos,?_⟩,fun h0=>⟨fun h=>(by cases h),fun _=>J4 s ?_⟩⟩
 ·by_cases h:byteAt s 0=45
  ·rw[decide_eq_true h]
   refine⟨fun _=>⟨by omega,by omega,J4 _ ?_⟩,fun h=>(by cases h)⟩
   rw[Ci]
   unfold bare
   rw[minus.1 h,if_pos rfl]
   show((bl s).drop 1).take (s.size-1)=_
   rw[List.take_of_length_le (by rw[List.length_drop];omega)]
  ·rw[decide_eq_false h]
   refine⟨fun h=>(by cases h),fun _=>J4 s ?_⟩
   unfold bare
   rw[if_neg (fun e=>h (minus.2 e))]
 ·have:bl s=[]:=List.length_eq_zero_iff.1 (by omega)
  rw[this]
  rfl
theorem aGz (s:ByteArray) (w:World) (hs:Ts s.size):Calls P F.vC #[.string s] w (aS fun v w'=>Ext w w'/\v= .bool (yI s)):=by
 refine aS.mono (Tt s (fun b w'=>Ext w w'/\b=yI s) w (aS.mono (aIw s w hs) ?_)) (by rintro _ w' ⟨b,rfl,h,rfl⟩;exact⟨h,rfl⟩)
 rintro _ w1 ⟨t,A,n,c,B,m,d,b,rfl,E,rfl,_⟩
 refine⟨t,A,n,c,B,m,d,_,rfl,fun p w2 hN=> ?_⟩
 have m1:=Lc.new hN E
 refine⟨m1.1.Wq (Nat.le_refl 3),fun w3 h3=>⟨m1.over (E.trans (Ext.bI hN)) (mD h3),rfl⟩⟩
theorem Jc (s:ByteArray) (w:World) (hs:Ts s.size):Calls P F.gV #[.string s] w (aS (QR w (rY s))):=by
 refine Tq s (KQ w (rY s)) w ?_
 intro p1 w1 hN1
 have m1:=Lc.new hN1 (Ext.refl w)
 have E1:=Ext.bI hN1
 refine aS.mono (aIw s w1 hs) ?_
 rintro _ w2 ⟨t,A,n,c,B,m,d,b,rfl,E2,rfl,hq⟩
 have E02:=E1.trans E2
 refine⟨t,A,n,c,B,m,d,_,rfl,fun p2 w3 hN2=> ?_⟩
 have m2:=Lc.new hN2 E02
 have hne:=(m1.ext E2).ne hN2
 refine⟨m2.1.Wq (Nat.le_refl 3),fun w4 h4=> ?_⟩
 obtain⟨g2,k2⟩:=m2.1.aE9 (us:=[.bool t,.slice A n c,.slice B m d]) rfl h4
 have E04:=m2.over (E02.trans (Ext.bI hN2)) k2
 have m14:=((m1.ext E2).ext (Ext.bI hN2)).other k2 hne
 refine⟨fun hb=> ?_,fun hb=> ?_⟩
 ·have hb:yI s=false:=by simpa using hb
  refine aS.mono aG9 ?_
  rintro _ w5 ⟨b4,A5,n5,c5,A6,n6,c6,rfl,E5,h5⟩
  have e:rY s=0:=by
   have:¬∃q,jG (bl s) q:=fun e=>by rw[yI,Us.2 e] at hb;cases hb
   unfold rY
   rw[dif_neg this]
  rw[e]
  exact⟨b4,A5,n5,c5,A6,n6,c6,rfl,aA7 (m14.ext E5) (E04.trans E5) h5 fun w' E _ hq=>⟨E,hq⟩⟩
 ·have hb:yI s=true:=by simpa using hb
  have h5:=((hq _ (Xm hb)).ext (Ext.bI hN2)).sd m2.1 (by decide) k2
  exact⟨_,_,_,_,_,_,_,g2.cells,aA7 m14 E04 h5 fun w' E _ hq=>⟨E,hq⟩⟩
abbrev TR (w0:World) (q:Rat) (k:Nat):Value->World->Prop:=fun v w'=>∃t,v= .string t/\Ext w0 w'/\jG (bl t) q/\t.size<=18*k+4
abbrev KT (w0:World) (q:Rat) (k:Nat):ByteArray->World->Prop:=fun t w'=>Ext w0 w'/\jG (bl t) q/\t.size<=18*k+4
theorem aGb {a b:ByteArray} (ha:Ts a.size) (hb:Ts b.size) (la:mF (rY a) k) (lb:mF (rY b) j) (hk:Sh (k+j+1)):Calls P F.rP #[.string a,.string b] w (aS (TR w (rY a-rY b) (k+j+1))):=by
 refine Vs a b (KT w (rY a-rY b) (k+j+1)) w (aS.mono (Jc a w ha) ?_)
 rintro _ w1 ⟨s,A,n,c,B,m,d,rfl,E1,h1⟩
 refine⟨s,A,n,c,B,m,d,rfl,aS.mono (Jc b w1 hb) ?_⟩
 rintro _ w2 ⟨s',A',n',c',B',m',d',rfl,E2,h2⟩
 refine⟨s',A',n',c',B',m',d',rfl,aS.mono (aGo (h1.ext E2) h2 la lb hk) ?_⟩
 rintro _ w3 ⟨t,A3,n3,c3,B3,m3,d3,rfl,E3,h3⟩
 refine⟨t,A3,n3,c3,B3,m3,d3,rfl,aS.mono (aDh h3 (la.sub lb) hk) ?_⟩
 rintro _ w4 ⟨u,rfl,E4,ht⟩
 exact⟨u,rfl,((E1.trans E2).trans E3).trans E4,ht⟩
theorem aD7 {a:ByteArray} (ha:Ts a.size):Calls P F.qG #[.string a] w (aS fun v w'=>Ext w w'/\v= .int .i64 (Ew (rY a))):=by
 refine aS.mono (Sm a (fun v w'=>Ext w w'/\v=Ew (rY a)) w (aS.mono (Jc a w ha) ?_)) (by rintro _ w' ⟨v,rfl,h,rfl⟩;exact⟨h,rfl⟩)
 rintro _ w1 ⟨s,A,n,c,B,m,d,rfl,E1,h1⟩
 refine⟨s,A,n,c,B,m,d,rfl,aS.mono (aA0 h1) ?_⟩
 rintro _ w2 ⟨E2,rfl⟩
 exact⟨_,rfl,E1.trans E2,rfl⟩
theorem aCt {a b:ByteArray} (ha:Ts a.size) (hb:Ts b.size) (la:mF (rY a) k) (lb:mF (rY b) j) (hk:Sh (k+j+1)):Calls P F.nS #[.string a,.string b] w (aS fun v w'=>Ext w w'/\v= .int .i64 (Vk (rY a) (rY b))):=by
 refine aS.mono (Vd a b (fun v w'=>Ext w w'/\v=Vk (rY a) (rY b)) w (aS.mono (Jc a w ha) ?_)) (by rintro _ w' ⟨v,rfl,h,rfl⟩;exact⟨h,rfl⟩)
 rintro _ w1 ⟨s,A,n,c,B,m,d,rfl,E1,h1⟩
 refine⟨s,A,n,c,B,m,d,rfl,aS.mono (Jc b w1 hb) ?_⟩
 rintro _ w2 ⟨s',A',n',c',B',m',d',rfl,E2,h2⟩
 refine⟨s',A',n',c',B',m',d',rfl,aS.mono (aFf (h1.ext E2) h2 la lb hk) ?_⟩
 rintro _ w3 ⟨E3,rfl⟩
 exact⟨_,rfl,(E1.trans E2).trans E3,rfl⟩
theorem aJu {a b:ByteArray} (ha:Ts a.size) (hb:Ts b.size) (la:mF (rY a) k) (lb:mF (rY b) j) (hk:Sh (k+j)) (h0:rY b≠0):Calls P F.wI #[.string a,.string b] w (aS (TR w (rY a/rY b) (k+j))):=by
 refine Vb a b (KT w (rY a/rY b) (k+j)) w (aS.mono (Jc b w hb) ?_)
 rintro _ w1 ⟨s,A,n,c,B,m,d,rfl,E1,h1⟩
 refine⟨s,A,n,c,B,m,d,rfl,fun p w2 hN=> ?_⟩
 have m1:=Lc.new hN E1
 refine⟨m1.1.Wq (Nat.le_refl 3),fun w3 h3=> ?_⟩
 obtain⟨g,k3⟩:=m1.1.aE9 (us:=[.bool s,.slice A n c,.slice B m d]) rfl h3
 have E3:=m1.over (E1.trans (Ext.bI hN)) k3
 have h13:=(h1.ext (Ext.bI hN)).sd m1.1 (by decide) k3
 refine⟨_,_,_,_,_,_,_,g.cells,aS.mono (aA0 h13) ?_⟩
 rintro _ w4 ⟨E4,rfl⟩
 refine⟨_,rfl,fun e=>absurd (Uf.1 e) h0,fun _=>⟨fun _=>False,_,_,_,_,_,_,_,(g.ext E4).cells,id,fun w6 D6=>aS.mono (Jc a w6 ha) ?_⟩⟩
 rintro _ w5 ⟨s',A',n',c',B',m',d',rfl,E5,h5⟩
 have E65:=(Ext.aO D6).trans E5
 refine⟨s',A',n',c',B',m',d',rfl,E65,fun w9 D9=>aS.mono (aIt (h5.ext (Ext.aO D9)) (h13.ext ((E4.trans E65).drawn D9)) h0 la lb hk) ?_⟩
 rintro _ w8 ⟨t,A3,n3,c3,B3,m3,d3,rfl,E8,h8⟩
 refine⟨t,A3,n3,c3,B3,m3,d3,rfl,fun w12 D12=>aS.mono (aDh (h8.ext (Ext.aO D12)) (la.div lb h0) hk) ?_⟩
 rintro _ w11 ⟨u,rfl,E11,ht⟩
 exact⟨u,rfl,fun w14 D14=>⟨(((((E3.trans E4).trans E65).drawn D9).trans E8).drawn D12).trans (E11.drawn D14),ht⟩⟩
end
def wW (p1:Addr) (s1:ByteArray) (K:World->Prop) (w:World):Prop:=
 Calls P F.vC #[.string s1] w (aS fun v1 w1=>∃b1,v1=(.bool b1)/\((!b1)=true->((∃u1,w1.cell? (p1.add 0)=some u1)/\w1.frozen? (p1.add 0)=false/\∀w2,w2=w1.setCell (p1.add 0) (.bool true)->(K w2)))/\((!b1)=false->(K w1)))
theorem Jl (p1:Addr) (s1:ByteArray) (K:World->Prop) (w:World) (H:wW p1 s1 K w):Calls P F.kD #[.pointer (some p1),.string s1] w (aS fun v w'=>v=(.tuple #[])/\K w'):=by
 unfold wW at H;refine aY (P:=P) Tryz.func111 rfl [(0,.pointer (some p1)),(1,.string s1)] 12 rfl rfl (aa rfl (aa rfl az)) (aB (aA (mv rfl (sc rfl rfl FF.Iy H ?_))));rintro _ w1 ⟨b1,rfl,H⟩;refine ag rfl (aC (nc (y2 0 4 rfl) (aB (aA (mv rfl (sv rfl rfl (xu rfl Gg) (aC (nc (y2 0 8 rfl) ?_))))))));refine dG rfl (fun hb=> ?_) (fun hb=> ?_)
 ·replace H:=H.1 hb;refine aA (mv rfl (nk rfl (fa rfl (TF.xO _ _) ?_)));obtain⟨⟨u1,h1⟩,h2,H⟩:=H;refine gX rfl (aF rfl) (xs rfl rfl (fE TF.size_bool rfl rfl h1 h2)) ?_;intro w2 hw;replace H:=H _ hw;clear hw;exact aC (Js (res0 rfl) ⟨_,rfl,rfl,H⟩)
 ·replace H:=H.2 hb;exact aN (Js (res0 rfl) ⟨_,rfl,rfl,H⟩)
def vF (p1:Addr) (s1:ByteArray) (s2:ByteArray) (K:World->Prop) (w:World):Prop:=
 ∀(p2:Addr) (w1:World),New w (.cells #[.string s1,.string s2] T.gK) p2 w1->(∃s3:ByteArray,w1.cell? (p2.add 0)=some (.string s3)/\Calls P F.kD #[.pointer (some p1),.string s3] w1 (aS fun v1 w2=>v1=(.tuple #[])/\∃s4:ByteArray,w2.cell? (p2.add 1)=some (.string s4)/\Calls P F.kD #[.pointer (some p1),.string s4] w2 (aS fun v2 w3=>v2=(.tuple #[])/\K w3)))
theorem Gz (p1:Addr) (s1:ByteArray) (s2:ByteArray) (K:World->Prop) (w:World) (H:vF p1 s1 s2 K w):Calls P F.jJ #[.pointer (some p1),.agg #[.string s1,.string s2]] w (aS fun v w'=>v=(.tuple #[])/\K w'):=by
 unfold vF at H;refine aY (P:=P) Tryz.func87 rfl [(0,.pointer (some p1)),(1,.agg #[.string s1,.string s2])] 12 rfl rfl (aa rfl (aa rfl az)) (aB (aA (fM (f:=(fun p=> .pointer (some p))) rfl rfl (aF rfl) (fun a ha=>tN (ha.ev rfl) uD) ?_)));intro p2 w1 hN;replace H:=H _ _ hN;refine aC (nc (y2 0 3 rfl) (aB (aA (mv rfl (fa rfl (TF.iF _ _) ?_)))));obtain⟨s3,h2,H⟩:=H;refine ld rfl (aJ TF.dN h2) (sc rfl rfl FF.qN H ?_);rintro _ w2 ⟨rfl,H⟩;refine aC (nc (y2 0 3 rfl) (aA (mv rfl (fa rfl (TF.lW _ _) ?_))));obtain⟨s4,h3,H⟩:=H;refine ld rfl (aJ TF.dN h3) (sc rfl rfl FF.qN H ?_);rintro _ w3 ⟨rfl,H⟩;exact aC (Js (res0 rfl) ⟨_,rfl,rfl,H⟩)
def uS (p1:Addr) (K:Int->World->Prop) (w:World):Prop:=
 ∃b1,w.cell? (p1.add 0)=some (.bool b1)/\(b1=true->(K 1 w))/\(b1=false->(∃b2,w.cell? (p1.add 1)=some (.bool b2)/\(b2=true->(K 4 w))/\(b2=false->(∃b3,w.cell? (p1.add 2)=some (.bool b3)/\(b3=true->(K 6 w))/\(b3=false->(K 0 w))))))
theorem Gw (p1:Addr) (K:Int->World->Prop) (w:World) (H:uS p1 K w):Calls P F.kZ #[.pointer (some p1)] w (aS fun v w'=>∃x1,v=(.int .i64 x1)/\K x1 w'):=by
 unfold uS at H;refine aY (P:=P) Tryz.func88 rfl [(0,.pointer (some p1))] 15 rfl rfl (fun p hp=>by rcases List.mem_singleton.1 hp with rfl;rfl) (aB (aA (ag rfl (aC (nc (kp 0 rfl zz) (aB (aB (aA (mv rfl (nk rfl (fa rfl (TF.xO _ _) ?_)))))))))));obtain⟨b1,h1,H⟩:=H;refine ld rfl (aJ TF.gU h1) (aC (nc (y2 0 6 rfl) ?_));refine dG rfl (fun hb=> ?_) (fun hb=> ?_)
 ·replace H:=H.1 hb;exact aB (aA (ag rfl (aC (nc (kp 2 rfl zz) (aW (aI (aG (res1 rfl rfl) ⟨_,rfl,_,rfl,H⟩)))))))
 ·replace H:=H.2 hb;refine aN (nc (kp 0 rfl zz) (aB (aB (aA (mv rfl (nk rfl (fa rfl (TF.Lj _ _) ?_)))))));obtain⟨b2,h2,H⟩:=H;refine ld rfl (aJ TF.gU h2) (aC (nc (y2 0 10 rfl) ?_));refine dG rfl (fun hb=> ?_) (fun hb=> ?_)
  ·replace H:=H.1 hb;exact aB (aA (ag rfl (aC (nc (kp 2 rfl zz) (aW (aI (aG (res1 rfl rfl) ⟨_,rfl,_,rfl,H⟩)))))))
  ·replace H:=H.2 hb;refine aN (nc (kp 0 rfl zz) (aB (aB (aA (mv rfl (nk rfl (fa rfl (TF.Ku _ _) ?_)))))));obtain⟨b3,h3,H⟩:=H;refine ld rfl (aJ TF.gU h3) (aC (nc (kp 14 rfl zz) ?_));refine dG rfl (fun hb=> ?_) (fun hb=> ?_)
   ·replace H:=H.1 hb;exact aB (aA (ag rfl (aC (nc (kp 2 rfl zz) (aW (aI (aG (res1 rfl rfl) ⟨_,rfl,_,rfl,H⟩)))))))
   ·replace H:=H.2 hb;exact aN (nc zz (aB (aA (ag rfl (aC (nc (kp 2 rfl zz) (aW (aG (res1 rfl rfl) ⟨_,rfl,_,rfl,H⟩))))))))
def yO (s1:ByteArray) (s2:ByteArray) (s3:ByteArray) (s4:ByteArray) (K:Int->World->Prop) (w:World):Prop:=
 ∀(p1:Addr) (w1:World),New w (.cells #[.string s1,.string s2] T.gK) p1 w1->(∀(p2:Addr) (w2:World),New w1 (.cells #[.string s3,.string s4] T.gK) p2 w2->(∃s5:ByteArray,w2.cell? (p1.add 0)=some (.string s5)/\∃s6:ByteArray,w2.cell? (p2.add 0)=some (.string s6)/\Calls P F.nS #[.string s5,.string s6] w2 (aS fun v1 w3=>∃x2,v1=(.int .i64 x2)/\(x2≠0->(K x2 w3))/\(¬(x2≠0)->(∃s7:ByteArray,w3.cell? (p1.add 1)=some (.string s7)/\∃s8:ByteArray,w3.cell? (p2.add 1)=some (.string s8)/\Calls P F.nS #[.string s7,.string s8] w3 (aS fun v2 w4=>∃x3,v2=(.int .i64 x3)/\K x3 w4))))))
theorem Nc (s1:ByteArray) (s2:ByteArray) (s3:ByteArray) (s4:ByteArray) (K:Int->World->Prop) (w:World) (H:yO s1 s2 s3 s4 K w):Calls P F.pR #[.agg #[.string s1,.string s2],.agg #[.string s3,.string s4]] w (aS fun v w'=>∃x1,v=(.int .i64 x1)/\K x1 w'):=by
 unfold yO at H;refine aY (P:=P) Tryz.func89 rfl [(0,.agg #[.string s1,.string s2]),(1,.agg #[.string s3,.string s4])] 19 rfl rfl (aa rfl (aa rfl az)) (aB (aA (fM (f:=(fun p=> .pointer (some p))) rfl rfl (aF rfl) (fun a ha=>tN (ha.ev rfl) uD) ?_)));intro p1 w1 hN;replace H:=H _ _ hN;refine fM (f:=(fun p=> .pointer (some p))) rfl rfl (aF rfl) (fun a ha=>tN (ha.ev rfl) uD) ?_;intro p2 w2 hN;replace H:=H _ _ hN;refine ag rfl (aC (nc (y2 2 3 rfl) (aB (aA (fa rfl (TF.iF _ _) ?_)))));obtain⟨s5,h3,H⟩:=H;refine ld rfl (aJ TF.dN h3) (fa rfl (TF.iF _ _) ?_);obtain⟨s6,h4,H⟩:=H;refine ld rfl (aJ TF.dN h4) (sc rfl rfl FF.oQ H ?_);rintro _ w3 ⟨x2,rfl,H⟩;refine ag rfl (aC (nc (y3 2 3 5 rfl) (aB (aB (aA (mv rfl (bo rfl rfl zC (aC (nc (y4 2 3 5 12 rfl) ?_)))))))));refine aK rfl (fun hb=> ?_) (fun hb=> ?_)
 ·replace H:=H.1 hb;exact aB (aA (mv rfl (ag rfl (aC (nc (kp 4 rfl zz) (aW (aI (aG (res1 rfl rfl) ⟨_,rfl,_,rfl,H⟩))))))))
 ·replace H:=H.2 hb;refine aN (nc (y2 2 3 rfl) (aB (aA (fa rfl (TF.lW _ _) ?_))));obtain⟨s7,h5,H⟩:=H;refine ld rfl (aJ TF.dN h5) (fa rfl (TF.lW _ _) ?_);obtain⟨s8,h6,H⟩:=H;refine ld rfl (aJ TF.dN h6) (sc rfl rfl FF.oQ H ?_);rintro _ w4 ⟨x3,rfl,H⟩;exact ag rfl (aC (nc (kp 4 rfl zz) (aW (aG (res1 rfl rfl) ⟨_,rfl,_,rfl,H⟩))))
def kE (s17:ByteArray) (s20:ByteArray) (s6:ByteArray) (jc2:ByteArray->World->Prop) (b1:Bool) (w16:World):Prop:=
 (b1=true->(Calls P F.wI #[.string s17,.string s20] w16 (aS fun v9 w17=>∃s21:ByteArray,v9=(.string s21)/\Calls P F.nS #[.string s21,.string s6] w17 (aS fun v10 w18=>∃x8,v10=(.int .i64 x8)/\(x8<0->(jc2 s21 w18))/\(¬(x8<0)->(jc2 s6 w18))))))/\(b1=false->(jc2 s6 w16))
def iD (k3:Nat) (I2:Nat->ByteArray->Int->World->Prop) (x4:Int) (s22:ByteArray) (w19:World):Prop:=
 ∃k4,k4<k3/\I2 k4 s22 (IntKind.wrap .i64 (x4+1)) w19
def Gl (A1:Option Addr) (n1 c1:Nat) (K:ByteArray->Int->World->Prop) (w:World):Prop:=
 ∀(p1:Addr) (w1:World),New w (.cells #[.bool false,.bool false,.bool false] T.kT) p1 w1->(∃I1:Nat->Int->World->Prop,(∃k1,I1 k1 0 w1)/\∀k1 (x2:Int) (w2:World),I1 k1 x2 w2->((x2<(n1:Int)->(0<=x2/\x2<(n1:Int)/\∃a1,A1=some a1/\∃s2:ByteArray,∃s3:ByteArray,bC w2 ((a1.add (x2.toNat*4)).add 0) [.string s2,.string s3]/\Calls P F.jJ #[.pointer (some p1),.agg #[.string s2,.string s3]] w2 (aS fun v1 w3=>v1=(.tuple #[])/\0<=x2/\x2<(n1:Int)/\∃a2,A1=some a2/\∃s4:ByteArray,∃s5:ByteArray,bC w3 ((a2.add (x2.toNat*4)).add 2) [.string s4,.string s5]/\Calls P F.jJ #[.pointer (some p1),.agg #[.string s4,.string s5]] w3 (aS fun v2 w4=>v2=(.tuple #[])/\∃k2,k2<k1/\I1 k2 (IntKind.wrap .i64 (x2+1)) w4))))/\(¬(x2<(n1:Int))->(Calls P F.kZ #[.pointer (some p1)] w2 (aS fun v3 w5=>∃x3,v3=(.int .i64 x3)/\(x3≠0->(K .empty x3 w5))/\(¬(x3≠0)->(∃I2:Nat->ByteArray->Int->World->Prop,(∃k3,I2 k3 ⟨#[49]⟩ 0 w5)/\∀k3 (s6:ByteArray) (x4:Int) (w6:World),I2 k3 s6 x4 w6->((x4<(n1:Int)->(0<=x4/\x4<(n1:Int)/\∃a3,A1=some a3/\∃s7:ByteArray,∃s8:ByteArray,bC w6 ((a3.add (x4.toNat*4)).add 0) [.string s7,.string s8]/\∀(p2:Addr) (w7:World),New w6 (.cells #[.string .empty,.string .empty] T.gK) p2 w7->(jR w7 p2 2/\∀w8,w8=aX w7 p2 [.string s7,.string s8]->(0<=x4/\x4<(n1:Int)/\∃a4,A1=some a4/\∃s9:ByteArray,∃s10:ByteArray,bC w8 ((a4.add (x4.toNat*4)).add 2) [.string s9,.string s10]/\∀(p3:Addr) (w9:World),New w8 (.cells #[.string .empty,.string .empty] T.gK) p3 w9->(jR w9 p3 2/\∀w10,w10=aX w9 p3 [.string s9,.string s10]->(∃s11:ByteArray,∃s12:ByteArray,bC w10 p2 [.string s11,.string s12]/\∃s13:ByteArray,∃s14:ByteArray,bC w10 p3 [.string s13,.string s14]/\Calls P F.pR #[.agg #[.string s11,.string s12],.agg #[.string s13,.string s14]] w10 (aS fun v4 w11=>∃x5,v4=(.int .i64 x5)/\(0<x5->(K .empty 3 w11))/\(¬(0<x5)->(∃s15:ByteArray,w11.cell? (p3.add 0)=some (.string s15)/\∃s16:ByteArray,w11.cell? (p2.add 0)=some (.string s16)/\Calls P F.rP #[.string s15,.string s16] w11 (aS fun v5 w12=>∃s17:ByteArray,v5=(.string s17)/\∃s18:ByteArray,w12.cell? (p2.add 1)=some (.string s18)/\∃s19:ByteArray,w12.cell? (p3.add 1)=some (.string s19)/\Calls P F.rP #[.string s18,.string s19] w12 (aS fun v6 w13=>∃s20:ByteArray,v6=(.string s20)/\Calls P F.qG #[.string s17] w13 (aS fun v7 w14=>∃x6,v7=(.int .i64 x6)/\(0<x6->(Calls P F.qG #[.string s20] w14 (aS fun v8 w15=>∃x7,v8=(.int .i64 x7)/\(kE s17 s20 s6 (iD k3 I2 x4)) (decide (0<x7)) w15)))/\(¬(0<x6)->((kE s17 s20 s6 (iD k3 I2 x4)) false w14))))))))))))))/\(¬(x4<(n1:Int))->(K s6 0 w6))))))))))
theorem Vh (A1:Option Addr) (n1 c1:Nat) (K:ByteArray->Int->World->Prop) (w:World) (H:Gl A1 n1 c1 K w):Calls P F.wE #[.slice A1 n1 c1] w (aS fun v w'=>∃s1:ByteArray,∃x1,v=(.tuple #[.string s1,.int .i64 x1])/\K s1 x1 w'):=by
 unfold Gl at H;refine aY (P:=P) Tryz.func16 rfl [(0,.slice A1 n1 c1)] 88 rfl rfl (fun p hp=>by rcases List.mem_singleton.1 hp with rfl;rfl) (aB (aA (ag rfl (ag rfl (aC (nc (kp 0 rfl zz) (aB (aA (sv rfl rfl (xp (.agg #[.bool false,.bool false,.bool false]) rfl) (fM (f:=(fun p=> .pointer (some p))) rfl rfl (aF rfl) (fun a ha=>tN (ha.ev rfl) uD) ?_))))))))));intro p1 w1 hN;replace H:=H _ _ hN;refine ag rfl (aC (nc (y2 0 4 rfl) (aB (aB (aA (ag rfl (aC (nc (y3 0 4 5 rfl) (aV ?_)))))))));obtain⟨I1,⟨k1,hi⟩,H⟩:=H;refine dM (fun k1 a w'=>∃x2,Ok 88 [(0,.slice A1 n1 c1),(4,.pointer (some p1)),(5,.int .i64 x2)] a/\I1 k1 x2 w') (fun a ha=>⟨k1,0,ha.weaken cs,hi⟩) ?_;rintro k1 a w2 ⟨x2,ha,hI⟩;replace H:=H k1 x2 w2 hI;refine cu ha ?_;refine aB (aB (aA (mv rfl (mv rfl (sv rfl rfl (xb rfl (fun _=>bD TF.jE)) (bo rfl rfl fO (aC (nc (y4 0 4 5 19 rfl) ?_))))))));refine aK rfl (fun hb=> ?_) (fun hb=> ?_)
 ·replace H:=H.1 hb;refine aN (nc (y3 0 4 5 rfl) (aB (aV (aB (aA (mv rfl (mv rfl (mv rfl ?_))))))));obtain⟨h2,h3,a1,e1,H⟩:=H;refine ix rfl rfl (bG TF.fV TF.eG e1 h2 h3) (fa rfl (TF.rQ _ _) ?_);obtain⟨s2,s3,h4,H⟩:=H;refine ld rfl (gG (vs:=[.string s2,.string s3]) TF.fK TF.bZ h4) (sc rfl rfl FF.oO H ?_);rintro _ w3 ⟨rfl,H⟩;refine aC (nc (y3 0 4 5 rfl) (aA (mv rfl (mv rfl (mv rfl ?_)))));obtain⟨h5,h6,a2,e2,H⟩:=H;refine ix rfl rfl (bG TF.fV TF.eG e2 h5 h6) (fa rfl (TF.zG _ _) ?_);obtain⟨s4,s5,h7,H⟩:=H;refine ld rfl (gG (vs:=[.string s4,.string s5]) TF.fK TF.bZ h7) (sc rfl rfl FF.oO H ?_);rintro _ w4 ⟨rfl,H⟩;refine aC (bQ (nc (y3 0 4 5 rfl) (aA (mv rfl (bo rfl rfl dJ (ag rfl (aC ?_)))))));obtain⟨k2,hk,H⟩:=H;exact aT fun a ha=>⟨k2,hk,IntKind.wrap .i64 (x2+1),ha.weaken cs,H⟩
 ·replace H:=H.2 hb;refine bW (aH (aH (aZ (nc (y2 0 4 rfl) (aB (aA (mv rfl (sc rfl rfl FF.yU H ?_))))))));rintro _ w5 ⟨x3,rfl,H⟩;refine ag rfl (aC (nc (y2 0 6 rfl) (aB (aB (aA (mv rfl (bo rfl rfl zC (aC (nc (y3 0 6 39 rfl) ?_)))))))));refine aK rfl (fun hb=> ?_) (fun hb=> ?_)
  ·replace H:=H.1 hb;exact aB (aA (mv rfl (ag rfl (ag rfl (aC (nc (y2 2 3 rfl) (aW (aI (aG (wF rfl rfl rfl) ⟨_,rfl,_,_,rfl,H⟩)))))))))
  ·replace H:=H.2 hb;refine aN (nc (kp 0 rfl zz) (aB (aA (ag rfl (aC (nc (y2 0 7 rfl) (aB (aB (aA (ag rfl (aC (nc (y3 0 7 8 rfl) (aV ?_)))))))))))));obtain⟨I2,⟨k3,hi⟩,H⟩:=H;refine dM (fun k3 a w'=>∃s6:ByteArray,∃x4,Ok 88 [(0,.slice A1 n1 c1),(7,.string s6),(8,.int .i64 x4)] a/\I2 k3 s6 x4 w') (fun a ha=>⟨k3,⟨#[49]⟩,0,ha.weaken cs,hi⟩) ?_;rintro k3 a w6 ⟨s6,x4,ha,hI⟩;replace H:=H k3 s6 x4 w6 hI;refine cu ha ?_;refine aB (aB (aA (mv rfl (mv rfl (sv rfl rfl (xb rfl (fun _=>bD TF.jE)) (bo rfl rfl fO (aC (nc (y4 0 7 8 44 rfl) ?_))))))));refine aK rfl (fun hb=> ?_) (fun hb=> ?_)
   ·replace H:=H.1 hb;refine aN (nc (y3 0 7 8 rfl) ?_);refine dI (fun a w=>∃s22:ByteArray,Ok 88 [(0,.slice A1 n1 c1),(7,.string s22),(8,.int .i64 x4)] a/\iD k3 I2 x4 s22 w) ?_ ?_
    ·rintro a w19 ⟨s22,ha,H⟩;unfold iD at H;refine cu ha ?_;refine aA (mv rfl (bo rfl rfl dJ (ag rfl (aC ?_))));obtain⟨k4,hk,H⟩:=H;exact aT fun a ha=>⟨k4,hk,s22,IntKind.wrap .i64 (x4+1),ha.weaken cs,H⟩
    ·refine aV (aB (aA (mv rfl (mv rfl ?_))));obtain⟨h8,h9,a3,e3,H⟩:=H;refine ix rfl rfl (bG TF.fV TF.eG e3 h8 h9) (fa rfl (TF.rQ _ _) ?_);obtain⟨s7,s8,h10,H⟩:=H;refine ld rfl (gG (vs:=[.string s7,.string s8]) TF.fK TF.bZ h10) (fM (f:=(fun p=> .pointer (some p))) rfl rfl (aF rfl) (fun a ha=>dR (dV TF.Ie)) ?_);intro p2 w7 hN;obtain⟨h12,H⟩:=H _ _ hN;refine gX rfl (aF rfl) (xs rfl rfl (cO TF.bZ (by simp[Value.oneCell']) h12)) ?_;intro w8 hw;replace H:=H _ hw;clear hw;refine aC (nc (y4 0 7 8 9 rfl) (aB (aA (mv rfl (mv rfl ?_)))));obtain⟨h13,h14,a4,e4,H⟩:=H;refine ix rfl rfl (bG TF.fV TF.eG e4 h13 h14) (fa rfl (TF.zG _ _) ?_);obtain⟨s9,s10,h15,H⟩:=H;refine ld rfl (gG (vs:=[.string s9,.string s10]) TF.fK TF.bZ h15) (fM (f:=(fun p=> .pointer (some p))) rfl rfl (aF rfl) (fun a ha=>dR (dV TF.Ie)) ?_);intro p3 w9 hN;obtain⟨h17,H⟩:=H _ _ hN;refine gX rfl (aF rfl) (xs rfl rfl (cO TF.bZ (by simp[Value.oneCell']) h17)) ?_;intro w10 hw;replace H:=H _ hw;clear hw;refine aC (nc (y5 0 7 8 9 10 rfl) (aB (aB (aA ?_))));obtain⟨s11,s12,h18,H⟩:=H;refine ld rfl (gG (vs:=[.string s11,.string s12]) TF.fK TF.bZ h18) ?_;obtain⟨s13,s14,h19,H⟩:=H;refine ld rfl (gG (vs:=[.string s13,.string s14]) TF.fK TF.bZ h19) (sc rfl rfl FF.Dl H ?_);rintro _ w11 ⟨x5,rfl,H⟩;refine bo rfl rfl kF (aC (nc (y6 0 7 8 9 10 60 rfl) ?_));refine aK rfl (fun hb=> ?_) (fun hb=> ?_)
     ·replace H:=H.1 hb;exact aB (aA (ag rfl (ag rfl (aC (nc (y2 2 3 rfl) (aW (aI (bF (aI (aI (bF (aI (aG (wF rfl rfl rfl) ⟨_,rfl,_,_,rfl,H⟩)))))))))))))
     ·replace H:=H.2 hb;refine aN (nc (y5 0 7 8 9 10 rfl) (aB (aA (fa rfl (TF.iF _ _) ?_))));obtain⟨s15,h20,H⟩:=H;refine ld rfl (aJ TF.dN h20) (fa rfl (TF.iF _ _) ?_);obtain⟨s16,h21,H⟩:=H;refine ld rfl (aJ TF.dN h21) (sc rfl rfl FF.wY H ?_);rintro _ w12 ⟨s17,rfl,H⟩;refine ag rfl (aC (nc (y6 0 7 8 9 10 11 rfl) (aB (aA (fa rfl (TF.lW _ _) ?_)))));obtain⟨s18,h22,H⟩:=H;refine ld rfl (aJ TF.dN h22) (fa rfl (TF.lW _ _) ?_);obtain⟨s19,h23,H⟩:=H;refine ld rfl (aJ TF.dN h23) (sc rfl rfl FF.wY H ?_);rintro _ w13 ⟨s20,rfl,H⟩;refine ag rfl (aC (nc (y5 0 7 8 11 12 rfl) ?_));refine dI (fun a w=>∃b1,Ok 88 [(0,.slice A1 n1 c1),(7,.string s6),(8,.int .i64 x4),(11,.string s17),(12,.string s20),(78,.bool b1)] a/\kE s17 s20 s6 (iD k3 I2 x4) b1 w) ?_ ?_
      ·rintro a w16 ⟨b1,ha,H⟩;unfold kE at H;refine cu ha ?_;refine dG rfl (fun hb=> ?_) (fun hb=> ?_)
       ·replace H:=H.1 hb;refine aB (aA (mv rfl (mv rfl (sc rfl rfl FF.Jm H ?_))));rintro _ w17 ⟨s21,rfl,H⟩;refine ag rfl (aC (nc (y4 0 7 8 13 rfl) (aB (aA (mv rfl (mv rfl (sc rfl rfl FF.oQ H ?_)))))));rintro _ w18 ⟨x8,rfl,H⟩;refine bo rfl rfl fO (aC (nc (y5 0 7 8 13 85 rfl) ?_));refine aK rfl (fun hb=> ?_) (fun hb=> ?_)
        ·replace H:=H.1 hb;exact aA (mv rfl (ag rfl (aC (bQ (aT fun a ha=>⟨s21,ha.weaken cs,H⟩)))))
        ·replace H:=H.2 hb;exact aN (bQ (aT fun a ha=>⟨s6,ha.weaken cs,H⟩))
       ·replace H:=H.2 hb;exact aN (bQ (aT fun a ha=>⟨s6,ha.weaken cs,H⟩))
      ·refine aA (mv rfl (sc rfl rfl FF.vM H ?_));rintro _ w14 ⟨x6,rfl,H⟩;refine bo rfl rfl kF ?_;rcases Classical.em (0<x6) with hb|hb
       ·replace H:=H.1 hb;refine sv rfl rfl (xt rfl hb) (Kw rfl rfl rfl (uU rfl rfl (cZ rfl rfl rfl) (xc rfl rfl FF.vM) H ?_));rintro _ w15 ⟨x7,rfl,H⟩;exact Uu rfl rfl rfl rfl kF (pt rfl rfl (aC (aT fun a ha=>⟨(decide (0<x7)),ha.weaken cs,H⟩)))
       ·replace H:=H.2 hb;exact sv rfl rfl (xf rfl hb) (sk rfl rfl rfl rfl (sk rfl rfl rfl rfl (sk rfl rfl rfl rfl (pf rfl rfl (aC (aT fun a ha=>⟨false,ha.weaken cs,H⟩))))))
   ·replace H:=H.2 hb;exact bW (aH (aH (aZ (nc (kp 7 rfl zz) (aB (aA (mv rfl (ag rfl (ag rfl (aC (nc (y2 2 3 rfl) (aW (aG (wF rfl rfl rfl) ⟨_,rfl,_,_,rfl,H⟩)))))))))))))
abbrev Tm (n:Nat):Prop:=n<=1048576
abbrev KM:Nat:=1048577
theorem mF.tm {s:ByteArray} {q:Rat} (h:jG (bl s) q) (hs:Tm s.size):mF q KM:=(aId h).mono (by rw[<-eY];exact Nat.succ_le_succ hs)
theorem xZ {s:ByteArray} (hs:Tm s.size):mF (rY s) KM:=by
 cases h:yI s with
 |true=>exact mF.tm (Xm h) hs
 |false=>
  have:¬∃q,jG (bl s) q:=fun e=>by rw[yI,Us.2 e] at h;cases h
  unfold rY
  rw[dif_neg this]
  exact mF.zero.mono (by decide)
theorem Tm.ts {n:Nat} (h:Tm n):Ts n:=Nat.le_trans h (by decide)
def RF (w:World) (p:Addr) (t f u:Bool):Prop:=Sd w p T.kT [.bool t,.bool f,.bool u]
section
variable {w0 w w':World} {p o:Addr} {q r:Rat} {A:Option Addr} {n c k j:Nat} {t f u:Bool}
theorem aF8 {s:ByteArray} (hF:RF w p t f u) (hs:Ts s.size):Calls P F.kD #[.pointer (some p),.string s] w (aS fun v w'=>v= .tuple #[]/\Kp p w w'/\RF w' p (t|| !yI s) f u):=by
 refine Jl p s (fun w'=>Kp p w w'/\RF w' p (t|| !yI s) f u) w (aS.mono (aGz s w hs) ?_)
 rintro _ w1 ⟨E,rfl⟩
 have h1:=Sd.ext hF E
 refine⟨_,rfl,fun hb=>⟨⟨_,h1.cell (i:=0) rfl⟩,h1.fro 0,fun w2 h2=> ?_⟩,fun hb=>⟨Kp.uP E,?_⟩⟩
 ·obtain⟨g,K⟩:=h1.set h2
  have:yI s=false:=by simpa using hb
  refine⟨(Kp.uP E).trans K,?_⟩
  rw[this,Bool.not_false,Bool.or_true]
  exact g
 ·have:yI s=true:=by simpa using hb
  rw[this,Bool.not_true,Bool.or_false]
  exact h1
theorem aCc {s:ByteArray×ByteArray} (hF:RF w p t f u) (h1:Ts s.1.size) (h2:Ts s.2.size):Calls P F.jJ #[.pointer (some p),.agg #[.string s.1,.string s.2]] w (aS fun v w'=>v= .tuple #[]/\Kp p w w'/\RF w' p (t|| !Kv s) f u):=by
 refine Gz p s.1 s.2 (fun w'=>Kp p w w'/\RF w' p (t|| !Kv s) f u) w ?_
 intro p2 w1 hN
 have m:=Lc.new hN (Ext.refl w)
 have hne:p2.block≠p.block:=by
  have:=hN.block
  have:=Sd.lt hF
  omega
 refine⟨_,m.1.cell (i:=0) rfl,aS.mono (aF8 (Sd.ext hF (Ext.bI hN)) h1) ?_⟩
 rintro _ w2 ⟨rfl,K2,F2⟩
 have m2:=m.other K2 hne
 refine⟨rfl,_,m2.1.cell (i:=1) rfl,aS.mono (aF8 F2 h2) ?_⟩
 rintro _ w3 ⟨rfl,K3,F3⟩
 refine⟨rfl,((Kp.uP (Ext.bI hN)).trans K2).trans K3,?_⟩
 have e:(t|| !yI s.1|| !yI s.2)=(t|| !Kv s):=by
  unfold Kv
  simp[Bool.or_assoc]
 rw[e] at F3
 exact F3
theorem aHj (hF:RF w p t f u):Calls P F.kZ #[.pointer (some p)] w (aS fun v w'=>w'=w/\v= .int .i64 (if t then 1 else if f then 4 else if u then 6 else 0)):=by
 refine aS.mono (Gw p (fun v w'=>w'=w/\v=(if t then 1 else if f then 4 else if u then 6 else 0)) w ?_) (by rintro _ w' ⟨v,rfl,h,rfl⟩;exact⟨h,rfl⟩)
 refine⟨t,hF.cell (i:=0) rfl,fun h=>⟨rfl,by rw[h];rfl⟩,fun h=>⟨f,hF.cell (i:=1) rfl,fun h2=>⟨rfl,by rw[h,h2];rfl⟩,fun h2=>⟨u,hF.cell (i:=2) rfl,fun h3=>⟨rfl,by rw[h,h2,h3];rfl⟩,fun h3=>⟨rfl,by rw[h,h2,h3];rfl⟩⟩⟩⟩
structure TmD (s:ByteArray×ByteArray):Prop where
 a:Tm s.1.size
 b:Tm s.2.size
theorem aEk {s s':ByteArray×ByteArray} (h:TmD s) (h':TmD s'):Calls P F.pR #[.agg #[.string s.1,.string s.2],.agg #[.string s'.1,.string s'.2]] w (aS fun v w'=>Ext w w'/\v= .int .i64 (Zb (aFv s) (aFv s'))):=by
 refine aS.mono (Nc s.1 s.2 s'.1 s'.2 (fun v w'=>Ext w w'/\v=Zb (aFv s) (aFv s')) w ?_) (by rintro _ w' ⟨v,rfl,h,rfl⟩;exact⟨h,rfl⟩)
 intro p1 w1 hN1 p2 w2 hN2
 have E:=(Ext.bI hN1).trans (Ext.bI hN2)
 have m1:=(Lc.new hN1 (Ext.refl w)).ext (Ext.bI hN2)
 have m2:=Lc.new hN2 (Ext.bI hN1)
 refine⟨_,m1.1.cell (i:=0) rfl,_,m2.1.cell (i:=0) rfl,aS.mono (aCt h.a.ts h'.a.ts (xZ h.a) (xZ h'.a) (by decide)) ?_⟩
 rintro _ w3 ⟨E3,rfl⟩
 refine⟨_,rfl,fun hne=>⟨E.trans E3,?_⟩,fun he=>⟨_,(m1.ext E3).1.cell (i:=1) rfl,_,(m2.ext E3).1.cell (i:=1) rfl,aS.mono (aCt h.b.ts h'.b.ts (xZ h.b) (xZ h'.b) (by decide)) ?_⟩⟩
 ·unfold Zb
  exact(if_pos hne).symm
 ·rintro _ w4 ⟨E4,rfl⟩
  refine⟨_,rfl,(E.trans E3).trans E4,?_⟩
  unfold Zb
  exact(if_neg he).symm
theorem aEv {a:Addr} {x y z v:Value} (h:bC w a [x,y,z,v]):bC w (a.add 0) [x,y]:=fun i u hu=>by
 rw[Addr.add_add,Nat.zero_add]
 rcases i with _|_|i
 ·exact h 0 u hu
 ·exact h 1 u hu
 ·cases hu
theorem aEc {a:Addr} {x y z v:Value} (h:bC w a [x,y,z,v]):bC w (a.add 2) [z,v]:=fun i u hu=>by
 rw[Addr.add_add]
 rcases i with _|_|i
 ·exact h 2 u hu
 ·exact h 3 u hu
 ·cases hu
theorem aHo {xs:List PT} (hT:Sl zT w A n xs) (hs:∀x∈xs,TmD x.1/\TmD x.2) (hn:Sn n):Calls P F.wE #[.slice A n c] w (aS fun v w'=>Ext w w'/\∃(t:ByteArray) (e:Int),v= .tuple #[.string t,.int .i64 e]/\Zv xs t e):=by
 refine aS.mono (Vh A n c (fun t e w'=>Ext w w'/\Zv xs t e) w ?_) (by rintro _ w' ⟨t,e,rfl,h,h2⟩;exact⟨h,t,e,rfl,h2⟩)
 have hl:=hT.1
 unfold Sn at hn
 have cells:∀w2,Ext w w2->∀j (h:j<xs.length),∃a,A=some a/\bC w2 (a.add (j*4)) [.string xs[j].1.1,.string xs[j].1.2,.string xs[j].2.1,.string xs[j].2.2]:=fun w2 E j h=>by
  obtain⟨a,vs,ha,_,hc,hr⟩:=(hT.ext E).2 j xs[j] (List.getElem?_eq_getElem h)
  have hv:vs=[.string xs[j].1.1,.string xs[j].1.2,.string xs[j].2.1,.string xs[j].2.2]:=hr
  subst hv
  exact⟨a,ha,hc⟩
 intro p1 w1 hN1
 have m1:=Lc.new hN1 (Ext.refl w)
 refine⟨fun m i w'=>∃j:Nat,i=j/\m=n-j/\j<=n/\Ext w w'/\Lc w w' p1 T.kT [.bool (!(xs.take j).all Rq),.bool false,.bool false],⟨n,0,rfl,by omega,by omega,Ext.bI hN1,m1⟩,?_⟩
 rintro m i w2 ⟨j,rfl,rfl,hj,E2,m2⟩
 refine⟨fun hlt=> ?_,fun hge=> ?_⟩
 ·have hjl:j<xs.length:=by omega
  obtain⟨a,ha,hc⟩:=cells w2 E2 j hjl
  have hsj:=hs _ (List.getElem_mem hjl)
  refine⟨by omega,hlt,a,ha,_,_,aEv hc,aS.mono (aCc (s:=xs[j].1) m2.1 hsj.1.a.ts hsj.1.b.ts) ?_⟩
  rintro _ w3 ⟨rfl,K3,F3⟩
  have E3:=m2.over E2 K3
  obtain⟨a,ha,hc⟩:=cells w3 E3 j hjl
  refine⟨rfl,by omega,hlt,a,ha,_,_,aEc hc,aS.mono (aCc (s:=xs[j].2) F3 hsj.2.a.ts hsj.2.b.ts) ?_⟩
  rintro _ w4 ⟨rfl,K4,F4⟩
  refine⟨rfl,n-(j+1),by omega,j+1,by rw[wrap_i64 (by omega) (by omega)];omega,rfl,by omega,K4.bI E3 m2.2,?_,m2.2⟩
  rw[aEj hjl]
  have e2:(!(xs.take j).all Rq|| !Kv xs[j].1|| !Kv xs[j].2)=(!((xs.take j).all Rq&&Rq xs[j])):=by
   unfold Rq
   simp[Bool.or_assoc]
  rw[e2] at F4
  exact F4
 have hj:j=xs.length:=by omega
 subst hj
 rw[List.take_length] at m2
 refine aS.mono (aHj m2.1) ?_
 rintro _ w3 ⟨rfl,rfl⟩
 cases hall:xs.all Rq with
 |false=>exact⟨_,rfl,fun _=>⟨E2,fun _=>⟨rfl,by simp⟩,fun h=>by rw[hall] at h;cases h⟩,fun h=>absurd (show(1:Int)≠0 by decide) (by simpa [hall] using h)⟩
 |true=>
 refine⟨_,rfl,fun h=>absurd rfl h,fun _=> ?_⟩
 have t1:jG (bl ⟨#[49]⟩) 1:=⟨[49],[49],by decide,⟨by simp,fun c hc=>by simp at hc;subst hc;exact⟨by decide,by decide⟩,.inr (by decide),rfl⟩,⟨by simp,fun c hc=>by simp at hc;subst hc;exact⟨by decide,by decide⟩,.inr (by decide),rfl⟩⟩
 have e1:mF (1:Rat) 4194310:=⟨Lb.one.mono (by decide),Lb.one.mono (by decide)⟩
 refine⟨fun m s i w'=>∃(j:Nat) (r:Rat),i=j/\m=n-j/\j<=n/\Ext w w'/\jG (bl s) r/\s.size<=75497584/\mF r 4194310/\Bd r ((xs.drop j).map yG)=Bd 1 (xs.map yG),⟨n,0,1,rfl,by omega,by omega,E2,t1,by decide,e1,by rw[List.drop_zero]⟩,?_⟩
 rintro m s i w9 ⟨j,r,rfl,rfl,hj,E9,ht,hz,lr,hp⟩
 refine⟨fun hlt=> ?_,fun hge=> ?_⟩
 ·have hjl:j<xs.length:=by omega
  obtain⟨a,ha,hc⟩:=cells w9 E9 j hjl
  have hsj:=hs _ (List.getElem_mem hjl)
  rw[List.drop_eq_getElem_cons hjl,List.map_cons] at hp
  have hI:=aF9 (List.all_eq_true.1 hall _ (List.getElem_mem hjl))
  have hl4:LbP (yG xs[j]) KM:=⟨mF.tm hI.1.1 hsj.1.a,mF.tm hI.1.2 hsj.1.b,mF.tm hI.2.1 hsj.2.a,mF.tm hI.2.2 hsj.2.b⟩
  have next:∀s' r' w',Ext w w'->jG (bl s') r'->s'.size<=75497584->mF r' 4194310->r'=tV r (yG xs[j])->¬0<Zb (yG xs[j]).1 (yG xs[j]).2->iD (n-j) (fun m s i w'=>∃(j:Nat) (r:Rat),i=j/\m=n-j/\j<=n/\Ext w w'/\jG (bl s) r/\s.size<=75497584/\mF r 4194310/\Bd r ((xs.drop j).map yG)=Bd 1 (xs.map yG)) (j:Int) s' w':=fun s' r' w' E h1 h2 h3 h4 h5=>⟨n-(j+1),by omega,j+1,r',by rw[wrap_i64 (by omega) (by omega)];omega,rfl,by omega,E,h1,h2,h3,by
   rw[<-hp,h4]
   conv=>rhs;unfold Bd
   rw[if_neg h5]⟩
  refine⟨by omega,hlt,a,ha,_,_,aEv hc,fun p2 w7 hN7=>⟨hN7.soft rfl,fun w8 h8=> ?_⟩⟩
  have hN8:=hN7.store h8 rfl
  have E8:=E9.trans (Ext.bI hN8)
  have m2:=Lc.new hN8 E9
  obtain⟨a,ha,hc⟩:=cells w8 E8 j hjl
  refine⟨by omega,hlt,a,ha,_,_,aEc hc,fun p3 w10 hN10=>⟨hN10.soft rfl,fun w11 h11=> ?_⟩⟩
  have hN11:=hN10.store h11 rfl
  have E11:=E8.trans (Ext.bI hN11)
  have m3:=Lc.new hN11 E8
  have m2:=m2.ext (Ext.bI hN11)
  refine⟨_,_,m2.1.cells,_,_,m3.1.cells,aS.mono (aEk (s:=xs[j].1) (s':=xs[j].2) hsj.1 hsj.2) ?_⟩
  rintro _ w12 ⟨E12,rfl⟩
  have E012:=E11.trans E12
  refine⟨_,rfl,fun h=>⟨E012,fun h2=>(by rw[hall] at h2;cases h2),fun _=>⟨fun _=>⟨rfl,rfl⟩,fun r2 h2=> ?_⟩⟩,fun h=> ?_⟩
  ·rw[<-hp] at h2
   unfold Bd at h2
   rw[if_pos (show 0<Zb (yG xs[j]).1 (yG xs[j]).2 from h)] at h2
   cases h2
  have m2:=m2.ext E12
  have m3:=m3.ext E12
  refine⟨_,m3.1.cell (i:=0) rfl,_,m2.1.cell (i:=0) rfl,aS.mono (aGb hsj.2.a.ts hsj.1.a.ts (xZ hsj.2.a) (xZ hsj.1.a) (by decide)) ?_⟩
  rintro _ w13 ⟨up,rfl,E13,hup,zup⟩
  have m2:=m2.ext E13
  have m3:=m3.ext E13
  refine⟨up,rfl,_,m2.1.cell (i:=1) rfl,_,m3.1.cell (i:=1) rfl,aS.mono (aGb hsj.1.b.ts hsj.2.b.ts (xZ hsj.1.b) (xZ hsj.2.b) (by decide)) ?_⟩
  rintro _ w14 ⟨down,rfl,E14,hdn,zdn⟩
  have E014:=(E012.trans E13).trans E14
  have su:Ts up.size:=Nat.le_trans zup (by decide)
  have sd:Ts down.size:=Nat.le_trans zdn (by decide)
  have eu:=aAv hup
  have ed:=aAv hdn
  refine⟨down,rfl,aS.mono (aD7 su) ?_⟩
  rintro _ w15 ⟨E15,rfl⟩
  have E015:=E014.trans E15
  rw[eu]
  have out:∀w',Ext w w'->(Ew ((yG xs[j]).2.1-(yG xs[j]).1.1)<=0\/Ew ((yG xs[j]).1.2-(yG xs[j]).2.2)<=0)->kE up down s (iD (n-j) (fun m s i w'=>∃(j:Nat) (r:Rat),i=j/\m=n-j/\j<=n/\Ext w w'/\jG (bl s) r/\s.size<=75497584/\mF r 4194310/\Bd r ((xs.drop j).map yG)=Bd 1 (xs.map yG)) (j:Int)) false w':=fun w' E' hh=>⟨fun h=>(by cases h),fun _=>next s r w' E' ht hz lr (by unfold tV;rw[if_pos hh]) h⟩
  refine⟨_,rfl,fun h1=>aS.mono (aD7 sd) ?_,fun h1=>out w15 E015 (.inl (Int.not_lt.1 h1))⟩
  rintro _ w16 ⟨E16,rfl⟩
  have E016:=E015.trans E16
  rw[ed]
  refine⟨_,rfl,?_⟩
  by_cases h2:0<Ew (rY xs[j].1.2-rY xs[j].2.2)
  ·rw[decide_eq_true h2]
   refine⟨fun _=> ?_,fun h=>(by cases h)⟩
   have h0:rY xs[j].1.2-rY xs[j].2.2≠0:=fun e=>by rw[e] at h2;exact absurd h2 (by decide)
   have lu:mF (rY up) (KM+KM+1):=by rw[eu];exact(xZ hsj.2.a).sub (xZ hsj.1.a)
   have ld:mF (rY down) (KM+KM+1):=by rw[ed];exact(xZ hsj.1.b).sub (xZ hsj.2.b)
   refine aS.mono (aJu su sd lu ld (by decide) (by rw[ed];exact h0)) ?_
   rintro _ w17 ⟨qt,rfl,E17,hq,zq⟩
   have zq:qt.size<=75497584:=Nat.le_trans zq (by decide)
   have lq:mF (rY up/rY down) 4194310:=(lu.div ld (by rw[ed];exact h0)).mono (by decide)
   have eq:=aAv hq
   have er:=aAv ht
   refine⟨qt,rfl,aS.mono (aCt (k:=4194310) (j:=4194310) (Nat.le_trans zq (by decide)) (Nat.le_trans hz (by decide)) (by rw[eq];exact lq) (by rw[er];exact lr) (by decide)) ?_⟩
   rintro _ w18 ⟨E18,rfl⟩
   have E018:=(E016.trans E17).trans E18
   rw[eq,er,eu,ed] at*
   have hnn:¬(Ew ((yG xs[j]).2.1-(yG xs[j]).1.1)<=0\/Ew ((yG xs[j]).1.2-(yG xs[j]).2.2)<=0):=fun e=>e.elim (fun e=>absurd h1 (Int.not_lt.2 e)) fun e=>absurd h2 (Int.not_lt.2 e)
   refine⟨_,rfl,fun h3=>next qt _ w18 E018 hq zq lq ?_ h,fun h3=>next s r w18 E018 ht hz lr ?_ h⟩
   ·unfold tV
    rw[if_neg hnn]
    exact(if_pos h3).symm
   ·unfold tV
    rw[if_neg hnn]
    exact(if_neg h3).symm
  ·rw[decide_eq_false h2]
   exact out w16 E016 (.inr (Int.not_lt.1 h2))
 ·have hj:j=xs.length:=by omega
  subst hj
  rw[List.drop_length] at hp
  refine⟨E9,fun h=>(by rw[hall] at h;cases h),fun _=>⟨fun h=> ?_,fun r2 h=>⟨rfl,?_⟩⟩⟩
  ·rw[<-hp] at h;cases h
  ·rw[<-hp] at h;cases h;exact ht
end
def Kq (x1:Int) (K:Int->World->Prop) (w:World):Prop:=
 K x1 w
theorem Yo (x1:Int) (K:Int->World->Prop) (w:World) (H:Kq x1 K w):Calls P F.zK #[.int .i64 x1] w (aS fun v w'=>∃x2,v=(.int .i64 x2)/\K x2 w'):=by
 unfold Kq at H;exact aY (P:=P) Tryz.func17 rfl [(0,.int .i64 x1)] 4 rfl rfl (fun p hp=>by rcases List.mem_singleton.1 hp with rfl;rfl) (aB (aA (ag rfl (aC (nc (kp 0 rfl zz) (aB (aA (mv rfl (ag rfl (aC (nc (kp 2 rfl zz) (aW (aG (res1 rfl rfl) ⟨_,rfl,_,rfl,H⟩)))))))))))))
def xK (p1:Addr) (A1:Option Addr) (n1 c1:Nat) (K:Option Addr->Nat->Nat->World->Prop) (w:World):Prop:=
 ∀(p2:Addr) (w1:World),New w (.cells #[] T.iU) p2 w1->(∃I1:Nat->Option Addr->Nat->Nat->Int->World->Prop,(∃k1,I1 k1 (some p2) 0 0 0 w1)/\∀k1 (A3:Option Addr) (n3 c3:Nat) (x1:Int) (w2:World),I1 k1 A3 n3 c3 x1 w2->((x1<(n1:Int)->(0<=x1/\x1<(n1:Int)/\∃a1,A1=some a1/\∃s1:ByteArray,∃s2:ByteArray,∃s3:ByteArray,∃s4:ByteArray,bC w2 (a1.add (x1.toNat*4)) [.string s1,.string s2,.string s3,.string s4]/\∀(p3:Addr) (w3:World),New w2 (.cells #[.string s1,.string s2,.string s3,.string s4] T.iU) p3 w3->(∃(A4:Option Addr) (n4 c4:Nat) (w4:World),(Builtin.append_ #[T.fC,T.fC] T.fC #[.slice A3 n3 c3,.slice (some p3) 1 1]).run P w3= .ok (.slice A4 n4 c4) w4/\(∃k2,k2<k1/\I1 k2 A4 n4 c4 (IntKind.wrap .i64 (x1+1)) w4))))/\(¬(x1<(n1:Int))->(∀(p4:Addr) (w5:World),New w2 (.cells #[.string ⟨#[57,48,57]⟩,.string .empty,.string .empty,.string .empty,.string ⟨#[57,49,48]⟩,.string .empty,.string .empty,.string .empty] T.iU) p4 w5->(∃(A5:Option Addr) (n5 c5:Nat) (w6:World),(Builtin.append_ #[T.fC,T.fC] T.fC #[.slice A3 n3 c3,.slice (some p4) 2 2]).run P w5= .ok (.slice A5 n5 c5) w6/\(∃A6 n6 c6,w6.cell? (p1.add 8)=some (.slice A6 n6 c6)/\∀(p5:Addr) (w7:World),New w6 (.cells #[.slice A5 n5 c5] T.fC) p5 w7->(∃(A7:Option Addr) (n7 c7:Nat) (w8:World),(Builtin.append_ #[T.iO,T.iO] T.iO #[.slice A6 n6 c6,.slice (some p5) 1 1]).run P w7= .ok (.slice A7 n7 c7) w8/\((∃u1,w8.cell? (p1.add 8)=some u1)/\w8.frozen? (p1.add 8)=false/\∀w9,w9=w8.setCell (p1.add 8) (.slice A7 n7 c7)->(∃A8 n8 c8,w9.cell? (p1.add 9)=some (.slice A8 n8 c8)/\∀(p6:Addr) (w10:World),New w9 (.cells #[.slice A1 n1 c1] T.fC) p6 w10->(∃(A9:Option Addr) (n9 c9:Nat) (w11:World),(Builtin.append_ #[T.iO,T.iO] T.iO #[.slice A8 n8 c8,.slice (some p6) 1 1]).run P w10= .ok (.slice A9 n9 c9) w11/\((∃u2,w11.cell? (p1.add 9)=some u2)/\w11.frozen? (p1.add 9)=false/\∀w12,w12=w11.setCell (p1.add 9) (.slice A9 n9 c9)->(0<=(n1:Int)/\(n1:Int)<=(c5:Int)/\K A5 ((n1:Int).toNat) c5 w12))))))))))))
theorem Lr (p1:Addr) (A1:Option Addr) (n1 c1:Nat) (K:Option Addr->Nat->Nat->World->Prop) (w:World) (H:xK p1 A1 n1 c1 K w):Calls P F.oL #[.pointer (some p1),.slice A1 n1 c1] w (aS fun v w'=>∃A2 n2 c2,v=(.slice A2 n2 c2)/\K A2 n2 c2 w'):=by
 unfold xK at H;refine aY (P:=P) Tryz.func15 rfl [(0,.pointer (some p1)),(1,.slice A1 n1 c1)] 52 rfl rfl (aa rfl (aa rfl az)) (aB (aA (ag rfl (aC (nc (y2 0 1 rfl) (aB (aA (sz rfl rfl (xl 0 0 (.cells #[] T.iU) rfl) ?_))))))));intro p2 w1 hN;replace H:=H _ _ hN;refine ag rfl (aC (nc (y3 0 1 5 rfl) (aB (aB (aA (ag rfl (aC (nc (y4 0 1 5 6 rfl) (aV ?_)))))))));obtain⟨I1,⟨k1,hi⟩,H⟩:=H;refine dM (fun k1 a w'=>∃A3 n3 c3,∃x1,Ok 52 [(0,.pointer (some p1)),(1,.slice A1 n1 c1),(5,.slice A3 n3 c3),(6,.int .i64 x1)] a/\I1 k1 A3 n3 c3 x1 w') (fun a ha=>⟨k1,some p2,0,0,0,ha.weaken cs,hi⟩) ?_;rintro k1 a w2 ⟨A3,n3,c3,x1,ha,hI⟩;replace H:=H k1 A3 n3 c3 x1 w2 hI;refine cu ha ?_;refine aB (aB (aA (mv rfl (mv rfl (sv rfl rfl (xb rfl (fun _=>bD TF.jE)) (bo rfl rfl fO (aC (nc (y5 0 1 5 6 11 rfl) ?_))))))));refine aK rfl (fun hb=> ?_) (fun hb=> ?_)
 ·replace H:=H.1 hb;refine aN (nc (y4 0 1 5 6 rfl) (aB (aV (aA (mv rfl (mv rfl (mv rfl ?_)))))));obtain⟨h1,h2,a1,e1,H⟩:=H;refine ix rfl rfl (bG TF.fV TF.eG e1 h1 h2) ?_;obtain⟨s1,s2,s3,s4,h3,H⟩:=H;refine ld rfl (gG (vs:=[.string s1,.string s2,.string s3,.string s4]) TF.zM TF.eG h3) (sz rfl rfl (xl 1 1 (.cells #[.string s1,.string s2,.string s3,.string s4] T.iU) rfl) ?_);intro p3 w3 hN;obtain⟨A4,n4,c4,w4,h4,H⟩:=H _ _ hN;refine sv rfl rfl (xb rfl (fun _=>kG h4)) (ag rfl (aC (bQ (nc (y4 0 1 5 6 rfl) (aA (mv rfl (bo rfl rfl dJ (ag rfl (aC ?_)))))))));obtain⟨k2,hk,H⟩:=H;exact aT fun a ha=>⟨k2,hk,A4,n4,c4,IntKind.wrap .i64 (x1+1),ha.weaken cs,H⟩
 ·replace H:=H.2 hb;refine bW (aH (aH (aZ (nc (y3 0 1 5 rfl) (aB (aA (mv rfl (sv rfl rfl (xp (.agg #[.string ⟨#[57,48,57]⟩,.string .empty]) rfl) (sv rfl rfl (xp (.agg #[.string ⟨#[57,48,57]⟩,.string .empty,.string .empty,.string .empty]) rfl) (sv rfl rfl (xp (.agg #[.string ⟨#[57,49,48]⟩,.string .empty]) rfl) (sv rfl rfl (xp (.agg #[.string ⟨#[57,49,48]⟩,.string .empty,.string .empty,.string .empty]) rfl) (sz rfl rfl (xl 2 2 (.cells #[.string ⟨#[57,48,57]⟩,.string .empty,.string .empty,.string .empty,.string ⟨#[57,49,48]⟩,.string .empty,.string .empty,.string .empty] T.iU) rfl) ?_))))))))))));intro p4 w5 hN;obtain⟨A5,n5,c5,w6,h5,H⟩:=H _ _ hN;refine sv rfl rfl (xb rfl (fun _=>kG h5)) (ag rfl (aC (nc (y3 0 1 5 rfl) (aB (aA (mv rfl (mv rfl (nk rfl (fa rfl (TF.nK _ _) ?_)))))))));obtain⟨A6,n6,c6,h6,H⟩:=H;refine ld rfl (aJ TF.kQ h6) (mv rfl (sz rfl rfl (xl 1 1 (.cells #[.slice A5 n5 c5] T.fC) rfl) ?_));intro p5 w7 hN;obtain⟨A7,n7,c7,w8,h7,H⟩:=H _ _ hN;refine sv rfl rfl (xb rfl (fun _=>kG h7)) (nk rfl (fa rfl (TF.nK _ _) ?_));obtain⟨⟨u1,h8⟩,h9,H⟩:=H;refine gX rfl (aF rfl) (xs rfl rfl (fE TF.Gn rfl rfl h8 h9)) ?_;intro w9 hw;replace H:=H _ hw;clear hw;refine aC (nc (y3 0 1 5 rfl) (aB (aA (mv rfl (mv rfl (nk rfl (fa rfl (TF.mY _ _) ?_)))))));obtain⟨A8,n8,c8,h10,H⟩:=H;refine ld rfl (aJ TF.kQ h10) (mv rfl (sz rfl rfl (xl 1 1 (.cells #[.slice A1 n1 c1] T.fC) rfl) ?_));intro p6 w10 hN;obtain⟨A9,n9,c9,w11,h11,H⟩:=H _ _ hN;refine sv rfl rfl (xb rfl (fun _=>kG h11)) (nk rfl (fa rfl (TF.mY _ _) ?_));obtain⟨⟨u2,h12⟩,h13,H⟩:=H;refine gX rfl (aF rfl) (xs rfl rfl (fE TF.Gn rfl rfl h12 h13)) ?_;intro w12 hw;replace H:=H _ hw;clear hw;refine aC (nc (y2 1 5 rfl) (aB (aA (mv rfl (mv rfl (sv rfl rfl (xb rfl (fun _=>bD TF.jE)) ?_))))));obtain⟨h14,h15,H⟩:=H;exact sv rfl rfl (fun a ha=>qR (ha.ev rfl) rfl (qA (ha.ev rfl)) rfl (Ht TF.fV TF.eG h14 h15)) (ag rfl (aC (nc (kp 4 rfl zz) (aW (aG (res1 rfl rfl) ⟨_,rfl,_,_,_,rfl,H⟩)))))
def iJ (K:Bool->World->Prop) (k1:Nat) (I1:Nat->Int->World->Prop) (x1:Int) (b3:Bool) (w6:World):Prop:=
 (b3=true->(K false w6))/\(b3=false->(∃k2,k2<k1/\I1 k2 (IntKind.wrap .i64 (x1+1)) w6))
def iL (K:Bool->World->Prop) (k3:Nat) (I2:Nat->Int->World->Prop) (x4:Int) (b5:Bool) (w14:World):Prop:=
 (b5=true->(K false w14))/\(b5=false->(∃k4,k4<k3/\I2 k4 (IntKind.wrap .i64 (x4+1)) w14))
def xW (p1:Addr) (K:Bool->World->Prop) (w:World):Prop:=
 ∃I1:Nat->Int->World->Prop,(∃k1,I1 k1 0 w)/\∀k1 (x1:Int) (w1:World),I1 k1 x1 w1->(∃A1 n1 c1,w1.cell? (p1.add 0)=some (.slice A1 n1 c1)/\(x1<(n1:Int)->(∃A2 n2 c2,w1.cell? (p1.add 1)=some (.slice A2 n2 c2)/\0<=x1/\x1<(n2:Int)/\∃a1,A2=some a1/\∃A3 n3 c3,w1.cell? (a1.add (x1.toNat*1))=some (.slice A3 n3 c3)/\∃A4 n4 c4,w1.cell? (p1.add 0)=some (.slice A4 n4 c4)/\0<=x1/\x1<(n4:Int)/\∃a2,A4=some a2/\∃A5 n5 c5,w1.cell? (a2.add (x1.toNat*1))=some (.slice A5 n5 c5)/\0<=(n3:Int)/\(n3:Int)<=(c5:Int)/\∃A6 n6 c6,w1.cell? (p1.add 1)=some (.slice A6 n6 c6)/\0<=x1/\x1<(n6:Int)/\∃a3,A6=some a3/\∃A7 n7 c7,w1.cell? (a3.add (x1.toNat*1))=some (.slice A7 n7 c7)/\∀w3,aP w1 w3->Calls P F.qZ #[.agg #[.slice A5 ((n3:Int).toNat) c5,.string .empty],.agg #[.slice A7 n7 c7,.string .empty]] w3 (aS fun v1 w2=>∃b2,v1=(.bool b2)/\((!b2)=true->(∀w5,aP w2 w5->((iJ K k1 I1 x1) true w5)))/\((!b2)=false->(0<=(n3:Int)/\(n3:Int)<(n5:Int)/\∃a4,A5=some a4/\∃x2,w2.cell? ((a4.add ((n3:Int).toNat*2)).add 0)=some (.int .i64 x2)/\(x2≠901->(∀w7,aP w2 w7->((iJ K k1 I1 x1) true w7)))/\(¬(x2≠901)->(0<=IntKind.wrap .i64 ((n3:Int)+1)/\IntKind.wrap .i64 ((n3:Int)+1)<(n5:Int)/\∃a5,A5=some a5/\∃x3,w2.cell? ((a5.add ((IntKind.wrap .i64 ((n3:Int)+1)).toNat*2)).add 0)=some (.int .i64 x3)/\∀w8,aP w2 w8->((iJ K k1 I1 x1) (decide (x3≠902)) w8))))))))/\(¬(x1<(n1:Int))->(∃I2:Nat->Int->World->Prop,(∃k3,I2 k3 0 w1)/\∀k3 (x4:Int) (w9:World),I2 k3 x4 w9->(∃A8 n8 c8,w9.cell? (p1.add 4)=some (.slice A8 n8 c8)/\(x4<(n8:Int)->(∃A9 n9 c9,w9.cell? (p1.add 5)=some (.slice A9 n9 c9)/\0<=x4/\x4<(n9:Int)/\∃a6,A9=some a6/\∃A10 n10 c10,w9.cell? (a6.add (x4.toNat*1))=some (.slice A10 n10 c10)/\∃A11 n11 c11,w9.cell? (p1.add 4)=some (.slice A11 n11 c11)/\0<=x4/\x4<(n11:Int)/\∃a7,A11=some a7/\∃A12 n12 c12,w9.cell? (a7.add (x4.toNat*1))=some (.slice A12 n12 c12)/\0<=(n10:Int)/\(n10:Int)<=(c12:Int)/\∃A13 n13 c13,w9.cell? (p1.add 5)=some (.slice A13 n13 c13)/\0<=x4/\x4<(n13:Int)/\∃a8,A13=some a8/\∃A14 n14 c14,w9.cell? (a8.add (x4.toNat*1))=some (.slice A14 n14 c14)/\∀w11,aP w9 w11->Calls P F.pU #[.slice A12 ((n10:Int).toNat) c12,.slice A14 n14 c14] w11 (aS fun v2 w10=>∃b4,v2=(.bool b4)/\((!b4)=true->(∀w13,aP w10 w13->((iL K k3 I2 x4) true w13)))/\((!b4)=false->(0<=(n10:Int)/\(n10:Int)<(n12:Int)/\∃a9,A12=some a9/\∃x5,w10.cell? ((a9.add ((n10:Int).toNat*3)).add 0)=some (.int .i64 x5)/\(x5≠903->(∀w15,aP w10 w15->((iL K k3 I2 x4) true w15)))/\(¬(x5≠903)->(0<=IntKind.wrap .i64 ((n10:Int)+1)/\IntKind.wrap .i64 ((n10:Int)+1)<(n12:Int)/\∃a10,A12=some a10/\∃x6,w10.cell? ((a10.add ((IntKind.wrap .i64 ((n10:Int)+1)).toNat*3)).add 0)=some (.int .i64 x6)/\∀w16,aP w10 w16->((iL K k3 I2 x4) (decide (x6≠904)) w16))))))))/\(¬(x4<(n8:Int))->(Calls P F.nH #[.pointer (some p1)] w9 (aS fun v3 w17=>∃b6,v3=(.bool b6)/\K b6 w17)))))))
theorem Le (p1:Addr) (K:Bool->World->Prop) (w:World) (H:xW p1 K w):Calls P F.kN #[.pointer (some p1)] w (aS fun v w'=>∃b1,v=(.bool b1)/\K b1 w'):=by
 unfold xW at H;refine aY (P:=P) Tryz.func18 rfl [(0,.pointer (some p1))] 119 rfl rfl (fun p hp=>by rcases List.mem_singleton.1 hp with rfl;rfl) (aB (aA (ag rfl (aC (nc (kp 0 rfl zz) (aB (aB (aA (ag rfl (aC (nc (y2 0 3 rfl) (aV ?_))))))))))));obtain⟨I1,⟨k1,hi⟩,H⟩:=H;refine dM (fun k1 a w'=>∃x1,Ok 119 [(0,.pointer (some p1)),(3,.int .i64 x1)] a/\I1 k1 x1 w') (fun a ha=>⟨k1,0,ha.weaken cs,hi⟩) ?_;rintro k1 a w1 ⟨x1,ha,hI⟩;replace H:=H k1 x1 w1 hI;refine cu ha ?_;refine aB (aB (aA (mv rfl (mv rfl (nk rfl (fa rfl (TF.Ac _ _) ?_))))));obtain⟨A1,n1,c1,h1,H⟩:=H;refine ld rfl (aJ TF.sQ h1) (sv rfl rfl (xb rfl (fun _=>bD TF.Qa)) (bo rfl rfl fO (aC (nc (y3 0 3 15 rfl) ?_))));refine aK rfl (fun hb=> ?_) (fun hb=> ?_)
 ·replace H:=H.1 hb;refine aN (nc (y2 0 3 rfl) (aB (aV (aB (aA (mv rfl (nk rfl (fa rfl (TF.zV _ _) ?_))))))));obtain⟨A2,n2,c2,h2,H⟩:=H;refine ld rfl (aJ TF.sQ h2) (mv rfl ?_);obtain⟨h3,h4,a1,e1,H⟩:=H;refine ix rfl rfl (bG TF.xE TF.Bv e1 h3 h4) ?_;obtain⟨A3,n3,c3,h5,H⟩:=H;refine ld rfl (aJ TF.kJ h5) (sv rfl rfl (xb rfl (fun _=>bD TF.qW)) (ag rfl (aC (nc (y3 0 3 4 rfl) (aB (aA (mv rfl (nk rfl (fa rfl (TF.Ac _ _) ?_)))))))));obtain⟨A4,n4,c4,h6,H⟩:=H;refine ld rfl (aJ TF.sQ h6) (mv rfl ?_);obtain⟨h7,h8,a2,e2,H⟩:=H;refine ix rfl rfl (bG TF.xE TF.Bv e2 h7 h8) ?_;obtain⟨A5,n5,c5,h9,H⟩:=H;refine ld rfl (aJ TF.kJ h9) (ag rfl (aC (nc (y4 0 3 4 5 rfl) ?_)));refine dI (fun a w=>∃b3,Ok 119 [(0,.pointer (some p1)),(3,.int .i64 x1),(63,.bool b3)] a/\iJ K k1 I1 x1 b3 w) ?_ ?_
  ·rintro a w6 ⟨b3,ha,H⟩;unfold iJ at H;refine cu ha ?_;refine dG rfl (fun hb=> ?_) (fun hb=> ?_)
   ·replace H:=H.1 hb;exact aB (aA (ag rfl (aC (nc (kp 2 rfl zz) (aW (bF (aI (aI (bF (aI (aG (res1 rfl rfl) ⟨_,rfl,_,rfl,H⟩)))))))))))
   ·replace H:=H.2 hb;refine aN (bQ (nc (y2 0 3 rfl) (aA (mv rfl (bo rfl rfl dJ (ag rfl (aC ?_)))))));obtain⟨k2,hk,H⟩:=H;exact aT fun a ha=>⟨k2,hk,IntKind.wrap .i64 (x1+1),ha.weaken cs,H⟩
  ·refine dW follows [0,1,2,3,4,5,6,7,8,9,10,11,13,14,15,16,17,18,20,21,22,23,24,25,26,27,29,30] [7,10] 31 rfl rfl (by kernel_rfl) (fun _ _ d _ _ h=>by cases d<;>exact h) (fun cm W D=> ?_);refine lU 0 cm rfl rfl D W fun _ D W=>(lU 1 cm rfl rfl D W fun _ D W=> ?_);obtain⟨h10,h11,H⟩:=H;refine pv 2 cm rfl rfl rfl (fun w' a ha=>qR (ha.ev rfl) rfl (qA (ha.ev rfl)) rfl (Ht TF.rH TF.qK h10 h11)) D W fun _ D W=>(pv 3 cm rfl rfl rfl (fun w'=>xp (.agg #[.slice A5 ((n3:Int).toNat) c5,.string .empty]) rfl) D W fun _ D W=>(lU 4 cm rfl rfl D W fun _ D W=>(pnk 5 cm rfl rfl D W fun _ D W=>(Nw 6 cm rfl rfl (TF.zV _ _) D W fun _ D W=> ?_))));obtain⟨A6,n6,c6,h14,H⟩:=H;refine vl 7 cm rfl rfl (fun hw=>(aJ TF.sQ ((hw.cell _).trans h14))) D W fun _ D W=>(lU 8 cm rfl rfl D W fun _ D W=> ?_);obtain⟨h15,h16,a3,e3,H⟩:=H;refine Vu 9 cm rfl rfl rfl (bG TF.xE TF.Bv e3 h15 h16) D W fun _ D W=> ?_;obtain⟨A7,n7,c7,h17,H⟩:=H;refine vl 10 cm rfl rfl (fun hw=>(aJ TF.kJ ((hw.cell _).trans h17))) D W fun _ D W=>(Ji 11 cm rfl rfl rfl (fun w'=>xp (.agg #[.slice A7 n7 c7,.string .empty]) rfl) D fun _ D=>(ar 12 ?_));replace H:=H _ D;refine iZ rfl rfl rfl (aF rfl) (xc rfl rfl FF.wU) rfl false (by kernel_rfl) H ?_;rintro _ w2 ⟨b2,rfl,H⟩ _ D;refine⟨fun h=>(by cases h),?_⟩;refine Ji 13 cm rfl rfl rfl (fun w' a ha=>aCu (ha.ev rfl) Gg) D fun _ D=> ?_;rcases tf (!b2) with hb|hb
   ·replace H:=H.1 hb;refine Ji 14 cm rfl rfl rfl (fun w' a ha=>Ya (eU (ha.ev rfl)) hb) D fun _ D=>(Qx 15 cm rfl rfl rfl rfl rfl D fun _ D=>(Qx 16 cm rfl rfl rfl rfl rfl D fun _ D=>(Qx 17 cm rfl rfl rfl rfl rfl D fun _ D=>(Qx 18 cm rfl rfl rfl rfl rfl D fun _ D=>(ar 19 (Uz rfl rfl rfl (tC rfl rfl rfl rfl) rfl false (by kernel_rfl) ?_))))));intro _ hd;replace D:=D.trans hd;refine⟨fun h=>(by cases h),?_⟩;clear hd;refine Qx 20 cm rfl rfl rfl rfl rfl D fun _ D=>(aFj 21 cm rfl rfl rfl D fun _ D=>(Ez 22 cm rfl rfl D fun _ D=>(Qx 23 cm rfl rfl rfl rfl rfl D fun _ D=>(Qx 24 cm rfl rfl rfl rfl rfl D fun _ D=>(Qx 25 cm rfl rfl rfl rfl rfl D fun _ D=>(Qx 26 cm rfl rfl rfl rfl rfl D fun _ D=>(Qx 27 cm rfl rfl rfl rfl rfl D fun _ D=>(ar 28 (Uz rfl rfl rfl (tC rfl rfl rfl rfl) rfl false (by kernel_rfl) ?_)))))))));intro _ hd;replace D:=D.trans hd;refine⟨fun h=>(by cases h),?_⟩;clear hd;refine Qx 29 cm rfl rfl rfl rfl rfl D fun _ D=>(aFj 30 cm rfl rfl rfl D fun _ D=>(dU (by kernel_rfl) D ?_));intro w5 D;replace H:=H _ D;clear D cm;exact aT fun a ha=>⟨true,ha.weaken cs,H⟩
   ·replace H:=H.2 hb;refine Ji 14 cm rfl rfl rfl (fun w' a ha=>Xq (eU (ha.ev rfl)) hb) D fun _ D=>(Zz 15 cm rfl rfl rfl rfl D fun _ D=>(Zz 16 cm rfl rfl rfl rfl D fun _ D=> ?_));obtain⟨h20,h21,a4,e4,H⟩:=H;refine aGq 17 cm rfl rfl rfl rfl rfl (bG TF.rH TF.qK e4 h20 h21) D fun _ D=>(aGf 18 cm rfl rfl rfl rfl (TF.Si _ _) D fun _ D=>(ar 19 ?_));obtain⟨x2,h22,H⟩:=H;refine aB0 rfl rfl rfl (cZ rfl rfl rfl) (fun a ha=>Ey (ha.ev rfl) (aJ TF.kL ((D.cell _).trans h22))) rfl false (by kernel_rfl) ?_;intro _ hd;replace D:=D.trans hd;refine⟨fun h=>(by cases h),?_⟩;clear hd;refine aDg 20 cm rfl rfl rfl rfl rfl (fun w' a ha=>dK (ha.ev rfl) (ha.ev rfl) zC) D fun _ D=>(aIm 21 cm rfl rfl rfl D fun _ D=> ?_);rcases Classical.em (x2≠901) with hb|hb
    ·replace H:=H.1 hb;refine Ji 22 cm rfl rfl rfl (fun w' a ha=>o_t (eU (ha.ev rfl)) hb) D fun _ D=>(Qx 23 cm rfl rfl rfl rfl rfl D fun _ D=>(Qx 24 cm rfl rfl rfl rfl rfl D fun _ D=>(Qx 25 cm rfl rfl rfl rfl rfl D fun _ D=>(Qx 26 cm rfl rfl rfl rfl rfl D fun _ D=>(Qx 27 cm rfl rfl rfl rfl rfl D fun _ D=>(ar 28 (Uz rfl rfl rfl (tC rfl rfl rfl rfl) rfl false (by kernel_rfl) ?_)))))));intro _ hd;replace D:=D.trans hd;refine⟨fun h=>(by cases h),?_⟩;clear hd;refine Qx 29 cm rfl rfl rfl rfl rfl D fun _ D=>(aFj 30 cm rfl rfl rfl D fun _ D=>(dU (by kernel_rfl) D ?_));intro w7 D;replace H:=H _ D;clear D cm;exact aT fun a ha=>⟨true,ha.weaken cs,H⟩
    ·replace H:=H.2 hb;refine Ji 22 cm rfl rfl rfl (fun w' a ha=>o_f (eU (ha.ev rfl)) hb) D fun _ D=>(Zz 23 cm rfl rfl rfl rfl D fun _ D=>(Zz 24 cm rfl rfl rfl rfl D fun _ D=>(aDg 25 cm rfl rfl rfl rfl rfl (fun w' a ha=>dK (ha.ev rfl) (ha.ev rfl) dJ) D fun _ D=> ?_)));obtain⟨h23,h24,a5,e5,H⟩:=H;refine aGq 26 cm rfl rfl rfl rfl rfl (bG TF.rH TF.qK e5 h23 h24) D fun _ D=>(aGf 27 cm rfl rfl rfl rfl (TF.Si _ _) D fun _ D=>(ar 28 ?_));obtain⟨x3,h25,H⟩:=H;refine aB0 rfl rfl rfl (cZ rfl rfl rfl) (fun a ha=>Ey (ha.ev rfl) (aJ TF.kL ((D.cell _).trans h25))) rfl false (by kernel_rfl) ?_;intro _ hd;replace D:=D.trans hd;refine⟨fun h=>(by cases h),?_⟩;clear hd;refine aDg 29 cm rfl rfl rfl rfl rfl (fun w' a ha=>dK (ha.ev rfl) (ha.ev rfl) zC) D fun _ D=>(aIm 30 cm rfl rfl rfl D fun _ D=>(dU (by kernel_rfl) D ?_));intro w8 D;replace H:=H _ D;clear D cm;exact aT fun a ha=>⟨(decide (x3≠902)),ha.weaken cs,H⟩
 ·replace H:=H.2 hb;refine bW (aH (aH (aZ (nc (kp 0 rfl zz) (aB (aB (aA (ag rfl (aC (nc (y2 0 6 rfl) (aV ?_)))))))))));obtain⟨I2,⟨k3,hi⟩,H⟩:=H;refine dM (fun k3 a w'=>∃x4,Ok 119 [(0,.pointer (some p1)),(6,.int .i64 x4)] a/\I2 k3 x4 w') (fun a ha=>⟨k3,0,ha.weaken cs,hi⟩) ?_;rintro k3 a w9 ⟨x4,ha,hI⟩;replace H:=H k3 x4 w9 hI;refine cu ha ?_;refine aB (aB (aA (mv rfl (mv rfl (nk rfl (fa rfl (TF.zZ _ _) ?_))))));obtain⟨A8,n8,c8,h26,H⟩:=H;refine ld rfl (aJ TF.uQ h26) (sv rfl rfl (xb rfl (fun _=>bD TF.Qp)) (bo rfl rfl fO (aC (nc (y3 0 6 70 rfl) ?_))));refine aK rfl (fun hb=> ?_) (fun hb=> ?_)
  ·replace H:=H.1 hb;refine aN (nc (y2 0 6 rfl) (aB (aV (aB (aA (mv rfl (nk rfl (fa rfl (TF.yX _ _) ?_))))))));obtain⟨A9,n9,c9,h27,H⟩:=H;refine ld rfl (aJ TF.uQ h27) (mv rfl ?_);obtain⟨h28,h29,a6,e6,H⟩:=H;refine ix rfl rfl (bG TF.yJ TF.Ff e6 h28 h29) ?_;obtain⟨A10,n10,c10,h30,H⟩:=H;refine ld rfl (aJ TF.Ic h30) (sv rfl rfl (xb rfl (fun _=>bD TF.sO)) (ag rfl (aC (nc (y3 0 6 7 rfl) (aB (aA (mv rfl (nk rfl (fa rfl (TF.zZ _ _) ?_)))))))));obtain⟨A11,n11,c11,h31,H⟩:=H;refine ld rfl (aJ TF.uQ h31) (mv rfl ?_);obtain⟨h32,h33,a7,e7,H⟩:=H;refine ix rfl rfl (bG TF.yJ TF.Ff e7 h32 h33) ?_;obtain⟨A12,n12,c12,h34,H⟩:=H;refine ld rfl (aJ TF.Ic h34) (ag rfl (aC (nc (y4 0 6 7 8 rfl) ?_)));refine dI (fun a w=>∃b5,Ok 119 [(0,.pointer (some p1)),(6,.int .i64 x4),(116,.bool b5)] a/\iL K k3 I2 x4 b5 w) ?_ ?_
   ·rintro a w14 ⟨b5,ha,H⟩;unfold iL at H;refine cu ha ?_;refine dG rfl (fun hb=> ?_) (fun hb=> ?_)
    ·replace H:=H.1 hb;exact aB (aA (ag rfl (aC (nc (kp 2 rfl zz) (aW (bF (aI (aI (bF (aI (aG (res1 rfl rfl) ⟨_,rfl,_,rfl,H⟩)))))))))))
    ·replace H:=H.2 hb;refine aN (bQ (nc (y2 0 6 rfl) (aA (mv rfl (bo rfl rfl dJ (ag rfl (aC ?_)))))));obtain⟨k4,hk,H⟩:=H;exact aT fun a ha=>⟨k4,hk,IntKind.wrap .i64 (x4+1),ha.weaken cs,H⟩
   ·refine dW follows [0,1,2,3,4,5,6,7,8,9,11,12,13,14,15,16,18,19,20,21,22,23,24,25,27,28] [6,9] 29 rfl rfl (by kernel_rfl) (fun _ _ d _ _ h=>by cases d<;>exact h) (fun cm W D=> ?_);refine lU 0 cm rfl rfl D W fun _ D W=>(lU 1 cm rfl rfl D W fun _ D W=> ?_);obtain⟨h35,h36,H⟩:=H;refine pv 2 cm rfl rfl rfl (fun w' a ha=>qR (ha.ev rfl) rfl (qA (ha.ev rfl)) rfl (Ht TF.tZ TF.sF h35 h36)) D W fun _ D W=>(lU 3 cm rfl rfl D W fun _ D W=>(pnk 4 cm rfl rfl D W fun _ D W=>(Nw 5 cm rfl rfl (TF.yX _ _) D W fun _ D W=> ?_)));obtain⟨A13,n13,c13,h39,H⟩:=H;refine vl 6 cm rfl rfl (fun hw=>(aJ TF.uQ ((hw.cell _).trans h39))) D W fun _ D W=>(lU 7 cm rfl rfl D W fun _ D W=> ?_);obtain⟨h40,h41,a8,e8,H⟩:=H;refine Vu 8 cm rfl rfl rfl (bG TF.yJ TF.Ff e8 h40 h41) D W fun _ D W=> ?_;obtain⟨A14,n14,c14,h42,H⟩:=H;refine vl 9 cm rfl rfl (fun hw=>(aJ TF.Ic ((hw.cell _).trans h42))) D W fun _ D W=>(ar 10 ?_);replace H:=H _ D;refine iZ rfl rfl rfl (aF rfl) (xc rfl rfl FF.Dt) rfl false (by kernel_rfl) H ?_;rintro _ w10 ⟨b4,rfl,H⟩ _ D;refine⟨fun h=>(by cases h),?_⟩;refine Ji 11 cm rfl rfl rfl (fun w' a ha=>aCu (ha.ev rfl) Gg) D fun _ D=> ?_;rcases tf (!b4) with hb|hb
    ·replace H:=H.1 hb;refine Ji 12 cm rfl rfl rfl (fun w' a ha=>Ya (eU (ha.ev rfl)) hb) D fun _ D=>(Qx 13 cm rfl rfl rfl rfl rfl D fun _ D=>(Qx 14 cm rfl rfl rfl rfl rfl D fun _ D=>(Qx 15 cm rfl rfl rfl rfl rfl D fun _ D=>(Qx 16 cm rfl rfl rfl rfl rfl D fun _ D=>(ar 17 (Uz rfl rfl rfl (tC rfl rfl rfl rfl) rfl false (by kernel_rfl) ?_))))));intro _ hd;replace D:=D.trans hd;refine⟨fun h=>(by cases h),?_⟩;clear hd;refine Qx 18 cm rfl rfl rfl rfl rfl D fun _ D=>(aFj 19 cm rfl rfl rfl D fun _ D=>(Ez 20 cm rfl rfl D fun _ D=>(Qx 21 cm rfl rfl rfl rfl rfl D fun _ D=>(Qx 22 cm rfl rfl rfl rfl rfl D fun _ D=>(Qx 23 cm rfl rfl rfl rfl rfl D fun _ D=>(Qx 24 cm rfl rfl rfl rfl rfl D fun _ D=>(Qx 25 cm rfl rfl rfl rfl rfl D fun _ D=>(ar 26 (Uz rfl rfl rfl (tC rfl rfl rfl rfl) rfl false (by kernel_rfl) ?_)))))))));intro _ hd;replace D:=D.trans hd;refine⟨fun h=>(by cases h),?_⟩;clear hd;refine Qx 27 cm rfl rfl rfl rfl rfl D fun _ D=>(aFj 28 cm rfl rfl rfl D fun _ D=>(dU (by kernel_rfl) D ?_));intro w13 D;replace H:=H _ D;clear D cm;exact aT fun a ha=>⟨true,ha.weaken cs,H⟩
    ·replace H:=H.2 hb;refine Ji 12 cm rfl rfl rfl (fun w' a ha=>Xq (eU (ha.ev rfl)) hb) D fun _ D=>(Zz 13 cm rfl rfl rfl rfl D fun _ D=>(Zz 14 cm rfl rfl rfl rfl D fun _ D=> ?_));obtain⟨h45,h46,a9,e9,H⟩:=H;refine aGq 15 cm rfl rfl rfl rfl rfl (bG TF.tZ TF.sF e9 h45 h46) D fun _ D=>(aGf 16 cm rfl rfl rfl rfl (TF.Di _ _) D fun _ D=>(ar 17 ?_));obtain⟨x5,h47,H⟩:=H;refine aB0 rfl rfl rfl (cZ rfl rfl rfl) (fun a ha=>Ey (ha.ev rfl) (aJ TF.kL ((D.cell _).trans h47))) rfl false (by kernel_rfl) ?_;intro _ hd;replace D:=D.trans hd;refine⟨fun h=>(by cases h),?_⟩;clear hd;refine aDg 18 cm rfl rfl rfl rfl rfl (fun w' a ha=>dK (ha.ev rfl) (ha.ev rfl) zC) D fun _ D=>(aIm 19 cm rfl rfl rfl D fun _ D=> ?_);rcases Classical.em (x5≠903) with hb|hb
     ·replace H:=H.1 hb;refine Ji 20 cm rfl rfl rfl (fun w' a ha=>o_t (eU (ha.ev rfl)) hb) D fun _ D=>(Qx 21 cm rfl rfl rfl rfl rfl D fun _ D=>(Qx 22 cm rfl rfl rfl rfl rfl D fun _ D=>(Qx 23 cm rfl rfl rfl rfl rfl D fun _ D=>(Qx 24 cm rfl rfl rfl rfl rfl D fun _ D=>(Qx 25 cm rfl rfl rfl rfl rfl D fun _ D=>(ar 26 (Uz rfl rfl rfl (tC rfl rfl rfl rfl) rfl false (by kernel_rfl) ?_)))))));intro _ hd;replace D:=D.trans hd;refine⟨fun h=>(by cases h),?_⟩;clear hd;refine Qx 27 cm rfl rfl rfl rfl rfl D fun _ D=>(aFj 28 cm rfl rfl rfl D fun _ D=>(dU (by kernel_rfl) D ?_));intro w15 D;replace H:=H _ D;clear D cm;exact aT fun a ha=>⟨true,ha.weaken cs,H⟩
     ·replace H:=H.2 hb;refine Ji 20 cm rfl rfl rfl (fun w' a ha=>o_f (eU (ha.ev rfl)) hb) D fun _ D=>(Zz 21 cm rfl rfl rfl rfl D fun _ D=>(Zz 22 cm rfl rfl rfl rfl D fun _ D=>(aDg 23 cm rfl rfl rfl rfl rfl (fun w' a ha=>dK (ha.ev rfl) (ha.ev rfl) dJ) D fun _ D=> ?_)));obtain⟨h48,h49,a10,e10,H⟩:=H;refine aGq 24 cm rfl rfl rfl rfl rfl (bG TF.tZ TF.sF e10 h48 h49) D fun _ D=>(aGf 25 cm rfl rfl rfl rfl (TF.Di _ _) D fun _ D=>(ar 26 ?_));obtain⟨x6,h50,H⟩:=H;refine aB0 rfl rfl rfl (cZ rfl rfl rfl) (fun a ha=>Ey (ha.ev rfl) (aJ TF.kL ((D.cell _).trans h50))) rfl false (by kernel_rfl) ?_;intro _ hd;replace D:=D.trans hd;refine⟨fun h=>(by cases h),?_⟩;clear hd;refine aDg 27 cm rfl rfl rfl rfl rfl (fun w' a ha=>dK (ha.ev rfl) (ha.ev rfl) zC) D fun _ D=>(aIm 28 cm rfl rfl rfl D fun _ D=>(dU (by kernel_rfl) D ?_));intro w16 D;replace H:=H _ D;clear D cm;exact aT fun a ha=>⟨(decide (x6≠904)),ha.weaken cs,H⟩
  ·replace H:=H.2 hb;refine bW (aH (aH (aZ (nc (kp 0 rfl zz) (aB (aA (mv rfl (sc rfl rfl FF.Am H ?_))))))));rintro _ w17 ⟨b6,rfl,H⟩;exact ag rfl (aC (nc (kp 2 rfl zz) (aW (aG (res1 rfl rfl) ⟨_,rfl,_,rfl,H⟩))))
def jP (K:Bool->World->Prop) (w2:World) (k1:Nat) (I1:Nat->Int->World->Prop) (x1:Int) (b2:Bool):Prop:=
 (b2=true->(K false w2))/\(b2=false->(∃k4,k4<k1/\I1 k4 (IntKind.wrap .i64 (x1+1)) w2))
def jO (K:Bool->World->Prop) (w5:World) (k5:Nat) (I3:Nat->Int->World->Prop) (x3:Int) (b3:Bool):Prop:=
 (b3=true->(K false w5))/\(b3=false->(∃k8,k8<k5/\I3 k8 (IntKind.wrap .i64 (x3+1)) w5))
def jQ (K:Bool->World->Prop) (w8:World) (k9:Nat) (I5:Nat->Int->World->Prop) (x5:Int) (b4:Bool):Prop:=
 (b4=true->(K false w8))/\(b4=false->(∃k12,k12<k9/\I5 k12 (IntKind.wrap .i64 (x5+1)) w8))
def wV (p1:Addr) (K:Bool->World->Prop) (w:World):Prop:=
 ∃I1:Nat->Int->World->Prop,(∃k1,I1 k1 0 w)/\∀k1 (x1:Int) (w1:World),I1 k1 x1 w1->(∃A1 n1 c1,w1.cell? (p1.add 2)=some (.slice A1 n1 c1)/\(x1<(n1:Int)->(∃A2 n2 c2,w1.cell? (p1.add 3)=some (.slice A2 n2 c2)/\0<=x1/\x1<(n2:Int)/\∃a1,A2=some a1/\∃A3 n3 c3,w1.cell? (a1.add (x1.toNat*1))=some (.slice A3 n3 c3)/\∃A4 n4 c4,w1.cell? (p1.add 2)=some (.slice A4 n4 c4)/\0<=x1/\x1<(n4:Int)/\∃a2,A4=some a2/\∃A5 n5 c5,w1.cell? (a2.add (x1.toNat*1))=some (.slice A5 n5 c5)/\∃I2:Nat->Int->World->Prop,(∃k2,I2 k2 0 w1)/\∀k2 (x2:Int) (w2:World),I2 k2 x2 w2->((x2<(n3:Int)->(0<=x2/\x2<(n5:Int)/\∃a3,A5=some a3/\∃s1:ByteArray,w2.cell? (a3.add (x2.toNat*1))=some (.string s1)/\∃A6 n6 c6,w2.cell? (p1.add 3)=some (.slice A6 n6 c6)/\0<=x1/\x1<(n6:Int)/\∃a4,A6=some a4/\∃A7 n7 c7,w2.cell? (a4.add (x1.toNat*1))=some (.slice A7 n7 c7)/\0<=x2/\x2<(n7:Int)/\∃a5,A7=some a5/\∃s2:ByteArray,w2.cell? (a5.add (x2.toNat*1))=some (.string s2)/\∀w3,aP w2 w3->((s1≠s2->(K false w3))/\(¬(s1≠s2)->(∃k3,k3<k2/\I2 k3 (IntKind.wrap .i64 (x2+1)) w3)))))/\(¬(x2<(n3:Int))->(0<=(n3:Int)/\(n3:Int)<(n5:Int)/\∃a6,A5=some a6/\∃s3:ByteArray,w2.cell? (a6.add ((n3:Int).toNat*1))=some (.string s3)/\(s3≠⟨#[57,48,53]⟩->((jP K w2 k1 I1 x1) true))/\(¬(s3≠⟨#[57,48,53]⟩)->(0<=IntKind.wrap .i64 ((n3:Int)+1)/\IntKind.wrap .i64 ((n3:Int)+1)<(n5:Int)/\∃a7,A5=some a7/\∃s4:ByteArray,w2.cell? (a7.add ((IntKind.wrap .i64 ((n3:Int)+1)).toNat*1))=some (.string s4)/\(jP K w2 k1 I1 x1) (decide (s4≠⟨#[57,48,54]⟩)))))))))/\(¬(x1<(n1:Int))->(∃I3:Nat->Int->World->Prop,(∃k5,I3 k5 0 w1)/\∀k5 (x3:Int) (w4:World),I3 k5 x3 w4->(∃A8 n8 c8,w4.cell? (p1.add 6)=some (.slice A8 n8 c8)/\(x3<(n8:Int)->(∃A9 n9 c9,w4.cell? (p1.add 7)=some (.slice A9 n9 c9)/\0<=x3/\x3<(n9:Int)/\∃a8,A9=some a8/\∃A10 n10 c10,w4.cell? (a8.add (x3.toNat*1))=some (.slice A10 n10 c10)/\∃A11 n11 c11,w4.cell? (p1.add 6)=some (.slice A11 n11 c11)/\0<=x3/\x3<(n11:Int)/\∃a9,A11=some a9/\∃A12 n12 c12,w4.cell? (a9.add (x3.toNat*1))=some (.slice A12 n12 c12)/\∃I4:Nat->Int->World->Prop,(∃k6,I4 k6 0 w4)/\∀k6 (x4:Int) (w5:World),I4 k6 x4 w5->((x4<(n10:Int)->(0<=x4/\x4<(n12:Int)/\∃a10,A12=some a10/\∃s5:ByteArray,∃s6:ByteArray,bC w5 (a10.add (x4.toNat*2)) [.string s5,.string s6]/\∃A13 n13 c13,w5.cell? (p1.add 7)=some (.slice A13 n13 c13)/\0<=x3/\x3<(n13:Int)/\∃a11,A13=some a11/\∃A14 n14 c14,w5.cell? (a11.add (x3.toNat*1))=some (.slice A14 n14 c14)/\0<=x4/\x4<(n14:Int)/\∃a12,A14=some a12/\∃s7:ByteArray,∃s8:ByteArray,bC w5 (a12.add (x4.toNat*2)) [.string s7,.string s8]/\∀w6,aP w5 w6->((¬(s5=s7/\s6=s8)->(K false w6))/\(¬(¬(s5=s7/\s6=s8))->(∃k7,k7<k6/\I4 k7 (IntKind.wrap .i64 (x4+1)) w6)))))/\(¬(x4<(n10:Int))->(0<=(n10:Int)/\(n10:Int)<(n12:Int)/\∃a13,A12=some a13/\∃s9:ByteArray,w5.cell? ((a13.add ((n10:Int).toNat*2)).add 0)=some (.string s9)/\(s9≠⟨#[57,48,55]⟩->((jO K w5 k5 I3 x3) true))/\(¬(s9≠⟨#[57,48,55]⟩)->(0<=IntKind.wrap .i64 ((n10:Int)+1)/\IntKind.wrap .i64 ((n10:Int)+1)<(n12:Int)/\∃a14,A12=some a14/\∃s10:ByteArray,w5.cell? ((a14.add ((IntKind.wrap .i64 ((n10:Int)+1)).toNat*2)).add 0)=some (.string s10)/\(jO K w5 k5 I3 x3) (decide (s10≠⟨#[57,48,56]⟩)))))))))/\(¬(x3<(n8:Int))->(∃I5:Nat->Int->World->Prop,(∃k9,I5 k9 0 w4)/\∀k9 (x5:Int) (w7:World),I5 k9 x5 w7->(∃A15 n15 c15,w7.cell? (p1.add 8)=some (.slice A15 n15 c15)/\(x5<(n15:Int)->(∃A16 n16 c16,w7.cell? (p1.add 9)=some (.slice A16 n16 c16)/\0<=x5/\x5<(n16:Int)/\∃a15,A16=some a15/\∃A17 n17 c17,w7.cell? (a15.add (x5.toNat*1))=some (.slice A17 n17 c17)/\∃A18 n18 c18,w7.cell? (p1.add 8)=some (.slice A18 n18 c18)/\0<=x5/\x5<(n18:Int)/\∃a16,A18=some a16/\∃A19 n19 c19,w7.cell? (a16.add (x5.toNat*1))=some (.slice A19 n19 c19)/\∃I6:Nat->Int->World->Prop,(∃k10,I6 k10 0 w7)/\∀k10 (x6:Int) (w8:World),I6 k10 x6 w8->((x6<(n17:Int)->(0<=x6/\x6<(n19:Int)/\∃a17,A19=some a17/\∃s11:ByteArray,∃s12:ByteArray,∃s13:ByteArray,∃s14:ByteArray,bC w8 (a17.add (x6.toNat*4)) [.string s11,.string s12,.string s13,.string s14]/\∃A20 n20 c20,w8.cell? (p1.add 9)=some (.slice A20 n20 c20)/\0<=x5/\x5<(n20:Int)/\∃a18,A20=some a18/\∃A21 n21 c21,w8.cell? (a18.add (x5.toNat*1))=some (.slice A21 n21 c21)/\0<=x6/\x6<(n21:Int)/\∃a19,A21=some a19/\∃s15:ByteArray,∃s16:ByteArray,∃s17:ByteArray,∃s18:ByteArray,bC w8 (a19.add (x6.toNat*4)) [.string s15,.string s16,.string s17,.string s18]/\∀w9,aP w8 w9->((¬((s11=s15/\s12=s16)/\(s13=s17/\s14=s18))->(K false w9))/\(¬(¬((s11=s15/\s12=s16)/\(s13=s17/\s14=s18)))->(∃k11,k11<k10/\I6 k11 (IntKind.wrap .i64 (x6+1)) w9)))))/\(¬(x6<(n17:Int))->(0<=(n17:Int)/\(n17:Int)<(n19:Int)/\∃a20,A19=some a20/\∃s19:ByteArray,w8.cell? (((a20.add ((n17:Int).toNat*4)).add 0).add 0)=some (.string s19)/\(s19≠⟨#[57,48,57]⟩->((jQ K w8 k9 I5 x5) true))/\(¬(s19≠⟨#[57,48,57]⟩)->(0<=IntKind.wrap .i64 ((n17:Int)+1)/\IntKind.wrap .i64 ((n17:Int)+1)<(n19:Int)/\∃a21,A19=some a21/\∃s20:ByteArray,w8.cell? (((a21.add ((IntKind.wrap .i64 ((n17:Int)+1)).toNat*4)).add 0).add 0)=some (.string s20)/\(jQ K w8 k9 I5 x5) (decide (s20≠⟨#[57,49,48]⟩)))))))))/\(¬(x5<(n15:Int))->(K true w7)))))))))
theorem Jf (p1:Addr) (K:Bool->World->Prop) (w:World) (H:wV p1 K w):Calls P F.nH #[.pointer (some p1)] w (aS fun v w'=>∃b1,v=(.bool b1)/\K b1 w'):=by
 unfold wV at H;refine aY (P:=P) Tryz.func94 rfl [(0,.pointer (some p1))] 192 rfl rfl (fun p hp=>by rcases List.mem_singleton.1 hp with rfl;rfl) (aB (aA (ag rfl (aC (nc (kp 0 rfl zz) (aB (aB (aA (ag rfl (aC (nc (y2 0 3 rfl) (aV ?_))))))))))));obtain⟨I1,⟨k1,hi⟩,H⟩:=H;refine dM (fun k1 a w'=>∃x1,Ok 192 [(0,.pointer (some p1)),(3,.int .i64 x1)] a/\I1 k1 x1 w') (fun a ha=>⟨k1,0,ha.weaken cs,hi⟩) ?_;rintro k1 a w1 ⟨x1,ha,hI⟩;replace H:=H k1 x1 w1 hI;refine cu ha ?_;refine aB (aB (aA (mv rfl (mv rfl (nk rfl (fa rfl (TF.zS _ _) ?_))))));obtain⟨A1,n1,c1,h1,H⟩:=H;refine ld rfl (aJ TF.wM h1) (sv rfl rfl (xb rfl (fun _=>bD TF.Ro)) (bo rfl rfl fO (aC (nc (y3 0 3 21 rfl) ?_))));refine aK rfl (fun hb=> ?_) (fun hb=> ?_)
 ·replace H:=H.1 hb;refine aN (nc (y2 0 3 rfl) (aB (aV (aB (aA (mv rfl (nk rfl (fa rfl (TF.zF _ _) ?_))))))));obtain⟨A2,n2,c2,h2,H⟩:=H;refine ld rfl (aJ TF.wM h2) (mv rfl ?_);obtain⟨h3,h4,a1,e1,H⟩:=H;refine ix rfl rfl (bG TF.yY TF.Ja e1 h3 h4) ?_;obtain⟨A3,n3,c3,h5,H⟩:=H;refine ld rfl (aJ TF.Ll h5) (sv rfl rfl (xb rfl (fun _=>bD TF.Jr)) (ag rfl (aC (nc (y3 0 3 4 rfl) (aB (aA (mv rfl (nk rfl (fa rfl (TF.zS _ _) ?_)))))))));obtain⟨A4,n4,c4,h6,H⟩:=H;refine ld rfl (aJ TF.wM h6) (mv rfl ?_);obtain⟨h7,h8,a2,e2,H⟩:=H;refine ix rfl rfl (bG TF.yY TF.Ja e2 h7 h8) ?_;obtain⟨A5,n5,c5,h9,H⟩:=H;refine ld rfl (aJ TF.Ll h9) (ag rfl (aC (nc (y4 0 3 4 5 rfl) (aB (aB (aA (ag rfl (aC (nc (y5 0 3 4 5 6 rfl) (aV ?_))))))))));obtain⟨I2,⟨k2,hi⟩,H⟩:=H;refine dM (fun k2 a w'=>∃x2,Ok 192 [(0,.pointer (some p1)),(3,.int .i64 x1),(4,.int .i64 (n3:Int)),(5,.slice A5 n5 c5),(6,.int .i64 x2)] a/\I2 k2 x2 w') (fun a ha=>⟨k2,0,ha.weaken cs,hi⟩) ?_;rintro k2 a w2 ⟨x2,ha,hI⟩;replace H:=H k2 x2 w2 hI;refine cu ha ?_;refine aB (aB (aA (mv rfl (mv rfl (bo rfl rfl fO (aC (nc (y6 0 3 4 5 6 41 rfl) ?_)))))));refine aK rfl (fun hb=> ?_) (fun hb=> ?_)
  ·replace H:=H.1 hb;refine aN (nc (y5 0 3 4 5 6 rfl) (aB (aV (aB ?_))));refine dW follows [0,1,2,3,4,5,6,7,8,9,10,11,12,13,14] [3,7,10,13] 15 rfl rfl (by kernel_rfl) (fun _ _ d _ _ h=>by cases d<;>exact h) (fun cm W D=> ?_);refine lU 0 cm rfl rfl D W fun _ D W=>(lU 1 cm rfl rfl D W fun _ D W=> ?_);obtain⟨h10,h11,a3,e3,H⟩:=H;refine Vu 2 cm rfl rfl rfl (bG TF.wB TF.size_string e3 h10 h11) D W fun _ D W=> ?_;obtain⟨s1,h12,H⟩:=H;refine vl 3 cm rfl rfl (fun hw=>(aJ TF.dN ((hw.cell _).trans h12))) D W fun _ D W=>(lU 4 cm rfl rfl D W fun _ D W=>(pnk 5 cm rfl rfl D W fun _ D W=>(Nw 6 cm rfl rfl (TF.zF _ _) D W fun _ D W=> ?_)));obtain⟨A6,n6,c6,h13,H⟩:=H;refine vl 7 cm rfl rfl (fun hw=>(aJ TF.wM ((hw.cell _).trans h13))) D W fun _ D W=>(lU 8 cm rfl rfl D W fun _ D W=> ?_);obtain⟨h14,h15,a4,e4,H⟩:=H;refine Vu 9 cm rfl rfl rfl (bG TF.yY TF.Ja e4 h14 h15) D W fun _ D W=> ?_;obtain⟨A7,n7,c7,h16,H⟩:=H;refine vl 10 cm rfl rfl (fun hw=>(aJ TF.Ll ((hw.cell _).trans h16))) D W fun _ D W=>(lU 11 cm rfl rfl D W fun _ D W=> ?_);obtain⟨h17,h18,a5,e5,H⟩:=H;refine Vu 12 cm rfl rfl rfl (bG TF.wB TF.size_string e5 h17 h18) D W fun _ D W=> ?_;obtain⟨s2,h19,H⟩:=H;refine vl 13 cm rfl rfl (fun hw=>(aJ TF.dN ((hw.cell _).trans h19))) D W fun _ D W=>(Ji 14 cm rfl rfl rfl (fun w' a ha=>dK (ha.ev rfl) (ha.ev rfl) rW) D fun _ D=>(dU (by kernel_rfl) D ?_));intro w3 D;replace H:=H _ D;clear D cm;refine nc (y6 0 3 4 5 6 58 rfl) ?_;refine aK rfl (fun hb=> ?_) (fun hb=> ?_)
   ·replace H:=H.1 hb;exact aB (aA (ag rfl (aC (nc (kp 2 rfl zz) (aW (bF (aI (aI (bF (aI (bF (aI (aI (bF (aI (aG (res1 rfl rfl) ⟨_,rfl,_,rfl,H⟩))))))))))))))))
   ·replace H:=H.2 hb;refine aN (bQ (nc (y5 0 3 4 5 6 rfl) (aA (mv rfl (bo rfl rfl dJ (ag rfl (aC ?_)))))));obtain⟨k3,hk,H⟩:=H;exact aT fun a ha=>⟨k3,hk,IntKind.wrap .i64 (x2+1),ha.weaken cs,H⟩
  ·replace H:=H.2 hb;refine bW (aH (aH (aZ (nc (y4 0 3 4 5 rfl) ?_))));refine bK (fun a=>∃b2,Ok 192 [(0,.pointer (some p1)),(3,.int .i64 x1),(71,.bool b2)] a/\jP K w2 k1 I1 x1 b2) ?_ ?_
   ·rintro a ⟨b2,ha,H⟩;unfold jP at H;refine cu ha ?_;refine dG rfl (fun hb=> ?_) (fun hb=> ?_)
    ·replace H:=H.1 hb;exact aB (aA (ag rfl (aC (nc (kp 2 rfl zz) (aW (bF (aI (aI (bF (aI (aG (res1 rfl rfl) ⟨_,rfl,_,rfl,H⟩)))))))))))
    ·replace H:=H.2 hb;refine aN (bQ (nc (y2 0 3 rfl) (aA (mv rfl (bo rfl rfl dJ (ag rfl (aC ?_)))))));obtain⟨k4,hk,H⟩:=H;exact aT fun a ha=>⟨k4,hk,IntKind.wrap .i64 (x1+1),ha.weaken cs,H⟩
   ·refine aA (mv rfl (mv rfl ?_));obtain⟨h20,h21,a6,e6,H⟩:=H;refine ix rfl rfl (bG TF.wB TF.size_string e6 h20 h21) ?_;obtain⟨s3,h22,H⟩:=H;refine ld rfl (aJ TF.dN h22) (bo rfl rfl rW ?_);rcases Classical.em (s3≠⟨#[57,48,53]⟩) with hb|hb
    ·replace H:=H.1 hb;exact sv rfl rfl (xt rfl hb) (sk rfl rfl rfl rfl (sk rfl rfl rfl rfl (sk rfl rfl rfl rfl (sk rfl rfl rfl rfl (sk rfl rfl rfl rfl (sk rfl rfl rfl rfl (pt rfl rfl (aC (aT fun a ha=>⟨⟨true,ha.weaken cs,H⟩,rfl⟩)))))))))
    ·replace H:=H.2 hb;refine sv rfl rfl (xf rfl hb) (Kw rfl rfl rfl (Kw rfl rfl rfl (Uu rfl rfl rfl rfl dJ ?_)));obtain⟨h23,h24,a7,e7,H⟩:=H;refine ixg rfl rfl rfl rfl (bG TF.wB TF.size_string e7 h23 h24) ?_;obtain⟨s4,h25,H⟩:=H;exact ldg rfl rfl rfl (aJ TF.dN h25) (Uu rfl rfl rfl rfl rW (pf rfl rfl (aC (aT fun a ha=>⟨⟨(decide (s4≠⟨#[57,48,54]⟩)),ha.weaken cs,H⟩,rfl⟩))))
 ·replace H:=H.2 hb;refine bW (aH (aH (aZ (nc (kp 0 rfl zz) (aB (aB (aA (ag rfl (aC (nc (y2 0 7 rfl) (aV ?_)))))))))));obtain⟨I3,⟨k5,hi⟩,H⟩:=H;refine dM (fun k5 a w'=>∃x3,Ok 192 [(0,.pointer (some p1)),(7,.int .i64 x3)] a/\I3 k5 x3 w') (fun a ha=>⟨k5,0,ha.weaken cs,hi⟩) ?_;rintro k5 a w4 ⟨x3,ha,hI⟩;replace H:=H k5 x3 w4 hI;refine cu ha ?_;refine aB (aB (aA (mv rfl (mv rfl (nk rfl (fa rfl (TF.Ak _ _) ?_))))));obtain⟨A8,n8,c8,h26,H⟩:=H;refine ld rfl (aJ TF.qV h26) (sv rfl rfl (xb rfl (fun _=>bD TF.Nb)) (bo rfl rfl fO (aC (nc (y3 0 7 78 rfl) ?_))));refine aK rfl (fun hb=> ?_) (fun hb=> ?_)
  ·replace H:=H.1 hb;refine aN (nc (y2 0 7 rfl) (aB (aV (aB (aA (mv rfl (nk rfl (fa rfl (TF.zU _ _) ?_))))))));obtain⟨A9,n9,c9,h27,H⟩:=H;refine ld rfl (aJ TF.qV h27) (mv rfl ?_);obtain⟨h28,h29,a8,e8,H⟩:=H;refine ix rfl rfl (bG TF.vY TF.zQ e8 h28 h29) ?_;obtain⟨A10,n10,c10,h30,H⟩:=H;refine ld rfl (aJ TF.Bh h30) (sv rfl rfl (xb rfl (fun _=>bD TF.Eu)) (ag rfl (aC (nc (y3 0 7 8 rfl) (aB (aA (mv rfl (nk rfl (fa rfl (TF.Ak _ _) ?_)))))))));obtain⟨A11,n11,c11,h31,H⟩:=H;refine ld rfl (aJ TF.qV h31) (mv rfl ?_);obtain⟨h32,h33,a9,e9,H⟩:=H;refine ix rfl rfl (bG TF.vY TF.zQ e9 h32 h33) ?_;obtain⟨A12,n12,c12,h34,H⟩:=H;refine ld rfl (aJ TF.Bh h34) (ag rfl (aC (nc (y4 0 7 8 9 rfl) (aB (aB (aA (ag rfl (aC (nc (y5 0 7 8 9 10 rfl) (aV ?_))))))))));obtain⟨I4,⟨k6,hi⟩,H⟩:=H;refine dM (fun k6 a w'=>∃x4,Ok 192 [(0,.pointer (some p1)),(7,.int .i64 x3),(8,.int .i64 (n10:Int)),(9,.slice A12 n12 c12),(10,.int .i64 x4)] a/\I4 k6 x4 w') (fun a ha=>⟨k6,0,ha.weaken cs,hi⟩) ?_;rintro k6 a w5 ⟨x4,ha,hI⟩;replace H:=H k6 x4 w5 hI;refine cu ha ?_;refine aB (aB (aA (mv rfl (mv rfl (bo rfl rfl fO (aC (nc (y6 0 7 8 9 10 98 rfl) ?_)))))));refine aK rfl (fun hb=> ?_) (fun hb=> ?_)
   ·replace H:=H.1 hb;refine aN (nc (y5 0 7 8 9 10 rfl) (aB (aV (aB ?_))));refine dW follows [0,1,2,3,4,5,6,7,8,9,10,11,12,13,14] [3,7,10,13] 15 rfl rfl (by kernel_rfl) (fun _ _ d _ _ h=>by cases d<;>exact h) (fun cm W D=> ?_);refine lU 0 cm rfl rfl D W fun _ D W=>(lU 1 cm rfl rfl D W fun _ D W=> ?_);obtain⟨h35,h36,a10,e10,H⟩:=H;refine Vu 2 cm rfl rfl rfl (bG TF.pX TF.bZ e10 h35 h36) D W fun _ D W=> ?_;obtain⟨s5,s6,h37,H⟩:=H;refine vl 3 cm rfl rfl (fun hw=>(gG (vs:=[.string s5,.string s6]) TF.fK TF.bZ (hw.cells h37))) D W fun _ D W=>(lU 4 cm rfl rfl D W fun _ D W=>(pnk 5 cm rfl rfl D W fun _ D W=>(Nw 6 cm rfl rfl (TF.zU _ _) D W fun _ D W=> ?_)));obtain⟨A13,n13,c13,h38,H⟩:=H;refine vl 7 cm rfl rfl (fun hw=>(aJ TF.qV ((hw.cell _).trans h38))) D W fun _ D W=>(lU 8 cm rfl rfl D W fun _ D W=> ?_);obtain⟨h39,h40,a11,e11,H⟩:=H;refine Vu 9 cm rfl rfl rfl (bG TF.vY TF.zQ e11 h39 h40) D W fun _ D W=> ?_;obtain⟨A14,n14,c14,h41,H⟩:=H;refine vl 10 cm rfl rfl (fun hw=>(aJ TF.Bh ((hw.cell _).trans h41))) D W fun _ D W=>(lU 11 cm rfl rfl D W fun _ D W=> ?_);obtain⟨h42,h43,a12,e12,H⟩:=H;refine Vu 12 cm rfl rfl rfl (bG TF.pX TF.bZ e12 h42 h43) D W fun _ D W=> ?_;obtain⟨s7,s8,h44,H⟩:=H;refine vl 13 cm rfl rfl (fun hw=>(gG (vs:=[.string s7,.string s8]) TF.fK TF.bZ (hw.cells h44))) D W fun _ D W=>(Ji 14 cm rfl rfl rfl (fun w' a ha=>dK (ha.ev rfl) (ha.ev rfl) (Zh (TF.Kt s5 s6 s7 s8) rfl TF.aB2)) D fun _ D=>(dU (by kernel_rfl) D ?_));intro w6 D;replace H:=H _ D;clear D cm;refine nc (y6 0 7 8 9 10 115 rfl) ?_;refine aK rfl (fun hb=> ?_) (fun hb=> ?_)
    ·replace H:=H.1 hb;exact aB (aA (ag rfl (aC (nc (kp 2 rfl zz) (aW (bF (aI (aI (bF (aI (bF (aI (aI (bF (aI (aG (res1 rfl rfl) ⟨_,rfl,_,rfl,H⟩))))))))))))))))
    ·replace H:=H.2 hb;refine aN (bQ (nc (y5 0 7 8 9 10 rfl) (aA (mv rfl (bo rfl rfl dJ (ag rfl (aC ?_)))))));obtain⟨k7,hk,H⟩:=H;exact aT fun a ha=>⟨k7,hk,IntKind.wrap .i64 (x4+1),ha.weaken cs,H⟩
   ·replace H:=H.2 hb;refine bW (aH (aH (aZ (nc (y4 0 7 8 9 rfl) ?_))));refine bK (fun a=>∃b3,Ok 192 [(0,.pointer (some p1)),(7,.int .i64 x3),(130,.bool b3)] a/\jO K w5 k5 I3 x3 b3) ?_ ?_
    ·rintro a ⟨b3,ha,H⟩;unfold jO at H;refine cu ha ?_;refine dG rfl (fun hb=> ?_) (fun hb=> ?_)
     ·replace H:=H.1 hb;exact aB (aA (ag rfl (aC (nc (kp 2 rfl zz) (aW (bF (aI (aI (bF (aI (aG (res1 rfl rfl) ⟨_,rfl,_,rfl,H⟩)))))))))))
     ·replace H:=H.2 hb;refine aN (bQ (nc (y2 0 7 rfl) (aA (mv rfl (bo rfl rfl dJ (ag rfl (aC ?_)))))));obtain⟨k8,hk,H⟩:=H;exact aT fun a ha=>⟨k8,hk,IntKind.wrap .i64 (x3+1),ha.weaken cs,H⟩
    ·refine aA (mv rfl (mv rfl ?_));obtain⟨h45,h46,a13,e13,H⟩:=H;refine ix rfl rfl (bG TF.pX TF.bZ e13 h45 h46) (fa rfl (TF.iF _ _) ?_);obtain⟨s9,h47,H⟩:=H;refine ld rfl (aJ TF.dN h47) (bo rfl rfl rW ?_);rcases Classical.em (s9≠⟨#[57,48,55]⟩) with hb|hb
     ·replace H:=H.1 hb;exact sv rfl rfl (xt rfl hb) (sk rfl rfl rfl rfl (sk rfl rfl rfl rfl (sk rfl rfl rfl rfl (sk rfl rfl rfl rfl (sk rfl rfl rfl rfl (sk rfl rfl rfl rfl (sk rfl rfl rfl rfl (pt rfl rfl (aC (aT fun a ha=>⟨⟨true,ha.weaken cs,H⟩,rfl⟩))))))))))
     ·replace H:=H.2 hb;refine sv rfl rfl (xf rfl hb) (Kw rfl rfl rfl (Kw rfl rfl rfl (Uu rfl rfl rfl rfl dJ ?_)));obtain⟨h48,h49,a14,e14,H⟩:=H;refine ixg rfl rfl rfl rfl (bG TF.pX TF.bZ e14 h48 h49) (fag rfl rfl rfl (TF.iF _ _) ?_);obtain⟨s10,h50,H⟩:=H;exact ldg rfl rfl rfl (aJ TF.dN h50) (Uu rfl rfl rfl rfl rW (pf rfl rfl (aC (aT fun a ha=>⟨⟨(decide (s10≠⟨#[57,48,56]⟩)),ha.weaken cs,H⟩,rfl⟩))))
  ·replace H:=H.2 hb;refine bW (aH (aH (aZ (nc (kp 0 rfl zz) (aB (aB (aA (ag rfl (aC (nc (y2 0 11 rfl) (aV ?_)))))))))));obtain⟨I5,⟨k9,hi⟩,H⟩:=H;refine dM (fun k9 a w'=>∃x5,Ok 192 [(0,.pointer (some p1)),(11,.int .i64 x5)] a/\I5 k9 x5 w') (fun a ha=>⟨k9,0,ha.weaken cs,hi⟩) ?_;rintro k9 a w7 ⟨x5,ha,hI⟩;replace H:=H k9 x5 w7 hI;refine cu ha ?_;refine aB (aB (aA (mv rfl (mv rfl (nk rfl (fa rfl (TF.nK _ _) ?_))))));obtain⟨A15,n15,c15,h51,H⟩:=H;refine ld rfl (aJ TF.kQ h51) (sv rfl rfl (xb rfl (fun _=>bD TF.Py)) (bo rfl rfl fO (aC (nc (y3 0 11 137 rfl) ?_))));refine aK rfl (fun hb=> ?_) (fun hb=> ?_)
   ·replace H:=H.1 hb;refine aN (nc (y2 0 11 rfl) (aB (aV (aB (aA (mv rfl (nk rfl (fa rfl (TF.mY _ _) ?_))))))));obtain⟨A16,n16,c16,h52,H⟩:=H;refine ld rfl (aJ TF.kQ h52) (mv rfl ?_);obtain⟨h53,h54,a15,e15,H⟩:=H;refine ix rfl rfl (bG TF.xG TF.Ce e15 h53 h54) ?_;obtain⟨A17,n17,c17,h55,H⟩:=H;refine ld rfl (aJ TF.Fe h55) (sv rfl rfl (xb rfl (fun _=>bD TF.jE)) (ag rfl (aC (nc (y3 0 11 12 rfl) (aB (aA (mv rfl (nk rfl (fa rfl (TF.nK _ _) ?_)))))))));obtain⟨A18,n18,c18,h56,H⟩:=H;refine ld rfl (aJ TF.kQ h56) (mv rfl ?_);obtain⟨h57,h58,a16,e16,H⟩:=H;refine ix rfl rfl (bG TF.xG TF.Ce e16 h57 h58) ?_;obtain⟨A19,n19,c19,h59,H⟩:=H;refine ld rfl (aJ TF.Fe h59) (ag rfl (aC (nc (y4 0 11 12 13 rfl) (aB (aB (aA (ag rfl (aC (nc (y5 0 11 12 13 14 rfl) (aV ?_))))))))));obtain⟨I6,⟨k10,hi⟩,H⟩:=H;refine dM (fun k10 a w'=>∃x6,Ok 192 [(0,.pointer (some p1)),(11,.int .i64 x5),(12,.int .i64 (n17:Int)),(13,.slice A19 n19 c19),(14,.int .i64 x6)] a/\I6 k10 x6 w') (fun a ha=>⟨k10,0,ha.weaken cs,hi⟩) ?_;rintro k10 a w8 ⟨x6,ha,hI⟩;replace H:=H k10 x6 w8 hI;refine cu ha ?_;refine aB (aB (aA (mv rfl (mv rfl (bo rfl rfl fO (aC (nc (y6 0 11 12 13 14 157 rfl) ?_)))))));refine aK rfl (fun hb=> ?_) (fun hb=> ?_)
    ·replace H:=H.1 hb;refine aN (nc (y5 0 11 12 13 14 rfl) (aB (aV (aB ?_))));refine dW follows [0,1,2,3,4,5,6,7,8,9,10,11,12,13,14] [3,7,10,13] 15 rfl rfl (by kernel_rfl) (fun _ _ d _ _ h=>by cases d<;>exact h) (fun cm W D=> ?_);refine lU 0 cm rfl rfl D W fun _ D W=>(lU 1 cm rfl rfl D W fun _ D W=> ?_);obtain⟨h60,h61,a17,e17,H⟩:=H;refine Vu 2 cm rfl rfl rfl (bG TF.fV TF.eG e17 h60 h61) D W fun _ D W=> ?_;obtain⟨s11,s12,s13,s14,h62,H⟩:=H;refine vl 3 cm rfl rfl (fun hw=>(gG (vs:=[.string s11,.string s12,.string s13,.string s14]) TF.zM TF.eG (hw.cells h62))) D W fun _ D W=>(lU 4 cm rfl rfl D W fun _ D W=>(pnk 5 cm rfl rfl D W fun _ D W=>(Nw 6 cm rfl rfl (TF.mY _ _) D W fun _ D W=> ?_)));obtain⟨A20,n20,c20,h63,H⟩:=H;refine vl 7 cm rfl rfl (fun hw=>(aJ TF.kQ ((hw.cell _).trans h63))) D W fun _ D W=>(lU 8 cm rfl rfl D W fun _ D W=> ?_);obtain⟨h64,h65,a18,e18,H⟩:=H;refine Vu 9 cm rfl rfl rfl (bG TF.xG TF.Ce e18 h64 h65) D W fun _ D W=> ?_;obtain⟨A21,n21,c21,h66,H⟩:=H;refine vl 10 cm rfl rfl (fun hw=>(aJ TF.Fe ((hw.cell _).trans h66))) D W fun _ D W=>(lU 11 cm rfl rfl D W fun _ D W=> ?_);obtain⟨h67,h68,a19,e19,H⟩:=H;refine Vu 12 cm rfl rfl rfl (bG TF.fV TF.eG e19 h67 h68) D W fun _ D W=> ?_;obtain⟨s15,s16,s17,s18,h69,H⟩:=H;refine vl 13 cm rfl rfl (fun hw=>(gG (vs:=[.string s15,.string s16,.string s17,.string s18]) TF.zM TF.eG (hw.cells h69))) D W fun _ D W=>(Ji 14 cm rfl rfl rfl (fun w' a ha=>dK (ha.ev rfl) (ha.ev rfl) (Zh (TF.aC8 s11 s12 s13 s14 s15 s16 s17 s18) rfl TF.aDf)) D fun _ D=>(dU (by kernel_rfl) D ?_));intro w9 D;replace H:=H _ D;clear D cm;refine nc (y6 0 11 12 13 14 174 rfl) ?_;refine aK rfl (fun hb=> ?_) (fun hb=> ?_)
     ·replace H:=H.1 hb;exact aB (aA (ag rfl (aC (nc (kp 2 rfl zz) (aW (bF (aI (aI (bF (aI (bF (aI (aI (bF (aI (aG (res1 rfl rfl) ⟨_,rfl,_,rfl,H⟩))))))))))))))))
     ·replace H:=H.2 hb;refine aN (bQ (nc (y5 0 11 12 13 14 rfl) (aA (mv rfl (bo rfl rfl dJ (ag rfl (aC ?_)))))));obtain⟨k11,hk,H⟩:=H;exact aT fun a ha=>⟨k11,hk,IntKind.wrap .i64 (x6+1),ha.weaken cs,H⟩
    ·replace H:=H.2 hb;refine bW (aH (aH (aZ (nc (y4 0 11 12 13 rfl) ?_))));refine bK (fun a=>∃b4,Ok 192 [(0,.pointer (some p1)),(11,.int .i64 x5),(191,.bool b4)] a/\jQ K w8 k9 I5 x5 b4) ?_ ?_
     ·rintro a ⟨b4,ha,H⟩;unfold jQ at H;refine cu ha ?_;refine dG rfl (fun hb=> ?_) (fun hb=> ?_)
      ·replace H:=H.1 hb;exact aB (aA (ag rfl (aC (nc (kp 2 rfl zz) (aW (bF (aI (aI (bF (aI (aG (res1 rfl rfl) ⟨_,rfl,_,rfl,H⟩)))))))))))
      ·replace H:=H.2 hb;refine aN (bQ (nc (y2 0 11 rfl) (aA (mv rfl (bo rfl rfl dJ (ag rfl (aC ?_)))))));obtain⟨k12,hk,H⟩:=H;exact aT fun a ha=>⟨k12,hk,IntKind.wrap .i64 (x5+1),ha.weaken cs,H⟩
     ·refine aA (mv rfl (mv rfl ?_));obtain⟨h70,h71,a20,e20,H⟩:=H;refine ix rfl rfl (bG TF.fV TF.eG e20 h70 h71) (fa rfl (TF.rQ _ _) (fa rfl (TF.iF _ _) ?_));obtain⟨s19,h72,H⟩:=H;refine ld rfl (aJ TF.dN h72) (bo rfl rfl rW ?_);rcases Classical.em (s19≠⟨#[57,48,57]⟩) with hb|hb
      ·replace H:=H.1 hb;exact sv rfl rfl (xt rfl hb) (sk rfl rfl rfl rfl (sk rfl rfl rfl rfl (sk rfl rfl rfl rfl (sk rfl rfl rfl rfl (sk rfl rfl rfl rfl (sk rfl rfl rfl rfl (sk rfl rfl rfl rfl (sk rfl rfl rfl rfl (pt rfl rfl (aC (aT fun a ha=>⟨⟨true,ha.weaken cs,H⟩,rfl⟩)))))))))))
      ·replace H:=H.2 hb;refine sv rfl rfl (xf rfl hb) (Kw rfl rfl rfl (Kw rfl rfl rfl (Uu rfl rfl rfl rfl dJ ?_)));obtain⟨h73,h74,a21,e21,H⟩:=H;refine ixg rfl rfl rfl rfl (bG TF.fV TF.eG e21 h73 h74) (fag rfl rfl rfl (TF.rQ _ _) (fag rfl rfl rfl (TF.iF _ _) ?_));obtain⟨s20,h75,H⟩:=H;exact ldg rfl rfl rfl (aJ TF.dN h75) (Uu rfl rfl rfl rfl rW (pf rfl rfl (aC (aT fun a ha=>⟨⟨(decide (s20≠⟨#[57,49,48]⟩)),ha.weaken cs,H⟩,rfl⟩))))
   ·replace H:=H.2 hb;exact bW (aH (aH (aZ (nc zz (aB (aA (ag rfl (aC (nc (kp 2 rfl zz) (aW (aG (res1 rfl rfl) ⟨_,rfl,_,rfl,H⟩)))))))))))
def nJ (K:Bool->World->Prop) (w2:World) (p1:Addr) (p2:Addr) (b2:Bool):Prop:=
 (b2=true->(K false w2))/\(b2=false->(∃I1:Nat->Int->World->Prop,(∃k1,I1 k1 0 w2)/\∀k1 (x1:Int) (w3:World),I1 k1 x1 w3->(∃A5 n5 c5,w3.cell? (p1.add 0)=some (.slice A5 n5 c5)/\(x1<(n5:Int)->(∃A6 n6 c6,w3.cell? (p1.add 0)=some (.slice A6 n6 c6)/\0<=x1/\x1<(n6:Int)/\∃a1,A6=some a1/\∃x2,∃s5:ByteArray,bC w3 (a1.add (x1.toNat*2)) [.int .i64 x2,.string s5]/\∃A7 n7 c7,w3.cell? (p2.add 0)=some (.slice A7 n7 c7)/\0<=x1/\x1<(n7:Int)/\∃a2,A7=some a2/\∃x3,∃s6:ByteArray,bC w3 (a2.add (x1.toNat*2)) [.int .i64 x3,.string s6]/\∀w4,aP w3 w4->((¬(x2=x3/\s5=s6)->(K false w4))/\(¬(¬(x2=x3/\s5=s6))->(∃k2,k2<k1/\I1 k2 (IntKind.wrap .i64 (x1+1)) w4)))))/\(¬(x1<(n5:Int))->(K true w3)))))
def Fp (A1:Option Addr) (n1 c1:Nat) (s1:ByteArray) (A2:Option Addr) (n2 c2:Nat) (s2:ByteArray) (K:Bool->World->Prop) (w:World):Prop:=
 ∀(p1:Addr) (w1:World),New w (.cells #[.slice A1 n1 c1,.string s1] T.Uy) p1 w1->(∀(p2:Addr) (w2:World),New w1 (.cells #[.slice A2 n2 c2,.string s2] T.Uy) p2 w2->(∃A3 n3 c3,w2.cell? (p1.add 0)=some (.slice A3 n3 c3)/\∃A4 n4 c4,w2.cell? (p2.add 0)=some (.slice A4 n4 c4)/\((n3:Int)≠(n4:Int)->((nJ K w2 p1 p2) true))/\(¬((n3:Int)≠(n4:Int))->(∃s3:ByteArray,w2.cell? (p1.add 1)=some (.string s3)/\∃s4:ByteArray,w2.cell? (p2.add 1)=some (.string s4)/\(nJ K w2 p1 p2) (decide (s3≠s4))))))
theorem Vj (A1:Option Addr) (n1 c1:Nat) (s1:ByteArray) (A2:Option Addr) (n2 c2:Nat) (s2:ByteArray) (K:Bool->World->Prop) (w:World) (H:Fp A1 n1 c1 s1 A2 n2 c2 s2 K w):Calls P F.qZ #[.agg #[.slice A1 n1 c1,.string s1],.agg #[.slice A2 n2 c2,.string s2]] w (aS fun v w'=>∃b1,v=(.bool b1)/\K b1 w'):=by
 unfold Fp at H;refine aY (P:=P) Tryz.func40 rfl [(0,.agg #[.slice A1 n1 c1,.string s1]),(1,.agg #[.slice A2 n2 c2,.string s2])] 38 rfl rfl (aa rfl (aa rfl az)) (aB (aA (fM (f:=(fun p=> .pointer (some p))) rfl rfl (aF rfl) (fun a ha=>tN (ha.ev rfl) uD) ?_)));intro p1 w1 hN;replace H:=H _ _ hN;refine fM (f:=(fun p=> .pointer (some p))) rfl rfl (aF rfl) (fun a ha=>tN (ha.ev rfl) uD) ?_;intro p2 w2 hN;replace H:=H _ _ hN;refine ag rfl (aC (nc (y2 2 3 rfl) (aB ?_)));refine bK (fun a=>∃b2,Ok 38 [(2,.pointer (some p1)),(3,.pointer (some p2)),(19,.bool b2)] a/\nJ K w2 p1 p2 b2) ?_ ?_
 ·rintro a ⟨b2,ha,H⟩;unfold nJ at H;refine cu ha ?_;refine dG rfl (fun hb=> ?_) (fun hb=> ?_)
  ·replace H:=H.1 hb;exact aB (aA (ag rfl (aC (nc (kp 4 rfl zz) (aW (aI (aG (res1 rfl rfl) ⟨_,rfl,_,rfl,H⟩)))))))
  ·replace H:=H.2 hb;refine aN (nc (y2 2 3 rfl) (aB (aB (aA (ag rfl (aC (nc (y3 2 3 5 rfl) (aV ?_))))))));obtain⟨I1,⟨k1,hi⟩,H⟩:=H;refine dM (fun k1 a w'=>∃x1,Ok 38 [(2,.pointer (some p1)),(3,.pointer (some p2)),(5,.int .i64 x1)] a/\I1 k1 x1 w') (fun a ha=>⟨k1,0,ha.weaken cs,hi⟩) ?_;rintro k1 a w3 ⟨x1,ha,hI⟩;replace H:=H k1 x1 w3 hI;refine cu ha ?_;refine aB (aB (aA (mv rfl (fa rfl (TF.xU _ _) ?_))));obtain⟨A5,n5,c5,h7,H⟩:=H;refine ld rfl (aJ TF.kJ h7) (sv rfl rfl (xb rfl (fun _=>bD TF.qW)) (bo rfl rfl fO (aC (nc (y4 2 3 5 24 rfl) ?_))));refine aK rfl (fun hb=> ?_) (fun hb=> ?_)
   ·replace H:=H.1 hb;refine aN (nc (y3 2 3 5 rfl) (aB (aV (aB ?_))));refine dW follows [0,1,2,3,4,5,6,7,8,9,10] [1,4,6,9] 11 rfl rfl (by kernel_rfl) (fun _ _ d _ _ h=>by cases d<;>exact h) (fun cm W D=> ?_);refine Nw 0 cm rfl rfl (TF.xU _ _) D W fun _ D W=> ?_;obtain⟨A6,n6,c6,h8,H⟩:=H;refine vl 1 cm rfl rfl (fun hw=>(aJ TF.kJ ((hw.cell _).trans h8))) D W fun _ D W=>(lU 2 cm rfl rfl D W fun _ D W=> ?_);obtain⟨h9,h10,a1,e1,H⟩:=H;refine Vu 3 cm rfl rfl rfl (bG TF.rH TF.qK e1 h9 h10) D W fun _ D W=> ?_;obtain⟨x2,s5,h11,H⟩:=H;refine vl 4 cm rfl rfl (fun hw=>(gG (vs:=[.int .i64 x2,.string s5]) TF.Yj TF.qK (hw.cells h11))) D W fun _ D W=>(Nw 5 cm rfl rfl (TF.xU _ _) D W fun _ D W=> ?_);obtain⟨A7,n7,c7,h12,H⟩:=H;refine vl 6 cm rfl rfl (fun hw=>(aJ TF.kJ ((hw.cell _).trans h12))) D W fun _ D W=>(lU 7 cm rfl rfl D W fun _ D W=> ?_);obtain⟨h13,h14,a2,e2,H⟩:=H;refine Vu 8 cm rfl rfl rfl (bG TF.rH TF.qK e2 h13 h14) D W fun _ D W=> ?_;obtain⟨x3,s6,h15,H⟩:=H;refine vl 9 cm rfl rfl (fun hw=>(gG (vs:=[.int .i64 x3,.string s6]) TF.Yj TF.qK (hw.cells h15))) D W fun _ D W=>(Ji 10 cm rfl rfl rfl (fun w' a ha=>dK (ha.ev rfl) (ha.ev rfl) (Zh (TF.aDa x2 s5 x3 s6) rfl TF.aCy)) D fun _ D=>(dU (by kernel_rfl) D ?_));intro w4 D;replace H:=H _ D;clear D cm;refine nc (y4 2 3 5 37 rfl) ?_;refine aK rfl (fun hb=> ?_) (fun hb=> ?_)
    ·replace H:=H.1 hb;exact aB (aA (ag rfl (aC (nc (kp 4 rfl zz) (aW (bF (aI (aI (bF (aI (aG (res1 rfl rfl) ⟨_,rfl,_,rfl,H⟩)))))))))))
    ·replace H:=H.2 hb;refine aN (bQ (nc (y3 2 3 5 rfl) (aA (mv rfl (bo rfl rfl dJ (ag rfl (aC ?_)))))));obtain⟨k2,hk,H⟩:=H;exact aT fun a ha=>⟨k2,hk,IntKind.wrap .i64 (x1+1),ha.weaken cs,H⟩
   ·replace H:=H.2 hb;exact bW (aH (aH (aZ (nc zz (aB (aA (ag rfl (aC (nc (kp 4 rfl zz) (aW (aG (res1 rfl rfl) ⟨_,rfl,_,rfl,H⟩)))))))))))
 ·refine aA (fa rfl (TF.xU _ _) ?_);obtain⟨A3,n3,c3,h3,H⟩:=H;refine ld rfl (aJ TF.kJ h3) (sv rfl rfl (xb rfl (fun _=>bD TF.qW)) (fa rfl (TF.xU _ _) ?_));obtain⟨A4,n4,c4,h4,H⟩:=H;refine ld rfl (aJ TF.kJ h4) (sv rfl rfl (xb rfl (fun _=>bD TF.qW)) (bo rfl rfl zC ?_));rcases Classical.em ((n3:Int)≠(n4:Int)) with hb|hb
  ·replace H:=H.1 hb;exact sv rfl rfl (xt rfl hb) (sk rfl rfl rfl rfl (sk rfl rfl rfl rfl (sk rfl rfl rfl rfl (sk rfl rfl rfl rfl (sk rfl rfl rfl rfl (pt rfl rfl (aC (aT fun a ha=>⟨⟨true,ha.weaken cs,H⟩,rfl⟩))))))))
  ·replace H:=H.2 hb;refine sv rfl rfl (xf rfl hb) (fag rfl rfl rfl (TF.Wu _ _) ?_);obtain⟨s3,h5,H⟩:=H;refine ldg rfl rfl rfl (aJ TF.dN h5) (fag rfl rfl rfl (TF.Wu _ _) ?_);obtain⟨s4,h6,H⟩:=H;exact ldg rfl rfl rfl (aJ TF.dN h6) (Uu rfl rfl rfl rfl rW (pf rfl rfl (aC (aT fun a ha=>⟨⟨(decide (s3≠s4)),ha.weaken cs,H⟩,rfl⟩))))
def kM (K:Bool->World->Prop) (b3:Bool) (w4:World):Prop:=
 K b3 w4
def yV (x1:Int) (A1:Option Addr) (n1 c1:Nat) (s1:ByteArray) (x2:Int) (A2:Option Addr) (n2 c2:Nat) (s2:ByteArray) (K:Bool->World->Prop) (w:World):Prop:=
 ∀(p1:Addr) (w1:World),New w (.cells #[.int .i64 x1,.slice A1 n1 c1,.string s1] T.Qe) p1 w1->(∀(p2:Addr) (w2:World),New w1 (.cells #[.int .i64 x2,.slice A2 n2 c2,.string s2] T.Qe) p2 w2->(∃x3,w2.cell? (p1.add 0)=some (.int .i64 x3)/\∃x4,w2.cell? (p2.add 0)=some (.int .i64 x4)/\(x3=x4->(∃A3 n3 c3,∃s3:ByteArray,bC w2 (p1.add 1) [.slice A3 n3 c3,.string s3]/\∃A4 n4 c4,∃s4:ByteArray,bC w2 (p2.add 1) [.slice A4 n4 c4,.string s4]/\Calls P F.qZ #[.agg #[.slice A3 n3 c3,.string s3],.agg #[.slice A4 n4 c4,.string s4]] w2 (aS fun v1 w3=>∃b2,v1=(.bool b2)/\(kM K) b2 w3)))/\(¬(x3=x4)->((kM K) false w2))))
theorem Pj (x1:Int) (A1:Option Addr) (n1 c1:Nat) (s1:ByteArray) (x2:Int) (A2:Option Addr) (n2 c2:Nat) (s2:ByteArray) (K:Bool->World->Prop) (w:World) (H:yV x1 A1 n1 c1 s1 x2 A2 n2 c2 s2 K w):Calls P F.qU #[.agg #[.int .i64 x1,.slice A1 n1 c1,.string s1],.agg #[.int .i64 x2,.slice A2 n2 c2,.string s2]] w (aS fun v w'=>∃b1,v=(.bool b1)/\K b1 w'):=by
 unfold yV at H;refine aY (P:=P) Tryz.func49 rfl [(0,.agg #[.int .i64 x1,.slice A1 n1 c1,.string s1]),(1,.agg #[.int .i64 x2,.slice A2 n2 c2,.string s2])] 17 rfl rfl (aa rfl (aa rfl az)) (aB (aA (fM (f:=(fun p=> .pointer (some p))) rfl rfl (aF rfl) (fun a ha=>tN (ha.ev rfl) uD) ?_)));intro p1 w1 hN;replace H:=H _ _ hN;refine fM (f:=(fun p=> .pointer (some p))) rfl rfl (aF rfl) (fun a ha=>tN (ha.ev rfl) uD) ?_;intro p2 w2 hN;replace H:=H _ _ hN;refine ag rfl (aC (nc (y2 2 3 rfl) ?_));refine dI (fun a w=>∃b3,Ok 17 [(4,.bool b3)] a/\kM K b3 w) ?_ ?_
 ·rintro a w4 ⟨b3,ha,H⟩;unfold kM at H;refine cu ha ?_;exact aW (aG (res1 rfl rfl) ⟨_,rfl,_,rfl,H⟩)
 ·refine aA (fa rfl (TF.Di _ _) ?_);obtain⟨x3,h3,H⟩:=H;refine ld rfl (aJ TF.kL h3) (fa rfl (TF.Di _ _) ?_);obtain⟨x4,h4,H⟩:=H;refine ld rfl (aJ TF.kL h4) (bo rfl rfl nN ?_);rcases Classical.em (x3=x4) with hb|hb
  ·replace H:=H.1 hb;refine sv rfl rfl (xt rfl hb) (fag rfl rfl rfl (TF.Wh _ _) ?_);obtain⟨A3,n3,c3,s3,h5,H⟩:=H;refine ldg rfl rfl rfl (gG (vs:=[.slice A3 n3 c3,.string s3]) TF.aAb TF.Yx h5) (fag rfl rfl rfl (TF.Wh _ _) ?_);obtain⟨A4,n4,c4,s4,h6,H⟩:=H;refine ldg rfl rfl rfl (gG (vs:=[.slice A4 n4 c4,.string s4]) TF.aAb TF.Yx h6) (uU rfl rfl (cZ rfl rfl rfl) (xc rfl rfl FF.wU) H ?_);rintro _ w3 ⟨b2,rfl,H⟩;exact pt rfl rfl (ag rfl (aC (aT fun a ha=>⟨b2,ha.weaken cs,H⟩)))
  ·replace H:=H.2 hb;exact sv rfl rfl (xf rfl hb) (sk rfl rfl rfl rfl (sk rfl rfl rfl rfl (sk rfl rfl rfl rfl (sk rfl rfl rfl rfl (sk rfl rfl rfl rfl (pf rfl rfl (ag rfl (aC (aT fun a ha=>⟨false,ha.weaken cs,H⟩)))))))))
def yK (A1:Option Addr) (n1 c1:Nat) (A2:Option Addr) (n2 c2:Nat) (K:Bool->World->Prop) (w:World):Prop:=
 ((n1:Int)≠(n2:Int)->(K false w))/\(¬((n1:Int)≠(n2:Int))->(∃I1:Nat->Int->World->Prop,(∃k1,I1 k1 0 w)/\∀k1 (x1:Int) (w1:World),I1 k1 x1 w1->((x1<(n1:Int)->(0<=x1/\x1<(n1:Int)/\∃a1,A1=some a1/\∃x2,∃A3 n3 c3,∃s1:ByteArray,bC w1 (a1.add (x1.toNat*3)) [.int .i64 x2,.slice A3 n3 c3,.string s1]/\0<=x1/\x1<(n2:Int)/\∃a2,A2=some a2/\∃x3,∃A4 n4 c4,∃s2:ByteArray,bC w1 (a2.add (x1.toNat*3)) [.int .i64 x3,.slice A4 n4 c4,.string s2]/\∀w3,aP w1 w3->Calls P F.qU #[.agg #[.int .i64 x2,.slice A3 n3 c3,.string s1],.agg #[.int .i64 x3,.slice A4 n4 c4,.string s2]] w3 (aS fun v1 w2=>∃b2,v1=(.bool b2)/\∀w5,aP w2 w5->(((!b2)=true->(K false w5))/\((!b2)=false->(∃k2,k2<k1/\I1 k2 (IntKind.wrap .i64 (x1+1)) w5))))))/\(¬(x1<(n1:Int))->(K true w1)))))
theorem Og (A1:Option Addr) (n1 c1:Nat) (A2:Option Addr) (n2 c2:Nat) (K:Bool->World->Prop) (w:World) (H:yK A1 n1 c1 A2 n2 c2 K w):Calls P F.pU #[.slice A1 n1 c1,.slice A2 n2 c2] w (aS fun v w'=>∃b1,v=(.bool b1)/\K b1 w'):=by
 unfold yK at H;refine aY (P:=P) Tryz.func52 rfl [(0,.slice A1 n1 c1),(1,.slice A2 n2 c2)] 27 rfl rfl (aa rfl (aa rfl az)) (aB (aA (ag rfl (aC (nc (y2 0 1 rfl) (aB (aB (aA (mv rfl (sv rfl rfl (xb rfl (fun _=>bD TF.sO)) (mv rfl (sv rfl rfl (xb rfl (fun _=>bD TF.sO)) (bo rfl rfl zC (aC (nc (y3 0 1 10 rfl) ?_)))))))))))))));refine aK rfl (fun hb=> ?_) (fun hb=> ?_)
 ·replace H:=H.1 hb;exact aB (aA (ag rfl (aC (nc (kp 4 rfl zz) (aW (aI (aG (res1 rfl rfl) ⟨_,rfl,_,rfl,H⟩)))))))
 ·replace H:=H.2 hb;refine aN (nc (y2 0 1 rfl) (aB (aB (aA (ag rfl (aC (nc (y3 0 1 5 rfl) (aV ?_))))))));obtain⟨I1,⟨k1,hi⟩,H⟩:=H;refine dM (fun k1 a w'=>∃x1,Ok 27 [(0,.slice A1 n1 c1),(1,.slice A2 n2 c2),(5,.int .i64 x1)] a/\I1 k1 x1 w') (fun a ha=>⟨k1,0,ha.weaken cs,hi⟩) ?_;rintro k1 a w1 ⟨x1,ha,hI⟩;replace H:=H k1 x1 w1 hI;refine cu ha ?_;refine aB (aB (aA (mv rfl (mv rfl (sv rfl rfl (xb rfl (fun _=>bD TF.sO)) (bo rfl rfl fO (aC (nc (y4 0 1 5 14 rfl) ?_))))))));refine aK rfl (fun hb=> ?_) (fun hb=> ?_)
  ·replace H:=H.1 hb;refine aN (nc (y3 0 1 5 rfl) (aB (aV (aB ?_))));refine dW follows [0,1,2,3,4,5,6,7,9] [3,7] 10 rfl rfl (by kernel_rfl) (fun _ _ d _ _ h=>by cases d<;>exact h) (fun cm W D=> ?_);refine lU 0 cm rfl rfl D W fun _ D W=>(lU 1 cm rfl rfl D W fun _ D W=> ?_);obtain⟨h1,h2,a1,e1,H⟩:=H;refine Vu 2 cm rfl rfl rfl (bG TF.tZ TF.sF e1 h1 h2) D W fun _ D W=> ?_;obtain⟨x2,A3,n3,c3,s1,h3,H⟩:=H;refine vl 3 cm rfl rfl (fun hw=>(gG (vs:=[.int .i64 x2,.slice A3 n3 c3,.string s1]) TF.Zx TF.sF (hw.cells h3))) D W fun _ D W=>(lU 4 cm rfl rfl D W fun _ D W=>(lU 5 cm rfl rfl D W fun _ D W=> ?_));obtain⟨h4,h5,a2,e2,H⟩:=H;refine Vu 6 cm rfl rfl rfl (bG TF.tZ TF.sF e2 h4 h5) D W fun _ D W=> ?_;obtain⟨x3,A4,n4,c4,s2,h6,H⟩:=H;refine vl 7 cm rfl rfl (fun hw=>(gG (vs:=[.int .i64 x3,.slice A4 n4 c4,.string s2]) TF.Zx TF.sF (hw.cells h6))) D W fun _ D W=>(ar 8 ?_);replace H:=H _ D;refine iZ rfl rfl rfl (aF rfl) (xc rfl rfl FF.Fj) rfl false (by kernel_rfl) H ?_;rintro _ w2 ⟨b2,rfl,H⟩ _ D;refine⟨fun h=>(by cases h),?_⟩;refine Ji 9 cm rfl rfl rfl (fun w' a ha=>aCu (ha.ev rfl) Gg) D fun _ D=>(dU (by kernel_rfl) D ?_);intro w5 D;replace H:=H _ D;clear D cm;refine nc (y4 0 1 5 26 rfl) ?_;refine dG rfl (fun hb=> ?_) (fun hb=> ?_)
   ·replace H:=H.1 hb;exact aB (aA (ag rfl (aC (nc (kp 4 rfl zz) (aW (bF (aI (aI (bF (aI (aG (res1 rfl rfl) ⟨_,rfl,_,rfl,H⟩)))))))))))
   ·replace H:=H.2 hb;refine aN (bQ (nc (y3 0 1 5 rfl) (aA (mv rfl (bo rfl rfl dJ (ag rfl (aC ?_)))))));obtain⟨k2,hk,H⟩:=H;exact aT fun a ha=>⟨k2,hk,IntKind.wrap .i64 (x1+1),ha.weaken cs,H⟩
  ·replace H:=H.2 hb;exact bW (aH (aH (aZ (nc zz (aB (aA (ag rfl (aC (nc (kp 4 rfl zz) (aW (aG (res1 rfl rfl) ⟨_,rfl,_,rfl,H⟩)))))))))))
def iV (K:Bool->World->Prop) (b3:Bool) (w7:World):Prop:=
 K b3 w7
def yR (A1:Option Addr) (n1 c1:Nat) (K:Bool->World->Prop) (w:World):Prop:=
 ∀(p1:Addr) (w1:World),New w (.cells #[.slice none 0 0,.slice none 0 0,.slice none 0 0,.slice none 0 0,.slice none 0 0,.slice none 0 0,.slice none 0 0,.slice none 0 0,.slice none 0 0,.slice none 0 0] T.fZ) p1 w1->(Calls P F.oL #[.pointer (some p1),.slice A1 n1 c1] w1 (aS fun v1 w2=>∃A2 n2 c2,v1=(.slice A2 n2 c2)/\Calls P F.Xt #[.slice A2 n2 c2] w2 (aS fun v2 w3=>∃s1:ByteArray,∃x1,v2=(.tuple #[.string s1,.int .i64 x1])/\Calls P F.wE #[.slice A1 n1 c1] w3 (aS fun v3 w4=>∃s2:ByteArray,∃x2,v3=(.tuple #[.string s2,.int .i64 x2])/\(s1=s2->(Calls P F.zK #[.int .i64 x1] w4 (aS fun v4 w5=>∃x3,v4=(.int .i64 x3)/\(x3=x2->(Calls P F.kN #[.pointer (some p1)] w5 (aS fun v5 w6=>∃b2,v5=(.bool b2)/\(iV K) b2 w6)))/\(¬(x3=x2)->((iV K) false w5)))))/\(¬(s1=s2)->((iV K) false w4))))))
theorem Ob (A1:Option Addr) (n1 c1:Nat) (K:Bool->World->Prop) (w:World) (H:yR A1 n1 c1 K w):Calls P F.Dq #[.slice A1 n1 c1] w (aS fun v w'=>∃b1,v=(.bool b1)/\K b1 w'):=by
 unfold yR at H;refine aY (P:=P) Tryz.func3 rfl [(0,.slice A1 n1 c1)] 35 rfl rfl (fun p hp=>by rcases List.mem_singleton.1 hp with rfl;rfl) (aB (aA (ag rfl (aC (nc (kp 0 rfl zz) (aB (aA (sv rfl rfl (xp (.agg #[.slice none 0 0,.slice none 0 0,.slice none 0 0,.slice none 0 0,.slice none 0 0,.slice none 0 0,.slice none 0 0,.slice none 0 0,.slice none 0 0,.slice none 0 0]) rfl) (fM (f:=(fun p=> .pointer (some p))) rfl rfl (aF rfl) (fun a ha=>tN (ha.ev rfl) uD) ?_)))))))));intro p1 w1 hN;replace H:=H _ _ hN;refine ag rfl (aC (nc (y2 0 3 rfl) (aB (aA (mv rfl (mv rfl (sc rfl rfl FF.Cb H ?_)))))));rintro _ w2 ⟨A2,n2,c2,rfl,H⟩;refine sc rfl rfl FF.Yp H ?_;rintro _ w3 ⟨s1,x1,rfl,H⟩;refine mv rfl (sv rfl rfl (xe rfl rfl) (sv rfl rfl (xe rfl rfl) (ag rfl (ag rfl (aC (nc (y4 0 3 4 5 rfl) (aB (aA (mv rfl (sc rfl rfl FF.Jg H ?_))))))))));rintro _ w4 ⟨s2,x2,rfl,H⟩;refine mv rfl (sv rfl rfl (xe rfl rfl) (sv rfl rfl (xe rfl rfl) (ag rfl (ag rfl (aC (nc (y5 3 4 5 6 7 rfl) ?_))))));refine dI (fun a w=>∃b3,Ok 35 [(2,.bool b3)] a/\iV K b3 w) ?_ ?_
 ·rintro a w7 ⟨b3,ha,H⟩;unfold iV at H;refine cu ha ?_;exact aW (aG (res1 rfl rfl) ⟨_,rfl,_,rfl,H⟩)
 ·refine aA (mv rfl (mv rfl (bo rfl rfl Bq ?_)));rcases Classical.em (s1=s2) with hb|hb
  ·replace H:=H.1 hb;refine sv rfl rfl (xt rfl hb) (Kw rfl rfl rfl (uU rfl rfl (cZ rfl rfl rfl) (xc rfl rfl FF.Na) H ?_));rintro _ w5 ⟨x3,rfl,H⟩;refine Kw rfl rfl rfl (Uu rfl rfl rfl rfl nN (pt rfl rfl ?_));rcases Classical.em (x3=x2) with hb|hb
   ·replace H:=H.1 hb;refine sv rfl rfl (xt rfl hb) (Kw rfl rfl rfl (uU rfl rfl (cZ rfl rfl rfl) (xc rfl rfl FF.Be) H ?_));rintro _ w6 ⟨b2,rfl,H⟩;exact pt rfl rfl (ag rfl (aC (aT fun a ha=>⟨b2,ha.weaken cs,H⟩)))
   ·replace H:=H.2 hb;exact sv rfl rfl (xf rfl hb) (sk rfl rfl rfl rfl (sk rfl rfl rfl rfl (pf rfl rfl (ag rfl (aC (aT fun a ha=>⟨false,ha.weaken cs,H⟩))))))
  ·replace H:=H.2 hb;exact sv rfl rfl (xf rfl hb) (sk rfl rfl rfl rfl (sk rfl rfl rfl rfl (sk rfl rfl rfl rfl (sk rfl rfl rfl rfl (pf rfl rfl (mv rfl (sk rfl rfl rfl rfl (sk rfl rfl rfl rfl (pf rfl rfl (ag rfl (aC (aT fun a ha=>⟨false,ha.weaken cs,H⟩))))))))))))
abbrev aIu:=Int×ByteArray
abbrev Con:=Int×List aIu×ByteArray
def Yn:Cod aIu:=⟨2,fun _ vs x=>vs=[.int .i64 x.1,.string x.2],fun _ h=>h⟩
def aG2:Cod Con:=⟨3,fun w vs x=>∃A n c,vs=[.int .i64 x.1,.slice A n c,.string x.2.2]/\Sl Yn w A n x.2.1,fun k ⟨A,n,c,hv,h⟩=>⟨A,n,c,hv,h.keep k⟩⟩
section
variable {w0 w w':World} {p o:Addr} {A A':Option Addr} {n n' c c' i:Nat}
theorem Sl.str {xs:List ByteArray} {x:ByteArray} (h:Sl cStr w A n xs) (hx:xs[i]? =some x):∃a,A=some a/\w.cell? (a.add (i*1))=some (.string x):=by
 obtain⟨a,vs,ha,_,hc,hr⟩:=h.2 i x hx
 have hv:vs=[.string x]:=hr
 subst hv
 exact⟨a,ha,by have:=hc 0 _ rfl;rwa [Addr.add_zero] at this⟩
theorem Sl.dl {xs:List (ByteArray×ByteArray)} {x:ByteArray×ByteArray} (h:Sl Zi w A n xs) (hx:xs[i]? =some x):∃a,A=some a/\bC w (a.add (i*2)) [.string x.1,.string x.2]:=by
 obtain⟨a,vs,ha,_,hc,hr⟩:=h.2 i x hx
 have hv:vs=[.string x.1,.string x.2]:=hr
 subst hv
 exact⟨a,ha,hc⟩
theorem Sl.pr {xs:List PT} {x:PT} (h:Sl zT w A n xs) (hx:xs[i]? =some x):∃a,A=some a/\bC w (a.add (i*4)) [.string x.1.1,.string x.1.2,.string x.2.1,.string x.2.2]:=by
 obtain⟨a,vs,ha,_,hc,hr⟩:=h.2 i x hx
 have hv:vs=[.string x.1.1,.string x.1.2,.string x.2.1,.string x.2.2]:=hr
 subst hv
 exact⟨a,ha,hc⟩
theorem Sl.mn {xs:List aIu} {x:aIu} (h:Sl Yn w A n xs) (hx:xs[i]? =some x):∃a,A=some a/\bC w (a.add (i*2)) [.int .i64 x.1,.string x.2]:=by
 obtain⟨a,vs,ha,_,hc,hr⟩:=h.2 i x hx
 have hv:vs=[.int .i64 x.1,.string x.2]:=hr
 subst hv
 exact⟨a,ha,hc⟩
theorem Sl.cn {xs:List Con} {x:Con} (h:Sl aG2 w A n xs) (hx:xs[i]? =some x):∃a B m d,A=some a/\bC w (a.add (i*3)) [.int .i64 x.1,.slice B m d,.string x.2.2]/\Sl Yn w B m x.2.1:=by
 obtain⟨a,vs,ha,_,hc,B,m,d,hv,hs⟩:=h.2 i x hx
 subst hv
 exact⟨a,B,m,d,ha,hc,hs⟩
theorem bC.fst {a:Addr} {u:Value} {us:List Value} (h:bC w a (u::us)):w.cell? (a.add 0)=some u:=h 0 u rfl
theorem aGk {α:Type} {xs ys:List α} {j:Nat} (h:xs.take j=ys.take j) (hx:j<xs.length) (hy:j<ys.length):xs.take (j+1)=ys.take (j+1)↔xs[j]=ys[j]:=by
 rw[List.take_succ (l:=xs),List.take_succ (l:=ys),h,List.getElem?_eq_getElem hx,List.getElem?_eq_getElem hy,Option.toList_some,Option.toList_some]
 exact⟨fun e=>by have:=List.append_cancel_left e;exact(List.cons.inj this).1,fun e=>by rw[e]⟩
theorem aGm {xs ys:List aIu} {s s':ByteArray} (h:Sl Yn w A n xs) (h':Sl Yn w A' n' ys) (hn:Sn n):Calls P F.qZ #[.agg #[.slice A n c,.string s],.agg #[.slice A' n' c',.string s']] w (aS fun v w'=>Ext w w'/\∃b,v= .bool b/\(b=true↔xs=ys/\s=s')):=by
 refine aS.mono (Vj A n c s A' n' c' s' (fun b w'=>Ext w w'/\(b=true↔xs=ys/\s=s')) w ?_) (by rintro _ w' ⟨b,rfl,h,h2⟩;exact⟨h,b,rfl,h2⟩)
 intro p1 w1 hN1 p2 w2 hN2
 have E2:=(Ext.bI hN1).trans (Ext.bI hN2)
 have m1:=(Lc.new hN1 (Ext.refl w)).ext (Ext.bI hN2)
 have m2:=Lc.new hN2 (Ext.bI hN1)
 have hl:=h.1
 have hl':=h'.1
 unfold Sn at hn
 have no:∀w3,Ext w w3->¬(xs=ys/\s=s')->Ext w w3/\(false=true↔xs=ys/\s=s'):=fun w3 E h=>⟨E,fun h=>(by cases h),fun h2=>absurd h2 h⟩
 refine⟨A,n,c,m1.1.cell (i:=0) rfl,A',n',c',m2.1.cell (i:=0) rfl,fun hne=>⟨fun _=>no _ E2 fun h=>hne (by rw[<-hl,<-hl',h.1]),fun h=>by cases h⟩,fun he=>⟨s,m1.1.cell (i:=1) rfl,s',m2.1.cell (i:=1) rfl,?_⟩⟩
 have hnn:n=n':=by omega
 subst hnn
 refine⟨fun hd=>no _ E2 fun h=>of_decide_eq_true hd h.2,fun hd=> ?_⟩
 have hss:s=s':=Classical.byContradiction fun h=>of_decide_eq_false hd h
 refine⟨fun q i w3=>∃j:Nat,i=j/\q=n-j/\j<=n/\Ext w2 w3/\xs.take j=ys.take j,⟨n,0,rfl,rfl,by omega,Ext.refl _,rfl⟩,?_⟩
 rintro q i w3 ⟨j,rfl,rfl,hj,E3,ht⟩
 have m1:=m1.ext E3
 have m2:=m2.ext E3
 have E03:=E2.trans E3
 refine⟨A,n,c,m1.1.cell (i:=0) rfl,fun hlt=> ?_,fun hge=> ?_⟩
 ·have hjx:j<xs.length:=by omega
  have hjy:j<ys.length:=by omega
  obtain⟨a,ha,hc⟩:=(h.ext E03).mn (List.getElem?_eq_getElem hjx)
  obtain⟨b,hb,hc'⟩:=(h'.ext E03).mn (List.getElem?_eq_getElem hjy)
  have hte:=aGk ht hjx hjy
  refine⟨A,n,c,m1.1.cell (i:=0) rfl,by omega,hlt,a,ha,_,_,hc,A',n,c',m2.1.cell (i:=0) rfl,by omega,hlt,b,hb,_,_,hc',fun w4 D4=>⟨fun hne=>no _ (E03.drawn D4) fun hh=>hne ?_,fun he=> ?_⟩⟩
  ·have:=hte.1 (by rw[hh.1])
   exact⟨by rw[this],by rw[this]⟩
  ·have he:=Classical.byContradiction he
   exact⟨n-(j+1),by omega,j+1,by rw[wrap_i64 (by omega) (by omega)];omega,rfl,by omega,E3.drawn D4,hte.2 (Prod.ext he.1 he.2)⟩
 ·rw[List.take_of_length_le (by omega),List.take_of_length_le (by omega)] at ht
  exact⟨E03,fun _=>⟨ht,hss⟩,fun _=>rfl⟩
theorem aE7 {x y:Con} {B B':Option Addr} {m d m' d':Nat} (h:Sl Yn w B m x.2.1) (h':Sl Yn w B' m' y.2.1) (hm:Sn m):Calls P F.qU #[.agg #[.int .i64 x.1,.slice B m d,.string x.2.2],.agg #[.int .i64 y.1,.slice B' m' d',.string y.2.2]] w (aS fun v w'=>Ext w w'/\∃b,v= .bool b/\(b=true↔x=y)):=by
 refine aS.mono (Pj x.1 B m d x.2.2 y.1 B' m' d' y.2.2 (fun b w'=>Ext w w'/\(b=true↔x=y)) w ?_) (by rintro _ w' ⟨b,rfl,h,h2⟩;exact⟨h,b,rfl,h2⟩)
 intro p1 w1 hN1 p2 w2 hN2
 have E2:=(Ext.bI hN1).trans (Ext.bI hN2)
 have m1:=(Lc.new hN1 (Ext.refl w)).ext (Ext.bI hN2)
 have m2:=Lc.new hN2 (Ext.bI hN1)
 have tl:∀{p:Addr} {u v z:Value},bC w2 p [u,v,z]->bC w2 (p.add 1) [v,z]:=fun h i u hu=>by
  rw[Addr.add_add]
  rcases i with _|_|i
  ·exact h 1 u hu
  ·exact h 2 u hu
  ·cases hu
 refine⟨x.1,m1.1.cell (i:=0) rfl,y.1,m2.1.cell (i:=0) rfl,fun he=>⟨B,m,d,_,tl m1.1.cells,B',m',d',_,tl m2.1.cells,aS.mono (aGm (h.ext E2) (h'.ext E2) hm) ?_⟩,fun hne=>⟨E2,fun h=>(by cases h),fun h=>absurd (by rw[h]) hne⟩⟩
 rintro _ w3 ⟨E3,b,rfl,hb⟩
 refine⟨b,rfl,E2.trans E3,?_⟩
 rw[hb]
 refine⟨fun h=>Prod.ext he (Prod.ext h.1 h.2),fun h=>by rw[h];exact⟨rfl,rfl⟩⟩
theorem aEb {xs ys:List Con} (h:Sl aG2 w A n xs) (h':Sl aG2 w A' n' ys) (hn:Sn n) (hm:∀x∈xs,Sn x.2.1.length):Calls P F.pU #[.slice A n c,.slice A' n' c'] w (aS fun v w'=>Ext w w'/\∃b,v= .bool b/\(b=true↔xs=ys)):=by
 refine aS.mono (Og A n c A' n' c' (fun b w'=>Ext w w'/\(b=true↔xs=ys)) w ?_) (by rintro _ w' ⟨b,rfl,h,h2⟩;exact⟨h,b,rfl,h2⟩)
 have hl:=h.1
 have hl':=h'.1
 unfold Sn at hn
 have no:∀w3,Ext w w3->¬(xs=ys)->Ext w w3/\(false=true↔xs=ys):=fun w3 E h=>⟨E,fun h=>(by cases h),fun h2=>absurd h2 h⟩
 refine⟨fun hne=>no _ (Ext.refl w) fun e=>hne (by rw[<-hl,<-hl',e]),fun he=> ?_⟩
 have hnn:n=n':=by omega
 subst hnn
 refine⟨fun q i w3=>∃j:Nat,i=j/\q=n-j/\j<=n/\Ext w w3/\xs.take j=ys.take j,⟨n,0,rfl,rfl,by omega,Ext.refl _,rfl⟩,?_⟩
 rintro q i w3 ⟨j,rfl,rfl,hj,E3,ht⟩
 refine⟨fun hlt=> ?_,fun hge=> ?_⟩
 ·have hjx:j<xs.length:=by omega
  have hjy:j<ys.length:=by omega
  obtain⟨a,B,m,d,ha,hc,hs⟩:=(h.ext E3).cn (List.getElem?_eq_getElem hjx)
  obtain⟨b,B',m',d',hb,hc',hs'⟩:=(h'.ext E3).cn (List.getElem?_eq_getElem hjy)
  have hte:=aGk ht hjx hjy
  have hml:Sn m:=by rw[<-hs.1];exact hm _ (List.getElem_mem hjx)
  refine⟨by omega,hlt,a,ha,_,_,_,_,_,hc,by omega,hlt,b,hb,_,_,_,_,_,hc',fun w4 D4=>aS.mono (aE7 (x:=xs[j]) (y:=ys[j]) (hs.ext (Ext.aO D4)) (hs'.ext (Ext.aO D4)) hml) ?_⟩
  rintro _ w5 ⟨E5,r,rfl,hr⟩
  have E05:=(E3.drawn D4).trans E5
  refine⟨r,rfl,fun w6 D6=>⟨fun hb=>no _ (E05.drawn D6) fun hh=> ?_,fun hb=> ?_⟩⟩
  ·rw[hr.2 (hte.1 (by rw[hh]))] at hb
   cases hb
  ·have hr1:r=true:=by simpa using hb
   exact⟨n-(j+1),by omega,j+1,by rw[wrap_i64 (by omega) (by omega)];omega,rfl,by omega,E05.drawn D6,hte.2 (hr.1 hr1)⟩
 ·rw[List.take_of_length_le (by omega),List.take_of_length_le (by omega)] at ht
  exact⟨E3,fun _=>ht,fun _=>rfl⟩
def Ent {α:Type} (cd:Cod α) (m1 m2:α) (w:World) (u v:Value):Prop:=∃A n c B m d xs,u= .slice A n c/\v= .slice B m d/\n<=c/\n<=1099511627776/\Sl cd w B m xs/\Sl cd w A n (xs++[m1,m2])
theorem Ent.ext {α:Type} {cd:Cod α} {m1 m2:α} {u v:Value} (h:Ent cd m1 m2 w u v) (E:Ext w w'):Ent cd m1 m2 w' u v:=by
 obtain⟨A,n,c,B,m,d,xs,h1,h2,h3,h4,h5,h6⟩:=h
 exact⟨A,n,c,B,m,d,xs,h1,h2,h3,h4,h5.ext E,h6.ext E⟩
def KP (w:World) (p:Addr) (k:Nat) (E:World->Value->Value->Prop):Prop:=∃A n c B d,w.cell? (p.add k)=some (.slice A n c)/\w.cell? (p.add (k+1))=some (.slice B n d)/\n<=1099511627776/\∀i,i<n->∃a u b v,A=some a/\w.cell? (a.add (i*1))=some u/\B=some b/\w.cell? (b.add (i*1))=some v/\E w u v
theorem KP.ext {E:World->Value->Value->Prop} {k:Nat} (h:KP w p k E) (hE:∀w u v w',E w u v->Ext w w'->E w' u v) (e:Ext w w'):KP w' p k E:=by
 obtain⟨A,n,c,B,d,h1,h2,h0,h3⟩:=h
 refine⟨A,n,c,B,d,e.cell h1,e.cell h2,h0,fun i hi=> ?_⟩
 obtain⟨a,u,b,v,ha,hu,hb,hv,hh⟩:=h3 i hi
 exact⟨a,u,b,v,ha,e.cell hu,hb,e.cell hv,hE _ _ _ _ hh e⟩
def aLs:ByteArray:=⟨#[57,48,49]⟩
def aLv:ByteArray:=⟨#[57,48,50]⟩
abbrev EM:=Ent Yn (901,aLs) (902,aLv)
abbrev ET:=Ent cStr ⟨#[57,48,53]⟩ ⟨#[57,48,54]⟩
abbrev EC:World->Value->Value->Prop:=fun w u v=>Ent aG2 (903,[],.empty) (904,[],.empty) w u v/\∀B m d xs,v= .slice B m d->Sl aG2 w B m xs->∀x∈xs,Sn x.2.1.length
abbrev ED:=Ent Zi (⟨#[57,48,55]⟩,.empty) (⟨#[57,48,56]⟩,.empty)
abbrev EP:=Ent zT ((⟨#[57,48,57]⟩,.empty),(.empty,.empty)) ((⟨#[57,49,48]⟩,.empty),(.empty,.empty))
theorem aEg {α:Type} {xs:List α} {a b:α}:(xs++[a,b])[xs.length]? =some a:=by rw[List.getElem?_append_right (Nat.le_refl _),Nat.sub_self];rfl
theorem aE0 {α:Type} {xs:List α} {a b:α}:(xs++[a,b])[xs.length+1]? =some b:=by rw[List.getElem?_append_right (by omega)];simp
theorem inner {α:Type} {xs:List α} {a b:α} {j:Nat} (h:j<xs.length):(xs++[a,b])[j]? =some xs[j]:=by rw[List.getElem?_append_left h,List.getElem?_eq_getElem h]
theorem aH6 (hT:KP w p 2 ET) (hD:KP w p 6 ED) (hP:KP w p 8 EP):Calls P F.nH #[.pointer (some p)] w (aS fun v w'=>v= .bool true/\Ext w w'):=by
 refine aS.mono (Jf p (fun b w'=>b=true/\Ext w w') w ?_) (by rintro _ w' ⟨b,rfl,rfl,h⟩;exact⟨rfl,h⟩)
 obtain⟨TA,Tn,Tc,TB,Td,t1,t2,t0,t3⟩:=hT
 obtain⟨DA,Dn,Dc,DB,Dd,d1,d2,d0,d3⟩:=hD
 obtain⟨PA,Pn,Pc,PB,Pd,p1,p2,p0,p3⟩:=hP
 refine⟨fun q i w1=>∃j:Nat,i=j/\q=Tn-j/\j<=Tn/\Ext w w1,⟨Tn,0,rfl,rfl,by omega,Ext.refl w⟩,?_⟩
 rintro q i w1 ⟨j,rfl,rfl,hj,E1⟩
 refine⟨TA,Tn,Tc,E1.cell t1,fun hlt=> ?_,fun hge=> ?_⟩
 ·obtain⟨a,u,b,v,ha,hu,hb,hv,A,n,c,B,m,d,xs,rfl,rfl,h3,h4,h5,h6⟩:=t3 j (by omega)
  have hl:=h5.1
  have hl6:=h6.1
  rw[List.length_append] at hl6
  simp only[List.length_cons,List.length_nil] at hl6
  refine⟨TB,Tn,Td,E1.cell t2,by omega,hlt,b,hb,B,m,d,E1.cell hv,TA,Tn,Tc,E1.cell t1,by omega,hlt,a,ha,A,n,c,E1.cell hu,?_⟩
  refine⟨fun q i w2=>∃t:Nat,i=t/\q=m-t/\t<=m/\Ext w w2,⟨m,0,rfl,rfl,by omega,E1⟩,?_⟩
  rintro q i w2 ⟨t,rfl,rfl,ht,E2⟩
  refine⟨fun hlt2=> ?_,fun hge2=> ?_⟩
  ·have htl:t<xs.length:=by omega
   obtain⟨a1,ha1,hc1⟩:=(h6.ext E2).str (inner htl)
   obtain⟨a2,ha2,hc2⟩:=(h5.ext E2).str (List.getElem?_eq_getElem htl)
   refine⟨by omega,by omega,a1,ha1,_,hc1,TB,Tn,Td,E2.cell t2,by omega,hlt,b,hb,B,m,d,E2.cell hv,by omega,hlt2,a2,ha2,_,hc2,fun w3 D3=>⟨fun h=>absurd rfl h,fun _=>⟨m-(t+1),by omega,t+1,by rw[wrap_i64 (by omega) (by omega)];omega,rfl,by omega,E2.drawn D3⟩⟩⟩
  ·obtain⟨a1,ha1,hc1⟩:=(h6.ext E2).str aEg
   obtain⟨a2,ha2,hc2⟩:=(h6.ext E2).str aE0
   rw[hl] at hc1 hc2
   have e1:IntKind.wrap .i64 ((m:Int)+1)=((m+1:Nat):Int):=by rw[wrap_i64 (by omega) (by omega)];omega
   refine⟨by omega,by omega,a1,ha1,_,by simpa using hc1,fun h=>absurd rfl h,fun _=> ?_⟩
   rw[e1]
   refine⟨by omega,by omega,a2,ha2,_,by simpa using hc2,fun h=>absurd rfl (of_decide_eq_true h),fun _=>⟨Tn-(j+1),by omega,j+1,by rw[wrap_i64 (by omega) (by omega)];omega,rfl,by omega,E2⟩⟩
 refine⟨fun q i w1=>∃j:Nat,i=j/\q=Dn-j/\j<=Dn/\Ext w w1,⟨Dn,0,rfl,rfl,by omega,E1⟩,?_⟩
 rintro q i w1 ⟨j,rfl,rfl,hj,E1⟩
 refine⟨DA,Dn,Dc,E1.cell d1,fun hlt=> ?_,fun hge=> ?_⟩
 ·obtain⟨a,u,b,v,ha,hu,hb,hv,A,n,c,B,m,d,xs,rfl,rfl,h3,h4,h5,h6⟩:=d3 j (by omega)
  have hl:=h5.1
  have hl6:=h6.1
  rw[List.length_append] at hl6
  simp only[List.length_cons,List.length_nil] at hl6
  refine⟨DB,Dn,Dd,E1.cell d2,by omega,hlt,b,hb,B,m,d,E1.cell hv,DA,Dn,Dc,E1.cell d1,by omega,hlt,a,ha,A,n,c,E1.cell hu,?_⟩
  refine⟨fun q i w2=>∃t:Nat,i=t/\q=m-t/\t<=m/\Ext w w2,⟨m,0,rfl,rfl,by omega,E1⟩,?_⟩
  rintro q i w2 ⟨t,rfl,rfl,ht,E2⟩
  refine⟨fun hlt2=> ?_,fun hge2=> ?_⟩
  ·have htl:t<xs.length:=by omega
   obtain⟨a1,ha1,hc1⟩:=(h6.ext E2).dl (inner htl)
   obtain⟨a2,ha2,hc2⟩:=(h5.ext E2).dl (List.getElem?_eq_getElem htl)
   refine⟨by omega,by omega,a1,ha1,_,_,hc1,DB,Dn,Dd,E2.cell d2,by omega,hlt,b,hb,B,m,d,E2.cell hv,by omega,hlt2,a2,ha2,_,_,hc2,fun w3 D3=>⟨fun h=>absurd ⟨rfl,rfl⟩ h,fun _=>⟨m-(t+1),by omega,t+1,by rw[wrap_i64 (by omega) (by omega)];omega,rfl,by omega,E2.drawn D3⟩⟩⟩
  ·obtain⟨a1,ha1,hc1⟩:=(h6.ext E2).dl aEg
   obtain⟨a2,ha2,hc2⟩:=(h6.ext E2).dl aE0
   rw[hl] at hc1 hc2
   have e1:IntKind.wrap .i64 ((m:Int)+1)=((m+1:Nat):Int):=by rw[wrap_i64 (by omega) (by omega)];omega
   refine⟨by omega,by omega,a1,ha1,_,bC.fst hc1,fun h=>absurd rfl h,fun _=> ?_⟩
   rw[e1]
   refine⟨by omega,by omega,a2,ha2,_,bC.fst hc2,fun h=>absurd rfl (of_decide_eq_true h),fun _=>⟨Dn-(j+1),by omega,j+1,by rw[wrap_i64 (by omega) (by omega)];omega,rfl,by omega,E2⟩⟩
 refine⟨fun q i w1=>∃j:Nat,i=j/\q=Pn-j/\j<=Pn/\Ext w w1,⟨Pn,0,rfl,rfl,by omega,E1⟩,?_⟩
 rintro q i w1 ⟨j,rfl,rfl,hj,E1⟩
 refine⟨PA,Pn,Pc,E1.cell p1,fun hlt=> ?_,fun hge=>⟨rfl,E1⟩⟩
 obtain⟨a,u,b,v,ha,hu,hb,hv,A,n,c,B,m,d,xs,rfl,rfl,h3,h4,h5,h6⟩:=p3 j (by omega)
 have hl:=h5.1
 have hl6:=h6.1
 rw[List.length_append] at hl6
 simp only[List.length_cons,List.length_nil] at hl6
 refine⟨PB,Pn,Pd,E1.cell p2,by omega,hlt,b,hb,B,m,d,E1.cell hv,PA,Pn,Pc,E1.cell p1,by omega,hlt,a,ha,A,n,c,E1.cell hu,?_⟩
 refine⟨fun q i w2=>∃t:Nat,i=t/\q=m-t/\t<=m/\Ext w w2,⟨m,0,rfl,rfl,by omega,E1⟩,?_⟩
 rintro q i w2 ⟨t,rfl,rfl,ht,E2⟩
 refine⟨fun hlt2=> ?_,fun hge2=> ?_⟩
 ·have htl:t<xs.length:=by omega
  obtain⟨a1,ha1,hc1⟩:=(h6.ext E2).pr (inner htl)
  obtain⟨a2,ha2,hc2⟩:=(h5.ext E2).pr (List.getElem?_eq_getElem htl)
  refine⟨by omega,by omega,a1,ha1,_,_,_,_,hc1,PB,Pn,Pd,E2.cell p2,by omega,hlt,b,hb,B,m,d,E2.cell hv,by omega,hlt2,a2,ha2,_,_,_,_,hc2,fun w3 D3=>⟨fun h=>absurd ⟨⟨rfl,rfl⟩,rfl,rfl⟩ h,fun _=>⟨m-(t+1),by omega,t+1,by rw[wrap_i64 (by omega) (by omega)];omega,rfl,by omega,E2.drawn D3⟩⟩⟩
 ·obtain⟨a1,ha1,hc1⟩:=(h6.ext E2).pr aEg
  obtain⟨a2,ha2,hc2⟩:=(h6.ext E2).pr aE0
  rw[hl] at hc1 hc2
  have e1:IntKind.wrap .i64 ((m:Int)+1)=((m+1:Nat):Int):=by rw[wrap_i64 (by omega) (by omega)];omega
  refine⟨by omega,by omega,a1,ha1,_,(Addr.add_zero (a1.add (m*4))).symm▸bC.fst hc1,fun h=>absurd rfl h,fun _=> ?_⟩
  rw[e1]
  refine⟨by omega,by omega,a2,ha2,_,(Addr.add_zero (a2.add ((m+1)*4))).symm▸bC.fst hc2,fun h=>absurd rfl (of_decide_eq_true h),fun _=>⟨Pn-(j+1),by omega,j+1,by rw[wrap_i64 (by omega) (by omega)];omega,rfl,by omega,E2⟩⟩
theorem aJb (hM:KP w p 0 EM) (hT:KP w p 2 ET) (hC:KP w p 4 EC) (hD:KP w p 6 ED) (hP:KP w p 8 EP):Calls P F.kN #[.pointer (some p)] w (aS fun v w'=>v= .bool true/\Ext w w'):=by
 refine aS.mono (Le p (fun b w'=>b=true/\Ext w w') w ?_) (by rintro _ w' ⟨b,rfl,rfl,h⟩;exact⟨rfl,h⟩)
 obtain⟨TA,Tn,Tc,TB,Td,t1,t2,t0,t3⟩:=hM
 obtain⟨DA,Dn,Dc,DB,Dd,d1,d2,d0,d3⟩:=hC
 refine⟨fun q i w1=>∃j:Nat,i=j/\q=Tn-j/\j<=Tn/\Ext w w1,⟨Tn,0,rfl,rfl,by omega,Ext.refl w⟩,?_⟩
 rintro q i w1 ⟨j,rfl,rfl,hj,E1⟩
 refine⟨TA,Tn,Tc,E1.cell t1,fun hlt=> ?_,fun hge=> ?_⟩
 ·obtain⟨a,u,b,v,ha,hu,hb,hv,A,n,c,B,m,d,xs,rfl,rfl,h3,h4,h5,h6⟩:=t3 j (by omega)
  have hl:=h5.1
  have hl6:=h6.1
  rw[List.length_append] at hl6
  simp only[List.length_cons,List.length_nil] at hl6
  have h7:Sl Yn w A m xs:=by
   have:=h6.take (k:=m) (by omega)
   rwa [List.take_append_of_le_length (by omega),List.take_of_length_le (by omega)] at this
  refine⟨TB,Tn,Td,E1.cell t2,by omega,hlt,b,hb,B,m,d,E1.cell hv,TA,Tn,Tc,E1.cell t1,by omega,hlt,a,ha,A,n,c,E1.cell hu,by omega,by omega,TB,Tn,Td,E1.cell t2,by omega,hlt,b,hb,B,m,d,E1.cell hv,fun w3 D3=> ?_⟩
  have E3:=E1.drawn D3
  refine aS.mono (aGm (h7.ext E3) (h5.ext E3) (by unfold Sn;omega)) ?_
  rintro _ w2 ⟨E2,r,rfl,hr⟩
  have hr:r=true:=hr.2 ⟨rfl,rfl⟩
  subst hr
  have E02:=E3.trans E2
  obtain⟨a1,ha1,hc1⟩:=(h6.ext E02).mn aEg
  obtain⟨a2,ha2,hc2⟩:=(h6.ext E02).mn aE0
  rw[hl] at hc1 hc2
  have e1:IntKind.wrap .i64 ((m:Int)+1)=((m+1:Nat):Int):=by rw[wrap_i64 (by omega) (by omega)];omega
  refine⟨true,rfl,fun h=>(by cases h),fun _=>⟨by omega,by omega,a1,ha1,_,bC.fst hc1,fun h=>absurd rfl h,fun _=> ?_⟩⟩
  rw[e1]
  exact⟨by omega,by omega,a2,ha2,_,bC.fst hc2,fun w8 D8=>⟨fun h=>absurd rfl (of_decide_eq_true h),fun _=>⟨Tn-(j+1),by omega,j+1,by rw[wrap_i64 (by omega) (by omega)];omega,rfl,by omega,E02.drawn D8⟩⟩⟩
 refine⟨fun q i w1=>∃j:Nat,i=j/\q=Dn-j/\j<=Dn/\Ext w w1,⟨Dn,0,rfl,rfl,by omega,E1⟩,?_⟩
 rintro q i w1 ⟨j,rfl,rfl,hj,E1⟩
 refine⟨DA,Dn,Dc,E1.cell d1,fun hlt=> ?_,fun hge=> ?_⟩
 ·obtain⟨a,u,b,v,ha,hu,hb,hv,⟨A,n,c,B,m,d,xs,rfl,rfl,h3,h4,h5,h6⟩,hsn⟩:=d3 j (by omega)
  have hl:=h5.1
  have hl6:=h6.1
  rw[List.length_append] at hl6
  simp only[List.length_cons,List.length_nil] at hl6
  have h7:Sl aG2 w A m xs:=by
   have:=h6.take (k:=m) (by omega)
   rwa [List.take_append_of_le_length (by omega),List.take_of_length_le (by omega)] at this
  refine⟨DB,Dn,Dd,E1.cell d2,by omega,hlt,b,hb,B,m,d,E1.cell hv,DA,Dn,Dc,E1.cell d1,by omega,hlt,a,ha,A,n,c,E1.cell hu,by omega,by omega,DB,Dn,Dd,E1.cell d2,by omega,hlt,b,hb,B,m,d,E1.cell hv,fun w3 D3=> ?_⟩
  have E3:=E1.drawn D3
  refine aS.mono (aEb (h7.ext E3) (h5.ext E3) (by unfold Sn;omega) (hsn B m d xs rfl h5)) ?_
  rintro _ w2 ⟨E2,r,rfl,hr⟩
  have hr:r=true:=hr.2 rfl
  subst hr
  have E02:=E3.trans E2
  obtain⟨a1,B1,m1,d1,ha1,hc1,_⟩:=(h6.ext E02).cn aEg
  obtain⟨a2,B2,m2,d2,ha2,hc2,_⟩:=(h6.ext E02).cn aE0
  rw[hl] at hc1 hc2
  have e1:IntKind.wrap .i64 ((m:Int)+1)=((m+1:Nat):Int):=by rw[wrap_i64 (by omega) (by omega)];omega
  refine⟨true,rfl,fun h=>(by cases h),fun _=>⟨by omega,by omega,a1,ha1,_,bC.fst hc1,fun h=>absurd rfl h,fun _=> ?_⟩⟩
  rw[e1]
  exact⟨by omega,by omega,a2,ha2,_,bC.fst hc2,fun w8 D8=>⟨fun h=>absurd rfl (of_decide_eq_true h),fun _=>⟨Dn-(j+1),by omega,j+1,by rw[wrap_i64 (by omega) (by omega)];omega,rfl,by omega,E02.drawn D8⟩⟩⟩
 refine aS.mono (aH6 (hT.ext (fun _ _ _ _ h e=>h.ext e) E1) (hD.ext (fun _ _ _ _ h e=>h.ext e) E1) (hP.ext (fun _ _ _ _ h e=>h.ext e) E1)) ?_
 rintro _ w2 ⟨rfl,E2⟩
 exact⟨true,rfl,rfl,E1.trans E2⟩
end
def lty (k:Nat):TypeId:=if k<2 then T.yS else if k<4 then T.Hr else if k<6 then T.Cf else if k<8 then T.wK else T.fC
def nD (E:World->Value->Value->Prop) (H:Nat->Prop) (w:World) (us vs:List Value):Prop:=us.length=vs.length/\∀(i:Nat) x y,us[i]? =some x->vs[i]? =some y->St H w fun w=>E w x y
theorem nD.adv {E:World->Value->Value->Prop} {H H':Nat->Prop} {w w':World} {us vs:List Value} (h:nD E H w us vs) (k:Yi H w H' w'):nD E H' w' us vs:=⟨h.1,fun i x y hx hy=>(h.2 i x y hx hy).adv k⟩
theorem nD.snoc {E:World->Value->Value->Prop} {H:Nat->Prop} {w:World} {us vs:List Value} {x y:Value} (h:nD E H w us vs) (k:St H w fun w=>E w x y):nD E H w (us++[x]) (vs++[y]):=by
 refine⟨by simp[h.1],fun i x' y' hx hy=> ?_⟩
 rcases Nat.lt_or_ge i us.length with hi|hi
 ·rw[List.getElem?_append_left hi] at hx
  rw[List.getElem?_append_left (by rw[<-h.1];exact hi)] at hy
  exact h.2 i x' y' hx hy
 ·rw[List.getElem?_append_right hi] at hx
  rw[List.getElem?_append_right (by rw[<-h.1];exact hi),<-h.1] at hy
  cases hq:i-us.length with
  |zero=>rw[hq] at hx hy;simp at hx hy;subst hx hy;exact k
  |succ j=>rw[hq] at hx;simp at hx
theorem nD.nil {E:World->Value->Value->Prop} {H:Nat->Prop} {w:World}:nD E H w [] []:=⟨rfl,fun i x y h=>by simp at h⟩
structure Gv (W0 w:World) (p:Addr) (A:Nat->Option Addr) (n c:Nat->Nat) (vs:Nat->List Value) (H:Nat->Prop):Prop where
 rws:Rws 10 lty W0 w p A n c vs
 sub:∀b,HX 10 p A b->H b
 lo:∀b,H b->W0.heap.size<=b/\b<w.heap.size
 m:nD EM H w (vs 0) (vs 1)
 t:nD ET H w (vs 2) (vs 3)
 k:nD EC H w (vs 4) (vs 5)
 d:nD ED H w (vs 6) (vs 7)
 r:nD EP H w (vs 8) (vs 9)
section
variable {W0 w w':World} {p:Addr} {A:Nat->Option Addr} {n c:Nat->Nat} {vs:Nat->List Value} {H:Nat->Prop}
theorem Gv.aLc {H':Nat->Prop} (h:Gv W0 w p A n c vs H) (a:Yi H w H' w'):nD EM H' w' (vs 0) (vs 1)/\nD ET H' w' (vs 2) (vs 3)/\nD EC H' w' (vs 4) (vs 5)/\nD ED H' w' (vs 6) (vs 7)/\nD EP H' w' (vs 8) (vs 9):=⟨h.m.adv a,h.t.adv a,h.k.adv a,h.d.adv a,h.r.adv a⟩
theorem Gv.stay (h:Gv W0 w p A n c vs H) (k:Ext w w'):Gv W0 w' p A n c vs H:=by
 obtain⟨a,b,e,d,f⟩:=h.aLc (Yi.uP k)
 exact⟨h.rws.stay (by decide) k,h.sub,fun b hb=>⟨(h.lo b hb).1,Nat.lt_of_lt_of_le (h.lo b hb).2 k.size⟩,a,b,e,d,f⟩
theorem Gv.new {cs:Array Value} (h:New w (.cells (Array.replicate 10 (.slice none 0 0)) T.fZ) p w'):Gv w w' p (fun _=>none) (fun _=>0) (fun _=>0) (fun _=>[]) (fun b=>b=p.block):=by
 have hc:=(h.cells rfl:bC w' p (List.replicate 10 (.slice none 0 0)))
 have hb:=h.block
 refine⟨⟨fun k hk=>hc k _ (by rw[List.getElem?_replicate,if_pos hk]),h.soft rfl,fun k hk=>Own.nil w' w.heap.size (lty k) 1,fun j k hj hk hne b ⟨a,ha,_⟩=>(by cases ha),fun k hk ⟨a,ha,_⟩=>(by cases ha),by omega,Ext.bI h⟩,fun b hb=> ?_,fun b hb=> ?_,nD.nil,nD.nil,nD.nil,nD.nil,nD.nil⟩
 ·rcases hb with hb|⟨k,hk,a,ha,_⟩
  ·exact hb
  ·cases ha
 ·subst hb
  exact⟨by omega,h.lt⟩
theorem aIq {E:World->Value->Value->Prop} {k:Nat} (h:Gv W0 w p A n c vs H) (hk:k+1<10) (he:nD E H w (vs k) (vs (k+1))) (hn:n k<=1099511627776):KP w p k E:=by
 have h1:=h.rws.own k (by omega)
 have h2:=h.rws.own (k+1) hk
 have l1:=h1.1
 have l2:=h2.1
 rw[Nat.mul_one] at l1 l2
 have hnn:n (k+1)=n k:=by rw[<-l1,<-l2];exact he.1.symm
 refine⟨A k,n k,c k,A (k+1),c (k+1),h.rws.cell k (by omega),by rw[h.rws.cell (k+1) hk,hnn],hn,fun i hi=> ?_⟩
 have get:∀{A:Option Addr} {n c:Nat} {vs:List Value} {e:TypeId},Own w W0.heap.size e 1 A n c vs->(hi:i<vs.length)->∃a,A=some a/\w.cell? (a.add (i*1))=some vs[i]:=fun h hi=>by
  rcases h.cells with h0|⟨a,ha,hc⟩
  ·rw[h0] at hi;simp at hi
  ·exact⟨a,ha,by rw[Nat.mul_one];exact hc i _ (List.getElem?_eq_getElem hi)⟩
 obtain⟨a,ha,hu⟩:=get h1 (by omega)
 obtain⟨b,hb,hv⟩:=get h2 (by omega)
 exact⟨a,_,b,_,ha,hu,hb,hv,(he.2 i _ _ (List.getElem?_eq_getElem (by omega)) (List.getElem?_eq_getElem (by omega))).now⟩
theorem Gv.kept (h:Gv W0 w p A n c vs H) (hn:∀k,n k<=1099511627776):Calls P F.kN #[.pointer (some p)] w (aS fun v w'=>v= .bool true/\Ext w w'):=
 aJb (aIq h (by decide) h.m (hn 0)) (aIq h (by decide) h.t (hn 2)) (aIq h (by decide) h.k (hn 4)) (aIq h (by decide) h.d (hn 6)) (aIq h (by decide) h.r (hn 8))
theorem iSl (k:Nat):Ih P (lty k)=some (1,24,1):=by
 unfold lty
 split
 ·kernel_rfl
 split
 ·kernel_rfl
 split
 ·kernel_rfl
 split
 ·kernel_rfl
 ·kernel_rfl
theorem aDc {wS:World} {e:TypeId} {s:Nat} {B:Option Addr} {m d:Nat} {us:List Value} (h:Gv W0 wS p A n c vs H) (hO:Own w wS.heap.size e s B m d us):∀b,At B b->¬H b:=fun b hb k=>by
 have:=(h.lo b k).2
 have:=(hO.at hb).1
 omega
theorem Gv.aLf {w6:World} (h6:Gv W0 w6 p A n c vs H) {k:Nat} (hk:k+1<10) {t T5 T6:TypeId} (ht:jC P t=some (lty k)) (ht':lty (k+1)=lty k) {x y:Value} (hx:x.oneCell'=true) (hy:y.oneCell'=true) (hn:n k+1<=1099511627776) (hn1:n (k+1)+1<=1099511627776)
  {p5:Addr} {w7:World} (hN7:New w6 (.cells #[x] T5) p5 w7):
  ∃A1 c1 w8,(Builtin.append_ #[t,t] t #[.slice (A k) (n k) (c k),.slice (some p5) 1 1]).run P w7= .ok (.slice A1 (n k+1) c1) w8/\(∃u,w8.cell? (p.add k)=some u)/\w8.frozen? (p.add k)=false/\
   ∀w9,w9=w8.setCell (p.add k) (.slice A1 (n k+1) c1)->w9.cell? (p.add (k+1))=some (.slice (A (k+1)) (n (k+1)) (c (k+1)))/\
   ∀(p6:Addr) (w10:World),New w9 (.cells #[y] T6) p6 w10->∃A2 c2 w11,(Builtin.append_ #[t,t] t #[.slice (A (k+1)) (n (k+1)) (c (k+1)),.slice (some p6) 1 1]).run P w10= .ok (.slice A2 (n (k+1)+1) c2) w11/\(∃u,w11.cell? (p.add (k+1))=some u)/\w11.frozen? (p.add (k+1))=false/\
   ∀w12,w12=w11.setCell (p.add (k+1)) (.slice A2 (n (k+1)+1) c2)->∃A' n' c' vs' H',Rws 10 lty W0 w12 p A' n' c' vs'/\(∀j,n' j<=n j+1)/\(∀b,HX 10 p A' b->H' b)/\(∀b,H' b->W0.heap.size<=b/\b<w12.heap.size)/\Yi H w6 H' w12/\
    vs' k=vs k++[x]/\vs' (k+1)=vs (k+1)++[y]/\∀j,j≠k->j≠k+1->vs' j=vs j:=by
 obtain⟨A1,c1,w8,hr1,hs1,hz1,hpush⟩:=h6.rws.push (k:=k) (by omega) ht (iSl k) (by decide) hx (by omega) hN7 (c2:=1)
 refine⟨A1,c1,w8,hr1,hs1,hz1,fun w9 hw9=> ?_⟩
 obtain⟨r9,adv9⟩:=hpush w9 hw9
 refine⟨by simpa [upd] using r9.cell (k+1) hk,fun p6 w10 hN10=> ?_⟩
 obtain⟨A2,c2,w11,hr2,hs2,hz2,hpush2⟩:=r9.push (k:=k+1) hk (by rw[ht'];exact ht) (iSl (k+1)) (by decide) hy (by simp[upd];omega) hN10 (c2:=1)
 simp only[upd_ne _ _ (show k+1≠k by omega)] at hr2 hs2 hz2 hpush2
 refine⟨A2,c2,w11,hr2,hs2,hz2,fun w12 hw12=> ?_⟩
 obtain⟨r12,adv12⟩:=hpush2 w12 hw12
 have adv:=adv9.trans adv12
 refine⟨_,_,_,_,fun b=>H b\/HX 10 p (upd (upd A k A1) (k+1) A2) b,r12,fun j=> ?_,fun b hb=> .inr hb,?_,adv.wide fun i _ hi=>h6.sub i hi,?_,?_,fun j h1 h2=> ?_⟩
 ·unfold upd
  by_cases h1:j=k+1
  ·subst h1;simp
  ·by_cases h2:j=k
   ·subst h2;simp
   ·simp[h1,h2]
 ·rintro b (hb|hb)
  ·exact⟨(h6.lo b hb).1,Nat.lt_of_lt_of_le (h6.lo b hb).2 adv.keep.size⟩
  ·exact r12.hx (by decide) b hb
 ·simp[upd]
 ·simp[upd]
 ·simp[upd,h1,h2]
def Held (W0 w:World) (p:Addr) (n:Nat->Nat) (H:Nat->Prop) (w':World) (φ:World->Prop):Prop:=∃A' n' c' vs' H',Gv W0 w' p A' n' c' vs' H'/\(∀j,n' j<=n j+1)/\Yi H w H' w'/\St H' w' φ
theorem Own.flat {α:Type} {cd:Cod α} (hcd:∀w w' us x,cd.rd w us x->cd.rd w' us x) {base:Nat} {e:TypeId} {B:Option Addr} {m d:Nat} {us:List Value} {xs:List α} (h:Own w base e cd.size B m d us) (hv:SlV cd w us xs) (hs:0<cd.size) {H:Nat->Prop} (hH:∀b,At B b->¬H b):St H w fun w=>Sl cd w B m xs:=fun w' k=>
 (h.keep k hH).sl (c:=cd) ⟨hv.1,fun i x hx=>hcd _ _ _ _ (hv.2 i x hx)⟩ hs
theorem Own.le {base:Nat} {e:TypeId} {s:Nat} {B:Option Addr} {m d:Nat} {us:List Value} (h:Own w base e s B m d us):m<=d:=Row.le h.row
theorem aDz {xs:List PT} {B:Option Addr} {m:Nat} (d:Nat) (h:Gv W0 w p A n c vs H) (hx:∀w',Ext W0 w'->Sl zT w' B m xs) (hm:m<=549755813888) (hn:∀k,n k<=549755813888):
  Calls P F.oL #[.pointer (some p),.slice B m d] w (aS fun v w'=>∃C e,v= .slice C m e/\Held W0 w p n H w' fun w=>Sl zT w C m xs):=by
 refine aS.mono (Lr p B m d (fun C k e w'=>k=m/\Held W0 w p n H w' fun w=>Sl zT w C m xs) w ?_) (by rintro _ w' ⟨C,k,e,rfl,rfl,h⟩;exact⟨C,e,rfl,h⟩)
 intro p2 w1 hN
 have hxw:=hx w h.rws.ext
 have hl:=hxw.1
 have eP:jC P T.fC=some T.iU:=by kernel_rfl
 have iP:Ih P T.iU=some (4,64,4):=by kernel_rfl
 have flat:∀(w w':World) us x,zT.rd w us x->zT.rd w' us x:=fun _ _ _ _ h=>h
 refine⟨fun q C k e i w2=>q=m-k/\i=k/\k<=m/\Ext w w2/\∃us,Own w2 w.heap.size T.iU 4 C k e us/\SlV zT w us (xs.take k),⟨m,rfl,rfl,by omega,Ext.bI hN,[],Own.new hN,SlV.nil _ _⟩,?_⟩
 rintro q C k e i w2 ⟨rfl,rfl,hle,E2,us,hO,hV⟩
 refine⟨fun hlt=> ?_,fun hge=> ?_⟩
 ·have hkl:k<xs.length:=by omega
  obtain⟨a1,hA,hc⟩:=(hxw.ext E2).pr (List.getElem?_eq_getElem hkl)
  refine⟨by omega,hlt,a1,hA,_,_,_,_,hc,fun p3 w3 hN3=> ?_⟩
  have E3:=E2.new hN3
  have hO3:=hO.keep (Ext.bI hN3) (fun _ _ h=>h)
  obtain⟨C',e',w4,hr,hO4,hK,_⟩:=hO3.append (m:=1) (c2:=1) (ty:=T.fC) eP iP (by decide) (by decide) (by decide) (news:=[.string xs[k].1.1,.string xs[k].1.2,.string xs[k].2.1,.string xs[k].2.2]) rfl (hN3.cells rfl) (by intro u hu;simp at hu;rcases hu with rfl|rfl|rfl|rfl<;>rfl) (by omega) E3.size
  refine⟨C',k+1,e',w4,hr,m-(k+1),by omega,?_⟩
  rw[wrap_i64 (by omega) (by omega)]
  refine⟨by omega,by omega,by omega,E3.over hK (fun b hb hA=>by have:=(hO3.at hA).1;omega),_,hO4,?_⟩
  rw[List.take_succ,List.getElem?_eq_getElem hkl]
  exact hV.snoc (c:=zT) rfl rfl
 ·have hk:k=m:=by omega
  subst hk
  intro p4 w5 hN5
  have E5:=E2.new hN5
  have hO5:=hO.keep (Ext.bI hN5) (fun _ _ h=>h)
  obtain⟨C',e',w6,hr,hO6,hK,_⟩:=hO5.append (m:=2) (c2:=2) (ty:=T.fC) eP iP (by decide) (by decide) (by decide) (news:=[.string ⟨#[57,48,57]⟩,.string .empty,.string .empty,.string .empty,.string ⟨#[57,49,48]⟩,.string .empty,.string .empty,.string .empty]) rfl (hN5.cells rfl) (by intro u hu;simp at hu;rcases hu with rfl|rfl|rfl|rfl<;>rfl) (by omega) E5.size
  have E6:Ext w w6:=E5.over hK (fun b hb hA=>by have:=(hO5.at hA).1;omega)
  rw[List.take_of_length_le (by omega)] at hV
  have hV6:SlV zT w (us++[.string ⟨#[57,48,57]⟩,.string .empty,.string .empty,.string .empty,.string ⟨#[57,49,48]⟩,.string .empty,.string .empty,.string .empty]) (xs++[((⟨#[57,48,57]⟩,.empty),(.empty,.empty)),((⟨#[57,49,48]⟩,.empty),(.empty,.empty))]):=by
   have h1:=(hV.snoc (c:=zT) (us:=[.string ⟨#[57,48,57]⟩,.string .empty,.string .empty,.string .empty]) (x:=((⟨#[57,48,57]⟩,.empty),(.empty,.empty))) rfl rfl).snoc (c:=zT) (us:=[.string ⟨#[57,49,48]⟩,.string .empty,.string .empty,.string .empty]) (x:=((⟨#[57,49,48]⟩,.empty),(.empty,.empty))) rfl rfl
   simpa using h1
  have h6:=h.stay E6
  refine⟨C',k+2,e',w6,hr,A 8,n 8,c 8,h6.rws.cell 8 (by decide),fun p5 w7 hN7=> ?_⟩
  have n8:=hn 8
  have n9:n (8+1)<=549755813888:=hn 9
  obtain⟨A1,c1,w8,hr1,hs1,hz1,hpush⟩:=h6.aLf (k:=8) (by decide) (T6:=T.fC) (t:=T.iO) (by kernel_rfl) rfl (x:= .slice C' (k+2) e') (y:= .slice B k d) rfl rfl (by omega) (by omega) hN7
  refine⟨A1,n 8+1,c1,w8,hr1,hs1,hz1,fun w9 hw9=> ?_⟩
  obtain⟨hcell,hpush⟩:=hpush w9 hw9
  refine⟨A 9,n 9,c 9,hcell,fun p6 w10 hN10=> ?_⟩
  obtain⟨A2,c2,w11,hr2,hs2,hz2,hpush2⟩:=hpush p6 w10 hN10
  refine⟨A2,n 9+1,c2,w11,hr2,hs2,hz2,fun w12 hw12=> ?_⟩
  obtain⟨A',n',c',vs',H',hR,hn',hsub,hlo,adv,v0,v1,v2⟩:=hpush2 w12 hw12
  obtain⟨hO12,hno⟩:=hO6.adv (aDc h hO6) adv
  have hV12:SlV zT w12 _ _:=⟨hV6.1,fun i x hx=>flat _ _ _ _ (hV6.2 i x hx)⟩
  have hst:=Own.flat (cd:=zT) flat hO12 hV12 (by decide) hno
  have hcap:=Own.le hO6
  have hlo':St H' w12 fun w=>Sl zT w B k xs:=fun w' hw=>hx w' (hR.ext.over hw fun i hi hx=>by have:=(hlo i hx).1;omega)
  obtain⟨g0,g2,g4,g6,g8⟩:=h6.aLc adv
  refine⟨by omega,by omega,by simp,A',n',c',vs',H',⟨hR,hsub,hlo,?_,?_,?_,?_,?_⟩,hn',(Yi.uP E6).trans adv,?_⟩
  ·rw[v2 0 (by decide) (by decide),v2 1 (by decide) (by decide)];exact g0
  ·rw[v2 2 (by decide) (by decide),v2 3 (by decide) (by decide)];exact g2
  ·rw[v2 4 (by decide) (by decide),v2 5 (by decide) (by decide)];exact g4
  ·rw[v2 6 (by decide) (by decide),v2 7 (by decide) (by decide)];exact g6
  ·rw[v0,v1]
   exact g8.snoc fun w' hw=>⟨C',k+2,e',B,k,d,xs,rfl,rfl,hcap,by omega,hlo' w' hw,hst w' hw⟩
  ·refine hst.imp fun w' hq=> ?_
   have:=hq.take (k:=k) (by omega)
   rwa [List.take_append_of_le_length (by omega),List.take_of_length_le (by omega)] at this
end
theorem aK7 {w:World} (x:Int):Calls P F.zK #[.int .i64 x] w (aS fun v w'=>v= .int .i64 x/\w'=w):=by
 refine aS.mono (Yo x (fun v w'=>v=x/\w'=w) w ⟨rfl,rfl⟩) (by rintro _ w' ⟨v,rfl,rfl,h⟩;exact⟨rfl,h⟩)
theorem aEt {w:World} {A:Option Addr} {n:Nat} (c:Nat) {xs:List PT} (hT:Sl zT w A n xs) (hs:∀x∈xs,TmD x.1/\TmD x.2) (hn:n<=549755813888):Calls P F.Dq #[.slice A n c] w (aS fun v w'=>v= .bool true/\Ext w w'):=by
 refine aS.mono (Ob A n c (fun b w'=>b=true/\Ext w w') w ?_) (by rintro _ w' ⟨b,rfl,rfl,h⟩;exact⟨rfl,h⟩)
 intro p1 w1 hN1
 have h1:=Gv.new (cs:= #[]) hN1
 refine aS.mono (aDz c h1 (fun w' E=>hT.ext E) hn (fun _=>by omega)) ?_
 rintro _ w2 ⟨C,e,rfl,A',n',c',vs',H',h2,hn',adv,st⟩
 have E2:=h2.rws.ext
 refine⟨C,n,e,rfl,aS.mono (aJk st.now (fun x hx=>⟨⟨(hs x hx).1.a.ts,(hs x hx).1.b.ts⟩,(hs x hx).2.a.ts,(hs x hx).2.b.ts⟩) (by unfold Sn;omega)) ?_⟩
 rintro _ w3 ⟨E3,t,x,rfl,hP⟩
 refine⟨t,x,rfl,aS.mono (aHo (hT.ext (E2.trans E3)) hs (by unfold Sn;omega)) ?_⟩
 rintro _ w4 ⟨E4,t',x',rfl,hP'⟩
 obtain⟨rfl,rfl⟩:=hP.uniq hP'
 have E24:=E3.trans E4
 refine⟨t,x,rfl,fun _=>aS.mono (aK7 x) ?_,fun h=>absurd rfl h⟩
 rintro _ w5 ⟨rfl,rfl⟩
 refine⟨x,rfl,fun _=>aS.mono ((h2.stay E24).kept fun k=>Nat.le_trans (hn' k) (show 0+1<=1099511627776 by decide)) ?_,fun h=>absurd rfl h⟩
 rintro _ w6 ⟨rfl,E6⟩
 exact⟨true,rfl,rfl,(E2.trans E24).trans E6⟩
end Go.Proofs.YtfedkedpgdphdaaGreatDoor
