/- Towards the laws of this seat. Gathered by a program (pack.py) out of smaller texts. -/
import Derived.Test.YtnbakpoahcndpaaGreatDoorCommon6
import Derived.Test.YtnbakpoahcndpaaGreatDoorRows
import Derived.WalkKit
import Derived.ProofKit
import Derived.OpenShut
import Derived.JoinedCond
import Derived.Deep.Slices
import Derived.Below
import Derived.Carry
import Derived.Lib.LaidTab
import Derived.LaidSub
set_option linter.unusedSectionVars false
set_option linter.unusedVariables false
set_option linter.unusedSimpArgs false
set_option maxHeartbeats 2000000
set_option maxRecDepth 20000
namespace Go.Proofs.YtnbakpoahcndpaaGreatDoor
open Wk
theorem aNb {W w1:World} {p:Addr} (hN:New W (.cells #[.slice none 0 0,.slice none 0 0,.slice none 0 0,.slice none 0 0,.slice none 0 0,.slice none 0 0] T.nG) p w1):
  Qr W w1 p (fun _=>none) (fun _=>0) (fun _=>0) (fun _=>[]) (fun b=>b=p.block):=by
 have hc:=hN.cells rfl
 have hp:=hN.block
 have hl:=hN.lt
 refine⟨⟨fun k hk=> ?_,hN.soft rfl,fun k hk=>Own.nil _ _ _ _,?_,?_,by omega,Ext.eY hN⟩,?_,?_,⟨rfl,fun i x y h=>by simp at h⟩,⟨rfl,fun i x y h=>by simp at h⟩,⟨rfl,fun i x y h=>by simp at h⟩⟩
 ·match k,hk with
  |0,_=>exact hc 0 _ rfl
  |1,_=>exact hc 1 _ rfl
  |2,_=>exact hc 2 _ rfl
  |3,_=>exact hc 3 _ rfl
  |4,_=>exact hc 4 _ rfl
  |5,_=>exact hc 5 _ rfl
 ·rintro j k _ _ _ b ⟨a,ha,_⟩
  cases ha
 ·rintro k _ ⟨a,ha,_⟩
  cases ha
 ·rintro b (rfl|⟨k,_,a,ha,_⟩)
  ·rfl
  ·cases ha
 ·rintro b rfl
  omega
def opsOf (ops:List OpR) (i:Nat) (s:Bool):List OpR:=(ops.take i).filter fun o=>o.second==s
theorem Yo {ops:List OpR} {i:Nat} {o:OpR} (h:ops[i]? =some o) (s:Bool):opsOf ops (i+1) s=opsOf ops i s++(if o.second==s then [o] else []):=by
 unfold opsOf
 rw[lJ h,List.filter_append]
 congr 1
 cases h':(o.second==s)<;>simp[List.filter,h']
theorem aL4 (ops:List OpR) (i:Nat) (s:Bool):(opsOf ops i s).length<=i:=Nat.le_trans (List.length_filter_le _ _) (by rw[List.length_take];omega)
theorem aF7 (fs:List Flat) (l:List OpR) (o:OpR):yA fs (l++[o])=stepS fs (yA fs l) o:=by
 unfold yA
 rw[List.foldl_append]
 rfl
def Two (W0 B:Nat) (fs:List Flat) (ops:List OpR) (p1 p2 p3 p4:Addr) (i:Nat) (w:World):Prop:=
 ∃Y1 Y2,P2 W0 B w p1 p3 fs Y1 (yA fs (opsOf ops i false)).1 (yA fs (opsOf ops i false)).2 (yA fs (opsOf ops i false)).1 (yA fs (opsOf ops i false)).2/\
  P2 W0 B w p2 p4 fs Y2 (yA fs (opsOf ops i true)).1 (yA fs (opsOf ops i true)).2 (yA fs (opsOf ops i true)).1 (yA fs (opsOf ops i true)).2/\∀b,Y1 b->¬Y2 b
section
variable {W0 B0 B:Nat} {w w':World} {fs:List Flat} {ops:List OpR} {A1 A2:Option Addr} {n2 c1 c2:Nat} {p1 p2 p3 p4:Addr} {i:Nat}
theorem Two.stay (h:Two W0 B fs ops p1 p2 p3 p4 i w) (k:Ext w w'):Two W0 B fs ops p1 p2 p3 p4 i w':=by
 obtain⟨Y1,Y2,h1,h2,h3⟩:=h
 exact⟨Y1,Y2,h1.stay k,h2.stay k,h3⟩
theorem Two.step {o:OpR} (h:Two W0 B fs ops p1 p2 p3 p4 i w) (ho:ops[i]? =some o) (hi:i<=1048575) (hk:I64 o.a) (hB:B<=w.heap.size):
  Calls P F.uH #[aIk o,.pointer (some (if o.second then p2 else p1)),.pointer (some (if o.second then p4 else p3))] w (cO fun v w'=>v= .bool true/\Two W0 B fs ops p1 p2 p3 p4 (i+1) w'/\∀w0,Ext w0 w->w0.heap.size<=B->Ext w0 w'):=by
 obtain⟨Y1,Y2,h1,h2,h3⟩:=h
 have ls:∀s,(yA fs (opsOf ops i s)).1.length<=i/\(yA fs (opsOf ops i s)).2.length<=i/\aEs (yA fs (opsOf ops i s)):=fun s=>by
  have:=aHb fs (opsOf ops i s) _ (Nat.le_refl _)
  rw[List.take_length] at this
  obtain⟨t1,t2,t3⟩:=this
  have:=aL4 ops i s
  exact⟨by omega,by omega,t1⟩
 cases hs:o.second with
 |true=>
  obtain⟨l1,l2,mo⟩:=ls true
  rw[if_pos rfl,if_pos rfl]
  refine(aK5 (o:=o) h2 (by omega) (by omega) mo hk).mono ?_
  rintro _ w1 ⟨_,rfl,rfl,Y',iI,h'⟩
  refine⟨_,rfl,rfl,⟨Y1,Y',?_,?_,fun b hb hb'=> ?_⟩,fun w0 hw hz=>hw.over iI.keep fun b hb hh=>by have:=(h2.bd b hh).1;omega⟩
  ·rw[Yo ho false,hs,if_neg (by decide),List.append_nil]
   exact h1.off iI.keep fun b _ hb=>⟨fun hb1=>h3 b hb1 hb,(h2.bd b hb).1⟩
  ·rw[Yo ho true,hs,if_pos (by decide),aF7]
   exact h'
  ·exact h3 b hb (iI.grow b (h1.bd b hb).2 hb')
 |false=>
  obtain⟨l1,l2,mo⟩:=ls false
  rw[if_neg (by decide),if_neg (by decide)]
  refine(aK5 (o:=o) h1 (by omega) (by omega) mo hk).mono ?_
  rintro _ w1 ⟨_,rfl,rfl,Y',iI,h'⟩
  refine⟨_,rfl,rfl,⟨Y',Y2,?_,?_,fun b hb hb'=> ?_⟩,fun w0 hw hz=>hw.over iI.keep fun b hb hh=>by have:=(h1.bd b hh).1;omega⟩
  ·rw[Yo ho false,hs,if_pos (by decide),aF7]
   exact h'
  ·rw[Yo ho true,hs,if_neg (by decide),List.append_nil]
   exact h2.off iI.keep fun b _ hb=>⟨fun hb1=>h3 b hb hb1,(h1.bd b hb).1⟩
  ·exact h3 b (iI.grow b (h2.bd b hb').2 hb) hb'
theorem aE7 {lo hi:Int} (hN:Sl mO w A1 fs.length fs) (hO:Sl cOp w A2 n2 ops) (hB:B0<=w.heap.size) (tab:yG B0 w) (ok:Ep W0 fs) (s2:n2<=1048575):
  Calls P F.qQ #[.slice A1 fs.length c1,.slice A2 n2 c2,iv lo,iv hi] w (cO fun v w'=>v= .bool true/\Ext w w'):=by
 refine cO.mono (Zm A1 fs.length c1 A2 n2 c2 lo hi (fun v w'=>v=true/\Ext w w') w ?_) (by rintro _ w' ⟨b,rfl,rfl,h⟩;exact⟨rfl,h⟩)
 have few:=ok.few
 have sm1:Sm fs.length:=by unfold Sm;omega
 have on:=hO.1
 intro p1 w1 hN1
 have H1:=aNb hN1
 refine(aGp c1 H1 (fun w' hw=>hN.ext hw) sm1 (by omega) (by omega) (by omega) (by omega)).mono ?_
 rintro _ w2 ⟨_,rfl,C,e,A',n',c',vs',H2,rfl,hold,hcnt,adv2,_,st2⟩
 have E02:=hold.rws.ext
 have hC:∀w',Ext w2 w'->Sl mO w' C fs.length fs:=fun w' E=>(st2.iI (dU.iL E)).now
 have tab2:yG w2.heap.size w2:=aIv (zH tab E02 hB (fun _ _ h=>h.elim)) (Nat.le_trans hB E02.size)
 have tb:∀w',Ext w2 w'->yG w2.heap.size w':=fun w' E=>zH tab2 E (Nat.le_refl _) (fun _ _ h=>h.elim)
 have g0:=hcnt.n0
 have g1:=hcnt.n1
 have g2:=hcnt.n2
 have g3:=hcnt.n3
 have g4:=hcnt.n4
 have g5:=hcnt.n5
 have kept:∀w',Ext w2 w'->Calls P F.mG #[.pointer (some p1)] w' (cO fun v w''=>v= .bool true/\Ext w w''):=fun w' E=>by
  refine(aH7 (hold.stay E) ?_).mono ?_
  ·intro k hk
   unfold Sm
   match k,hk with
   |0,_=>omega
   |1,_=>omega
   |2,_=>omega
   |3,_=>omega
   |4,_=>omega
   |5,_=>omega
  ·rintro _ w'' ⟨_,rfl,rfl,E'⟩
   exact⟨_,rfl,rfl,(E02.trans E).trans E'⟩
 refine⟨_,rfl,C,_,e,rfl,(vH.new (B0:=w2.heap.size) (c1:=e) hC (Nat.le_refl _) tab2 ok).mono ?_⟩
 rintro _ w3 ⟨_,rfl,E3,hg⟩
 have N4:=vH.new (B0:=w2.heap.size) (c1:=e) (W0:=W0) (fun w' E'=>hC w' (E3.trans E')) E3.size (tb w3 E3) ok
 have done:∀b w',b=false->Ext w2 w'->∀q1 q2 q4,kE (fun v w'=>v=true/\Ext w w') none p1 n2 A2 q2 q4 lo hi q1 b w':=by
  rintro _ w' rfl E q1 q2 q4
  refine⟨fun q=>(by cases q),fun _=>⟨fun _=>(kept w' E).mono ?_,fun q=>absurd rfl q⟩⟩
  rintro _ w'' ⟨_,rfl,rfl,E'⟩
  exact⟨_,rfl,true,rfl,rfl,E'⟩
 rcases hg with⟨ns,rfl⟩|⟨snd,g,Hg,rfl,Lg⟩
 ·refine⟨_,rfl,none,80,rfl,N4.mono ?_⟩
  rintro _ w4 ⟨_,rfl,E4,⟨_,rfl⟩|⟨h,_⟩⟩
  case inr=>exact absurd h ns
  have E24:=E3.trans E4
  refine⟨_,rfl,none,80,rfl,(Yn (B0:=w2.heap.size) (c1:=c1) (fun w' E'=>hN.ext (E02.trans (E24.trans E'))) E24.size few).mono ?_⟩
  rintro _ w5 ⟨_,rfl,E5,⟨_,rfl⟩|⟨h,_⟩⟩
  case inr=>exact absurd h ns
  have E25:=E24.trans E5
  refine⟨_,rfl,none,80,rfl,(Yn (B0:=w2.heap.size) (c1:=c1) (fun w' E'=>hN.ext (E02.trans (E25.trans E'))) E25.size few).mono ?_⟩
  rintro _ w6 ⟨_,rfl,E6,⟨_,rfl⟩|⟨h,_⟩⟩
  case inr=>exact absurd h ns
  refine⟨_,rfl,none,80,rfl,(yX 80).mono ?_⟩
  rintro _ w7 ⟨_,rfl,rfl,rfl⟩
  refine⟨_,rfl,80,rfl,fun q=>absurd rfl q,fun _=>(yX 80).mono ?_⟩
  rintro _ w9 ⟨_,rfl,rfl,rfl⟩
  exact⟨_,rfl,80,rfl,fun q=>absurd rfl q,fun _=>⟨fun q=>absurd rfl q,fun _=>done _ _ (by simp) (E25.trans E6) _ _ _⟩⟩
 ·refine⟨_,rfl,some g,0,rfl,N4.mono ?_⟩
  rintro _ w4 ⟨_,rfl,E4,⟨h,_⟩|⟨_,h,Hh,rfl,Lh⟩⟩
  ·exact absurd snd h
  have E24:=E3.trans E4
  refine⟨_,rfl,some h,0,rfl,(Yn (B0:=w2.heap.size) (c1:=c1) (fun w' E'=>hN.ext (E02.trans (E24.trans E'))) E24.size few).mono ?_⟩
  rintro _ w5 ⟨_,rfl,E5,⟨k,_⟩|⟨_,r,rfl,Rr⟩⟩
  ·exact absurd snd k
  have E25:=E24.trans E5
  refine⟨_,rfl,some r,0,rfl,(Yn (B0:=w2.heap.size) (c1:=c1) (fun w' E'=>hN.ext (E02.trans (E25.trans E'))) E25.size few).mono ?_⟩
  rintro _ w6 ⟨_,rfl,E6,⟨k,_⟩|⟨_,s,rfl,Rs⟩⟩
  ·exact absurd snd k
  have E26:=E25.trans E6
  refine⟨_,rfl,some s,0,rfl,(yX 0).mono ?_⟩
  rintro _ w7 ⟨_,rfl,rfl,rfl⟩
  refine⟨_,rfl,0,rfl,fun q=>absurd rfl q,fun _=>(yX 0).mono ?_⟩
  rintro _ w9 ⟨_,rfl,rfl,rfl⟩
  refine⟨_,rfl,0,rfl,fun q=>absurd rfl q,fun _=>⟨fun q=>absurd (by simp) q,fun _=> ?_⟩⟩
  rw[show decide (decide ((some h:Option Addr)=none)≠decide ((some r:Option Addr)=none))=false by simp]
  refine⟨fun q=>(by cases q),fun _=>⟨fun q=>(by cases q),fun _=> ?_⟩⟩
  have z3:=E3.size
  have z4:=E4.size
  have z5:=E5.size
  have z6:=E6.size
  have T0:Two W0 w2.heap.size fs ops g h r s 0 w9:=by
   refine⟨_,_,⟨_,Hg,_,Lg.stay (E4.trans (E5.trans E6)),Rr.stay E6,fun b hb hz=> ?_,fun b=> .rfl⟩,⟨_,Hh,_,Lh.stay (E5.trans E6),Rs,fun b hb hz=> ?_,fun b=> .rfl⟩,fun b hb hb'=> ?_⟩
   ·rcases hb with hb|hb
    ·exact hb
    ·rcases hz with hz|hz
     ·exact hz
     ·omega
   ·rcases hb with hb|hb
    ·exact hb
    ·rcases hz with hz|hz
     ·exact hz
     ·omega
   ·rcases hb with(hb|hb)|(hb|hb)<;>rcases hb' with(hz|hz)|(hz|hz)<;>first|exact hb|exact hz|omega
  refine⟨fun k i w'=>k=n2-i.toNat/\0<=i/\i<=n2/\Ext w2 w'/\Two W0 w2.heap.size fs ops g h r s i.toNat w',⟨n2,by simp,by omega,by omega,E26,T0⟩,?_⟩
  rintro k i w11 ⟨rfl,i0,i1,E11,T11⟩
  refine⟨fun hlt=> ?_,fun hge=> ?_⟩
  ·obtain⟨o,ad,ho,hA2,hc,ha⟩:=(hO.ext (E02.trans E11)).op i0 hlt
   refine⟨i0,hlt,ad,hA2,_,_,_,_,_,hc,fun p2 w12 hN12=>⟨hN12.soft rfl,fun w13 hw13=> ?_⟩⟩
   have hN13:=hN12.store hw13 rfl
   have E13:=Ext.eY hN13
   have c13:bG w13 p2 o.vals:=hN13.cells rfl
   have E213:=E11.trans E13
   have T13:=(T11.stay E13).step ho (by omega) ha E213.size
   have fin:∀w',Two W0 w2.heap.size fs ops g h r s (i.toNat+1) w'->(∀w0,Ext w0 w13->w0.heap.size<=w2.heap.size->Ext w0 w')->∀b,b=true->pO p2 lo (fun v w'=>v=true/\Ext w w') (n2-i.toNat) (fun k i w'=>k=n2-i.toNat/\0<=i/\i<=n2/\Ext w2 w'/\Two W0 w2.heap.size fs ops g h r s i.toNat w') i hi b w':=by
    rintro w' T' hE _ rfl
    refine⟨fun q=>(by cases q),fun _=>⟨fun q=>(by cases q),fun _=>⟨n2-(i+1).toNat,by omega,?_⟩⟩⟩
    rw[gI i0 hlt (by unfold Sm;omega)]
    exact⟨rfl,by omega,by omega,hE w2 E213 (Nat.le_refl _),by rw[show(i+1).toNat=i.toNat+1 by omega];exact T'⟩
   refine⟨_,c13 1 _ rfl,fun hs=>⟨_,_,_,_,_,c13,?_⟩,fun hs=>⟨_,_,_,_,_,c13,?_⟩⟩
   ·rw[if_pos hs,if_pos hs] at T13
    refine T13.mono ?_
    rintro _ w14 ⟨_,rfl,rfl,T',hE⟩
    exact⟨_,rfl,true,rfl,fin w14 T' hE true rfl⟩
   ·rw[if_neg (by rw[hs];decide),if_neg (by rw[hs];decide)] at T13
    refine T13.mono ?_
    rintro _ w14 ⟨_,rfl,rfl,T',hE⟩
    exact⟨_,rfl,true,rfl,fin w14 T' hE true rfl⟩
  ·refine(kept w11 E11).mono ?_
   rintro _ w17 ⟨_,rfl,rfl,E17⟩
   exact⟨_,rfl,true,rfl,rfl,E17⟩
theorem aMn (hN:Sl mO w A1 fs.length fs) (hO:Sl cOp w A2 n2 ops) (hB:B0<=w.heap.size) (tab:yG B0 w) (ok:Ep W0 fs) (s2:n2<=1048575):
  Calls P F.Nq #[.slice A1 fs.length c1,.slice A2 n2 c2] w (cO fun v w'=>v= .bool true/\Ext w w'):=by
 refine cO.mono (Vr A1 fs.length c1 A2 n2 c2 (fun v w'=>v=true/\Ext w w') w ((aE7 hN hO hB tab ok s2).mono ?_)) (by rintro _ w' ⟨b,rfl,rfl,h⟩;exact⟨rfl,h⟩)
 rintro _ w' ⟨_,rfl,rfl,E⟩
 exact⟨_,rfl,true,rfl,rfl,E⟩
theorem aNf (hN:Sl mO w A1 fs.length fs) (hO:Sl cOp w A2 n2 ops) (hB:B0<=w.heap.size) (tab:yG B0 w) (ok:Ep W0 fs) (s2:n2<=1048575):
  Calls P F.Pg #[.slice A1 fs.length c1,.slice A2 n2 c2] w (cO fun v w'=>v= .bool true/\Ext w w'):=by
 refine cO.mono (Wl A1 fs.length c1 A2 n2 c2 (fun v w'=>v=true/\Ext w w') w ((aE7 hN hO hB tab ok s2).mono ?_)) (by rintro _ w' ⟨b,rfl,rfl,h⟩;exact⟨rfl,h⟩)
 rintro _ w' ⟨_,rfl,rfl,E⟩
 exact⟨_,rfl,true,rfl,rfl,E⟩
theorem aLf (hN:Sl mO w A1 fs.length fs) (hO:Sl cOp w A2 n2 ops) (hB:B0<=w.heap.size) (tab:yG B0 w) (ok:Ep W0 fs) (s2:n2<=1048575):
  Calls P F.Lu #[.slice A1 fs.length c1,.slice A2 n2 c2] w (cO fun v w'=>v= .bool true/\Ext w w'):=by
 refine cO.mono (Ux A1 fs.length c1 A2 n2 c2 (fun v w'=>v=true/\Ext w w') w ((aE7 hN hO hB tab ok s2).mono ?_)) (by rintro _ w' ⟨b,rfl,rfl,h⟩;exact⟨rfl,h⟩)
 rintro _ w' ⟨_,rfl,rfl,E⟩
 exact⟨_,rfl,true,rfl,rfl,E⟩
theorem aMm (hN:Sl mO w A1 fs.length fs) (hO:Sl cOp w A2 n2 ops) (hB:B0<=w.heap.size) (tab:yG B0 w) (ok:Ep W0 fs) (s2:n2<=1048575):
  Calls P F.Nl #[.slice A1 fs.length c1,.slice A2 n2 c2] w (cO fun v w'=>v= .bool true/\Ext w w'):=by
 refine cO.mono (Vw A1 fs.length c1 A2 n2 c2 (fun v w'=>v=true/\Ext w w') w ((aE7 hN hO hB tab ok s2).mono ?_)) (by rintro _ w' ⟨b,rfl,rfl,h⟩;exact⟨rfl,h⟩)
 rintro _ w' ⟨_,rfl,rfl,E⟩
 exact⟨_,rfl,true,rfl,rfl,E⟩
end
open Wk Go.ChangeShapes Go.WideShapes Go.Deep Go.RowKit
namespace Opn
theorem one_le {H:Type} (d:DataW H):1<=Rows.uptoBulk d:=by
 cases d with
 |lit l=>cases l<;>simp[Rows.uptoBulk]
 |nil=>simp[Rows.uptoBulk]
 |ptr d=>simp[Rows.uptoBulk]
 |slice elems spare=>simp[Rows.uptoBulk]
 |agg parts=>simp[Rows.uptoBulk]
 |iface t d=>simp[Rows.uptoBulk]
 |map entries=>simp[Rows.uptoBulk]
 |held h=>simp[Rows.uptoBulk]
theorem aIg {H:Type} {d:DataW H} {l:List (DataW H)} (h:d∈l):Rows.uptoBulk d<=Rows.uptoBulkAll l:=by
 induction l with
 |nil=>cases h
 |cons x r ih=>
  simp only[Rows.uptoBulkAll]
  cases List.mem_cons.1 h with
  |inl e=>subst e;omega
  |inr e=>have:=ih e;omega
theorem length_le {H:Type} (l:List (DataW H)):l.length<=Rows.uptoBulkAll l:=by
 induction l with
 |nil=>simp[Rows.uptoBulkAll]
 |cons x r ih=>have:=one_le x;simp only[Rows.uptoBulkAll,List.length_cons];omega
abbrev Few {H:Type} (d:DataW H):Prop:=Rows.uptoBulk d<=1048576
theorem aL6 {H:Type} {es sp:List (DataW H)} (h:Few (.slice es sp)):es.length<=1048576/\∀d∈es,Few d:=by
 unfold Few at h
 simp only[Rows.uptoBulk] at h
 have h1:=length_le es
 refine⟨by omega,fun d hd=> ?_⟩
 have:=aIg hd
 unfold Few
 omega
theorem aPe {H:Type} {es:List (DataW H)} (h:Few (.agg es)):∀d∈es,Few d:=by
 unfold Few at h
 simp only[Rows.uptoBulk] at h
 intro d hd
 have:=aIg hd
 unfold Few
 omega
theorem aNh {H:Type} {l:List (DataW H)} (h:Rows.uptoSmall H l=true):∀d∈l,Few d:=by
 have h:=of_decide_eq_true h
 intro d hd
 have:=aIg hd
 unfold Few
 omega
theorem aHd {α β:Type} {f:α->Option β}:∀{l:List α} {r:List β},l.mapM f=some r->r.length=l.length/\∀(i:Nat) x,l[i]? =some x->f x=r[i]?
 |[],r,h=>by simp at h;subst h;simp
 |a::l,r,h=>by
  rw[List.mapM_cons] at h
  cases hf:f a with
  |none=>rw[hf] at h;cases h
  |some b=>
   cases hm:l.mapM f with
   |none=>rw[hf,hm] at h;cases h
   |some s=>
    rw[hf,hm] at h
    cases h
    obtain⟨h1,h2⟩:=aHd hm
    refine⟨by simp[h1],fun i x hx=> ?_⟩
    cases i with
    |zero=>simp at hx;subst hx;simpa using hf
    |succ i=>simpa using h2 i x (by simpa using hx)
theorem aKp {w:World} {base:Nat} {a:Addr} {n:Nat} {cs:List Value} (h:w.cells? base a n=some cs):cs.length=n/\bG w a cs:=by
 unfold World.cells? at h
 split at h
 ·obtain⟨h1,h2⟩:=aHd h
  rw[List.length_range] at h1
  refine⟨h1,fun j v hv=> ?_⟩
  have hj:=(List.getElem?_eq_some_iff.1 hv).1
  rw[h2 j j (by rw[List.getElem?_range (by omega)]),hv]
 ·cases h
section
variable {P:Program}
def aRr {α:Type} (c:Cod α) (Q:α->Prop):Cod α:=⟨c.size,fun w vs x=>c.rd w vs x/\Q x,fun k h=>⟨c.keep k h.1,h.2⟩⟩
theorem aMu {α:Type} {c:Cod α} {Q:α->Prop} {w:World} {A:Option Addr} {n:Nat} {xs:List α} (h:Sl (aRr c Q) w A n xs):Sl c w A n xs/\∀x∈xs,Q x:=
 ⟨⟨h.1,fun i x hx=>let ⟨ad,vs,h1,h2,h3,h4⟩:=h.2 i x hx;⟨ad,vs,h1,h2,h3,h4.1⟩⟩,fun x hx=>by
  obtain⟨i,hi⟩:=List.mem_iff_getElem?.1 hx
  obtain⟨_,_,_,_,_,h4⟩:=h.2 i x hi
  exact h4.2⟩
theorem aHa {n:Int} (h:(Lit.int .i64 n).wf=true): -9223372036854775808<=n/\n<=9223372036854775807:=by
 simpa [Lit.wf,IntKind.min,IntKind.max,IntKind.signed,IntKind.bits] using h
def fieldsOf (P:Program) (t:TypeId):Option (List (TypeId×Nat×Nat)):=match P.underlying t with
 |some (.struct fs)=>some (fs.toList.map fun f=>(f.type,f.offset,P.cellsOf f.type))
 |_=>none
end
theorem below {W W':World} (h:Ext W W'):Below W.heap.size W W':=⟨h.os,h.tape,h.output,h.size,fun k hk=>h.block k hk fun h=>h⟩
end Opn
open Wk
section
variable {w:World} {fs:List Flat} {ops:List OpR} {n1 n2:Nat} {A1 A2:Option Addr}
end
open Wk Go.ChangeShapes Go.WideShapes Go.Deep Go.RowKit
namespace Opn
theorem aEh {α H:Type} {m:α->Nat}:∀{xs:List α} {ds:List (DataW H)},xs.length=ds.length->(∀(i:Nat) x d,xs[i]? =some x->ds[i]? =some d->m x<=Rows.uptoBulk d)->(xs.map m).sum<=Rows.uptoBulkAll ds
 |[],[],_,_=>by simp
 |x::xs,d::ds,hl,h=>by
  have h0:=h 0 x d rfl rfl
  have:=aEh (m:=m) (xs:=xs) (ds:=ds) (by simpa using hl) fun i x d hx hd=>h (i+1) x d (by simpa using hx) (by simpa using hd)
  simp only[List.map_cons,List.sum_cons,Rows.uptoBulkAll]
  omega
 |[],_::_,hl,_=>by simp at hl
 |_::_,[],hl,_=>by simp at hl
section
variable {P:Program}
def aFx (P:Program) {α:Type} (c:Cod α) (m:α->Nat) (t:TypeId):Prop:=
 ∀{H:Type} {enc:TypeId×Value->H} {w:World} {base:Nat} {spare:Nat->Bool} {held:Bool} {fuel:Nat} {cs:List Value} {x:DataW H×List MemPlace},DataW.trod enc P w base spare held fuel t cs=some x->Few x.1->cs.length=c.size/\∃a,c.rd w cs a/\m a<=Rows.uptoBulk x.1
theorem aKg {k:IntKind} {t:TypeId} (ht:P.underlying t=some (.int k)):aFx P (aEq k) (fun _=>1) t:=by
 intro H enc w base spare held fuel cs x h _
 obtain⟨n,rfl,_,_⟩:=DataW.trod_int ht h
 exact⟨rfl,n,rfl,one_le _⟩
theorem aG1 {α:Type} {c:Cod α} {m:α->Nat} {t e:TypeId} (ht:iV P t=some e) (hc:P.cellsOf e=c.size) (ho:aFx P c m e) {H:Type} {enc:TypeId×Value->H} {w:World} {base:Nat} {spare:Nat->Bool} {held:Bool} {fuel:Nat} {cs:List Value} {x:DataW H×List MemPlace}
  (h:DataW.trod enc P w base spare held fuel t cs=some x) (hf:Few x.1):∃A n cp xs,cs=[.slice A n cp]/\n<=1048576/\n<=cp/\Sl c w A n xs/\(xs.map m).sum+1<=Rows.uptoBulk x.1:=by
 rcases open_slice (lW ht) h with⟨rfl,rfl⟩|⟨a,len,cap,m',n,D,Pl,rfl,hb,hl,hm,hmm,rfl,hx⟩
 ·exact⟨none,0,0,[],rfl,by omega,by omega,Sl.nil _ _ _,by simp[Rows.uptoBulk]⟩
 ·obtain⟨h1,h2⟩:=aL6 hf
  simp only[List.length_map,List.length_range] at h1
  have key:∀i:Fin len,∃y,(∃vs,vs.length=c.size/\bG w (a.add (i.1*c.size)) vs/\c.rd w vs y)/\m y<=Rows.uptoBulk (D i.1):=by
   intro i
   have hi:=i.2
   obtain⟨cs',hcs,ht'⟩:=hx i.1 (by rw[hmm];split<;>omega)
   obtain⟨g1,g2⟩:=aKp hcs
   obtain⟨g3,y,g4,g5⟩:=ho ht' (h2 _ (List.mem_map.2 ⟨i.1,by simp[hi],rfl⟩))
   exact⟨y,⟨cs',g3,by rw[<-hc];exact g2,g4⟩,g5⟩
  refine⟨some a,len,cap,List.ofFn fun i=>(key i).choose,rfl,h1,hl,⟨by simp,fun i y hy=> ?_⟩,?_⟩
  ·rw[List.getElem?_ofFn] at hy
   split at hy
   ·rename_i hi
    cases hy
    obtain⟨vs,k1,k2,k3⟩:=(key ⟨i,hi⟩).choose_spec.1
    exact⟨a,vs,rfl,k1,k2,k3⟩
   ·cases hy
  ·have:=aEh (m:=m) (xs:=List.ofFn fun i=>(key i).choose) (ds:=(List.range len).map D) (by simp) fun i x d hx hd=>by
    rw[List.getElem?_ofFn] at hx
    split at hx
    ·rename_i hi
     cases hx
     rw[List.getElem?_map,List.getElem?_range hi] at hd
     cases hd
     exact(key ⟨i,hi⟩).choose_spec.2
    ·cases hx
   simp only[Rows.uptoBulk]
   omega
theorem aCw {t:TypeId} {L:List (TypeId×Nat×Nat)} (ht:fieldsOf P t=some L) {H:Type} {enc:TypeId×Value->H} {w:World} {base:Nat} {spare:Nat->Bool} {held:Bool} {fuel:Nat} {cs:List Value} {x:DataW H×List MemPlace}
  (h:DataW.trod enc P w base spare held fuel t cs=some x) (hf:Few x.1):
  cs.length=P.cellsOf t/\∃(n:Nat) (ys:List (DataW H)),Rows.uptoBulk x.1=Rows.uptoBulkAll ys+1/\ys.length=L.length/\∀(i:Nat) ty off sz,L[i]? =some (ty,off,sz)->∃y,DataW.trod enc P w base spare held n ty ((cs.drop off).take sz)=some y/\Few y.1/\ys[i]? =some y.1:=by
 unfold fieldsOf at ht
 split at ht
 ·rename_i fs hfs
  cases ht
  obtain⟨xs,n,rfl,rfl,hl,hlen,hff⟩:=DataW.trod_struct hfs h
  refine⟨hl,n,xs.map (·.1),by simp only[Rows.uptoBulk],by simp[hlen],fun i ty off sz hi=> ?_⟩
  rw[List.getElem?_map] at hi
  cases hq:fs.toList[i]? with
  |none=>rw[hq] at hi;cases hi
  |some f=>
   rw[hq] at hi
   simp only[Option.map_some,Option.some.injEq,Prod.mk.injEq] at hi
   obtain⟨rfl,rfl,rfl⟩:=hi
   have hi':=(List.getElem?_eq_some_iff.1 hq).1
   rw[Array.length_toList] at hi'
   have h1:=hff i f (by rw[<-hq,Array.getElem?_toList])
   have hxi:i<xs.length:=by omega
   rw[List.getElem?_eq_getElem hxi] at h1
   exact⟨_,h1,aPe hf _ (List.mem_map.2 ⟨_,List.getElem_mem hxi,rfl⟩),by rw[List.getElem?_map,List.getElem?_eq_getElem hxi];rfl⟩
 ·cases ht
theorem aE4 {α:Type} {c:Cod α} {m:α->Nat} {t e:TypeId} (ht:iV P t=some e) (hc:P.cellsOf e=c.size) (ho:aFx P c m e) {H:Type} {enc:TypeId×Value->H} {w:World} {base b0:Nat} {r:Reach} {spare:Nat->Bool} {held:Bool} {v:Value} {d:DataW H} {ps:List MemPlace}
  (hv:Value.okWide P w r b0 t v) (h:DataW.Trod enc P w base spare held t v d ps) (hf:Few d):∃A n cp xs,v= .slice A n cp/\n<=1048576/\n<=cp/\Sl c w A n xs/\(xs.map m).sum+1<=Rows.uptoBulk d:=by
 obtain⟨A,n,cp,rfl⟩:=okWide_slice (lW ht) hv
 obtain⟨fuel,h⟩:=h
 obtain⟨A',n',cp',xs,hcs,hn,hle,hs,hm⟩:=aG1 ht hc ho h hf
 simp only[Value.cells,List.cons.injEq,Value.slice.injEq,and_true] at hcs
 obtain⟨rfl,rfl,rfl⟩:=hcs
 exact⟨_,_,_,xs,rfl,hn,hle,hs,hm⟩
end
theorem aK8 {α:Type}:∀(l:List α),(l.map fun _=>1).sum=l.length
 |[]=>rfl
 |x::l=>by simp only[List.map_cons,List.sum_cons,aK8 l,List.length_cons];omega
theorem own:ownKnob Tryz.prog.godebug=none:=by kernel_rfl
theorem laidOut:laidOutB Tryz.prog=true:=by kernel_rfl
theorem two {α:Type} {cs:List α} (h:cs.length=2):∃a b,cs=[a,b]:=by
 match cs,h with
 |[a,b],_=>exact⟨a,b,rfl⟩
theorem five {α:Type} {cs:List α} (h:cs.length=5):∃a b c d e,cs=[a,b,c,d,e]:=by
 match cs,h with
 |[a,b,c,d,e],_=>exact⟨a,b,c,d,e,rfl⟩
theorem aLs:P.underlying T.int=some (.int .i64):=by kernel_rfl
theorem aRs:P.underlying T.bool=some .bool:=by kernel_rfl
theorem aRy:iV P T.bH=some T.int:=by kernel_rfl
theorem aRx:P.cellsOf T.int=1:=by kernel_rfl
theorem aRm:fieldsOf P T.fJ=some [(T.int,0,1),(T.bH,1,1)]:=by kernel_rfl
theorem fOp:fieldsOf P T.fO=some [(T.int,0,1),(T.bool,1,1),(T.int,2,1),(T.int,3,1),(T.int,4,1)]:=by kernel_rfl
theorem aJ7:P.cellsOf T.fJ=2:=by kernel_rfl
theorem aQq:P.cellsOf T.fO=5:=by kernel_rfl
theorem aNg:iV P T.fB=some T.fJ:=by kernel_rfl
theorem aR0:iV P T.vT=some T.fO:=by kernel_rfl
abbrev aHp:Cod Flat:=aRr mO fun x=>I64 x.fn
theorem aEk:aFx P aHp (fun x=>x.args.length+3) T.fJ:=by
 intro H enc w base spare held fuel cs x h hf
 obtain⟨hl,n,ys,hb,hyl,hfs⟩:=aCw aRm h hf
 rw[aJ7] at hl
 obtain⟨a,b,rfl⟩:=two hl
 obtain⟨z0,z1,rfl⟩:=two hyl
 obtain⟨y0,h0,f0,g0⟩:=hfs 0 _ _ _ rfl
 obtain⟨y1,h1,f1,g1⟩:=hfs 1 _ _ _ rfl
 cases g0
 cases g1
 obtain⟨k0,e0,_,w0⟩:=DataW.trod_int aLs h0
 obtain⟨A,m,c,xs,e1,hm,_,hs,hsum⟩:=aG1 aRy (c:=aEq .i64) aRx (aKg aLs) h1 f1
 simp at e0 e1
 subst e0
 subst e1
 refine⟨rfl,⟨k0,xs⟩,⟨⟨A,m,c,rfl,by unfold Sm;omega,hs⟩,aHa w0⟩,?_⟩
 have o1:=one_le y0.1
 rw[aK8] at hsum
 rw[hb]
 simp only[Rows.uptoBulkAll]
 omega
theorem aHj:aFx P cOp (fun _=>6) T.fO:=by
 intro H enc w base spare held fuel cs x h hf
 obtain⟨hl,n,ys,hb,hyl,hfs⟩:=aCw fOp h hf
 rw[aQq] at hl
 obtain⟨a,b,c,d,e,rfl⟩:=five hl
 obtain⟨z0,z1,z2,z3,z4,rfl⟩:=five hyl
 obtain⟨y0,h0,f0,g0⟩:=hfs 0 _ _ _ rfl
 obtain⟨y1,h1,f1,g1⟩:=hfs 1 _ _ _ rfl
 obtain⟨y2,h2,f2,g2⟩:=hfs 2 _ _ _ rfl
 obtain⟨y3,h3,f3,g3⟩:=hfs 3 _ _ _ rfl
 obtain⟨y4,h4,f4,g4⟩:=hfs 4 _ _ _ rfl
 obtain⟨k0,e0,_,_⟩:=DataW.trod_int aLs h0
 obtain⟨k1,e1,_⟩:=DataW.trod_bool aRs h1
 obtain⟨k2,e2,_,w2⟩:=DataW.trod_int aLs h2
 obtain⟨k3,e3,_,_⟩:=DataW.trod_int aLs h3
 obtain⟨k4,e4,_,_⟩:=DataW.trod_int aLs h4
 simp at e0 e1 e2 e3 e4
 subst e0 e1 e2 e3 e4
 refine⟨rfl,⟨k0,k1,k2,k3,k4⟩,⟨rfl,aHa w2⟩,?_⟩
 rw[hb]
 have o0:=one_le z0
 have o1:=one_le z1
 have o2:=one_le z2
 have o3:=one_le z3
 have o4:=one_le z4
 simp only[Rows.uptoBulkAll]
 omega
theorem aJu:∀(l:List Flat),(l.map fun x=>x.args.length+3).sum=(l.map fun x=>x.args.length).sum+3*l.length
 |[]=>rfl
 |x::l=>by simp only[List.map_cons,List.sum_cons,aJu l,List.length_cons];omega
theorem aIb {α:Type}:∀(l:List α),(l.map fun _=>6).sum=6*l.length
 |[]=>rfl
 |x::l=>by simp only[List.map_cons,List.sum_cons,aIb l,List.length_cons];omega
theorem aKu {fs:List Flat} (h:(fs.map fun x=>x.args.length+3).sum<=1048576) (h64:∀x∈fs,I64 x.fn):Ep (Ns fs fs.length) fs:=by
 rw[aJu] at h
 have e:Ns fs fs.length=(fs.map fun x=>x.args.length).sum:=by unfold Ns;rw[List.take_length]
 rw[<-e] at h
 refine⟨by omega,h64,Nat.le_refl _,by omega,?_⟩
 rcases Nat.lt_or_ge fs.length 262145 with hc|hc
 ·have:=Nat.mul_le_mul (show fs.length<=262144 by omega) (show Ns fs fs.length+2<=1048578 by omega)
  omega
 ·have:=Nat.mul_le_mul (show fs.length<=349526 by omega) (show Ns fs fs.length+2<=786434 by omega)
  omega
theorem aSk:Tryz.prog.globalNamed "internal/strconv.uint64pow10" =some 0:=by kernel_rfl
theorem aNo:(Tryz.prog.globals[0]?).map (·.type)=some T.Zv:=by kernel_rfl
theorem aSa:P.underlying T.Zv=some (.array 20 T.uint64):=by kernel_rfl
theorem aSd:P.underlying T.uint64=some (.int .u64):=by kernel_rfl
theorem aSi:P.cellsOf T.Zv=20:=by kernel_rfl
theorem aSf:P.cellsOf T.uint64=1:=by kernel_rfl
theorem table {W:World} {l:List (String×DataW Unit)} (he:(l.filter fun x=>x.1== "internal/strconv.uint64pow10")=[("internal/strconv.uint64pow10",Lib.tabData .u64 Lib.pow10Tab)]) (h:laidMetH P l W):yG W.heap.size W:=by
 have h1:=laidMetH.filter (fun x=>x.1== "internal/strconv.uint64pow10") h
 rw[he] at h1
 exact Lib.tabBelow_of_tabIs (Lib.tabIs_of_head (rest:=[]) aSk aNo aSa aSd aSf aSi h1)
end Opn
end Go.Proofs.YtnbakpoahcndpaaGreatDoor
