/- The law EufBirkhoff answers true at every input whose reading is of bulk at most 1048576, and the input reads as it did; the tables that it reads are tied to the program's text. Gathered by a program (pack.py) out of smaller texts. -/
import Derived.Test.YtbmbhfghpidggaaDoorBirk5
import Derived.Test.YtbmbhfghpidggaaDoorRows
import Derived.WalkKit
import Derived.ProofKit
import Derived.OpenShut
import Derived.JoinedCond
import Derived.Deep.Slices
import Derived.Below
import Derived.Carry
import Derived.Lib.LaidTab
import Derived.LaidSub
import Derived.Test.YtbmbhfghpidggaaDoorCards
import Derived.Test.YtbmbhfghpidggaaDoorTie
import Derived.Deep.DeepHandedRow
set_option linter.unusedSectionVars false
namespace Go.Proofs.YtbmbhfghpidggaaDoor
set_option linter.unusedVariables false
set_option linter.unusedSimpArgs false
open Wk
theorem index_ints {w:World} {A:Option Addr} {n:Nat} (c:Nat) {xs:List Int} (h:Ints w A n xs) (hn:Sm n) {f:FuncId} {cs:List Value} (hf:callable P f=true) (p:Int→Prop)
  (hp:∀x∈xs,∀w',Ext w w'→Calls P f ([.int .i64 x]++cs:List Value).toArray w' (Ret fun v w2=>∃b,v= .bool b∧(b=true↔p x)∧Ext w' w2)):
  Calls P F.slices_IndexFunc_sl_int_int #[.slice A n c,.func (.func f) #[] cs.toArray] w (Ret fun v w'=>∃r:Int,v= .int .i64 r∧(0≤r↔∃x∈xs,p x)∧Ext w w'):=by
 refine ok_slices_IndexFunc_sl_int_int A n c _ (fun r w'=>(0≤r↔∃x∈xs,p x)∧Ext w w') w ?_
 unfold vc_slices_IndexFunc_sl_int_int
 refine⟨fun m i w'=>m=n-i.toNat∧0≤i∧i≤n∧(∀(k:Nat),(k:Int)<i→∀x,xs[k]? =some x→¬p x)∧Ext w w',⟨n,by omega,by omega,by omega,fun k hk=>by omega,Ext.refl w⟩,?_⟩
 rintro m i w1 ⟨rfl,h0,h1,hall,hE⟩
 refine⟨fun hlt=> ?_,fun hge=> ?_⟩
 ·obtain⟨x,ad,hx,hA,hc⟩:=h.int h0 hlt
  refine⟨h0,hlt,ad,hA,x,hE.cell hc,f,cs,rfl,hf,?_⟩
  refine(hp x (List.mem_of_getElem? hx) w1 hE).mono ?_
  rintro _ w2 ⟨v,rfl,b,rfl,hb,hE2⟩
  refine⟨_,rfl,b,rfl,fun hbt=>⟨⟨fun _=>⟨x,List.mem_of_getElem? hx,hb.1 hbt⟩,fun _=>h0⟩,hE.trans hE2⟩,fun hbf=> ?_⟩
  rw[step_le h0 hlt hn]
  refine⟨n-(i+1).toNat,by omega,rfl,by omega,by omega,fun k hk y hy=> ?_,hE.trans hE2⟩
  rcases Int.lt_or_eq_of_le (show(k:Int)≤i by omega) with hk|hk
  ·exact hall k hk y hy
  ·rw[show k=i.toNat by omega,hx] at hy
   cases hy
   intro hpx
   rw[hb.2 hpx] at hbf
   cases hbf
 ·refine⟨⟨fun h=>absurd h (by decide),?_⟩,hE⟩
  rintro⟨x,hx,hpx⟩
  obtain⟨k,hk⟩:=List.mem_iff_getElem?.1 hx
  refine absurd hpx (hall k ?_ x hk)
  have:=(List.getElem?_eq_some_iff.1 hk).1
  have:=h.1
  omega
theorem contains_ints {w:World} {A:Option Addr} {n:Nat} (c:Nat) {xs:List Int} (h:Ints w A n xs) (hn:Sm n) {f:FuncId} {cs:List Value} (hf:callable P f=true) (p:Int→Prop)
  (hp:∀x∈xs,∀w',Ext w w'→Calls P f ([.int .i64 x]++cs:List Value).toArray w' (Ret fun v w2=>∃b,v= .bool b∧(b=true↔p x)∧Ext w' w2)):
  Calls P F.slices_ContainsFunc_sl_int_int #[.slice A n c,.func (.func f) #[] cs.toArray] w (Ret fun v w'=>∃b,v= .bool b∧(b=true↔∃x∈xs,p x)∧Ext w w'):=by
 refine ok_slices_ContainsFunc_sl_int_int A n c _ (fun b w'=>(b=true↔∃x∈xs,p x)∧Ext w w') w ?_
 unfold vc_slices_ContainsFunc_sl_int_int
 refine(index_ints c h hn hf p hp).mono ?_
 rintro _ w2 ⟨v,rfl,r,rfl,hr,hE⟩
 exact⟨_,rfl,r,rfl,⟨fun hd=>hr.1 (of_decide_eq_true hd),fun hx=>decide_eq_true (hr.2 hx)⟩,hE⟩
def linkVals (x:Lnk) (B:Option Addr) (m c:Nat):Value:= .agg #[.int .i64 x.kind,.int .i64 x.a,.int .i64 x.b,.int .i64 x.tag,.slice B m c]
theorem index_links {w:World} {A:Option Addr} {n:Nat} (c:Nat) {xs:List Lnk} (h:Sl cLink w A n xs) (hn:Sm n) {f:FuncId} {cs:List Value} (hf:callable P f=true) (p:Lnk→Prop)
  (hp:∀x∈xs,∀w' B m c',Ext w w'→Calls P f ([linkVals x B m c']++cs:List Value).toArray w' (Ret fun v w2=>∃b,v= .bool b∧(b=true↔p x)∧Ext w' w2)):
  Calls P F.slices_IndexFunc_sl_api_Link_api_Link #[.slice A n c,.func (.func f) #[] cs.toArray] w (Ret fun v w'=>∃r:Int,v= .int .i64 r∧(0≤r↔∃x∈xs,p x)∧Ext w w'):=by
 refine ok_slices_IndexFunc_sl_api_Link_api_Link A n c _ (fun r w'=>(0≤r↔∃x∈xs,p x)∧Ext w w') w ?_
 unfold vc_slices_IndexFunc_sl_api_Link_api_Link
 refine⟨fun m i w'=>m=n-i.toNat∧0≤i∧i≤n∧(∀(k:Nat),(k:Int)<i→∀x,xs[k]? =some x→¬p x)∧Ext w w',⟨n,by omega,by omega,by omega,fun k hk=>by omega,Ext.refl w⟩,?_⟩
 rintro m i w1 ⟨rfl,h0,h1,hall,hE⟩
 refine⟨fun hlt=> ?_,fun hge=> ?_⟩
 ·obtain⟨x,ad,B,k,c',hx,hA,hc,_,_⟩:=h.link h0 hlt
  refine⟨h0,hlt,ad,hA,_,_,_,_,_,_,_,hE.cells hc,f,cs,rfl,hf,?_⟩
  refine(hp x (List.mem_of_getElem? hx) w1 B k c' hE).mono ?_
  rintro _ w2 ⟨v,rfl,b,rfl,hb,hE2⟩
  refine⟨_,rfl,b,rfl,fun hbt=>⟨⟨fun _=>⟨x,List.mem_of_getElem? hx,hb.1 hbt⟩,fun _=>h0⟩,hE.trans hE2⟩,fun hbf=> ?_⟩
  rw[step_le h0 hlt hn]
  refine⟨n-(i+1).toNat,by omega,rfl,by omega,by omega,fun k hk y hy=> ?_,hE.trans hE2⟩
  rcases Int.lt_or_eq_of_le (show(k:Int)≤i by omega) with hk|hk
  ·exact hall k hk y hy
  ·rw[show k=i.toNat by omega,hx] at hy
   cases hy
   intro hpx
   rw[hb.2 hpx] at hbf
   cases hbf
 ·refine⟨⟨fun h=>absurd h (by decide),?_⟩,hE⟩
  rintro⟨x,hx,hpx⟩
  obtain⟨k,hk⟩:=List.mem_iff_getElem?.1 hx
  refine absurd hpx (hall k ?_ x hk)
  have:=(List.getElem?_eq_some_iff.1 hk).1
  have:=h.1
  omega
theorem contains_links {w:World} {A:Option Addr} {n:Nat} (c:Nat) {xs:List Lnk} (h:Sl cLink w A n xs) (hn:Sm n) {f:FuncId} {cs:List Value} (hf:callable P f=true) (p:Lnk→Prop)
  (hp:∀x∈xs,∀w' B m c',Ext w w'→Calls P f ([linkVals x B m c']++cs:List Value).toArray w' (Ret fun v w2=>∃b,v= .bool b∧(b=true↔p x)∧Ext w' w2)):
  Calls P F.slices_ContainsFunc_sl_api_Link_api_Link #[.slice A n c,.func (.func f) #[] cs.toArray] w (Ret fun v w'=>∃b,v= .bool b∧(b=true↔∃x∈xs,p x)∧Ext w w'):=by
 refine ok_slices_ContainsFunc_sl_api_Link_api_Link A n c _ (fun b w'=>(b=true↔∃x∈xs,p x)∧Ext w w') w ?_
 unfold vc_slices_ContainsFunc_sl_api_Link_api_Link
 refine(index_links c h hn hf p hp).mono ?_
 rintro _ w2 ⟨v,rfl,r,rfl,hr,hE⟩
 exact⟨_,rfl,r,rfl,⟨fun hd=>hr.1 (of_decide_eq_true hd),fun hx=>decide_eq_true (hr.2 hx)⟩,hE⟩
theorem follows_1_is {w:World} {x y:Int} {p:Addr} (hc:w.cell? p=some (.int .i64 y)):
  Calls P F.euf_follows_1 #[.int .i64 x,.pointer (some p)] w (Ret fun v w2=>∃b,v= .bool b∧(b=true↔(x<0∨y≤x))∧Ext w w2):=by
 refine ok_euf_follows_1 x p (fun b w'=>(b=true↔(x<0∨y≤x))∧Ext w w') w ?_
 unfold vc_euf_follows_1 vc_euf_follows_1_J1
 refine⟨fun h=>⟨⟨fun _=> .inl h,fun _=>rfl⟩,Ext.refl w⟩,fun h=>⟨y,hc,⟨fun hd=> .inr (of_decide_eq_true hd),fun hd=>decide_eq_true (by omega)⟩,Ext.refl w⟩⟩
theorem follows_3_is {w:World} {x l:Lnk} {B C:Option Addr} {m c k d:Nat} {p:Addr} (hc:CellsAt w p [.int .i64 l.kind,.int .i64 l.a,.int .i64 l.b,.int .i64 l.tag,.slice C k d]):
  Calls P F.euf_follows_3 #[linkVals x B m c,.pointer (some p)] w (Ret fun v w2=>∃b,v= .bool b∧(b=true↔(x.kind=l.kind∧x.a=l.a∧x.b=l.b∧x.tag=l.tag))∧Ext w w2):=by
 refine ok_euf_follows_3 _ _ _ _ _ _ _ p (fun b w'=>(b=true↔(x.kind=l.kind∧x.a=l.a∧x.b=l.b∧x.tag=l.tag))∧Ext w w') w ?_
 unfold vc_euf_follows_3 vc_euf_follows_3_J1
 intro q w1 hN
 have hE:Ext w w1:=Ext.of_new hN
 have hx:=hN.cells rfl
 have hl:=hE.cells hc
 refine⟨_,hx 0 _ rfl,_,hl 0 _ rfl,fun h1=>⟨_,hx 1 _ rfl,_,hl 1 _ rfl,fun h2=>⟨_,hx 2 _ rfl,_,hl 2 _ rfl,fun h3=>⟨_,hx 3 _ rfl,_,hl 3 _ rfl,?_,hE⟩,fun h3=>⟨?_,hE⟩⟩,fun h2=>⟨?_,hE⟩⟩,fun h1=>⟨?_,hE⟩⟩
 ·exact⟨fun hd=>⟨h1,h2,h3,of_decide_eq_true hd⟩,fun hd=>decide_eq_true hd.2.2.2⟩
 ·exact⟨fun h=>(by cases h),fun h=>absurd h.2.2.1 h3⟩
 ·exact⟨fun h=>(by cases h),fun h=>absurd h.2.1 h2⟩
 ·exact⟨fun h=>(by cases h),fun h=>absurd h.1 h1⟩
theorem follows_2_is {w:World} {i x y k:Int} {p q:Addr} {A B:Option Addr} {n c m d:Nat} {links:List Lnk} {kids:List Int} {v1 v2 v3 v4:Value} (hp:w.cell? p=some (.slice A n c)) (hq:CellsAt w q [v1,v2,v3,v4,.slice B m d])
  (hl:Sl cLink w A n links) (hk:Ints w B m kids) (h0:0≤i) (hi:kids[i.toNat]? =some k) (k0:0≤k) (k1:k<n):
  Quiet P F.euf_follows_2 #[.int .i64 i,.int .i64 x,.int .i64 y,.pointer (some p),.pointer (some q)] w (.bool (dec (kidIs links k x y))):=by
 have him:i<m:=by
  have:=(List.getElem?_eq_some_iff.1 hi).1
  have:=hk.1
  omega
 obtain⟨z,ad,hz,hB,hz2⟩:=hk.int h0 him
 rw[hi] at hz
 cases hz
 obtain⟨u,ad',C,r,s,hu,hA,hcu,_,_⟩:=hl.link k0 k1
 refine Quiet.of ?_
 refine Ret.mono (ok_euf_follows_2 i x y p q (fun b w'=>b=dec (kidIs links k x y)∧Drawn w w') w ?_) (by rintro v w' ⟨b,rfl,rfl,h⟩;exact⟨rfl,h⟩)
 unfold vc_euf_follows_2 vc_euf_follows_2_J1
 refine⟨A,n,c,hp,B,m,d,hq 4 _ rfl,h0,him,ad,hB,k,hz2,k0,k1,ad',hA,_,hcu 1 _ rfl,fun e1=>⟨A,n,c,hp,B,m,d,hq 4 _ rfl,h0,him,ad,hB,k,hz2,k0,k1,ad',hA,_,hcu 2 _ rfl,fun w1 hw1=>⟨?_,hw1⟩⟩,fun e1 w1 hw1=>⟨?_,hw1⟩⟩
 ·refine eq_dec ⟨fun hd=>⟨u,hu,e1,of_decide_eq_true hd⟩,?_⟩
  rintro⟨u',hu',_,h2⟩
  rw[hu] at hu'
  cases hu'
  exact decide_eq_true h2
 ·refine eq_dec ⟨fun h=>(by cases h),?_⟩
  rintro⟨u',hu',h1,_⟩
  rw[hu] at hu'
  cases hu'
  exact absurd h1 e1
end Go.Proofs.YtbmbhfghpidggaaDoor
namespace Go.Proofs.YtbmbhfghpidggaaDoor
set_option linter.unusedVariables false
set_option linter.unusedSimpArgs false
open Wk
structure FolCx (nodes:List Flat) (given links:List Lnk) (at_:Int) (l:Lnk) (A1 A2 A3 B:Option Addr) (n1 n2 n3 m c3 c:Nat) (p1 p2 p3:Addr) (w:World):Prop where
 nd:Sl cFlat w A1 n1 nodes
 gv:Sl cLink w A2 n2 given
 ln:Sl cLink w A3 n3 links
 kd:Ints w B m l.kids
 c1:w.cell? p1=some (.slice A3 n3 c3)
 c2:w.cell? p2=some (.int .i64 at_)
 cl:CellsAt w p3 [.int .i64 l.kind,.int .i64 l.a,.int .i64 l.b,.int .i64 l.tag,.slice B m c]
 s1:Sm n1
 s2:Sm n2
 s3:Sm n3
 sm:Sm m
 at0:0≤at_
 at1:at_<n3
 is:links[at_.toNat]? =some l
section
variable {nodes:List Flat} {given links:List Lnk} {at_:Int} {l:Lnk} {A1 A2 A3 B:Option Addr} {n1 n2 n3 m c3 c:Nat} {p1 p2 p3:Addr} {w w' w0:World}
theorem FolCx.ext (h:FolCx nodes given links at_ l A1 A2 A3 B n1 n2 n3 m c3 c p1 p2 p3 w) (k:Ext w w'):FolCx nodes given links at_ l A1 A2 A3 B n1 n2 n3 m c3 c p1 p2 p3 w':=
 ⟨h.nd.ext k,h.gv.ext k,h.ln.ext k,h.kd.ext k,k.cell h.c1,k.cell h.c2,k.cells h.cl,h.s1,h.s2,h.s3,h.sm,h.at0,h.at1,h.is⟩
theorem follows_J5_is (h:FolCx nodes given links at_ l A1 A2 A3 B n1 n2 n3 m c3 c p1 p2 p3 w) (hE:Ext w0 w) {p6 p7:Addr} {x y:Flat} {C D:Option Addr} {r s d e:Nat} {b:Bool}
  (h6:CellsAt w p6 [.int .i64 x.fn,.slice C r d]) (h7:CellsAt w p7 [.int .i64 y.fn,.slice D s e]) (hC:Ints w C r x.args) (hD:Ints w D s y.args)
  (hx:nodes[l.a.toNat]? =some x) (hy:nodes[l.b.toNat]? =some y) (hk:l.kind=5) (ht:l.tag=0) (hB:Base nodes l at_)
  (hb:b=true↔¬(0≤x.fn∧x.fn=y.fn∧x.args.length=y.args.length∧l.kids.length=x.args.length)):vc_euf_follows_J5 (FolK nodes given links at_ w0) w p3 p6 p7 p1 b:=by
 have hF:Fol nodes given links at_↔Cong links x y l.kids:=(fol_iff h.is).trans ⟨fun k=>(rule5 hk ht hx hy).1 k.2,fun k=>⟨hB,(rule5 hk ht hx hy).2 k⟩⟩
 unfold vc_euf_follows_J5
 refine⟨fun hbt=>⟨⟨fun k=>(by cases k),fun k=> ?_⟩,hE⟩,fun hbf=> ?_⟩
 ·have k:=hF.1 k
  exact absurd ⟨k.1,k.2.1,k.2.2.1,k.2.2.2.1⟩ (hb.1 hbt)
 have hgood:0≤x.fn∧x.fn=y.fn∧x.args.length=y.args.length∧l.kids.length=x.args.length:=by
  rcases Classical.em (0≤x.fn∧x.fn=y.fn∧x.args.length=y.args.length∧l.kids.length=x.args.length) with k|k
  ·exact k
  ·rw[hb.2 k] at hbf;cases hbf
 obtain⟨g1,g2,g3,g4⟩:=hgood
 have e1:=hC.1
 have e2:=hD.1
 have e3:=h.kd.1
 refine⟨B,m,c,h.cl 4 _ rfl,fun q i w'=>q=m-i.toNat∧0≤i∧i≤m∧(∀(j:Nat),(j:Int)<i→∀k u v,l.kids[j]? =some k→x.args[j]? =some u→y.args[j]? =some v→kidIs links k u v)∧Ext w w',⟨m,by omega,by omega,by omega,fun k hk=>by omega,Ext.refl w⟩,?_⟩
 rintro q i w1 ⟨rfl,h0,h1,hall,hE1⟩
 refine⟨fun hlt=> ?_,fun hge=> ?_⟩
 ·have h':=h.ext hE1
  obtain⟨u,a8,hu,hA8,hcu⟩:=(hC.ext hE1).int h0 (by omega)
  obtain⟨v,a9,hv,hA9,hcv⟩:=(hD.ext hE1).int h0 (by omega)
  obtain⟨k,a10,hkk,_,_⟩:=h'.kd.int h0 hlt
  obtain⟨k0,k1⟩:=hB.2 k (List.mem_of_getElem? hkk)
  have hat:=h.at1
  refine⟨C,r,d,hE1.cells h6 1 _ rfl,h0,by omega,a8,hA8,u,hcu,D,s,e,hE1.cells h7 1 _ rfl,h0,by omega,a9,hA9,v,hcv,dec (kidIs links k u v),fun w2 hw2=> ?_,fun w2 hw2=> ?_⟩
  ·exact follows_2_is ((h'.ext (Ext.of_drawn hw2)).c1) ((h'.ext (Ext.of_drawn hw2)).cl) (h'.ext (Ext.of_drawn hw2)).ln (h'.ext (Ext.of_drawn hw2)).kd h0 hkk k0 (by omega)
  ·have hE2:=hE1.drawn hw2
   refine⟨fun hn=>⟨⟨fun k=>(by cases k),fun hf=> ?_⟩,hE.trans hE2⟩,fun hn=> ?_⟩
   ·have:=(hF.1 hf).2.2.2.2 i.toNat k u v hkk hu hv
    rw[dec_iff.2 this] at hn
    cases hn
   ·rw[step_le h0 hlt h.sm]
    refine⟨m-(i+1).toNat,by omega,rfl,by omega,by omega,fun j hj k' u' v' hk' hu' hv'=> ?_,hE2⟩
    rcases Int.lt_or_eq_of_le (show(j:Int)≤i by omega) with hj|hj
    ·exact hall j hj k' u' v' hk' hu' hv'
    ·have ej:j=i.toNat:=by omega
     subst ej
     rw[hkk] at hk'
     rw[hu] at hu'
     rw[hv] at hv'
     cases hk';cases hu';cases hv'
     refine dec_iff.1 ?_
     cases hd:dec (kidIs links k u v) with
     |true=>rfl
     |false=>rw[hd] at hn;cases hn
 ·refine⟨⟨fun _=>hF.2 ⟨g1,g2,g3,g4,fun j k u v hk' hu' hv'=>hall j ?_ k u v hk' hu' hv'⟩,fun _=>rfl⟩,hE.trans hE1⟩
  have:=(List.getElem?_eq_some_iff.1 hk').1
  omega
theorem follows_J6_is (h:FolCx nodes given links at_ l A1 A2 A3 B n1 n2 n3 m c3 c p1 p2 p3 w) (hE:Ext w0 w) {p6 p7:Addr} {x y:Flat} {C D:Option Addr} {r s d e:Nat}
  (h6:CellsAt w p6 [.int .i64 x.fn,.slice C r d]) (h7:CellsAt w p7 [.int .i64 y.fn,.slice D s e]) (hC:Ints w C r x.args) (hD:Ints w D s y.args)
  (hx:nodes[l.a.toNat]? =some x) (hy:nodes[l.b.toNat]? =some y) (hk:l.kind=5) (ht:l.tag=0) (hB:Base nodes l at_):vc_euf_follows_J6 (FolK nodes given links at_ w0) p3 p1 p6 p7 w:=by
 unfold vc_euf_follows_J6
 have e1:=hC.1
 have e2:=hD.1
 have e3:=h.kd.1
 have key:∀b,(b=true↔¬(0≤x.fn∧x.fn=y.fn∧x.args.length=y.args.length∧l.kids.length=x.args.length))→vc_euf_follows_J5 (FolK nodes given links at_ w0) w p3 p6 p7 p1 b:=fun b hb=>
  follows_J5_is h hE h6 h7 hC hD hx hy hk ht hB hb
 refine⟨_,h6 0 _ rfl,fun hn=>key true ⟨fun _=>by omega,fun _=>rfl⟩,fun hn=>⟨_,h6 0 _ rfl,_,h7 0 _ rfl,fun hne=>key true ⟨fun _=>by omega,fun _=>rfl⟩,fun hne=>⟨_,_,_,h6 1 _ rfl,_,_,_,h7 1 _ rfl,fun hl=>key true ⟨fun _=>by omega,fun _=>rfl⟩,fun hl=>⟨_,_,_,h.cl 4 _ rfl,_,_,_,h6 1 _ rfl,key _ ?_⟩⟩⟩⟩
 rw[decide_eq_true_iff]
 omega
theorem follows_J7_is (h:FolCx nodes given links at_ l A1 A2 A3 B n1 n2 n3 m c3 c p1 p2 p3 w) (hE:Ext w0 w) {c2:Nat} {b:Bool}
  (hb:b=true↔¬(0≤l.a∧0≤l.b∧l.a<nodes.length∧l.b<nodes.length)):vc_euf_follows_J7 (FolK nodes given links at_ w0) w p3 p2 A2 n2 c2 p1 n1 A1 b:=by
 have hF:=fol_iff (nodes:=nodes) (given:=given) h.is
 unfold vc_euf_follows_J7
 refine⟨fun hbt=>⟨⟨fun k=>(by cases k),fun k=>absurd (hF.1 k).1.1 (hb.1 hbt)⟩,hE⟩,fun hbf=> ?_⟩
 have hgood:0≤l.a∧0≤l.b∧l.a<nodes.length∧l.b<nodes.length:=by
  rcases Classical.em (0≤l.a∧0≤l.b∧l.a<nodes.length∧l.b<nodes.length) with k|k
  ·exact k
  ·rw[hb.2 k] at hbf;cases hbf
 have e0:=h.nd.1
 have e3:=h.kd.1
 refine⟨B,m,c,h.cl 4 _ rfl,?_⟩
 refine(contains_ints c h.kd h.sm rfl (fun x=>x<0∨at_≤x) (fun x hx w' hw'=>follows_1_is (hw'.cell h.c2))).mono ?_
 rintro _ w5 ⟨_,rfl,b3,rfl,hb3,hE5⟩
 have h:=h.ext hE5
 replace hE:=hE.trans hE5
 refine⟨_,rfl,b3,rfl,fun hbt=>⟨⟨fun k=>(by cases k),fun k=> ?_⟩,hE⟩,fun hbf3=> ?_⟩
 ·obtain⟨k',hk',hbad⟩:=hb3.1 hbt
  have:=(hF.1 k).1.2 k' hk'
  omega
 have hB:Base nodes l at_:=⟨hgood,fun k hk=>by
  rcases Classical.em (0≤k∧k<at_) with hh|hh
  ·exact hh
  ·rw[hb3.2 ⟨k,hk,by omega⟩] at hbf3
   cases hbf3⟩
 have hF':Fol nodes given links at_↔Rule nodes given links l:=hF.trans ⟨fun k=>k.2,fun k=>⟨hB,k⟩⟩
 have hno:¬Rule nodes given links l→∀w',Ext w5 w'→FolK nodes given links at_ w0 false w':=fun hn w' hw'=>⟨⟨fun k=>(by cases k),fun k=>absurd (hF'.1 k) hn⟩,hE.trans hw'⟩
 have nil_iff:(m:Int)=0↔l.kids=[]:=by rw[←List.length_eq_zero_iff];omega
 refine⟨_,h.cl 0 _ rfl,fun hk1=>⟨B,m,c,h.cl 4 _ rfl,fun hm0=> ?_,fun hm0=>hno (fun k=>hm0 (nil_iff.2 ((rule1 hk1).1 k).1)) _ (Ext.refl _)⟩,fun hk1=>⟨_,h.cl 3 _ rfl,fun ht=>hno (rule_tag hk1 ht) _ (Ext.refl _),fun ht=> ?_⟩⟩
 ·refine(contains_links c2 h.gv h.s2 rfl (fun g=>g.kind=l.kind∧g.a=l.a∧g.b=l.b∧g.tag=l.tag) (fun g hg w' _ _ _ hw'=>follows_3_is (hw'.cells h.cl))).mono ?_
  rintro _ w6 ⟨_,rfl,b4,rfl,hb4,hE6⟩
  refine⟨_,rfl,b4,rfl,?_⟩
  unfold vc_euf_follows_J1
  refine⟨hb4.trans ⟨fun⟨g,hg,h1,h2⟩=>hF'.2 ((rule1 hk1).2 ⟨nil_iff.1 hm0,g,hg,h1.trans hk1,h2⟩),fun k=> ?_⟩,hE.trans hE6⟩
  obtain⟨_,g,hg,h1,h2⟩:=(rule1 hk1).1 (hF'.1 k)
  exact⟨g,hg,h1.trans hk1.symm,h2⟩
 have ht:l.tag=0:=by omega
 have at1:=h.at1
 refine⟨_,h.cl 0 _ rfl,fun hk2=>⟨B,m,c,h.cl 4 _ rfl,fun hm0=>⟨_,h.cl 1 _ rfl,_,h.cl 2 _ rfl,?_⟩,fun hm0=>hno (fun k=>hm0 (nil_iff.2 ((rule2 hk2 ht).1 k).1)) _ (Ext.refl _)⟩,fun hk2=>⟨fun hk3=>⟨B,m,c,h.cl 4 _ rfl,fun hm1=>⟨_,h.cl 2 _ rfl,_,h.cl 1 _ rfl,?_⟩,fun hm1=>hno (fun k=> ?_) _ (Ext.refl _)⟩,fun hk3=>⟨fun hk4=>⟨B,m,c,h.cl 4 _ rfl,fun hm2=> ?_,fun hm2 w13 hw13=>hno (fun k=> ?_) _ (Ext.of_drawn hw13)⟩,fun hk4=>⟨fun hk5=> ?_,fun hk5=>hno (rule_else hk1 hk2 hk3 hk4 hk5) _ (Ext.refl _)⟩⟩⟩⟩
 ·unfold vc_euf_follows_J2
  refine⟨?_,hE⟩
  rw[decide_eq_true_iff,hF',rule2 hk2 ht]
  exact⟨fun k=>⟨nil_iff.1 hm0,k⟩,fun k=>k.2⟩
 ·obtain⟨k,hk⟩:=List.length_eq_one_iff.1 (show l.kids.length=1 by omega)
  obtain⟨k0,k1⟩:=hB.2 k (by rw[hk];simp)
  refine(follows_2_is (y:=l.a) h.c1 h.cl h.ln h.kd (by omega) (show l.kids[(0:Int).toNat]? =some k by rw[hk];rfl) k0 (by omega)).use ?_
  intro w8 hw8
  refine⟨_,rfl,?_⟩
  unfold vc_euf_follows_J3
  refine⟨?_,hE.drawn hw8⟩
  rw[dec_iff,hF',rule3 hk3 ht]
  refine⟨fun q=>⟨k,hk,q⟩,?_⟩
  rintro⟨k',hk',q⟩
  rw[hk] at hk'
  cases hk'
  exact q
 ·obtain⟨k',hk',_⟩:=(rule3 hk3 ht).1 k
  rw[hk'] at e3
  exact hm1 (by simp at e3;omega)
 ·obtain⟨k,k',hk⟩:=(show∃k k',l.kids=[k,k'] from by
   have:l.kids.length=2:=by omega
   match hl:l.kids,this with
   |[k,k'],_=>exact⟨k,k',rfl⟩)
  obtain⟨k0,k1⟩:=hB.2 k (by rw[hk];simp)
  obtain⟨k0',k1'⟩:=hB.2 k' (by rw[hk];simp)
  have hk0:l.kids[(0:Int).toNat]? =some k:=by rw[hk];rfl
  have hk1':l.kids[(1:Int).toNat]? =some k':=by rw[hk];rfl
  obtain⟨kk,a2,hkk,hB2,hck⟩:=h.kd.int (i:=0) (by omega) (by omega)
  rw[hk0] at hkk
  cases hkk
  obtain⟨u,a3,C,r,d,hu,hA3,hcu,_,_⟩:=h.ln.link k0 (by omega)
  have hR:Rule nodes given links l↔kidIs links k l.a u.b∧kidIs links k' u.b l.b:=by
   rw[rule4 hk4 ht]
   refine⟨?_,fun q=>⟨k,k',hk,u.b,q⟩⟩
   rintro⟨j,j',hj,x,⟨q,hq,hqa,hqb⟩,hx2⟩
   rw[hk] at hj
   cases hj
   rw[hu] at hq
   cases hq
   subst hqb
   exact⟨⟨u,hu,hqa,rfl⟩,hx2⟩
  refine⟨_,h.cl 1 _ rfl,A3,n3,c3,h.c1,B,m,c,h.cl 4 _ rfl,by omega,by omega,a2,hB2,k,hck,k0,by omega,a3,hA3,_,hcu 2 _ rfl,dec (kidIs links k l.a u.b),fun w' hw'=> ?_,fun hd=> ?_,fun hd w12 hw12=> ?_⟩
  ·have h:=h.ext (Ext.of_drawn hw')
   exact follows_2_is h.c1 h.cl h.ln h.kd (by omega) hk0 k0 (by omega)
  ·refine⟨A3,n3,c3,h.c1,B,m,c,h.cl 4 _ rfl,by omega,by omega,a2,hB2,k,hck,k0,by omega,a3,hA3,_,hcu 2 _ rfl,_,h.cl 2 _ rfl,dec (kidIs links k' u.b l.b),fun w' hw'=> ?_,fun w10 hw10=> ?_⟩
   ·have h:=h.ext (Ext.of_drawn hw')
    exact follows_2_is h.c1 h.cl h.ln h.kd (by omega) hk1' k0' (by omega)
   ·unfold vc_euf_follows_J4
    refine⟨?_,hE.drawn hw10⟩
    rw[dec_iff,hF',hR]
    exact⟨fun q=>⟨dec_iff.1 hd,q⟩,fun q=>q.2⟩
  ·unfold vc_euf_follows_J4
   refine hno (fun q=> ?_) _ (Ext.of_drawn hw12)
   rw[dec_iff.2 (hR.1 q).1] at hd
   cases hd
 ·obtain⟨k1,k2,hk',_⟩:=(rule4 hk4 ht).1 k
  rw[hk'] at e3
  exact hm2 (by simp at e3;omega)
 ·obtain⟨x,a6,C,r,d,hx,hA6,hcx,sr,hC⟩:=h.nd.flat hgood.1 (by omega)
  obtain⟨y,a7,D,s,e,hy,hA7,hcy,ss,hD⟩:=h.nd.flat hgood.2.1 (by omega)
  have n0:∀b,¬(fun _:Nat=>False) b:=fun b k=>k
  refine⟨fun _=>False,_,h.cl 1 _ rfl,id,hgood.1,by omega,a6,hA6,_,C,r,d,hcx,id,_,h.cl 2 _ rfl,id,hgood.2.1,by omega,a7,hA7,_,D,s,e,hcy,id,?_,?_⟩
  ·intro w23 hw23 p4 w14 hN4 w22 hw22 p5 w15 hN5 w21 hw21
   obtain⟨E,s1,s2,hne,q1,q2⟩:=two_new hw23 hN4 hw22 hN5 hw21
   refine⟨s1,fun w16 hw16=> ?_⟩
   refine⟨E.set hw16 (.inl q1),fun w20 hw20=> ?_⟩
   obtain⟨E',s3,hh⟩:=two_set (us:=[.int .i64 x.fn,.slice C r d]) (vs:=[.int .i64 y.fn,.slice D s e]) E s1 s2 hne q1 q2 hw16 hw20
   refine⟨s3,fun w17 hw17 w18 hw18=> ?_⟩
   obtain⟨E18,k1,k2⟩:=hh w17 hw17 w18 hw18
   exact follows_J6_is (h.ext E18) (hE.trans E18) k1 k2 (hC.ext E18) (hD.ext E18) hx hy hk5 ht hB
  ·intro w32 hw32 p8 w24 hN8 w31 hw31 p9 w25 hN9 w30 hw30
   obtain⟨E,s1,s2,hne,q1,q2⟩:=two_new hw32 hN8 hw31 hN9 hw30
   refine⟨s2,fun w16 hw16=> ?_⟩
   refine⟨E.set hw16 (.inl q2),fun w20 hw20=> ?_⟩
   obtain⟨E',s3,hh⟩:=two_set (us:=[.int .i64 x.fn,.slice C r d]) (vs:=[.int .i64 y.fn,.slice D s e]) E s2 s1 hne.symm q2 q1 hw16 hw20
   refine⟨s3,fun w17 hw17 w18 hw18=> ?_⟩
   obtain⟨E18,k1,k2⟩:=hh w17 hw17 w18 hw18
   exact follows_J6_is (h.ext E18) (hE.trans E18) k1 k2 (hC.ext E18) (hD.ext E18) hx hy hk5 ht hB
theorem euf_follows_is {w:World} {nodes:List Flat} {given links:List Lnk} {A1 A2 A3:Option Addr} {n1 n2 n3:Nat} (c1 c2 c3:Nat) {at_:Int} (h1:Sl cFlat w A1 n1 nodes) (h2:Sl cLink w A2 n2 given) (h3:Sl cLink w A3 n3 links)
  (s1:Sm n1) (s2:Sm n2) (s3:Sm n3) (i0:0≤at_) (i1:at_<n3):
  Calls P F.euf_follows #[.slice A1 n1 c1,.slice A2 n2 c2,.slice A3 n3 c3,.int .i64 at_] w (Ret fun v w'=>∃b,v= .bool b∧(b=true↔Fol nodes given links at_)∧Ext w w'):=by
 refine ok_euf_follows A1 n1 c1 A2 n2 c2 A3 n3 c3 at_ (FolK nodes given links at_ w) w ?_
 unfold vc_euf_follows
 intro p1 w1 hN1 p2 w2 hN2
 have E2:Ext w w2:=(Ext.of_new hN1).new hN2
 have hc1:w2.cell? p1=some (.slice A3 n3 c3):=(Ext.of_new hN2).cell (by simpa [Addr.add_zero] using hN1.cells rfl 0 _ rfl)
 have hc2:w2.cell? p2=some (.int .i64 at_):=by simpa [Addr.add_zero] using hN2.cells rfl 0 _ rfl
 obtain⟨l,a1,B,m,c,hl,hA,hc,hsm,hk⟩:=(h3.ext E2).link i0 i1
 refine⟨A3,n3,c3,hc1,at_,hc2,i0,i1,a1,hA,_,_,_,_,B,m,c,hc,fun p3 w3 hN3=>⟨hN3.soft rfl,fun w4 hw4=> ?_⟩⟩
 have hN:=hN3.store hw4 rfl
 have E4:Ext w2 w4:=Ext.of_new hN
 have E:=E2.trans E4
 have e0:=h1.1
 have cx:FolCx nodes given links at_ l A1 A2 A3 B n1 n2 n3 m c3 c p1 p2 p3 w4:=⟨h1.ext E,h2.ext E,h3.ext E,hk.ext E4,E4.cell hc1,E4.cell hc2,hN.cells rfl,s1,s2,s3,hsm,i0,i1,hl⟩
 have key:∀b,(b=true↔¬(0≤l.a∧0≤l.b∧l.a<nodes.length∧l.b<nodes.length))→vc_euf_follows_J7 (FolK nodes given links at_ w) w4 p3 p2 A2 n2 c2 p1 n1 A1 b:=fun b hb=>follows_J7_is cx E hb
 refine⟨_,cx.cl 1 _ rfl,fun q=>key true ⟨fun _=>by omega,fun _=>rfl⟩,fun q=>⟨_,cx.cl 2 _ rfl,fun q2=>key true ⟨fun _=>by omega,fun _=>rfl⟩,fun q2=>⟨_,cx.cl 1 _ rfl,fun q3=>key true ⟨fun _=>by omega,fun _=>rfl⟩,fun q3=>⟨_,cx.cl 2 _ rfl,key _ ?_⟩⟩⟩⟩
 rw[decide_eq_true_iff]
 omega
end
theorem euf_Audit_is {w:World} {nodes:List Flat} {given links:List Lnk} {A1 A2 A3:Option Addr} {n1 n2 n3:Nat} (c1 c2 c3:Nat) (h1:Sl cFlat w A1 n1 nodes) (h2:Sl cLink w A2 n2 given) (h3:Sl cLink w A3 n3 links)
  (s1:Sm n1) (s2:Sm n2) (s3:Sm n3):
  Calls P F.euf_Audit #[.slice A1 n1 c1,.slice A2 n2 c2,.slice A3 n3 c3] w (Ret fun v w'=>∃r e:Int,v= .tuple #[.int .i64 r,.int .i64 e]∧AuditIs nodes given links r e∧Ext w w'):=by
 refine ok_euf_Audit A1 n1 c1 A2 n2 c2 A3 n3 c3 (fun r e w'=>AuditIs nodes given links r e∧Ext w w') w ?_
 unfold vc_euf_Audit
 refine(euf_sound_is c1 h1 s1).mono ?_
 rintro _ w1 ⟨_,rfl,b,rfl,hb,E1⟩
 refine⟨_,rfl,b,rfl,fun hn=>⟨.inl ⟨fun hs=> ?_,rfl,rfl⟩,E1⟩,fun hn=> ?_⟩
 ·rw[hb.2 hs] at hn;cases hn
 have hs:Sound nodes:=hb.1 (by cases b<;>simp at hn⊢)
 have e3:=h3.1
 refine⟨fun m i w'=>m=n3-i.toNat∧0≤i∧i≤n3∧(∀k:Nat,(k:Int)<i→Fol nodes given links k)∧Ext w w',⟨n3,by omega,by omega,by omega,fun k hk=>by omega,E1⟩,?_⟩
 rintro m i w2 ⟨rfl,i0,i1,hall,E2⟩
 refine⟨fun hlt=> ?_,fun hge=>⟨.inr ⟨hs,rfl,.inl ⟨rfl,fun k hk=>hall k (by omega)⟩⟩,E2⟩⟩
 refine(euf_follows_is c1 c2 c3 (h1.ext E2) (h2.ext E2) (h3.ext E2) s1 s2 s3 i0 hlt).mono ?_
 rintro _ w3 ⟨_,rfl,b2,rfl,hb2,E3⟩
 refine⟨_,rfl,b2,rfl,fun hn=>⟨.inr ⟨hs,rfl,.inr ⟨i0,by omega,fun hf=> ?_,hall⟩⟩,E2.trans E3⟩,fun hn=> ?_⟩
 ·rw[hb2.2 hf] at hn;cases hn
 ·have hf:=hb2.1 (by cases b2<;>simp at hn⊢)
  rw[step_le i0 hlt s3]
  refine⟨n3-(i+1).toNat,by omega,rfl,by omega,by omega,fun k hk=> ?_,E2.trans E3⟩
  rcases Int.lt_or_eq_of_le (show(k:Int)≤i by omega) with hk|hk
  ·exact hall k hk
  ·rw[hk];exact hf
end Go.Proofs.YtbmbhfghpidggaaDoor
namespace Go.Proofs.YtbmbhfghpidggaaDoor
set_option linter.unusedVariables false
set_option linter.unusedSimpArgs false
set_option maxHeartbeats 2000000
set_option maxRecDepth 20000
open Wk
def vc_arbiterlaw13_known_J1 (K:Bool→World→Prop) (b3:Bool) (w3:World):Prop:=
 K b3 w3
def vc_arbiterlaw13_known (q1:Option Addr) (x1:Int) (x2:Int) (K:Bool→World→Prop) (w:World):Prop:=
 Calls P F.euf_Graph_Same #[(.pointer q1),(.int .i64 x1),(.int .i64 x2)] w (Ret fun v1 w1=>∃b2,∃x3,v1=(.tuple #[(.bool b2),(.int .i64 x3)])∧(b2=true→(Calls P F.arbiterlaw13_no #[(.int .i64 x3)] w1 (Ret fun v2 w2=>∃x4,v2=(.int .i64 x4)∧(vc_arbiterlaw13_known_J1 K) (decide (x4=0)) w2)))∧(b2=false→((vc_arbiterlaw13_known_J1 K) false w1)))
theorem ok_arbiterlaw13_known (q1:Option Addr) (x1:Int) (x2:Int) (K:Bool→World→Prop) (w:World) (H:vc_arbiterlaw13_known q1 x1 x2 K w):Calls P F.arbiterlaw13_known #[(.pointer q1),(.int .i64 x1),(.int .i64 x2)] w (Ret fun v w'=>∃b1,v=(.bool b1)∧K b1 w'):=by
 unfold vc_arbiterlaw13_known at H;refine calls_of (P:=P) Tryd.func25 rfl [(0,(.pointer q1)),(1,(.int .i64 x1)),(2,(.int .i64 x2))] 22 rfl rfl (aa rfl (aa rfl (aa rfl az))) (cw_seq (cw_region (ag rfl (sl_nil (nc (kp 0 rfl (kp 1 rfl (kp 2 rfl zz))) (cw_seq (cw_region (mv rfl (mv rfl (mv rfl (sl_call rfl rfl (wanted_none rfl) (fun a ha=>x_call0 (ha.ev rfl) (ha.evs rfl) FF.callable_euf_Graph_Same) H ?_)))))))))));rintro _ w1 ⟨b2,x3,rfl,H⟩;refine mv rfl (sv rfl rfl (fun a ha=>x_extract (ha.ev rfl) rfl) (sv rfl rfl (fun a ha=>x_extract (ha.ev rfl) rfl) (ag rfl (ag rfl (sl_nil (nc (kp 7 rfl (kp 8 rfl zz)) ?_))))));refine cw_join (fun a w=>∃b3,Ok 22 [(6,(.bool b3))] a∧vc_arbiterlaw13_known_J1 K b3 w) ?_ ?_
 ·rintro a w3 ⟨b3,ha,H⟩;unfold vc_arbiterlaw13_known_J1 at H;refine(?_:CW _ _ _ 22 [(6,(.bool b3))] _) a ha;exact cw_ret (nx_body_ret (res1 rfl rfl) ⟨_,rfl,_,rfl,H⟩)
 ·refine cw_region (mv rfl ?_);rcases tf b2 with hb|hb
  ·replace H:=H.1 hb;refine sv rfl rfl (fun a ha=>o_bt (x_move (ha.ev rfl)) hb) (mvg rfl rfl rfl (sl_call rfl rfl (wanted_some rfl rfl rfl) (fun a ha=>x_call0 (ha.ev rfl) (ha.evs rfl) FF.callable_arbiterlaw13_no) H ?_));rintro _ w2 ⟨x4,rfl,H⟩;exact bog rfl rfl rfl rfl o_eql (pt rfl rfl (ag rfl (sl_nil (nx_to fun a ha=>⟨(decide (x4=0)),ha.weaken (cn rfl zz),H⟩))))
  ·replace H:=H.2 hb;exact sv rfl rfl (fun a ha=>o_bf (x_move (ha.ev rfl)) hb) (sk rfl rfl rfl rfl (sk rfl rfl rfl rfl (sk rfl rfl rfl rfl (pf rfl rfl (ag rfl (sl_nil (nx_to fun a ha=>⟨false,ha.weaken (cn rfl zz),H⟩)))))))
def vc_arbiterlaw13_proved_J1 (k1:Nat) (I1:Nat→Option Addr→Nat→Nat→Int→World→Prop) (x8:Int) (A7:Option Addr) (n7 c7:Nat) (w7:World):Prop:=
 ∃k2,k2<k1∧I1 k2 A7 n7 c7 (IntKind.wrap .i64 (x8+1)) w7
def vc_arbiterlaw13_proved_J2 (K:Bool→World→Prop) (b4:Bool) (w10:World):Prop:=
 K b4 w10
def vc_arbiterlaw13_proved_J3 (K:Bool→World→Prop) (n4:Nat) (A4:Option Addr) (A1:Option Addr) (n1 c1:Nat) (A2:Option Addr) (n2 c2:Nat) (x1:Int) (x2:Int) (b2:Bool) (w2:World):Prop:=
 (b2=true→(K false w2))∧(b2=false→(∃I1:Nat→Option Addr→Nat→Nat→Int→World→Prop,(∃k1,I1 k1 none 0 0 0 w2)∧∀k1 (A5:Option Addr) (n5 c5:Nat) (x8:Int) (w4:World),I1 k1 A5 n5 c5 x8 w4→((x8<(n4:Int)→(0≤x8∧x8<(n4:Int)∧∃a3,A4=some a3∧∃x9,w4.cell? ((a3.add (x8.toNat*5)).add 0)=some (.int .i64 x9)∧(x9=1→(0≤x8∧x8<(n4:Int)∧∃a4,A4=some a4∧∃x10,w4.cell? ((a4.add (x8.toNat*5)).add 3)=some (.int .i64 x10)∧∀(p1:Addr) (w5:World),New w4 (.cells #[(.int .i64 x10)] T.int) p1 w5→(∃(A6:Option Addr) (n6 c6:Nat) (w6:World),(Builtin.append_ #[T.sl_int,T.sl_int] T.sl_int #[(.slice A5 n5 c5),(.slice (some p1) 1 1)]).run P w5= .ok (.slice A6 n6 c6) w6∧((vc_arbiterlaw13_proved_J1 k1 I1 x8) A6 n6 c6 w6))))∧(¬(x9=1)→((vc_arbiterlaw13_proved_J1 k1 I1 x8) A5 n5 c5 w4))))∧(¬(x8<(n4:Int))→(Calls P F.arbiterlaw13_told #[(.slice A1 n1 c1),(.slice A2 n2 c2),(.slice A5 n5 c5),(.bool false)] w4 (Ret fun v3 w8=>∃q1,v3=(.pointer q1)∧(q1≠none→(Calls P F.arbiterlaw13_known #[(.pointer q1),(.int .i64 x1),(.int .i64 x2)] w8 (Ret fun v4 w9=>∃b3,v4=(.bool b3)∧(vc_arbiterlaw13_proved_J2 K) b3 w9)))∧(¬(q1≠none)→((vc_arbiterlaw13_proved_J2 K) false w8))))))))
def vc_arbiterlaw13_proved (A1:Option Addr) (n1 c1:Nat) (A2:Option Addr) (n2 c2:Nat) (A3:Option Addr) (n3 c3:Nat) (A4:Option Addr) (n4 c4:Nat) (x1:Int) (x2:Int) (K:Bool→World→Prop) (w:World):Prop:=
 Calls P F.euf_Audit #[(.slice A1 n1 c1),(.slice A3 n3 c3),(.slice A4 n4 c4)] w (Ret fun v1 w1=>∃x3,∃x4,v1=(.tuple #[(.int .i64 x3),(.int .i64 x4)])∧(x3≠(-1)→((vc_arbiterlaw13_proved_J3 K n4 A4 A1 n1 c1 A2 n2 c2 x1 x2) true w1))∧(¬(x3≠(-1))→(Calls P F.arbiterlaw13_no #[(.int .i64 x4)] w1 (Ret fun v2 w3=>∃x5,v2=(.int .i64 x5)∧(x5≠0→((vc_arbiterlaw13_proved_J3 K n4 A4 A1 n1 c1 A2 n2 c2 x1 x2) true w3))∧(¬(x5≠0)→(((n4:Int)=0→((vc_arbiterlaw13_proved_J3 K n4 A4 A1 n1 c1 A2 n2 c2 x1 x2) true w3))∧(¬((n4:Int)=0)→(0≤IntKind.wrap .i64 ((n4:Int)-1)∧IntKind.wrap .i64 ((n4:Int)-1)<(n4:Int)∧∃a1,A4=some a1∧∃x6,w3.cell? ((a1.add ((IntKind.wrap .i64 ((n4:Int)-1)).toNat*5)).add 1)=some (.int .i64 x6)∧(x6≠x1→((vc_arbiterlaw13_proved_J3 K n4 A4 A1 n1 c1 A2 n2 c2 x1 x2) true w3))∧(¬(x6≠x1)→(0≤IntKind.wrap .i64 ((n4:Int)-1)∧IntKind.wrap .i64 ((n4:Int)-1)<(n4:Int)∧∃a2,A4=some a2∧∃x7,w3.cell? ((a2.add ((IntKind.wrap .i64 ((n4:Int)-1)).toNat*5)).add 2)=some (.int .i64 x7)∧(vc_arbiterlaw13_proved_J3 K n4 A4 A1 n1 c1 A2 n2 c2 x1 x2) (decide (x7≠x2)) w3))))))))))
theorem ok_arbiterlaw13_proved (A1:Option Addr) (n1 c1:Nat) (A2:Option Addr) (n2 c2:Nat) (A3:Option Addr) (n3 c3:Nat) (A4:Option Addr) (n4 c4:Nat) (x1:Int) (x2:Int) (K:Bool→World→Prop) (w:World) (H:vc_arbiterlaw13_proved A1 n1 c1 A2 n2 c2 A3 n3 c3 A4 n4 c4 x1 x2 K w):Calls P F.arbiterlaw13_proved #[(.slice A1 n1 c1),(.slice A2 n2 c2),(.slice A3 n3 c3),(.slice A4 n4 c4),(.int .i64 x1),(.int .i64 x2)] w (Ret fun v w'=>∃b1,v=(.bool b1)∧K b1 w'):=by
 unfold vc_arbiterlaw13_proved at H;refine calls_of (P:=P) Tryd.func11 rfl [(0,(.slice A1 n1 c1)),(1,(.slice A2 n2 c2)),(2,(.slice A3 n3 c3)),(3,(.slice A4 n4 c4)),(4,(.int .i64 x1)),(5,(.int .i64 x2))] 91 rfl rfl (aa rfl (aa rfl (aa rfl (aa rfl (aa rfl (aa rfl az)))))) (cw_seq (cw_region (ag rfl (sl_nil (nc (kp 0 rfl (kp 1 rfl (kp 2 rfl (kp 3 rfl (kp 4 rfl (kp 5 rfl zz)))))) (cw_seq (cw_region (mv rfl (mv rfl (mv rfl (sl_call rfl rfl (wanted_none rfl) (fun a ha=>x_call0 (ha.ev rfl) (ha.evs rfl) FF.callable_euf_Audit) H ?_)))))))))));rintro _ w1 ⟨x3,x4,rfl,H⟩;refine mv rfl (sv rfl rfl (fun a ha=>x_extract (ha.ev rfl) rfl) (sv rfl rfl (fun a ha=>x_extract (ha.ev rfl) rfl) (ag rfl (ag rfl (sl_nil (nc (kp 0 rfl (kp 1 rfl (kp 3 rfl (kp 4 rfl (kp 5 rfl (kp 13 rfl (kp 14 rfl zz))))))) (cw_seq ?_)))))));refine cw_join (fun a w=>∃b2,Ok 91 [(0,(.slice A1 n1 c1)),(1,(.slice A2 n2 c2)),(3,(.slice A4 n4 c4)),(4,(.int .i64 x1)),(5,(.int .i64 x2)),(58,(.bool b2))] a∧vc_arbiterlaw13_proved_J3 K n4 A4 A1 n1 c1 A2 n2 c2 x1 x2 b2 w) ?_ ?_
 ·rintro a w2 ⟨b2,ha,H⟩;unfold vc_arbiterlaw13_proved_J3 at H;refine(?_:CW _ _ _ 91 [(0,(.slice A1 n1 c1)),(1,(.slice A2 n2 c2)),(3,(.slice A4 n4 c4)),(4,(.int .i64 x1)),(5,(.int .i64 x2)),(58,(.bool b2))] _) a ha;refine cw_cond rfl (fun hb=> ?_) (fun hb=> ?_)
  ·replace H:=H.1 hb;exact cw_seq (cw_region (ag rfl (sl_nil (nc (kp 12 rfl zz) (cw_ret (nx_ret_then (nx_body_ret (res1 rfl rfl) ⟨_,rfl,_,rfl,H⟩)))))))
  ·replace H:=H.2 hb;refine cw_skip (nc (kp 0 rfl (kp 1 rfl (kp 3 rfl (kp 4 rfl (kp 5 rfl zz))))) (cw_seq (cw_region (ag rfl (sl_nil (nc (kp 0 rfl (kp 1 rfl (kp 3 rfl (kp 4 rfl (kp 5 rfl (kp 15 rfl zz)))))) (cw_seq (cw_seq (cw_region (ag rfl (sl_nil (nc (kp 0 rfl (kp 1 rfl (kp 3 rfl (kp 4 rfl (kp 5 rfl (kp 15 rfl (kp 16 rfl zz))))))) (cw_block ?_)))))))))))));obtain⟨I1,⟨k1,hi⟩,H⟩:=H;refine cw_loop (fun k1 a w'=>∃A5 n5 c5,∃x8,Ok 91 [(0,(.slice A1 n1 c1)),(1,(.slice A2 n2 c2)),(3,(.slice A4 n4 c4)),(4,(.int .i64 x1)),(5,(.int .i64 x2)),(15,(.slice A5 n5 c5)),(16,(.int .i64 x8))] a∧I1 k1 A5 n5 c5 x8 w') (fun a ha=>⟨k1,none,0,0,0,ha.weaken (sub.cons rfl (sub.cons rfl (sub.cons rfl (sub.cons rfl (sub.cons rfl (sub.cons rfl (sub.cons rfl (sub.nil)))))))),hi⟩) ?_;rintro k1 a w4 ⟨A5,n5,c5,x8,ha,hI⟩;replace H:=H k1 A5 n5 c5 x8 w4 hI;refine(?_:CW _ _ _ 91 [(0,(.slice A1 n1 c1)),(1,(.slice A2 n2 c2)),(3,(.slice A4 n4 c4)),(4,(.int .i64 x1)),(5,(.int .i64 x2)),(15,(.slice A5 n5 c5)),(16,(.int .i64 x8))] _) a ha;refine cw_seq (cw_seq (cw_region (mv rfl (mv rfl (sv rfl rfl (fun a ha=>x_builtin (ha.evs rfl) (fun _=>l_slice TF.isslice_sl_api_Link)) (bo rfl rfl o_lss (sl_nil (nc (kp 0 rfl (kp 1 rfl (kp 3 rfl (kp 4 rfl (kp 5 rfl (kp 15 rfl (kp 16 rfl (kp 62 rfl zz)))))))) ?_))))))));refine cw_cond_p rfl (fun hb=> ?_) (fun hb=> ?_)
   ·replace H:=H.1 hb;refine cw_skip (nc (kp 0 rfl (kp 1 rfl (kp 3 rfl (kp 4 rfl (kp 5 rfl (kp 15 rfl (kp 16 rfl zz))))))) ?_);refine cw_join (fun a w=>∃A7 n7 c7,Ok 91 [(0,(.slice A1 n1 c1)),(1,(.slice A2 n2 c2)),(3,(.slice A4 n4 c4)),(4,(.int .i64 x1)),(5,(.int .i64 x2)),(15,(.slice A7 n7 c7)),(16,(.int .i64 x8))] a∧vc_arbiterlaw13_proved_J1 k1 I1 x8 A7 n7 c7 w) ?_ ?_
    ·rintro a w7 ⟨A7,n7,c7,ha,H⟩;unfold vc_arbiterlaw13_proved_J1 at H;refine(?_:CW _ _ _ 91 [(0,(.slice A1 n1 c1)),(1,(.slice A2 n2 c2)),(3,(.slice A4 n4 c4)),(4,(.int .i64 x1)),(5,(.int .i64 x2)),(15,(.slice A7 n7 c7)),(16,(.int .i64 x8))] _) a ha;refine cw_region (mv rfl (bo rfl rfl o_add (ag rfl (sl_nil ?_))));obtain⟨k2,hk,H⟩:=H;exact nx_to fun a ha=>⟨k2,hk,A7,n7,c7,IntKind.wrap .i64 (x8+1),ha.weaken (cn rfl (cn rfl (cn rfl (cn rfl (cn rfl (cn rfl (cn rfl zz))))))),H⟩
    ·refine cw_block (cw_seq (cw_region (mv rfl (mv rfl ?_))));obtain⟨h7,h8,a3,e3,H⟩:=H;refine ix rfl rfl (i_index TF.elem_sl_api_Link TF.size_api_Link e3 h7 h8) (fa rfl (TF.fld_api_Link_0 _ _) ?_);obtain⟨x9,h9,H⟩:=H;refine ld rfl (i_load1 TF.agg_int h9) (bo rfl rfl o_eql (sl_nil (nc (kp 0 rfl (kp 1 rfl (kp 3 rfl (kp 4 rfl (kp 5 rfl (kp 15 rfl (kp 16 rfl (kp 70 rfl zz)))))))) ?_)));refine cw_cond_p rfl (fun hb=> ?_) (fun hb=> ?_)
     ·replace H:=H.1 hb;refine cw_region (mv rfl (mv rfl (mv rfl ?_)));obtain⟨h10,h11,a4,e4,H⟩:=H;refine ix rfl rfl (i_index TF.elem_sl_api_Link TF.size_api_Link e4 h10 h11) (fa rfl (TF.fld_api_Link_3 _ _) ?_);obtain⟨x10,h12,H⟩:=H;refine ld rfl (i_load1 TF.agg_int h12) (sl_new (f:=(fun p=> .slice (some p) 1 1)) rfl rfl (wanted_none rfl) (fun a ha=>x_buildSlice (u:= .slice (some ⟨_,0,none⟩) 1 1) (w':=World.alloc _ (.cells #[(.int .i64 x10)] T.int)) (qs:=[(0,(.int .i64 x10))]) (by simp only[List.map_cons,List.map_nil,ha.ev (x:=(.tmp 76)) rfl]) (by kernel_rfl)) ?_);intro p1 w5 hN;replace H:=H _ _ hN;obtain⟨A6,n6,c6,w6,h13,H⟩:=H;exact sv rfl rfl (fun a ha=>x_builtin (ha.evs rfl) (fun _=>bi_append h13)) (ag rfl (sl_nil (nx_block (nx_to fun a ha=>⟨A6,n6,c6,ha.weaken (cn rfl (cn rfl (cn rfl (cn rfl (cn rfl (cn rfl (cn rfl zz))))))),H⟩))))
     ·replace H:=H.2 hb;exact cw_skip (nx_block (nx_to fun a ha=>⟨A5,n5,c5,ha.weaken (cn rfl (cn rfl (cn rfl (cn rfl (cn rfl (cn rfl (cn rfl zz))))))),H⟩))
   ·replace H:=H.2 hb;refine cw_exit (nx_exit_then (nx_exit_then (nx_exit_hit (nc (kp 0 rfl (kp 1 rfl (kp 4 rfl (kp 5 rfl (kp 15 rfl zz))))) (cw_seq (cw_region (mv rfl (mv rfl (mv rfl (sl_call rfl rfl (wanted_none rfl) (fun a ha=>x_call0 (ha.ev rfl) (ha.evs rfl) FF.callable_arbiterlaw13_told) H ?_))))))))));rintro _ w8 ⟨q1,rfl,H⟩;refine ag rfl (sl_nil (nc (kp 4 rfl (kp 5 rfl (kp 17 rfl zz))) ?_));refine cw_join (fun a w=>∃b4,Ok 91 [(12,(.bool b4))] a∧vc_arbiterlaw13_proved_J2 K b4 w) ?_ ?_
    ·rintro a w10 ⟨b4,ha,H⟩;unfold vc_arbiterlaw13_proved_J2 at H;refine(?_:CW _ _ _ 91 [(12,(.bool b4))] _) a ha;exact cw_ret (nx_body_ret (res1 rfl rfl) ⟨_,rfl,_,rfl,H⟩)
    ·refine cw_region (mv rfl (bo rfl rfl (o_neq_nil TF.ptr_p_euf_Graph) ?_));rcases Classical.em (q1≠none) with hb|hb
     ·replace H:=H.1 hb;refine sv rfl rfl (fun a ha=>o_t (x_move (ha.ev rfl)) hb) (mvg rfl rfl rfl (mvg rfl rfl rfl (mvg rfl rfl rfl (sl_call rfl rfl (wanted_some rfl rfl rfl) (fun a ha=>x_call0 (ha.ev rfl) (ha.evs rfl) FF.callable_arbiterlaw13_known) H ?_))));rintro _ w9 ⟨b3,rfl,H⟩;exact pt rfl rfl (ag rfl (sl_nil (nx_to fun a ha=>⟨b3,ha.weaken (cn rfl zz),H⟩)))
     ·replace H:=H.2 hb;exact sv rfl rfl (fun a ha=>o_f (x_move (ha.ev rfl)) hb) (sk rfl rfl rfl rfl (sk rfl rfl rfl rfl (sk rfl rfl rfl rfl (sk rfl rfl rfl rfl (pf rfl rfl (ag rfl (sl_nil (nx_to fun a ha=>⟨false,ha.weaken (cn rfl zz),H⟩))))))))
 ·refine cw_region (mv rfl (bo rfl rfl o_neq ?_));rcases Classical.em (x3≠(-1)) with hb|hb
  ·replace H:=H.1 hb;exact sv rfl rfl (fun a ha=>o_t (x_move (ha.ev rfl)) hb) (sk rfl rfl rfl rfl (sk rfl rfl rfl rfl (sk rfl rfl rfl rfl (pt rfl rfl (mv rfl (sk rfl rfl rfl rfl (sk rfl rfl rfl rfl (sk rfl rfl rfl rfl (pt rfl rfl (mv rfl (sk rfl rfl rfl rfl (sk rfl rfl rfl rfl (sk rfl rfl rfl rfl (sk rfl rfl rfl rfl (sk rfl rfl rfl rfl (sk rfl rfl rfl rfl (sk rfl rfl rfl rfl (sk rfl rfl rfl rfl (sk rfl rfl rfl rfl (pt rfl rfl (mv rfl (sk rfl rfl rfl rfl (sk rfl rfl rfl rfl (sk rfl rfl rfl rfl (sk rfl rfl rfl rfl (sk rfl rfl rfl rfl (sk rfl rfl rfl rfl (sk rfl rfl rfl rfl (sk rfl rfl rfl rfl (sk rfl rfl rfl rfl (pt rfl rfl (sl_nil (nx_to fun a ha=>⟨true,ha.weaken (cn rfl (cn rfl (cn rfl (cn rfl (cn rfl (cn rfl zz)))))),H⟩)))))))))))))))))))))))))))))))))
  ·replace H:=H.2 hb;refine sv rfl rfl (fun a ha=>o_f (x_move (ha.ev rfl)) hb) (mvg rfl rfl rfl (sl_call rfl rfl (wanted_some rfl rfl rfl) (fun a ha=>x_call0 (ha.ev rfl) (ha.evs rfl) FF.callable_arbiterlaw13_no) H ?_));rintro _ w3 ⟨x5,rfl,H⟩;refine bog rfl rfl rfl rfl o_neq (pf rfl rfl ?_);rcases Classical.em (x5≠0) with hb|hb
   ·replace H:=H.1 hb;exact sv rfl rfl (fun a ha=>o_t (x_move (ha.ev rfl)) hb) (sk rfl rfl rfl rfl (sk rfl rfl rfl rfl (sk rfl rfl rfl rfl (pt rfl rfl (mv rfl (sk rfl rfl rfl rfl (sk rfl rfl rfl rfl (sk rfl rfl rfl rfl (sk rfl rfl rfl rfl (sk rfl rfl rfl rfl (sk rfl rfl rfl rfl (sk rfl rfl rfl rfl (sk rfl rfl rfl rfl (sk rfl rfl rfl rfl (pt rfl rfl (mv rfl (sk rfl rfl rfl rfl (sk rfl rfl rfl rfl (sk rfl rfl rfl rfl (sk rfl rfl rfl rfl (sk rfl rfl rfl rfl (sk rfl rfl rfl rfl (sk rfl rfl rfl rfl (sk rfl rfl rfl rfl (sk rfl rfl rfl rfl (pt rfl rfl (sl_nil (nx_to fun a ha=>⟨true,ha.weaken (cn rfl (cn rfl (cn rfl (cn rfl (cn rfl (cn rfl zz)))))),H⟩))))))))))))))))))))))))))))
   ·replace H:=H.2 hb;refine sv rfl rfl (fun a ha=>o_f (x_move (ha.ev rfl)) hb) (mvg rfl rfl rfl (svg rfl rfl rfl rfl (fun a ha=>x_builtin (ha.evs rfl) (fun _=>l_slice TF.isslice_sl_api_Link)) (bog rfl rfl rfl rfl o_eql (pf rfl rfl ?_))));rcases Classical.em ((n4:Int)=0) with hb|hb
    ·replace H:=H.1 hb;exact sv rfl rfl (fun a ha=>o_t (x_move (ha.ev rfl)) hb) (sk rfl rfl rfl rfl (sk rfl rfl rfl rfl (sk rfl rfl rfl rfl (sk rfl rfl rfl rfl (sk rfl rfl rfl rfl (sk rfl rfl rfl rfl (sk rfl rfl rfl rfl (sk rfl rfl rfl rfl (sk rfl rfl rfl rfl (pt rfl rfl (mv rfl (sk rfl rfl rfl rfl (sk rfl rfl rfl rfl (sk rfl rfl rfl rfl (sk rfl rfl rfl rfl (sk rfl rfl rfl rfl (sk rfl rfl rfl rfl (sk rfl rfl rfl rfl (sk rfl rfl rfl rfl (sk rfl rfl rfl rfl (pt rfl rfl (sl_nil (nx_to fun a ha=>⟨true,ha.weaken (cn rfl (cn rfl (cn rfl (cn rfl (cn rfl (cn rfl zz)))))),H⟩)))))))))))))))))))))))
    ·replace H:=H.2 hb;refine sv rfl rfl (fun a ha=>o_f (x_move (ha.ev rfl)) hb) (mvg rfl rfl rfl (mvg rfl rfl rfl (svg rfl rfl rfl rfl (fun a ha=>x_builtin (ha.evs rfl) (fun _=>l_slice TF.isslice_sl_api_Link)) (bog rfl rfl rfl rfl o_sub ?_))));obtain⟨h1,h2,a1,e1,H⟩:=H;refine ixg rfl rfl rfl rfl (i_index TF.elem_sl_api_Link TF.size_api_Link e1 h1 h2) (fag rfl rfl rfl (TF.fld_api_Link_1 _ _) ?_);obtain⟨x6,h3,H⟩:=H;refine ldg rfl rfl rfl (i_load1 TF.agg_int h3) (mvg rfl rfl rfl (bog rfl rfl rfl rfl o_neq (pf rfl rfl ?_)));rcases Classical.em (x6≠x1) with hb|hb
     ·replace H:=H.1 hb;exact sv rfl rfl (fun a ha=>o_t (x_move (ha.ev rfl)) hb) (sk rfl rfl rfl rfl (sk rfl rfl rfl rfl (sk rfl rfl rfl rfl (sk rfl rfl rfl rfl (sk rfl rfl rfl rfl (sk rfl rfl rfl rfl (sk rfl rfl rfl rfl (sk rfl rfl rfl rfl (sk rfl rfl rfl rfl (pt rfl rfl (sl_nil (nx_to fun a ha=>⟨true,ha.weaken (cn rfl (cn rfl (cn rfl (cn rfl (cn rfl (cn rfl zz)))))),H⟩))))))))))))
     ·replace H:=H.2 hb;refine sv rfl rfl (fun a ha=>o_f (x_move (ha.ev rfl)) hb) (mvg rfl rfl rfl (mvg rfl rfl rfl (svg rfl rfl rfl rfl (fun a ha=>x_builtin (ha.evs rfl) (fun _=>l_slice TF.isslice_sl_api_Link)) (bog rfl rfl rfl rfl o_sub ?_))));obtain⟨h4,h5,a2,e2,H⟩:=H;refine ixg rfl rfl rfl rfl (i_index TF.elem_sl_api_Link TF.size_api_Link e2 h4 h5) (fag rfl rfl rfl (TF.fld_api_Link_2 _ _) ?_);obtain⟨x7,h6,H⟩:=H;exact ldg rfl rfl rfl (i_load1 TF.agg_int h6) (mvg rfl rfl rfl (bog rfl rfl rfl rfl o_neq (pf rfl rfl (sl_nil (nx_to fun a ha=>⟨(decide (x7≠x2)),ha.weaken (cn rfl (cn rfl (cn rfl (cn rfl (cn rfl (cn rfl zz)))))),H⟩)))))
def vc_arbiterlaw13_EufBirkhoff_J1 (K:Bool→World→Prop) (b6:Bool) (w6:World):Prop:=
 K b6 w6
def vc_arbiterlaw13_EufBirkhoff_J2 (k1:Nat) (I1:Nat→Option Addr→Nat→Nat→Int→World→Prop) (x2:Int) (A6:Option Addr) (n6 c6:Nat) (w12:World):Prop:=
 ∃k2,k2<k1∧I1 k2 A6 n6 c6 (IntKind.wrap .i64 (x2+1)) w12
def vc_arbiterlaw13_EufBirkhoff_J3 (K:Bool→World→Prop) (k4:Nat) (I3:Nat→Int→World→Prop) (x7:Int) (b11:Bool) (w24:World):Prop:=
 (b11=true→(K false w24))∧(b11=false→(∃k5,k5<k4∧I3 k5 (IntKind.wrap .i64 (x7+1)) w24))
def vc_arbiterlaw13_EufBirkhoff_J4 (K:Bool→World→Prop) (b8:Bool) (A1:Option Addr) (n1 c1:Nat) (A3:Option Addr) (n3 c3:Nat) (A4:Option Addr) (n4 c4:Nat) (A7:Option Addr) (n7 c7:Nat) (x6:Int) (x7:Int) (k4:Nat) (I3:Nat→Int→World→Prop) (b9:Bool) (w20:World):Prop:=
 (b9=true→(K false w20))∧(b9=false→((b8=true→(Calls P F.arbiterlaw13_proved #[(.slice A1 n1 c1),(.slice A3 n3 c3),(.slice A4 n4 c4),(.slice A7 n7 c7),(.int .i64 x6),(.int .i64 x7)] w20 (Ret fun v11 w23=>∃b10,v11=(.bool b10)∧(vc_arbiterlaw13_EufBirkhoff_J3 K k4 I3 x7) (!b10) w23)))∧(b8=false→((vc_arbiterlaw13_EufBirkhoff_J3 K k4 I3 x7) false w20))))
def vc_arbiterlaw13_EufBirkhoff_J5 (A1:Option Addr) (n1 c1:Nat) (K:Bool→World→Prop) (q1:Option Addr) (A2:Option Addr) (n2 c2:Nat) (b4:Bool) (w4:World):Prop:=
 (b4=true→(Calls P F.arbiterlaw13_sound #[(.slice A1 n1 c1)] w4 (Ret fun v4 w5=>∃b5,v4=(.bool b5)∧((!b5)=true→((vc_arbiterlaw13_EufBirkhoff_J1 K) (decide (q1=none)) w5))∧((!b5)=false→((vc_arbiterlaw13_EufBirkhoff_J1 K) false w5)))))∧(b4=false→(Calls P F.arbiterlaw13_stands #[(.slice A1 n1 c1),(.slice A2 n2 c2)] w4 (Ret fun v5 w7=>∃A3 n3 c3,∃x1,v5=(.tuple #[(.slice A3 n3 c3),(.int .i64 x1)])∧∃I1:Nat→Option Addr→Nat→Nat→Int→World→Prop,(∃k1,I1 k1 none 0 0 0 w7)∧∀k1 (A4:Option Addr) (n4 c4:Nat) (x2:Int) (w8:World),I1 k1 A4 n4 c4 x2 w8→((x2<(n3:Int)→(0≤x2∧x2<(n3:Int)∧∃a1,A3=some a1∧∃b7,w8.cell? ((a1.add (x2.toNat*4)).add 0)=some (.bool b7)∧((!b7)=true→(0≤x2∧x2<(n3:Int)∧∃a2,A3=some a2∧∃x3,w8.cell? ((a2.add (x2.toNat*4)).add 1)=some (.int .i64 x3)∧0≤x2∧x2<(n3:Int)∧∃a3,A3=some a3∧∃x4,w8.cell? ((a3.add (x2.toNat*4)).add 2)=some (.int .i64 x4)∧0≤x2∧x2<(n3:Int)∧∃a4,A3=some a4∧∃x5,w8.cell? ((a4.add (x2.toNat*4)).add 3)=some (.int .i64 x5)∧∀w14,Drawn w8 w14→∀(p1:Addr) (w9:World),New w14 (.cells #[(.int .i64 1),(.int .i64 x3),(.int .i64 x4),(.int .i64 x5),(.slice none 0 0)] T.api_Link) p1 w9→(∀w13,Drawn w9 w13→∃(A5:Option Addr) (n5 c5:Nat) (w10:World),(Builtin.append_ #[T.sl_api_Link,T.sl_api_Link] T.sl_api_Link #[(.slice A4 n4 c4),(.slice (some p1) 1 1)]).run P w13= .ok (.slice A5 n5 c5) w10∧(∀w11,Drawn w10 w11→((vc_arbiterlaw13_EufBirkhoff_J2 k1 I1 x2) A5 n5 c5 w11)))))∧((!b7)=false→((vc_arbiterlaw13_EufBirkhoff_J2 k1 I1 x2) A4 n4 c4 w8))))∧(¬(x2<(n3:Int))→(∃I2:Nat→Int→World→Prop,(∃k3,I2 k3 0 w8)∧∀k3 (x6:Int) (w15:World),I2 k3 x6 w15→((x6<(n1:Int)→(∃I3:Nat→Int→World→Prop,(∃k4,I3 k4 0 w15)∧∀k4 (x7:Int) (w16:World),I3 k4 x7 w16→((x7<(n1:Int)→(Calls P F.euf_Graph_Same #[(.pointer q1),(.int .i64 x6),(.int .i64 x7)] w16 (Ret fun v6 w17=>∃b8,∃x8,v6=(.tuple #[(.bool b8),(.int .i64 x8)])∧Calls P F.euf_Graph_Prove #[(.pointer q1),(.int .i64 x6),(.int .i64 x7)] w17 (Ret fun v7 w18=>∃A7 n7 c7,∃x9,v7=(.tuple #[(.slice A7 n7 c7),(.int .i64 x9)])∧Calls P F.arbiterlaw13_no #[(.int .i64 x8)] w18 (Ret fun v8 w19=>∃x10,v8=(.int .i64 x10)∧(x10≠0→((vc_arbiterlaw13_EufBirkhoff_J4 K b8 A1 n1 c1 A3 n3 c3 A4 n4 c4 A7 n7 c7 x6 x7 k4 I3) true w19))∧(¬(x10≠0)→(Calls P F.arbiterlaw13_no #[(.int .i64 x9)] w19 (Ret fun v9 w21=>∃x11,v9=(.int .i64 x11)∧(b8≠(decide (x11=0))→((vc_arbiterlaw13_EufBirkhoff_J4 K b8 A1 n1 c1 A3 n3 c3 A4 n4 c4 A7 n7 c7 x6 x7 k4 I3) true w21))∧(¬(b8≠(decide (x11=0)))→(((!b8)=true→((0<(n7:Int)→((vc_arbiterlaw13_EufBirkhoff_J4 K b8 A1 n1 c1 A3 n3 c3 A4 n4 c4 A7 n7 c7 x6 x7 k4 I3) true w21))∧(¬(0<(n7:Int))→(Calls P F.arbiterlaw13_no #[(.int .i64 x9)] w21 (Ret fun v10 w22=>∃x12,v10=(.int .i64 x12)∧(vc_arbiterlaw13_EufBirkhoff_J4 K b8 A1 n1 c1 A3 n3 c3 A4 n4 c4 A7 n7 c7 x6 x7 k4 I3) (decide (x12≠82)) w22)))))∧((!b8)=false→((vc_arbiterlaw13_EufBirkhoff_J4 K b8 A1 n1 c1 A3 n3 c3 A4 n4 c4 A7 n7 c7 x6 x7 k4 I3) false w21))))))))))))∧(¬(x7<(n1:Int))→(∃k6,k6<k3∧I2 k6 (IntKind.wrap .i64 (x6+1)) w16)))))∧(¬(x6<(n1:Int))→(K true w15)))))))))
def vc_arbiterlaw13_EufBirkhoff (A1:Option Addr) (n1 c1:Nat) (A2:Option Addr) (n2 c2:Nat) (K:Bool→World→Prop) (w:World):Prop:=
 Calls P F.arbiterlaw13_heads #[] w (Ret fun v1 w1=>∃b2,v1=(.bool b2)∧((!b2)=true→(K false w1))∧((!b2)=false→(Calls P F.arbiterlaw13_played #[(.slice A1 n1 c1),(.slice A2 n2 c2)] w1 (Ret fun v2 w2=>∃q1,v2=(.pointer q1)∧Calls P F.arbiterlaw13_sound #[(.slice A1 n1 c1)] w2 (Ret fun v3 w3=>∃b3,v3=(.bool b3)∧((!b3)=true→((vc_arbiterlaw13_EufBirkhoff_J5 A1 n1 c1 K q1 A2 n2 c2) true w3))∧((!b3)=false→((vc_arbiterlaw13_EufBirkhoff_J5 A1 n1 c1 K q1 A2 n2 c2) (decide (q1=none)) w3)))))))
theorem ok_arbiterlaw13_EufBirkhoff (A1:Option Addr) (n1 c1:Nat) (A2:Option Addr) (n2 c2:Nat) (K:Bool→World→Prop) (w:World) (H:vc_arbiterlaw13_EufBirkhoff A1 n1 c1 A2 n2 c2 K w):Calls P F.arbiterlaw13_EufBirkhoff #[(.slice A1 n1 c1),(.slice A2 n2 c2)] w (Ret fun v w'=>∃b1,v=(.bool b1)∧K b1 w'):=by
 unfold vc_arbiterlaw13_EufBirkhoff at H;refine calls_of (P:=P) Tryd.func3 rfl [(0,(.slice A1 n1 c1)),(1,(.slice A2 n2 c2))] 133 rfl rfl (aa rfl (aa rfl az)) (cw_seq (cw_region (ag rfl (sl_nil (nc (kp 0 rfl (kp 1 rfl zz)) (cw_seq (cw_seq (cw_region (sl_call rfl rfl (wanted_none rfl) (fun a ha=>x_call0 (ha.ev rfl) (ha.evs rfl) FF.callable_arbiterlaw13_heads) H ?_)))))))));rintro _ w1 ⟨b2,rfl,H⟩;refine sv rfl rfl (fun a ha=>x_unOp (ha.ev rfl) u_not) (sl_nil (nc (kp 0 rfl (kp 1 rfl (kp 17 rfl zz))) ?_));refine cw_cond rfl (fun hb=> ?_) (fun hb=> ?_)
 ·replace H:=H.1 hb;exact cw_seq (cw_region (ag rfl (sl_nil (nc (kp 4 rfl zz) (cw_ret (nx_ret_then (nx_body_ret (res1 rfl rfl) ⟨_,rfl,_,rfl,H⟩)))))))
 ·replace H:=H.2 hb;refine cw_skip (nc (kp 0 rfl (kp 1 rfl zz)) (cw_seq (cw_region (mv rfl (mv rfl (sl_call rfl rfl (wanted_none rfl) (fun a ha=>x_call0 (ha.ev rfl) (ha.evs rfl) FF.callable_arbiterlaw13_played) H ?_))))));rintro _ w2 ⟨q1,rfl,H⟩;refine ag rfl (sl_nil (nc (kp 0 rfl (kp 1 rfl (kp 5 rfl zz))) (cw_seq ?_)));refine cw_join (fun a w=>∃b4,Ok 133 [(0,(.slice A1 n1 c1)),(1,(.slice A2 n2 c2)),(5,(.pointer q1)),(27,(.bool b4))] a∧vc_arbiterlaw13_EufBirkhoff_J5 A1 n1 c1 K q1 A2 n2 c2 b4 w) ?_ ?_
  ·rintro a w4 ⟨b4,ha,H⟩;unfold vc_arbiterlaw13_EufBirkhoff_J5 at H;refine(?_:CW _ _ _ 133 [(0,(.slice A1 n1 c1)),(1,(.slice A2 n2 c2)),(5,(.pointer q1)),(27,(.bool b4))] _) a ha;refine cw_cond rfl (fun hb=> ?_) (fun hb=> ?_)
   ·replace H:=H.1 hb;refine cw_join (fun a w=>∃b6,Ok 133 [(4,(.bool b6))] a∧vc_arbiterlaw13_EufBirkhoff_J1 K b6 w) ?_ ?_
    ·rintro a w6 ⟨b6,ha,H⟩;unfold vc_arbiterlaw13_EufBirkhoff_J1 at H;refine(?_:CW _ _ _ 133 [(4,(.bool b6))] _) a ha;exact cw_ret (nx_ret_then (nx_body_ret (res1 rfl rfl) ⟨_,rfl,_,rfl,H⟩))
    ·refine cw_region (mv rfl (sl_call rfl rfl (wanted_none rfl) (fun a ha=>x_call0 (ha.ev rfl) (ha.evs rfl) FF.callable_arbiterlaw13_sound) H ?_));rintro _ w5 ⟨b5,rfl,H⟩;refine sv rfl rfl (fun a ha=>x_unOp (ha.ev rfl) u_not) ?_;rcases tf (!b5) with hb|hb
     ·replace H:=H.1 hb;exact sv rfl rfl (fun a ha=>o_bt (x_move (ha.ev rfl)) hb) (mvg rfl rfl rfl (bog rfl rfl rfl rfl (o_eql_nil TF.ptr_p_euf_Graph) (pt rfl rfl (ag rfl (sl_nil (nx_to fun a ha=>⟨(decide (q1=none)),ha.weaken (cn rfl zz),H⟩))))))
     ·replace H:=H.2 hb;exact sv rfl rfl (fun a ha=>o_bf (x_move (ha.ev rfl)) hb) (sk rfl rfl rfl rfl (sk rfl rfl rfl rfl (pf rfl rfl (ag rfl (sl_nil (nx_to fun a ha=>⟨false,ha.weaken (cn rfl zz),H⟩))))))
   ·replace H:=H.2 hb;refine cw_skip (nc (kp 0 rfl (kp 1 rfl (kp 5 rfl zz))) (cw_seq (cw_region (mv rfl (mv rfl (sl_call rfl rfl (wanted_none rfl) (fun a ha=>x_call0 (ha.ev rfl) (ha.evs rfl) FF.callable_arbiterlaw13_stands) H ?_))))));rintro _ w7 ⟨A3,n3,c3,x1,rfl,H⟩;refine mv rfl (sv rfl rfl (fun a ha=>x_extract (ha.ev rfl) rfl) (sv rfl rfl (fun a ha=>x_extract (ha.ev rfl) rfl) (ag rfl (ag rfl (sl_nil (nc (kp 0 rfl (kp 5 rfl (kp 6 rfl zz))) (cw_seq (cw_region (ag rfl (sl_nil (nc (kp 0 rfl (kp 5 rfl (kp 6 rfl (kp 8 rfl zz)))) (cw_seq (cw_seq (cw_region (ag rfl (sl_nil (nc (kp 0 rfl (kp 5 rfl (kp 6 rfl (kp 8 rfl (kp 9 rfl zz))))) (cw_block ?_))))))))))))))))));obtain⟨I1,⟨k1,hi⟩,H⟩:=H;refine cw_loop (fun k1 a w'=>∃A4 n4 c4,∃x2,Ok 133 [(0,(.slice A1 n1 c1)),(5,(.pointer q1)),(6,(.slice A3 n3 c3)),(8,(.slice A4 n4 c4)),(9,(.int .i64 x2))] a∧I1 k1 A4 n4 c4 x2 w') (fun a ha=>⟨k1,none,0,0,0,ha.weaken (sub.cons rfl (sub.cons rfl (sub.cons rfl (sub.cons rfl (sub.cons rfl (sub.nil)))))),hi⟩) ?_;rintro k1 a w8 ⟨A4,n4,c4,x2,ha,hI⟩;replace H:=H k1 A4 n4 c4 x2 w8 hI;refine(?_:CW _ _ _ 133 [(0,(.slice A1 n1 c1)),(5,(.pointer q1)),(6,(.slice A3 n3 c3)),(8,(.slice A4 n4 c4)),(9,(.int .i64 x2))] _) a ha;refine cw_seq (cw_seq (cw_region (mv rfl (mv rfl (sv rfl rfl (fun a ha=>x_builtin (ha.evs rfl) (fun _=>l_slice TF.isslice_sl_arbiterlaw13_Said)) (bo rfl rfl o_lss (sl_nil (nc (kp 0 rfl (kp 5 rfl (kp 6 rfl (kp 8 rfl (kp 9 rfl (kp 44 rfl zz)))))) ?_))))))));refine cw_cond_p rfl (fun hb=> ?_) (fun hb=> ?_)
    ·replace H:=H.1 hb;refine cw_skip (nc (kp 0 rfl (kp 5 rfl (kp 6 rfl (kp 8 rfl (kp 9 rfl zz))))) ?_);refine cw_join (fun a w=>∃A6 n6 c6,Ok 133 [(0,(.slice A1 n1 c1)),(5,(.pointer q1)),(6,(.slice A3 n3 c3)),(8,(.slice A6 n6 c6)),(9,(.int .i64 x2))] a∧vc_arbiterlaw13_EufBirkhoff_J2 k1 I1 x2 A6 n6 c6 w) ?_ ?_
     ·rintro a w12 ⟨A6,n6,c6,ha,H⟩;unfold vc_arbiterlaw13_EufBirkhoff_J2 at H;refine(?_:CW _ _ _ 133 [(0,(.slice A1 n1 c1)),(5,(.pointer q1)),(6,(.slice A3 n3 c3)),(8,(.slice A6 n6 c6)),(9,(.int .i64 x2))] _) a ha;refine cw_region (mv rfl (bo rfl rfl o_add (ag rfl (sl_nil ?_))));obtain⟨k2,hk,H⟩:=H;exact nx_to fun a ha=>⟨k2,hk,A6,n6,c6,IntKind.wrap .i64 (x2+1),ha.weaken (cn rfl (cn rfl (cn rfl (cn rfl (cn rfl zz))))),H⟩
     ·refine cw_block (cw_seq (cw_region (mv rfl (mv rfl ?_))));obtain⟨h1,h2,a1,e1,H⟩:=H;refine ix rfl rfl (i_index TF.elem_sl_arbiterlaw13_Said TF.size_arbiterlaw13_Said e1 h1 h2) (fa rfl (TF.fld_arbiterlaw13_Said_0 _ _) ?_);obtain⟨b7,h3,H⟩:=H;refine ld rfl (i_load1 TF.agg_bool h3) (sv rfl rfl (fun a ha=>x_unOp (ha.ev rfl) u_not) (sl_nil (nc (kp 0 rfl (kp 5 rfl (kp 6 rfl (kp 8 rfl (kp 9 rfl (kp 52 rfl zz)))))) ?_)));refine cw_cond rfl (fun hb=> ?_) (fun hb=> ?_)
      ·replace H:=H.1 hb;refine cw_any_drawn follows [0,1,2,3,4,5,6,7,8,9,10,11,12,13,14,15,16,19] [5,10,15] 20 rfl rfl (by kernel_rfl) (fun _ _ d _ _ h=>by cases d<;>exact h) (fun cm W D=> ?_);refine pmv 0 cm rfl rfl D W fun _ D W=>(pmv 1 cm rfl rfl D W fun _ D W=>(pmv 2 cm rfl rfl D W fun _ D W=> ?_));obtain⟨h4,h5,a2,e2,H⟩:=H;refine pix 3 cm rfl rfl rfl (i_index TF.elem_sl_arbiterlaw13_Said TF.size_arbiterlaw13_Said e2 h4 h5) D W fun _ D W=>(pfa 4 cm rfl rfl (TF.fld_arbiterlaw13_Said_1 _ _) D W fun _ D W=> ?_);obtain⟨x3,h6,H⟩:=H;refine vl 5 cm rfl rfl (fun hw=>(i_load1 TF.agg_int ((hw.cell _).trans h6))) D W fun _ D W=>(pmv 6 cm rfl rfl D W fun _ D W=>(pmv 7 cm rfl rfl D W fun _ D W=> ?_));obtain⟨h7,h8,a3,e3,H⟩:=H;refine pix 8 cm rfl rfl rfl (i_index TF.elem_sl_arbiterlaw13_Said TF.size_arbiterlaw13_Said e3 h7 h8) D W fun _ D W=>(pfa 9 cm rfl rfl (TF.fld_arbiterlaw13_Said_2 _ _) D W fun _ D W=> ?_);obtain⟨x4,h9,H⟩:=H;refine vl 10 cm rfl rfl (fun hw=>(i_load1 TF.agg_int ((hw.cell _).trans h9))) D W fun _ D W=>(pmv 11 cm rfl rfl D W fun _ D W=>(pmv 12 cm rfl rfl D W fun _ D W=> ?_));obtain⟨h10,h11,a4,e4,H⟩:=H;refine pix 13 cm rfl rfl rfl (i_index TF.elem_sl_arbiterlaw13_Said TF.size_arbiterlaw13_Said e4 h10 h11) D W fun _ D W=>(pfa 14 cm rfl rfl (TF.fld_arbiterlaw13_Said_3 _ _) D W fun _ D W=> ?_);obtain⟨x5,h12,H⟩:=H;refine vl 15 cm rfl rfl (fun hw=>(i_load1 TF.agg_int ((hw.cell _).trans h12))) D W fun _ D W=>(pvd 16 cm rfl rfl rfl (fun w' a ha=>x_buildP (u:=(.agg #[(.int .i64 1),(.int .i64 x3),(.int .i64 x4),(.int .i64 x5),(.slice none 0 0)])) (qs:=[(0,(.int .i64 1)),(1,(.int .i64 x3)),(2,(.int .i64 x4)),(3,(.int .i64 x5))]) (by simp only[List.map_cons,List.map_nil,ha.ev (x:=(.const (.int .i64 1))) rfl,ha.ev (x:=(.tmp 58)) rfl,ha.ev (x:=(.tmp 63)) rfl,ha.ev (x:=(.tmp 68)) rfl]) (by kernel_rfl)) D fun _ D=>(ar 17 ?_));replace H:=H _ D;refine aw_new (f:=(fun p=> .slice (some p) 1 1)) rfl rfl rfl (wanted_none rfl) (fun a ha=>x_buildSlice (u:= .slice (some ⟨_,0,none⟩) 1 1) (w':=World.alloc _ (.cells #[(.int .i64 1),(.int .i64 x3),(.int .i64 x4),(.int .i64 x5),(.slice none 0 0)] T.api_Link)) (qs:=[(0,(.agg #[(.int .i64 1),(.int .i64 x3),(.int .i64 x4),(.int .i64 x5),(.slice none 0 0)]))]) (by simp only[List.map_cons,List.map_nil,ha.ev (x:=(.tmp 69)) rfl]) (by kernel_rfl)) rfl false (by kernel_rfl) ?_;intro p1 w9 hN _ D;replace H:=H _ _ hN;refine⟨fun h=>(by cases h),?_⟩;refine ar 18 ?_;replace H:=H _ D;obtain⟨A5,n5,c5,w10,h13,H⟩:=H;refine aw_v rfl rfl rfl (wanted_none rfl) (fun a ha=>x_builtin (ha.evs rfl) (fun _=>bi_append h13)) rfl false (by kernel_rfl) ?_;intro _ D;refine⟨fun h=>(by cases h),?_⟩;refine pagd 19 cm rfl rfl D fun _ D=>(an_end (by kernel_rfl) D ?_);intro w11 D;replace H:=H _ D;clear D cm;exact nx_block (nx_to fun a ha=>⟨A5,n5,c5,ha.weaken (cn rfl (cn rfl (cn rfl (cn rfl (cn rfl zz))))),H⟩)
      ·replace H:=H.2 hb;exact cw_skip (nx_block (nx_to fun a ha=>⟨A4,n4,c4,ha.weaken (cn rfl (cn rfl (cn rfl (cn rfl (cn rfl zz))))),H⟩))
    ·replace H:=H.2 hb;refine cw_exit (nx_exit_then (nx_exit_then (nx_exit_hit (nc (kp 0 rfl (kp 5 rfl (kp 6 rfl (kp 8 rfl zz)))) (cw_seq (cw_seq (cw_region (ag rfl (sl_nil (nc (kp 0 rfl (kp 5 rfl (kp 6 rfl (kp 8 rfl (kp 10 rfl zz))))) (cw_block ?_)))))))))));obtain⟨I2,⟨k3,hi⟩,H⟩:=H;refine cw_loop (fun k3 a w'=>∃x6,Ok 133 [(0,(.slice A1 n1 c1)),(5,(.pointer q1)),(6,(.slice A3 n3 c3)),(8,(.slice A4 n4 c4)),(10,(.int .i64 x6))] a∧I2 k3 x6 w') (fun a ha=>⟨k3,0,ha.weaken (sub.cons rfl (sub.cons rfl (sub.cons rfl (sub.cons rfl (sub.cons rfl (sub.nil)))))),hi⟩) ?_;rintro k3 a w15 ⟨x6,ha,hI⟩;replace H:=H k3 x6 w15 hI;refine(?_:CW _ _ _ 133 [(0,(.slice A1 n1 c1)),(5,(.pointer q1)),(6,(.slice A3 n3 c3)),(8,(.slice A4 n4 c4)),(10,(.int .i64 x6))] _) a ha;refine cw_seq (cw_seq (cw_region (mv rfl (mv rfl (sv rfl rfl (fun a ha=>x_builtin (ha.evs rfl) (fun _=>l_slice TF.isslice_sl_api_Flat)) (bo rfl rfl o_lss (sl_nil (nc (kp 0 rfl (kp 5 rfl (kp 6 rfl (kp 8 rfl (kp 10 rfl (kp 75 rfl zz)))))) ?_))))))));refine cw_cond_p rfl (fun hb=> ?_) (fun hb=> ?_)
     ·replace H:=H.1 hb;refine cw_skip (nc (kp 0 rfl (kp 5 rfl (kp 6 rfl (kp 8 rfl (kp 10 rfl zz))))) (cw_seq (cw_block (cw_seq (cw_region (ag rfl (sl_nil (nc (kp 0 rfl (kp 5 rfl (kp 6 rfl (kp 8 rfl (kp 10 rfl (kp 11 rfl zz)))))) (cw_block ?_)))))))));obtain⟨I3,⟨k4,hi⟩,H⟩:=H;refine cw_loop (fun k4 a w'=>∃x7,Ok 133 [(0,(.slice A1 n1 c1)),(5,(.pointer q1)),(6,(.slice A3 n3 c3)),(8,(.slice A4 n4 c4)),(10,(.int .i64 x6)),(11,(.int .i64 x7))] a∧I3 k4 x7 w') (fun a ha=>⟨k4,0,ha.weaken (sub.cons rfl (sub.cons rfl (sub.cons rfl (sub.cons rfl (sub.cons rfl (sub.cons rfl (sub.nil))))))),hi⟩) ?_;rintro k4 a w16 ⟨x7,ha,hI⟩;replace H:=H k4 x7 w16 hI;refine(?_:CW _ _ _ 133 [(0,(.slice A1 n1 c1)),(5,(.pointer q1)),(6,(.slice A3 n3 c3)),(8,(.slice A4 n4 c4)),(10,(.int .i64 x6)),(11,(.int .i64 x7))] _) a ha;refine cw_seq (cw_seq (cw_region (mv rfl (mv rfl (sv rfl rfl (fun a ha=>x_builtin (ha.evs rfl) (fun _=>l_slice TF.isslice_sl_api_Flat)) (bo rfl rfl o_lss (sl_nil (nc (kp 0 rfl (kp 5 rfl (kp 6 rfl (kp 8 rfl (kp 10 rfl (kp 11 rfl (kp 81 rfl zz))))))) ?_))))))));refine cw_cond_p rfl (fun hb=> ?_) (fun hb=> ?_)
      ·replace H:=H.1 hb;refine cw_skip (nc (kp 0 rfl (kp 5 rfl (kp 6 rfl (kp 8 rfl (kp 10 rfl (kp 11 rfl zz)))))) (cw_seq (cw_block (cw_seq (cw_region (mv rfl (mv rfl (mv rfl (sl_call rfl rfl (wanted_none rfl) (fun a ha=>x_call0 (ha.ev rfl) (ha.evs rfl) FF.callable_euf_Graph_Same) H ?_)))))))));rintro _ w17 ⟨b8,x8,rfl,H⟩;refine mv rfl (sv rfl rfl (fun a ha=>x_extract (ha.ev rfl) rfl) (sv rfl rfl (fun a ha=>x_extract (ha.ev rfl) rfl) (ag rfl (ag rfl (sl_nil (nc (kp 0 rfl (kp 5 rfl (kp 6 rfl (kp 8 rfl (kp 10 rfl (kp 11 rfl (kp 12 rfl (kp 13 rfl zz)))))))) (cw_seq (cw_region (mv rfl (mv rfl (mv rfl (sl_call rfl rfl (wanted_none rfl) (fun a ha=>x_call0 (ha.ev rfl) (ha.evs rfl) FF.callable_euf_Graph_Prove) H ?_))))))))))));rintro _ w18 ⟨A7,n7,c7,x9,rfl,H⟩;refine mv rfl (sv rfl rfl (fun a ha=>x_extract (ha.ev rfl) rfl) (sv rfl rfl (fun a ha=>x_extract (ha.ev rfl) rfl) (ag rfl (ag rfl (sl_nil (nc (kp 0 rfl (kp 5 rfl (kp 6 rfl (kp 8 rfl (kp 10 rfl (kp 11 rfl (kp 12 rfl (kp 13 rfl (kp 14 rfl (kp 15 rfl zz)))))))))) (cw_seq ?_)))))));refine cw_join (fun a w=>∃b9,Ok 133 [(0,(.slice A1 n1 c1)),(5,(.pointer q1)),(6,(.slice A3 n3 c3)),(8,(.slice A4 n4 c4)),(10,(.int .i64 x6)),(11,(.int .i64 x7)),(12,(.bool b8)),(14,(.slice A7 n7 c7)),(121,(.bool b9))] a∧vc_arbiterlaw13_EufBirkhoff_J4 K b8 A1 n1 c1 A3 n3 c3 A4 n4 c4 A7 n7 c7 x6 x7 k4 I3 b9 w) ?_ ?_
       ·rintro a w20 ⟨b9,ha,H⟩;unfold vc_arbiterlaw13_EufBirkhoff_J4 at H;refine(?_:CW _ _ _ 133 [(0,(.slice A1 n1 c1)),(5,(.pointer q1)),(6,(.slice A3 n3 c3)),(8,(.slice A4 n4 c4)),(10,(.int .i64 x6)),(11,(.int .i64 x7)),(12,(.bool b8)),(14,(.slice A7 n7 c7)),(121,(.bool b9))] _) a ha;refine cw_cond rfl (fun hb=> ?_) (fun hb=> ?_)
        ·replace H:=H.1 hb;exact cw_seq (cw_region (ag rfl (sl_nil (nc (kp 4 rfl zz) (cw_ret (nx_ret_then (nx_ret_block (nx_ret_then (nx_ret_then (nx_ret_block (nx_ret_block (nx_ret_then (nx_ret_then (nx_ret_block (nx_ret_then (nx_body_ret (res1 rfl rfl) ⟨_,rfl,_,rfl,H⟩))))))))))))))))
        ·replace H:=H.2 hb;refine cw_skip (nc (kp 0 rfl (kp 5 rfl (kp 6 rfl (kp 8 rfl (kp 10 rfl (kp 11 rfl (kp 12 rfl (kp 14 rfl zz)))))))) ?_);refine cw_join (fun a w=>∃b11,Ok 133 [(0,(.slice A1 n1 c1)),(5,(.pointer q1)),(6,(.slice A3 n3 c3)),(8,(.slice A4 n4 c4)),(10,(.int .i64 x6)),(11,(.int .i64 x7)),(132,(.bool b11))] a∧vc_arbiterlaw13_EufBirkhoff_J3 K k4 I3 x7 b11 w) ?_ ?_
         ·rintro a w24 ⟨b11,ha,H⟩;unfold vc_arbiterlaw13_EufBirkhoff_J3 at H;refine(?_:CW _ _ _ 133 [(0,(.slice A1 n1 c1)),(5,(.pointer q1)),(6,(.slice A3 n3 c3)),(8,(.slice A4 n4 c4)),(10,(.int .i64 x6)),(11,(.int .i64 x7)),(132,(.bool b11))] _) a ha;refine cw_cond rfl (fun hb=> ?_) (fun hb=> ?_)
          ·replace H:=H.1 hb;exact cw_seq (cw_region (ag rfl (sl_nil (nc (kp 4 rfl zz) (cw_ret (nx_ret_block (nx_ret_then (nx_ret_then (nx_ret_block (nx_ret_block (nx_ret_then (nx_ret_then (nx_ret_block (nx_ret_then (nx_body_ret (res1 rfl rfl) ⟨_,rfl,_,rfl,H⟩)))))))))))))))
          ·replace H:=H.2 hb;refine cw_skip (nx_block (nc (kp 0 rfl (kp 5 rfl (kp 6 rfl (kp 8 rfl (kp 10 rfl (kp 11 rfl zz)))))) (cw_region (mv rfl (bo rfl rfl o_add (ag rfl (sl_nil ?_)))))));obtain⟨k5,hk,H⟩:=H;exact nx_to fun a ha=>⟨k5,hk,IntKind.wrap .i64 (x7+1),ha.weaken (cn rfl (cn rfl (cn rfl (cn rfl (cn rfl (cn rfl zz)))))),H⟩
         ·refine cw_region (mv rfl ?_);rcases tf b8 with hb|hb
          ·replace H:=H.1 hb;refine sv rfl rfl (fun a ha=>o_bt (x_move (ha.ev rfl)) hb) (mvg rfl rfl rfl (mvg rfl rfl rfl (mvg rfl rfl rfl (mvg rfl rfl rfl (mvg rfl rfl rfl (mvg rfl rfl rfl (sl_call rfl rfl (wanted_some rfl rfl rfl) (fun a ha=>x_call0 (ha.ev rfl) (ha.evs rfl) FF.callable_arbiterlaw13_proved) H ?_)))))));rintro _ w23 ⟨b10,rfl,H⟩;exact svg rfl rfl rfl rfl (fun a ha=>x_unOp (ha.ev rfl) u_not) (pt rfl rfl (sl_nil (nx_to fun a ha=>⟨(!b10),ha.weaken (cn rfl (cn rfl (cn rfl (cn rfl (cn rfl (cn rfl (cn rfl zz))))))),H⟩)))
          ·replace H:=H.2 hb;exact sv rfl rfl (fun a ha=>o_bf (x_move (ha.ev rfl)) hb) (sk rfl rfl rfl rfl (sk rfl rfl rfl rfl (sk rfl rfl rfl rfl (sk rfl rfl rfl rfl (sk rfl rfl rfl rfl (sk rfl rfl rfl rfl (sk rfl rfl rfl rfl (sk rfl rfl rfl rfl (pf rfl rfl (sl_nil (nx_to fun a ha=>⟨false,ha.weaken (cn rfl (cn rfl (cn rfl (cn rfl (cn rfl (cn rfl (cn rfl zz))))))),H⟩)))))))))))
       ·refine cw_region (mv rfl (sl_call rfl rfl (wanted_none rfl) (fun a ha=>x_call0 (ha.ev rfl) (ha.evs rfl) FF.callable_arbiterlaw13_no) H ?_));rintro _ w19 ⟨x10,rfl,H⟩;refine bo rfl rfl o_neq ?_;rcases Classical.em (x10≠0) with hb|hb
        ·replace H:=H.1 hb;exact sv rfl rfl (fun a ha=>o_t (x_move (ha.ev rfl)) hb) (sk rfl rfl rfl rfl (sk rfl rfl rfl rfl (sk rfl rfl rfl rfl (sk rfl rfl rfl rfl (sk rfl rfl rfl rfl (pt rfl rfl (mv rfl (sk rfl rfl rfl rfl (sk rfl rfl rfl rfl (sk rfl rfl rfl rfl (sl_skip rfl rfl (wanted_undef rfl rfl rfl) (sl_skip rfl rfl (wanted_undef rfl rfl rfl) (sl_skip rfl rfl (wanted_undef rfl rfl rfl) (sl_skip rfl rfl (wanted_undef rfl rfl rfl) (sl_skip rfl rfl (wanted_undef rfl rfl rfl) (sl_skip rfl rfl (wanted_undef rfl rfl rfl) (sl_skip rfl rfl (wanted_undef rfl rfl rfl) (sl_skip rfl rfl (wanted_undef rfl rfl rfl) (sk rfl rfl rfl rfl (pt rfl rfl (sl_nil (nx_to fun a ha=>⟨true,ha.weaken (cn rfl (cn rfl (cn rfl (cn rfl (cn rfl (cn rfl (cn rfl (cn rfl (cn rfl zz))))))))),H⟩))))))))))))))))))))))
        ·replace H:=H.2 hb;refine sv rfl rfl (fun a ha=>o_f (x_move (ha.ev rfl)) hb) (mvg rfl rfl rfl (mvg rfl rfl rfl (sl_call rfl rfl (wanted_some rfl rfl rfl) (fun a ha=>x_call0 (ha.ev rfl) (ha.evs rfl) FF.callable_arbiterlaw13_no) H ?_)));rintro _ w21 ⟨x11,rfl,H⟩;refine bog rfl rfl rfl rfl o_eql (bog rfl rfl rfl rfl (o_neq_bool TF.bool_bool) (pf rfl rfl ?_));rcases Classical.em (b8≠(decide (x11=0))) with hb|hb
         ·replace H:=H.1 hb;exact sv rfl rfl (fun a ha=>o_t (x_move (ha.ev rfl)) hb) (sk rfl rfl rfl rfl (sk rfl rfl rfl rfl (sk rfl rfl rfl rfl (sl_skip rfl rfl (wanted_undef rfl rfl rfl) (sl_skip rfl rfl (wanted_undef rfl rfl rfl) (sl_skip rfl rfl (wanted_undef rfl rfl rfl) (sl_skip rfl rfl (wanted_undef rfl rfl rfl) (sl_skip rfl rfl (wanted_undef rfl rfl rfl) (sl_skip rfl rfl (wanted_undef rfl rfl rfl) (sl_skip rfl rfl (wanted_undef rfl rfl rfl) (sl_skip rfl rfl (wanted_undef rfl rfl rfl) (sk rfl rfl rfl rfl (pt rfl rfl (sl_nil (nx_to fun a ha=>⟨true,ha.weaken (cn rfl (cn rfl (cn rfl (cn rfl (cn rfl (cn rfl (cn rfl (cn rfl (cn rfl zz))))))))),H⟩)))))))))))))))
         ·replace H:=H.2 hb;refine sv rfl rfl (fun a ha=>o_f (x_move (ha.ev rfl)) hb) (mvg rfl rfl rfl (svg rfl rfl rfl rfl (fun a ha=>x_unOp (ha.ev rfl) u_not) ?_));rcases tf (!b8) with hb|hb
          ·replace H:=H.1 hb;refine svg rfl rfl rfl rfl (fun a ha=>o_bt (x_move (ha.ev rfl)) hb) (mvg rfl rfl rfl (svg rfl rfl rfl rfl (fun a ha=>x_builtin (ha.evs rfl) (fun _=>l_slice TF.isslice_sl_api_Link)) (bog rfl rfl rfl rfl o_gtr ?_)));rcases Classical.em (0<(n7:Int)) with hb|hb
           ·replace H:=H.1 hb;exact svg rfl rfl rfl rfl (fun a ha=>o_t (x_move (ha.ev rfl)) hb) (sk rfl rfl rfl rfl (sk rfl rfl rfl rfl (sk rfl rfl rfl rfl (ptg rfl rfl rfl rfl (ptg rfl rfl rfl rfl (pf rfl rfl (sl_nil (nx_to fun a ha=>⟨true,ha.weaken (cn rfl (cn rfl (cn rfl (cn rfl (cn rfl (cn rfl (cn rfl (cn rfl (cn rfl zz))))))))),H⟩))))))))
           ·replace H:=H.2 hb;refine svg rfl rfl rfl rfl (fun a ha=>o_f (x_move (ha.ev rfl)) hb) (mvg rfl rfl rfl (sl_call rfl rfl (wanted_some rfl rfl rfl) (fun a ha=>x_call0 (ha.ev rfl) (ha.evs rfl) FF.callable_arbiterlaw13_no) H ?_));rintro _ w22 ⟨x12,rfl,H⟩;exact bog rfl rfl rfl rfl o_neq (pfg rfl rfl rfl rfl (ptg rfl rfl rfl rfl (pf rfl rfl (sl_nil (nx_to fun a ha=>⟨(decide (x12≠82)),ha.weaken (cn rfl (cn rfl (cn rfl (cn rfl (cn rfl (cn rfl (cn rfl (cn rfl (cn rfl zz))))))))),H⟩)))))
          ·replace H:=H.2 hb;exact svg rfl rfl rfl rfl (fun a ha=>o_bf (x_move (ha.ev rfl)) hb) (sk rfl rfl rfl rfl (sk rfl rfl rfl rfl (sk rfl rfl rfl rfl (sk rfl rfl rfl rfl (sl_skip rfl rfl (wanted_undef rfl rfl rfl) (sl_skip rfl rfl (wanted_undef rfl rfl rfl) (sl_skip rfl rfl (wanted_undef rfl rfl rfl) (sk rfl rfl rfl rfl (pfg rfl rfl rfl rfl (pf rfl rfl (sl_nil (nx_to fun a ha=>⟨false,ha.weaken (cn rfl (cn rfl (cn rfl (cn rfl (cn rfl (cn rfl (cn rfl (cn rfl (cn rfl zz))))))))),H⟩))))))))))))
      ·replace H:=H.2 hb;refine cw_exit (nx_exit_then (nx_exit_then (nx_exit_hit (nx_block (nc (kp 0 rfl (kp 5 rfl (kp 6 rfl (kp 8 rfl (kp 10 rfl zz))))) (cw_region (mv rfl (bo rfl rfl o_add (ag rfl (sl_nil ?_))))))))));obtain⟨k6,hk,H⟩:=H;exact nx_to fun a ha=>⟨k6,hk,IntKind.wrap .i64 (x6+1),ha.weaken (cn rfl (cn rfl (cn rfl (cn rfl (cn rfl zz))))),H⟩
     ·replace H:=H.2 hb;exact cw_exit (nx_exit_then (nx_exit_then (nx_exit_hit (nc zz (cw_seq (cw_region (ag rfl (sl_nil (nc (kp 4 rfl zz) (cw_ret (nx_body_ret (res1 rfl rfl) ⟨_,rfl,_,rfl,H⟩)))))))))))
  ·refine cw_region (mv rfl (sl_call rfl rfl (wanted_none rfl) (fun a ha=>x_call0 (ha.ev rfl) (ha.evs rfl) FF.callable_arbiterlaw13_sound) H ?_));rintro _ w3 ⟨b3,rfl,H⟩;refine sv rfl rfl (fun a ha=>x_unOp (ha.ev rfl) u_not) ?_;rcases tf (!b3) with hb|hb
   ·replace H:=H.1 hb;exact sv rfl rfl (fun a ha=>o_bt (x_move (ha.ev rfl)) hb) (sk rfl rfl rfl rfl (sk rfl rfl rfl rfl (pt rfl rfl (sl_nil (nx_to fun a ha=>⟨true,ha.weaken (cn rfl (cn rfl (cn rfl (cn rfl zz)))),H⟩)))))
   ·replace H:=H.2 hb;exact sv rfl rfl (fun a ha=>o_bf (x_move (ha.ev rfl)) hb) (mvg rfl rfl rfl (bog rfl rfl rfl rfl (o_eql_nil TF.ptr_p_euf_Graph) (pf rfl rfl (sl_nil (nx_to fun a ha=>⟨(decide (q1=none)),ha.weaken (cn rfl (cn rfl (cn rfl (cn rfl zz)))),H⟩)))))
end Go.Proofs.YtbmbhfghpidggaaDoor
namespace Go.Proofs.YtbmbhfghpidggaaDoor
set_option linter.unusedVariables false
set_option linter.unusedSimpArgs false
open Wk
def lnkV0 (l:Lnk):List Value:=[.int .i64 l.kind,.int .i64 l.a,.int .i64 l.b,.int .i64 l.tag,.slice none 0 0]
theorem slv_given0 (w:World) (xs:List SaidR):SlV cLink w ((givenL xs).flatMap lnkV0) (givenL xs):=by
 refine⟨flat_len (s:=5) (fun _=>rfl) _,fun i x hx=> ?_⟩
 have e:=flat_elem (f:=lnkV0) (s:=5) (fun _=>rfl) (givenL xs) i x hx
 have e5:cLink.size=5:=rfl
 rw[e5,e]
 refine⟨none,0,0,rfl,by decide,?_⟩
 obtain⟨s,_,rfl⟩:=List.mem_map.1 (List.mem_of_getElem? hx)
 exact Sl.nil _ _ _
section
variable {W0 B0:Nat} {w w':World} {p:Addr} {fs:List Flat} {H:Nat→Prop} {st:List SaidR} {ms:List Int} {A1 A2 A3 A4:Option Addr} {n2 n3 n4:Nat} {a b:Int} {ls:List Lnk}
theorem known_is (h:Live W0 B0 w p fs H st ms) (hin:In2 fs a b) (hs:SameBy fs st a b):
  Calls P F.arbiterlaw13_known #[.pointer (some p),.int .i64 a,.int .i64 b] w (Ret fun v w'=>v= .bool true∧Ext w w'):=by
 refine Ret.mono (ok_arbiterlaw13_known (some p) a b (fun q w'=>q=true∧Ext w w') w ?_) (by rintro _ w' ⟨b,rfl,rfl,h⟩;exact⟨rfl,h⟩)
 refine h.same.mono ?_
 rintro _ w1 ⟨_,rfl,r,e,rfl,⟨h1,_⟩|⟨h1,rfl,h2⟩,E⟩
 ·exact absurd hin h1
 have hr:=h2.2 hs
 subst hr
 refine⟨_,rfl,true,0,rfl,fun _=>(law_no_is 0).mono ?_,fun q=>(by cases q)⟩
 rintro _ w2 ⟨_,rfl,rfl,rfl⟩
 exact⟨_,rfl,0,rfl,rfl,E⟩
theorem proved_is {c1 c2 c3 c4:Nat} (hx:∀w',Ext w w'→Sl cFlat w' A1 fs.length fs) (hS:Sl cSaid w A2 n2 st) (hG:Sl cLink w A3 n3 (givenL st)) (hL:Sl cLink w A4 n4 ls) (s4:n4≤1099511627776) (hB:B0≤w.heap.size) (tab:Tab10 B0 w) (ok:NodesOk W0 fs) (val:∀s∈st,In2 fs s.a s.b) (s2:n2≤1048575) (hs:Sound fs) (hall:AllOk fs st ls) {last:Lnk} (hl:ls[ls.length-1]? =some last) (la:last.a=a) (lb:last.b=b):
  Calls P F.arbiterlaw13_proved #[.slice A1 fs.length c1,.slice A2 n2 c2,.slice A3 n3 c3,.slice A4 n4 c4,.int .i64 a,.int .i64 b] w (Ret fun v w'=>v= .bool true∧Ext w w'):=by
 refine Ret.mono (ok_arbiterlaw13_proved A1 fs.length c1 A2 n2 c2 A3 n3 c3 A4 n4 c4 a b (fun q w'=>q=true∧Ext w w') w ?_) (by rintro _ w' ⟨b,rfl,rfl,h⟩;exact⟨rfl,h⟩)
 have few:=ok.few
 have e2:=hS.1
 have e3:=hG.1
 have e4:=hL.1
 have gl:=givenL_len st
 have hpos:0<ls.length:=by
  have:=(List.getElem?_eq_some_iff.1 hl).1
  omega
 have hin:In2 fs a b:=by
  have:=hall _ _ hl
  rw[←la,←lb]
  exact .of this.va this.vb
 unfold vc_arbiterlaw13_proved
 refine(euf_Audit_is c1 c3 c4 (hx w (Ext.refl w)) hG hL (by unfold Sm;omega) (by unfold Sm;omega) (by unfold Sm;omega)).mono ?_
 rintro _ w1 ⟨_,rfl,r,e,rfl,ha,E1⟩
 have hre:r= -1∧e=0:=by
  rcases ha with⟨h,_⟩|⟨_,h,⟨h1,_⟩|⟨h1,h2,h3,_⟩⟩
  ·exact absurd hs h
  ·exact⟨h1,h⟩
  ·exfalso
   have:=allOk_fol hall r.toNat (by omega)
   rw[show((r.toNat:Nat):Int)=r by omega] at this
   exact h3 this
 obtain⟨rfl,rfl⟩:=hre
 have key:∀q:Bool,q=false→vc_arbiterlaw13_proved_J3 (fun q w'=>q=true∧Ext w w') n4 A4 A1 fs.length c1 A2 n2 c2 a b q w1:=by
  rintro _ rfl
  refine⟨fun q=>(by cases q),fun _=> ?_⟩
  refine⟨fun k A n c i w'=>k=n4-i.toNat∧0≤i∧i≤n4∧Ext w1 w'∧Row w' w1.heap.size T.int 1 A n c ((tagsOf (ls.take i.toNat)).map iv),⟨n4,by simp,by omega,by omega,Ext.refl _,Row.nil _ _ _ _⟩,?_⟩
  rintro k A5 n5 c5 i w4 ⟨rfl,i0,i1,E4,R⟩
  have E4':=E1.trans E4
  have e5:=R.1
  rw[List.length_map] at e5
  have hle:(tagsOf (ls.take i.toNat)).length≤i.toNat:=Nat.le_trans (tagsOf_len _) (by rw[List.length_take];omega)
  refine⟨fun hlt=> ?_,fun hge=> ?_⟩
  ·obtain⟨l,ad,B,m,cc,hli,hA,hc,_⟩:=(hL.ext E4').link i0 hlt
   have J:∀A n c w',Ext w1 w'→Row w' w1.heap.size T.int 1 A n c ((tagsOf (ls.take (i.toNat+1))).map iv)→vc_arbiterlaw13_proved_J1 (n4-i.toNat) (fun k A n c i w'=>k=n4-i.toNat∧0≤i∧i≤n4∧Ext w1 w'∧Row w' w1.heap.size T.int 1 A n c ((tagsOf (ls.take i.toNat)).map iv)) i A n c w':=by
    intro A n c w' E' R'
    refine⟨n4-(i+1).toNat,by omega,?_⟩
    rw[step_le i0 hlt (by unfold Sm;omega)]
    exact⟨rfl,by omega,by omega,E',by rw[show(i+1).toNat=i.toNat+1 by omega];exact R'⟩
   refine⟨i0,hlt,ad,hA,l.kind,hc 0 _ rfl,fun hk=>⟨i0,hlt,ad,hA,l.tag,hc 3 _ rfl,fun p1 w5 hN5=> ?_⟩,fun hk=>J _ _ _ w4 E4 ?_⟩
   ·have E5:=E4.new hN5
    have R5:=R.keep (Ext.of_new hN5) fun _ _ h=>h
    obtain⟨A',c',w6,hr,R6,hK,_⟩:=R5.append (P:=P) (m:=1) (c2:=1) (t:=T.sl_int) (ty:=T.sl_int) (by_:=8) (by kernel_rfl) (by kernel_rfl) (by decide) (news:=[.int .i64 l.tag]) rfl (hN5.cells rfl) (by intro u hu;simp at hu;subst hu;rfl) (by omega) (by omega) E5.size
    refine⟨A',n5+1,c',w6,hr,J _ _ _ w6 (E5.over hK fun b hb hh=>by have:=(R5.at hh).1;omega) ?_⟩
    rw[tagsOf_snoc hli,if_pos hk,List.map_append]
    exact R6
   ·rw[tagsOf_snoc hli,if_neg hk,List.append_nil]
    exact R
  ·have hi:i.toNat=ls.length:=by omega
   rw[hi,List.take_length] at R hle e5
   refine(told_is (W0:=W0) (B0:=B0) (c1:=c1) (c2:=c2) (c3:=c5) (b1:=false) (tags:=tagsOf ls) (fun w' E'=>hx w' (E4'.trans E')) (hS.ext E4') (by have:=row_ints R;exact this) (Nat.le_trans hB E4'.size) (tab_keep tab E4' hB (fun _ _ h=>h.elim)) ok val s2 (by omega)).mono ?_
   rintro _ w8 ⟨_,rfl,⟨h1,_⟩|⟨_,pf,Hf,rfl,Lf,advf⟩⟩
   ·exact absurd hs h1
   refine⟨_,rfl,_,rfl,fun _=>(known_is Lf hin ?_).mono ?_,fun q=>absurd (by simp) q⟩
   ·have:=allOk_tags hall ls.length _ last (by omega) hl
    rw[la,lb] at this
    exact this
   ·rintro _ w9 ⟨_,rfl,rfl,E9⟩
    exact⟨_,rfl,true,rfl,rfl,(E4'.trans advf.keep).trans E9⟩
 refine⟨_,rfl,-1,0,rfl,fun q=>absurd rfl q,fun _=>(law_no_is 0).mono ?_⟩
 rintro _ w3 ⟨_,rfl,rfl,rfl⟩
 have ew:IntKind.wrap .i64 ((n4:Int)-1)=n4-1:=wrap_small (by omega) (by omega)
 obtain⟨q,ad,B,m,cc,hq,hA,hc,_⟩:=(hL.ext E1).link (i:=(n4:Int)-1) (by omega) (by omega)
 rw[show((n4:Int)-1).toNat=ls.length-1 by omega,hl] at hq
 cases hq
 refine⟨_,rfl,0,rfl,fun q=>absurd rfl q,fun _=>⟨fun q=>(by omega),fun _=> ?_⟩⟩
 rw[ew]
 refine⟨by omega,by omega,ad,hA,last.a,hc 1 _ rfl,fun q=>absurd la q,fun _=>⟨by omega,by omega,ad,hA,last.b,hc 2 _ rfl,key _ ?_⟩⟩
 rw[decide_eq_false_iff_not]
 exact fun q=>q lb
theorem EufBirkhoff_is {ops:List OpR} {c1 c2:Nat} (hN:Sl cFlat w A1 fs.length fs) (hO:Sl cOp w A2 n2 ops) (hB:B0≤w.heap.size) (tab:Tab10 B0 w) (ok:NodesOk W0 fs) (s2:n2≤1048574):
  Calls P F.arbiterlaw13_EufBirkhoff #[.slice A1 fs.length c1,.slice A2 n2 c2] w (Ret fun v w'=>v= .bool true∧Ext w w'):=by
 refine Ret.mono (ok_arbiterlaw13_EufBirkhoff A1 fs.length c1 A2 n2 c2 (fun b w'=>b=true∧Ext w w') w ?_) (by rintro _ w' ⟨b,rfl,rfl,h⟩;exact⟨rfl,h⟩)
 have few:=ok.few
 have sm1:Sm fs.length:=by unfold Sm;omega
 unfold vc_arbiterlaw13_EufBirkhoff
 refine(heads_is hB tab).mono ?_
 rintro _ w1 ⟨_,rfl,rfl,E1⟩
 refine⟨_,rfl,true,rfl,fun q=>(by cases q),fun _=> ?_⟩
 have tb:∀w',Ext w w'→Tab10 B0 w':=fun w' E=>tab_keep tab E hB (fun _ _ h=>h.elim)
 refine(played_is (c1:=c1) (c2:=c2) (fun w' E'=>hN.ext (E1.trans E')) (hO.ext E1) (Nat.le_trans hB E1.size) (tb w1 E1) ok (by omega)).mono ?_
 rintro _ w2 ⟨v2,rfl,⟨hns,rfl,E2⟩|⟨hs,p,H,rfl,L,adv⟩⟩
 ·have E2':=E1.trans E2
  refine⟨_,rfl,_,rfl,(law_sound_is c1 (hN.ext E2') sm1).mono ?_⟩
  rintro _ w3 ⟨_,rfl,b3,rfl,hb3,rfl⟩
  have hf:b3=false:=by cases b3<;>first|rfl|exact absurd (hb3.1 rfl) hns
  subst hf
  refine⟨_,rfl,false,rfl,fun _=>⟨fun _=>(law_sound_is c1 (hN.ext E2') sm1).mono ?_,fun q=>(by cases q)⟩,fun q=>(by cases q)⟩
  rintro _ w5 ⟨_,rfl,b5,rfl,hb5,rfl⟩
  have hf5:b5=false:=by cases b5<;>first|rfl|exact absurd (hb5.1 rfl) hns
  subst hf5
  exact⟨_,rfl,false,rfl,fun _=>⟨by simp,E2'⟩,fun q=>(by cases q)⟩
 have E2':=E1.trans adv.keep
 refine⟨_,rfl,_,rfl,(law_sound_is c1 (hN.ext E2') sm1).mono ?_⟩
 rintro _ w3 ⟨_,rfl,b3,rfl,hb3,rfl⟩
 have ht:=hb3.2 hs
 subst ht
 refine⟨_,rfl,true,rfl,fun q=>(by cases q),fun _=>⟨fun q=>absurd (of_decide_eq_true q) (by simp),fun _=> ?_⟩⟩
 obtain⟨mo,ml1,ml2⟩:=standS_ok fs ops ops.length (Nat.le_refl _)
 rw[List.take_length] at mo ml1 ml2
 have hon:=hO.1
 have hval:=L.val
 refine(stands_is (fs:=fs) (A1:=A1) c1 c2 (hO.ext E2') (by omega)).mono ?_
 rintro _ w7 ⟨_,rfl,A3,n3,c3,rfl,hn3,E7,R7⟩
 have E7':=E2'.trans E7
 have hS7:Sl cSaid w7 A3 n3 (standS fs ops).1:=row_sl (cd:=cSaid) (e:=T.arbiterlaw13_Said) R7 (slv_said w7 _) (by decide)
 have L7:=L.stay E7
 generalize hst:standS fs ops=S at*
 obtain⟨st,ms⟩:=S
 simp only at*
 refine⟨_,rfl,A3,n3,c3,_,rfl,?_⟩
 refine⟨fun k A n c i w'=>k=n3-i.toNat∧0≤i∧i≤n3∧Ext w7 w'∧Row w' w7.heap.size T.api_Link 5 A n c ((givenL (st.take i.toNat)).flatMap lnkV0),⟨n3,by simp,by omega,by omega,Ext.refl _,Row.nil _ _ _ _⟩,?_⟩
 rintro k A4 n4 c4 i w8 ⟨rfl,i0,i1,E8,R8⟩
 have e4:=R8.1
 rw[flat_len (s:=5) (fun _=>rfl)] at e4
 have hle:(givenL (st.take i.toNat)).length≤i.toNat:=Nat.le_trans (givenL_len _) (by rw[List.length_take];omega)
 refine⟨fun hlt=> ?_,fun hge=> ?_⟩
 ·obtain⟨s,ad,hsi,hA,hc⟩:=(hS7.ext E8).said i0 hlt
  have J:∀A n c w',Ext w7 w'→Row w' w7.heap.size T.api_Link 5 A n c ((givenL (st.take (i.toNat+1))).flatMap lnkV0)→vc_arbiterlaw13_EufBirkhoff_J2 (n3-i.toNat) (fun k A n c i w'=>k=n3-i.toNat∧0≤i∧i≤n3∧Ext w7 w'∧Row w' w7.heap.size T.api_Link 5 A n c ((givenL (st.take i.toNat)).flatMap lnkV0)) i A n c w':=by
   intro A n c w' E' R'
   refine⟨n3-(i+1).toNat,by omega,?_⟩
   rw[step_le i0 hlt (by unfold Sm;omega)]
   exact⟨rfl,by omega,by omega,E',by rw[show(i+1).toNat=i.toNat+1 by omega];exact R'⟩
  refine⟨i0,hlt,ad,hA,s.not,hc 0 _ rfl,fun hn=>⟨i0,hlt,ad,hA,s.a,hc 1 _ rfl,i0,hlt,ad,hA,s.b,hc 2 _ rfl,i0,hlt,ad,hA,s.tag,hc 3 _ rfl,fun w14 hw14 p1 w9 hN9 w13 hw13=> ?_⟩,fun hn=>J _ _ _ w8 E8 ?_⟩
  ·have hnot:s.not=false:=by cases h:s.not<;>rw[h] at hn<;>first|rfl|cases hn
   have E13:Ext w8 w13:=((Ext.of_drawn hw14).new hN9).drawn hw13
   have R13:=R8.keep E13 fun _ _ h=>h
   have E713:=E8.trans E13
   obtain⟨A',c',w10,hr,R10,hK,_⟩:=R13.append (P:=P) (m:=1) (c2:=1) (t:=T.sl_api_Link) (ty:=T.sl_api_Link) (by_:=56) (by kernel_rfl) (by kernel_rfl) (by decide) (news:=lnkV0 ⟨1,s.a,s.b,s.tag,[]⟩) rfl ((Ext.of_drawn hw13).cells (hN9.cells rfl)) (by intro u hu;simp[lnkV0] at hu;rcases hu with rfl|rfl|rfl|rfl|rfl<;>rfl) (by omega) (by omega) E713.size
   refine⟨A',n4+1,c',w10,hr,fun w11 hw11=>J _ _ _ w11 ((E713.over hK fun b hb hh=>by have:=(R13.at hh).1;omega).drawn hw11) ?_⟩
   rw[givenL_snoc hsi,hnot,if_neg (by decide),List.flatMap_append]
   have:=R10.keep (Ext.of_drawn hw11) fun _ _ h=>h
   simpa using this
  ·have hnot:s.not=true:=by cases h:s.not<;>rw[h] at hn<;>first|rfl|cases hn
   rw[givenL_snoc hsi,hnot,if_pos rfl,List.append_nil]
   exact R8
 have hi:i.toNat=st.length:=by omega
 rw[hi,List.take_length] at R8
 have hG8:Sl cLink w8 A4 n4 (givenL st):=row_sl (cd:=cLink) (e:=T.api_Link) R8 (slv_given0 w8 _) (by decide)
 have L8:=L7.stay E8
 have hS8:=hS7.ext E8
 have E8':=E7'.trans E8
 have A8:Adv (fun _=>False) w1 H w8:=(adv.trans (Adv.of_ext E7)).trans (Adv.of_ext E8)
 refine⟨fun k i w'=>k=fs.length-i.toNat∧0≤i∧i≤fs.length∧Ext w8 w',⟨_,rfl,by omega,by omega,Ext.refl _⟩,?_⟩
 rintro k i w15 ⟨rfl,i0,i1,E15⟩
 refine⟨fun hlt=> ?_,fun hge=>⟨by simp,E8'.trans E15⟩⟩
 refine⟨fun k j w'=>k=fs.length-j.toNat∧0≤j∧j≤fs.length∧Ext w8 w',⟨_,rfl,by omega,by omega,E15⟩,?_⟩
 rintro k j w16 ⟨rfl,j0,j1,E16⟩
 refine⟨fun jlt=> ?_,fun jge=>⟨fs.length-(i+1).toNat,by omega,by rw[step_le i0 hlt sm1];exact⟨rfl,by omega,by omega,E16⟩⟩⟩
 have hin:In2 fs i j:=⟨i0,j0,hlt,jlt⟩
 have next:∀w',Ext w8 w'→vc_arbiterlaw13_EufBirkhoff_J3 (fun b w'=>b=true∧Ext w w') (fs.length-j.toNat) (fun k j w'=>k=fs.length-j.toNat∧0≤j∧j≤fs.length∧Ext w8 w') j false w':=fun w' E'=>
  ⟨fun q=>(by cases q),fun _=>⟨fs.length-(j+1).toNat,by omega,by rw[step_le j0 jlt sm1];exact⟨rfl,by omega,by omega,E'⟩⟩⟩
 refine((L8.stay E16).same (a:=i) (b:=j)).mono ?_
 rintro _ w17 ⟨_,rfl,r,e,rfl,⟨h1,_⟩|⟨_,rfl,hr⟩,E17⟩
 ·exact absurd hin h1
 refine⟨_,rfl,r,0,rfl,(((L8.stay E16).stay E17).prove (a:=i) (b:=j) (by omega)).mono ?_⟩
 rintro _ w18 ⟨_,rfl,B,m,d,e,rfl,E18,hp⟩
 refine⟨_,rfl,B,m,d,e,rfl,(law_no_is 0).mono ?_⟩
 rintro _ w19 ⟨_,rfl,rfl,rfl⟩
 refine⟨_,rfl,0,rfl,fun q=>absurd rfl q,fun _=>(law_no_is e).mono ?_⟩
 rintro _ w21 ⟨_,rfl,rfl,rfl⟩
 have E18':=(E16.trans E17).trans E18
 refine⟨_,rfl,e,rfl,?_⟩
 rcases hp with⟨h1,_⟩|⟨_,hns,rfl,rfl⟩|⟨_,hsm,rfl,ls,lv,rfl,hll,RL,SL,hall,last,hl,la,lb⟩
 ·exact absurd hin h1
 ·have hrf:r=false:=by cases r<;>first|rfl|exact absurd (hr.1 rfl) hns
  subst hrf
  refine⟨fun q=>absurd (by decide) q,fun _=>⟨fun _=>⟨fun q=>(by omega),fun _=>(law_no_is 82).mono ?_⟩,fun q=>(by cases q)⟩⟩
  rintro _ w22 ⟨_,rfl,rfl,rfl⟩
  exact⟨_,rfl,82,rfl,fun q=>absurd (of_decide_eq_true q) (by decide),fun _=>⟨fun q=>(by cases q),fun _=>next _ E18'⟩⟩
 ·have hrt:=hr.2 hsm
  subst hrt
  refine⟨fun q=>absurd (by decide) q,fun _=>⟨fun q=>(by cases q),fun _=>⟨fun q=>(by cases q),fun _=>⟨fun _=> ?_,fun q=>(by cases q)⟩⟩⟩⟩
  have hL:Sl cLink w21 B ls.length ls:=row_sl (cd:=cLink) (e:=T.api_Link) RL SL.now (by decide)
  have E21:=E8'.trans E18'
  refine(proved_is (W0:=W0) (B0:=B0) (c1:=c1) (c2:=c3) (c3:=c4) (c4:=d) (fun w' E'=>hN.ext (E21.trans E')) (hS8.ext E18') (hG8.ext E18') hL hll (Nat.le_trans hB E21.size) (tb _ E21) ok hval (by omega) hs hall hl la lb).mono ?_
  rintro _ w23 ⟨_,rfl,rfl,E23⟩
  exact⟨_,rfl,true,rfl,next _ (E18'.trans E23)⟩
end
end Go.Proofs.YtbmbhfghpidggaaDoor
namespace Go.Proofs.YtbmbhfghpidggaaDoor
set_option linter.unusedVariables false
set_option linter.unusedSimpArgs false
open Wk Go.ChangeShapes Go.WideShapes Go.Deep Go.RowKit
namespace Opn
theorem one_le {H:Type} (d:DataW H):1≤Rows.uptoBulk d:=by
 cases d with
 |lit l=>cases l<;>simp[Rows.uptoBulk]
 |nil=>simp[Rows.uptoBulk]
 |ptr d=>simp[Rows.uptoBulk]
 |slice elems spare=>simp[Rows.uptoBulk]
 |agg parts=>simp[Rows.uptoBulk]
 |iface t d=>simp[Rows.uptoBulk]
 |map entries=>simp[Rows.uptoBulk]
 |held h=>simp[Rows.uptoBulk]
theorem part_le {H:Type} {d:DataW H} {l:List (DataW H)} (h:d∈l):Rows.uptoBulk d≤Rows.uptoBulkAll l:=by
 induction l with
 |nil=>cases h
 |cons x r ih=>
  simp only[Rows.uptoBulkAll]
  cases List.mem_cons.1 h with
  |inl e=>subst e;omega
  |inr e=>have:=ih e;omega
theorem length_le {H:Type} (l:List (DataW H)):l.length≤Rows.uptoBulkAll l:=by
 induction l with
 |nil=>simp[Rows.uptoBulkAll]
 |cons x r ih=>have:=one_le x;simp only[Rows.uptoBulkAll,List.length_cons];omega
abbrev Few {H:Type} (d:DataW H):Prop:=Rows.uptoBulk d≤1048576
theorem few_slice {H:Type} {es sp:List (DataW H)} (h:Few (.slice es sp)):es.length≤1048576∧∀d∈es,Few d:=by
 unfold Few at h
 simp only[Rows.uptoBulk] at h
 have h1:=length_le es
 refine⟨by omega,fun d hd=> ?_⟩
 have:=part_le hd
 unfold Few
 omega
theorem few_agg {H:Type} {es:List (DataW H)} (h:Few (.agg es)):∀d∈es,Few d:=by
 unfold Few at h
 simp only[Rows.uptoBulk] at h
 intro d hd
 have:=part_le hd
 unfold Few
 omega
theorem few_of {H:Type} {l:List (DataW H)} (h:Rows.uptoSmall H l=true):∀d∈l,Few d:=by
 have h:=of_decide_eq_true h
 intro d hd
 have:=part_le hd
 unfold Few
 omega
theorem mapM_spec {α β:Type} {f:α→Option β}:∀{l:List α} {r:List β},l.mapM f=some r→r.length=l.length∧∀(i:Nat) x,l[i]? =some x→f x=r[i]?
 |[],r,h=>by simp at h;subst h;simp
 |a::l,r,h=>by
  rw[List.mapM_cons] at h
  cases hf:f a with
  |none=>rw[hf] at h;cases h
  |some b=>
   cases hm:l.mapM f with
   |none=>rw[hf,hm] at h;cases h
   |some s=>
    rw[hf,hm] at h
    cases h
    obtain⟨h1,h2⟩:=mapM_spec hm
    refine⟨by simp[h1],fun i x hx=> ?_⟩
    cases i with
    |zero=>simp at hx;subst hx;simpa using hf
    |succ i=>simpa using h2 i x (by simpa using hx)
theorem cells_spec {w:World} {base:Nat} {a:Addr} {n:Nat} {cs:List Value} (h:w.cells? base a n=some cs):cs.length=n∧CellsAt w a cs:=by
 unfold World.cells? at h
 split at h
 ·obtain⟨h1,h2⟩:=mapM_spec h
  rw[List.length_range] at h1
  refine⟨h1,fun j v hv=> ?_⟩
  have hj:=(List.getElem?_eq_some_iff.1 hv).1
  rw[h2 j j (by rw[List.getElem?_range (by omega)]),hv]
 ·cases h
section
variable {P:Program}
def cAnd {α:Type} (c:Cod α) (Q:α→Prop):Cod α:=⟨c.size,fun w vs x=>c.rd w vs x∧Q x,fun k h=>⟨c.keep k h.1,h.2⟩⟩
theorem sl_and {α:Type} {c:Cod α} {Q:α→Prop} {w:World} {A:Option Addr} {n:Nat} {xs:List α} (h:Sl (cAnd c Q) w A n xs):Sl c w A n xs∧∀x∈xs,Q x:=
 ⟨⟨h.1,fun i x hx=>let ⟨ad,vs,h1,h2,h3,h4⟩:=h.2 i x hx;⟨ad,vs,h1,h2,h3,h4.1⟩⟩,fun x hx=>by
  obtain⟨i,hi⟩:=List.mem_iff_getElem?.1 hx
  obtain⟨_,_,_,_,_,h4⟩:=h.2 i x hi
  exact h4.2⟩
theorem i64_of_wf {n:Int} (h:(Lit.int .i64 n).wf=true): -9223372036854775808≤n∧n≤9223372036854775807:=by
 simpa [Lit.wf,IntKind.min,IntKind.max,IntKind.signed,IntKind.bits] using h
def fieldsOf (P:Program) (t:TypeId):Option (List (TypeId×Nat×Nat)):=match P.underlying t with
 |some (.struct fs)=>some (fs.toList.map fun f=>(f.type,f.offset,P.cellsOf f.type))
 |_=>none
end
theorem below {W W':World} (h:Ext W W'):Below W.heap.size W W':=⟨h.os,h.tape,h.output,h.size,fun k hk=>h.block k hk fun h=>h⟩
end Opn
end Go.Proofs.YtbmbhfghpidggaaDoor
namespace Go.Proofs.YtbmbhfghpidggaaDoor
set_option linter.unusedVariables false
set_option linter.unusedSimpArgs false
open Wk Go.ChangeShapes Go.WideShapes Go.Deep Go.RowKit
namespace Opn
theorem sum_le_bulk {α H:Type} {m:α→Nat}:∀{xs:List α} {ds:List (DataW H)},xs.length=ds.length→(∀(i:Nat) x d,xs[i]? =some x→ds[i]? =some d→m x≤Rows.uptoBulk d)→(xs.map m).sum≤Rows.uptoBulkAll ds
 |[],[],_,_=>by simp
 |x::xs,d::ds,hl,h=>by
  have h0:=h 0 x d rfl rfl
  have:=sum_le_bulk (m:=m) (xs:=xs) (ds:=ds) (by simpa using hl) fun i x d hx hd=>h (i+1) x d (by simpa using hx) (by simpa using hd)
  simp only[List.map_cons,List.sum_cons,Rows.uptoBulkAll]
  omega
 |[],_::_,hl,_=>by simp at hl
 |_::_,[],hl,_=>by simp at hl
section
variable {P:Program}
def OpensM (P:Program) {α:Type} (c:Cod α) (m:α→Nat) (t:TypeId):Prop:=
 ∀{H:Type} {enc:TypeId×Value→H} {w:World} {base:Nat} {spare:Nat→Bool} {held:Bool} {fuel:Nat} {cs:List Value} {x:DataW H×List MemPlace},DataW.trod enc P w base spare held fuel t cs=some x→Few x.1→cs.length=c.size∧∃a,c.rd w cs a∧m a≤Rows.uptoBulk x.1
theorem opensM_int {k:IntKind} {t:TypeId} (ht:P.underlying t=some (.int k)):OpensM P (cInt k) (fun _=>1) t:=by
 intro H enc w base spare held fuel cs x h _
 obtain⟨n,rfl,_,_⟩:=DataW.trod_int ht h
 exact⟨rfl,n,rfl,one_le _⟩
theorem opensM_sl {α:Type} {c:Cod α} {m:α→Nat} {t e:TypeId} (ht:elemT P t=some e) (hc:P.cellsOf e=c.size) (ho:OpensM P c m e) {H:Type} {enc:TypeId×Value→H} {w:World} {base:Nat} {spare:Nat→Bool} {held:Bool} {fuel:Nat} {cs:List Value} {x:DataW H×List MemPlace}
  (h:DataW.trod enc P w base spare held fuel t cs=some x) (hf:Few x.1):∃A n cp xs,cs=[.slice A n cp]∧n≤1048576∧n≤cp∧Sl c w A n xs∧(xs.map m).sum+1≤Rows.uptoBulk x.1:=by
 rcases open_slice (elem_under ht) h with⟨rfl,rfl⟩|⟨a,len,cap,m',n,D,Pl,rfl,hb,hl,hm,hmm,rfl,hx⟩
 ·exact⟨none,0,0,[],rfl,by omega,by omega,Sl.nil _ _ _,by simp[Rows.uptoBulk]⟩
 ·obtain⟨h1,h2⟩:=few_slice hf
  simp only[List.length_map,List.length_range] at h1
  have key:∀i:Fin len,∃y,(∃vs,vs.length=c.size∧CellsAt w (a.add (i.1*c.size)) vs∧c.rd w vs y)∧m y≤Rows.uptoBulk (D i.1):=by
   intro i
   have hi:=i.2
   obtain⟨cs',hcs,ht'⟩:=hx i.1 (by rw[hmm];split<;>omega)
   obtain⟨g1,g2⟩:=cells_spec hcs
   obtain⟨g3,y,g4,g5⟩:=ho ht' (h2 _ (List.mem_map.2 ⟨i.1,by simp[hi],rfl⟩))
   exact⟨y,⟨cs',g3,by rw[←hc];exact g2,g4⟩,g5⟩
  refine⟨some a,len,cap,List.ofFn fun i=>(key i).choose,rfl,h1,hl,⟨by simp,fun i y hy=> ?_⟩,?_⟩
  ·rw[List.getElem?_ofFn] at hy
   split at hy
   ·rename_i hi
    cases hy
    obtain⟨vs,k1,k2,k3⟩:=(key ⟨i,hi⟩).choose_spec.1
    exact⟨a,vs,rfl,k1,k2,k3⟩
   ·cases hy
  ·have:=sum_le_bulk (m:=m) (xs:=List.ofFn fun i=>(key i).choose) (ds:=(List.range len).map D) (by simp) fun i x d hx hd=>by
    rw[List.getElem?_ofFn] at hx
    split at hx
    ·rename_i hi
     cases hx
     rw[List.getElem?_map,List.getElem?_range hi] at hd
     cases hd
     exact(key ⟨i,hi⟩).choose_spec.2
    ·cases hx
   simp only[Rows.uptoBulk]
   omega
theorem trod_fieldsM {t:TypeId} {L:List (TypeId×Nat×Nat)} (ht:fieldsOf P t=some L) {H:Type} {enc:TypeId×Value→H} {w:World} {base:Nat} {spare:Nat→Bool} {held:Bool} {fuel:Nat} {cs:List Value} {x:DataW H×List MemPlace}
  (h:DataW.trod enc P w base spare held fuel t cs=some x) (hf:Few x.1):
  cs.length=P.cellsOf t∧∃(n:Nat) (ys:List (DataW H)),Rows.uptoBulk x.1=Rows.uptoBulkAll ys+1∧ys.length=L.length∧∀(i:Nat) ty off sz,L[i]? =some (ty,off,sz)→∃y,DataW.trod enc P w base spare held n ty ((cs.drop off).take sz)=some y∧Few y.1∧ys[i]? =some y.1:=by
 unfold fieldsOf at ht
 split at ht
 ·rename_i fs hfs
  cases ht
  obtain⟨xs,n,rfl,rfl,hl,hlen,hff⟩:=DataW.trod_struct hfs h
  refine⟨hl,n,xs.map (·.1),by simp only[Rows.uptoBulk],by simp[hlen],fun i ty off sz hi=> ?_⟩
  rw[List.getElem?_map] at hi
  cases hq:fs.toList[i]? with
  |none=>rw[hq] at hi;cases hi
  |some f=>
   rw[hq] at hi
   simp only[Option.map_some,Option.some.injEq,Prod.mk.injEq] at hi
   obtain⟨rfl,rfl,rfl⟩:=hi
   have hi':=(List.getElem?_eq_some_iff.1 hq).1
   rw[Array.length_toList] at hi'
   have h1:=hff i f (by rw[←hq,Array.getElem?_toList])
   have hxi:i<xs.length:=by omega
   rw[List.getElem?_eq_getElem hxi] at h1
   exact⟨_,h1,few_agg hf _ (List.mem_map.2 ⟨_,List.getElem_mem hxi,rfl⟩),by rw[List.getElem?_map,List.getElem?_eq_getElem hxi];rfl⟩
 ·cases ht
theorem val_slM {α:Type} {c:Cod α} {m:α→Nat} {t e:TypeId} (ht:elemT P t=some e) (hc:P.cellsOf e=c.size) (ho:OpensM P c m e) {H:Type} {enc:TypeId×Value→H} {w:World} {base b0:Nat} {r:Reach} {spare:Nat→Bool} {held:Bool} {v:Value} {d:DataW H} {ps:List MemPlace}
  (hv:Value.okWide P w r b0 t v) (h:DataW.Trod enc P w base spare held t v d ps) (hf:Few d):∃A n cp xs,v= .slice A n cp∧n≤1048576∧n≤cp∧Sl c w A n xs∧(xs.map m).sum+1≤Rows.uptoBulk d:=by
 obtain⟨A,n,cp,rfl⟩:=okWide_slice (elem_under ht) hv
 obtain⟨fuel,h⟩:=h
 obtain⟨A',n',cp',xs,hcs,hn,hle,hs,hm⟩:=opensM_sl ht hc ho h hf
 simp only[Value.cells,List.cons.injEq,Value.slice.injEq,and_true] at hcs
 obtain⟨rfl,rfl,rfl⟩:=hcs
 exact⟨_,_,_,xs,rfl,hn,hle,hs,hm⟩
end
theorem one_sum {α:Type}:∀(l:List α),(l.map fun _=>1).sum=l.length
 |[]=>rfl
 |x::l=>by simp only[List.map_cons,List.sum_cons,one_sum l,List.length_cons];omega
theorem own:ownKnob Tryd.prog.godebug=none:=by kernel_rfl
theorem laidOut:laidOutB Tryd.prog=true:=by kernel_rfl
theorem two {α:Type} {cs:List α} (h:cs.length=2):∃a b,cs=[a,b]:=by
 match cs,h with
 |[a,b],_=>exact⟨a,b,rfl⟩
theorem five {α:Type} {cs:List α} (h:cs.length=5):∃a b c d e,cs=[a,b,c,d,e]:=by
 match cs,h with
 |[a,b,c,d,e],_=>exact⟨a,b,c,d,e,rfl⟩
theorem uInt:P.underlying T.int=some (.int .i64):=by kernel_rfl
theorem uBool:P.underlying T.bool=some .bool:=by kernel_rfl
theorem eInts:elemT P T.sl_int=some T.int:=by kernel_rfl
theorem cInt1:P.cellsOf T.int=1:=by kernel_rfl
theorem fFlat:fieldsOf P T.api_Flat=some [(T.int,0,1),(T.sl_int,1,1)]:=by kernel_rfl
theorem fOp:fieldsOf P T.arbiterlaw13_Op=some [(T.int,0,1),(T.bool,1,1),(T.int,2,1),(T.int,3,1),(T.int,4,1)]:=by kernel_rfl
theorem cFlat2:P.cellsOf T.api_Flat=2:=by kernel_rfl
theorem cOp5:P.cellsOf T.arbiterlaw13_Op=5:=by kernel_rfl
theorem eFlats:elemT P T.sl_api_Flat=some T.api_Flat:=by kernel_rfl
theorem eOps:elemT P T.sl_arbiterlaw13_Op=some T.arbiterlaw13_Op:=by kernel_rfl
abbrev cFlat64:Cod Flat:=cAnd cFlat fun x=>I64 x.fn
theorem opensM_flat:OpensM P cFlat64 (fun x=>x.args.length+3) T.api_Flat:=by
 intro H enc w base spare held fuel cs x h hf
 obtain⟨hl,n,ys,hb,hyl,hfs⟩:=trod_fieldsM fFlat h hf
 rw[cFlat2] at hl
 obtain⟨a,b,rfl⟩:=two hl
 obtain⟨z0,z1,rfl⟩:=two hyl
 obtain⟨y0,h0,f0,g0⟩:=hfs 0 _ _ _ rfl
 obtain⟨y1,h1,f1,g1⟩:=hfs 1 _ _ _ rfl
 cases g0
 cases g1
 obtain⟨k0,e0,_,w0⟩:=DataW.trod_int uInt h0
 obtain⟨A,m,c,xs,e1,hm,_,hs,hsum⟩:=opensM_sl eInts (c:=cInt .i64) cInt1 (opensM_int uInt) h1 f1
 simp at e0 e1
 subst e0
 subst e1
 refine⟨rfl,⟨k0,xs⟩,⟨⟨A,m,c,rfl,by unfold Sm;omega,hs⟩,i64_of_wf w0⟩,?_⟩
 have o1:=one_le y0.1
 rw[one_sum] at hsum
 rw[hb]
 simp only[Rows.uptoBulkAll]
 omega
theorem opensM_op:OpensM P cOp (fun _=>6) T.arbiterlaw13_Op:=by
 intro H enc w base spare held fuel cs x h hf
 obtain⟨hl,n,ys,hb,hyl,hfs⟩:=trod_fieldsM fOp h hf
 rw[cOp5] at hl
 obtain⟨a,b,c,d,e,rfl⟩:=five hl
 obtain⟨z0,z1,z2,z3,z4,rfl⟩:=five hyl
 obtain⟨y0,h0,f0,g0⟩:=hfs 0 _ _ _ rfl
 obtain⟨y1,h1,f1,g1⟩:=hfs 1 _ _ _ rfl
 obtain⟨y2,h2,f2,g2⟩:=hfs 2 _ _ _ rfl
 obtain⟨y3,h3,f3,g3⟩:=hfs 3 _ _ _ rfl
 obtain⟨y4,h4,f4,g4⟩:=hfs 4 _ _ _ rfl
 obtain⟨k0,e0,_,_⟩:=DataW.trod_int uInt h0
 obtain⟨k1,e1,_⟩:=DataW.trod_bool uBool h1
 obtain⟨k2,e2,_,w2⟩:=DataW.trod_int uInt h2
 obtain⟨k3,e3,_,_⟩:=DataW.trod_int uInt h3
 obtain⟨k4,e4,_,_⟩:=DataW.trod_int uInt h4
 simp at e0 e1 e2 e3 e4
 subst e0 e1 e2 e3 e4
 refine⟨rfl,⟨k0,k1,k2,k3,k4⟩,⟨rfl,i64_of_wf w2⟩,?_⟩
 rw[hb]
 have o0:=one_le z0
 have o1:=one_le z1
 have o2:=one_le z2
 have o3:=one_le z3
 have o4:=one_le z4
 simp only[Rows.uptoBulkAll]
 omega
theorem flat_sum:∀(l:List Flat),(l.map fun x=>x.args.length+3).sum=(l.map fun x=>x.args.length).sum+3*l.length
 |[]=>rfl
 |x::l=>by simp only[List.map_cons,List.sum_cons,flat_sum l,List.length_cons];omega
theorem six_sum {α:Type}:∀(l:List α),(l.map fun _=>6).sum=6*l.length
 |[]=>rfl
 |x::l=>by simp only[List.map_cons,List.sum_cons,six_sum l,List.length_cons];omega
theorem nodesOk {fs:List Flat} (h:(fs.map fun x=>x.args.length+3).sum≤1048576) (h64:∀x∈fs,I64 x.fn):NodesOk (wsum fs fs.length) fs:=by
 rw[flat_sum] at h
 have e:wsum fs fs.length=(fs.map fun x=>x.args.length).sum:=by unfold wsum;rw[List.take_length]
 rw[←e] at h
 refine⟨by omega,h64,Nat.le_refl _,by omega,?_⟩
 rcases Nat.lt_or_ge fs.length 262145 with hc|hc
 ·have:=Nat.mul_le_mul (show fs.length≤262144 by omega) (show wsum fs fs.length+2≤1048578 by omega)
  omega
 ·have:=Nat.mul_le_mul (show fs.length≤349526 by omega) (show wsum fs fs.length+2≤786434 by omega)
  omega
theorem gPow:Tryd.prog.globalNamed "internal/strconv.uint64pow10" =some 0:=by kernel_rfl
theorem gPowType:(Tryd.prog.globals[0]?).map (·.type)=some T.t_20_uint64:=by kernel_rfl
theorem uPow:P.underlying T.t_20_uint64=some (.array 20 T.uint64):=by kernel_rfl
theorem uU64:P.underlying T.uint64=some (.int .u64):=by kernel_rfl
theorem cPow:P.cellsOf T.t_20_uint64=20:=by kernel_rfl
theorem cU64:P.cellsOf T.uint64=1:=by kernel_rfl
theorem table {W:World} {l:List (String×DataW Unit)} (he:(l.filter fun x=>x.1== "internal/strconv.uint64pow10")=[("internal/strconv.uint64pow10",Lib.tabData .u64 Lib.pow10Tab)]) (h:laidMetH P l W):Tab10 W.heap.size W:=by
 have h1:=laidMetH.filter (fun x=>x.1== "internal/strconv.uint64pow10") h
 rw[he] at h1
 exact Lib.tabBelow_of_tabIs (Lib.tabIs_of_head (rest:=[]) gPow gPowType uPow uU64 cU64 cPow h1)
end Opn
end Go.Proofs.YtbmbhfghpidggaaDoor
namespace Go.Proofs.YtbmbhfghpidggaaDoor.eufBirkhoff
set_option linter.unusedVariables false
set_option linter.unusedSimpArgs false
open Go.ChangeShapes Go.WideShapes Go.ChangeAt Go.RowKit Wk Opn
set_option maxRecDepth 100000 in
theorem pow (H:Type) {W:World} (hL:laidMetH Tryd.prog Rows.eufBirkhoffUptoRow.laid W):Tab10 W.heap.size W:=table (l:=Rows.eufBirkhoffUptoRow.laid) (by kernel_rfl) hL
set_option maxRecDepth 100000 in
theorem contract (H:Type) (enc:TypeId×Value→H) (W:World) (base:Nat) (args:Array Value) (ds gs:List (DataW H)) (before:List MemPlace)
  (hval:∀(j:Nat) t v,Tryd.f3.params[j]? =some t→args[j]? =some v→Value.okWide Tryd.prog W .any base t v)
  (hW:DataW.Whole enc Tryd.prog Tryd.f3.params.toList Rows.eufBirkhoffSpec.vars false W args.toList ds gs before) (hk:Rows.uptoSmall H (ds++gs)=true) (hL:laidMetH Tryd.prog Rows.eufBirkhoffUptoRow.laid W):
  Calls Tryd.prog 3 args W fun e W'=>∃v,e= .returned v∧Rows.eufBirkhoffSpec.post enc Tryd.prog Tryd.f3 false true false false W args v W':=by
 have hW':=hW
 obtain⟨p,q,hA0,hV,rfl,hfz,hnd⟩:=hW
 have hA:DataW.TrodAll enc Tryd.prog W 0 (fun _=>true) true Tryd.f3.params.toList args.toList ds p:=hA0
 rw[Tryd.params3] at hA hval
 obtain⟨v0,vs0,d0,ds0,p0,q0,hargs,rfl,rfl,h0,r0⟩:=trodAll_cons hA
 obtain⟨v1,vs1,d1,ds1,p1,q1,rfl,rfl,rfl,h1,r1⟩:=trodAll_cons r0
 obtain⟨rfl,rfl,rfl⟩:=trodAll_nil r1
 obtain rfl:args= #[v0,v1]:=by cases args;simp_all
 obtain⟨rfl,rfl⟩:=trodVars_none hV
 have few:=few_of hk
 have all:Rows.uptoBulkAll ([d0,d1]++([]:List (DataW H)))≤1048576:=of_decide_eq_true hk
 obtain⟨A0,n0,c0,nodes,rfl,s0,_,z0,m0⟩:=val_slM eFlats (c:=cFlat64) cFlat2 opensM_flat (hval 0 _ v0 rfl rfl) h0 (few _ (by simp))
 obtain⟨A1,n1,c1,ops,rfl,s1,_,z1,m1⟩:=val_slM eOps cOp5 opensM_op (hval 1 _ v1 rfl rfl) h1 (few _ (by simp))
 have k0:=h0
 have k1:=h1
 have lt0:∀x∈p0,x.block<W.heap.size:=by obtain⟨m,hm⟩:=k0;exact DataW.trod_lt m _ _ _ hm
 have lt1:∀x∈p1,x.block<W.heap.size:=by obtain⟨m,hm⟩:=k1;exact DataW.trod_lt m _ _ _ hm
 simp only[List.cons_append,List.nil_append,Rows.uptoBulkAll] at all
 rw[six_sum] at m1
 obtain⟨y0,y64⟩:=sl_and z0
 have e0:=z0.1
 have e1:=z1.1
 clear hA0
 subst e0
 refine(EufBirkhoff_is y0 z1 (Nat.le_refl _) (pow H hL) (nodesOk (by omega) y64) (by omega)).mono fun e W' h=> ?_
 obtain⟨v,rfl,rfl,hE⟩:=h
 have bel:=below hE
 exact⟨_,rfl,_,_,_,[],_,[],hW',trodAll_mk1 (shut_bool (by kernel_rfl) _),
  (trodAll_cons_mk (Below.trod laidOut (by kernel_rfl) (of_decide_eq_true (by kernel_rfl)) k0 bel lt0) (trodAll_cons_mk (Below.trod laidOut (by kernel_rfl) (of_decide_eq_true (by kernel_rfl)) k1 bel lt1) trodAll_mk0)),rfl,bel.frame _,fun h=>(by cases h)⟩
def cellsIn:DataW Unit→Array Value
 | .agg l=>(l.map fun| .lit (.int k n)=>Value.int k n|_=> .bool false).toArray
 |_=> #[]
def put (cs:Array Value):Obj→Obj
 | .cells _ t frozen=> .cells cs t frozen
 |o=>o
noncomputable def laidWorld (os:Os):World:=
 {World.holding Tryd.prog os ⟨#[], #[],[]⟩ with heap:=(((World.holding Tryd.prog os ⟨#[], #[],[]⟩).heap.modify 0 (put (cellsIn Rows.laid_internal_strconv_uint64pow10))).modify 1 (put (cellsIn Rows.laid_math_bits_deBruijn32tab))).modify 2 (put (cellsIn Rows.laid_math_bits_deBruijn64tab))}
abbrev args0:Array Value:= #[.slice none 0 0,.slice none 0 0]
theorem laid_met (os:Os):laidMet Tryd.prog Rows.eufBirkhoffUptoRow.laid ((laidWorld os).forCall (fun _ _=>0) ⟨#[],args0,[]⟩).memory:=
 laidMet_of_run' 8 (by kernel_rfl) (by kernel_rfl)
theorem reads (os:Os) {H:Type} (enc:TypeId×Value→H):∃places,DataW.whole enc Tryd.prog ((laidWorld os).forCall (fun _ _=>0) ⟨#[],args0,[]⟩).memory Tryd.f3.params.toList Rows.eufBirkhoffSpec.vars false args0.toList 8=some ([.nil,.nil],[],places):=
 ⟨[],by kernel_rfl⟩
set_option maxRecDepth 100000 in
theorem lifted (os:Os) (started:os.Started) (H:Type) (enc:TypeId×Value→H) (F:Stop.Interp):
  ReturnsInHanded {} Tryd.checked os 3 .any ((Rows.OpenSpec.upto Rows.eufBirkhoffSpec).preRow enc Tryd.prog Tryd.f3 Rows.eufBirkhoffUptoRow.domain false Rows.eufBirkhoffUptoRow.laid) (((Rows.OpenSpec.upto Rows.eufBirkhoffSpec).at F).post enc Tryd.prog Tryd.f3 false true false false):=by
 obtain⟨places,hx⟩:=reads os enc
 refine returnsInHanded_of_row (C:=Tryd.checked) (s:=Rows.OpenSpec.upto Rows.eufBirkhoffSpec) own started (by kernel_rfl) Tryd.func3
  (witness_row_at (enc:=enc) (C:=Tryd.checked) false (laidWorld os) args0 rfl (by kernel_rfl) (by kernel_rfl) (by kernel_rfl)
   (OpenSpec.preRow_of_cond 8 hx (by kernel_rfl) (fun k hk=>by cases hk;kernel_rfl) (by kernel_rfl) (laid_met os))) ?_
 intro W base args ds gs before hval hW _ hcond _ hL _ _
 exact contract H enc W base args ds gs before hval hW (hcond _ rfl) hL
theorem said:Rows.EufBirkhoffUptoSaid:=
 OpenClaim.holds_of_cond 3 Tryd.f3 rfl rfl rfl rfl rfl rfl rfl ⟨rfl,rfl,rfl,rfl,rfl⟩ rfl rfl rfl rfl rfl (by kernel_rfl) Tryd.func3 (by kernel_rfl)
  (of_decide_eq_true (by kernel_rfl)) (by unfold Func.isWrapper;first|(rw[if_pos (by decide+kernel)];kernel_rfl)|(rw[if_neg (by decide+kernel)];exact⟨rfl,rfl⟩))
  (fun os started H enc _ F=>by rw[OpenClaim.pre_eq_preRow];exact lifted os started H enc F)
theorem plain (f:FuncId) (fn:Func) (hf:Tryd.pinned.checked.prog.funcNamed "arbiter/arbiterlaw13.EufBirkhoff" =some f) (hfn:Tryd.pinned.checked.prog.funcs[f]? =some fn):
  false=Tryd.pinned.checked.prog.looks []∧∀(j:Nat) t,fn.params[j]? =some t→Tryd.pinned.checked.prog.wantsStandIn t=false:=by
 obtain rfl:f=3:=Option.some.inj ((show Tryd.prog.funcNamed "arbiter/arbiterlaw13.EufBirkhoff" =some 3 by kernel_rfl).symm.trans hf)|>.symm
 obtain rfl:fn=Tryd.f3:=(Option.some.inj (Tryd.func3.symm.trans hfn)).symm
 refine⟨by kernel_rfl,fun j t ht=> ?_⟩
 rw[Tryd.params3] at ht
 have hm:=Array.mem_of_getElem? ht
 have w0:Tryd.prog.wantsStandIn T.sl_api_Flat=false:=by kernel_rfl
 have w1:Tryd.prog.wantsStandIn T.sl_arbiterlaw13_Op=false:=by kernel_rfl
 simp only[List.mem_toArray,List.mem_cons,List.not_mem_nil,or_false] at hm
 rcases hm with rfl|rfl
 ·exact w0
 ·exact w1
theorem proved:Rows.EufBirkhoffUptoCardSaid:=
 Claim7.holds_tied_plain_at .later [] _ _ _ _ said (fun _ h=>by cases h) (by kernel_rfl) (fun _ h=>by cases h) eufBirkhoffUpto_row_tie rfl ⟨rfl,rfl⟩ (by kernel_rfl) rfl plain (by kernel_rfl)
end Go.Proofs.YtbmbhfghpidggaaDoor.eufBirkhoff
