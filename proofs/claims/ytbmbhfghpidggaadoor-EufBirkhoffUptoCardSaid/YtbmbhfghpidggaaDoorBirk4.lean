/- Towards: The law EufBirkhoff answers true at every input whose reading is of bulk at most 1048576, and the input reads as it did; the tables that it reads are tied to the program's text. Gathered by a program (pack.py) out of smaller texts. -/
import Derived.Test.YtbmbhfghpidggaaDoorBirk3
import Derived.Sort.OwnSortedInts
import Derived.Maps.RangeRun
import Derived.Maps.Range
set_option linter.unusedSectionVars false
namespace Go.Proofs.YtbmbhfghpidggaaDoor
set_option linter.unusedVariables false
set_option linter.unusedSimpArgs false
open Wk
section
variable {B0:Nat} {w w' w0:World} {p U:Addr} {M N:Nat} {A:Nat→Option Addr} {n c:Nat→Nat} {H:Nat→Prop} {g:GS}
theorem GRep.nodeV (h:GRep B0 w p U M N A n c H g) {i:Nat} {x:Flat} (hx:g.nodes[i]? =some x):∃C k d,(g.nvals.vals.drop (i*2)).take 2=[.int .i64 x.fn,.slice C k d]∧Sm k∧Ints w C k x.args∧k=x.args.length:=by
 have hrd:=h.nd.now.2 i x hx
 rw[show(cFlat.size:Nat)=2 from rfl] at hrd
 obtain⟨C,k,d,e,hs,hi⟩:=hrd
 exact⟨C,k,d,e,hs,hi,hi.1.symm⟩
theorem GRep.nodeI (h:GRep B0 w p U M N A n c H g) {i:Nat} {x:Flat} (hx:g.nodes[i]? =some x) {C:Option Addr} {k d:Nat} (e:(g.nvals.vals.drop (i*2)).take 2=[.int .i64 x.fn,.slice C k d]):Ints w C k x.args:=by
 obtain⟨C',k',d',e',_,hi,_⟩:=h.nodeV hx
 rw[e] at e'
 injection e' with _ e'
 injection e' with e' _
 injection e' with e1 e2 e3
 rw[e1,e2]
 exact hi
theorem GRep.nodeC (h:GRep B0 w p U M N A n c H g) {i:Nat} {x:Flat} (hx:g.nodes[i]? =some x):∃a C k d,g.nvals.adr=some a∧(g.nvals.vals.drop (i*2)).take 2=[.int .i64 x.fn,.slice C k d]∧CellsAt w (a.add (i*2)) [.int .i64 x.fn,.slice C k d]∧Sm k∧k=x.args.length:=by
 obtain⟨C,k,d,e,hs,hi,hk⟩:=h.nodeV hx
 have hr:Row w B0 T.api_Flat 2 (A 4) (n 4) (c 4) g.nvals.vals:=h.row (show 4<9 by omega)
 have e4:=h.n4
 have hi4:=(List.getElem?_eq_some_iff.1 hx).1
 obtain⟨a,us,hA,hu,_,hcell,_⟩:=hr.elem (i:=(i:Int)) (by omega) (by omega) (by decide)
 rw[Int.toNat_natCast] at hu hcell
 rw[e] at hu
 subst hu
 exact⟨a,C,k,d,by rw[←h.nad];exact hA,e,hcell,hs,hk⟩
theorem use_is (h:GRep B0 w p U M N A n c H g) {r i:Int} (r0:0≤r) (r1:r.toNat<N) (hlu:g.uses.length=N) (hlen:(usesAt g r).length+1≤1099511627776) {K:World→Prop}
  (hK:∀w' A' n' c' H',GRep B0 w' p U M N A' n' c' H' (withUses g (addU1 g.uses i r))→Adv H w H' w'→(∀b,H b→H' b)→K w'):
  ∃X4:Nat→Prop,∃A37:Option Addr,∃n37:Nat,∃c37:Nat,w.cell? (p.add 5)=some (.slice A37 n37 c37)∧¬X4 (p.add 5).block∧∃A38:Option Addr,∃n38:Nat,∃c38:Nat,w.cell? (p.add 5)=some (.slice A38 n38 c38)∧¬X4 (p.add 5).block∧0≤r∧r<(n38:Int)∧∃a5,A38=some a5∧∃A39:Option Addr,∃n39:Nat,∃c39:Nat,w.cell? (a5.add (r.toNat*1))=some (.slice A39 n39 c39)∧¬X4 (a5.add (r.toNat*1)).block∧∀w155,Wk.Drawn w w155→∀(p21:Addr) (w148:World),Wk.New w155 (.cells #[(.int .i64 i)] T.int) p21 w148→(∀w154,Wk.Drawn w148 w154→∃(A40:Option Addr) (n40 c40:Nat) (w149:World),(Builtin.append_ #[T.sl_int,T.sl_int] T.sl_int #[(.slice A39 n39 c39),(.slice (some p21) 1 1)]).run P w154= .ok (.slice A40 n40 c40) w149∧(Wk.Keep X4 w w149∧(0≤r∧r<(n37:Int)∧∃a6,A37=some a6∧∀w153,Wk.Drawn w149 w153→(∃u15,w153.cell? (a6.add (r.toNat*1))=some u15)∧w153.frozen? (a6.add (r.toNat*1))=false∧∀w150,w150=w153.setCell (a6.add (r.toNat*1)) (.slice A40 n40 c40)→(∀w151,Wk.Drawn w150 w151→K w151)))):=by
 obtain⟨cU,hcU⟩:=h.ucell
 have k1:9+r.toNat<9+N:=by omega
 have hr:=h.useRow r1
 have er:(g.uses.getD r.toNat []).length=n (9+r.toNat):=by have:=hr.1;simpa using this
 unfold usesAt at hlen
 have noP:¬At (A (9+r.toNat)) (p.add 5).block:=by
  rw[Addr.add_block]
  exact fun hb=>h.fam.seph (9+r.toNat) k1 _ hb (.inl rfl)
 have noU:¬At (A (9+r.toNat)) (U.add (r.toNat*1)).block:=by
  rw[Addr.add_block]
  exact fun hb=>h.fam.seph (9+r.toNat) k1 _ hb (.inr rfl)
 refine⟨At (A (9+r.toNat)),some U,N,cU,hcU,noP,some U,N,cU,hcU,noP,r0,by omega,U,rfl,_,_,_,h.ucellN r1,noU,fun w155 hw155 p21 w148 hN148 w154 hw154=> ?_⟩
 have E154:Ext w w154:=((Ext.of_drawn hw155).new hN148).drawn hw154
 have h154:=h.stay E154
 obtain⟨A',c',w149,hrun,hk,hh⟩:=h154.append (c2:=1) (k:=9+r.toNat) k1 (t:=T.sl_int) (m:=1) (by rw[gty9];exact gIntE) (by rw[gty9,gsz9];exact gIntI) (by rw[gsz9];decide) (news:=[iv i]) (by rw[gsz9];rfl) ((Ext.of_drawn hw154).cells (hN148.cells rfl)) (by intro u hu;simp at hu;subst hu;rfl) (by omega) (by omega)
  (g':=withUses g (addU1 g.uses i r)) (fun j _=>vals_uses g r.toNat (by omega) _ _ (by rw[vals9,List.map_append];rfl) j) ⟨rfl,rfl,rfl⟩
 refine⟨A',_,c',w149,hrun,(E154.mono fun _ _ h=>h.elim).trans hk,r0,by omega,U,rfl,fun w153 hw153=> ?_⟩
 obtain⟨q1,q2,q3⟩:=hh w153 (Ext.of_drawn hw153)
 rw[h154.hdrU] at q1 q2 q3
 rw[Nat.mul_one] at*
 refine⟨q1,q2,fun w150 hw150 w151 hw151=> ?_⟩
 obtain⟨H',g',adv',sub',_⟩:=q3 w150 hw150
 exact hK w151 _ _ _ H' (g'.stay (Ext.of_drawn hw151)) ((Adv.of_ext E154).trans (adv'.trans (Adv.of_drawn hw151))) sub'
theorem GRep.clear (h:GRep B0 w p U M N A n c H g) (hw:w'=w.setCell (p.add 9) (.slice none 0 0)):∃A' n' c' H',GRep B0 w' p U M N A' n' c' H' {g with changes:=[]}∧Adv H w H' w'∧∀b,H b→H' b:=by
 obtain⟨hf,hK⟩:=h.fam.head (w':=w') (k:=7) (show 7<9+N by omega) (A':=none) (m:=0) (d:=0) (us:=[]) (Row.nil _ _ _ _) (fun b hb=>by obtain⟨a,ha,_⟩:=hb;cases ha) hw
 have:=h.turn_ (g':={g with changes:=[]}) hK (fun b _ hb=>by rw[hb];exact .inl (h.fam.hb 7 (show 7<9+N by omega))) (hf.congr fun j _=>vals_changes g [] _ rfl j) (fun o ho=>by rw[hw];exact World.cell?_setCell_other _ _ _ _ (h.hdr_ne 7 ho)) (fun b hb hh=>by
  rcases hh with hh|⟨i,hi,hh⟩
  ·exact .inl hh
  ·by_cases hik:i=7
   ·subst hik
    rw[upd_same] at hh
    obtain⟨a,ha,_⟩:=hh
    cases ha
   ·rw[upd_ne _ _ hik] at hh
    exact .inr ⟨i,hi,hh⟩) ⟨rfl,rfl,rfl⟩ (upd_ne _ _ (by omega))
 obtain⟨H',g1,a1,s1⟩:=this
 exact⟨_,_,_,H',g1,a1,s1⟩
end
def wsum (fs:List Flat) (i:Nat):Nat:=((fs.take i).map fun x=>x.args.length).sum
theorem wsum_succ {fs:List Flat} {i:Nat} {x:Flat} (h:fs[i]? =some x):wsum fs (i+1)=wsum fs i+x.args.length:=by
 unfold wsum
 rw[take_succ_of h,List.map_append,List.sum_append]
 simp
theorem sum_take_le:∀(l:List Nat) (i:Nat),(l.take i).sum≤l.sum
 |[],i=>by simp
 |x::l,0=>by simp
 |x::l,i+1=>by
  have:=sum_take_le l i
  simp only[List.take_succ_cons,List.sum_cons]
  omega
theorem wsum_mono (fs:List Flat) {i j:Nat} (h:i≤j):wsum fs i≤wsum fs j:=by
 unfold wsum
 have e:fs.take i=(fs.take j).take i:=by rw[List.take_take,Nat.min_eq_left h]
 rw[e,List.map_take]
 exact sum_take_le _ i
structure L2 (fs:List Flat) (nv:NV) (W0 i:Nat) (g:GS) (us:List Edge):Prop where
 nodes:g.nodes=fs
 nvals:g.nvals=nv
 inv:GInv (wsum fs i) i g us []
 bd:Bd (fs.length*(W0+1)+i) W0 g us []
 allc:∀u∈us,u.cong=true
 stand:g.stand=[]
 marks:g.marks=[]
structure L2Q (fs:List Flat) (nv:NV) (i:Nat) (g:GS) (us l:List Edge):Prop where
 nvals:g.nvals=nv
 inv:GInv (wsum fs (i+1)) (i+1) g us l
 allc:∀u∈us++l,u.cong=true
 stand:g.stand=[]
 marks:g.marks=[]
theorem L2Q.skip {fs:List Flat} {nv:NV} {i:Nat} {g:GS} {us l:List Edge} {e:Edge} (h:L2Q fs nv i g us (e::l)) (he:fd g e.a=fd g e.b):L2Q fs nv i g us l:=
 ⟨h.nvals,h.inv.skip he,fun u hu=>h.allc u ((List.mem_append.1 hu).elim (fun hu=>by simp[hu]) fun hu=>by simp[hu]),h.stand,h.marks⟩
theorem L2Q.stepAB {fs:List Flat} {nv:NV} {i:Nat} {g:GS} {us l:List Edge} {e:Edge} (h:L2Q fs nv i g us (e::l)) (hne:fd g e.a≠fd g e.b) {a b:Int} (he:Ends e a b):L2Q fs nv i (afterG (linkG g a b e) (fd g a) (fd g b)).1 (us++[e]) (l++(afterG (linkG g a b e) (fd g a) (fd g b)).2):=by
 obtain⟨e1,e2,_,_⟩:=after_alike g a b e
 refine⟨(after_chg g a b e).2.2.2.trans h.nvals,h.inv.stepAB hne he,fun u hu=> ?_,e1.trans h.stand,e2.trans h.marks⟩
 rcases List.mem_append.1 hu with hu|hu
 ·rcases List.mem_append.1 hu with hu|hu
  ·exact h.allc u (by simp[hu])
  ·simp at hu;exact h.allc u (by simp[hu])
 ·rcases List.mem_append.1 hu with hu|hu
  ·exact h.allc u (by simp[hu])
  ·exact step_cong h.inv hne he u hu
theorem L2Q.step {fs:List Flat} {nv:NV} {i:Nat} {g:GS} {us l:List Edge} {e:Edge} (h:L2Q fs nv i g us (e::l)) (hne:fd g e.a≠fd g e.b):L2Q fs nv i (mergeStep g e).1 (us++[e]) (l++(mergeStep g e).2):=by
 unfold mergeStep
 split
 ·exact h.stepAB hne (.inr ⟨rfl,rfl⟩)
 ·exact h.stepAB hne (.inl ⟨rfl,rfl⟩)
end Go.Proofs.YtbmbhfghpidggaaDoor
namespace Go.Proofs.YtbmbhfghpidggaaDoor
set_option linter.unusedVariables false
set_option linter.unusedSimpArgs false
open Wk
theorem sum_const (c:Nat):∀l:List Nat,(l.map fun _=>c).sum=l.length*c
 |[]=>by simp
 |x::l=>by
  have:=sum_const c l
  simp only[List.map_cons,List.sum_cons,List.length_cons,Nat.succ_mul]
  omega
theorem idx_get {N:Nat} {x:Int} (hx:Vn N x):(idx N).getD x.toNat (-1)=x∧(idx N).getD x.toNat 0=x:=by
 have h0:=hx.1
 have h1:=hx.2
 have:(idx N)[x.toNat]? =some x:=by
  unfold idx
  rw[List.getElem?_map,List.getElem?_range (by omega)]
  simp only[Option.map_some]
  rw[toNat_cast h0]
 constructor<;>rw[List.getD_eq_getElem?_getD,this]<;>rfl
theorem start_inv {fs:List Flat} {nv:NV} {W0:Nat} (hs:Sound fs) (few:fs.length≤1048576) (h64:∀x∈fs,I64 x.fn):GInv (wsum fs 0) 0 (lay1 fs nv fs.length fs.length) [] []:=by
 have hN:(lay1 fs nv fs.length fs.length).nodes=fs:=List.take_length
 have hf:∀x,Vn fs.length x→fd (lay1 fs nv fs.length fs.length) x=x:=fun x hx=>(idx_get hx).1
 have hu:∀x,usesAt (lay1 fs nv fs.length fs.length) x=[]:=fun x=>by
  show(List.replicate fs.length ([]:List Int)).getD x.toNat []=[]
  rw[List.getD_eq_getElem?_getD,List.getElem?_replicate]
  split<;>rfl
 have hwy:(lay1 fs nv fs.length fs.length).why=List.replicate fs.length nedge:=by
  show List.replicate fs.length nedge++List.replicate (fs.length-fs.length) zedge=_
  rw[Nat.sub_self]
  simp
 refine⟨by rw[hN];exact few,by rw[hN];show(List.replicate fs.length ([]:List Int)).length=_;simp,by rw[hN];exact hs,by rw[hN];exact h64,⟨?_,?_,?_,?_,?_,?_⟩,?_,?_,by simp,?_,?_,?_,?_,?_,?_,by simp,by simp⟩
 ·rw[hN];exact idx_len _
 ·rw[hN];exact idx_len _
 ·rw[hN];exact List.length_replicate
 ·rw[hN];exact idx_len _
 ·rw[hN]
  intro x hx
  rw[hf x hx,hf x hx]
  exact⟨hx,rfl⟩
 ·rw[hN]
  intro r hr _
  have hring:ringAt (lay1 fs nv fs.length fs.length) r=r:=(idx_get hr).2
  have hleast:leastAt (lay1 fs nv fs.length fs.length) r=r:=(idx_get hr).2
  refine⟨[r],⟨[],rfl,by simp,hring,trivial⟩,fun y=>⟨fun hy=> ?_,fun hy=> ?_⟩,?_,by rw[hleast];simp,fun y hy=> ?_⟩
  ·simp at hy;subst hy;exact⟨hr,hf _ hr⟩
  ·rw[hf y hy.1] at hy;simp[hy.2]
  ·show(List.replicate fs.length (1:Int)).getD r.toNat 0=_
   rw[List.getD_eq_getElem?_getD,List.getElem?_replicate,if_pos (by have:=hr.1;have:=hr.2;omega)]
   rfl
  ·simp at hy;subst hy;rw[hleast];exact Int.le_refl _
 ·rw[hN,hwy]
  refine Forest.start (by simp) (fun x hx=> ?_) (fun x y hx hy q=>by rw[hf x hx,hf y hy] at q;exact q)
  unfold edgeAt
  rw[List.getD_eq_getElem?_getD,List.getElem?_replicate,if_pos (by have:=hx.1;have:=hx.2;omega)]
  show(-1:Int)<0
  omega
 ·rw[hN]
  intro x y hx hy q
  rw[hf x hx,hf y hy] at q
  rw[q]
  exact .refl _
 ·intro x _ q hq
  rw[hu] at hq
  simp at hq
 ·intro p hp hlt
  exact absurd hp.1 (by omega)
 ·have:rsum (lay1 fs nv fs.length fs.length).nodes.length (fd (lay1 fs nv fs.length fs.length)) (fun i=>(usesAt (lay1 fs nv fs.length fs.length) i).length)=0:=by
   have e:(fun i:Nat=>(usesAt (lay1 fs nv fs.length fs.length) i).length)=fun _=>0:=funext fun i=>by rw[hu];rfl
   rw[e]
   unfold rsum
   have e2:((List.range (lay1 fs nv fs.length fs.length).nodes.length).map fun i:Nat=>if fd (lay1 fs nv fs.length fs.length) (i:Int)=(i:Int) then 0 else 0)=(List.range (lay1 fs nv fs.length fs.length).nodes.length).map fun _=>0:=List.map_congr_left fun i _=>by split<;>rfl
   rw[e2,sum_const]
   exact Nat.mul_zero _
  rw[this]
  exact Nat.zero_le _
 ·rw[hN]
  have:rsum fs.length (fd (lay1 fs nv fs.length fs.length)) (fun _=>1)=fs.length:=by
   unfold rsum
   have e2:((List.range fs.length).map fun i:Nat=>if fd (lay1 fs nv fs.length fs.length) (i:Int)=(i:Int) then 1 else 0)=(List.range fs.length).map fun _=>1:=List.map_congr_left fun i hi=>if_pos (hf _ ⟨by omega,by have:=List.mem_range.1 hi;omega⟩)
   rw[e2,sum_const,List.length_range,Nat.mul_one]
  rw[this]
  simp
 ·intro k q hq
  cases hq
 ·intro p hp hlt
  exact absurd hp.1 (by omega)
theorem GInv.chg {W m:Nat} {g:GS} {us:List Edge} (h:GInv W m g us []) (l:List Chg):GInv W m {g with changes:=l} us []:=by
 have ht:∀p,Vn g.nodes.length p→p<m→0≤(nodeAt g p).fn→∃q,aget g.sigs (sigOf g p)=some q∧Lk ({g with changes:=l}:GS) [] p q:=fun p h1 h2 h3=>by
  obtain⟨q,k1,k2⟩:=h.table p h1 h2 h3
  exact⟨q,k1,Lk.mono (g:=g) (g':={g with changes:=l}) (fun x y hx hy q=> .same hx hy q) (fun f hf=>by simp at hf) k2⟩
 exact⟨h.few,h.luses,h.sound,h.fn64,h.cls.congr rfl rfl rfl rfl rfl,h.forest,h.conn1,h.conn2,h.uses0,h.uses1,h.wt,h.cnt,h.sigs,ht,h.just,h.pend⟩
section
variable {B0:Nat} {w w' w0:World} {p U:Addr} {M N:Nat} {A:Nat→Option Addr} {n c:Nat→Nat} {H:Nat→Prop} {g:GS}
theorem GInv.fit {W m:Nat} {us l:List Edge} (k:GInv W m g us l):Fit g:=
 ⟨k.few,k.cls.lfirst,k.sound,k.fn64,fun x h0 h1=>(k.cls.root x ⟨h0,h1⟩).1,fun s q hq=>(k.sigs s q hq).1⟩
theorem enter_next {fs:List Flat} {nv:NV} {W0 i:Nat} {us:List Edge} {x:Flat} {C:Option Addr} {k d:Nat} {wS:World} {HS:Nat→Prop} (h:GRep B0 w p U M N A n c H g) (L:L2 fs nv W0 i g us) (hN:fs.length=N) (hx:fs[i]? =some x) (happ:0≤x.fn) (hW:wsum fs fs.length≤W0) (hW0:W0≤1048576) (hC:fs.length*(W0+2)+1≤549755813888)
  (ev:(nv.vals.drop (i*2)).take 2=[.int .i64 x.fn,.slice C k d]) (hk:k=x.args.length) {J:World→Prop} (hJ:∀w' A' n' c' H' g' us',GRep B0 w' p U M N A' n' c' H' g'→L2 fs nv W0 (i+1) g' us'→Adv H w H' w'→(∀b,H b→H' b)→J w'):
  ∃I3:Nat→Int→World→Prop,(∃k4,I3 k4 0 w)∧∀k4 (x8:Int) (w146:World),I3 k4 x8 w146→((x8<(k:Int)→(0≤x8∧x8<(k:Int)∧∃a4,C=some a4∧∃x9:Int,w146.cell? (a4.add (x8.toNat*1))=some (.int .i64 x9)∧Calls P F.euf_classes_find #[(.pointer (some (p.add 0))),(.int .i64 x9)] w146 (Wk.Ret fun v3 w147=>∃x10:Int,v3=(.int .i64 x10)∧∃X4:Nat→Prop,∃A37:Option Addr,∃n37:Nat,∃c37:Nat,w147.cell? (p.add 5)=some (.slice A37 n37 c37)∧¬X4 (p.add 5).block∧∃A38:Option Addr,∃n38:Nat,∃c38:Nat,w147.cell? (p.add 5)=some (.slice A38 n38 c38)∧¬X4 (p.add 5).block∧0≤x10∧x10<(n38:Int)∧∃a5,A38=some a5∧∃A39:Option Addr,∃n39:Nat,∃c39:Nat,w147.cell? (a5.add (x10.toNat*1))=some (.slice A39 n39 c39)∧¬X4 (a5.add (x10.toNat*1)).block∧∀w155,Wk.Drawn w147 w155→∀(p21:Addr) (w148:World),Wk.New w155 (.cells #[(.int .i64 (i:Int))] T.int) p21 w148→(∀w154,Wk.Drawn w148 w154→∃(A40:Option Addr) (n40 c40:Nat) (w149:World),(Builtin.append_ #[T.sl_int,T.sl_int] T.sl_int #[(.slice A39 n39 c39),(.slice (some p21) 1 1)]).run P w154= .ok (.slice A40 n40 c40) w149∧(Wk.Keep X4 w147 w149∧(0≤x10∧x10<(n37:Int)∧∃a6,A37=some a6∧∀w153,Wk.Drawn w149 w153→(∃u15,w153.cell? (a6.add (x10.toNat*1))=some u15)∧w153.frozen? (a6.add (x10.toNat*1))=false∧∀w150,w150=w153.setCell (a6.add (x10.toNat*1)) (.slice A40 n40 c40)→(∀w151,Wk.Drawn w150 w151→((vc_euf_New_J4 k4 I3 x8) w151))))))))∧(¬(x8<(k:Int))→(Calls P F.euf_Graph_enter #[(.pointer (some p)),(.int .i64 (i:Int))] w146 (Wk.Ret fun v4 w156=>∃x11:Int,∃b2:Bool,v4=(.tuple #[(.int .i64 x11),(.bool b2)])∧((!b2)=true→(Calls P F.euf_Graph_merge #[(.pointer (some p)),(.agg #[(.int .i64 0),(.bool true),(.int .i64 (i:Int)),(.int .i64 x11),(.int .i64 0)])] w156 (Wk.Ret fun v5 w157=>v5=(.tuple #[])∧J w157)))∧((!b2)=false→J w156))))):=by
 have hiN:=(List.getElem?_eq_some_iff.1 hx).1
 have hnx:nodeAt g (i:Int)=x:=by
  unfold nodeAt
  rw[L.nodes,Int.toNat_natCast,List.getD_eq_getElem?_getD,hx]
  rfl
 have vi:Vn g.nodes.length (i:Int):=⟨by omega,by rw[L.nodes];omega⟩
 have few:=L.inv.few
 rw[L.nodes] at few
 have hwi:wsum fs i+x.args.length≤W0:=by rw[←wsum_succ hx];exact Nat.le_trans (wsum_mono fs hiN) hW
 have bd:=L.bd
 have bchg:=bd.chg
 have hargs:∀a∈x.args,Vn g.nodes.length a:=fun a ha=>sound_vn L.inv.sound vi (by rw[←nodeAt_eq,hnx];exact ha)
 have hroot:=L.inv.cls.root
 --behind j arguments
 have mid:∀j,j≤x.args.length→∀a b:Nat,(withUses g (addU g.uses i ((x.args.take j).map (fd g)))).uses.length=N:=fun j _ a b=>by
  show(addU _ _ _).length=N
  rw[addU_len,L.inv.luses,L.nodes,hN]
 have few2:∀j,j≤x.args.length→∀r,Vn g.nodes.length r→fd g r=r→(usesAt (withUses g (addU g.uses i ((x.args.take j).map (fd g)))) r).length+1≤1099511627776:=by
  intro j hj r hr er
  have h1:=addU_wt (fd:=fd g) (i:Int) ((x.args.take j).map (fd g)) g.uses L.inv.luses (fun s hs=>by
   obtain⟨a,ha,rfl⟩:=List.mem_map.1 hs
   exact(hroot a (hargs a (List.mem_of_mem_take ha))).1)
  have h2:=L.inv.wt
  have e':(fun i:Nat=>(usesAt g i).length)=fun x:Nat=>(g.uses.getD x []).length:=funext fun i=>by unfold usesAt;rw[Int.toNat_natCast]
  rw[e'] at h2
  have r0:=hr.1
  have r1:=hr.2
  have h3:=rsum_ge (N:=g.nodes.length) (fd:=fd g) (f:=fun z=>((addU g.uses i ((x.args.take j).map (fd g))).getD z []).length) (s:=r.toNat) (by omega) (by rw[toNat_cast r0];exact er)
  rw[List.length_map,List.length_take] at h1
  show((addU g.uses i ((x.args.take j).map (fd g))).getD r.toNat []).length+1≤_
  omega
 refine⟨fun k4 j w'=>k4=x.args.length-j.toNat∧0≤j∧j≤x.args.length∧∃A' n' c' H',GRep B0 w' p U M N A' n' c' H' (withUses g (addU g.uses i ((x.args.take j.toNat).map (fd g))))∧Adv H w H' w'∧(∀b,H b→H' b),⟨_,rfl,by omega,by omega,A,n,c,H,h,Adv.refl _ _,fun _ h=>h⟩,?_⟩
 rintro k4 j w1 ⟨rfl,j0,j1,A1,n1,c1,H1,g1,adv1,sub1⟩
 refine⟨fun hlt=> ?_,fun hge=> ?_⟩
 ·have hj:j.toNat<x.args.length:=by omega
  obtain⟨a,ha⟩:∃a,x.args[j.toNat]? =some a:=⟨_,List.getElem?_eq_getElem hj⟩
  have hI:=g1.nodeI (i:=i) (x:=x) (by show g.nodes[i]? =_;rw[L.nodes];exact hx) (by show(g.nvals.vals.drop (i*2)).take 2=_;rw[L.nvals];exact ev)
  obtain⟨a',ad,ha',hA4,hc4⟩:=hI.int j0 hlt
  rw[ha] at ha'
  cases ha'
  have va:=hargs a (List.mem_of_getElem? ha)
  obtain⟨vr,er⟩:=hroot a va
  refine⟨j0,hlt,ad,hA4,a,hc4,?_⟩
  rw[add0]
  refine Quiet.use (find_is g1 va.1 (r:=fd g a) (vn_some (d:= -1) L.inv.cls.lfirst va)) fun w2 hw2=> ?_
  have g2:=g1.stay (Ext.of_drawn hw2)
  refine⟨fd g a,rfl,?_⟩
  refine use_is g2 vr.1 (by have:=vr.1;have:=vr.2;rw[L.nodes] at this;omega) (mid j.toNat (by omega) 0 0) (few2 j.toNat (by omega) _ vr er) ?_
  intro w3 A3 n3 c3 H3 g3 adv3 sub3
  refine⟨x.args.length-(j.toNat+1),by omega,?_⟩
  rw[step_le (n:=x.args.length) j0 (by omega) (by unfold Sm;have:=hwi;omega)]
  refine⟨by omega,by omega,by omega,A3,n3,c3,H3,?_,adv1.trans ((Adv.of_drawn hw2).trans adv3),fun b hb=>sub3 b (sub1 b hb)⟩
  have et:x.args.take (j+1).toNat=x.args.take j.toNat++[a]:=by rw[show(j+1).toNat=j.toNat+1 by omega,take_succ_of ha]
  rw[et,List.map_append,List.map_singleton,addU_snoc]
  exact g3
 ·have hj:j.toNat=x.args.length:=by omega
  rw[hj,List.take_length] at g1
  have nx:=L.inv.next (by rw[L.nodes];exact hiN) (by rw[hnx];exact happ)
  rw[hnx] at nx
  generalize hG:withUses g (addU g.uses i (x.args.map (fd g)))=G1 at*
  have e1:G1.nodes=g.nodes:=by rw[←hG];rfl
  have e2:fd G1=fd g:=by rw[←hG];rfl
  have e3:G1.sigs=g.sigs:=by rw[←hG];rfl
  have e4:G1.changes=g.changes:=by rw[←hG];rfl
  have e5:nodeAt G1=nodeAt g:=by rw[←hG];rfl
  have e6:G1.nvals=g.nvals:=by rw[←hG];rfl
  have e7:G1.stand=g.stand∧G1.marks=g.marks:=by rw[←hG];exact⟨rfl,rfl⟩
  have eS:sigOf G1 i=sigOf g i:=by unfold sigOf;rw[e5,e2]
  have fit:Fit G1:=by
   have:=L.inv.fit
   exact⟨by rw[e1];exact this.few,by rw[←hG];exact this.lfirst,by rw[e1];exact this.sound,by rw[e1];exact this.fn64,by rw[e1,e2];exact this.rng,by rw[e1,e3];exact this.sigs⟩
  have hsig:=sig_of_is g1 fit (i:=(i:Int)) (by omega) (by rw[e1];exact vi.2)
  refine(enter_is g1 hsig (by rw[e4];have:=bd.few;omega)).mono ?_
  rintro _ w2 ⟨_,rfl,rfl,A7,n7,c7,H2,g2,adv2,sub2,_⟩
  rw[eS] at g2
  have A_:=enterG_alike G1 (sigOf g i) i
  have hch2:(enterG G1 (sigOf g i) i).changes.length≤g.changes.length+1:=by unfold enterG;split<;>simp[e4]
  have eN2:(enterG G1 (sigOf g i) i).nodes=fs:=A_.nodes.trans (e1.trans L.nodes)
  rw[←wsum_succ hx] at nx
  have bN:=bd.chg
  rw[L.nodes] at bN
  have bd2:∀e:Edge,Bd (fs.length*(W0+1)+(i+1)) W0 (enterG G1 (sigOf g i) i) us []∧Bd (fs.length*(W0+1)+(i+1)) W0 (enterG G1 (sigOf g i) i) us [e]:=by
   intro e
   have hm:(fs.length-us.length)*(W0+1)≤fs.length*(W0+1):=Nat.mul_le_mul_right _ (by omega)
   have hf:fs.length*(W0+1)+(i+1)≤549755813888:=by
    have:fs.length*(W0+2)=fs.length*(W0+1)+fs.length:=by rw[show W0+2=(W0+1)+1 by omega,Nat.mul_succ]
    omega
   refine⟨⟨by rw[eN2];omega,by rw[eN2];simp only[List.length_nil];omega,hf,hW0⟩,⟨by rw[eN2];omega,by rw[eN2];simp only[List.length_singleton];omega,hf,hW0⟩⟩
  rw[eS,e3]
  cases hq:aget g.sigs (sigOf g i) with
  |none=>
   rw[hq] at nx
   refine⟨_,rfl,_,_,rfl,fun q=>(by cases q),fun _=> ?_⟩
   exact hJ w2 _ _ _ H2 _ us g2 ⟨eN2,A_.nvals.trans (e6.trans L.nvals),nx,(bd2 zedge).1,L.allc,A_.stand.trans (e7.1.trans L.stand),A_.marks.trans (e7.2.trans L.marks)⟩ (adv1.trans adv2) (fun b hb=>sub2 b (sub1 b hb))
  |some q=>
   rw[hq] at nx
   refine⟨_,rfl,_,_,rfl,fun _=> ?_,fun q=>(by cases q)⟩
   refine(merge_is (e:=⟨0,true,i,q,0⟩) (C:=fs.length*(W0+1)+(i+1)) (W:=W0) (mm:=i+1) (us:=us) (Q:=L2Q fs nv i) g2 (by rw[eN2,hN]) (nx.up (Nat.le_trans (wsum_mono fs hiN) hW)) (bd2 _).2 ⟨A_.nvals.trans (e6.trans L.nvals),nx,fun u hu=> ?_,A_.stand.trans (e7.1.trans L.stand),A_.marks.trans (e7.2.trans L.marks)⟩ (fun g us e l _ q he=>q.skip he) (fun g us e l _ q hne=>q.step hne)).mono ?_
   ·rcases List.mem_append.1 hu with hu|hu
    ·exact L.allc u hu
    ·simp at hu;rw[hu]
   ·rintro _ w5 ⟨_,rfl,rfl,A5,n5,c5,H5,g5,us5,r5,i5,b5,q5,n5',adv5,sub5,_⟩
    exact⟨_,rfl,rfl,hJ w5 A5 n5 c5 H5 g5 us5 r5 ⟨n5'.trans eN2,q5.nvals,q5.inv,b5,fun u hu=>q5.allc u (by simp[hu]),q5.stand,q5.marks⟩ ((adv1.trans adv2).trans adv5) (fun b hb=>sub5 b (sub2 b (sub1 b hb)))⟩
end
end Go.Proofs.YtbmbhfghpidggaaDoor
namespace Go.Proofs.YtbmbhfghpidggaaDoor
set_option linter.unusedVariables false
set_option linter.unusedSimpArgs false
open Wk
theorem info_zero {P:Program} {e:TypeId} {z:Value} (h:(P.info? e).bind (·.zero)=some z):∃i,P.info? e=some i∧i.zero=some z:=Option.bind_eq_some_iff.1 h
theorem make_uses {w:World} {N:Nat} (hN:N≤1048576):∃w',(Instr.makeSlice T.sl_sl_int (.int .i64 (N:Int)) (.int .i64 (N:Int))).run P w= .ok (.slice (some ⟨w.heap.size,0,none⟩) N N) w'∧Own w' w.heap.size T.sl_int 1 (some ⟨w.heap.size,0,none⟩) N N (List.replicate N (.slice none 0 0))∧Ext w w':=by
 obtain⟨w',vs,h1,h2,h3,h4⟩:=make_row (P:=P) (w:=w) (t:=T.sl_sl_int) (e:=T.sl_int) (s:=1) (by_:=24) (n:=N) (by kernel_rfl) (by kernel_rfl) (by omega) (by omega)
 obtain⟨i,hi,hz⟩:=info_zero (P:=P) (e:=T.sl_int) (z:= .slice none 0 0) (by kernel_rfl)
 have:=h4 i hi _ hz
 rw[Nat.mul_one] at this
 have e:(Value.slice none 0 0).cells= #[.slice none 0 0]:=by rfl
 rw[e,toList_madeCells_one] at this
 rw[this] at h2
 exact⟨w',h1,h2,h3⟩
theorem make_why {w:World} {N:Nat} (hN:N≤1048576):∃w',(Instr.makeSlice T.sl_euf_edge (.int .i64 (N:Int)) (.int .i64 (N:Int))).run P w= .ok (.slice (some ⟨w.heap.size,0,none⟩) N N) w'∧Own w' w.heap.size T.euf_edge 5 (some ⟨w.heap.size,0,none⟩) N N ((List.replicate N zedge).flatMap Edge.vals)∧Ext w w':=by
 obtain⟨w',vs,h1,h2,h3,h4⟩:=make_row (P:=P) (w:=w) (t:=T.sl_euf_edge) (e:=T.euf_edge) (s:=5) (by_:=40) (n:=N) (by kernel_rfl) (by kernel_rfl) (by omega) (by omega)
 obtain⟨i,hi,hz⟩:=info_zero (P:=P) (e:=T.euf_edge) (z:= .agg zedge.vals.toArray) (by kernel_rfl)
 have:=h4 i hi _ hz
 have e:(Value.agg zedge.vals.toArray).cells=zedge.vals.toArray:=by rfl
 rw[e,made_edges] at this
 rw[this] at h2
 exact⟨w',h1,h2,h3⟩
structure Laid (w1 w7:World) (p U Y:Addr) (m N:Nat):Prop where
 hp:CellsAt w7 p [.slice none 0 0,.slice none 0 0,.slice none 0 0,.slice none 0 0,.slice none 0 0,.slice (some U) N N,.map (some m),.slice (some Y) N N,.slice none 0 0,.slice none 0 0,.slice none 0 0]
 sp:Soft w7 p 11
 hU:Own w7 w1.heap.size T.sl_int 1 (some U) N N (List.replicate N (.slice none 0 0))
 hY:Own w7 w1.heap.size T.euf_edge 5 (some Y) N N ((List.replicate N zedge).flatMap Edge.vals)
 hm:MapIs Value.string iv w7 m ([]:List (ByteArray×Int))
 ext:Ext w1 w7
 pB:w1.heap.size≤p.block
 mB:w1.heap.size≤m
 pl:p.block<w7.heap.size
 d1:p.block≠U.block
 d2:p.block≠Y.block
 d3:p.block≠m
 d4:U.block≠Y.block
 d5:U.block≠m
 d6:Y.block≠m
theorem Laid.of {w1 wm wm' wu wu' wy wy' wp wp' w7:World} {p:Addr} {m N:Nat} (E1:Ext w1 wm) (hm:NewM wm m wm') (E2:Ext wm' w7) (E3:Ext w1 wu) (hu:Own wu' wu.heap.size T.sl_int 1 (some ⟨wu.heap.size,0,none⟩) N N (List.replicate N (.slice none 0 0))) (E4:Ext wu' w7) (E5:Ext w1 wy) (hy:Own wy' wy.heap.size T.euf_edge 5 (some ⟨wy.heap.size,0,none⟩) N N ((List.replicate N zedge).flatMap Edge.vals)) (E6:Ext wy' w7)
  (E7:Ext w1 wp) (hp:New wp (.cells #[.slice none 0 0,.slice none 0 0,.slice none 0 0,.slice none 0 0,.slice none 0 0,.slice (some ⟨wu.heap.size,0,none⟩) N N,.map (some m),.slice (some ⟨wy.heap.size,0,none⟩) N N,.slice none 0 0,.slice none 0 0,.slice none 0 0] T.euf_Graph) p wp') (E8:Ext wp' w7)
  (d1:wp.heap.size≠wu.heap.size) (d2:wp.heap.size≠wy.heap.size) (d3:wp.heap.size≠wm.heap.size) (d4:wu.heap.size≠wy.heap.size) (d5:wu.heap.size≠wm.heap.size) (d6:wy.heap.size≠wm.heap.size) (E:Ext w1 w7):
  Laid w1 w7 p ⟨wu.heap.size,0,none⟩ ⟨wy.heap.size,0,none⟩ m N:=by
 have bp:=hp.block
 have bm:=hm.at_
 have sp:=hp.size
 have s8:=E8.size
 exact⟨E8.cells (hp.cells rfl),E8.soft (hp.soft rfl) (fun h=>h),(hu.keep E4 (fun _ _ h=>h)).rebase E3.size,(hy.keep E6 (fun _ _ h=>h)).rebase E5.size,(MapIs.new hm).keep E2 (fun h=>h),E,by rw[bp];exact E7.size,by rw[bm];exact E1.size,by omega,by rw[bp];exact d1,by rw[bp];exact d2,by rw[bp,bm];exact d3,d4,by rw[bm];exact d5,by rw[bm];exact d6⟩
theorem L2.next0 {fs:List Flat} {nv:NV} {W0 i:Nat} {g:GS} {us:List Edge} {x:Flat} (L:L2 fs nv W0 i g us) (hx:fs[i]? =some x) (h:¬0≤x.fn) (hC:fs.length*(W0+2)+1≤549755813888):L2 fs nv W0 (i+1) g us:=by
 have hi:=(List.getElem?_eq_some_iff.1 hx).1
 have hnx:nodeAt g (i:Int)=x:=by
  unfold nodeAt
  rw[L.nodes,Int.toNat_natCast,List.getD_eq_getElem?_getD,hx]
  rfl
 have hf:fs.length*(W0+1)+(i+1)≤549755813888:=by
  have:fs.length*(W0+2)=fs.length*(W0+1)+fs.length:=by rw[show W0+2=(W0+1)+1 by omega,Nat.mul_succ]
  omega
 have b1:=L.bd.chg
 have b2:=L.bd.work
 exact⟨L.nodes,L.nvals,(L.inv.next0 (by rw[hnx];exact h)).up (wsum_mono fs (by omega)),⟨by omega,by omega,hf,L.bd.wfew⟩,L.allc,L.stand,L.marks⟩
section
variable {B0:Nat}
theorem L2.live {fs:List Flat} {nv:NV} {W0:Nat} {g:GS} {us:List Edge} (L:L2 fs nv W0 fs.length g us) (hW:wsum fs fs.length≤W0) (hC:fs.length*(W0+2)+1≤549755813888):GLive (fs.length*(W0+2)+1) W0 {g with changes:=[]} us:=by
 have e:fs.length*(W0+2)=fs.length*(W0+1)+fs.length:=by rw[show W0+2=(W0+1)+1 by omega,Nat.mul_succ]
 have hm:(fs.length-us.length)*(W0+1)≤fs.length*(W0+1):=Nat.mul_le_mul_right _ (by omega)
 have hn:=L.nodes
 refine⟨?_,⟨?_,?_,hC,L.bd.wfew⟩,⟨?_,?_,?_⟩,?_,?_⟩
 ·show GInv W0 g.nodes.length _ us []
  have el:g.nodes.length=fs.length:=by rw[hn]
  rw[el]
  exact(L.inv.up hW).chg []
 ·show 0+(g.nodes.length-us.length)*(W0+1)≤_
  rw[hn];omega
 ·show 0+(g.nodes.length-us.length)*(W0+1)≤_
  rw[hn];omega
 ·show∀s∈g.stand,_
  rw[L.stand];simp
 ·show∀s∈g.stand,_
  rw[L.stand];simp
 ·intro u hu hc
  rw[L.allc u hu] at hc
  cases hc
 ·show Chain _ _ _ us g.stand g.marks
  rw[L.marks]
  exact .base _ _ _
 ·show g.nodes.length*(W0+1)+1≤_
  rw[hn];omega
theorem new_is {w:World} {A1:Option Addr} {c1:Nat} {fs:List Flat} {W0:Nat} (hx:∀w',Ext w w'→Sl cFlat w' A1 fs.length fs) (hB:B0≤w.heap.size) (tab:Tab10 B0 w) (few:fs.length≤1048576) (h64:∀x∈fs,I64 x.fn) (hW:wsum fs fs.length≤W0) (hW0:W0≤1048576) (hC:fs.length*(W0+2)+1≤549755813888):
  Calls P F.euf_New #[.slice A1 fs.length c1] w (Ret fun v w'=>(¬Sound fs∧v= .tuple #[.pointer none,.int .i64 80]∧Ext w w')∨(Sound fs∧∃p U M H g us,v= .tuple #[.pointer (some p),.int .i64 0]∧Gr (fs.length*(W0+2)+1) W0 B0 w' p U M fs.length H g us∧g.nodes=fs∧g.stand=[]∧g.marks=[]∧Adv (fun _=>False) w H w')):=by
 refine Ret.mono (ok_euf_New A1 fs.length c1 (fun q e w'=>(¬Sound fs∧q=none∧e=80∧Ext w w')∨(Sound fs∧∃p U M H g us,q=some p∧e=0∧Gr (fs.length*(W0+2)+1) W0 B0 w' p U M fs.length H g us∧g.nodes=fs∧g.stand=[]∧g.marks=[]∧Adv (fun _=>False) w H w')) w ?_) (by
  rintro _ w' ⟨q,e,rfl,h⟩
  rcases h with⟨h1,rfl,rfl,h2⟩|⟨h1,p,U,M,H,g,us,rfl,rfl,h2⟩
  ·exact .inl ⟨h1,rfl,h2⟩
  ·exact .inr ⟨h1,p,U,M,H,g,us,rfl,h2⟩)
 generalize hKd:(fun(q:Option Addr) (e:Int) w'=>(¬Sound fs∧q=none∧e=80∧Ext w w')∨(Sound fs∧∃p U M H g us,q=some p∧e=0∧Gr (fs.length*(W0+2)+1) W0 B0 w' p U M fs.length H g us∧g.nodes=fs∧g.stand=[]∧g.marks=[]∧Adv (fun _=>False) w H w'))=K
 have smN:Sm fs.length:=by unfold Sm;omega
 unfold vc_euf_New
 refine(euf_sound_is c1 (hx w (Ext.refl w)) smN).mono ?_
 rintro _ w1 ⟨_,rfl,b,rfl,hb,E1⟩
 refine⟨_,rfl,b,rfl,fun hn=> ?_,fun hn=> ?_⟩
 ·rw[←hKd]
  exact .inl ⟨fun hs=>(by rw[hb.2 hs] at hn;cases hn),rfl,rfl,E1⟩
 have hsound:Sound fs:=hb.1 (by cases b<;>simp at hn⊢)
 have tab1:Tab10 B0 w1:=tab_keep tab E1 hB (fun _ _ h=>h.elim)
 have main:∀w7 p U Y m,Laid w1 w7 p U Y m fs.length→vc_euf_New_J6 fs.length A1 K p w7:=by
  intro w7 p U Y m La
  have hB1:B0≤w1.heap.size:=Nat.le_trans hB E1.size
  have tab7:Tab10 B0 w7:=tab_keep tab1 La.ext hB1 (fun _ _ h=>h.elim)
  have g0:=start_is La.hp La.sp La.hU La.hY La.hm hB1 La.pB La.mB La.pl La.d1 La.d2 La.d3 La.d4 La.d5 La.d6 tab7
  have lU:=La.hU.lt_
  have lY:=La.hY.lt_
  have pB:=La.pB
  have mB:=La.mB
  have sz1:=E1.size
  have adv0:Adv (fun _=>False) w (fun b=>b=p.block∨b=U.block∨b=Y.block∨b=m) w7:=⟨E1.trans La.ext,fun i hi hh=>by rcases hh with rfl|rfl|rfl|rfl<;>omega⟩
  have e0:g00 fs.length=lay1 fs ⟨none,[]⟩ fs.length 0:=by
   unfold g00 lay1
   simp[idx]
  rw[e0] at g0
  refine⟨fun k i w'=>k=fs.length-i.toNat∧0≤i∧i≤fs.length∧∃A n c H nv,GRep B0 w' p U m fs.length A n c H (lay1 fs nv fs.length i.toNat)∧Adv (fun _=>False) w H w',⟨_,rfl,by omega,by omega,_,_,_,_,_,g0,adv0⟩,?_⟩
  rintro k1 i w2 ⟨rfl,i0,i1,A,n,c,H,nv,gi,advi⟩
  refine⟨fun hlt=> ?_,fun hge=> ?_⟩
  ·obtain⟨x,ad,C,k,d,hxi,hA,hcell,hk,hI⟩:=(hx w2 advi.keep).flat i0 hlt
   refine⟨i0,hlt,ad,hA,_,_,_,_,hcell,fun p8 w3 hN3=> ?_⟩
   obtain⟨g3,adv3,q3⟩:=Loc.new gi hN3 (us:=[.int .i64 0,.slice none 0 0]) rfl
   refine⟨q3.soft,fun w4 hw4=> ?_⟩
   obtain⟨g4,adv4,q4,kp4⟩:=q3.set g3 (vs:=[.int .i64 x.fn,.slice C k d]) rfl hw4
   have E24:Ext w2 w4:=(Ext.of_new hN3).over kp4 (fun i hi hh=>by rw[hN3.block] at hh;omega)
   have hi':i.toNat<fs.length:=by omega
   obtain⟨X1,A13,n13,c13,r1,r2,r3,rfl⟩:=lay_step (k1:=fs.length-i.toNat) (I1:=fun k i w'=>k=fs.length-i.toNat∧0≤i∧i≤fs.length∧∃A n c H nv,GRep B0 w' p U m fs.length A n c H (lay1 fs nv fs.length i.toNat)∧Adv (fun _=>False) w H w') (d:=d) g4 hi' smN hxi (hI.ext E24) hk rfl (fun w' A' n' c' H' nv' g' adv' _=>by
    refine⟨fs.length-(i.toNat+1),by omega,?_⟩
    rw[toNat_cast i0,step_le (n:=fs.length) i0 hlt smN]
    refine⟨by omega,by omega,by omega,A',n',c',H',nv',?_,advi.trans (adv3.trans (adv4.trans adv'))⟩
    rw[show(i+1).toNat=i.toNat+1 by omega]
    exact g')
   rw[toNat_cast i0] at r3
   exact⟨_,A13,n13,c13,r1,r2,x.fn,q4.cells 0 _ rfl,fun h=>h,C,k,d,q4.cells 1 _ rfl,r3⟩
  ·have hi:i.toNat=fs.length:=by omega
   rw[hi] at gi
   have e4:=gi.n4
   rw[show(lay1 fs nv fs.length fs.length).nodes=fs from List.take_length] at e4
   refine⟨A 4,n 4,c 4,gi.cell (show 4<9 by omega),?_⟩
   rw[←e4]
   have hf:fs.length*(W0+1)≤549755813888:=by
    have:fs.length*(W0+2)=fs.length*(W0+1)+fs.length:=by rw[show W0+2=(W0+1)+1 by omega,Nat.mul_succ]
    omega
   have L0:L2 fs nv W0 0 (lay1 fs nv fs.length fs.length) []:=⟨List.take_length,rfl,start_inv (W0:=W0) hsound few h64,⟨by
     show 0+((fs.take fs.length).length-0)*(W0+1)≤_
     rw[List.take_length,Nat.sub_zero];omega,by
     show 0+((fs.take fs.length).length-0)*(W0+1)≤_
     rw[List.take_length,Nat.sub_zero];omega,by omega,hW0⟩,by simp,rfl,rfl⟩
   refine⟨fun k i w'=>k=fs.length-i.toNat∧0≤i∧i≤fs.length∧∃A n c H g us,GRep B0 w' p U m fs.length A n c H g∧L2 fs nv W0 i.toNat g us∧Adv (fun _=>False) w H w',⟨_,rfl,by omega,by omega,A,n,c,H,_,[],gi,L0,advi⟩,?_⟩
   have hA4:A 4=nv.adr:=gi.nad
   rintro k3 i w3 ⟨rfl,i0,i1,A3,n3,c3,H3,g,us,g3,L,adv3⟩
   refine⟨fun hlt=> ?_,fun hge=> ?_⟩
   ·have hi':i.toNat<fs.length:=by omega
    obtain⟨x,hxi⟩:∃x,fs[i.toNat]? =some x:=⟨_,List.getElem?_eq_getElem hi'⟩
    obtain⟨a,C,k,d,ha,ev,hcell,hk,hkl⟩:=g3.nodeC (i:=i.toNat) (x:=x) (by rw[L.nodes];exact hxi)
    rw[L.nvals] at ha ev
    refine⟨i0,hlt,a,by rw[hA4];exact ha,_,_,_,_,hcell,fun p20 w4 hN4=> ?_⟩
    obtain⟨g4,adv4,q4⟩:=Loc.new g3 hN4 (us:=[.int .i64 0,.slice none 0 0]) rfl
    refine⟨q4.soft,fun w5 hw5=> ?_⟩
    obtain⟨g5,adv5,q5,_⟩:=q4.set g4 (vs:=[.int .i64 x.fn,.slice C k d]) rfl hw5
    have next:∀w' A' n' c' H' g' us',GRep B0 w' p U m fs.length A' n' c' H' g'→L2 fs nv W0 (i.toNat+1) g' us'→Adv (fun _=>False) w H' w'→vc_euf_New_J5 (fs.length-i.toNat) (fun k i w'=>k=fs.length-i.toNat∧0≤i∧i≤fs.length∧∃A n c H g us,GRep B0 w' p U m fs.length A n c H g∧L2 fs nv W0 i.toNat g us∧Adv (fun _=>False) w H w') i w':=by
     intro w' A' n' c' H' g' us' h1 h2 h3
     refine⟨fs.length-(i.toNat+1),by omega,?_⟩
     rw[step_le (n:=fs.length) i0 hlt smN]
     exact⟨by omega,by omega,by omega,A',n',c',H',g',us',h1,by rw[show(i+1).toNat=i.toNat+1 by omega];exact h2,h3⟩
    refine⟨x.fn,q5.cells 0 _ rfl,fun hneg=>next w5 A3 n3 c3 _ g us g5 (L.next0 hxi (by omega) hC) (adv3.trans (adv4.trans adv5)),fun hpos=>⟨C,k,d,q5.cells 1 _ rfl,?_⟩⟩
    have key:=enter_next (d:=d) (i:=i.toNat) g5 L rfl hxi (by omega) hW hW0 hC ev hkl (J:=vc_euf_New_J5 (fs.length-i.toNat) (fun k i w'=>k=fs.length-i.toNat∧0≤i∧i≤fs.length∧∃A n c H g us,GRep B0 w' p U m fs.length A n c H g∧L2 fs nv W0 i.toNat g us∧Adv (fun _=>False) w H w') i) (wS:=w) (HS:=H) (fun w' A' n' c' H' g' us' h1 h2 h3 _=>next w' A' n' c' H' g' us' h1 h2 (adv3.trans (adv4.trans (adv5.trans h3))))
    rw[toNat_cast i0] at key
    exact key
   ·have hi:i.toNat=fs.length:=by omega
    rw[hi] at L
    have c9:=g3.cell (show 7<9 by omega)
    refine⟨⟨_,c9⟩,g3.fam.froz 7 (show 7<9+fs.length by omega),fun w4 hw4=> ?_⟩
    obtain⟨A5,n5,c5,H5,g5,adv5,_⟩:=g3.clear hw4
    rw[←hKd]
    exact .inr ⟨hsound,p,U,m,H5,_,us,rfl,rfl,⟨⟨A5,n5,c5,g5⟩,L.live hW hC,by show g.nodes.length=_;rw[L.nodes]⟩,L.nodes,L.stand,L.marks,adv3.trans adv5⟩
 have dsz:∀{a b:World},Drawn a b→b.heap.size=a.heap.size:=fun h=>by rw[h.heap]
 have msz:∀{a b:World} {m:Nat},NewM a m b→b.heap.size=a.heap.size+1:=fun h=>by rw[h.is];simp
 have D:=fun {a b:World} (h:Drawn a b)=>Ext.of_drawn h
 have EM:=fun {a b:World} {m:Nat} (h:NewM a m b)=>(Ext.refl a).newm h
 refine⟨fun v0 hv0 m1 v1 hM=>⟨fun v2 hv2=> ?_,fun v2 hv2=> ?_⟩,fun v0 hv0=> ?_,fun v0 hv0=> ?_⟩
 ·obtain⟨v3,r1,o1,e1⟩:=make_uses (w:=v2) few
  refine⟨_,_,_,v3,r1,fun v4 hv4=> ?_⟩
  obtain⟨v5,r2,o2,e2⟩:=make_why (w:=v4) few
  refine⟨_,_,_,v5,r2,fun v6 hv6 p1 v7 hN v8 hv8=> ?_⟩
  have x6:=((D hv6).new hN).drawn hv8
  have x5:=(e2).trans x6
  have x4:=(D hv4).trans x5
  have x3:=(e1).trans x4
  have x2:=(D hv2).trans x3
  have x1:=(EM hM).trans x2
  have x0:=(D hv0).trans x1
  have b0:=D hv0
  have b1:=b0.trans (EM hM)
  have b2:=b1.trans (D hv2)
  have b3:=b2.trans (e1)
  have b4:=b3.trans (D hv4)
  have b5:=b4.trans (e2)
  have b6:=b5.trans (D hv6)
  have y0:=dsz hv0
  have y2:=dsz hv2
  have y4:=dsz hv4
  have y6:=dsz hv6
  have z0:=msz hM
  have z1:=o1.lt_
  have z2:=o2.lt_
  refine main _ _ _ _ _ (Laid.of b0 hM x2 b2 o1 x4 b4 o2 x6 b6 hN (D hv8) ?_ ?_ ?_ ?_ ?_ ?_ x0)<;>simp only at z1 z2<;>omega
 ·obtain⟨v3,r1,o1,e1⟩:=make_why (w:=v2) few
  refine⟨_,_,_,v3,r1,fun v4 hv4=> ?_⟩
  obtain⟨v5,r2,o2,e2⟩:=make_uses (w:=v4) few
  refine⟨_,_,_,v5,r2,fun v6 hv6 p1 v7 hN v8 hv8=> ?_⟩
  have x6:=((D hv6).new hN).drawn hv8
  have x5:=(e2).trans x6
  have x4:=(D hv4).trans x5
  have x3:=(e1).trans x4
  have x2:=(D hv2).trans x3
  have x1:=(EM hM).trans x2
  have x0:=(D hv0).trans x1
  have b0:=D hv0
  have b1:=b0.trans (EM hM)
  have b2:=b1.trans (D hv2)
  have b3:=b2.trans (e1)
  have b4:=b3.trans (D hv4)
  have b5:=b4.trans (e2)
  have b6:=b5.trans (D hv6)
  have y0:=dsz hv0
  have y2:=dsz hv2
  have y4:=dsz hv4
  have y6:=dsz hv6
  have z0:=msz hM
  have z1:=o1.lt_
  have z2:=o2.lt_
  refine main _ _ _ _ _ (Laid.of b0 hM x2 b4 o2 x6 b2 o1 x4 b6 hN (D hv8) ?_ ?_ ?_ ?_ ?_ ?_ x0)<;>simp only at z1 z2<;>omega
 ·obtain⟨v1,r0,o0,e0⟩:=make_uses (w:=v0) few
  refine⟨_,_,_,v1,r0,fun v2 hv2=> ?_,fun v2 hv2=> ?_⟩
  ·intro m1 v3 hM v4 hv4
   obtain⟨v5,r2,o2,e2⟩:=make_why (w:=v4) few
   refine⟨_,_,_,v5,r2,fun v6 hv6 p1 v7 hN v8 hv8=> ?_⟩
   have x6:=((D hv6).new hN).drawn hv8
   have x5:=(e2).trans x6
   have x4:=(D hv4).trans x5
   have x3:=(EM hM).trans x4
   have x2:=(D hv2).trans x3
   have x1:=(e0).trans x2
   have x0:=(D hv0).trans x1
   have b0:=D hv0
   have b1:=b0.trans (e0)
   have b2:=b1.trans (D hv2)
   have b3:=b2.trans (EM hM)
   have b4:=b3.trans (D hv4)
   have b5:=b4.trans (e2)
   have b6:=b5.trans (D hv6)
   have y0:=dsz hv0
   have y2:=dsz hv2
   have y4:=dsz hv4
   have y6:=dsz hv6
   have z0:=o0.lt_
   have z1:=msz hM
   have z2:=o2.lt_
   refine main _ _ _ _ _ (Laid.of b2 hM x4 b0 o0 x2 b4 o2 x6 b6 hN (D hv8) ?_ ?_ ?_ ?_ ?_ ?_ x0)<;>simp only at z0 z2<;>omega
  ·obtain⟨v3,r1,o1,e1⟩:=make_why (w:=v2) few
   refine⟨_,_,_,v3,r1,fun v4 hv4=> ?_⟩
   intro m1 v5 hM v6 hv6
   intro p1 v7 hN v8 hv8
   have x6:=((D hv6).new hN).drawn hv8
   have x5:=(EM hM).trans x6
   have x4:=(D hv4).trans x5
   have x3:=(e1).trans x4
   have x2:=(D hv2).trans x3
   have x1:=(e0).trans x2
   have x0:=(D hv0).trans x1
   have b0:=D hv0
   have b1:=b0.trans (e0)
   have b2:=b1.trans (D hv2)
   have b3:=b2.trans (e1)
   have b4:=b3.trans (D hv4)
   have b5:=b4.trans (EM hM)
   have b6:=b5.trans (D hv6)
   have y0:=dsz hv0
   have y2:=dsz hv2
   have y4:=dsz hv4
   have y6:=dsz hv6
   have z0:=o0.lt_
   have z1:=o1.lt_
   have z2:=msz hM
   refine main _ _ _ _ _ (Laid.of b4 hM x6 b0 o0 x2 b2 o1 x4 b6 hN (D hv8) ?_ ?_ ?_ ?_ ?_ ?_ x0)<;>simp only at z0 z1<;>omega
 ·obtain⟨v1,r0,o0,e0⟩:=make_why (w:=v0) few
  refine⟨_,_,_,v1,r0,fun v2 hv2=> ?_,fun v2 hv2=> ?_⟩
  ·intro m1 v3 hM v4 hv4
   obtain⟨v5,r2,o2,e2⟩:=make_uses (w:=v4) few
   refine⟨_,_,_,v5,r2,fun v6 hv6 p1 v7 hN v8 hv8=> ?_⟩
   have x6:=((D hv6).new hN).drawn hv8
   have x5:=(e2).trans x6
   have x4:=(D hv4).trans x5
   have x3:=(EM hM).trans x4
   have x2:=(D hv2).trans x3
   have x1:=(e0).trans x2
   have x0:=(D hv0).trans x1
   have b0:=D hv0
   have b1:=b0.trans (e0)
   have b2:=b1.trans (D hv2)
   have b3:=b2.trans (EM hM)
   have b4:=b3.trans (D hv4)
   have b5:=b4.trans (e2)
   have b6:=b5.trans (D hv6)
   have y0:=dsz hv0
   have y2:=dsz hv2
   have y4:=dsz hv4
   have y6:=dsz hv6
   have z0:=o0.lt_
   have z1:=msz hM
   have z2:=o2.lt_
   refine main _ _ _ _ _ (Laid.of b2 hM x4 b4 o2 x6 b0 o0 x2 b6 hN (D hv8) ?_ ?_ ?_ ?_ ?_ ?_ x0)<;>simp only at z0 z2<;>omega
  ·obtain⟨v3,r1,o1,e1⟩:=make_uses (w:=v2) few
   refine⟨_,_,_,v3,r1,fun v4 hv4=> ?_⟩
   intro m1 v5 hM v6 hv6
   intro p1 v7 hN v8 hv8
   have x6:=((D hv6).new hN).drawn hv8
   have x5:=(EM hM).trans x6
   have x4:=(D hv4).trans x5
   have x3:=(e1).trans x4
   have x2:=(D hv2).trans x3
   have x1:=(e0).trans x2
   have x0:=(D hv0).trans x1
   have b0:=D hv0
   have b1:=b0.trans (e0)
   have b2:=b1.trans (D hv2)
   have b3:=b2.trans (e1)
   have b4:=b3.trans (D hv4)
   have b5:=b4.trans (EM hM)
   have b6:=b5.trans (D hv6)
   have y0:=dsz hv0
   have y2:=dsz hv2
   have y4:=dsz hv4
   have y6:=dsz hv6
   have z0:=o0.lt_
   have z1:=o1.lt_
   have z2:=msz hM
   refine main _ _ _ _ _ (Laid.of b4 hM x6 b2 o1 x4 b0 o0 x2 b6 hN (D hv8) ?_ ?_ ?_ ?_ ?_ ?_ x0)<;>simp only at z0 z1<;>omega
end
end Go.Proofs.YtbmbhfghpidggaaDoor
namespace Go.Proofs.YtbmbhfghpidggaaDoor
set_option linter.unusedVariables false
set_option linter.unusedSimpArgs false
open Wk
inductive CC (ns:List Flat) (E:Int→Int→Prop):Int→Int→Prop
 |base {x y:Int}:Vn ns.length x→Vn ns.length y→E x y→CC ns E x y
 |refl {x:Int}:Vn ns.length x→CC ns E x x
 |symm {x y:Int}:CC ns E x y→CC ns E y x
 |trans {x y z:Int}:CC ns E x y→CC ns E y z→CC ns E x z
 |cong {p q:Int}:Vn ns.length p→Vn ns.length q→0≤(nodeOf ns p).fn→(nodeOf ns p).fn=(nodeOf ns q).fn→(nodeOf ns p).args.length=(nodeOf ns q).args.length→(∀(i:Nat) a b,(nodeOf ns p).args[i]? =some a→(nodeOf ns q).args[i]? =some b→CC ns E a b)→CC ns E p q
theorem CC.val {ns:List Flat} {E:Int→Int→Prop} {x y:Int} (h:CC ns E x y):Vn ns.length x∧Vn ns.length y:=by
 induction h with
 |base h1 h2 _=>exact⟨h1,h2⟩
 |refl h=>exact⟨h,h⟩
 |symm _ ih=>exact⟨ih.2,ih.1⟩
 |trans _ _ ih1 ih2=>exact⟨ih1.1,ih2.2⟩
 |cong h1 h2=>exact⟨h1,h2⟩
theorem CC.mono {ns:List Flat} {E E':Int→Int→Prop} (hE:∀x y,E x y→E' x y) {x y:Int} (h:CC ns E x y):CC ns E' x y:=by
 induction h with
 |base h1 h2 h3=>exact .base h1 h2 (hE _ _ h3)
 |refl h=>exact .refl h
 |symm _ ih=>exact ih.symm
 |trans _ _ ih1 ih2=>exact ih1.trans ih2
 |cong h1 h2 h3 h4 h5 _ ih=>exact .cong h1 h2 h3 h4 h5 ih
theorem CC.least {ns:List Flat} {E:Int→Int→Prop} {f:Int→Int} (hE:∀x y,Vn ns.length x→Vn ns.length y→E x y→f x=f y) (hc:∀p q,CongOk ns (fun a b=>f a=f b) p q→f p=f q) {x y:Int} (h:CC ns E x y):f x=f y:=by
 induction h with
 |base h1 h2 h3=>exact hE _ _ h1 h2 h3
 |refl h=>rfl
 |symm _ ih=>exact ih.symm
 |trans _ _ ih1 ih2=>exact ih1.trans ih2
 |cong h1 h2 h3 h4 h5 _ ih=>exact hc _ _ ⟨h1,h2,h3,h4,h5,ih⟩
def eqsT (st:List SaidR) (T:Int→Prop) (x y:Int):Prop:=∃s∈st,s.not=false∧T s.tag∧s.a=x∧s.b=y
abbrev eqsOf (st:List SaidR):Int→Int→Prop:=eqsT st fun _=>True
theorem GInv.closed {W:Nat} {g:GS} {us:List Edge} (h:GInv W g.nodes.length g us []) {p q:Int} (k:CongOk g.nodes (fun a b=>fd g a=fd g b) p q):fd g p=fd g q:=by
 have hs:sigOf g p=sigOf g q:=by
  unfold sigOf
  rw[show(nodeAt g p).fn=(nodeAt g q).fn from k.fn]
  congr 1
  refine List.ext_getElem? fun i=> ?_
  rw[List.getElem?_map,List.getElem?_map]
  have hl:=k.len
  rcases Nat.lt_or_ge i (nodeOf g.nodes p).args.length with hi|hi
  ·have h1:(nodeAt g p).args[i]? =some ((nodeOf g.nodes p).args[i]):=List.getElem?_eq_getElem hi
   have h2:(nodeAt g q).args[i]? =some ((nodeOf g.nodes q).args[i]'(by omega)):=List.getElem?_eq_getElem (show i<(nodeOf g.nodes q).args.length by omega)
   rw[h1,h2]
   exact congrArg some (k.args i _ _ h1 h2)
  ·have h1:(nodeAt g p).args[i]? =none:=List.getElem?_eq_none hi
   have h2:(nodeAt g q).args[i]? =none:=List.getElem?_eq_none (Nat.le_trans (Nat.le_of_eq k.len.symm) hi)
   rw[h1,h2]
 obtain⟨q1,a1,b1⟩:=h.table p k.v1 k.v1.2 k.app
 obtain⟨q2,a2,b2⟩:=h.table q k.v2 k.v2.2 (by rw[nodeAt_eq,←k.fn];exact k.app)
 rw[hs] at a1
 rw[a1] at a2
 cases a2
 exact b1.done.trans b2.done.symm
theorem GInv.sound_ {W m:Nat} {g:GS} {us:List Edge} {E:Int→Int→Prop} (h:GInv W m g us []) (hsrc:∀u∈us,u.cong=false→E u.a u.b):∀(k:Nat) (x y:Int),Conn (us.take k) x y→x=y∨CC g.nodes E x y:=by
 intro k
 induction k using Nat.strongRecOn with
 |ind k ih=>
  intro x y hc
  induction hc with
  |refl x=>exact .inl rfl
  | @edge u hu=>
   obtain⟨j,hj⟩:=List.mem_iff_getElem?.1 hu
   have hjk:j<k:=by
    have:=(List.getElem?_eq_some_iff.1 hj).1
    rw[List.length_take] at this
    omega
   rw[List.getElem?_take,if_pos hjk] at hj
   obtain⟨v1,v2⟩:=h.forest.val u (List.mem_of_getElem? hj)
   right
   cases hcg:u.cong with
   |false=>exact .base v1 v2 (hsrc u (List.mem_of_getElem? hj) hcg)
   |true=>
    have c:=(h.just j u hj).1 hcg
    refine .cong c.v1 c.v2 c.app c.fn c.len fun i a b ha hb=> ?_
    rcases ih j hjk a b (c.args i a b ha hb) with e|e
    ·subst e
     exact .refl (sound_vn h.sound c.v1 (List.mem_of_getElem? ha))
    ·exact e
  |symm _ ih'=>exact ih'.imp (fun e=>e.symm) fun e=>e.symm
  |trans _ _ i1 i2=>
   rcases i1 with rfl|i1
   ·exact i2
   ·rcases i2 with rfl|i2
    ·exact .inr i1
    ·exact .inr (i1.trans i2)
theorem fd_iff {W:Nat} {g:GS} {us:List Edge} {st:List SaidR} (h:GInv W g.nodes.length g us []) (s:Sem g us st) {x y:Int} (hx:Vn g.nodes.length x) (hy:Vn g.nodes.length y):fd g x=fd g y↔CC g.nodes (eqsOf st) x y:=by
 constructor
 ·intro e
  have hc:=h.conn1 x y hx hy e
  have:=h.sound_ (E:=eqsOf st) (fun u hu hc=>by
   obtain⟨t,h1,h2,h3,h4,h5⟩:=s.src u hu hc
   exact⟨t,h1,h2,trivial,h3,h4⟩) us.length x y (by rw[List.take_length];exact hc)
  rcases this with rfl|k
  ·exact .refl hx
  ·exact k
 ·intro k
  exact CC.least (fun x y _ _ ⟨t,h1,h2,_,h3,h4⟩=>by rw[←h3,←h4];exact s.eqs t h1 h2) (fun p q c=>h.closed c) k
def stripC:Nat→List Int→List Int→List Int×List Int
 |0,u,d=>(u,d)
 |f+1,u,d=>if u≠[]∧d≠[]∧endOf u=endOf d then stripC f u.dropLast d.dropLast else(u,d)
def betw (g:GS) (a b:Int):List Int×List Int:=stripC g.nodes.length (pathOf g a) (pathOf g b)
theorem split_end {l:List Int} (h:l≠[]):l=l.dropLast++[endOf l]:=by
 conv=>lhs;rw[←List.dropLast_concat_getLast h]
 congr 2
 unfold endOf
 rw[List.getLastD_eq_getLast?,List.getLast?_eq_some_getLast h]
 rfl
theorem stripC_spec:∀(f:Nat) (u d:List Int),u.length≤f∨d.length≤f→∃c,u=(stripC f u d).1++c∧d=(stripC f u d).2++c∧((stripC f u d).1≠[]→(stripC f u d).2≠[]→endOf (stripC f u d).1≠endOf (stripC f u d).2)∧(u≠[]→d≠[]→endOf u=endOf d→c≠[])
 |0,u,d,h=>by
  have e0:stripC 0 u d=(u,d):=rfl
  rw[e0]
  refine⟨[],by simp,by simp,fun h1 h2=> ?_,fun h1 h2=> ?_⟩
  ·rcases h with h|h
   ·exact absurd (List.length_eq_zero_iff.1 (Nat.le_zero.1 h)) h1
   ·exact absurd (List.length_eq_zero_iff.1 (Nat.le_zero.1 h)) h2
  ·rcases h with h|h
   ·exact absurd (List.length_eq_zero_iff.1 (Nat.le_zero.1 h)) h1
   ·exact absurd (List.length_eq_zero_iff.1 (Nat.le_zero.1 h)) h2
 |f+1,u,d,h=>by
  by_cases hc:u≠[]∧d≠[]∧endOf u=endOf d
  ·obtain⟨h1,h2,h3⟩:=hc
   have lu:=List.length_pos_iff.2 h1
   have ld:=List.length_pos_iff.2 h2
   obtain⟨c,k1,k2,k3,_⟩:=stripC_spec f u.dropLast d.dropLast (by rw[List.length_dropLast,List.length_dropLast];omega)
   have e:stripC (f+1) u d=stripC f u.dropLast d.dropLast:=by
    show(if _ then _ else _)=_
    rw[if_pos ⟨h1,h2,h3⟩]
   rw[e]
   refine⟨c++[endOf u],?_,?_,k3,fun _ _ _=>by simp⟩
   ·rw[←List.append_assoc,←k1]
    exact split_end h1
   ·rw[←List.append_assoc,←k2,h3]
    exact split_end h2
  ·have e:stripC (f+1) u d=(u,d):=by
    show(if _ then _ else _)=_
    rw[if_neg hc]
   rw[e]
   refine⟨[],by simp,by simp,fun h1 h2 h3=>hc ⟨h1,h2,h3⟩,fun h1 h2 h3=>absurd ⟨h1,h2,h3⟩ hc⟩
theorem betw_spec {W m:Nat} {g:GS} {us l:List Edge} (h:GInv W m g us l) {a b:Int} (ha:Vn g.nodes.length a) (hb:Vn g.nodes.length b) (e:fd g a=fd g b):
  ∃c,c≠[]∧Up g.why a ((betw g a b).1++c)∧Up g.why b ((betw g a b).2++c)∧(∀z∈(betw g a b).1,z∉(betw g a b).2)∧(∀z∈(betw g a b).1,Vn g.nodes.length z∧0≤(edgeAt g.why z).to)∧(∀z∈(betw g a b).2,Vn g.nodes.length z∧0≤(edgeAt g.why z).to):=by
 obtain⟨ua,va⟩:=h.way ha
 obtain⟨ub,vb⟩:=h.way hb
 have la:=nodup_len _ _ ua.nodup fun y hy=>(va y hy).1
 have hends:=h.forest.ends a b _ _ ha hb e ua ub
 obtain⟨c,k1,k2,k3,k4⟩:=stripC_spec g.nodes.length (pathOf g a) (pathOf g b) (.inl la)
 have hc:=k4 ua.ne ub.ne hends
 have to_:∀(x:Int) (l:List Int),Up g.why x l→∀p,l=p++c→∀z∈p,0≤(edgeAt g.why z).to:=by
  intro x l hu
  induction hu with
  | @stop x h0=>
   intro p hp z hz
   have:=congrArg List.length hp
   simp at this
   have hcl:=List.length_pos_iff.2 hc
   have:p=[]:=List.length_eq_zero_iff.1 (by omega)
   rw[this] at hz
   simp at hz
  | @step x l h0 h1 ih=>
   intro p hp z hz
   cases p with
   |nil=>simp at hz
   |cons y p=>
    injection hp with e1 e2
    subst e1
    rcases List.mem_cons.1 hz with rfl|hz
    ·exact h0
    ·exact ih p e2 z hz
 refine⟨c,hc,by have:=ua;rw[k1] at this;exact this,by have:=ub;rw[k2] at this;exact this,?_,fun z hz=>⟨(va z (by rw[k1];exact List.mem_append.2 (.inl hz))).1,to_ a _ ua _ k1 z hz⟩,fun z hz=>⟨(vb z (by rw[k2];exact List.mem_append.2 (.inl hz))).1,to_ b _ ub _ k2 z hz⟩⟩
 intro z h1 h2
 obtain⟨p1,q1,e1⟩:=List.append_of_mem h1
 obtain⟨p2,q2,e2⟩:=List.append_of_mem h2
 have e1':(stripC g.nodes.length (pathOf g a) (pathOf g b)).1=p1++z::q1:=e1
 have e2':(stripC g.nodes.length (pathOf g a) (pathOf g b)).2=p2++z::q2:=e2
 --from z on both go the same way
 have tail:∀(x:Int) (l:List Int),Up g.why x l→∀(p r:List Int),l=p++z::r→Up g.why z (z::r):=by
  intro x l hu
  induction hu with
  | @stop x h0=>
   intro p r hp
   cases p with
   |nil=>
    have h3:=List.cons.inj hp
    rw[←h3.1,←h3.2]
    exact .stop h0
   |cons y p=>have h3:=(List.cons.inj hp).2;simp at h3
  | @step x l h0 h1 ih=>
   intro p r hp
   cases p with
   |nil=>
    have h3:=List.cons.inj hp
    rw[←h3.1,←h3.2]
    exact .step h0 h1
   |cons y p=>exact ih p r (List.cons.inj hp).2
 have t1:=tail a _ ua p1 (q1++c) (by rw[k1,e1'];simp)
 have t2:=tail b _ ub p2 (q2++c) (by rw[k2,e2'];simp)
 have q12:=(List.cons.inj (t1.det t2)).2
 have q12':q1=q2:=List.append_cancel_right q12
 subst q12'
 refine k3 (by rw[e1'];simp) (by rw[e2'];simp) ?_
 rw[e1',e2',endOf_app (by simp),endOf_app (by simp)]
end Go.Proofs.YtbmbhfghpidggaaDoor
namespace Go.Proofs.YtbmbhfghpidggaaDoor
set_option linter.unusedVariables false
set_option linter.unusedSimpArgs false
open Wk
theorem up_chain {why:List Edge} {R:Int→Int→Prop} (hr:∀x,R x x) (ht:∀x y z,R x y→R y z→R x z) {x:Int} {l:List Int} (h:Up why x l):∀{p c:List Int},l=p++c→c≠[]→(∀z∈p,R z (edgeAt why z).to)→R x (c.headD 0):=by
 induction h with
 | @stop x h0=>
  intro p c e hc _
  cases p with
  |nil=>
   have:c=[x]:=by simpa using e.symm
   rw[this];exact hr x
  |cons y p=>
   have h3:=congrArg List.length e
   have:=List.length_pos_iff.2 hc
   simp only[List.length_cons,List.length_nil,List.cons_append,List.length_append] at h3
   omega
 | @step x l h0 h1 ih=>
  intro p c e hc hp
  cases p with
  |nil=>
   have:c=x::l:=by simpa using e.symm
   rw[this];exact hr x
  |cons y p=>
   have h3:=List.cons.inj e
   refine ht _ _ _ ?_ (ih h3.2 hc fun z hz=>hp z (List.mem_cons_of_mem _ hz))
   rw[h3.1]
   exact hp y (by simp)
theorem up_chain2 {why:List Edge} {R:Int→Int→Prop} (hr:∀x,R x x) (ht:∀x y z,R x y→R y z→R x z) {x n:Int} {l:List Int} (h:Up why x l):∀{p c:List Int},l=p++c→c≠[]→n∈p→(∀z∈p,z≠n→R z (edgeAt why z).to)→R x n∧R (edgeAt why n).to (c.headD 0):=by
 induction h with
 | @stop x h0=>
  intro p c e hc hn _
  cases p with
  |nil=>simp at hn
  |cons y p=>
   have h3:=congrArg List.length e
   have:=List.length_pos_iff.2 hc
   simp only[List.length_cons,List.length_nil,List.cons_append,List.length_append] at h3
   omega
 | @step x l h0 h1 ih=>
  intro p c e hc hn hp
  cases p with
  |nil=>simp at hn
  |cons y p=>
   have h3:=List.cons.inj e
   have nd:(x::l).Nodup:=(Up.step h0 h1).nodup
   by_cases hyn:y=n
   ·subst hyn
    rw[h3.1]
    rw[h3.1] at h1 nd
    refine⟨hr y,up_chain hr ht h1 h3.2 hc fun z hz=>hp z (List.mem_cons_of_mem _ hz) fun q=> ?_⟩
    subst q
    exact(List.nodup_cons.1 nd).1 (by rw[h3.2];simp[hz])
   ·have hn':n∈p:=(List.mem_cons.1 hn).resolve_left fun q=>hyn q.symm
    obtain⟨k1,k2⟩:=ih h3.2 hc hn' fun z hz=>hp z (List.mem_cons_of_mem _ hz)
    refine⟨ht _ _ _ ?_ k1,k2⟩
    rw[h3.1]
    exact hp y (by simp) hyn
def At_ (why us:List Edge) (n:Int) (j:Nat):Prop:=∃u,us[j]? =some u∧∃y,Ends u n y∧Out why n y u
section
variable {W m:Nat} {g:GS} {us l:List Edge}
theorem at_ex (h:GInv W m g us l) {n:Int} (hn:Vn g.nodes.length n) (h0:0≤(edgeAt g.why n).to):∃j,j<us.length∧At_ g.why us n j:=by
 obtain⟨u,hu,y,h1,h2⟩:=h.forest.only n hn h0
 obtain⟨j,hj⟩:=List.mem_iff_getElem?.1 hu
 exact⟨j,(List.getElem?_eq_some_iff.1 hj).1,u,hj,y,h1,h2⟩
theorem at_edge {n:Int} {j:Nat} (h:At_ g.why us n j):∃u,us[j]? =some u∧Ends u n (edgeAt g.why n).to∧(edgeAt g.why n).cong=u.cong∧(edgeAt g.why n).tag=u.tag∧(edgeAt g.why n).a=u.a∧(edgeAt g.why n).b=u.b:=by
 obtain⟨u,hu,y,h1,h2⟩:=h
 have:=out_to h2
 rw[this]
 unfold Out at h2
 refine⟨u,hu,h1,?_,?_,?_,?_⟩<;>rw[h2]
theorem at_inj (h:GInv W m g us l) {n n':Int} {j:Nat} (hn:Vn g.nodes.length n) (hn':Vn g.nodes.length n') (h1:At_ g.why us n j) (h2:At_ g.why us n' j):n=n':=by
 obtain⟨u,hu,e1,_⟩:=at_edge h1
 obtain⟨u',hu',e2,_⟩:=at_edge h2
 rw[hu] at hu'
 cases hu'
 rcases Decidable.em (n=n') with q|q
 ·exact q
 exfalso
 have:n'=(edgeAt g.why n).to∧n=(edgeAt g.why n').to:=by
  rcases e1 with⟨a1,a2⟩|⟨a1,a2⟩<;>rcases e2 with⟨b1,b2⟩|⟨b1,b2⟩
  ·exact absurd (a1.trans b1.symm) q
  ·exact⟨b1.trans a2.symm,a1.trans b2.symm⟩
  ·exact⟨b1.trans a2.symm,a1.trans b2.symm⟩
  ·exact absurd (a1.trans b1.symm) q
 obtain⟨ln,u1,_⟩:=h.forest.way n hn
 have nd:=u1.nodup
 cases u1 with
 |stop h0=>have:=hn'.1;omega
 |step h0 u2=>
  rw[←this.1] at u2
  cases u2 with
  |stop h3=>have:=hn.1;omega
  |step h3 u4=>
   rw[←this.2] at u4
   obtain⟨t,ht⟩:=u4.head
   exact(List.nodup_cons.1 nd).1 (by rw[ht];simp)
theorem conn_at {n:Int} {j k:Nat} (h:At_ g.why us n j) (hk:j<k):Conn (us.take k) n (edgeAt g.why n).to:=by
 obtain⟨u,hu,e,_⟩:=at_edge h
 refine Conn.ends (u:=u) ?_ e
 exact List.mem_of_getElem? (i:=j) (by rw[List.getElem?_take,if_pos hk];exact hu)
theorem betw_idx (h:GInv W m g us l) {a b:Int} (ha:Vn g.nodes.length a) (hb:Vn g.nodes.length b) {k:Nat} (hc:Conn (us.take k) a b):
  ∀n,n∈(betw g a b).1∨n∈(betw g a b).2→∀j,At_ g.why us n j→j<k:=by
 have e:fd g a=fd g b:=(hc.mono fun u hu=>List.mem_of_mem_take hu).to h.conn2
 obtain⟨c,c0,u1,u2,dis,v1,v2⟩:=betw_spec h ha hb e
 have vv:∀n,n∈(betw g a b).1∨n∈(betw g a b).2→Vn g.nodes.length n∧0≤(edgeAt g.why n).to:=fun n hn=>hn.elim (v1 n) (v2 n)
 have key:∀d K,K=k+d→(∀n,n∈(betw g a b).1∨n∈(betw g a b).2→∀j,At_ g.why us n j→j<K)→∀n,n∈(betw g a b).1∨n∈(betw g a b).2→∀j,At_ g.why us n j→j<k:=by
  intro d
  induction d with
  |zero=>intro K hK hall;subst hK;exact hall
  |succ d ih=>
   intro K hK hall
   refine ih (k+d) rfl fun n hn j hj=> ?_
   have hjK:=hall n hn j hj
   rcases Nat.lt_or_ge j (k+d) with q|q
   ·exact q
   exfalso
   have hjd:j=k+d:=by omega
   subst hjd
   --the others are older
   have other:∀z,z∈(betw g a b).1∨z∈(betw g a b).2→z≠n→Conn (us.take (k+d)) z (edgeAt g.why z).to:=by
    intro z hz hzn
    obtain⟨vz,tz⟩:=vv z hz
    obtain⟨i,_,hi⟩:=at_ex h vz tz
    have hiK:=hall z hz i hi
    refine conn_at hi ?_
    have:i≠k+d:=fun q=>hzn (by rw[q] at hi;exact at_inj h vz (vv n hn).1 hi hj)
    omega
   have hab:Conn (us.take (k+d)) a b:=hc.mono fun u hu=>by
    have:us.take k=(us.take (k+d)).take k:=by rw[List.take_take,Nat.min_eq_left (by omega)]
    rw[this] at hu
    exact List.mem_of_mem_take hu
   obtain⟨u,hu,eu,_⟩:=at_edge hj
   have hno:=(h.just (k+d) u hu).2
   have hcn:Conn (us.take (k+d)) n (edgeAt g.why n).to:=by
    rcases hn with hn|hn
    ·have n2:n∉(betw g a b).2:=dis n hn
     obtain⟨q1,q2⟩:=up_chain2 (R:=Conn (us.take (k+d))) Conn.refl (fun _ _ _=>Conn.trans) u1 rfl c0 hn fun z hz hzn=>other z (.inl hz) hzn
     have q3:=up_chain (R:=Conn (us.take (k+d))) Conn.refl (fun _ _ _=>Conn.trans) u2 rfl c0 fun z hz=>other z (.inr hz) fun q=>n2 (q▸hz)
     exact q1.symm.trans (hab.trans (q3.trans q2.symm))
    ·have n1:n∉(betw g a b).1:=fun q=>dis n q hn
     obtain⟨q1,q2⟩:=up_chain2 (R:=Conn (us.take (k+d))) Conn.refl (fun _ _ _=>Conn.trans) u2 rfl c0 hn fun z hz hzn=>other z (.inr hz) hzn
     have q3:=up_chain (R:=Conn (us.take (k+d))) Conn.refl (fun _ _ _=>Conn.trans) u1 rfl c0 fun z hz=>other z (.inl hz) fun q=>n1 (q▸hz)
     exact q1.symm.trans (hab.symm.trans (q3.trans q2.symm))
   apply hno
   rcases eu with⟨e1,e2⟩|⟨e1,e2⟩
   ·rw[←e1,←e2];exact hcn
   ·rw[←e1,←e2];exact hcn.symm
 intro n hn j hj
 obtain⟨u,hu,_⟩:=at_edge hj
 have hju:=(List.getElem?_eq_some_iff.1 hu).1
 exact key (us.length-k) (k+(us.length-k)) rfl (fun n hn j hj=>by
  obtain⟨u,hu,_⟩:=at_edge hj
  have hju:=(List.getElem?_eq_some_iff.1 hu).1
  omega) n hn j hj
def Cov (g:GS) (S:Int→Prop) (a b:Int):Prop:=∀n,n∈(betw g a b).1∨n∈(betw g a b).2→S n
theorem cov_cc {st:List SaidR} {S T:Int→Prop} (h:GInv W m g us l) (hs:Sem g us st) (hT:∀n,S n→Vn g.nodes.length n→0≤(edgeAt g.why n).to→(edgeAt g.why n).cong=false→T (edgeAt g.why n).tag)
  (hC:∀n,S n→Vn g.nodes.length n→0≤(edgeAt g.why n).to→(edgeAt g.why n).cong=true→∀(i:Nat) x y,(nodeOf g.nodes (edgeAt g.why n).a).args[i]? =some x→(nodeOf g.nodes (edgeAt g.why n).b).args[i]? =some y→Cov g S x y):
  ∀(k:Nat) (a b:Int),Vn g.nodes.length a→Vn g.nodes.length b→Conn (us.take k) a b→Cov g S a b→CC g.nodes (eqsT st T) a b:=by
 intro k
 induction k using Nat.strongRecOn with
 |ind k ih=>
  intro a b ha hb hc hcov
  have e:fd g a=fd g b:=(hc.mono fun u hu=>List.mem_of_mem_take hu).to h.conn2
  obtain⟨c,c0,u1,u2,dis,v1,v2⟩:=betw_spec h ha hb e
  have hidx:=betw_idx h ha hb hc
  have one:∀n,n∈(betw g a b).1∨n∈(betw g a b).2→CC g.nodes (eqsT st T) n (edgeAt g.why n).to:=by
   intro n hn
   obtain⟨vn,tn⟩:=hn.elim (v1 n) (v2 n)
   obtain⟨j,hj,hat⟩:=at_ex h vn tn
   have hjk:=hidx n hn j hat
   obtain⟨u,hu,eu,e1,e2,e3,e4⟩:=at_edge hat
   obtain⟨w1,w2⟩:=h.forest.val u (List.mem_of_getElem? hu)
   have hS:=hcov n hn
   have hcc:CC g.nodes (eqsT st T) u.a u.b:=by
    cases hcg:u.cong with
    |false=>
     obtain⟨t,t1,t2,t3,t4,t5⟩:=hs.src u (List.mem_of_getElem? hu) hcg
     refine .base w1 w2 ⟨t,t1,t2,?_,t3,t4⟩
     have:=hT n hS vn tn (by rw[e1];exact hcg)
     rw[e2] at this
     rw[t5]
     exact this
    |true=>
     have cg:=(h.just j u hu).1 hcg
     refine .cong cg.v1 cg.v2 cg.app cg.fn cg.len fun i x y hx hy=> ?_
     have:=hC n hS vn tn (by rw[e1];exact hcg) i x y (by rw[e3];exact hx) (by rw[e4];exact hy)
     exact ih j hjk x y (sound_vn h.sound cg.v1 (List.mem_of_getElem? hx)) (sound_vn h.sound cg.v2 (List.mem_of_getElem? hy)) (cg.args i x y hx hy) this
   rcases eu with⟨q1,q2⟩|⟨q1,q2⟩
   ·rw[q2,q1];exact hcc
   ·rw[q2,q1];exact hcc.symm
  have r1:=up_chain (R:=fun x y=>x=y∨CC g.nodes (eqsT st T) x y) (fun _=> .inl rfl) (fun x y z h1 h2=>by
   rcases h1 with rfl|h1
   ·exact h2
   ·rcases h2 with rfl|h2
    ·exact .inr h1
    ·exact .inr (h1.trans h2)) u1 rfl c0 fun z hz=> .inr (one z (.inl hz))
  have r2:=up_chain (R:=fun x y=>x=y∨CC g.nodes (eqsT st T) x y) (fun _=> .inl rfl) (fun x y z h1 h2=>by
   rcases h1 with rfl|h1
   ·exact h2
   ·rcases h2 with rfl|h2
    ·exact .inr h1
    ·exact .inr (h1.trans h2)) u2 rfl c0 fun z hz=> .inr (one z (.inr hz))
  rcases r1 with r1|r1<;>rcases r2 with r2|r2
  ·rw[r1,r2]
   have:Vn g.nodes.length (c.headD 0):=by rw[←r1];exact ha
   exact .refl this
  ·rw[r1];exact r2.symm
  ·rw[r2];exact r1
  ·exact r1.trans r2.symm
end
end Go.Proofs.YtbmbhfghpidggaaDoor
namespace Go.Proofs.YtbmbhfghpidggaaDoor
set_option linter.unusedVariables false
set_option linter.unusedSimpArgs false
set_option maxHeartbeats 2000000
set_option maxRecDepth 20000
open Wk
def vc_euf_Graph_path (p1:Addr) (x1:Int) (K:Option Addr→Nat→Nat→World→Prop) (w:World):Prop:=
 ∀(p2:Addr) (w1:World),New w (.cells #[(.int .i64 x1)] T.int) p2 w1→(∃I1:Nat→Int→Option Addr→Nat→Nat→World→Prop,(∃k1,I1 k1 x1 (some p2) 1 1 w1)∧∀k1 (x2:Int) (A2:Option Addr) (n2 c2:Nat) (w2:World),I1 k1 x2 A2 n2 c2 w2→(∃A3 n3 c3,w2.cell? (p1.add 7)=some (.slice A3 n3 c3)∧0≤x2∧x2<(n3:Int)∧∃a1,A3=some a1∧∃x3,w2.cell? ((a1.add (x2.toNat*5)).add 0)=some (.int .i64 x3)∧(0≤x3→(∃A4 n4 c4,w2.cell? (p1.add 7)=some (.slice A4 n4 c4)∧0≤x2∧x2<(n4:Int)∧∃a2,A4=some a2∧∃x4,w2.cell? ((a2.add (x2.toNat*5)).add 0)=some (.int .i64 x4)∧∀(p3:Addr) (w3:World),New w2 (.cells #[(.int .i64 x4)] T.int) p3 w3→(∃(A5:Option Addr) (n5 c5:Nat) (w4:World),(Builtin.append_ #[T.sl_int,T.sl_int] T.sl_int #[(.slice A2 n2 c2),(.slice (some p3) 1 1)]).run P w3= .ok (.slice A5 n5 c5) w4∧(∃k2,k2<k1∧I1 k2 x4 A5 n5 c5 w4))))∧(¬(0≤x3)→(K A2 n2 c2 w2))))
theorem ok_euf_Graph_path (p1:Addr) (x1:Int) (K:Option Addr→Nat→Nat→World→Prop) (w:World) (H:vc_euf_Graph_path p1 x1 K w):Calls P F.euf_Graph_path #[(.pointer (some p1)),(.int .i64 x1)] w (Ret fun v w'=>∃A1 n1 c1,v=(.slice A1 n1 c1)∧K A1 n1 c1 w'):=by
 unfold vc_euf_Graph_path at H;refine calls_of (P:=P) Tryd.func50 rfl [(0,(.pointer (some p1))),(1,(.int .i64 x1))] 30 rfl rfl (aa rfl (aa rfl az)) (cw_seq (cw_region (ag rfl (sl_nil (nc (kp 0 rfl (kp 1 rfl zz)) (cw_seq (cw_region (mv rfl (sl_new (f:=(fun p=> .slice (some p) 1 1)) rfl rfl (wanted_none rfl) (fun a ha=>x_buildSlice (u:= .slice (some ⟨_,0,none⟩) 1 1) (w':=World.alloc _ (.cells #[(.int .i64 x1)] T.int)) (qs:=[(0,(.int .i64 x1))]) (by simp only[List.map_cons,List.map_nil,ha.ev (x:=(.tmp 6)) rfl]) (by kernel_rfl)) ?_)))))))));intro p2 w1 hN;replace H:=H _ _ hN;refine ag rfl (sl_nil (nc (kp 0 rfl (kp 1 rfl (kp 5 rfl zz))) (cw_seq (cw_block ?_))));obtain⟨I1,⟨k1,hi⟩,H⟩:=H;refine cw_loop (fun k1 a w'=>∃x2,∃A2 n2 c2,Ok 30 [(0,(.pointer (some p1))),(1,(.int .i64 x2)),(5,(.slice A2 n2 c2))] a∧I1 k1 x2 A2 n2 c2 w') (fun a ha=>⟨k1,x1,some p2,1,1,ha.weaken (sub.cons rfl (sub.cons rfl (sub.cons rfl (sub.nil)))),hi⟩) ?_;rintro k1 a w2 ⟨x2,A2,n2,c2,ha,hI⟩;replace H:=H k1 x2 A2 n2 c2 w2 hI;refine(?_:CW _ _ _ 30 [(0,(.pointer (some p1))),(1,(.int .i64 x2)),(5,(.slice A2 n2 c2))] _) a ha;refine cw_seq (cw_seq (cw_region (mv rfl (nk rfl (fa rfl (TF.fld_euf_Graph_4 _ _) ?_)))));obtain⟨A3,n3,c3,h1,H⟩:=H;refine ld rfl (i_load1 TF.agg_sl_euf_edge h1) (mv rfl ?_);obtain⟨h2,h3,a1,e1,H⟩:=H;refine ix rfl rfl (i_index TF.elem_sl_euf_edge TF.size_euf_edge e1 h2 h3) (fa rfl (TF.fld_euf_edge_0 _ _) ?_);obtain⟨x3,h4,H⟩:=H;refine ld rfl (i_load1 TF.agg_int h4) (bo rfl rfl o_geq (sl_nil (nc (kp 0 rfl (kp 1 rfl (kp 5 rfl (kp 16 rfl zz)))) ?_)));refine cw_cond_p rfl (fun hb=> ?_) (fun hb=> ?_)
 ·replace H:=H.1 hb;refine cw_skip (nc (kp 0 rfl (kp 1 rfl (kp 5 rfl zz))) (cw_block (cw_seq (cw_region (mv rfl (nk rfl (fa rfl (TF.fld_euf_Graph_4 _ _) ?_)))))));obtain⟨A4,n4,c4,h5,H⟩:=H;refine ld rfl (i_load1 TF.agg_sl_euf_edge h5) (mv rfl ?_);obtain⟨h6,h7,a2,e2,H⟩:=H;refine ix rfl rfl (i_index TF.elem_sl_euf_edge TF.size_euf_edge e2 h6 h7) (fa rfl (TF.fld_euf_edge_0 _ _) ?_);obtain⟨x4,h8,H⟩:=H;refine ld rfl (i_load1 TF.agg_int h8) (ag rfl (sl_nil (nc (kp 0 rfl (kp 1 rfl (kp 5 rfl zz))) (cw_region (mv rfl (mv rfl (sl_new (f:=(fun p=> .slice (some p) 1 1)) rfl rfl (wanted_none rfl) (fun a ha=>x_buildSlice (u:= .slice (some ⟨_,0,none⟩) 1 1) (w':=World.alloc _ (.cells #[(.int .i64 x4)] T.int)) (qs:=[(0,(.int .i64 x4))]) (by simp only[List.map_cons,List.map_nil,ha.ev (x:=(.tmp 26)) rfl]) (by kernel_rfl)) ?_)))))));intro p3 w3 hN;replace H:=H _ _ hN;obtain⟨A5,n5,c5,w4,h9,H⟩:=H;refine sv rfl rfl (fun a ha=>x_builtin (ha.evs rfl) (fun _=>bi_append h9)) (ag rfl (sl_nil (nx_block ?_)));obtain⟨k2,hk,H⟩:=H;exact nx_to fun a ha=>⟨k2,hk,x4,A5,n5,c5,ha.weaken (cn rfl (cn rfl (cn rfl zz))),H⟩
 ·replace H:=H.2 hb;exact cw_exit (nx_exit_then (nx_exit_then (nx_exit_hit (nc (kp 5 rfl zz) (cw_seq (cw_region (mv rfl (ag rfl (sl_nil (nc (kp 4 rfl zz) (cw_ret (nx_body_ret (res1 rfl rfl) ⟨_,rfl,_,_,_,rfl,H⟩))))))))))))
def vc_euf_Graph_between_J1 (n5:Nat) (c5:Nat) (n6:Nat) (c6:Nat) (k1:Nat) (I1:Nat→Option Addr→Nat→Nat→Option Addr→Nat→Nat→World→Prop) (A5:Option Addr) (A6:Option Addr) (K:Option Addr→Nat→Nat→Option Addr→Nat→Nat→World→Prop) (b1:Bool) (w5:World):Prop:=
 (b1=true→(0≤IntKind.wrap .i64 ((n5:Int)-1)∧IntKind.wrap .i64 ((n5:Int)-1)≤(c5:Int)∧0≤IntKind.wrap .i64 ((n6:Int)-1)∧IntKind.wrap .i64 ((n6:Int)-1)≤(c6:Int)∧∀w8,Drawn w5 w8→(∃k2,k2<k1∧I1 k2 A5 ((IntKind.wrap .i64 ((n5:Int)-1)).toNat) c5 A6 ((IntKind.wrap .i64 ((n6:Int)-1)).toNat) c6 w8)))∧(b1=false→(K A5 n5 c5 A6 n6 c6 w5))
def vc_euf_Graph_between (p1:Addr) (x1:Int) (x2:Int) (K:Option Addr→Nat→Nat→Option Addr→Nat→Nat→World→Prop) (w:World):Prop:=
 Calls P F.euf_Graph_path #[(.pointer (some p1)),(.int .i64 x1)] w (Ret fun v1 w1=>∃A3 n3 c3,v1=(.slice A3 n3 c3)∧Calls P F.euf_Graph_path #[(.pointer (some p1)),(.int .i64 x2)] w1 (Ret fun v2 w2=>∃A4 n4 c4,v2=(.slice A4 n4 c4)∧∃I1:Nat→Option Addr→Nat→Nat→Option Addr→Nat→Nat→World→Prop,(∃k1,I1 k1 A3 n3 c3 A4 n4 c4 w2)∧∀k1 (A5:Option Addr) (n5 c5:Nat) (A6:Option Addr) (n6 c6:Nat) (w3:World),I1 k1 A5 n5 c5 A6 n6 c6 w3→((0<(n5:Int)→((0<(n6:Int)→(0≤IntKind.wrap .i64 ((n5:Int)-1)∧IntKind.wrap .i64 ((n5:Int)-1)<(n5:Int)∧∃a1,A5=some a1∧∃x3,w3.cell? (a1.add ((IntKind.wrap .i64 ((n5:Int)-1)).toNat*1))=some (.int .i64 x3)∧0≤IntKind.wrap .i64 ((n6:Int)-1)∧IntKind.wrap .i64 ((n6:Int)-1)<(n6:Int)∧∃a2,A6=some a2∧∃x4,w3.cell? (a2.add ((IntKind.wrap .i64 ((n6:Int)-1)).toNat*1))=some (.int .i64 x4)∧∀w4,Drawn w3 w4→((vc_euf_Graph_between_J1 n5 c5 n6 c6 k1 I1 A5 A6 K) (decide (x3=x4)) w4)))∧(¬(0<(n6:Int))→(∀w6,Drawn w3 w6→((vc_euf_Graph_between_J1 n5 c5 n6 c6 k1 I1 A5 A6 K) false w6)))))∧(¬(0<(n5:Int))→(∀w7,Drawn w3 w7→((vc_euf_Graph_between_J1 n5 c5 n6 c6 k1 I1 A5 A6 K) false w7))))))
theorem ok_euf_Graph_between (p1:Addr) (x1:Int) (x2:Int) (K:Option Addr→Nat→Nat→Option Addr→Nat→Nat→World→Prop) (w:World) (H:vc_euf_Graph_between p1 x1 x2 K w):Calls P F.euf_Graph_between #[(.pointer (some p1)),(.int .i64 x1),(.int .i64 x2)] w (Ret fun v w'=>∃A1 n1 c1,∃A2 n2 c2,v=(.tuple #[(.slice A1 n1 c1),(.slice A2 n2 c2)])∧K A1 n1 c1 A2 n2 c2 w'):=by
 unfold vc_euf_Graph_between at H;refine calls_of (P:=P) Tryd.func35 rfl [(0,(.pointer (some p1))),(1,(.int .i64 x1)),(2,(.int .i64 x2))] 49 rfl rfl (aa rfl (aa rfl (aa rfl az))) (cw_seq (cw_region (ag rfl (ag rfl (sl_nil (nc (kp 0 rfl (kp 1 rfl (kp 2 rfl zz))) (cw_seq (cw_region (mv rfl (mv rfl (sl_call rfl rfl (wanted_none rfl) (fun a ha=>x_call0 (ha.ev rfl) (ha.evs rfl) FF.callable_euf_Graph_path) H ?_)))))))))));rintro _ w1 ⟨A3,n3,c3,rfl,H⟩;refine mv rfl (mv rfl (sl_call rfl rfl (wanted_none rfl) (fun a ha=>x_call0 (ha.ev rfl) (ha.evs rfl) FF.callable_euf_Graph_path) H ?_));rintro _ w2 ⟨A4,n4,c4,rfl,H⟩;refine ag rfl (ag rfl (sl_nil (nc (kp 6 rfl (kp 7 rfl zz)) (cw_seq (cw_block ?_)))));obtain⟨I1,⟨k1,hi⟩,H⟩:=H;refine cw_loop (fun k1 a w'=>∃A5 n5 c5,∃A6 n6 c6,Ok 49 [(6,(.slice A5 n5 c5)),(7,(.slice A6 n6 c6))] a∧I1 k1 A5 n5 c5 A6 n6 c6 w') (fun a ha=>⟨k1,A3,n3,c3,A4,n4,c4,ha.weaken (sub.cons rfl (sub.cons rfl (sub.nil))),hi⟩) ?_;rintro k1 a w3 ⟨A5,n5,c5,A6,n6,c6,ha,hI⟩;replace H:=H k1 A5 n5 c5 A6 n6 c6 w3 hI;refine(?_:CW _ _ _ 49 [(6,(.slice A5 n5 c5)),(7,(.slice A6 n6 c6))] _) a ha;refine cw_seq ?_;refine cw_join (fun a w=>∃b1,Ok 49 [(6,(.slice A5 n5 c5)),(7,(.slice A6 n6 c6)),(36,(.bool b1))] a∧vc_euf_Graph_between_J1 n5 c5 n6 c6 k1 I1 A5 A6 K b1 w) ?_ ?_
 ·rintro a w5 ⟨b1,ha,H⟩;unfold vc_euf_Graph_between_J1 at H;refine(?_:CW _ _ _ 49 [(6,(.slice A5 n5 c5)),(7,(.slice A6 n6 c6)),(36,(.bool b1))] _) a ha;refine cw_cond rfl (fun hb=> ?_) (fun hb=> ?_)
  ·replace H:=H.1 hb;refine cw_skip (nc (kp 6 rfl (kp 7 rfl zz)) (cw_block ?_));refine cw_any_drawn follows [0,1,2,3,4,5,6,7,8,9,10,11] [] 12 rfl rfl (by kernel_rfl) (fun _ _ d _ _ h=>by cases d<;>exact h) (fun cm W D=> ?_);refine pmvd 0 cm rfl rfl D fun _ D=>(pmvd 1 cm rfl rfl D fun _ D=>(pvd 2 cm rfl rfl rfl (fun w' a ha=>x_builtin (ha.evs rfl) (fun _=>l_slice TF.isslice_sl_int)) D fun _ D=>(pvd 3 cm rfl rfl rfl (fun w' a ha=>x_binOp (ha.ev rfl) (ha.ev rfl) o_sub) D fun _ D=> ?_)));obtain⟨h7,h8,H⟩:=H;refine pvd 4 cm rfl rfl rfl (fun w' a ha=>x_slice (ha.ev rfl) rfl (om_some (ha.ev rfl)) rfl (i_slice_h TF.elem_sl_int TF.size_int h7 h8)) D fun _ D=>(pmvd 5 cm rfl rfl D fun _ D=>(pmvd 6 cm rfl rfl D fun _ D=>(pvd 7 cm rfl rfl rfl (fun w' a ha=>x_builtin (ha.evs rfl) (fun _=>l_slice TF.isslice_sl_int)) D fun _ D=>(pvd 8 cm rfl rfl rfl (fun w' a ha=>x_binOp (ha.ev rfl) (ha.ev rfl) o_sub) D fun _ D=> ?_))));obtain⟨h11,h12,H⟩:=H;refine pvd 9 cm rfl rfl rfl (fun w' a ha=>x_slice (ha.ev rfl) rfl (om_some (ha.ev rfl)) rfl (i_slice_h TF.elem_sl_int TF.size_int h11 h12)) D fun _ D=>(pagd 10 cm rfl rfl D fun _ D=>(pagd 11 cm rfl rfl D fun _ D=>(an_end (by kernel_rfl) D ?_)));intro w8 D;replace H:=H _ D;clear D cm;refine nx_block ?_;obtain⟨k2,hk,H⟩:=H;exact nx_to fun a ha=>⟨k2,hk,A5,(IntKind.wrap .i64 ((n5:Int)-1)).toNat,c5,A6,(IntKind.wrap .i64 ((n6:Int)-1)).toNat,c6,ha.weaken (cn rfl (cn rfl zz)),H⟩
  ·replace H:=H.2 hb;exact cw_exit (nx_exit_then (nx_exit_then (nx_exit_hit (nc (kp 6 rfl (kp 7 rfl zz)) (cw_seq (cw_region (mv rfl (mv rfl (ag rfl (ag rfl (sl_nil (nc (kp 6 rfl (kp 7 rfl zz)) (cw_ret (nx_body_ret (res2 rfl rfl rfl) ⟨_,rfl,_,_,_,_,_,_,rfl,H⟩))))))))))))))
 ·refine cw_any_drawn follows [0,1,2,3,4,5,6,7,8,9,10,11,12,13,14,15,16,17,18,19,20,21,22] [14,20] 23 rfl rfl (by kernel_rfl) (fun _ _ d _ _ h=>by cases d<;>exact h) (fun cm W D=> ?_);refine pmv 0 cm rfl rfl D W fun _ D W=>(pv 1 cm rfl rfl rfl (fun w' a ha=>x_builtin (ha.evs rfl) (fun _=>l_slice TF.isslice_sl_int)) D W fun _ D W=>(pv 2 cm rfl rfl rfl (fun w' a ha=>x_binOp (ha.ev rfl) (ha.ev rfl) o_gtr) D W fun _ D W=> ?_));rcases Classical.em (0<(n5:Int)) with hb|hb
  ·replace H:=H.1 hb;refine pv 3 cm rfl rfl rfl (fun w' a ha=>o_t (x_move (ha.ev rfl)) hb) D W fun _ D W=>(pmvg 4 cm rfl rfl rfl rfl D W fun _ D W=>(pvg 5 cm rfl rfl rfl rfl rfl (fun w' a ha=>x_builtin (ha.evs rfl) (fun _=>l_slice TF.isslice_sl_int)) D W fun _ D W=>(pvg 6 cm rfl rfl rfl rfl rfl (fun w' a ha=>x_binOp (ha.ev rfl) (ha.ev rfl) o_gtr) D W fun _ D W=>(ppt 7 cm rfl rfl rfl D W fun _ D W=> ?_))));rcases Classical.em (0<(n6:Int)) with hb|hb
   ·replace H:=H.1 hb;refine pv 8 cm rfl rfl rfl (fun w' a ha=>o_t (x_move (ha.ev rfl)) hb) D W fun _ D W=>(pmvg 9 cm rfl rfl rfl rfl D W fun _ D W=>(pmvg 10 cm rfl rfl rfl rfl D W fun _ D W=>(pvg 11 cm rfl rfl rfl rfl rfl (fun w' a ha=>x_builtin (ha.evs rfl) (fun _=>l_slice TF.isslice_sl_int)) D W fun _ D W=>(pvg 12 cm rfl rfl rfl rfl rfl (fun w' a ha=>x_binOp (ha.ev rfl) (ha.ev rfl) o_sub) D W fun _ D W=> ?_))));obtain⟨h1,h2,a1,e1,H⟩:=H;refine pixg 13 cm rfl rfl rfl rfl rfl (i_index TF.elem_sl_int TF.size_int e1 h1 h2) D W fun _ D W=> ?_;obtain⟨x3,h3,H⟩:=H;refine vlg 14 cm rfl rfl rfl rfl (fun hw=>(i_load1 TF.agg_int ((hw.cell _).trans h3))) D W fun _ D W=>(pmvg 15 cm rfl rfl rfl rfl D W fun _ D W=>(pmvg 16 cm rfl rfl rfl rfl D W fun _ D W=>(pvg 17 cm rfl rfl rfl rfl rfl (fun w' a ha=>x_builtin (ha.evs rfl) (fun _=>l_slice TF.isslice_sl_int)) D W fun _ D W=>(pvg 18 cm rfl rfl rfl rfl rfl (fun w' a ha=>x_binOp (ha.ev rfl) (ha.ev rfl) o_sub) D W fun _ D W=> ?_))));obtain⟨h4,h5,a2,e2,H⟩:=H;refine pixg 19 cm rfl rfl rfl rfl rfl (i_index TF.elem_sl_int TF.size_int e2 h4 h5) D W fun _ D W=> ?_;obtain⟨x4,h6,H⟩:=H;refine vlg 20 cm rfl rfl rfl rfl (fun hw=>(i_load1 TF.agg_int ((hw.cell _).trans h6))) D W fun _ D W=>(pvgd 21 cm rfl rfl rfl rfl rfl (fun w' a ha=>x_binOp (ha.ev rfl) (ha.ev rfl) o_eql) D fun _ D=>(pptd 22 cm rfl rfl rfl D fun _ D=>(an_end (by kernel_rfl) D ?_)));intro w4 D;replace H:=H _ D;clear D cm;exact nx_to fun a ha=>⟨(decide (x3=x4)),ha.weaken (cn rfl (cn rfl (cn rfl zz))),H⟩
   ·replace H:=H.2 hb;refine pv 8 cm rfl rfl rfl (fun w' a ha=>o_f (x_move (ha.ev rfl)) hb) D W fun _ D W=>(ps 9 cm rfl rfl rfl rfl rfl D W fun _ D W=>(ps 10 cm rfl rfl rfl rfl rfl D W fun _ D W=>(ps 11 cm rfl rfl rfl rfl rfl D W fun _ D W=>(ps 12 cm rfl rfl rfl rfl rfl D W fun _ D W=>(ps 13 cm rfl rfl rfl rfl rfl D W fun _ D W=>(ps 14 cm rfl rfl rfl rfl rfl D W fun _ D W=>(ps 15 cm rfl rfl rfl rfl rfl D W fun _ D W=>(ps 16 cm rfl rfl rfl rfl rfl D W fun _ D W=>(ps 17 cm rfl rfl rfl rfl rfl D W fun _ D W=>(ps 18 cm rfl rfl rfl rfl rfl D W fun _ D W=>(ps 19 cm rfl rfl rfl rfl rfl D W fun _ D W=>(ps 20 cm rfl rfl rfl rfl rfl D W fun _ D W=>(psd 21 cm rfl rfl rfl rfl rfl D fun _ D=>(ppfd 22 cm rfl rfl rfl D fun _ D=>(an_end (by kernel_rfl) D ?_)))))))))))))));intro w6 D;replace H:=H _ D;clear D cm;exact nx_to fun a ha=>⟨false,ha.weaken (cn rfl (cn rfl (cn rfl zz))),H⟩
  ·replace H:=H.2 hb;refine pv 3 cm rfl rfl rfl (fun w' a ha=>o_f (x_move (ha.ev rfl)) hb) D W fun _ D W=>(ps 4 cm rfl rfl rfl rfl rfl D W fun _ D W=>(ps 5 cm rfl rfl rfl rfl rfl D W fun _ D W=>(ps 6 cm rfl rfl rfl rfl rfl D W fun _ D W=>(ppf 7 cm rfl rfl rfl D W fun _ D W=>(pmv 8 cm rfl rfl D W fun _ D W=>(ps 9 cm rfl rfl rfl rfl rfl D W fun _ D W=>(ps 10 cm rfl rfl rfl rfl rfl D W fun _ D W=>(ps 11 cm rfl rfl rfl rfl rfl D W fun _ D W=>(ps 12 cm rfl rfl rfl rfl rfl D W fun _ D W=>(ps 13 cm rfl rfl rfl rfl rfl D W fun _ D W=>(ps 14 cm rfl rfl rfl rfl rfl D W fun _ D W=>(ps 15 cm rfl rfl rfl rfl rfl D W fun _ D W=>(ps 16 cm rfl rfl rfl rfl rfl D W fun _ D W=>(ps 17 cm rfl rfl rfl rfl rfl D W fun _ D W=>(ps 18 cm rfl rfl rfl rfl rfl D W fun _ D W=>(ps 19 cm rfl rfl rfl rfl rfl D W fun _ D W=>(ps 20 cm rfl rfl rfl rfl rfl D W fun _ D W=>(psd 21 cm rfl rfl rfl rfl rfl D fun _ D=>(ppfd 22 cm rfl rfl rfl D fun _ D=>(an_end (by kernel_rfl) D ?_))))))))))))))))))));intro w7 D;replace H:=H _ D;clear D cm;exact nx_to fun a ha=>⟨false,ha.weaken (cn rfl (cn rfl (cn rfl zz))),H⟩
def vc_euf_Graph_tags_J1 (k3:Nat) (I3:Nat→Option Addr→Nat→Nat→Int→World→Prop) (x16:Int) (A17:Option Addr) (n17 c17:Nat) (w20:World):Prop:=
 ∃k4,k4<k3∧I3 k4 A17 n17 c17 (IntKind.wrap .i64 (x16+1)) w20
def vc_euf_Graph_tags_J2 (k2:Nat) (I2:Nat→Option Addr→Nat→Nat→Int→World→Prop) (x7:Int) (A9:Option Addr) (n9 c9:Nat) (w10:World):Prop:=
 ∃k5,k5<k2∧I2 k5 A9 n9 c9 (IntKind.wrap .i64 (x7+1)) w10
def vc_euf_Graph_tags (p1:Addr) (x1:Int) (x2:Int) (m1:Option Nat) (K:World→Prop) (w:World):Prop:=
 ∃A1 n1 c1,w.cell? (p1.add 4)=some (.slice A1 n1 c1)∧∃(A2:Option Addr) (n2 c2:Nat) (w1:World),(Instr.makeSlice T.sl_bool (.int .i64 (n1:Int)) (.int .i64 (n1:Int))).run P w= .ok (.slice A2 n2 c2) w1∧(∀(p2:Addr) (w2:World),New w1 (.cells #[(.int .i64 x1),(.int .i64 x2)] T.api_Both) p2 w2→(∃I1:Nat→Option Addr→Nat→Nat→World→Prop,(∃k1,I1 k1 (some p2) 1 1 w2)∧∀k1 (A3:Option Addr) (n3 c3:Nat) (w3:World),I1 k1 A3 n3 c3 w3→((0<(n3:Int)→(0≤IntKind.wrap .i64 ((n3:Int)-1)∧IntKind.wrap .i64 ((n3:Int)-1)<(n3:Int)∧∃a1,A3=some a1∧∃x3,∃x4,CellsAt w3 (a1.add ((IntKind.wrap .i64 ((n3:Int)-1)).toNat*2)) [(.int .i64 x3),(.int .i64 x4)]∧∀(p3:Addr) (w4:World),New w3 (.cells #[(.int .i64 0),(.int .i64 0)] T.api_Both) p3 w4→(Soft w4 p3 2∧∀w5,w5=setCellsAt w4 p3 [(.int .i64 x3),(.int .i64 x4)]→(0≤IntKind.wrap .i64 ((n3:Int)-1)∧IntKind.wrap .i64 ((n3:Int)-1)≤(c3:Int)∧∃x5,w5.cell? (p3.add 0)=some (.int .i64 x5)∧∃x6,w5.cell? (p3.add 1)=some (.int .i64 x6)∧Calls P F.euf_Graph_between #[(.pointer (some p1)),(.int .i64 x5),(.int .i64 x6)] w5 (Ret fun v1 w6=>∃A4 n4 c4,∃A5 n5 c5,v1=(.tuple #[(.slice A4 n4 c4),(.slice A5 n5 c5)])∧Calls P F.slices_Clone_sl_int_int #[(.slice A4 n4 c4)] w6 (Ret fun v2 w7=>∃A6 n6 c6,v2=(.slice A6 n6 c6)∧∃(A7:Option Addr) (n7 c7:Nat) (w8:World),(Builtin.append_ #[T.sl_int,T.sl_int] T.sl_int #[(.slice A6 n6 c6),(.slice A5 n5 c5)]).run P w7= .ok (.slice A7 n7 c7) w8∧(∃I2:Nat→Option Addr→Nat→Nat→Int→World→Prop,(∃k2,I2 k2 A3 ((IntKind.wrap .i64 ((n3:Int)-1)).toNat) c3 0 w8)∧∀k2 (A8:Option Addr) (n8 c8:Nat) (x7:Int) (w9:World),I2 k2 A8 n8 c8 x7 w9→((x7<(n7:Int)→(0≤x7∧x7<(n7:Int)∧∃a2,A7=some a2∧∃x8,w9.cell? (a2.add (x7.toNat*1))=some (.int .i64 x8)∧0≤x8∧x8<(n2:Int)∧∃a3,A2=some a3∧∃b1,w9.cell? (a3.add (x8.toNat*1))=some (.bool b1)∧(b1=true→((vc_euf_Graph_tags_J2 k2 I2 x7) A8 n8 c8 w9))∧(b1=false→(0≤x8∧x8<(n2:Int)∧∃a4,A2=some a4∧(∃u1,w9.cell? (a4.add (x8.toNat*1))=some u1)∧w9.frozen? (a4.add (x8.toNat*1))=false∧∀w11,w11=w9.setCell (a4.add (x8.toNat*1)) (.bool true)→(∃A10 n10 c10,w11.cell? (p1.add 7)=some (.slice A10 n10 c10)∧0≤x8∧x8<(n10:Int)∧∃a5,A10=some a5∧∃x9,∃b2,∃x10,∃x11,∃x12,CellsAt w11 (a5.add (x8.toNat*5)) [(.int .i64 x9),(.bool b2),(.int .i64 x10),(.int .i64 x11),(.int .i64 x12)]∧∀(p4:Addr) (w12:World),New w11 (.cells #[(.int .i64 0),(.bool false),(.int .i64 0),(.int .i64 0),(.int .i64 0)] T.euf_edge) p4 w12→(Soft w12 p4 5∧∀w13,w13=setCellsAt w12 p4 [(.int .i64 x9),(.bool b2),(.int .i64 x10),(.int .i64 x11),(.int .i64 x12)]→(∃b3,w13.cell? (p4.add 1)=some (.bool b3)∧((!b3)=true→(∃x13,w13.cell? (p4.add 4)=some (.int .i64 x13)∧∃x14,(Instr.lookup T.map_int_int (.map m1) (.int .i64 x13) false).run P w13= .ok (.int .i64 x14) w13∧∃w14:World,(Instr.mapUpdate T.map_int_int (.map m1) (.int .i64 x13) (.int .i64 (IntKind.wrap .i64 (x14+1)))).run P w13= .ok () w14∧((vc_euf_Graph_tags_J2 k2 I2 x7) A8 n8 c8 w14)))∧((!b3)=false→(∃A11 n11 c11,w13.cell? (p1.add 4)=some (.slice A11 n11 c11)∧∃x15,w13.cell? (p4.add 2)=some (.int .i64 x15)∧0≤x15∧x15<(n11:Int)∧∃a6,A11=some a6∧∃A12 n12 c12,w13.cell? ((a6.add (x15.toNat*2)).add 1)=some (.slice A12 n12 c12)∧∀w15,Drawn w13 w15→(∃I3:Nat→Option Addr→Nat→Nat→Int→World→Prop,(∃k3,I3 k3 A8 n8 c8 0 w15)∧∀k3 (A13:Option Addr) (n13 c13:Nat) (x16:Int) (w16:World),I3 k3 A13 n13 c13 x16 w16→((x16<(n12:Int)→(0≤x16∧x16<(n12:Int)∧∃a7,A12=some a7∧∃x17,w16.cell? (a7.add (x16.toNat*1))=some (.int .i64 x17)∧∃A14 n14 c14,w16.cell? (p1.add 4)=some (.slice A14 n14 c14)∧∃x18,w16.cell? (p4.add 3)=some (.int .i64 x18)∧0≤x18∧x18<(n14:Int)∧∃a8,A14=some a8∧∃A15 n15 c15,w16.cell? ((a8.add (x18.toNat*2)).add 1)=some (.slice A15 n15 c15)∧0≤x16∧x16<(n15:Int)∧∃a9,A15=some a9∧∃x19,w16.cell? (a9.add (x16.toNat*1))=some (.int .i64 x19)∧∀w22,Drawn w16 w22→∀(p5:Addr) (w17:World),New w22 (.cells #[(.int .i64 x17),(.int .i64 x19)] T.api_Both) p5 w17→(∀w21,Drawn w17 w21→∃(A16:Option Addr) (n16 c16:Nat) (w18:World),(Builtin.append_ #[T.sl_api_Both,T.sl_api_Both] T.sl_api_Both #[(.slice A13 n13 c13),(.slice (some p5) 1 1)]).run P w21= .ok (.slice A16 n16 c16) w18∧(∀w19,Drawn w18 w19→((vc_euf_Graph_tags_J1 k3 I3 x16) A16 n16 c16 w19)))))∧(¬(x16<(n12:Int))→((vc_euf_Graph_tags_J2 k2 I2 x7) A13 n13 c13 w16)))))))))))))∧(¬(x7<(n7:Int))→(∃k6,k6<k1∧I1 k6 A8 n8 c8 w9))))))))))∧(¬(0<(n3:Int))→(K w3)))))
theorem ok_euf_Graph_tags (p1:Addr) (x1:Int) (x2:Int) (m1:Option Nat) (K:World→Prop) (w:World) (H:vc_euf_Graph_tags p1 x1 x2 m1 K w):Calls P F.euf_Graph_tags #[(.pointer (some p1)),(.int .i64 x1),(.int .i64 x2),(.map m1)] w (Ret fun v w'=>v=(.tuple #[])∧K w'):=by
 unfold vc_euf_Graph_tags at H;refine calls_of (P:=P) Tryd.func30 rfl [(0,(.pointer (some p1))),(1,(.int .i64 x1)),(2,(.int .i64 x2)),(3,(.map m1))] 116 rfl rfl (aa rfl (aa rfl (aa rfl (aa rfl az)))) (cw_seq (cw_region (mv rfl (nk rfl (fa rfl (TF.fld_euf_Graph_1 _ _) ?_)))));obtain⟨A1,n1,c1,h1,H⟩:=H;refine ld rfl (i_load1 TF.agg_sl_api_Flat h1) (sv rfl rfl (fun a ha=>x_builtin (ha.evs rfl) (fun _=>l_slice TF.isslice_sl_api_Flat)) ?_);obtain⟨A2,n2,c2,w1,h2,H⟩:=H;refine sv rfl rfl (fun a ha=>x_makeSlice (ha.ev rfl) (ha.ev rfl) h2) (ag rfl (sl_nil (nc (kp 0 rfl (kp 1 rfl (kp 2 rfl (kp 3 rfl (kp 8 rfl zz))))) (cw_seq (cw_region (mv rfl (mv rfl (sv rfl rfl (fun a ha=>x_buildP (u:=(.agg #[(.int .i64 x1),(.int .i64 x2)])) (qs:=[(0,(.int .i64 x1)),(1,(.int .i64 x2))]) (by simp only[List.map_cons,List.map_nil,ha.ev (x:=(.tmp 24)) rfl,ha.ev (x:=(.tmp 25)) rfl]) (by kernel_rfl)) (sl_new (f:=(fun p=> .slice (some p) 1 1)) rfl rfl (wanted_none rfl) (fun a ha=>x_buildSlice (u:= .slice (some ⟨_,0,none⟩) 1 1) (w':=World.alloc _ (.cells #[(.int .i64 x1),(.int .i64 x2)] T.api_Both)) (qs:=[(0,(.agg #[(.int .i64 x1),(.int .i64 x2)]))]) (by simp only[List.map_cons,List.map_nil,ha.ev (x:=(.tmp 26)) rfl]) (by kernel_rfl)) ?_)))))))));intro p2 w2 hN;replace H:=H _ _ hN;refine ag rfl (sl_nil (nc (kp 0 rfl (kp 3 rfl (kp 8 rfl (kp 9 rfl zz)))) (cw_block ?_)));obtain⟨I1,⟨k1,hi⟩,H⟩:=H;refine cw_loop (fun k1 a w'=>∃A3 n3 c3,Ok 116 [(0,(.pointer (some p1))),(3,(.map m1)),(8,(.slice A2 n2 c2)),(9,(.slice A3 n3 c3))] a∧I1 k1 A3 n3 c3 w') (fun a ha=>⟨k1,some p2,1,1,ha.weaken (sub.cons rfl (sub.cons rfl (sub.cons rfl (sub.cons rfl (sub.nil))))),hi⟩) ?_;rintro k1 a w3 ⟨A3,n3,c3,ha,hI⟩;replace H:=H k1 A3 n3 c3 w3 hI;refine(?_:CW _ _ _ 116 [(0,(.pointer (some p1))),(3,(.map m1)),(8,(.slice A2 n2 c2)),(9,(.slice A3 n3 c3))] _) a ha;refine cw_seq (cw_seq (cw_region (mv rfl (sv rfl rfl (fun a ha=>x_builtin (ha.evs rfl) (fun _=>l_slice TF.isslice_sl_api_Both)) (bo rfl rfl o_gtr (sl_nil (nc (kp 0 rfl (kp 3 rfl (kp 8 rfl (kp 9 rfl (kp 30 rfl zz))))) ?_)))))));refine cw_cond_p rfl (fun hb=> ?_) (fun hb=> ?_)
 ·replace H:=H.1 hb;refine cw_skip (nc (kp 0 rfl (kp 3 rfl (kp 8 rfl (kp 9 rfl zz)))) (cw_block (cw_seq (cw_region (mv rfl (mv rfl (sv rfl rfl (fun a ha=>x_builtin (ha.evs rfl) (fun _=>l_slice TF.isslice_sl_api_Both)) (bo rfl rfl o_sub ?_))))))));obtain⟨h3,h4,a1,e1,H⟩:=H;refine ix rfl rfl (i_index TF.elem_sl_api_Both TF.size_api_Both e1 h3 h4) ?_;obtain⟨x3,x4,h5,H⟩:=H;refine ld rfl (i_loadN (vs:=[(.int .i64 x3),(.int .i64 x4)]) TF.agg_api_Both TF.size_api_Both h5) (sl_new (f:=(fun p=> .pointer (some p))) rfl rfl (wanted_none rfl) (fun a ha=>x_alloc (i_alloc TF.zero_api_Both)) ?_);intro p3 w4 hN;replace H:=H _ _ hN;obtain⟨h7,H⟩:=H;refine sl_un rfl (wanted_none rfl) (fun a ha=>x_store (ha.ev rfl) (ha.ev rfl) (i_storeN TF.size_api_Both (by simp[Value.oneCell']) h7)) ?_;intro w5 hw;replace H:=H _ hw;clear hw;refine sl_nil (nc (kp 0 rfl (kp 3 rfl (kp 8 rfl (kp 9 rfl (kp 10 rfl zz))))) (cw_seq (cw_region (mv rfl (mv rfl (sv rfl rfl (fun a ha=>x_builtin (ha.evs rfl) (fun _=>l_slice TF.isslice_sl_api_Both)) (bo rfl rfl o_sub ?_)))))));obtain⟨h8,h9,H⟩:=H;refine sv rfl rfl (fun a ha=>x_slice (ha.ev rfl) rfl (om_some (ha.ev rfl)) rfl (i_slice_h TF.elem_sl_api_Both TF.size_api_Both h8 h9)) (ag rfl (sl_nil (nc (kp 0 rfl (kp 3 rfl (kp 8 rfl (kp 9 rfl (kp 10 rfl zz))))) (cw_seq (cw_region (mv rfl (fa rfl (TF.fld_api_Both_0 _ _) ?_)))))));obtain⟨x5,h12,H⟩:=H;refine ld rfl (i_load1 TF.agg_int h12) (fa rfl (TF.fld_api_Both_1 _ _) ?_);obtain⟨x6,h13,H⟩:=H;refine ld rfl (i_load1 TF.agg_int h13) (sl_call rfl rfl (wanted_none rfl) (fun a ha=>x_call0 (ha.ev rfl) (ha.evs rfl) FF.callable_euf_Graph_between) H ?_);rintro _ w6 ⟨A4,n4,c4,A5,n5,c5,rfl,H⟩;refine mv rfl (sv rfl rfl (fun a ha=>x_extract (ha.ev rfl) rfl) (sv rfl rfl (fun a ha=>x_extract (ha.ev rfl) rfl) (ag rfl (ag rfl (sl_nil (nc (kp 0 rfl (kp 3 rfl (kp 8 rfl (kp 9 rfl (kp 11 rfl (kp 12 rfl zz)))))) (cw_seq (cw_region (mv rfl (sl_call rfl rfl (wanted_none rfl) (fun a ha=>x_call0 (ha.ev rfl) (ha.evs rfl) FF.callable_slices_Clone_sl_int_int) H ?_))))))))));rintro _ w7 ⟨A6,n6,c6,rfl,H⟩;refine mv rfl ?_;obtain⟨A7,n7,c7,w8,h14,H⟩:=H;refine sv rfl rfl (fun a ha=>x_builtin (ha.evs rfl) (fun _=>bi_append h14)) (sv rfl rfl (fun a ha=>x_builtin (ha.evs rfl) (fun _=>l_slice TF.isslice_sl_int)) (mv rfl (sl_nil (nc (kp 0 rfl (kp 3 rfl (kp 8 rfl (kp 9 rfl (kp 54 rfl (kp 55 rfl (kp 56 rfl zz))))))) (cw_block ?_)))));obtain⟨I2,⟨k2,hi⟩,H⟩:=H;refine cw_loop (fun k2 a w'=>∃A8 n8 c8,∃x7,Ok 116 [(0,(.pointer (some p1))),(3,(.map m1)),(8,(.slice A2 n2 c2)),(9,(.slice A8 n8 c8)),(54,(.slice A7 n7 c7)),(55,(.int .i64 (n7:Int))),(56,(.int .i64 x7))] a∧I2 k2 A8 n8 c8 x7 w') (fun a ha=>⟨k2,A3,(IntKind.wrap .i64 ((n3:Int)-1)).toNat,c3,0,ha.weaken (sub.cons rfl (sub.cons rfl (sub.cons rfl (sub.cons rfl (sub.cons rfl (sub.cons rfl (sub.cons rfl (sub.nil)))))))),hi⟩) ?_;rintro k2 a w9 ⟨A8,n8,c8,x7,ha,hI⟩;replace H:=H k2 A8 n8 c8 x7 w9 hI;refine(?_:CW _ _ _ 116 [(0,(.pointer (some p1))),(3,(.map m1)),(8,(.slice A2 n2 c2)),(9,(.slice A8 n8 c8)),(54,(.slice A7 n7 c7)),(55,(.int .i64 (n7:Int))),(56,(.int .i64 x7))] _) a ha;refine cw_seq (cw_region (bo rfl rfl o_lss (sl_nil (nc (kp 0 rfl (kp 3 rfl (kp 8 rfl (kp 9 rfl (kp 54 rfl (kp 55 rfl (kp 56 rfl (kp 57 rfl zz)))))))) (cw_seq ?_)))));refine cw_cond_p rfl (fun hb=> ?_) (fun hb=> ?_)
  ·replace H:=H.1 hb;refine cw_skip (nc (kp 0 rfl (kp 3 rfl (kp 8 rfl (kp 9 rfl (kp 54 rfl (kp 55 rfl (kp 56 rfl zz))))))) ?_);refine cw_join (fun a w=>∃A9 n9 c9,Ok 116 [(0,(.pointer (some p1))),(3,(.map m1)),(8,(.slice A2 n2 c2)),(9,(.slice A9 n9 c9)),(54,(.slice A7 n7 c7)),(55,(.int .i64 (n7:Int))),(56,(.int .i64 x7))] a∧vc_euf_Graph_tags_J2 k2 I2 x7 A9 n9 c9 w) ?_ ?_
   ·rintro a w10 ⟨A9,n9,c9,ha,H⟩;unfold vc_euf_Graph_tags_J2 at H;refine(?_:CW _ _ _ 116 [(0,(.pointer (some p1))),(3,(.map m1)),(8,(.slice A2 n2 c2)),(9,(.slice A9 n9 c9)),(54,(.slice A7 n7 c7)),(55,(.int .i64 (n7:Int))),(56,(.int .i64 x7))] _) a ha;refine cw_region (bo rfl rfl o_add (mv rfl (sl_nil ?_)));obtain⟨k5,hk,H⟩:=H;exact nx_to fun a ha=>⟨k5,hk,A9,n9,c9,IntKind.wrap .i64 (x7+1),ha.weaken (cn rfl (cn rfl (cn rfl (cn rfl (cn rfl (cn rfl (cn rfl zz))))))),H⟩
   ·refine cw_block (cw_seq (cw_region ?_));obtain⟨h15,h16,a2,e2,H⟩:=H;refine ix rfl rfl (i_index TF.elem_sl_int TF.size_int e2 h15 h16) ?_;obtain⟨x8,h17,H⟩:=H;refine ld rfl (i_load1 TF.agg_int h17) (ag rfl (sl_nil (nc (kp 0 rfl (kp 3 rfl (kp 8 rfl (kp 9 rfl (kp 14 rfl (kp 54 rfl (kp 55 rfl (kp 56 rfl zz)))))))) (cw_seq (cw_seq (cw_region (mv rfl (mv rfl ?_))))))));obtain⟨h18,h19,a3,e3,H⟩:=H;refine ix rfl rfl (i_index TF.elem_sl_bool TF.size_bool e3 h18 h19) ?_;obtain⟨b1,h20,H⟩:=H;refine ld rfl (i_load1 TF.agg_bool h20) (sl_nil (nc (kp 0 rfl (kp 3 rfl (kp 8 rfl (kp 9 rfl (kp 14 rfl (kp 54 rfl (kp 55 rfl (kp 56 rfl (kp 63 rfl zz))))))))) ?_));refine cw_cond rfl (fun hb=> ?_) (fun hb=> ?_)
    ·replace H:=H.1 hb;exact cw_exit (nx_exit_then (nx_exit_hit (nx_to fun a ha=>⟨A8,n8,c8,ha.weaken (cn rfl (cn rfl (cn rfl (cn rfl (cn rfl (cn rfl (cn rfl zz))))))),H⟩)))
    ·replace H:=H.2 hb;refine cw_skip (nc (kp 0 rfl (kp 3 rfl (kp 8 rfl (kp 9 rfl (kp 14 rfl (kp 54 rfl (kp 55 rfl (kp 56 rfl zz)))))))) (cw_seq (cw_region (mv rfl (mv rfl ?_)))));obtain⟨h21,h22,a4,e4,H⟩:=H;refine ix rfl rfl (i_index TF.elem_sl_bool TF.size_bool e4 h21 h22) ?_;obtain⟨⟨u1,h23⟩,h24,H⟩:=H;refine sl_un rfl (wanted_none rfl) (fun a ha=>x_store (ha.ev rfl) (ha.ev rfl) (i_store1 TF.size_bool rfl rfl h23 h24)) ?_;intro w11 hw;replace H:=H _ hw;clear hw;refine sl_nil (nc (kp 0 rfl (kp 3 rfl (kp 8 rfl (kp 9 rfl (kp 14 rfl (kp 54 rfl (kp 55 rfl (kp 56 rfl zz)))))))) (cw_seq (cw_region (mv rfl (nk rfl (fa rfl (TF.fld_euf_Graph_4 _ _) ?_))))));obtain⟨A10,n10,c10,h25,H⟩:=H;refine ld rfl (i_load1 TF.agg_sl_euf_edge h25) (mv rfl ?_);obtain⟨h26,h27,a5,e5,H⟩:=H;refine ix rfl rfl (i_index TF.elem_sl_euf_edge TF.size_euf_edge e5 h26 h27) ?_;obtain⟨x9,b2,x10,x11,x12,h28,H⟩:=H;refine ld rfl (i_loadN (vs:=[(.int .i64 x9),(.bool b2),(.int .i64 x10),(.int .i64 x11),(.int .i64 x12)]) TF.agg_euf_edge TF.size_euf_edge h28) (sl_new (f:=(fun p=> .pointer (some p))) rfl rfl (wanted_none rfl) (fun a ha=>x_alloc (i_alloc TF.zero_euf_edge)) ?_);intro p4 w12 hN;replace H:=H _ _ hN;obtain⟨h30,H⟩:=H;refine sl_un rfl (wanted_none rfl) (fun a ha=>x_store (ha.ev rfl) (ha.ev rfl) (i_storeN TF.size_euf_edge (by simp[Value.oneCell']) h30)) ?_;intro w13 hw;replace H:=H _ hw;clear hw;refine sl_nil (nc (kp 0 rfl (kp 3 rfl (kp 8 rfl (kp 9 rfl (kp 15 rfl (kp 54 rfl (kp 55 rfl (kp 56 rfl zz)))))))) (cw_seq (cw_seq (cw_region (fa rfl (TF.fld_euf_edge_1 _ _) ?_)))));obtain⟨b3,h31,H⟩:=H;refine ld rfl (i_load1 TF.agg_bool h31) (sv rfl rfl (fun a ha=>x_unOp (ha.ev rfl) u_not) (sl_nil (nc (kp 0 rfl (kp 3 rfl (kp 8 rfl (kp 9 rfl (kp 15 rfl (kp 54 rfl (kp 55 rfl (kp 56 rfl (kp 76 rfl zz))))))))) ?_)));refine cw_cond rfl (fun hb=> ?_) (fun hb=> ?_)
     ·replace H:=H.1 hb;refine cw_seq (cw_region (mv rfl (fa rfl (TF.fld_euf_edge_4 _ _) ?_)));obtain⟨x13,h32,H⟩:=H;refine ld rfl (i_load1 TF.agg_int h32) ?_;obtain⟨x14,h33,H⟩:=H;refine sv rfl rfl (fun a ha=>x_lookup (ha.ev rfl) (ha.ev rfl) h33) (bo rfl rfl o_add ?_);obtain⟨w14,h34,H⟩:=H;exact sl_u rfl (wanted_none rfl) (fun a ha=>x_mapUpdate (ha.ev rfl) (ha.ev rfl) (ha.ev rfl) h34) (sl_nil (nc (kp 0 rfl (kp 3 rfl (kp 8 rfl (kp 9 rfl (kp 54 rfl (kp 55 rfl (kp 56 rfl zz))))))) (cw_exit (nx_exit_then (nx_exit_hit (nx_to fun a ha=>⟨A8,n8,c8,ha.weaken (cn rfl (cn rfl (cn rfl (cn rfl (cn rfl (cn rfl (cn rfl zz))))))),H⟩))))))
     ·replace H:=H.2 hb;refine cw_skip (nc (kp 0 rfl (kp 3 rfl (kp 8 rfl (kp 9 rfl (kp 15 rfl (kp 54 rfl (kp 55 rfl (kp 56 rfl zz)))))))) (cw_seq ?_));refine cw_any_drawn follows [0,1,2,3,4,5,6,7,8,9,10] [3,5,8] 11 rfl rfl (by kernel_rfl) (fun _ _ d _ _ h=>by cases d<;>exact h) (fun cm W D=> ?_);refine pmv 0 cm rfl rfl D W fun _ D W=>(pnk 1 cm rfl rfl D W fun _ D W=>(pfa 2 cm rfl rfl (TF.fld_euf_Graph_1 _ _) D W fun _ D W=> ?_));obtain⟨A11,n11,c11,h35,H⟩:=H;refine vl 3 cm rfl rfl (fun hw=>(i_load1 TF.agg_sl_api_Flat ((hw.cell _).trans h35))) D W fun _ D W=>(pfa 4 cm rfl rfl (TF.fld_euf_edge_2 _ _) D W fun _ D W=> ?_);obtain⟨x15,h36,H⟩:=H;refine vl 5 cm rfl rfl (fun hw=>(i_load1 TF.agg_int ((hw.cell _).trans h36))) D W fun _ D W=> ?_;obtain⟨h37,h38,a6,e6,H⟩:=H;refine pix 6 cm rfl rfl rfl (i_index TF.elem_sl_api_Flat TF.size_api_Flat e6 h37 h38) D W fun _ D W=>(pfa 7 cm rfl rfl (TF.fld_api_Flat_1 _ _) D W fun _ D W=> ?_);obtain⟨A12,n12,c12,h39,H⟩:=H;refine vl 8 cm rfl rfl (fun hw=>(i_load1 TF.agg_sl_int ((hw.cell _).trans h39))) D W fun _ D W=>(pvd 9 cm rfl rfl rfl (fun w' a ha=>x_builtin (ha.evs rfl) (fun _=>l_slice TF.isslice_sl_int)) D fun _ D=>(pmvd 10 cm rfl rfl D fun _ D=>(an_end (by kernel_rfl) D ?_)));intro w15 D;replace H:=H _ D;clear D cm;refine nc (kp 0 rfl (kp 3 rfl (kp 8 rfl (kp 9 rfl (kp 15 rfl (kp 54 rfl (kp 55 rfl (kp 56 rfl (kp 90 rfl (kp 91 rfl (kp 92 rfl zz))))))))))) (cw_block ?_);obtain⟨I3,⟨k3,hi⟩,H⟩:=H;refine cw_loop (fun k3 a w'=>∃A13 n13 c13,∃x16,Ok 116 [(0,(.pointer (some p1))),(3,(.map m1)),(8,(.slice A2 n2 c2)),(9,(.slice A13 n13 c13)),(15,(.pointer (some p4))),(54,(.slice A7 n7 c7)),(55,(.int .i64 (n7:Int))),(56,(.int .i64 x7)),(90,(.slice A12 n12 c12)),(91,(.int .i64 (n12:Int))),(92,(.int .i64 x16))] a∧I3 k3 A13 n13 c13 x16 w') (fun a ha=>⟨k3,A8,n8,c8,0,ha.weaken (sub.cons rfl (sub.cons rfl (sub.cons rfl (sub.cons rfl (sub.cons rfl (sub.cons rfl (sub.cons rfl (sub.cons rfl (sub.cons rfl (sub.cons rfl (sub.cons rfl (sub.nil)))))))))))),hi⟩) ?_;rintro k3 a w16 ⟨A13,n13,c13,x16,ha,hI⟩;replace H:=H k3 A13 n13 c13 x16 w16 hI;refine(?_:CW _ _ _ 116 [(0,(.pointer (some p1))),(3,(.map m1)),(8,(.slice A2 n2 c2)),(9,(.slice A13 n13 c13)),(15,(.pointer (some p4))),(54,(.slice A7 n7 c7)),(55,(.int .i64 (n7:Int))),(56,(.int .i64 x7)),(90,(.slice A12 n12 c12)),(91,(.int .i64 (n12:Int))),(92,(.int .i64 x16))] _) a ha;refine cw_seq (cw_region (bo rfl rfl o_lss (sl_nil (nc (kp 0 rfl (kp 3 rfl (kp 8 rfl (kp 9 rfl (kp 15 rfl (kp 54 rfl (kp 55 rfl (kp 56 rfl (kp 90 rfl (kp 91 rfl (kp 92 rfl (kp 93 rfl zz)))))))))))) (cw_seq ?_)))));refine cw_cond_p rfl (fun hb=> ?_) (fun hb=> ?_)
      ·replace H:=H.1 hb;refine cw_skip (nc (kp 0 rfl (kp 3 rfl (kp 8 rfl (kp 9 rfl (kp 15 rfl (kp 54 rfl (kp 55 rfl (kp 56 rfl (kp 90 rfl (kp 91 rfl (kp 92 rfl zz))))))))))) ?_);refine cw_join (fun a w=>∃A17 n17 c17,Ok 116 [(0,(.pointer (some p1))),(3,(.map m1)),(8,(.slice A2 n2 c2)),(9,(.slice A17 n17 c17)),(15,(.pointer (some p4))),(54,(.slice A7 n7 c7)),(55,(.int .i64 (n7:Int))),(56,(.int .i64 x7)),(90,(.slice A12 n12 c12)),(91,(.int .i64 (n12:Int))),(92,(.int .i64 x16))] a∧vc_euf_Graph_tags_J1 k3 I3 x16 A17 n17 c17 w) ?_ ?_
       ·rintro a w20 ⟨A17,n17,c17,ha,H⟩;unfold vc_euf_Graph_tags_J1 at H;refine(?_:CW _ _ _ 116 [(0,(.pointer (some p1))),(3,(.map m1)),(8,(.slice A2 n2 c2)),(9,(.slice A17 n17 c17)),(15,(.pointer (some p4))),(54,(.slice A7 n7 c7)),(55,(.int .i64 (n7:Int))),(56,(.int .i64 x7)),(90,(.slice A12 n12 c12)),(91,(.int .i64 (n12:Int))),(92,(.int .i64 x16))] _) a ha;refine cw_region (bo rfl rfl o_add (mv rfl (sl_nil ?_)));obtain⟨k4,hk,H⟩:=H;exact nx_to fun a ha=>⟨k4,hk,A17,n17,c17,IntKind.wrap .i64 (x16+1),ha.weaken (cn rfl (cn rfl (cn rfl (cn rfl (cn rfl (cn rfl (cn rfl (cn rfl (cn rfl (cn rfl (cn rfl zz))))))))))),H⟩
       ·refine cw_block (cw_seq (cw_region (mv rfl ?_)));obtain⟨h40,h41,a7,e7,H⟩:=H;refine ix rfl rfl (i_index TF.elem_sl_int TF.size_int e7 h40 h41) ?_;obtain⟨x17,h42,H⟩:=H;refine ld rfl (i_load1 TF.agg_int h42) (ag rfl (ag rfl (sl_nil (nc (kp 0 rfl (kp 3 rfl (kp 8 rfl (kp 9 rfl (kp 15 rfl (kp 16 rfl (kp 17 rfl (kp 54 rfl (kp 55 rfl (kp 56 rfl (kp 90 rfl (kp 91 rfl (kp 92 rfl zz))))))))))))) ?_))));refine cw_any_drawn follows [0,1,2,3,4,5,6,7,8,9,10,11,12,13,14,17] [5,7,10,13] 18 rfl rfl (by kernel_rfl) (fun _ _ d _ _ h=>by cases d<;>exact h) (fun cm W D=> ?_);refine pmv 0 cm rfl rfl D W fun _ D W=>(pmv 1 cm rfl rfl D W fun _ D W=>(pmv 2 cm rfl rfl D W fun _ D W=>(pnk 3 cm rfl rfl D W fun _ D W=>(pfa 4 cm rfl rfl (TF.fld_euf_Graph_1 _ _) D W fun _ D W=> ?_))));obtain⟨A14,n14,c14,h43,H⟩:=H;refine vl 5 cm rfl rfl (fun hw=>(i_load1 TF.agg_sl_api_Flat ((hw.cell _).trans h43))) D W fun _ D W=>(pfa 6 cm rfl rfl (TF.fld_euf_edge_3 _ _) D W fun _ D W=> ?_);obtain⟨x18,h44,H⟩:=H;refine vl 7 cm rfl rfl (fun hw=>(i_load1 TF.agg_int ((hw.cell _).trans h44))) D W fun _ D W=> ?_;obtain⟨h45,h46,a8,e8,H⟩:=H;refine pix 8 cm rfl rfl rfl (i_index TF.elem_sl_api_Flat TF.size_api_Flat e8 h45 h46) D W fun _ D W=>(pfa 9 cm rfl rfl (TF.fld_api_Flat_1 _ _) D W fun _ D W=> ?_);obtain⟨A15,n15,c15,h47,H⟩:=H;refine vl 10 cm rfl rfl (fun hw=>(i_load1 TF.agg_sl_int ((hw.cell _).trans h47))) D W fun _ D W=>(pmv 11 cm rfl rfl D W fun _ D W=> ?_);obtain⟨h48,h49,a9,e9,H⟩:=H;refine pix 12 cm rfl rfl rfl (i_index TF.elem_sl_int TF.size_int e9 h48 h49) D W fun _ D W=> ?_;obtain⟨x19,h50,H⟩:=H;refine vl 13 cm rfl rfl (fun hw=>(i_load1 TF.agg_int ((hw.cell _).trans h50))) D W fun _ D W=>(pvd 14 cm rfl rfl rfl (fun w' a ha=>x_buildP (u:=(.agg #[(.int .i64 x17),(.int .i64 x19)])) (qs:=[(0,(.int .i64 x17)),(1,(.int .i64 x19))]) (by simp only[List.map_cons,List.map_nil,ha.ev (x:=(.tmp 98)) rfl,ha.ev (x:=(.tmp 110)) rfl]) (by kernel_rfl)) D fun _ D=>(ar 15 ?_));replace H:=H _ D;refine aw_new (f:=(fun p=> .slice (some p) 1 1)) rfl rfl rfl (wanted_none rfl) (fun a ha=>x_buildSlice (u:= .slice (some ⟨_,0,none⟩) 1 1) (w':=World.alloc _ (.cells #[(.int .i64 x17),(.int .i64 x19)] T.api_Both)) (qs:=[(0,(.agg #[(.int .i64 x17),(.int .i64 x19)]))]) (by simp only[List.map_cons,List.map_nil,ha.ev (x:=(.tmp 111)) rfl]) (by kernel_rfl)) rfl false (by kernel_rfl) ?_;intro p5 w17 hN _ D;replace H:=H _ _ hN;refine⟨fun h=>(by cases h),?_⟩;refine ar 16 ?_;replace H:=H _ D;obtain⟨A16,n16,c16,w18,h51,H⟩:=H;refine aw_v rfl rfl rfl (wanted_none rfl) (fun a ha=>x_builtin (ha.evs rfl) (fun _=>bi_append h51)) rfl false (by kernel_rfl) ?_;intro _ D;refine⟨fun h=>(by cases h),?_⟩;refine pagd 17 cm rfl rfl D fun _ D=>(an_end (by kernel_rfl) D ?_);intro w19 D;replace H:=H _ D;clear D cm;exact nx_block (nx_to fun a ha=>⟨A16,n16,c16,ha.weaken (cn rfl (cn rfl (cn rfl (cn rfl (cn rfl (cn rfl (cn rfl (cn rfl (cn rfl (cn rfl (cn rfl zz))))))))))),H⟩)
      ·replace H:=H.2 hb;exact cw_exit (nx_exit_then (nx_exit_then (nx_exit_hit (nx_block (nx_to fun a ha=>⟨A13,n13,c13,ha.weaken (cn rfl (cn rfl (cn rfl (cn rfl (cn rfl (cn rfl (cn rfl zz))))))),H⟩)))))
  ·replace H:=H.2 hb;refine cw_exit (nx_exit_then (nx_exit_then (nx_exit_hit (nx_block ?_))));obtain⟨k6,hk,H⟩:=H;exact nx_to fun a ha=>⟨k6,hk,A8,n8,c8,ha.weaken (cn rfl (cn rfl (cn rfl (cn rfl zz)))),H⟩
 ·replace H:=H.2 hb;exact cw_exit (nx_exit_then (nx_exit_then (nx_exit_hit (nx_body_end (res0 rfl) ⟨_,rfl,rfl,H⟩))))
def vc_euf_Graph_with_J1 (k1:Nat) (I1:Nat→Int→World→Prop) (x2:Int) (w6:World):Prop:=
 ∃k2,k2<k1∧I1 k2 (IntKind.wrap .i64 (x2+1)) w6
def vc_euf_Graph_with (p1:Addr) (A1:Option Addr) (n1 c1:Nat) (K:Option Addr→World→Prop) (w:World):Prop:=
 ∃A2 n2 c2,w.cell? (p1.add 4)=some (.slice A2 n2 c2)∧Calls P F.euf_New #[(.slice A2 n2 c2)] w (Ret fun v1 w1=>∃q2,∃x1,v1=(.tuple #[(.pointer q2),(.int .i64 x1)])∧∃A3 n3 c3,w1.cell? (p1.add 8)=some (.slice A3 n3 c3)∧∃I1:Nat→Int→World→Prop,(∃k1,I1 k1 0 w1)∧∀k1 (x2:Int) (w2:World),I1 k1 x2 w2→((x2<(n3:Int)→(0≤x2∧x2<(n3:Int)∧∃a1,A3=some a1∧∃x3,∃x4,∃x5,∃b1,CellsAt w2 (a1.add (x2.toNat*4)) [(.int .i64 x3),(.int .i64 x4),(.int .i64 x5),(.bool b1)]∧∀(p2:Addr) (w3:World),New w2 (.cells #[(.int .i64 0),(.int .i64 0),(.int .i64 0),(.bool false)] T.euf_said) p2 w3→(Soft w3 p2 4∧∀w4,w4=setCellsAt w3 p2 [(.int .i64 x3),(.int .i64 x4),(.int .i64 x5),(.bool b1)]→(∃x6,w4.cell? (p2.add 2)=some (.int .i64 x6)∧Calls P F.slices_Contains_sl_int_int #[(.slice A1 n1 c1),(.int .i64 x6)] w4 (Ret fun v2 w5=>∃b2,v2=(.bool b2)∧((!b2)=true→((vc_euf_Graph_with_J1 k1 I1 x2) w5))∧((!b2)=false→(∃b3,w5.cell? (p2.add 3)=some (.bool b3)∧(b3=true→(∃x7,w5.cell? (p2.add 0)=some (.int .i64 x7)∧∃x8,w5.cell? (p2.add 1)=some (.int .i64 x8)∧∃x9,w5.cell? (p2.add 2)=some (.int .i64 x9)∧Calls P F.euf_Graph_Differ #[(.pointer q2),(.int .i64 x7),(.int .i64 x8),(.int .i64 x9)] w5 (Ret fun v3 w7=>∃x10,v3=(.int .i64 x10)∧(vc_euf_Graph_with_J1 k1 I1 x2) w7)))∧(b3=false→(∃x11,w5.cell? (p2.add 0)=some (.int .i64 x11)∧∃x12,w5.cell? (p2.add 1)=some (.int .i64 x12)∧∃x13,w5.cell? (p2.add 2)=some (.int .i64 x13)∧Calls P F.euf_Graph_Equal #[(.pointer q2),(.int .i64 x11),(.int .i64 x12),(.int .i64 x13)] w5 (Ret fun v4 w8=>∃x14,v4=(.int .i64 x14)∧(vc_euf_Graph_with_J1 k1 I1 x2) w8))))))))))∧(¬(x2<(n3:Int))→(K q2 w2))))
theorem ok_euf_Graph_with (p1:Addr) (A1:Option Addr) (n1 c1:Nat) (K:Option Addr→World→Prop) (w:World) (H:vc_euf_Graph_with p1 A1 n1 c1 K w):Calls P F.euf_Graph_with #[(.pointer (some p1)),(.slice A1 n1 c1)] w (Ret fun v w'=>∃q1,v=(.pointer q1)∧K q1 w'):=by
 unfold vc_euf_Graph_with at H;refine calls_of (P:=P) Tryd.func45 rfl [(0,(.pointer (some p1))),(1,(.slice A1 n1 c1))] 53 rfl rfl (aa rfl (aa rfl az)) (cw_seq (cw_region (ag rfl (sl_nil (nc (kp 0 rfl (kp 1 rfl zz)) (cw_seq (cw_region (mv rfl (nk rfl (fa rfl (TF.fld_euf_Graph_1 _ _) ?_))))))))));obtain⟨A2,n2,c2,h1,H⟩:=H;refine ld rfl (i_load1 TF.agg_sl_api_Flat h1) (sl_call rfl rfl (wanted_none rfl) (fun a ha=>x_call0 (ha.ev rfl) (ha.evs rfl) FF.callable_euf_New) H ?_);rintro _ w1 ⟨q2,x1,rfl,H⟩;refine mv rfl (sv rfl rfl (fun a ha=>x_extract (ha.ev rfl) rfl) (sv rfl rfl (fun a ha=>x_extract (ha.ev rfl) rfl) (ag rfl (ag rfl (sl_nil (nc (kp 0 rfl (kp 1 rfl (kp 5 rfl zz))) (cw_seq (cw_seq (cw_region (mv rfl (nk rfl (fa rfl (TF.fld_euf_Graph_5 _ _) ?_))))))))))));obtain⟨A3,n3,c3,h2,H⟩:=H;refine ld rfl (i_load1 TF.agg_sl_euf_said h2) (sv rfl rfl (fun a ha=>x_builtin (ha.evs rfl) (fun _=>l_slice TF.isslice_sl_euf_said)) (mv rfl (sl_nil (nc (kp 1 rfl (kp 5 rfl (kp 20 rfl (kp 21 rfl (kp 22 rfl zz))))) (cw_block ?_)))));obtain⟨I1,⟨k1,hi⟩,H⟩:=H;refine cw_loop (fun k1 a w'=>∃x2,Ok 53 [(1,(.slice A1 n1 c1)),(5,(.pointer q2)),(20,(.slice A3 n3 c3)),(21,(.int .i64 (n3:Int))),(22,(.int .i64 x2))] a∧I1 k1 x2 w') (fun a ha=>⟨k1,0,ha.weaken (sub.cons rfl (sub.cons rfl (sub.cons rfl (sub.cons rfl (sub.cons rfl (sub.nil)))))),hi⟩) ?_;rintro k1 a w2 ⟨x2,ha,hI⟩;replace H:=H k1 x2 w2 hI;refine(?_:CW _ _ _ 53 [(1,(.slice A1 n1 c1)),(5,(.pointer q2)),(20,(.slice A3 n3 c3)),(21,(.int .i64 (n3:Int))),(22,(.int .i64 x2))] _) a ha;refine cw_seq (cw_region (bo rfl rfl o_lss (sl_nil (nc (kp 1 rfl (kp 5 rfl (kp 20 rfl (kp 21 rfl (kp 22 rfl (kp 23 rfl zz)))))) (cw_seq ?_)))));refine cw_cond_p rfl (fun hb=> ?_) (fun hb=> ?_)
 ·replace H:=H.1 hb;refine cw_skip (nc (kp 1 rfl (kp 5 rfl (kp 20 rfl (kp 21 rfl (kp 22 rfl zz))))) ?_);refine cw_join (fun a w=>Ok 53 [(1,(.slice A1 n1 c1)),(5,(.pointer q2)),(20,(.slice A3 n3 c3)),(21,(.int .i64 (n3:Int))),(22,(.int .i64 x2))] a∧vc_euf_Graph_with_J1 k1 I1 x2 w) ?_ ?_
  ·rintro a w6 ⟨ha,H⟩;unfold vc_euf_Graph_with_J1 at H;refine(?_:CW _ _ _ 53 [(1,(.slice A1 n1 c1)),(5,(.pointer q2)),(20,(.slice A3 n3 c3)),(21,(.int .i64 (n3:Int))),(22,(.int .i64 x2))] _) a ha;refine cw_region (bo rfl rfl o_add (mv rfl (sl_nil ?_)));obtain⟨k2,hk,H⟩:=H;exact nx_to fun a ha=>⟨k2,hk,IntKind.wrap .i64 (x2+1),ha.weaken (cn rfl (cn rfl (cn rfl (cn rfl (cn rfl zz))))),H⟩
  ·refine cw_block (cw_seq (cw_region ?_));obtain⟨h3,h4,a1,e1,H⟩:=H;refine ix rfl rfl (i_index TF.elem_sl_euf_said TF.size_euf_said e1 h3 h4) ?_;obtain⟨x3,x4,x5,b1,h5,H⟩:=H;refine ld rfl (i_loadN (vs:=[(.int .i64 x3),(.int .i64 x4),(.int .i64 x5),(.bool b1)]) TF.agg_euf_said TF.size_euf_said h5) (sl_new (f:=(fun p=> .pointer (some p))) rfl rfl (wanted_none rfl) (fun a ha=>x_alloc (i_alloc TF.zero_euf_said)) ?_);intro p2 w3 hN;replace H:=H _ _ hN;obtain⟨h7,H⟩:=H;refine sl_un rfl (wanted_none rfl) (fun a ha=>x_store (ha.ev rfl) (ha.ev rfl) (i_storeN TF.size_euf_said (by simp[Value.oneCell']) h7)) ?_;intro w4 hw;replace H:=H _ hw;clear hw;refine sl_nil (nc (kp 1 rfl (kp 5 rfl (kp 8 rfl (kp 20 rfl (kp 21 rfl (kp 22 rfl zz)))))) (cw_block (cw_seq (cw_region (mv rfl (fa rfl (TF.fld_euf_said_2 _ _) ?_))))));obtain⟨x6,h8,H⟩:=H;refine ld rfl (i_load1 TF.agg_int h8) (sl_call rfl rfl (wanted_none rfl) (fun a ha=>x_call0 (ha.ev rfl) (ha.evs rfl) FF.callable_slices_Contains_sl_int_int) H ?_);rintro _ w5 ⟨b2,rfl,H⟩;refine sv rfl rfl (fun a ha=>x_unOp (ha.ev rfl) u_not) (ag rfl (sl_nil (nc (kp 1 rfl (kp 5 rfl (kp 8 rfl (kp 20 rfl (kp 21 rfl (kp 22 rfl (kp 34 rfl zz))))))) ?_)));refine cw_cond rfl (fun hb=> ?_) (fun hb=> ?_)
   ·replace H:=H.1 hb;exact cw_skip (nx_block (nx_block (nx_to fun a ha=>⟨ha.weaken (cn rfl (cn rfl (cn rfl (cn rfl (cn rfl zz))))),H⟩)))
   ·replace H:=H.2 hb;refine cw_seq (cw_region (fa rfl (TF.fld_euf_said_3 _ _) ?_));obtain⟨b3,h9,H⟩:=H;refine ld rfl (i_load1 TF.agg_bool h9) (ag rfl (sl_nil (nc (kp 1 rfl (kp 5 rfl (kp 8 rfl (kp 20 rfl (kp 21 rfl (kp 22 rfl (kp 40 rfl zz))))))) ?_)));refine cw_cond rfl (fun hb=> ?_) (fun hb=> ?_)
    ·replace H:=H.1 hb;refine cw_region (mv rfl (fa rfl (TF.fld_euf_said_0 _ _) ?_));obtain⟨x7,h10,H⟩:=H;refine ld rfl (i_load1 TF.agg_int h10) (fa rfl (TF.fld_euf_said_1 _ _) ?_);obtain⟨x8,h11,H⟩:=H;refine ld rfl (i_load1 TF.agg_int h11) (fa rfl (TF.fld_euf_said_2 _ _) ?_);obtain⟨x9,h12,H⟩:=H;refine ld rfl (i_load1 TF.agg_int h12) (sl_call rfl rfl (wanted_none rfl) (fun a ha=>x_call0 (ha.ev rfl) (ha.evs rfl) FF.callable_euf_Graph_Differ) H ?_);rintro _ w7 ⟨x10,rfl,H⟩;exact sl_nil (nx_block (nx_block (nx_to fun a ha=>⟨ha.weaken (cn rfl (cn rfl (cn rfl (cn rfl (cn rfl zz))))),H⟩)))
    ·replace H:=H.2 hb;refine cw_region (mv rfl (fa rfl (TF.fld_euf_said_0 _ _) ?_));obtain⟨x11,h13,H⟩:=H;refine ld rfl (i_load1 TF.agg_int h13) (fa rfl (TF.fld_euf_said_1 _ _) ?_);obtain⟨x12,h14,H⟩:=H;refine ld rfl (i_load1 TF.agg_int h14) (fa rfl (TF.fld_euf_said_2 _ _) ?_);obtain⟨x13,h15,H⟩:=H;refine ld rfl (i_load1 TF.agg_int h15) (sl_call rfl rfl (wanted_none rfl) (fun a ha=>x_call0 (ha.ev rfl) (ha.evs rfl) FF.callable_euf_Graph_Equal) H ?_);rintro _ w8 ⟨x14,rfl,H⟩;exact sl_nil (nx_block (nx_block (nx_to fun a ha=>⟨ha.weaken (cn rfl (cn rfl (cn rfl (cn rfl (cn rfl zz))))),H⟩)))
 ·replace H:=H.2 hb;exact cw_exit (nx_exit_then (nx_exit_then (nx_exit_hit (nc (kp 5 rfl zz) (cw_seq (cw_region (mv rfl (ag rfl (sl_nil (nc (kp 4 rfl zz) (cw_ret (nx_body_ret (res1 rfl rfl) ⟨_,rfl,_,rfl,H⟩))))))))))))
def vc_euf_Graph_bare (p1:Addr) (m1:Option Nat) (v1:Value) (K:Option Addr→Nat→Nat→World→Prop) (w:World):Prop:=
 ∃(p2:Addr) (w1:World),(Instr.range T.map_int_int (.map m1)).run P w= .ok (.pointer (some p2)) w1∧(∃I1:Nat→Option Addr→Nat→Nat→World→Prop,(∃k1,I1 k1 none 0 0 w1)∧∀k1 (A2:Option Addr) (n2 c2:Nat) (w2:World),I1 k1 A2 n2 c2 w2→(∃(b1:Bool) (vs1:List Value) (w3:World),(Instr.next (.pointer (some p2)) false T.t).run P w2= .ok (.tuple ((.bool b1)::vs1).toArray) w3∧((b1=true→(∃x1,∃x2,(Instr.entry (.pointer (some p2))).run P w3= .ok (.tuple #[(.int .i64 x1),(.int .i64 x2)]) w3∧∀(p3:Addr) (w4:World),New w3 (.cells #[(.int .i64 x1)] T.int) p3 w4→(∃(A3:Option Addr) (n3 c3:Nat) (w5:World),(Builtin.append_ #[T.sl_int,T.sl_int] T.sl_int #[(.slice A2 n2 c2),(.slice (some p3) 1 1)]).run P w4= .ok (.slice A3 n3 c3) w5∧(∃k2,k2<k1∧I1 k2 A3 n3 c3 w5))))∧(b1=false→(Calls P F.slices_Sort_sl_int_int #[(.slice A2 n2 c2)] w3 (Ret fun v2 w6=>v2=(.tuple #[])∧∃I2:Nat→Option Addr→Nat→Nat→Int→World→Prop,(∃k3,I2 k3 A2 n2 c2 0 w6)∧∀k3 (A4:Option Addr) (n4 c4:Nat) (x3:Int) (w7:World),I2 k3 A4 n4 c4 x3 w7→((x3<(n4:Int)→(Calls P F.slices_Clone_sl_int_int #[(.slice A4 n4 c4)] w7 (Ret fun v3 w8=>∃A5 n5 c5,v3=(.slice A5 n5 c5)∧Calls P F.slices_Delete_sl_int_int #[(.slice A5 n5 c5),(.int .i64 x3),(.int .i64 (IntKind.wrap .i64 (x3+1)))] w8 (Ret fun v4 w9=>∃A6 n6 c6,v4=(.slice A6 n6 c6)∧Calls P F.euf_Graph_with #[(.pointer (some p1)),(.slice A6 n6 c6)] w9 (Ret fun v5 w10=>∃q1,v5=(.pointer q1)∧∃(f1:FuncId) (cs1:List Value),v1= .func (.func f1) #[] cs1.toArray∧callable P f1=true∧Calls P f1 ([(.pointer q1)]++cs1:List Value).toArray w10 (Ret fun v6 w11=>∃b2,v6=(.bool b2)∧(b2=true→(∃k4,k4<k3∧I2 k4 A6 n6 c6 x3 w11))∧(b2=false→(∃k5,k5<k3∧I2 k5 A4 n4 c4 (IntKind.wrap .i64 (x3+1)) w11))))))))∧(¬(x3<(n4:Int))→(K A4 n4 c4 w7)))))))))
theorem ok_euf_Graph_bare (p1:Addr) (m1:Option Nat) (v1:Value) (K:Option Addr→Nat→Nat→World→Prop) (w:World) (H:vc_euf_Graph_bare p1 m1 v1 K w):Calls P F.euf_Graph_bare #[(.pointer (some p1)),(.map m1),v1] w (Ret fun v w'=>∃A1 n1 c1,v=(.slice A1 n1 c1)∧K A1 n1 c1 w'):=by
 unfold vc_euf_Graph_bare at H;refine calls_of (P:=P) Tryd.func31 rfl [(0,(.pointer (some p1))),(1,(.map m1)),(2,v1)] 42 rfl rfl (aa rfl (aa rfl (aa rfl az))) (cw_seq (cw_region (ag rfl (sl_nil (nc (kp 0 rfl (kp 1 rfl (kp 2 rfl zz))) (cw_seq (cw_region (ag rfl (sl_nil (nc (kp 0 rfl (kp 1 rfl (kp 2 rfl (kp 7 rfl zz)))) (cw_seq (cw_seq (cw_region (mv rfl ?_))))))))))))));obtain⟨p2,w1,h1,H⟩:=H;refine sv rfl rfl (fun a ha=>x_range (ha.ev rfl) h1) (sl_nil (nc (kp 0 rfl (kp 2 rfl (kp 7 rfl (kp 12 rfl zz)))) (cw_block ?_)));obtain⟨I1,⟨k1,hi⟩,H⟩:=H;refine cw_loop (fun k1 a w'=>∃A2 n2 c2,Ok 42 [(0,(.pointer (some p1))),(2,v1),(7,(.slice A2 n2 c2)),(12,(.pointer (some p2)))] a∧I1 k1 A2 n2 c2 w') (fun a ha=>⟨k1,none,0,0,ha.weaken (sub.cons rfl (sub.cons rfl (sub.cons rfl (sub.cons rfl (sub.nil))))),hi⟩) ?_;rintro k1 a w2 ⟨A2,n2,c2,ha,hI⟩;replace H:=H k1 A2 n2 c2 w2 hI;refine(?_:CW _ _ _ 42 [(0,(.pointer (some p1))),(2,v1),(7,(.slice A2 n2 c2)),(12,(.pointer (some p2)))] _) a ha;refine cw_seq (cw_region ?_);obtain⟨b1,vs1,w3,h2,H⟩:=H;refine sv rfl rfl (fun a ha=>x_next (ha.ev rfl) h2) (sv rfl rfl (fun a ha=>x_extract (ha.ev rfl) rfl) (sl_nil (nc (kp 0 rfl (kp 2 rfl (kp 7 rfl (kp 12 rfl (kp 14 rfl zz))))) (cw_seq ?_))));refine cw_cond rfl (fun hb=> ?_) (fun hb=> ?_)
 ·replace H:=H.1 hb;refine cw_skip (nc (kp 0 rfl (kp 2 rfl (kp 7 rfl (kp 12 rfl zz)))) (cw_block (cw_seq (cw_region ?_))));obtain⟨x1,x2,h3,H⟩:=H;refine sv rfl rfl (fun a ha=>x_entry (ha.ev rfl) h3) (sv rfl rfl (fun a ha=>x_extract (ha.ev rfl) rfl) (ag rfl (sl_nil (nc (kp 0 rfl (kp 2 rfl (kp 7 rfl (kp 8 rfl (kp 12 rfl zz))))) (cw_region (mv rfl (mv rfl (sl_new (f:=(fun p=> .slice (some p) 1 1)) rfl rfl (wanted_none rfl) (fun a ha=>x_buildSlice (u:= .slice (some ⟨_,0,none⟩) 1 1) (w':=World.alloc _ (.cells #[(.int .i64 x1)] T.int)) (qs:=[(0,(.int .i64 x1))]) (by simp only[List.map_cons,List.map_nil,ha.ev (x:=(.tmp 18)) rfl]) (by kernel_rfl)) ?_))))))));intro p3 w4 hN;replace H:=H _ _ hN;obtain⟨A3,n3,c3,w5,h4,H⟩:=H;refine sv rfl rfl (fun a ha=>x_builtin (ha.evs rfl) (fun _=>bi_append h4)) (ag rfl (sl_nil (nx_block ?_)));obtain⟨k2,hk,H⟩:=H;exact nx_to fun a ha=>⟨k2,hk,A3,n3,c3,ha.weaken (cn rfl (cn rfl (cn rfl (cn rfl zz)))),H⟩
 ·replace H:=H.2 hb;refine cw_exit (nx_exit_then (nx_exit_then (nx_exit_hit (nc (kp 0 rfl (kp 2 rfl (kp 7 rfl zz))) (cw_seq (cw_region (mv rfl (sl_call rfl rfl (wanted_none rfl) (fun a ha=>x_call0 (ha.ev rfl) (ha.evs rfl) FF.callable_slices_Sort_sl_int_int) H ?_))))))));rintro _ w6 ⟨rfl,H⟩;refine sl_nil (nc (kp 0 rfl (kp 2 rfl (kp 7 rfl zz))) (cw_seq (cw_seq (cw_region (ag rfl (sl_nil (nc (kp 0 rfl (kp 2 rfl (kp 7 rfl (kp 9 rfl zz)))) (cw_block ?_))))))));obtain⟨I2,⟨k3,hi⟩,H⟩:=H;refine cw_loop (fun k3 a w'=>∃A4 n4 c4,∃x3,Ok 42 [(0,(.pointer (some p1))),(2,v1),(7,(.slice A4 n4 c4)),(9,(.int .i64 x3))] a∧I2 k3 A4 n4 c4 x3 w') (fun a ha=>⟨k3,A2,n2,c2,0,ha.weaken (sub.cons rfl (sub.cons rfl (sub.cons rfl (sub.cons rfl (sub.nil))))),hi⟩) ?_;rintro k3 a w7 ⟨A4,n4,c4,x3,ha,hI⟩;replace H:=H k3 A4 n4 c4 x3 w7 hI;refine(?_:CW _ _ _ 42 [(0,(.pointer (some p1))),(2,v1),(7,(.slice A4 n4 c4)),(9,(.int .i64 x3))] _) a ha;refine cw_seq (cw_seq (cw_region (mv rfl (mv rfl (sv rfl rfl (fun a ha=>x_builtin (ha.evs rfl) (fun _=>l_slice TF.isslice_sl_int)) (bo rfl rfl o_lss (sl_nil (nc (kp 0 rfl (kp 2 rfl (kp 7 rfl (kp 9 rfl (kp 26 rfl zz))))) ?_))))))));refine cw_cond_p rfl (fun hb=> ?_) (fun hb=> ?_)
  ·replace H:=H.1 hb;refine cw_skip (nc (kp 0 rfl (kp 2 rfl (kp 7 rfl (kp 9 rfl zz)))) (cw_block (cw_seq (cw_region (mv rfl (sl_call rfl rfl (wanted_none rfl) (fun a ha=>x_call0 (ha.ev rfl) (ha.evs rfl) FF.callable_slices_Clone_sl_int_int) H ?_))))));rintro _ w8 ⟨A5,n5,c5,rfl,H⟩;refine mv rfl (mv rfl (bo rfl rfl o_add (sl_call rfl rfl (wanted_none rfl) (fun a ha=>x_call0 (ha.ev rfl) (ha.evs rfl) FF.callable_slices_Delete_sl_int_int) H ?_)));rintro _ w9 ⟨A6,n6,c6,rfl,H⟩;refine ag rfl (sl_nil (nc (kp 0 rfl (kp 2 rfl (kp 7 rfl (kp 9 rfl (kp 10 rfl zz))))) (cw_seq (cw_region (mv rfl (mv rfl (mv rfl (sl_call rfl rfl (wanted_none rfl) (fun a ha=>x_call0 (ha.ev rfl) (ha.evs rfl) FF.callable_euf_Graph_with) H ?_))))))));rintro _ w10 ⟨q1,rfl,H⟩;obtain⟨f1,cs1,e1,h5,H⟩:=H;refine sl_call rfl rfl (wanted_none rfl) (fun a ha=>x_callv ((ha.ev rfl).trans e1) (ha.evs rfl) h5) H ?_;rintro _ w11 ⟨b2,rfl,H⟩;refine sl_nil (nc (kp 0 rfl (kp 2 rfl (kp 7 rfl (kp 9 rfl (kp 10 rfl (kp 37 rfl zz)))))) ?_);refine cw_cond rfl (fun hb=> ?_) (fun hb=> ?_)
   ·replace H:=H.1 hb;refine cw_region (mv rfl (ag rfl (sl_nil (nx_block ?_))));obtain⟨k4,hk,H⟩:=H;exact nx_to fun a ha=>⟨k4,hk,A6,n6,c6,x3,ha.weaken (cn rfl (cn rfl (cn rfl (cn rfl zz)))),H⟩
   ·replace H:=H.2 hb;refine cw_region (mv rfl (bo rfl rfl o_add (ag rfl (sl_nil (nx_block ?_)))));obtain⟨k5,hk,H⟩:=H;exact nx_to fun a ha=>⟨k5,hk,A4,n4,c4,IntKind.wrap .i64 (x3+1),ha.weaken (cn rfl (cn rfl (cn rfl (cn rfl zz)))),H⟩
  ·replace H:=H.2 hb;exact cw_exit (nx_exit_then (nx_exit_then (nx_exit_hit (nc (kp 7 rfl zz) (cw_seq (cw_region (mv rfl (ag rfl (sl_nil (nc (kp 6 rfl zz) (cw_ret (nx_body_ret (res1 rfl rfl) ⟨_,rfl,_,_,_,rfl,H⟩))))))))))))
def vc_euf_Graph_Why_1 (p1:Addr) (p2:Addr) (p3:Addr) (K:Bool→World→Prop) (w:World):Prop:=
 ∃x1,w.cell? p2=some (.int .i64 x1)∧∃x2,(∀w',Drawn w w'→Calls P F.euf_classes_find #[(.pointer (some (p1.add 0))),(.int .i64 x1)] w' fun x w''=>x= .returned (.int .i64 x2)∧Drawn w' w'')∧∃x3,w.cell? p3=some (.int .i64 x3)∧∃x4,(∀w',Drawn w w'→Calls P F.euf_classes_find #[(.pointer (some (p1.add 0))),(.int .i64 x3)] w' fun x w''=>x= .returned (.int .i64 x4)∧Drawn w' w'')∧∀w1,Drawn w w1→(K (decide (x2=x4)) w1)
theorem ok_euf_Graph_Why_1 (p1:Addr) (p2:Addr) (p3:Addr) (K:Bool→World→Prop) (w:World) (H:vc_euf_Graph_Why_1 p1 p2 p3 K w):Calls P F.euf_Graph_Why_1 #[(.pointer (some p1)),(.pointer (some p2)),(.pointer (some p3))] w (Ret fun v w'=>∃b1,v=(.bool b1)∧K b1 w'):=by
 unfold vc_euf_Graph_Why_1 at H;refine calls_of (P:=P) Tryd.func32 rfl [(0,(.pointer (some p1))),(1,(.pointer (some p2))),(2,(.pointer (some p3)))] 16 rfl rfl (aa rfl (aa rfl (aa rfl az))) (cw_seq (cw_region (ag rfl (sl_nil (nc (kp 0 rfl (kp 1 rfl (kp 2 rfl zz))) (cw_seq ?_))))));refine cw_any_drawn follows [0,1,2,3,4,5,6,7,8,9,10,11] [3,4,8,9] 12 rfl rfl (by kernel_rfl) (fun _ _ d _ _ h=>by cases d<;>exact h) (fun cm W D=> ?_);refine pmv 0 cm rfl rfl D W fun _ D W=>(pnk 1 cm rfl rfl D W fun _ D W=>(pfa 2 cm rfl rfl (TF.fld_euf_Graph_0 _ _) D W fun _ D W=> ?_));obtain⟨x1,h1,H⟩:=H;refine vl 3 cm rfl rfl (fun hw=>(i_load1 TF.agg_int ((hw.cell _).trans h1))) D W fun _ D W=> ?_;obtain⟨x2,h2,H⟩:=H;refine an_q (i:=4) cm rfl (by kernel_rfl) W rfl rfl (wanted_none rfl) (fun w' hw a ha=>x_call0 (ha.ev rfl) (ha.evs rfl) FF.callable_euf_classes_find) h2 rfl ?_;intro _ hd W;replace D:=D.trans hd;clear hd;refine pmv 5 cm rfl rfl D W fun _ D W=>(pnk 6 cm rfl rfl D W fun _ D W=>(pfa 7 cm rfl rfl (TF.fld_euf_Graph_0 _ _) D W fun _ D W=> ?_));obtain⟨x3,h3,H⟩:=H;refine vl 8 cm rfl rfl (fun hw=>(i_load1 TF.agg_int ((hw.cell _).trans h3))) D W fun _ D W=> ?_;obtain⟨x4,h4,H⟩:=H;refine an_q (i:=9) cm rfl (by kernel_rfl) W rfl rfl (wanted_none rfl) (fun w' hw a ha=>x_call0 (ha.ev rfl) (ha.evs rfl) FF.callable_euf_classes_find) h4 rfl ?_;intro _ hd W;replace D:=D.trans hd;clear hd;refine pvd 10 cm rfl rfl rfl (fun w' a ha=>x_binOp (ha.ev rfl) (ha.ev rfl) o_eql) D fun _ D=>(pagd 11 cm rfl rfl D fun _ D=>(an_end (by kernel_rfl) D ?_));intro w1 D;replace H:=H _ D;clear D cm;exact nc (kp 4 rfl zz) (cw_ret (nx_body_ret (res1 rfl rfl) ⟨_,rfl,_,rfl,H⟩))
def vc_euf_Graph_Why (p1:Addr) (x1:Int) (x2:Int) (K:Option Addr→Nat→Nat→Int→World→Prop) (w:World):Prop:=
 ∀(p2:Addr) (w1:World),New w (.cells #[(.int .i64 x1)] T.int) p2 w1→(∀(p3:Addr) (w2:World),New w1 (.cells #[(.int .i64 x2)] T.int) p3 w2→(∃x4,w2.cell? p2=some (.int .i64 x4)∧∃x5,w2.cell? p3=some (.int .i64 x5)∧Calls P F.euf_Graph_there #[(.pointer (some p1)),(.int .i64 x4),(.int .i64 x5)] w2 (Ret fun v1 w3=>∃b1,v1=(.bool b1)∧((!b1)=true→(K none 0 0 80 w3))∧((!b1)=false→(∃x6,w3.cell? p2=some (.int .i64 x6)∧∃x7,(∀w',Drawn w3 w'→Calls P F.euf_classes_find #[(.pointer (some (p1.add 0))),(.int .i64 x6)] w' fun x w''=>x= .returned (.int .i64 x7)∧Drawn w' w'')∧∃x8,w3.cell? p3=some (.int .i64 x8)∧∃x9,(∀w',Drawn w3 w'→Calls P F.euf_classes_find #[(.pointer (some (p1.add 0))),(.int .i64 x8)] w' fun x w''=>x= .returned (.int .i64 x9)∧Drawn w' w'')∧∀w4,Drawn w3 w4→((x7≠x9→(K none 0 0 82 w4))∧(¬(x7≠x9)→(∀(m1:Nat) (w5:World),NewM w4 m1 w5→(∃x10,w5.cell? p2=some (.int .i64 x10)∧∃x11,w5.cell? p3=some (.int .i64 x11)∧Calls P F.euf_Graph_tags #[(.pointer (some p1)),(.int .i64 x10),(.int .i64 x11),(.map (some m1))] w5 (Ret fun v2 w6=>v2=(.tuple #[])∧Calls P F.euf_Graph_bare #[(.pointer (some p1)),(.map (some m1)),(.func (.func F.euf_Graph_Why_1) #[] #[(.pointer (some p2)),(.pointer (some p3))])] w6 (Ret fun v3 w7=>∃A2 n2 c2,v3=(.slice A2 n2 c2)∧K A2 n2 c2 0 w7)))))))))))
theorem ok_euf_Graph_Why (p1:Addr) (x1:Int) (x2:Int) (K:Option Addr→Nat→Nat→Int→World→Prop) (w:World) (H:vc_euf_Graph_Why p1 x1 x2 K w):Calls P F.euf_Graph_Why #[(.pointer (some p1)),(.int .i64 x1),(.int .i64 x2)] w (Ret fun v w'=>∃A1 n1 c1,∃x3,v=(.tuple #[(.slice A1 n1 c1),(.int .i64 x3)])∧K A1 n1 c1 x3 w'):=by
 unfold vc_euf_Graph_Why at H;refine calls_of (P:=P) Tryd.func14 rfl [(0,(.pointer (some p1))),(1,(.int .i64 x1)),(2,(.int .i64 x2))] 35 rfl rfl (aa rfl (aa rfl (aa rfl az))) (cw_seq (cw_region (sl_new (f:=(fun p=> .pointer (some p))) rfl rfl (wanted_none rfl) (fun a ha=>x_box (ha.ev rfl) i_box) ?_)));intro p2 w1 hN;replace H:=H _ _ hN;refine sl_new (f:=(fun p=> .pointer (some p))) rfl rfl (wanted_none rfl) (fun a ha=>x_box (ha.ev rfl) i_box) ?_;intro p3 w2 hN;replace H:=H _ _ hN;refine ag rfl (ag rfl (sl_nil (nc (kp 0 rfl (kp 4 rfl (kp 5 rfl zz))) (cw_seq (cw_seq (cw_region (mv rfl ?_)))))));obtain⟨x4,h3,H⟩:=H;refine ld rfl (i_load1 TF.agg_int h3) ?_;obtain⟨x5,h4,H⟩:=H;refine ld rfl (i_load1 TF.agg_int h4) (sl_call rfl rfl (wanted_none rfl) (fun a ha=>x_call0 (ha.ev rfl) (ha.evs rfl) FF.callable_euf_Graph_there) H ?_);rintro _ w3 ⟨b1,rfl,H⟩;refine sv rfl rfl (fun a ha=>x_unOp (ha.ev rfl) u_not) (sl_nil (nc (kp 0 rfl (kp 4 rfl (kp 5 rfl (kp 13 rfl zz)))) ?_));refine cw_cond rfl (fun hb=> ?_) (fun hb=> ?_)
 ·replace H:=H.1 hb;exact cw_seq (cw_region (ag rfl (ag rfl (sl_nil (nc (kp 6 rfl (kp 7 rfl zz)) (cw_ret (nx_ret_then (nx_body_ret (res2 rfl rfl rfl) ⟨_,rfl,_,_,_,_,rfl,H⟩))))))))
 ·replace H:=H.2 hb;refine cw_skip (nc (kp 0 rfl (kp 4 rfl (kp 5 rfl zz))) (cw_seq (cw_seq ?_)));refine cw_any_drawn follows [0,1,2,3,4,5,6,7,8,9,10] [3,4,8,9] 11 rfl rfl (by kernel_rfl) (fun _ _ d _ _ h=>by cases d<;>exact h) (fun cm W D=> ?_);refine pmv 0 cm rfl rfl D W fun _ D W=>(pnk 1 cm rfl rfl D W fun _ D W=>(pfa 2 cm rfl rfl (TF.fld_euf_Graph_0 _ _) D W fun _ D W=> ?_));obtain⟨x6,h5,H⟩:=H;refine vl 3 cm rfl rfl (fun hw=>(i_load1 TF.agg_int ((hw.cell _).trans h5))) D W fun _ D W=> ?_;obtain⟨x7,h6,H⟩:=H;refine an_q (i:=4) cm rfl (by kernel_rfl) W rfl rfl (wanted_none rfl) (fun w' hw a ha=>x_call0 (ha.ev rfl) (ha.evs rfl) FF.callable_euf_classes_find) h6 rfl ?_;intro _ hd W;replace D:=D.trans hd;clear hd;refine pmv 5 cm rfl rfl D W fun _ D W=>(pnk 6 cm rfl rfl D W fun _ D W=>(pfa 7 cm rfl rfl (TF.fld_euf_Graph_0 _ _) D W fun _ D W=> ?_));obtain⟨x8,h7,H⟩:=H;refine vl 8 cm rfl rfl (fun hw=>(i_load1 TF.agg_int ((hw.cell _).trans h7))) D W fun _ D W=> ?_;obtain⟨x9,h8,H⟩:=H;refine an_q (i:=9) cm rfl (by kernel_rfl) W rfl rfl (wanted_none rfl) (fun w' hw a ha=>x_call0 (ha.ev rfl) (ha.evs rfl) FF.callable_euf_classes_find) h8 rfl ?_;intro _ hd W;replace D:=D.trans hd;clear hd;refine pvd 10 cm rfl rfl rfl (fun w' a ha=>x_binOp (ha.ev rfl) (ha.ev rfl) o_neq) D fun _ D=>(an_end (by kernel_rfl) D ?_);intro w4 D;replace H:=H _ D;clear D cm;refine nc (kp 0 rfl (kp 4 rfl (kp 5 rfl (kp 24 rfl zz)))) ?_;refine cw_cond_p rfl (fun hb=> ?_) (fun hb=> ?_)
  ·replace H:=H.1 hb;exact cw_seq (cw_region (ag rfl (ag rfl (sl_nil (nc (kp 6 rfl (kp 7 rfl zz)) (cw_ret (nx_ret_then (nx_body_ret (res2 rfl rfl rfl) ⟨_,rfl,_,_,_,_,rfl,H⟩))))))))
  ·replace H:=H.2 hb;refine cw_skip (nc (kp 0 rfl (kp 4 rfl (kp 5 rfl zz))) (cw_seq (cw_region (sl_newm rfl rfl (wanted_none rfl) (fun a ha=>x_makeMap i_makeMap) ?_))));intro m1 w5 hN;replace H:=H _ _ hN;refine ag rfl (sl_nil (nc (kp 0 rfl (kp 4 rfl (kp 5 rfl (kp 8 rfl zz)))) (cw_seq (cw_region (mv rfl ?_)))));obtain⟨x10,h9,H⟩:=H;refine ld rfl (i_load1 TF.agg_int h9) ?_;obtain⟨x11,h10,H⟩:=H;refine ld rfl (i_load1 TF.agg_int h10) (mv rfl (sl_call rfl rfl (wanted_none rfl) (fun a ha=>x_call0 (ha.ev rfl) (ha.evs rfl) FF.callable_euf_Graph_tags) H ?_));rintro _ w6 ⟨rfl,H⟩;refine sl_nil (nc (kp 0 rfl (kp 4 rfl (kp 5 rfl (kp 8 rfl zz)))) (cw_seq (cw_region (mv rfl (mv rfl (sv rfl rfl (fun a ha=>x_makeFunc (ha.evs rfl) (ha.evs rfl)) (sl_call rfl rfl (wanted_none rfl) (fun a ha=>x_call0 (ha.ev rfl) (ha.evs rfl) FF.callable_euf_Graph_bare) H ?_)))))));rintro _ w7 ⟨A2,n2,c2,rfl,H⟩;exact ag rfl (ag rfl (sl_nil (nc (kp 6 rfl (kp 7 rfl zz)) (cw_ret (nx_body_ret (res2 rfl rfl rfl) ⟨_,rfl,_,_,_,_,rfl,H⟩)))))
end Go.Proofs.YtbmbhfghpidggaaDoor
namespace Go.Proofs.YtbmbhfghpidggaaDoor
set_option linter.unusedVariables false
set_option linter.unusedSimpArgs false
open Wk
section
variable {B0:Nat} {w w' w0:World} {p U:Addr} {M N:Nat} {A:Nat→Option Addr} {n c:Nat→Nat} {H:Nat→Prop} {g:GS}
theorem Row.snocI {base:Nat} {A:Option Addr} {n c:Nat} {l:List Int} (h:Row w base T.int 1 A n c (l.map iv)) {x:Int} {q:Addr} (hc:CellsAt w q [iv x]) (hn:n+1≤1099511627776) (hb:base≤w.heap.size):
  ∃A' c' w',(Builtin.append_ #[T.sl_int,T.sl_int] T.sl_int #[.slice A n c,.slice (some q) 1 1]).run P w= .ok (.slice A' (n+1) c') w'∧Row w' base T.int 1 A' (n+1) c' ((l++[x]).map iv)∧Keep (At A) w w'∧∀b,At A' b→At A b∨w.heap.size≤b:=by
 have:=h.append (P:=P) (t:=T.sl_int) (ty:=T.sl_int) (m:=1) (c2:=1) gIntE gIntI (by decide) (news:=[iv x]) rfl hc (by intro u hu;simp at hu;subst hu;rfl) (by omega) (by omega) hb
 simpa using this
theorem up_get {why:List Edge} {x:Int} {l:List Int} (h:Up why x l):∀{i:Nat} {z:Int},l[i]? =some z→((edgeAt why z).to<0∧i+1=l.length)∨(0≤(edgeAt why z).to∧l[i+1]? =some (edgeAt why z).to):=by
 induction h with
 | @stop x h0=>
  intro i z hz
  cases i with
  |zero=>simp at hz;subst hz;exact .inl ⟨h0,rfl⟩
  |succ i=>simp at hz
 | @step x l h0 h1 ih=>
  intro i z hz
  cases i with
  |zero=>
   simp at hz
   subst hz
   obtain⟨t,ht⟩:=h1.head
   exact .inr ⟨h0,by rw[ht];rfl⟩
  |succ i=>
   rcases ih (i:=i) (z:=z) (by simpa using hz) with⟨k1,k2⟩|⟨k1,k2⟩
   ·exact .inl ⟨k1,by simp[k2]⟩
   ·exact .inr ⟨k1,by simpa using k2⟩
theorem path_is {W m:Nat} {us l:List Edge} {a:Int} (h:GRep B0 w p U M N A n c H g) (k:GInv W m g us l) (ha:Vn g.nodes.length a):
  Calls P F.euf_Graph_path #[.pointer (some p),.int .i64 a] w (Ret fun v w'=>∃B d,v= .slice B (pathOf g a).length d∧Row w' w.heap.size T.int 1 B (pathOf g a).length d ((pathOf g a).map iv)∧Ext w w'):=by
 refine Ret.mono (ok_euf_Graph_path p a (fun B m d w'=>m=(pathOf g a).length∧Row w' w.heap.size T.int 1 B (pathOf g a).length d ((pathOf g a).map iv)∧Ext w w') w ?_) (by rintro _ w' ⟨B,m,d,rfl,rfl,h1,h2⟩;exact⟨B,d,rfl,h1,h2⟩)
 obtain⟨up,vv⟩:=k.way ha
 have hlen:=nodup_len _ _ up.nodup fun y hy=>(vv y hy).1
 have few:=k.few
 have h0:(pathOf g a)[0]? =some a:=by obtain⟨t,ht⟩:=up.head;rw[ht];rfl
 unfold vc_euf_Graph_path
 intro p2 w1 hN1
 refine⟨fun kk x B m d w'=>∃i,kk=(pathOf g a).length-i∧(pathOf g a)[i]? =some x∧m=i+1∧Row w' w.heap.size T.int 1 B m d (((pathOf g a).take (i+1)).map iv)∧Ext w w',⟨_,0,rfl,h0,rfl,?_,Ext.of_new hN1⟩,?_⟩
 ·have:=Row.new (s:=1) (n:=1) (vs:=[iv a]) hN1 rfl rfl
  rw[take_succ_of h0]
  simpa using this
 ·rintro kk x B m d w2 ⟨i,rfl,hx,rfl,hR,hE⟩
  have g2:=h.stay hE
  have vx:=(vv x (List.mem_of_getElem? hx)).1
  obtain⟨q1,q2,q3,a5,q4,q5,q6⟩:=g2.edge vx.1 (vn_some' k.forest.len vx)
  have hi:=(List.getElem?_eq_some_iff.1 hx).1
  refine⟨_,_,_,q1,vx.1,q2,a5,q4,_,q5 0 _ rfl,fun hto=>⟨_,_,_,q1,vx.1,q2,a5,q4,_,q5 0 _ rfl,fun p3 w3 hN3=> ?_⟩,fun hto=> ?_⟩
  ·rcases up_get up hx with⟨k1,_⟩|⟨k1,k2⟩
   ·omega
   have E3:=Ext.of_new hN3
   obtain⟨B',c',w4,hr,hR',hK,hB'⟩:=(hR.keep E3 (fun _ _ h=>h)).snocI (x:=(edgeAt g.why x).to) (q:=p3) (hN3.cells rfl) (by omega) (hE.trans E3).size
   refine⟨B',_,c',w4,hr,(pathOf g a).length-(i+1),by omega,i+1,rfl,k2,rfl,?_,?_⟩
   ·rw[take_succ_of k2];exact hR'
   ·refine(hE.trans E3).over hK fun b hb hh=> ?_
    have:=(hR.at hh).1
    omega
  ·rcases up_get up hx with⟨_,k2⟩|⟨k1,_⟩
   ·rw[k2,List.take_length] at hR
    exact⟨k2,hR,hE⟩
   ·omega
theorem row_last {base:Nat} {A:Option Addr} {c:Nat} {l:List Int} (h:Row w base T.int 1 A l.length c (l.map iv)) (hl:0<l.length) (hs:l.length≤1099511627776):IntKind.wrap .i64 ((l.length:Int)-1)=((l.length-1:Nat):Int)∧∃a,A=some a∧w.cell? (a.add ((l.length-1)*1))=some (iv (endOf l)):=by
 refine⟨by rw[wrap_small (by omega) (by omega)];omega,?_⟩
 obtain⟨a,v,hA,hv,hc,_⟩:=h.get (i:=((l.length-1:Nat):Int)) (by omega) (by omega)
 rw[Int.toNat_natCast] at hv hc
 refine⟨a,hA,?_⟩
 rw[hc]
 have hne:l≠[]:=List.length_pos_iff.1 hl
 have:l[l.length-1]? =some (endOf l):=by
  conv=>lhs;rw[split_end hne]
  rw[List.getElem?_append_right (by simp),List.length_dropLast]
  simp
 rw[List.getElem?_map,this] at hv
 exact hv.symm
theorem between_is {W m:Nat} {us l:List Edge} {a b:Int} (h:GRep B0 w p U M N A n c H g) (k:GInv W m g us l) (ha:Vn g.nodes.length a) (hb:Vn g.nodes.length b):
  Calls P F.euf_Graph_between #[.pointer (some p),.int .i64 a,.int .i64 b] w (Ret fun v w'=>∃B d C e,v= .tuple #[.slice B (betw g a b).1.length d,.slice C (betw g a b).2.length e]∧Row w' w.heap.size T.int 1 B (betw g a b).1.length d ((betw g a b).1.map iv)∧Row w' w.heap.size T.int 1 C (betw g a b).2.length e ((betw g a b).2.map iv)∧Ext w w'):=by
 refine Ret.mono (ok_euf_Graph_between p a b (fun B m d C m' e w'=>m=(betw g a b).1.length∧m'=(betw g a b).2.length∧Row w' w.heap.size T.int 1 B (betw g a b).1.length d ((betw g a b).1.map iv)∧Row w' w.heap.size T.int 1 C (betw g a b).2.length e ((betw g a b).2.map iv)∧Ext w w') w ?_) (by rintro _ w' ⟨B,m,d,C,m',e,rfl,rfl,rfl,h1,h2,h3⟩;exact⟨B,d,C,e,rfl,h1,h2,h3⟩)
 have few:=k.few
 obtain⟨ua,va⟩:=k.way ha
 obtain⟨ub,vb⟩:=k.way hb
 have la:=nodup_len _ _ ua.nodup fun y hy=>(va y hy).1
 have lb:=nodup_len _ _ ub.nodup fun y hy=>(vb y hy).1
 unfold vc_euf_Graph_between
 refine(path_is h k ha).mono ?_
 rintro _ w1 ⟨_,rfl,B1,d1,rfl,R1,E1⟩
 refine⟨_,rfl,B1,_,d1,rfl,?_⟩
 refine(path_is (h.stay E1) k hb).mono ?_
 rintro _ w2 ⟨_,rfl,B2,d2,rfl,R2,E2⟩
 refine⟨_,rfl,B2,_,d2,rfl,?_⟩
 refine⟨fun kk B m d C m' e w'=>∃f u t,kk=u.length∧m=u.length∧m'=t.length∧stripC f u t=betw g a b∧(u.length≤f∨t.length≤f)∧u.length≤1048576∧t.length≤1048576∧Row w' w.heap.size T.int 1 B u.length d (u.map iv)∧Row w' w.heap.size T.int 1 C t.length e (t.map iv)∧Ext w w',⟨_,g.nodes.length,pathOf g a,pathOf g b,rfl,rfl,rfl,rfl,.inl la,by omega,by omega,R1.keep E2 (fun _ _ h=>h),R2.rebase E1.size,E1.trans E2⟩,?_⟩
 rintro kk B m d C m' e w3 ⟨f,u,t,rfl,rfl,rfl,hst,hf,lu,lt,RB,RC,E3⟩
 have stop:(¬(u≠[]∧t≠[]∧endOf u=endOf t))→stripC f u t=(u,t):=fun hn=>by
  cases f with
  |zero=>rfl
  |succ f=>
   show(if _ then _ else _)=_
   rw[if_neg hn]
 have no:∀w4,Drawn w3 w4→(¬(u≠[]∧t≠[]∧endOf u=endOf t))→u.length=(betw g a b).1.length∧t.length=(betw g a b).2.length∧Row w4 w.heap.size T.int 1 B (betw g a b).1.length d ((betw g a b).1.map iv)∧Row w4 w.heap.size T.int 1 C (betw g a b).2.length e ((betw g a b).2.map iv)∧Ext w w4:=by
  intro w4 hw4 hn
  rw[←hst,stop hn]
  exact⟨rfl,rfl,RB.keep (Ext.of_drawn hw4) (fun _ _ h=>h),RC.keep (Ext.of_drawn hw4) (fun _ _ h=>h),E3.drawn hw4⟩
 refine⟨fun hu=>⟨fun ht=> ?_,fun ht w6 hw6=>⟨fun q=>(by cases q),fun _=>no w6 hw6 ?_⟩⟩,fun hu w7 hw7=>⟨fun q=>(by cases q),fun _=>no w7 hw7 ?_⟩⟩
 ·obtain⟨e1,a1,hA1,hc1⟩:=row_last RB (by omega) (by omega)
  obtain⟨e2,a2,hA2,hc2⟩:=row_last RC (by omega) (by omega)
  rw[e1,e2,Int.toNat_natCast,Int.toNat_natCast]
  refine⟨by omega,by omega,a1,hA1,_,hc1,by omega,by omega,a2,hA2,_,hc2,fun w4 hw4=>⟨fun q=> ?_,fun q=> ?_⟩⟩
  ·have heq:=of_decide_eq_true q
   have cb:=RB.le
   have cc:=RC.le
   rw[e1,e2,Int.toNat_natCast,Int.toNat_natCast]
   refine⟨by omega,by omega,by omega,by omega,fun w8 hw8=> ?_⟩
   have hne1:u≠[]:=List.length_pos_iff.1 (by omega)
   have hne2:t≠[]:=List.length_pos_iff.1 (by omega)
   have E8:=Ext.of_drawn (hw4.trans hw8)
   cases f with
   |zero=>omega
   |succ f=>
    have es:stripC (f+1) u t=stripC f u.dropLast t.dropLast:=by
     show(if _ then _ else _)=_
     rw[if_pos ⟨hne1,hne2,heq⟩]
    have d1:(u.map iv).take ((u.length-1)*1)=u.dropLast.map iv:=by rw[Nat.mul_one,←List.map_take,List.dropLast_eq_take]
    have d2:(t.map iv).take ((t.length-1)*1)=t.dropLast.map iv:=by rw[Nat.mul_one,←List.map_take,List.dropLast_eq_take]
    have r1:=(RB.cut (m:=u.length-1) (d:=d) (by omega) (by omega) (Nat.le_refl _)).keep E8 (fun _ _ h=>h)
    have r2:=(RC.cut (m:=t.length-1) (d:=e) (by omega) (by omega) (Nat.le_refl _)).keep E8 (fun _ _ h=>h)
    rw[d1] at r1
    rw[d2] at r2
    refine⟨u.length-1,by omega,f,u.dropLast,t.dropLast,by simp,by simp,by simp,by rw[←es];exact hst,by simp;omega,by simp;omega,by simp;omega,?_,?_,E3.trans E8⟩
    ·rw[List.length_dropLast];exact r1
    ·rw[List.length_dropLast];exact r2
  ·exact no w4 hw4 fun hh=>(of_decide_eq_false q) (by rw[hh.2.2])
 ·exact fun hh=>ht (by have:=List.length_pos_iff.2 hh.2.1;omega)
 ·exact fun hh=>hu (by have:=List.length_pos_iff.2 hh.1;omega)
end
end Go.Proofs.YtbmbhfghpidggaaDoor
namespace Go.Proofs.YtbmbhfghpidggaaDoor
set_option linter.unusedVariables false
set_option linter.unusedSimpArgs false
open Wk
def Sn (seen:List Bool) (n:Int):Prop:=seen.getD n.toNat false=true
def argc (g:GS) (n:Nat):Nat:=if (edgeAt g.why (n:Int)).cong=true then(nodeOf g.nodes (edgeAt g.why (n:Int)).a).args.length else 0
def usum (g:GS) (seen:List Bool):Nat:=((List.range g.nodes.length).map fun i:Nat=>if seen.getD i false=true then 0 else argc g i).sum
theorem usum_set (g:GS) {seen:List Bool} {n:Nat} (hn:n<g.nodes.length) (hl:seen.length=g.nodes.length) (h0:seen.getD n false=false):usum g (seen.set n true)+argc g n=usum g seen:=by
 have:=sum_one (fun i:Nat=>if seen.getD i false=true then 0 else argc g i) (fun i:Nat=>if (seen.set n true).getD i false=true then 0 else argc g i) n (List.range g.nodes.length) List.nodup_range (List.mem_range.2 hn) (fun x _ hx=>by
  show(if (seen.set n true).getD x false=true then 0 else argc g x)=(if seen.getD x false=true then 0 else argc g x)
  rw[getD_set_ne (fun q=>hx q.symm)])
 simp only[h0] at this
 rw[getD_set_self (by omega)] at this
 simp only[if_true] at this
 show(List.map _ _).sum+_=(List.map _ _).sum
 simpa using this
theorem argc_le {g:GS} {W:Nat} (h:∀x∈g.nodes,x.args.length≤W) (n:Nat):argc g n≤W:=by
 unfold argc
 split
 ·unfold nodeOf
  rw[List.getD_eq_getElem?_getD]
  cases hq:g.nodes[(edgeAt g.why (n:Int)).a.toNat]? with
  |none=>simp
  |some x=>exact h x (List.mem_of_getElem? hq)
 ·omega
theorem usum_le {g:GS} {W:Nat} (h:∀x∈g.nodes,x.args.length≤W) (seen:List Bool):usum g seen≤g.nodes.length*W:=by
 have h1:=sum_le_map (fun i:Nat=>if seen.getD i false=true then 0 else argc g i) (fun _=>W) (List.range g.nodes.length) (fun x _=>by
  show(if _ then 0 else argc g x)≤W
  have:=argc_le h x
  split<;>omega)
 rw[sum_const,List.length_range] at h1
 exact h1
structure TInv (g:GS) (a b:Int) (ks0:List (Int×Int)) (seen:List Bool) (ks:List (Int×Int)) (L:List (Int×Int)) (Ex:Int→Nat→Prop):Prop where
 len:seen.length=g.nodes.length
 tg:∀n,Sn seen n→Vn g.nodes.length n→0≤(edgeAt g.why n).to→(edgeAt g.why n).cong=false→(aget ks (edgeAt g.why n).tag).isSome=true
 cg:∀n,Sn seen n→Vn g.nodes.length n→0≤(edgeAt g.why n).to→(edgeAt g.why n).cong=true→∀(i:Nat) x y,(nodeOf g.nodes (edgeAt g.why n).a).args[i]? =some x→(nodeOf g.nodes (edgeAt g.why n).b).args[i]? =some y→Cov g (Sn seen) x y∨(x,y)∈L∨Ex n i
 ini:Cov g (Sn seen) a b∨(a,b)∈L
 val:∀q∈L,Vn g.nodes.length q.1∧Vn g.nodes.length q.2∧fd g q.1=fd g q.2
 old:∀k,(aget ks0 k).isSome=true→(aget ks k).isSome=true
 src:∀t∈ks.map (·.1),t∈ks0.map (·.1)∨∃z,Vn g.nodes.length z∧(edgeAt g.why z).tag=t
theorem sn_set {seen:List Bool} {n:Int} (z:Int) (h:Sn seen z):Sn (seen.set n.toNat true) z:=by
 unfold Sn at*
 by_cases q:n.toNat=z.toNat
 ·rw[←q]
  rw[←q] at h
  rw[getD_set_self]
  rw[List.getD_eq_getElem?_getD] at h
  rcases Nat.lt_or_ge n.toNat seen.length with hl|hl
  ·exact hl
  ·rw[List.getElem?_eq_none hl] at h
   cases h
 ·rw[getD_set_ne q];exact h
theorem sn_set_inv {seen:List Bool} {n z:Int} (hn:0≤n) (hz:0≤z) (h:Sn (seen.set n.toNat true) z):Sn seen z∨z=n:=by
 unfold Sn at*
 by_cases q:n.toNat=z.toNat
 ·right;omega
 ·rw[getD_set_ne q] at h;exact .inl h
theorem Cov.mono {g:GS} {S S':Int→Prop} (h:∀z,S z→S' z) {a b:Int} (c:Cov g S a b):Cov g S' a b:=fun n hn=>h n (c n hn)
theorem aget_aset_some {ks:List (Int×Int)} {t v k:Int} (h:(aget ks k).isSome=true):(aget (aset ks t v) k).isSome=true:=by
 rw[aget_aset]
 split
 ·rfl
 ·exact h
theorem aset_mem {ks:List (Int×Int)} {k v t:Int} (h:t∈(aset ks k v).map (·.1)):t=k∨t∈ks.map (·.1):=by
 induction ks with
 |nil=>simp[aset] at h;exact .inl h
 |cons x ks ih=>
  by_cases hx:x.1=k
  ·simp only[aset,hx,if_true,List.map_cons,List.mem_cons] at h
   exact h.imp id fun h=>List.mem_cons_of_mem _ h
  ·simp only[aset,hx,if_false,List.map_cons,List.mem_cons] at h
   rcases h with h|h
   ·exact .inr (by simp[h])
   ·exact(ih h).imp id fun h=>List.mem_cons_of_mem _ h
section
variable {g:GS} {a b:Int} {ks0 ks:List (Int×Int)} {seen:List Bool} {L L':List (Int×Int)} {Ex Ex':Int→Nat→Prop}
theorem TInv.start {k0:List (Int×Int)} (ha:Vn g.nodes.length a) (hb:Vn g.nodes.length b) (e:fd g a=fd g b):TInv g a b k0 (List.replicate g.nodes.length false) k0 [(a,b)] (fun _ _=>False):=by
 have no:∀n,¬Sn (List.replicate g.nodes.length false) n:=fun n h=>by
  unfold Sn at h
  rw[List.getD_eq_getElem?_getD,List.getElem?_replicate] at h
  split at h<;>cases h
 exact⟨by simp,fun n h=>absurd h (no n),fun n h=>absurd h (no n),.inr (by simp),fun q hq=>by simp at hq;subst hq;exact⟨ha,hb,e⟩,fun _ h=>h,fun _ h=> .inl h⟩
theorem TInv.perm (h:TInv g a b ks0 seen ks L Ex) (hL:∀q,q∈L↔q∈L'):TInv g a b ks0 seen ks L' Ex:=
 ⟨h.len,h.tg,fun n h1 h2 h3 h4 i x y hx hy=>(h.cg n h1 h2 h3 h4 i x y hx hy).imp id fun k=>k.imp (fun k=>(hL _).1 k) id,h.ini.imp id fun k=>(hL _).1 k,fun q hq=>h.val q ((hL q).2 hq),h.old,h.src⟩
theorem TInv.mark (h:TInv g a b ks0 seen ks L fun _ _=>False) {n:Int} (vn:Vn g.nodes.length n) (hc:(edgeAt g.why n).cong=false) (v:Int):TInv g a b ks0 (seen.set n.toNat true) (aset ks (edgeAt g.why n).tag v) L fun _ _=>False:=by
 refine⟨by rw[List.length_set];exact h.len,fun z h1 h2 h3 h4=> ?_,fun z h1 h2 h3 h4 i x y hx hy=> ?_,h.ini.imp (fun k=>k.mono sn_set) id,h.val,fun k hk=>aget_aset_some (h.old k hk),fun t ht=>(aset_mem ht).elim (fun e=> .inr ⟨n,vn,e.symm⟩) fun ht=>h.src t ht⟩
 ·rcases sn_set_inv vn.1 h2.1 h1 with q|q
  ·exact aget_aset_some (h.tg z q h2 h3 h4)
  ·rw[q,aget_aset,if_pos rfl];rfl
 ·rcases sn_set_inv vn.1 h2.1 h1 with q|q
  ·exact(h.cg z q h2 h3 h4 i x y hx hy).imp (fun k=>k.mono sn_set) id
  ·rw[q,hc] at h4;cases h4
theorem TInv.open_ (h:TInv g a b ks0 seen ks L fun _ _=>False) {n:Int} (vn:Vn g.nodes.length n) (hc:(edgeAt g.why n).cong=true):TInv g a b ks0 (seen.set n.toNat true) ks L fun z i=>z=n∧0≤i:=by
 refine⟨by rw[List.length_set];exact h.len,fun z h1 h2 h3 h4=> ?_,fun z h1 h2 h3 h4 i x y hx hy=> ?_,h.ini.imp (fun k=>k.mono sn_set) id,h.val,h.old,h.src⟩
 ·rcases sn_set_inv vn.1 h2.1 h1 with q|q
  ·exact h.tg z q h2 h3 h4
  ·rw[q,hc] at h4;cases h4
 ·rcases sn_set_inv vn.1 h2.1 h1 with q|q
  ·rcases h.cg z q h2 h3 h4 i x y hx hy with k|k|k
   ·exact .inl (k.mono sn_set)
   ·exact .inr (.inl k)
   ·exact k.elim
  ·exact .inr (.inr ⟨q,Nat.zero_le _⟩)
theorem TInv.add {n:Int} {j:Nat} (h:TInv g a b ks0 seen ks L fun z i=>z=n∧j≤i) {x y:Int} (hx:(nodeOf g.nodes (edgeAt g.why n).a).args[j]? =some x) (hy:(nodeOf g.nodes (edgeAt g.why n).b).args[j]? =some y) (vx:Vn g.nodes.length x) (vy:Vn g.nodes.length y) (e:fd g x=fd g y):
  TInv g a b ks0 seen ks (L++[(x,y)]) fun z i=>z=n∧j+1≤i:=by
 refine⟨h.len,h.tg,fun z h1 h2 h3 h4 i x' y' hx' hy'=> ?_,h.ini.imp id fun k=>by simp[k],fun q hq=> ?_,h.old,h.src⟩
 ·rcases h.cg z h1 h2 h3 h4 i x' y' hx' hy' with k|k|⟨rfl,k⟩
  ·exact .inl k
  ·exact .inr (.inl (by simp[k]))
  ·rcases Nat.lt_or_ge j i with q|q
   ·exact .inr (.inr ⟨rfl,q⟩)
   ·have:i=j:=by omega
    subst this
    rw[hx] at hx'
    rw[hy] at hy'
    cases hx'
    cases hy'
    exact .inr (.inl (by simp))
 ·rcases List.mem_append.1 hq with hq|hq
  ·exact h.val q hq
  ·simp at hq;subst hq;exact⟨vx,vy,e⟩
theorem TInv.close {n:Int} {j:Nat} (h:TInv g a b ks0 seen ks L fun z i=>z=n∧j≤i) (hj:(nodeOf g.nodes (edgeAt g.why n).a).args.length≤j):TInv g a b ks0 seen ks L fun _ _=>False:=by
 refine⟨h.len,h.tg,fun z h1 h2 h3 h4 i x y hx hy=> ?_,h.ini,h.val,h.old,h.src⟩
 rcases h.cg z h1 h2 h3 h4 i x y hx hy with k|k|⟨rfl,k⟩
 ·exact .inl k
 ·exact .inr (.inl k)
 ·have:=(List.getElem?_eq_some_iff.1 hx).1
  omega
theorem TInv.done {x y:Int} (h:TInv g a b ks0 seen ks ((x,y)::L) fun _ _=>False) (hc:Cov g (Sn seen) x y):TInv g a b ks0 seen ks L fun _ _=>False:=by
 refine⟨h.len,h.tg,fun z h1 h2 h3 h4 i x' y' hx hy=> ?_,?_,fun q hq=>h.val q (List.mem_cons_of_mem _ hq),h.old,h.src⟩
 ·rcases h.cg z h1 h2 h3 h4 i x' y' hx hy with k|k|k
  ·exact .inl k
  ·rcases List.mem_cons.1 k with k|k
   ·cases k;exact .inl hc
   ·exact .inr (.inl k)
  ·exact k.elim
 ·rcases h.ini with k|k
  ·exact .inl k
  ·rcases List.mem_cons.1 k with k|k
   ·cases k;exact .inl hc
   ·exact .inr k
theorem TInv.cc {W m:Nat} {us l:List Edge} (h:TInv g a b ks0 seen ks [] fun _ _=>False) (k:GInv W m g us l) (s:Sem g us g.stand) (ha:Vn g.nodes.length a) (hb:Vn g.nodes.length b) (e:fd g a=fd g b):CC g.nodes (eqsT g.stand fun t=>(aget ks t).isSome=true) a b:=by
 have hc:Cov g (Sn seen) a b:=h.ini.resolve_right (by simp)
 refine cov_cc k s (S:=Sn seen) (fun n h1 h2 h3 h4=>h.tg n h1 h2 h3 h4) (fun n h1 h2 h3 h4 i x y hx hy=> ?_) us.length a b ha hb (by rw[List.take_length];exact k.conn1 a b ha hb e) hc
 rcases h.cg n h1 h2 h3 h4 i x y hx hy with q|q|q
 ·exact q
 ·simp at q
 ·exact q.elim
end
end Go.Proofs.YtbmbhfghpidggaaDoor
namespace Go.Proofs.YtbmbhfghpidggaaDoor
set_option linter.unusedVariables false
set_option linter.unusedSimpArgs false
open Wk
theorem lookup_val {α β:Type} [DecidableEq α] {mk:α→Value} {mv:β→Value} {P:Program} {kt:TypeId} {kind:TypeDesc} {w:World} {M:Nat} {l:List (α×β)} {t e:TypeId} (h:MapIs mk mv w M l) (K:KeyOk P kt kind mk) (ht:P.underlying t=some (.map kt e)) {z:Value} (hz:(zeroValue e).run P w= .ok z w) (k:α):
  (Instr.lookup t (.map (some M)) (mk k) false).run P w= .ok (match aget l k with|some v=>mv v|none=>z) w:=by
 obtain⟨es,clock,h1,h2,h3⟩:=h
 have hg:=MapKept.run_getObj_map (P:=P) h1
 rcases findNow_spec K k es.toList l 0 h2 with⟨g1,g2,_⟩|⟨j,v,g0,g1,g2,_⟩
 ·simp[Instr.lookup,run_underlying ht,hg,K.check,findKey_run K g2,hz,g1,Result.andThen]
 ·simp[Instr.lookup,run_underlying ht,hg,K.check,findKey_run K g2,g1,Result.andThen]
theorem uMapI:P.underlying T.map_int_int=some (.map T.int T.int):=by kernel_rfl
theorem kMapI:KeyOk P T.int (.int .i64) (Value.int .i64):=keyOk_int (by kernel_rfl)
def bv (q:Int×Int):List Value:=[iv q.1,iv q.2]
theorem bv_len (q:Int×Int):(bv q).length=2:=rfl
structure TF (w:World) (m1:Nat) (Y:Addr) (w':World) (D:Option Addr) (d:Nat) (ns:List Int) (Z:Option Addr) (zc:Nat) (seen:List Bool) (ks wl:List (Int×Int)):Prop where
 kw:Keep (fun b=>b=m1) w w'
 yb:Y.block=w.heap.size
 sn:Own w' w.heap.size T.bool 1 (some Y) seen.length seen.length (seen.map Value.bool)
 wk:Row w' (w.heap.size+1) T.api_Both 2 D wl.length d (wl.flatMap bv)
 nz:Row w' (w.heap.size+1) T.int 1 Z ns.length zc (ns.map iv)
 ap:∀b,At D b→¬At Z b
 mp:MapIs (Value.int .i64) iv w' m1 ks
 mw:m1<w.heap.size
section
variable {w w' w'':World} {m1:Nat} {Y:Addr} {D:Option Addr} {d:Nat} {ns:List Int} {Z:Option Addr} {zc:Nat} {seen:List Bool} {ks wl:List (Int×Int)}
theorem TF.ext (h:TF w m1 Y w' D d ns Z zc seen ks wl) (k:Ext w' w''):TF w m1 Y w'' D d ns Z zc seen ks wl:=
 ⟨h.kw.over k (fun _ _ h=>h.elim),h.yb,h.sn.keep k (fun _ _ h=>h),h.wk.keep k (fun _ _ h=>h),h.nz.keep k (fun _ _ h=>h),h.ap,h.mp.keep k (fun h=>h),h.mw⟩
theorem TF.see (h:TF w m1 Y w' D d ns Z zc seen ks wl) {n:Nat} (hn:n<seen.length) (hw:w''=w'.setCell (Y.add (n*1)) (.bool true)):TF w m1 Y w'' D d ns Z zc (seen.set n true) ks wl:=by
 have hk:=setCell_keep hw
 rw[Addr.add_block] at hk
 have yb:=h.yb
 have mw:=h.mw
 refine⟨h.kw.over hk (fun i hi hh=>by omega),h.yb,?_,h.wk.keep hk (fun b hb hh=>by have:=(h.wk.at hb).1;omega),h.nz.keep hk (fun b hb hh=>by have:=(h.nz.at hb).1;omega),h.ap,h.mp.keep hk (fun hh=>by omega),h.mw⟩
 rw[Nat.mul_one] at hw
 have:=h.sn.set1 rfl hn hw
 rw[←List.map_set] at this
 rw[List.length_set]
 exact this
theorem TF.map_ (h:TF w m1 Y w' D d ns Z zc seen ks wl) {ks':List (Int×Int)} (hm:MapIs (Value.int .i64) iv w'' m1 ks') (hk:Keep (fun b=>b=m1) w' w''):TF w m1 Y w'' D d ns Z zc seen ks' wl:=by
 have yb:=h.yb
 have mw:=h.mw
 exact⟨h.kw.trans hk,h.yb,h.sn.keep hk (fun b hb hh=>by have:=(h.sn.at hb).1;omega),h.wk.keep hk (fun b hb hh=>by have:=(h.wk.at hb).1;omega),h.nz.keep hk (fun b hb hh=>by have:=(h.nz.at hb).1;omega),h.ap,hm,h.mw⟩
theorem both_iN:infoN P T.api_Both=some (2,16,2):=by kernel_rfl
theorem both_eT:elemT P T.sl_api_Both=some T.api_Both:=by kernel_rfl
theorem TF.push (h:TF w m1 Y w' D d ns Z zc seen ks wl) {x:Int×Int} {q:Addr} (hc:CellsAt w' q (bv x)) (hl:wl.length+1≤1099511627776) (hz:w.heap.size+1≤w'.heap.size):
  ∃D' d' w'',(Builtin.append_ #[T.sl_api_Both,T.sl_api_Both] T.sl_api_Both #[.slice D wl.length d,.slice (some q) 1 1]).run P w'= .ok (.slice D' (wl.length+1) d') w''∧TF w m1 Y w'' D' d' ns Z zc seen ks (wl++[x])∧Keep (At D) w' w''∧∀b,At D' b→At D b∨w'.heap.size≤b:=by
 obtain⟨D',d',w'',hr,hR,hK,hD'⟩:=h.wk.append (P:=P) (t:=T.sl_api_Both) (ty:=T.sl_api_Both) (m:=1) (c2:=1) both_eT both_iN (by decide) (news:=bv x) rfl hc (by intro u hu;simp[bv] at hu;rcases hu with rfl|rfl<;>rfl) (by omega) (by omega) hz
 have yb:=h.yb
 have mw:=h.mw
 refine⟨D',d',w'',hr,⟨h.kw.over hK (fun i hi hh=>by have:=(h.wk.at hh).1;omega),h.yb,h.sn.keep hK (fun b hb hh=>by obtain⟨a,ha,rfl⟩:=hb;cases ha;have:=(h.wk.at hh).1;omega),?_,h.nz.keep hK (fun b hb hh=>h.ap b hh hb),fun b hb hh=> ?_,h.mp.keep hK (fun hh=>by have:=(h.wk.at hh).1;omega),h.mw⟩,hK,hD'⟩
 ·rw[List.length_append,List.length_singleton]
  simpa using hR
 ·rcases hD' b hb with q'|q'
  ·exact h.ap b q' hh
  ·have:=(h.nz.at hh).2;omega
end
section
variable {B0:Nat} {w w' w0:World} {p U:Addr} {M N:Nat} {A:Nat→Option Addr} {n c:Nat→Nat} {H:Nat→Prop} {g:GS}
theorem GRep.far (h:GRep B0 w p U M N A n c H g) {m1:Nat} (mH:H m1) (mX:¬GX p U M N A m1) (k:Keep (fun b=>b=m1) w w'):GRep B0 w' p U M N A n c H g:=
 (h.write k (fun b _ hb=>by rw[hb];exact⟨mH,fun hh=>mX (.inl hh),fun hh=>mX (.inr hh)⟩)).1
theorem tags_node {W m:Nat} {us l:List Edge} {a b:Int} {m1:Nat} {ks0:List (Int×Int)} {Y:Addr} (h:GRep B0 w p U M N A n c H g) (k:GInv W m g us l) (mH:H m1) (mX:¬GX p U M N A m1) (hwd:∀x∈g.nodes,x.args.length≤W) (hC:g.nodes.length*(W+1)+1≤549755813888)
  {w9:World} {D:Option Addr} {d:Nat} {ns:List Int} {Z:Option Addr} {zc:Nat} {seen:List Bool} {ks wl:List (Int×Int)} {cur:Int×Int} (F:TF w m1 Y w9 D d ns Z zc seen ks wl) (sz:w.heap.size+1≤w9.heap.size) (I:TInv g a b ks0 seen ks (cur::wl) fun _ _=>False) {z:Int} (vz:Vn g.nodes.length z) (tz:0≤(edgeAt g.why z).to) (hns:Sn seen z=False)
  (hx:∀(i:Nat) x y,(edgeAt g.why z).cong=true→(nodeOf g.nodes (edgeAt g.why z).a).args[i]? =some x→(nodeOf g.nodes (edgeAt g.why z).b).args[i]? =some y→Vn g.nodes.length x∧Vn g.nodes.length y∧fd g x=fd g y) (hcg:(edgeAt g.why z).cong=true→Vn g.nodes.length (edgeAt g.why z).a∧Vn g.nodes.length (edgeAt g.why z).b∧(nodeOf g.nodes (edgeAt g.why z).a).args.length=(nodeOf g.nodes (edgeAt g.why z).b).args.length)
  (hbig:wl.length+argc g z.toNat+1≤1099511627776) {k2:Nat} {I2:Nat→Option Addr→Nat→Nat→Int→World→Prop} {x7:Int}
  (hJ:∀w' D' d' ks' wl' seen',TF w m1 Y w' D' d' ns Z zc seen' ks' wl'→w.heap.size+1≤w'.heap.size→TInv g a b ks0 seen' ks' (cur::wl') (fun _ _=>False)→seen'=seen.set z.toNat true→wl'.length=wl.length+argc g z.toNat→vc_euf_Graph_tags_J2 k2 I2 x7 D' wl'.length d' w'):
  ∀w11,w11=w9.setCell (Y.add (z.toNat*1)) (.bool true)→(∃A10:Option Addr,∃n10:Nat,∃c10:Nat,w11.cell? (p.add 7)=some (.slice A10 n10 c10)∧0≤z∧z<(n10:Int)∧∃a5,A10=some a5∧∃x9:Int,∃b2:Bool,∃x10:Int,∃x11:Int,∃x12:Int,Wk.CellsAt w11 (a5.add (z.toNat*5)) [(.int .i64 x9),(.bool b2),(.int .i64 x10),(.int .i64 x11),(.int .i64 x12)]∧∀(p4:Addr) (w12:World),Wk.New w11 (.cells #[(.int .i64 0),(.bool false),(.int .i64 0),(.int .i64 0),(.int .i64 0)] T.euf_edge) p4 w12→(Wk.Soft w12 p4 5∧∀w13,w13=Wk.setCellsAt w12 p4 [(.int .i64 x9),(.bool b2),(.int .i64 x10),(.int .i64 x11),(.int .i64 x12)]→(∃b3:Bool,w13.cell? (p4.add 1)=some (.bool b3)∧((!b3)=true→(∃x13:Int,w13.cell? (p4.add 4)=some (.int .i64 x13)∧∃x14:Int,(Instr.lookup T.map_int_int (.map (some m1)) (.int .i64 x13) false).run P w13= .ok (.int .i64 x14) w13∧∃w14:World,(Instr.mapUpdate T.map_int_int (.map (some m1)) (.int .i64 x13) (.int .i64 (IntKind.wrap .i64 (x14+1)))).run P w13= .ok () w14∧((vc_euf_Graph_tags_J2 k2 I2 x7) D wl.length d w14)))∧((!b3)=false→(∃A11:Option Addr,∃n11:Nat,∃c11:Nat,w13.cell? (p.add 4)=some (.slice A11 n11 c11)∧∃x15:Int,w13.cell? (p4.add 2)=some (.int .i64 x15)∧0≤x15∧x15<(n11:Int)∧∃a6,A11=some a6∧∃A12:Option Addr,∃n12:Nat,∃c12:Nat,w13.cell? ((a6.add (x15.toNat*2)).add 1)=some (.slice A12 n12 c12)∧∀w15,Wk.Drawn w13 w15→(∃I3:Nat→Option Addr→Nat→Nat→Int→World→Prop,(∃k3,I3 k3 D wl.length d 0 w15)∧∀k3 (A13:Option Addr) (n13:Nat) (c13:Nat) (x16:Int) (w16:World),I3 k3 A13 n13 c13 x16 w16→((x16<(n12:Int)→(0≤x16∧x16<(n12:Int)∧∃a7,A12=some a7∧∃x17:Int,w16.cell? (a7.add (x16.toNat*1))=some (.int .i64 x17)∧∃A14:Option Addr,∃n14:Nat,∃c14:Nat,w16.cell? (p.add 4)=some (.slice A14 n14 c14)∧∃x18:Int,w16.cell? (p4.add 3)=some (.int .i64 x18)∧0≤x18∧x18<(n14:Int)∧∃a8,A14=some a8∧∃A15:Option Addr,∃n15:Nat,∃c15:Nat,w16.cell? ((a8.add (x18.toNat*2)).add 1)=some (.slice A15 n15 c15)∧0≤x16∧x16<(n15:Int)∧∃a9,A15=some a9∧∃x19:Int,w16.cell? (a9.add (x16.toNat*1))=some (.int .i64 x19)∧∀w22,Wk.Drawn w16 w22→∀(p5:Addr) (w17:World),Wk.New w22 (.cells #[(.int .i64 x17),(.int .i64 x19)] T.api_Both) p5 w17→(∀w21,Wk.Drawn w17 w21→∃(A16:Option Addr) (n16 c16:Nat) (w18:World),(Builtin.append_ #[T.sl_api_Both,T.sl_api_Both] T.sl_api_Both #[(.slice A13 n13 c13),(.slice (some p5) 1 1)]).run P w21= .ok (.slice A16 n16 c16) w18∧(∀w19,Wk.Drawn w18 w19→((vc_euf_Graph_tags_J1 k3 I3 x16) A16 n16 c16 w19)))))∧(¬(x16<(n12:Int))→((vc_euf_Graph_tags_J2 k2 I2 x7) A13 n13 c13 w16))))))))):=by
 intro w11 hw11
 have z0:=vz.1
 have z1:=vz.2
 have few:=k.few
 have F11:=F.see (n:=z.toNat) (by rw[I.len];omega) hw11
 have sz11:w.heap.size+1≤w11.heap.size:=by rw[hw11];exact Nat.le_trans sz (setCell_keep (w':=w9.setCell (Y.add (z.toNat*1)) (.bool true)) rfl).size
 have g11:=h.far mH mX F11.kw
 obtain⟨q1,q2,q3,a5,q4,q5,q6⟩:=g11.edge z0 (vn_some' k.forest.len vz)
 refine⟨_,_,_,q1,z0,q2,a5,q4,_,_,_,_,_,q5,fun p4 w12 hN12=>⟨hN12.soft rfl,fun w13 hw13=> ?_⟩⟩
 have kp:=setCellsAt_keep hw13
 have E13:Ext w11 w13:=(Ext.of_new hN12).over kp (fun i hi hh=>by rw[hN12.block] at hh;omega)
 have F13:=F11.ext E13
 have g13:=h.far mH mX F13.kw
 have c4:CellsAt w13 p4 (edgeAt g.why z).vals:=set_cells hw13 (by exact hN12.soft rfl)
 have b4:=hN12.block
 refine⟨(edgeAt g.why z).cong,c4 1 _ rfl,fun hc=> ?_,fun hc=> ?_⟩
 ·have hcf:(edgeAt g.why z).cong=false:=by simpa using hc
  have hl:=lookup_val F13.mp kMapI uMapI (zInt w13) (edgeAt g.why z).tag
  have ac:argc g z.toNat=0:=by unfold argc;rw[toNat_cast z0,if_neg (by rw[hcf];simp)]
  obtain⟨v,hl⟩:∃v:Int,(Instr.lookup T.map_int_int (.map (some m1)) (.int .i64 (edgeAt g.why z).tag) false).run P w13= .ok (.int .i64 v) w13:=by
   revert hl
   cases aget ks (edgeAt g.why z).tag with
   |none=>exact fun hl=>⟨0,hl⟩
   |some v=>exact fun hl=>⟨v,hl⟩
  obtain⟨w14,hr14,hm14,hk14⟩:=F13.mp.update kMapI uMapI (edgeAt g.why z).tag (IntKind.wrap .i64 (v+1))
  refine⟨_,c4 4 _ rfl,v,hl,w14,hr14,?_⟩
  exact hJ w14 D d _ wl _ (F13.map_ hm14 hk14) (Nat.le_trans sz11 (Nat.le_trans E13.size hk14.size)) (I.mark vz hcf _) rfl (by rw[ac];rfl)
 ·have hct:(edgeAt g.why z).cong=true:=by simpa using hc
  obtain⟨va,vb,hlen⟩:=hcg hct
  have ac:argc g z.toNat=(nodeOf g.nodes (edgeAt g.why z).a).args.length:=by unfold argc;rw[toNat_cast z0,if_pos hct]
  have na:g.nodes[(edgeAt g.why z).a.toNat]? =some (nodeOf g.nodes (edgeAt g.why z).a):=getD_some (by have:=va.1;have:=va.2;omega)
  have nb:g.nodes[(edgeAt g.why z).b.toNat]? =some (nodeOf g.nodes (edgeAt g.why z).b):=getD_some (by have:=vb.1;have:=vb.2;omega)
  obtain⟨aA,CA,kA,dA,hA1,hA2,hA3,hA4,hA5⟩:=g13.nodeC na
  have e4:=g13.n4
  have va0:=va.1
  have va1:=va.2
  have vb0:=vb.1
  have vb1:=vb.2
  refine⟨A 4,n 4,c 4,g13.cell (show 4<9 by omega),_,c4 2 _ rfl,va0,by omega,aA,by rw[g13.nad];exact hA1,CA,kA,dA,by have:=hA3 1 _ rfl;exact this,fun w15 hw15=> ?_⟩
  refine⟨fun k3 D' n' d' j w'=>∃wl',k3=kA-j.toNat∧0≤j∧j≤kA∧n'=wl'.length∧wl'.length=wl.length+j.toNat∧TF w m1 Y w' D' d' ns Z zc (seen.set z.toNat true) ks wl'∧w.heap.size+1≤w'.heap.size∧TInv g a b ks0 (seen.set z.toNat true) ks (cur::wl') (fun z' i=>z'=z∧j.toNat≤i)∧CellsAt w' p4 (edgeAt g.why z).vals∧p4.block<w'.heap.size∧(∀b,At D' b→b≠p4.block),
   ⟨_,wl,rfl,by omega,by omega,rfl,by simp,F13.ext (Ext.of_drawn hw15),Nat.le_trans sz11 (Nat.le_trans E13.size (Ext.of_drawn hw15).size),I.open_ vz hct,(Ext.of_drawn hw15).cells c4,?_,fun b hb hh=> ?_⟩,?_⟩
  ·have:=hN12.size
   have:=kp.size
   have:=(Ext.of_drawn hw15).size
   omega
  ·have:=(F11.wk.at hb).2
   omega
  ·rintro k3 D' n' d' j w16 ⟨wl',rfl,j0,j1,rfl,hwl,F16,sz16,I16,c16,b16,ap16⟩
   have g16:=h.far mH mX F16.kw
   refine⟨fun hlt=> ?_,fun hge=> ?_⟩
   ·have hjA:j.toNat<(nodeOf g.nodes (edgeAt g.why z).a).args.length:=by omega
    obtain⟨x,ax,hxa,hCA,hcx⟩:=(g16.nodeI na hA2).int j0 hlt
    obtain⟨aB,CB,kB,dB,hB1,hB2,hB3,hB4,hB5⟩:=g16.nodeC nb
    have hltB:j<kB:=by omega
    obtain⟨y,ay,hyb,hCB,hcy⟩:=(g16.nodeI nb hB2).int j0 hltB
    refine⟨j0,hlt,ax,hCA,_,hcx,A 4,n 4,c 4,g16.cell (show 4<9 by omega),_,c16 3 _ rfl,vb0,by omega,aB,by rw[g16.nad];exact hB1,CB,kB,dB,by have:=hB3 1 _ rfl;exact this,j0,hltB,ay,hCB,_,hcy,fun w22 hw22 p5 w17 hN17 w21 hw21=> ?_⟩
    have E21:Ext w16 w21:=((Ext.of_drawn hw22).new hN17).drawn hw21
    obtain⟨vx,vy,exy⟩:=hx j.toNat x y hct hxa hyb
    obtain⟨D2,d2,w18,hr18,F18,hK18,hD18⟩:=(F16.ext E21).push (x:=(x,y)) (q:=p5) ((Ext.of_drawn hw21).cells (hN17.cells rfl)) (by omega) (Nat.le_trans sz16 E21.size)
    refine⟨D2,_,d2,w18,hr18,fun w19 hw19=>⟨kA-(j.toNat+1),by omega,?_⟩⟩
    have hkA:kA≤1099511627776:=hA4
    rw[step_le (n:=kA) j0 hlt hkA]
    have jn:(j+1).toNat=j.toNat+1:=by omega
    refine⟨wl'++[(x,y)],by omega,by omega,by omega,by simp,by rw[List.length_append,List.length_singleton];omega,F18.ext (Ext.of_drawn hw19),?_,?_,?_,?_,fun b hb hh=> ?_⟩
    ·have:=E21.size
     have:=hK18.size
     have:=(Ext.of_drawn hw19).size
     omega
    ·rw[jn]
     exact(I16.add hxa hyb vx vy exy).perm fun q=>by simp
    ·exact(Ext.of_drawn hw19).cells (hK18.own (E21.cells c16) fun hh=>ap16 _ hh rfl)
    ·have:=E21.size
     have:=hK18.size
     have:=(Ext.of_drawn hw19).size
     omega
    ·rcases hD18 b hb with q|q
     ·exact ap16 b q hh
     ·have:=E21.size
      omega
   ·have:j.toNat=kA:=by omega
    refine hJ w16 D' d' ks wl' _ F16 sz16 (I16.close (by omega)) rfl (by omega)
end
end Go.Proofs.YtbmbhfghpidggaaDoor
namespace Go.Proofs.YtbmbhfghpidggaaDoor
set_option linter.unusedVariables false
set_option linter.unusedSimpArgs false
open Wk
section
variable {B0:Nat} {w w' w0:World} {p U:Addr} {M N:Nat} {A:Nat→Option Addr} {n c:Nat→Nat} {H:Nat→Prop} {g:GS}
theorem make_bools {w:World} {N:Nat} (hN:N≤1048576):∃w',(Instr.makeSlice T.sl_bool (.int .i64 (N:Int)) (.int .i64 (N:Int))).run P w= .ok (.slice (some ⟨w.heap.size,0,none⟩) N N) w'∧Own w' w.heap.size T.bool 1 (some ⟨w.heap.size,0,none⟩) N N ((List.replicate N false).map Value.bool)∧Ext w w':=by
 obtain⟨w',vs,h1,h2,h3,h4⟩:=make_row (P:=P) (w:=w) (t:=T.sl_bool) (e:=T.bool) (s:=1) (by_:=1) (n:=N) (by kernel_rfl) (by kernel_rfl) (by omega) (by omega)
 obtain⟨i,hi,hz⟩:=info_zero (P:=P) (e:=T.bool) (z:= .bool false) (by kernel_rfl)
 have:=h4 i hi _ hz
 rw[Nat.mul_one] at this
 have e:(Value.bool false).cells= #[.bool false]:=by rfl
 rw[e,toList_madeCells_one] at this
 rw[this] at h2
 refine⟨w',h1,?_,h3⟩
 rw[List.map_replicate]
 exact h2
theorem edge_args {W m:Nat} {us l:List Edge} (k:GInv W m g us l) {z:Int} (vz:Vn g.nodes.length z) (tz:0≤(edgeAt g.why z).to) (hc:(edgeAt g.why z).cong=true):CongOk g.nodes (fun x y=>fd g x=fd g y) (edgeAt g.why z).a (edgeAt g.why z).b:=by
 obtain⟨j,hj,hat⟩:=at_ex k vz tz
 obtain⟨u,hu,_,e1,e2,e3,e4⟩:=at_edge hat
 have:=(k.just j u hu).1 (by rw[←e1];exact hc)
 rw[e3,e4]
 exact this.mono fun i x y hx hy q=>(q.mono fun u hu=>List.mem_of_mem_take hu).to k.conn2
theorem tags_is {W m:Nat} {us l:List Edge} {a b:Int} {m1:Nat} {ks0:List (Int×Int)} (h:GRep B0 w p U M N A n c H g) (k:GInv W m g us l) (s:Sem g us g.stand) (mH:H m1) (mX:¬GX p U M N A m1) (hwd:∀x∈g.nodes,x.args.length≤W) (hC:g.nodes.length*(W+1)+1≤549755813888) (ha:Vn g.nodes.length a) (hb:Vn g.nodes.length b) (hab:fd g a=fd g b) (hm:MapIs (Value.int .i64) iv w m1 ks0):
  Calls P F.euf_Graph_tags #[.pointer (some p),.int .i64 a,.int .i64 b,.map (some m1)] w (Ret fun v w'=>v= .tuple #[]∧∃ks,MapIs (Value.int .i64) iv w' m1 ks∧Keep (fun b=>b=m1) w w'∧(∀t,(aget ks0 t).isSome=true→(aget ks t).isSome=true)∧CC g.nodes (eqsT g.stand fun t=>(aget ks t).isSome=true) a b∧∀t∈ks.map (·.1),t∈ks0.map (·.1)∨∃z,Vn g.nodes.length z∧(edgeAt g.why z).tag=t):=by
 refine Ret.mono (ok_euf_Graph_tags p a b (some m1) (fun w'=>∃ks,MapIs (Value.int .i64) iv w' m1 ks∧Keep (fun b=>b=m1) w w'∧(∀t,(aget ks0 t).isSome=true→(aget ks t).isSome=true)∧CC g.nodes (eqsT g.stand fun t=>(aget ks t).isSome=true) a b∧∀t∈ks.map (·.1),t∈ks0.map (·.1)∨∃z,Vn g.nodes.length z∧(edgeAt g.why z).tag=t) w ?_) (by rintro v w' ⟨rfl,hk⟩;exact⟨rfl,hk⟩)
 have few:=k.few
 have e4:=h.n4
 have hml:=hm.lt
 unfold vc_euf_Graph_tags
 refine⟨A 4,n 4,c 4,h.cell (show 4<9 by omega),?_⟩
 rw[←e4]
 obtain⟨w1,hr1,hO1,E1⟩:=make_bools (w:=w) few
 refine⟨_,_,_,w1,hr1,fun p2 w2 hN2=> ?_⟩
 have E2:=Ext.of_new hN2
 have b2:=hN2.block
 have lO:=hO1.lt_
 simp only at lO
 have row2:Row w2 (w.heap.size+1) T.api_Both 2 (some p2) 1 1 (bv (a,b)):=(Row.new (s:=2) (n:=1) (vs:=bv (a,b)) hN2 rfl rfl).rebase (by omega)
 have hus:=usum_le hwd (List.replicate g.nodes.length false)
 have hmul:g.nodes.length*(W+1)=g.nodes.length*W+g.nodes.length:=Nat.mul_succ _ _
 refine⟨fun k1 D n' d' w'=>∃seen ks wl,k1=wl.length+usum g seen∧n'=wl.length∧wl.length+usum g seen≤1+g.nodes.length*W∧TF w m1 ⟨w.heap.size,0,none⟩ w' D d' [] none 0 seen ks wl∧w.heap.size+1≤w'.heap.size∧TInv g a b ks0 seen ks wl (fun _ _=>False),⟨_,List.replicate g.nodes.length false,ks0,[(a,b)],rfl,rfl,by simp;omega,⟨(E1.trans E2).mono fun _ _ h=>h.elim,rfl,?_,?_,Row.nil _ _ _ _,fun b _ hh=>(by obtain⟨_,hh,_⟩:=hh;cases hh),(hm.keep E1 (fun h=>h)).keep E2 (fun h=>h),hml⟩,Nat.le_trans lO.2 E2.size,TInv.start ha hb hab⟩,?_⟩
 ·rw[List.length_replicate]
  exact hO1.keep E2 (fun _ _ h=>h)
 ·simpa using row2
 rintro k1 D n' d' w3 ⟨seen,ks,wl,rfl,rfl,hbd,F3,sz3,I3⟩
 refine⟨fun hpos=> ?_,fun hneg=> ?_⟩
 ·have hne:wl≠[]:=by intro q;rw[q] at hpos;simp at hpos
  obtain⟨wl',cur,rfl⟩:∃wl' cur,wl=wl'++[cur]:=⟨_,_,(List.dropLast_concat_getLast hne).symm⟩
  have ew:IntKind.wrap .i64 (((wl'++[cur]).length:Int)-1)=(wl'.length:Int):=by
   rw[List.length_append,List.length_singleton] at hbd⊢
   rw[wrap_small (by omega) (by omega)];omega
  rw[ew,Int.toNat_natCast]
  obtain⟨aD,us3,hD,hus3,_,hcD,_⟩:=F3.wk.elem (i:=(wl'.length:Int)) (by omega) (by simp;omega) (by decide)
  rw[Int.toNat_natCast] at hus3 hcD
  have hus3':us3=bv cur:=by
   rw[hus3]
   refine flat_elem bv_len _ _ _ ?_
   rw[List.getElem?_append_right (Nat.le_refl _),Nat.sub_self]
   rfl
  subst hus3'
  have hle:=F3.wk.le
  have hlen1:(wl'++[cur]).length=wl'.length+1:=by simp
  refine⟨by omega,by omega,aD,hD,_,_,hcD,fun p3 w4 hN4=>⟨hN4.soft rfl,fun w5 hw5=> ?_⟩⟩
  have kp5:=setCellsAt_keep hw5
  have E5:Ext w3 w5:=(Ext.of_new hN4).over kp5 (fun i hi hh=>by rw[hN4.block] at hh;omega)
  have c5:CellsAt w5 p3 (bv cur):=set_cells hw5 (by exact hN4.soft rfl)
  have F5:=F3.ext E5
  obtain⟨v1,v2,v3⟩:=I3.val cur (by simp)
  have g5:=h.far mH mX F5.kw
  refine⟨by omega,by omega,cur.1,c5 0 _ rfl,cur.2,c5 1 _ rfl,?_⟩
  refine(between_is g5 k v1 v2).mono ?_
  rintro _ w6 ⟨_,rfl,B,dB,C,dC,rfl,RB,RC,E6⟩
  have IB:Ints w6 B (betw g cur.1 cur.2).1.length (betw g cur.1 cur.2).1:=by
   refine⟨rfl,fun i x hx=> ?_⟩
   obtain⟨aB,vB,hB,hvB,hcB,_⟩:=RB.get (i:=(i:Int)) (by omega) (by have:=(List.getElem?_eq_some_iff.1 hx).1;omega)
   rw[Int.toNat_natCast,List.getElem?_map,hx] at hvB
   cases hvB
   refine⟨aB,[iv x],hB,rfl,fun j v hj=> ?_,rfl⟩
   cases j with
   |zero=>simp at hj;subst hj;rw[Addr.add_add];rw[Int.toNat_natCast] at hcB;exact hcB
   |succ j=>simp at hj
  obtain⟨cc,cc0,u1,u2,dis,vv1,vv2⟩:=betw_spec k v1 v2 v3
  have lB:=nodup_len _ _ u1.nodup fun y hy=>(k.forest.of_up v1 u1 y hy).1
  have lC:=nodup_len _ _ u2.nodup fun y hy=>(k.forest.of_up v2 u2 y hy).1
  rw[List.length_append] at lB lC
  refine⟨_,rfl,B,_,dB,C,_,dC,rfl,(clone_is IB (by unfold Sm;omega)).mono ?_⟩
  rintro _ w7 ⟨_,rfl,B7,d7,rfl,O7,E7⟩
  have RC7:=RC.keep E7 (fun _ _ h=>h)
  have sz5:w.heap.size+1≤w5.heap.size:=Nat.le_trans sz3 E5.size
  have sz6:w.heap.size+1≤w6.heap.size:=Nat.le_trans sz5 E6.size
  refine⟨_,rfl,B7,_,d7,rfl,?_⟩
  generalize hns:(betw g cur.1 cur.2).1++(betw g cur.1 cur.2).2=ns
  have F7:=(F5.ext E6).ext E7
  --the two ways one behind the other
  have app:∃A7 c7 w8,(Builtin.append_ #[T.sl_int,T.sl_int] T.sl_int #[.slice B7 (betw g cur.1 cur.2).1.length d7,.slice C (betw g cur.1 cur.2).2.length dC]).run P w7= .ok (.slice A7 ns.length c7) w8∧Row w8 (w.heap.size+1) T.int 1 A7 ns.length c7 (ns.map iv)∧Ext w6 w8∧(∀b,At A7 b→w6.heap.size≤b):=by
   rcases hC:C with _|aC
   ·rw[hC] at RC7
    have h0:(betw g cur.1 cur.2).2.length=0∧dC=0:=by
     rcases RC7.2 with⟨_,q1,q2⟩|⟨_,_,_,q,_⟩
     ·exact⟨q1,q2⟩
     ·cases q
    have hnil:(betw g cur.1 cur.2).2=[]:=List.length_eq_zero_iff.1 h0.1
    rw[hnil,List.append_nil] at hns
    rw[h0.1,h0.2,←hns]
    refine⟨B7,d7,w7,append_none (P:=P) (t:=T.sl_int) (ty:=T.sl_int) O7.row gIntE gIntI,(O7.row).rebase sz6,E7,fun b hb=>(O7.at hb).1⟩
   ·have hcc:CellsAt w7 aC ((betw g cur.1 cur.2).2.map iv):=by
     rcases RC7.cells with h0|⟨a',ha',hc'⟩
     ·rw[h0];exact Wk.CellsAt.nil
     ·rw[hC] at ha';cases ha';exact hc'
    obtain⟨A7,c7,w8,hr8,hR8,hK8,hA8⟩:=O7.row.append (P:=P) (t:=T.sl_int) (ty:=T.sl_int) (m:=(betw g cur.1 cur.2).2.length) (c2:=dC) gIntE gIntI (by decide) (news:=(betw g cur.1 cur.2).2.map iv) (by simp) hcc (by intro u hu;obtain⟨x,_,rfl⟩:=List.mem_map.1 hu;rfl) (by omega) (by omega) E7.size
    have hl:ns.length=(betw g cur.1 cur.2).1.length+(betw g cur.1 cur.2).2.length:=by rw[←hns,List.length_append]
    rw[←List.map_append,hns,←hl] at hR8
    rw[hl]
    refine⟨A7,c7,w8,hr8,by rw[←hl];exact hR8.rebase sz6,E7.over hK8 (fun i hi hh=>by have:=(O7.at hh).1;omega),fun b hb=> ?_⟩
    rcases hA8 b hb with q|q
    ·exact(O7.at q).1
    ·exact Nat.le_trans E7.size q
  obtain⟨A7,c7,w8,hr8,R8,E68,nA7⟩:=app
  refine⟨A7,_,c7,w8,hr8,?_⟩
  have F8:=(F5.ext E6).ext E68
  have hnl:ns.length≤2097152:=by rw[←hns,List.length_append];omega
  have vns:∀z∈ns,Vn g.nodes.length z∧0≤(edgeAt g.why z).to:=fun z hz=>by
   rw[←hns] at hz
   exact(List.mem_append.1 hz).elim (vv1 z) (vv2 z)
  have hcut:=F8.wk.cut (m:=wl'.length) (d:=d') (by omega) (by omega) (Nat.le_refl _)
  rw[flat_take bv_len,List.take_left] at hcut
  have I8:TInv g a b ks0 seen ks (cur::wl') (fun _ _=>False):=I3.perm fun q=>by simp;exact⟨fun h=>h.symm,fun h=>h.symm⟩
  refine⟨fun k2 D' n2 d2 x7 w'=>∃seen' ks' wl2,k2=ns.length-x7.toNat∧0≤x7∧x7≤ns.length∧n2=wl2.length∧wl2.length+usum g seen'=wl'.length+usum g seen∧TF w m1 ⟨w.heap.size,0,none⟩ w' D' d2 ns A7 c7 seen' ks' wl2∧w.heap.size+1≤w'.heap.size∧TInv g a b ks0 seen' ks' (cur::wl2) (fun _ _=>False)∧(∀(i:Nat) z,(i:Int)<x7→ns[i]? =some z→Sn seen' z),
   ⟨_,seen,ks,wl',rfl,by omega,by omega,rfl,rfl,⟨F8.kw,rfl,F8.sn,hcut,R8,fun b hb hh=> ?_,F8.mp,hml⟩,Nat.le_trans sz6 E68.size,I8,fun i z hi=>by omega⟩,?_⟩
  ·have h1:=nA7 b hh
   have h2:=(F3.wk.at hb).2
   have:=E5.size
   have:=E6.size
   omega
  rintro k2 D' n2 d2 x7 w9 ⟨seen',ks',wl2,rfl,x0,x1,rfl,hsum,F9,sz9,I9,hseen⟩
  refine⟨fun hlt=> ?_,fun hge=> ?_⟩
  ·have hx7:x7.toNat<ns.length:=by omega
   obtain⟨z,hz⟩:∃z,ns[x7.toNat]? =some z:=⟨_,List.getElem?_eq_getElem hx7⟩
   obtain⟨aZ,vZ,hAZ,hvZ,hcZ,_⟩:=F9.nz.get x0 hlt
   rw[List.getElem?_map,hz] at hvZ
   cases hvZ
   obtain⟨vz,tz⟩:=vns z (List.mem_of_getElem? hz)
   have z0:=vz.1
   have z1:=vz.2
   have hl:=I9.len
   obtain⟨aS,vS,hAS,hvS,hcS,hfS⟩:=F9.sn.row.get (i:=z) z0 (by omega)
   cases hAS
   rw[List.getElem?_map,getD_some (d:=false) (by omega)] at hvS
   cases hvS
   have next:∀w' D2 d3 ks2 wl3 seen2,TF w m1 ⟨w.heap.size,0,none⟩ w' D2 d3 ns A7 c7 seen2 ks2 wl3→w.heap.size+1≤w'.heap.size→TInv g a b ks0 seen2 ks2 (cur::wl3) (fun _ _=>False)→wl3.length+usum g seen2=wl'.length+usum g seen→(∀t,Sn seen' t→Sn seen2 t)→Sn seen2 z→vc_euf_Graph_tags_J2 (ns.length-x7.toNat) (fun k2 D' n2 d2 x7 w'=>∃seen' ks' wl2,k2=ns.length-x7.toNat∧0≤x7∧x7≤ns.length∧n2=wl2.length∧wl2.length+usum g seen'=wl'.length+usum g seen∧TF w m1 ⟨w.heap.size,0,none⟩ w' D' d2 ns A7 c7 seen' ks' wl2∧w.heap.size+1≤w'.heap.size∧TInv g a b ks0 seen' ks' (cur::wl2) (fun _ _=>False)∧(∀(i:Nat) z,(i:Int)<x7→ns[i]? =some z→Sn seen' z)) x7 D2 wl3.length d3 w':=by
    intro w' D2 d3 ks2 wl3 seen2 h1 h2 h3 h4 h5 h6
    refine⟨ns.length-(x7.toNat+1),by omega,?_⟩
    rw[step_le (n:=ns.length) x0 hlt (by unfold Sm;omega)]
    refine⟨seen2,ks2,wl3,by omega,by omega,by omega,rfl,h4,h1,h2,h3,fun i t hi ht=> ?_⟩
    rcases Nat.lt_or_ge i x7.toNat with q|q
    ·exact h5 t (hseen i t (by omega) ht)
    ·have:i=x7.toNat:=by omega
     subst this
     rw[hz] at ht
     cases ht
     exact h6
   refine⟨x0,hlt,aZ,hAZ,z,hcZ,z0,by omega,_,rfl,seen'.getD z.toNat false,hcS,fun hs=> ?_,fun hs=>⟨z0,by omega,_,rfl,⟨_,hcS⟩,hfS,?_⟩⟩
   ·exact next w9 D' d2 ks' wl2 seen' F9 sz9 I9 hsum (fun _ h=>h) hs
   ·have hset:=usum_set g (seen:=seen') (n:=z.toNat) (by omega) hl hs
    refine tags_node h k mH mX hwd (by omega) F9 sz9 I9 vz tz (by unfold Sn;rw[hs];simp) (fun i x y hc hx hy=> ?_) (fun hc=> ?_) (by omega) ?_
    ·have cg:=edge_args k vz tz hc
     exact⟨sound_vn k.sound cg.v1 (List.mem_of_getElem? hx),sound_vn k.sound cg.v2 (List.mem_of_getElem? hy),cg.args i x y hx hy⟩
    ·have cg:=edge_args k vz tz hc
     exact⟨cg.v1,cg.v2,cg.len⟩
    ·intro w' D2 d3 ks2 wl3 seen2 h1 h2 h3 h4 h5
     subst h4
     refine next w' D2 d3 ks2 wl3 _ h1 h2 h3 (by omega) (fun t ht=>sn_set t ht) ?_
     unfold Sn
     exact getD_set_self (by omega)
  ·have hx7:x7.toNat=ns.length:=by omega
   have hcov:Cov g (Sn seen') cur.1 cur.2:=fun z hz=>by
    have hz':z∈ns:=by rw[←hns];exact List.mem_append.2 hz
    obtain⟨i,hi⟩:=List.mem_iff_getElem?.1 hz'
    have:=(List.getElem?_eq_some_iff.1 hi).1
    exact hseen i z (by omega) hi
   rw[List.length_append,List.length_singleton] at hbd
   exact⟨wl2.length+usum g seen',by rw[List.length_append,List.length_singleton];omega,seen',ks',wl2,rfl,rfl,by omega,⟨F9.kw,F9.yb,F9.sn,F9.wk,Row.nil _ _ _ _,fun b _ hh=>(by obtain⟨_,hh,_⟩:=hh;cases hh),F9.mp,F9.mw⟩,sz9,I9.done hcov⟩
 ·have:wl=[]:=List.length_eq_zero_iff.1 (by omega)
  subst this
  exact⟨ks,F3.mp,F3.kw,I3.old,I3.cc k s ha hb hab,I3.src⟩
end
end Go.Proofs.YtbmbhfghpidggaaDoor
namespace Go.Proofs.YtbmbhfghpidggaaDoor
set_option linter.unusedVariables false
set_option linter.unusedSimpArgs false
set_option maxHeartbeats 2000000
set_option maxRecDepth 20000
open Wk
def vc_slices_Index_sl_int_int (A1:Option Addr) (n1 c1:Nat) (x1:Int) (K:Int→World→Prop) (w:World):Prop:=
 ∃I1:Nat→Int→Prop,(∃k1,I1 k1 0)∧∀k1 (x3:Int),I1 k1 x3→((x3<(n1:Int)→(0≤x3∧x3<(n1:Int)∧∃a1,A1=some a1∧∃x4,w.cell? (a1.add (x3.toNat*1))=some (.int .i64 x4)∧(x1=x4→(K x3 w))∧(¬(x1=x4)→(∃k2,k2<k1∧I1 k2 (IntKind.wrap .i64 (x3+1))))))∧(¬(x3<(n1:Int))→(K (-1) w)))
theorem ok_slices_Index_sl_int_int (A1:Option Addr) (n1 c1:Nat) (x1:Int) (K:Int→World→Prop) (w:World) (H:vc_slices_Index_sl_int_int A1 n1 c1 x1 K w):Calls P F.slices_Index_sl_int_int #[(.slice A1 n1 c1),(.int .i64 x1)] w (Ret fun v w'=>∃x2,v=(.int .i64 x2)∧K x2 w'):=by
 unfold vc_slices_Index_sl_int_int at H;refine calls_of (P:=P) Tryd.func77 rfl [(0,(.slice A1 n1 c1)),(1,(.int .i64 x1))] 19 rfl rfl (aa rfl (aa rfl az)) (cw_seq (cw_region (ag rfl (sl_nil (nc (kp 0 rfl (kp 1 rfl zz)) (cw_seq (cw_seq (cw_region (mv rfl (sv rfl rfl (fun a ha=>x_builtin (ha.evs rfl) (fun _=>l_slice TF.isslice_sl_int)) (mv rfl (sl_nil (nc (kp 0 rfl (kp 1 rfl (kp 7 rfl (kp 8 rfl zz)))) (cw_block ?_))))))))))))));obtain⟨I1,⟨k1,hi⟩,H⟩:=H;refine cw_loop_still (fun k1 a=>∃x3,Ok 19 [(0,(.slice A1 n1 c1)),(1,(.int .i64 x1)),(7,(.int .i64 (n1:Int))),(8,(.int .i64 x3))] a∧I1 k1 x3) (fun a ha=>⟨k1,0,ha.weaken (sub.cons rfl (sub.cons rfl (sub.cons rfl (sub.cons rfl (sub.nil))))),hi⟩) ?_;rintro k1 a ⟨x3,ha,hI⟩;replace H:=H k1 x3 hI;refine(?_:CW _ _ _ 19 [(0,(.slice A1 n1 c1)),(1,(.int .i64 x1)),(7,(.int .i64 (n1:Int))),(8,(.int .i64 x3))] _) a ha;refine cw_seq (cw_region (bo rfl rfl o_lss (sl_nil (nc (kp 0 rfl (kp 1 rfl (kp 7 rfl (kp 8 rfl (kp 9 rfl zz))))) (cw_seq ?_)))));refine cw_cond_p rfl (fun hb=> ?_) (fun hb=> ?_)
 ·replace H:=H.1 hb;refine cw_skip (nc (kp 0 rfl (kp 1 rfl (kp 7 rfl (kp 8 rfl zz)))) (cw_seq (cw_block (cw_seq (cw_region (mv rfl (ag rfl (sl_nil (nc (kp 0 rfl (kp 1 rfl (kp 5 rfl (kp 7 rfl (kp 8 rfl zz))))) (cw_seq (cw_region (mv rfl (mv rfl (mv rfl ?_))))))))))))));obtain⟨h1,h2,a1,e1,H⟩:=H;refine ix rfl rfl (i_index TF.elem_sl_int TF.size_int e1 h1 h2) ?_;obtain⟨x4,h3,H⟩:=H;refine ld rfl (i_load1 TF.agg_int h3) (bo rfl rfl o_eql (sl_nil (nc (kp 0 rfl (kp 1 rfl (kp 5 rfl (kp 7 rfl (kp 8 rfl (kp 16 rfl zz)))))) ?_)));refine cw_cond_p rfl (fun hb=> ?_) (fun hb=> ?_)
  ·replace H:=H.1 hb;exact cw_seq (cw_region (mv rfl (ag rfl (sl_nil (nc (kp 4 rfl zz) (cw_ret (nx_ret_block (nx_ret_then (nx_ret_then (nx_ret_block (nx_ret_then (nx_body_ret (res1 rfl rfl) ⟨_,rfl,_,rfl,H⟩))))))))))))
  ·replace H:=H.2 hb;refine cw_skip (nx_block (nc (kp 0 rfl (kp 1 rfl (kp 7 rfl (kp 8 rfl zz)))) (cw_region (bo rfl rfl o_add (mv rfl (sl_nil ?_))))));obtain⟨k2,hk,H⟩:=H;exact nx_to fun a ha=>⟨k2,hk,⟨IntKind.wrap .i64 (x3+1),ha.weaken (cn rfl (cn rfl (cn rfl (cn rfl zz)))),H⟩,rfl⟩
 ·replace H:=H.2 hb;exact cw_exit (nx_exit_then (nx_exit_then (nx_exit_hit (nc zz (cw_seq (cw_region (ag rfl (sl_nil (nc (kp 4 rfl zz) (cw_ret (nx_body_ret (res1 rfl rfl) ⟨_,rfl,_,rfl,H⟩)))))))))))
def vc_slices_Contains_sl_int_int (A1:Option Addr) (n1 c1:Nat) (x1:Int) (K:Bool→World→Prop) (w:World):Prop:=
 Calls P F.slices_Index_sl_int_int #[(.slice A1 n1 c1),(.int .i64 x1)] w (Ret fun v1 w1=>∃x2,v1=(.int .i64 x2)∧K (decide (0≤x2)) w1)
theorem ok_slices_Contains_sl_int_int (A1:Option Addr) (n1 c1:Nat) (x1:Int) (K:Bool→World→Prop) (w:World) (H:vc_slices_Contains_sl_int_int A1 n1 c1 x1 K w):Calls P F.slices_Contains_sl_int_int #[(.slice A1 n1 c1),(.int .i64 x1)] w (Ret fun v w'=>∃b1,v=(.bool b1)∧K b1 w'):=by
 unfold vc_slices_Contains_sl_int_int at H;refine calls_of (P:=P) Tryd.func61 rfl [(0,(.slice A1 n1 c1)),(1,(.int .i64 x1))] 9 rfl rfl (aa rfl (aa rfl az)) (cw_seq (cw_region (ag rfl (sl_nil (nc (kp 0 rfl (kp 1 rfl zz)) (cw_seq (cw_region (mv rfl (mv rfl (sl_call rfl rfl (wanted_none rfl) (fun a ha=>x_call0 (ha.ev rfl) (ha.evs rfl) FF.callable_slices_Index_sl_int_int) H ?_))))))))));rintro _ w1 ⟨x2,rfl,H⟩;exact bo rfl rfl o_geq (ag rfl (sl_nil (nc (kp 4 rfl zz) (cw_ret (nx_body_ret (res1 rfl rfl) ⟨_,rfl,_,rfl,H⟩)))))
end Go.Proofs.YtbmbhfghpidggaaDoor
namespace Go.Proofs
set_option linter.unusedVariables false
set_option linter.unusedSimpArgs false
open Go.Shelf
namespace YtbmbhfghpidggaaDoor
open Wk
open Go.Sort
theorem Own.block0 {w:World} {base:Nat} {e:TypeId} {A:Option Addr} {n c:Nat} {l:List Int} (h:Own w base e 1 A n c (l.map iv)) (hn:0<n):∃g cur,A=some ⟨g,0,none⟩∧base≤g∧w.heap[g]? =some (.cells cur e (0,0))∧n≤c∧c≤maxLen∧cur.size=c*1∧cur.toList.take l.length=l.map (Value.int .i64)∧l.length=n:=by
 have hl:l.length=n:=by have:=h.1;simpa using this
 rcases h.2 with⟨h0,_⟩|⟨g,cap,cur,hv,hb,hg,h1,h2,h3,h4⟩
 ·injection h0 with _ h0 _;omega
 ·injection hv with v1 v2 v3
  subst v3
  exact⟨g,cur,v1,hb,hg,h1,h2,h3,by rw[hl];simpa using h4,hl⟩
theorem own_put {w:World} {base g cap q:Nat} {e:TypeId} {cur:Array Value} {ss ts:List Int} {os:Array Obj} (hl:ts.length=ss.length) (hbase:base≤g) (hb:w.heap[g]? =some (.cells cur e (0,0))) (h1:ss.length≤cap) (h2:cap≤maxLen) (h3:cur.size=cap*1):
  Own (grow (putRow (Value.int .i64) (Sort.ahead w q) g 0 ts.toArray) os) base e 1 (some ⟨g,0,none⟩) ss.length cap (ts.map iv):=ownsRow_sortedI hl hbase hb h1 h2 h3
theorem put_keep {w:World} {g q:Nat} {os:Array Obj} (d:Array Int):Keep (fun b=>b=g) w (grow (putRow (Value.int .i64) (Sort.ahead w q) g 0 d) os):=by
 have h:=grownBy_sortedI (w:=w) (g:=g) (n:=q) (os:=os) d
 exact⟨h.size,h.os,h.tape,h.output,fun b hb hx=>h.block b hb (fun e=>hx (Option.some.inj e))⟩
theorem sort_is {w:World} {base:Nat} {A:Option Addr} {n c:Nat} {l:List Int} (h:Own w base T.int 1 A n c (l.map iv)) (hn:n≤1099511627776):
  Calls P F.slices_Sort_sl_int_int #[.slice A n c] w (Ret fun v w'=>v= .tuple #[]∧Own w' base T.int 1 A n c ((l.mergeSort fun x y=>decide (x≤y)).map iv)∧Keep (At A) w w'):=by
 have hl:l.length=n:=by have:=h.1;simpa using this
 rcases Nat.eq_zero_or_pos n with h0|h0
 ·subst h0
  have hnil:l=[]:=List.length_eq_zero_iff.1 hl
  subst hnil
  have:=AnyM.slices_Sort_int_none (P:=P) Tryd.laysSort A c w
  refine Calls.mono (show Calls P F.slices_Sort_sl_int_int _ w _ from this) ?_
  rintro e w' ⟨rfl,rfl⟩
  exact⟨_,rfl,rfl,by simpa using h,Keep.refl _ _⟩
 ·obtain⟨g,cur,rfl,hb,hg,h1,h2,h3,h4,_⟩:=h.block0 h0
  have hlt:=(Array.getElem?_eq_some_iff.1 hg).1
  have:=AnyM.slices_Sort_int (P:=P) Tryd.laysSort g 0 c l w (holds_of_blockI hg h4) hlt (by omega)
  rw[hl] at this
  refine Calls.mono (show Calls P F.slices_Sort_sl_int_int _ w _ from this) ?_
  rintro e w' ⟨rfl,q,os,rfl⟩
  refine⟨_,rfl,rfl,?_,(put_keep _).mono fun i _ hi=>⟨_,rfl,hi.symm⟩⟩
  have:=own_put (q:=q) (os:=os) (ss:=l) (ts:=l.mergeSort fun x y=>decide (x≤y)) (by simp) hb hg (by omega) h2 h3
  rw[hl] at this
  exact this
theorem delete_is {w:World} {base:Nat} {A:Option Addr} {n c i:Nat} {l:List Int} (h:Own w base T.int 1 A n c (l.map iv)) (hi:i<n) (hc:c≤9223372036854775807):
  Calls P F.slices_Delete_sl_int_int #[.slice A n c,.int .i64 (i:Int),.int .i64 ((i+1:Nat):Int)] w (Ret fun v w'=>v= .slice A (n-1) c∧Own w' base T.int 1 A n c ((l.take i++l.drop (i+1)++[0]).map iv)∧Keep (At A) w w'):=by
 have hl:l.length=n:=by have:=h.1;simpa using this
 obtain⟨g,cur,rfl,hb,hg,h1,h2,h3,h4,_⟩:=h.block0 (by omega)
 have:=AnyG.slices_Delete_int (P:=P) Tryd.laysDelete g 0 c i (i+1) l w (holds_of_blockI hg h4) (by omega) hc (by omega) (by omega)
 rw[hl] at this
 refine Calls.mono (show Calls P F.slices_Delete_sl_int_int _ w _ from this) ?_
 rintro e w' ⟨rfl,q,rfl⟩
 have e1:i+1-i=1:=by omega
 rw[e1]
 have hts:(l.take i++l.drop (i+1)++[0]).length=l.length:=by simp;omega
 refine⟨_,rfl,rfl,?_,?_⟩
 ·have:=own_put (q:=q) (os:= #[]) (ss:=l) (ts:=l.take i++l.drop (i+1)++[0]) hts hb hg (by omega) h2 h3
  rw[hl,grow_empty] at this
  exact this
 ·have:=(put_keep (w:=w) (g:=g) (q:=q) (os:= #[]) (l.take i++l.drop (i+1)++[0]).toArray)
  rw[grow_empty] at this
  exact this.mono fun i _ hi=>⟨_,rfl,hi.symm⟩
theorem index_is {w:World} {A:Option Addr} {n c:Nat} {l:List Int} {x:Int} (h:Ints w A n l) (hn:Sm n):
  Calls P F.slices_Index_sl_int_int #[.slice A n c,.int .i64 x] w (Ret fun v w'=>∃r:Int,v= .int .i64 r∧(0≤r↔x∈l)∧w'=w):=by
 refine ok_slices_Index_sl_int_int A n c x (fun r w'=>(0≤r↔x∈l)∧w'=w) w ?_
 have hl:=h.1
 unfold vc_slices_Index_sl_int_int
 refine⟨fun k i=>k=n-i.toNat∧0≤i∧i≤n∧∀(j:Nat) y,(j:Int)<i→l[j]? =some y→y≠x,⟨_,rfl,by omega,by omega,fun j y hj=>by omega⟩,?_⟩
 rintro k i ⟨rfl,i0,i1,hall⟩
 refine⟨fun hlt=> ?_,fun hge=>⟨⟨fun q=>by omega,fun q=> ?_⟩,rfl⟩⟩
 ·obtain⟨y,a,hy,hA,hc⟩:=h.int i0 hlt
  refine⟨i0,hlt,a,hA,y,hc,fun e=>⟨⟨fun _=>by rw[e];exact List.mem_of_getElem? hy,fun _=>i0⟩,rfl⟩,fun e=>⟨n-(i.toNat+1),by omega,?_⟩⟩
  rw[step_le (n:=n) i0 hlt hn]
  refine⟨by omega,by omega,by omega,fun j z hj hz=> ?_⟩
  rcases Nat.lt_or_ge j i.toNat with q|q
  ·exact hall j z (by omega) hz
  ·have:j=i.toNat:=by omega
   subst this
   rw[hy] at hz
   cases hz
   exact fun q=>e q.symm
 ·obtain⟨j,hj⟩:=List.mem_iff_getElem?.1 q
  have:=(List.getElem?_eq_some_iff.1 hj).1
  exact absurd rfl (hall j x (by omega) hj)
theorem contains_is {w:World} {A:Option Addr} {n c:Nat} {l:List Int} {x:Int} (h:Ints w A n l) (hn:Sm n):
  Calls P F.slices_Contains_sl_int_int #[.slice A n c,.int .i64 x] w (Ret fun v w'=>∃b,v= .bool b∧(b=true↔x∈l)∧w'=w):=by
 refine ok_slices_Contains_sl_int_int A n c x (fun b w'=>(b=true↔x∈l)∧w'=w) w ?_
 unfold vc_slices_Contains_sl_int_int
 refine(index_is h hn).mono ?_
 rintro _ w1 ⟨_,rfl,r,rfl,hr,rfl⟩
 exact⟨_,rfl,r,rfl,by rw[decide_eq_true_iff];exact hr,rfl⟩
end YtbmbhfghpidggaaDoor
end Go.Proofs
namespace Go.Proofs.YtbmbhfghpidggaaDoor
set_option linter.unusedVariables false
set_option linter.unusedSimpArgs false
open Wk
open Go.ChangeMaps (setBlock)
def It {α β:Type} (mk:α→Value) (mv:β→Value) (w:World) (r M:Nat) (l:List (α×β)) (done:List α):Prop:=
 ∃es clock since seen c0,w.heap[M]? =some (.map es clock)∧es.toList.map (fun e=>(e.key,e.val))=l.map (fun x=>(mk x.1,mv x.2))∧((l.map (·.1)).Nodup∧(es.toList.map (·.born)).Nodup)∧w.heap[r]? =some (.mapIter (some M) since seen c0)∧(∀x∈es.toList,x.born<since)∧since≤c0∧since≤clock∧done.Nodup∧
  (∀k∈done,k∈l.map (·.1))∧∀(i:Nat) e x,es.toList[i]? =some e→l[i]? =some x→(seen.contains e.born=true↔x.1∈done)
section
variable {α β:Type} [DecidableEq α] {mk:α→Value} {mv:β→Value} {P:Program} {w w':World} {r M:Nat} {l:List (α×β)} {done:List α}
theorem It.keep {X:Nat→Prop} (h:It mk mv w r M l done) (k:Keep X w w') (h1:¬X r) (h2:¬X M):It mk mv w' r M l done:=by
 obtain⟨es,clock,since,seen,c0,a1,a2,a3,a4,a5⟩:=h
 exact⟨es,clock,since,seen,c0,(k.block M (Array.getElem?_eq_some_iff.1 a1).1 h2).trans a1,a2,a3,(k.block r (Array.getElem?_eq_some_iff.1 a4).1 h1).trans a4,a5⟩
theorem It.start {kt e:TypeId} {t:TypeId} (h:MapIs mk mv w M l) (ht:P.underlying t=some (.map kt e)):∃w',(Instr.range t (.map (some M))).run P w= .ok (.pointer (some ⟨w.heap.size,0,none⟩)) w'∧It mk mv w' w.heap.size M l []∧Ext w w'∧w'.heap.size=w.heap.size+1:=by
 obtain⟨es,clock,h1,h2,h3⟩:=h
 have hlt:=(Array.getElem?_eq_some_iff.1 h1).1
 refine⟨_,run_range_map w t kt e M es clock ht h1,⟨es,clock,clock, #[],clock,((MapKept.heap_alloc w _).2 M hlt).trans h1,h2,⟨h3.1,h3.2.1⟩,(MapKept.heap_alloc w _).1,h3.2.2,Nat.le_refl _,Nat.le_refl _,by simp,by simp,fun i e x _ _=>by simp⟩,⟨by simp,rfl,rfl,rfl,fun b hb _=>(MapKept.heap_alloc w _).2 b hb⟩,by simp⟩
theorem It.next (h:It mk mv w r M l done) (ty:TypeId):
  ((∀k∈l.map (·.1),k∈done)∧(Instr.next (.pointer (some ⟨r,0,none⟩)) false ty).run P w= .ok (.tuple #[.bool false]) w)∨
  ∃k v w',(k,v)∈l∧k∉done∧(Instr.next (.pointer (some ⟨r,0,none⟩)) false ty).run P w= .ok (.tuple #[.bool true,mk k,mv v]) w'∧It mk mv w' r M l (done++[k])∧Keep (fun b=>b=r) w w'∧w'.heap.size=w.heap.size∧(Instr.entry (.pointer (some ⟨r,0,none⟩))).run P w'= .ok (.tuple #[mk k,mv v]) w':=by
 obtain⟨es,clock,since,seen,c0,a1,a2,a3,a4,a5,a6,a7,a8,a9,a10⟩:=h
 have hlen:es.toList.length=l.length:=by have:=congrArg List.length a2;simpa using this
 have pairs:∀(i:Nat) e x,es.toList[i]? =some e→l[i]? =some x→e.key=mk x.1∧e.val=mv x.2:=fun i e x he hx=>by
  have:=congrArg (fun z=>z[i]?) a2
  simp only[List.getElem?_map,he,hx,Option.map_some,Option.some.injEq,Prod.mk.injEq] at this
  exact this
 rcases run_next_at (P:=P) w ty r M since c0 seen es clock a4 a1 a5 a6 with⟨h0,hrun⟩|⟨e,he,w1,hal,hrun⟩
 ·refine .inl ⟨fun k hk=> ?_,hrun⟩
  obtain⟨x,hx,rfl⟩:=List.mem_map.1 hk
  obtain⟨i,hi⟩:=List.mem_iff_getElem?.1 hx
  obtain⟨e,he⟩:∃e,es.toList[i]? =some e:=⟨_,List.getElem?_eq_getElem (by have:=(List.getElem?_eq_some_iff.1 hi).1;omega)⟩
  exact(a10 i e x he hi).1 (all_seen es seen h0 e (List.mem_of_getElem? he))
 ·obtain⟨hem,hes⟩:=mem_left he
  obtain⟨i,hi⟩:=List.mem_iff_getElem?.1 hem
  obtain⟨x,hx⟩:∃x,l[i]? =some x:=⟨_,List.getElem?_eq_getElem (by have:=(List.getElem?_eq_some_iff.1 hi).1;omega)⟩
  obtain⟨ek,ev⟩:=pairs i e x hi hx
  have hr1:w1.heap[r]? =some (.mapIter (some M) since seen c0):=by rcases hal with rfl|rfl<;>exact a4
  have hb1:w1.heap[M]? =some (.map es clock):=by rcases hal with rfl|rfl<;>exact a1
  have hne:r≠M:=fun q=>by rw[q] at hr1;rw[hr1] at hb1;cases hb1
  have hset:=Go.MapKept.heap_set (o':= .mapIter (some M) since (seen.push e.born) clock) hr1
  have hb':(setBlock w1 r (.mapIter (some M) since (seen.push e.born) clock)).heap[M]? =some (.map es clock):=(hset.2 M (fun e1=>hne e1.symm)).trans hb1
  have hnd:x.1∉done:=fun q=>by
   have:=(a10 i e x hi hx).2 q
   rw[hes] at this
   cases this
  refine .inr ⟨x.1,x.2,_,List.mem_of_getElem? hx,hnd,by rw[hrun,ek,ev],⟨es,clock,since,seen.push e.born,clock,hb',a2,a3,hset.1,a5,a7,a7,?_,?_,fun j e' x' he' hx'=> ?_⟩,?_,?_,?_⟩
  ·rw[List.nodup_append]
   exact⟨a8,by simp,fun p hp q hq hpq=>by simp at hq;subst hq;subst hpq;exact hnd hp⟩
  ·intro k hk
   rcases List.mem_append.1 hk with hk|hk
   ·exact a9 k hk
   ·simp at hk;subst hk;exact List.mem_map.2 ⟨x,List.mem_of_getElem? hx,rfl⟩
  ·rw[contains_push,List.mem_append,List.mem_singleton,Bool.or_eq_true,a10 j e' x' he' hx']
   refine or_congr Iff.rfl ?_
   rw[beq_iff_eq]
   have li:=(List.getElem?_eq_some_iff.1 hi).1
   have lj:=(List.getElem?_eq_some_iff.1 he').1
   constructor
   ·intro q
    have:i=j:=by
     refine(List.getElem?_inj (by rw[List.length_map];exact li) a3.2).1 ?_
     rw[List.getElem?_map,List.getElem?_map,hi,he']
     simp[q]
    subst this
    rw[hx] at hx'
    cases hx'
    rfl
   ·intro q
    have:j=i:=by
     refine(List.getElem?_inj (by rw[List.length_map];omega) a3.1).1 ?_
     rw[List.getElem?_map,List.getElem?_map,hx,hx']
     simp[q]
    subst this
    rw[hi] at he'
    cases he'
    rfl
  ·rcases hal with rfl|rfl<;>exact⟨by simp[setBlock],rfl,rfl,rfl,fun b _ hb=>hset.2 b (fun e1=>hb e1)⟩
  ·rcases hal with rfl|rfl<;>simp[setBlock]
  ·rw[run_entry_at (P:=P) _ r M since seen es clock e hset.1 hb' hem a3.2,ek,ev]
end
end Go.Proofs.YtbmbhfghpidggaaDoor
namespace Go.Proofs.YtbmbhfghpidggaaDoor
set_option linter.unusedVariables false
set_option linter.unusedSimpArgs false
open Wk
section
variable {B0:Nat} {w w' w0:World} {p U:Addr} {M N:Nat} {A:Nat→Option Addr} {n c:Nat→Nat} {H:Nat→Prop} {g:GS}
theorem row_sl {α:Type} {cd:Cod α} {base:Nat} {e:TypeId} {A:Option Addr} {n cp:Nat} {vs:List Value} {xs:List α} (h:Row w base e cd.size A n cp vs) (k:SlV cd w vs xs) (hs:0<cd.size):Sl cd w A n xs:=by
 have hlen:xs.length=n:=by
  have h1:=h.1
  have h2:=k.1
  rw[h1] at h2
  exact(Nat.eq_of_mul_eq_mul_right hs h2).symm
 refine⟨hlen,fun i x hx=> ?_⟩
 have hi:=(List.getElem?_eq_some_iff.1 hx).1
 obtain⟨a,us,hA,hu,hul,hc,_⟩:=h.elem (i:=(i:Int)) (by omega) (by omega) hs
 rw[Int.toNat_natCast] at hu hc
 refine⟨a,us,hA,hul,hc,?_⟩
 rw[hu]
 exact k.2 i x hx
theorem GRep.sl (h:GRep B0 w p U M N A n c H g):Sl cFlat w (A 4) (n 4) g.nodes:=by
 have hr:Row w B0 T.api_Flat 2 (A 4) (n 4) (c 4) g.nvals.vals:=h.row (show 4<9 by omega)
 exact row_sl (cd:=cFlat) hr h.nd.now (by decide)
def pick (st:List SaidR) (tags:List Int):List SaidR:=st.filter fun s=>decide (s.tag∈tags)
theorem with_is {C W:Nat} {us:List Edge} {D:Option Addr} {m d:Nat} {tags:List Int} (h:GRep B0 w p U M N A n c H g) (hl:GLive C W g us) (hwd:wsum g.nodes g.nodes.length≤W) (hC:g.nodes.length*(W+2)+1≤549755813888) (hst:g.stand.length≤1048576) (hD:Ints w D m tags) (hm:Sm m):
  Calls P F.euf_Graph_with #[.pointer (some p),.slice D m d] w (Ret fun v w'=>∃p' U' M' H' g' us',v= .pointer (some p')∧Gr (g.nodes.length*(W+2)+1) W B0 w' p' U' M' g.nodes.length H' g' us'∧g'.nodes=g.nodes∧g'.stand=pick g.stand tags∧Adv (fun _=>False) w H' w'):=by
 refine Ret.mono (ok_euf_Graph_with p D m d (fun q w'=>∃p' U' M' H' g' us',q=some p'∧Gr (g.nodes.length*(W+2)+1) W B0 w' p' U' M' g.nodes.length H' g' us'∧g'.nodes=g.nodes∧g'.stand=pick g.stand tags∧Adv (fun _=>False) w H' w') w ?_) (by rintro _ w' ⟨q,rfl,p',U',M',H',g',us',rfl,k⟩;exact⟨p',U',M',H',g',us',rfl,k⟩)
 have e4:=h.n4
 have e6:=h.n6
 unfold vc_euf_Graph_with
 refine⟨A 4,n 4,c 4,h.cell (show 4<9 by omega),?_⟩
 rw[←e4]
 refine(new_is (B0:=B0) (c1:=c 4) (fs:=g.nodes) (W0:=W) (fun w' hw'=>by have:=(h.stay hw').sl;rw[←e4] at this;exact this) h.le h.tab hl.inv.few hl.inv.fn64 hwd hl.bd.wfew hC).mono ?_
 rintro _ w1 ⟨_,rfl,hk⟩
 rcases hk with⟨hns,_⟩|⟨_,p',U',M',H1,g1,us1,rfl,G1,hn1,hs1,hm1,adv1⟩
 ·exact absurd hl.inv.sound hns
 have h1:=h.stay adv1.keep
 refine⟨_,rfl,some p',0,rfl,A 6,n 6,c 6,h1.cell (show 6<9 by omega),?_⟩
 rw[←e6]
 refine⟨fun k i w'=>k=g.stand.length-i.toNat∧0≤i∧i≤g.stand.length∧∃H' g' us',Gr (g.nodes.length*(W+2)+1) W B0 w' p' U' M' g.nodes.length H' g' us'∧g'.nodes=g.nodes∧g'.stand=pick (g.stand.take i.toNat) tags∧Adv (fun _=>False) w H' w',⟨_,rfl,by omega,by omega,H1,g1,us1,G1,hn1,by rw[hs1];rfl,adv1⟩,?_⟩
 rintro k i w2 ⟨rfl,i0,i1,H2,g2,us2,G2,hn2,hs2,adv2⟩
 refine⟨fun hlt=> ?_,fun hge=> ?_⟩
 ·have hi:i.toNat<g.stand.length:=by omega
  obtain⟨s,hs⟩:∃s,g.stand[i.toNat]? =some s:=⟨_,List.getElem?_eq_getElem hi⟩
  have h2:=h.stay adv2.keep
  obtain⟨_,_,a1,hA1,hc1⟩:=h2.said i0 hs
  refine⟨i0,hlt,a1,hA1,_,_,_,_,hc1,fun p2 w3 hN3=>⟨hN3.soft rfl,fun w4 hw4=> ?_⟩⟩
  have kp4:=setCellsAt_keep hw4
  have E4:Ext w2 w4:=(Ext.of_new hN3).over kp4 (fun i hi hh=>by rw[hN3.block] at hh;omega)
  have c4:CellsAt w4 p2 s.vals:=set_cells hw4 (by exact hN3.soft rfl)
  have et:g.stand.take (i.toNat+1)=g.stand.take i.toNat++[s]:=take_succ_of hs
  have adv4:Adv (fun _=>False) w H2 w4:=adv2.trans (Adv.of_ext E4)
  obtain⟨⟨A2,n2,c2,r2⟩,l2,hN2⟩:=G2
  have G4:Gr (g.nodes.length*(W+2)+1) W B0 w4 p' U' M' g.nodes.length H2 g2 us2:=⟨⟨A2,n2,c2,r2.stay E4⟩,l2,hN2⟩
  have hlen2:g2.stand.length≤i.toNat:=by
   rw[hs2]
   exact Nat.le_trans (List.length_filter_le _ _) (by rw[List.length_take];omega)
  have next:∀w' H' g' us',Gr (g.nodes.length*(W+2)+1) W B0 w' p' U' M' g.nodes.length H' g' us'→g'.nodes=g.nodes→g'.stand=pick (g.stand.take (i.toNat+1)) tags→Adv (fun _=>False) w H' w'→vc_euf_Graph_with_J1 (g.stand.length-i.toNat) (fun k i w'=>k=g.stand.length-i.toNat∧0≤i∧i≤g.stand.length∧∃H' g' us',Gr (g.nodes.length*(W+2)+1) W B0 w' p' U' M' g.nodes.length H' g' us'∧g'.nodes=g.nodes∧g'.stand=pick (g.stand.take i.toNat) tags∧Adv (fun _=>False) w H' w') i w':=by
   intro w' H' g' us' a1 a2 a3 a4
   refine⟨g.stand.length-(i.toNat+1),by omega,?_⟩
   rw[step_le (n:=g.stand.length) i0 hlt (by unfold Sm;omega)]
   exact⟨by omega,by omega,by omega,H',g',us',a1,a2,by rw[show(i+1).toNat=i.toNat+1 by omega];exact a3,a4⟩
  obtain⟨va,vb⟩:=hl.sem.val s (List.mem_of_getElem? hs)
  have there:There g2 s.a s.b:=by unfold There;rw[hn2];exact⟨va.1,vb.1,va.2,vb.2⟩
  refine⟨s.tag,c4 2 _ rfl,(contains_is (c:=d) (hD.ext adv4.keep) hm).mono ?_⟩
  rintro _ w5 ⟨_,rfl,b,rfl,hb,rfl⟩
  refine⟨_,rfl,b,rfl,fun hno=> ?_,fun hyes=>⟨s.not,c4 3 _ rfl,fun hnot=>⟨s.a,c4 0 _ rfl,s.b,c4 1 _ rfl,s.tag,c4 2 _ rfl,?_⟩,fun hnot=>⟨s.a,c4 0 _ rfl,s.b,c4 1 _ rfl,s.tag,c4 2 _ rfl,?_⟩⟩⟩
  ·have hnm:s.tag∉tags:=fun q=>by rw[hb.2 q] at hno;cases hno
   refine next w5 H2 g2 us2 G4 hn2 ?_ adv4
   rw[et,hs2]
   simp[pick,hnm]
  ·have hmem:s.tag∈tags:=hb.1 (by cases b<;>simp at hyes⊢)
   have ep:pick (g.stand.take (i.toNat+1)) tags=pick (g.stand.take i.toNat) tags++[s]:=by rw[et];simp[pick,hmem]
   refine(differ_is (r2.stay E4) (by omega)).mono ?_
   rintro _ w6 ⟨_,rfl,e,rfl,A6,n6,c6,H6,g6,r6,adv6,sub6,hres⟩
   refine⟨_,rfl,e,rfl,?_⟩
   rcases hres with⟨hno,_⟩|⟨_,rfl,rfl⟩
   ·exact absurd there hno
   ·refine next w6 H6 _ us2 ⟨⟨A6,n6,c6,r6⟩,l2.differ (by rw[hn2];exact va) (by rw[hn2];exact vb),hN2⟩ hn2 ?_ (adv4.trans adv6)
    show g2.stand++[_]=_
    rw[ep,hs2]
    cases s
    simp only at hnot
    rw[hnot]
  ·have hmem:s.tag∈tags:=hb.1 (by cases b<;>simp at hyes⊢)
   have ep:pick (g.stand.take (i.toNat+1)) tags=pick (g.stand.take i.toNat) tags++[s]:=by rw[et];simp[pick,hmem]
   refine(equal_is G4 (a:=s.a) (b:=s.b) (t:=s.tag) (by omega)).mono ?_
   rintro _ w6 ⟨_,rfl,e,rfl,H6,g6,us6,G6,adv6,sub6,hm6,hn6,hv6,hres⟩
   refine⟨_,rfl,e,rfl,?_⟩
   rcases hres with⟨hno,_⟩|⟨_,rfl,hs6⟩
   ·exact absurd there hno
   ·refine next w6 H6 g6 us6 G6 (hn6.trans hn2) ?_ (adv4.trans adv6)
    rw[hs6,ep,hs2]
    cases s
    simp only at hnot
    rw[hnot]
 ·have hi:i.toNat=g.stand.length:=by omega
  rw[hi,List.take_length] at hs2
  exact⟨p',U',M',H2,g2,us2,rfl,G2,hn2,hs2,adv2⟩
end
end Go.Proofs.YtbmbhfghpidggaaDoor
namespace Go.Proofs.YtbmbhfghpidggaaDoor
set_option linter.unusedVariables false
set_option linter.unusedSimpArgs false
open Wk
theorem nodup_sub:∀{a b:List Int},a.Nodup→(∀t∈a,t∈b)→a.length≤b.length
 |[],b,_,_=>Nat.zero_le _
 |x::a,b,hn,hs=>by
  obtain⟨n1,n2⟩:=List.nodup_cons.1 hn
  have hx:=hs x (by simp)
  have:=nodup_sub (b:=b.erase x) n2 fun t ht=>(List.mem_erase_of_ne (a:=t) (b:=x) (fun q:t=x=>n1 (by rw[←q];exact ht))).2 (hs t (List.mem_cons_of_mem _ ht))
  rw[List.length_erase_of_mem hx] at this
  have:=List.length_pos_of_mem hx
  simp only[List.length_cons]
  omega
theorem rise_of {l:List Int} (hn:l.Nodup):(l.mergeSort fun x y=>decide (x≤y)).Pairwise (·<·):=by
 have h1:(l.mergeSort fun x y=>decide (x≤y)).Pairwise fun x y=>decide (x≤y)=true:=List.pairwise_mergeSort (fun a b c h1 h2=>by simp at*;omega) (fun a b=>by simp;omega) l
 have h2:(l.mergeSort fun x y=>decide (x≤y)).Nodup:=(List.mergeSort_perm l _).nodup_iff.2 hn
 have:=h1.and h2
 exact this.imp fun {a b} h=>by
  have h3:=h.1
  have h4:=h.2
  simp at h3
  omega
theorem rise_erase {l:List Int} (h:l.Pairwise (·<·)) (i:Nat):(l.eraseIdx i).Pairwise (·<·):=h.sublist (List.eraseIdx_sublist _ _)
theorem erase_eq (l:List Int) {i:Nat} (hi:i<l.length):l.take i++l.drop (i+1)=l.eraseIdx i:=by rw[List.eraseIdx_eq_take_drop_succ]
section
variable {B0:Nat} {w w' w0:World} {p U:Addr} {M N:Nat} {A:Nat→Option Addr} {n c:Nat→Nat} {H:Nat→Prop} {g:GS}
theorem row_ints {base:Nat} {A:Option Addr} {n c:Nat} {l:List Int} (h:Row w base T.int 1 A n c (l.map iv)):Ints w A n l:=by
 have hl:l.length=n:=by have:=h.1;simpa using this
 refine⟨hl,fun i x hx=> ?_⟩
 obtain⟨aB,vB,hB,hvB,hcB,_⟩:=h.get (i:=(i:Int)) (by omega) (by have:=(List.getElem?_eq_some_iff.1 hx).1;omega)
 rw[Int.toNat_natCast,List.getElem?_map,hx] at hvB
 cases hvB
 refine⟨aB,[iv x],hB,rfl,fun j v hj=> ?_,rfl⟩
 cases j with
 |zero=>simp at hj;subst hj;rw[Addr.add_add];rw[Int.toNat_natCast] at hcB;exact hcB
 |succ j=>simp at hj
theorem bare_is {C W:Nat} {us:List Edge} {m1:Nat} {ks:List (Int×Int)} {f:FuncId} {cs:List Value} {HP:List Int→Prop} (h:GRep B0 w p U M N A n c H g) (hl:GLive C W g us) (hwd:wsum g.nodes g.nodes.length≤W) (hC:g.nodes.length*(W+2)+1≤549755813888) (hst:g.stand.length≤1048576) (hm:MapIs (Value.int .i64) iv w m1 ks) (hks:ks.length≤2097152)
  (hmono:∀a b:List Int,(∀t∈a,t∈b)→HP a→HP b) (hstart:HP (ks.map (·.1))) (hf:callable P f=true)
  (hcall:∀w' tags p' U' M' H' g' us',Ext w w'→Gr (g.nodes.length*(W+2)+1) W B0 w' p' U' M' g.nodes.length H' g' us'→g'.nodes=g.nodes→g'.stand=pick g.stand tags→Calls P f ([.pointer (some p')]++cs:List Value).toArray w' (Ret fun v w''=>∃b,v= .bool b∧(b=true↔HP tags)∧Ext w' w'')):
  Calls P F.euf_Graph_bare #[.pointer (some p),.map (some m1),.func (.func f) #[] cs.toArray] w (Ret fun v w'=>∃B d out,v= .slice B out.length d∧Row w' w.heap.size T.int 1 B out.length d (out.map iv)∧out.Pairwise (·<·)∧HP out∧(∀j,j<out.length→¬HP (out.eraseIdx j))∧Ext w w'):=by
 refine Ret.mono (ok_euf_Graph_bare p (some m1) (.func (.func f) #[] cs.toArray) (fun B k d w'=>∃out,k=out.length∧Row w' w.heap.size T.int 1 B out.length d (out.map iv)∧out.Pairwise (·<·)∧HP out∧(∀j,j<out.length→¬HP (out.eraseIdx j))∧Ext w w') w ?_) (by rintro _ w' ⟨B,k,d,rfl,out,rfl,hk⟩;exact⟨B,d,out,rfl,hk⟩)
 unfold vc_euf_Graph_bare
 obtain⟨w1,hr1,I1,E1,z1⟩:=It.start hm uMapI
 refine⟨_,w1,hr1,?_⟩
 have mlt:=hm.lt
 refine⟨fun k B m d w'=>∃done,k=ks.length-done.length∧m=done.length∧It (Value.int .i64) iv w' w.heap.size m1 ks done∧Own w' w1.heap.size T.int 1 B m d (done.map iv)∧done.length≤ks.length∧Ext w w'∧w1.heap.size≤w'.heap.size,⟨_,[],rfl,rfl,I1,Own.nil _ _ _ _,Nat.zero_le _,E1,Nat.le_refl _⟩,?_⟩
 rintro k B m d w2 ⟨done,rfl,rfl,I2,O2,hle,E2,z2⟩
 have kl:(ks.map (·.1)).length=ks.length:=List.length_map _
 rcases I2.next (P:=P) T.t with⟨hall,hrun⟩|⟨kk,v,w3,hkv,hkd,hrun,I3,K3,z3,hent⟩
 ·refine⟨false,[],w2,hrun,fun q=>(by cases q),fun _=> ?_⟩
  have hnd:done.Nodup:=by obtain⟨_,_,_,_,_,_,_,_,_,_,_,_,h8,_⟩:=I2;exact h8
  have hsub:∀t∈done,t∈ks.map (·.1):=by obtain⟨_,_,_,_,_,_,_,_,_,_,_,_,_,h9,_⟩:=I2;exact h9
  refine(sort_is O2 (by omega)).mono ?_
  rintro _ w6 ⟨_,rfl,rfl,O6,K6⟩
  have E6:Ext w w6:=E2.over K6 (fun i hi hh=>by have:=(O2.at hh).1;omega)
  have hp6:∀t,t∈(done.mergeSort fun x y=>decide (x≤y))↔t∈ks.map (·.1):=fun t=>by
   rw[List.mem_mergeSort]
   exact⟨hsub t,hall t⟩
  have len6:(done.mergeSort fun x y=>decide (x≤y)).length=done.length:=List.length_mergeSort _
  refine⟨_,rfl,rfl,fun k B m d x w'=>∃out,k=out.length-x.toNat∧0≤x∧x≤out.length∧m=out.length∧out.length≤2097152∧Row w' w.heap.size T.int 1 B out.length d (out.map iv)∧out.Pairwise (·<·)∧HP out∧(∀j:Nat,(j:Int)<x→¬HP (out.eraseIdx j))∧Ext w w',⟨_,done.mergeSort fun x y=>decide (x≤y),rfl,by omega,by omega,len6.symm,by omega,?_,rise_of hnd,hmono _ _ (fun t ht=>(hp6 t).2 ht) hstart,fun j hj=>by omega,E6⟩,?_⟩
  ·rw[len6]
   exact(O6.row).rebase E1.size
  ·rintro k3 B4 m4 d4 x w7 ⟨out,rfl,x0,x1,rfl,hbo,R7,hr7,hp7,hb7,E7⟩
   refine⟨fun hlt=> ?_,fun hge=> ?_⟩
   ·have hx:x.toNat<out.length:=by omega
    refine(clone_is (row_ints R7) (by unfold Sm;omega)).mono ?_
    rintro _ w8 ⟨_,rfl,B5,d5,rfl,O8,E8⟩
    refine⟨_,rfl,B5,_,d5,rfl,?_⟩
    rw[step_le (n:=out.length) x0 hlt (by unfold Sm;omega)]
    have hcap:d5≤9223372036854775807:=by
     obtain⟨_,_,_,_,_,_,hm',_⟩:=O8.block0 (by omega)
     unfold maxLen at hm'
     omega
    have hdel:=delete_is (i:=x.toNat) O8 hx hcap
    rw[show((x.toNat:Nat):Int)=x by omega,show((x.toNat+1:Nat):Int)=x+1 by omega] at hdel
    refine hdel.mono ?_
    rintro _ w9 ⟨_,rfl,rfl,O9,K9⟩
    have E9:Ext w w9:=(E7.trans E8).over K9 (fun i hi hh=>by have:=(O8.at hh).1;have:=E7.size;omega)
    have R9:=((O9.row).rebase (b':=w.heap.size) E7.size).cut (m:=out.length-1) (d:=d5) (by omega) (by have:=O9.row.le;omega) (Nat.le_refl _)
    rw[Nat.mul_one,←List.map_take,erase_eq out hx] at R9
    have le9:(out.eraseIdx x.toNat).length=out.length-1:=by rw[List.length_eraseIdx,if_pos hx]
    rw[←le9,List.take_left] at R9
    rw[←le9]
    refine⟨_,rfl,B5,_,d5,rfl,?_⟩
    refine(with_is (h.stay E9) hl hwd hC hst (row_ints R9) (by unfold Sm;omega)).mono ?_
    rintro _ w10 ⟨_,rfl,p',U',M',H',g',us',rfl,G10,n10,s10,adv10⟩
    have E10:Ext w w10:=E9.trans adv10.keep
    refine⟨_,rfl,some p',rfl,f,cs,rfl,hf,(hcall w10 (out.eraseIdx x.toNat) p' U' M' H' g' us' E10 G10 n10 s10).mono ?_⟩
    rintro _ w11 ⟨_,rfl,b,rfl,hb,E11⟩
    refine⟨_,rfl,b,rfl,fun hbt=> ?_,fun hbf=> ?_⟩
    ·refine⟨out.length-1-x.toNat,by omega,out.eraseIdx x.toNat,by omega,x0,by omega,rfl,by omega,(R9.keep adv10.keep (fun _ _ h=>h)).keep E11 (fun _ _ h=>h),rise_erase hr7 _,hb.1 hbt,fun j hj hh=> ?_,E10.trans E11⟩
     refine hb7 j hj (hmono _ _ (fun t ht=> ?_) hh)
     have:(out.eraseIdx x.toNat).eraseIdx j=(out.eraseIdx j).eraseIdx (x.toNat-1):=by
      apply List.ext_getElem?
      intro i
      simp only[List.getElem?_eraseIdx]
      repeat' split
      all_goals first|rfl|omega|(congr 1;omega)
     rw[this] at ht
     exact(List.eraseIdx_sublist _ _).mem ht
    ·refine⟨out.length-(x.toNat+1),by omega,out,by omega,by omega,by omega,rfl,hbo,((((R7.keep E8 (fun _ _ h=>h)).keep K9 ?_).keep adv10.keep (fun _ _ h=>h)).keep E11 (fun _ _ h=>h)),hr7,hp7,fun j hj=> ?_,E10.trans E11⟩
     ·intro b hb' hh
      have h1:=(R7.at hb').2
      have h2:=(O8.at hh).1
      omega
     ·by_cases q:(j:Int)<x
      ·exact hb7 j q
      ·have:j=x.toNat:=by omega
       subst this
       exact fun hh=>by rw[hb.2 hh] at hbf;cases hbf
   ·have hx:x.toNat=out.length:=by omega
    exact⟨out,rfl,R7,hr7,hp7,fun j hj=>hb7 j (by omega),E7⟩
 ·have hlt:done.length<ks.length:=by
   have hnd:(done++[kk]).Nodup:=by obtain⟨_,_,_,_,_,_,_,_,_,_,_,_,h8,_⟩:=I3;exact h8
   have hsub:∀t∈done++[kk],t∈ks.map (·.1):=by obtain⟨_,_,_,_,_,_,_,_,_,_,_,_,_,h9,_⟩:=I3;exact h9
   have:=nodup_sub hnd hsub
   rw[kl] at this
   simp at this
   omega
  refine⟨true,[.int .i64 kk,iv v],w3,hrun,fun _=>⟨kk,v,hent,fun p3 w4 hN4=> ?_⟩,fun q=>(by cases q)⟩
  have O3:=O2.keep K3 (fun b hb hh=>by have:=(O2.at hb).1;omega)
  have E4:=Ext.of_new hN4
  have z4:=hN4.size
  obtain⟨A3,c3,w5,hr5,O5,K5,hA5⟩:=(O3.keep E4 (fun _ _ h=>h)).append (P:=P) (t:=T.sl_int) (ty:=T.sl_int) (m:=1) (c2:=1) gIntE gIntI (by decide) (by decide) (by decide) (news:=[iv kk]) rfl (hN4.cells rfl) (by intro u hu;simp at hu;subst hu;rfl) (by omega) (by omega)
  refine⟨A3,_,c3,w5,hr5,ks.length-(done.length+1),by omega,done++[kk],by simp,by simp,(I3.keep E4 (fun h=>h) (fun h=>h)).keep K5 ?_ ?_,?_,by simp;omega,?_,?_⟩
  ·intro hh;have:=(O2.at hh).1;omega
  ·intro hh;have:=(O2.at hh).1;have:=E1.size;omega
  ·rw[List.map_append];exact O5
  ·refine((E2.over K3 (fun i hi hh=>by omega)).trans E4).over K5 (fun i hi hh=>by have:=(O2.at hh).1;omega)
  ·have:=K5.size;omega
end
end Go.Proofs.YtbmbhfghpidggaaDoor
namespace Go.Proofs.YtbmbhfghpidggaaDoor
set_option linter.unusedVariables false
set_option linter.unusedSimpArgs false
open Wk
theorem pick_mem {st:List SaidR} {tags:List Int} {s:SaidR}:s∈pick st tags↔s∈st∧s.tag∈tags:=by simp[pick]
theorem pick_mono {st:List SaidR} {a b:List Int} (h:∀t∈a,t∈b) {s:SaidR} (hs:s∈pick st a):s∈pick st b:=pick_mem.2 ⟨(pick_mem.1 hs).1,h _ (pick_mem.1 hs).2⟩
theorem eqs_mono {st st':List SaidR} (h:∀s∈st,s∈st') {x y:Int} (k:eqsOf st x y):eqsOf st' x y:=let ⟨s,h1,h2⟩:=k;⟨s,h _ h1,h2⟩
theorem eqs_pick {st:List SaidR} {tags:List Int} {T:Int→Prop} (h:∀t,T t→t∈tags) {x y:Int} (k:eqsT st T x y):eqsOf (pick st tags) x y:=let ⟨s,h1,h2,h3,h4⟩:=k;⟨s,pick_mem.2 ⟨h1,h _ h3⟩,h2,trivial,h4⟩
def SameBy (ns:List Flat) (st:List SaidR) (a b:Int):Prop:=CC ns (eqsOf st) a b
def ApartBy (ns:List Flat) (st:List SaidR) (a b:Int):Prop:=∃s∈st,s.not=true∧((SameBy ns st s.a a∧SameBy ns st s.b b)∨(SameBy ns st s.a b∧SameBy ns st s.b a))
def ClashBy (ns:List Flat) (st:List SaidR):Prop:=∃s∈st,s.not=true∧SameBy ns st s.a s.b
theorem SameBy.mono {ns:List Flat} {st st':List SaidR} (h:∀s∈st,s∈st') {a b:Int} (k:SameBy ns st a b):SameBy ns st' a b:=CC.mono (fun _ _ e=>eqs_mono h e) k
theorem ApartBy.mono {ns:List Flat} {st st':List SaidR} (h:∀s∈st,s∈st') {a b:Int} (k:ApartBy ns st a b):ApartBy ns st' a b:=
 let ⟨s,h1,h2,h3⟩:=k
 ⟨s,h s h1,h2,h3.imp (fun q=>⟨q.1.mono h,q.2.mono h⟩) fun q=>⟨q.1.mono h,q.2.mono h⟩⟩
theorem ClashBy.mono {ns:List Flat} {st st':List SaidR} (h:∀s∈st,s∈st') (k:ClashBy ns st):ClashBy ns st':=
 let ⟨s,h1,h2,h3⟩:=k
 ⟨s,h s h1,h2,h3.mono h⟩
structure Bare (HP:List Int→Prop) (out:List Int):Prop where
 rise:out.Pairwise (·<·)
 holds:HP out
 least:∀j,j<out.length→¬HP (out.eraseIdx j)
theorem isSome_mem {ks:List (Int×Int)} {t:Int} (h:(aget ks t).isSome=true):t∈ks.map (·.1):=by
 induction ks with
 |nil=>simp[aget] at h
 |cons x ks ih=>
  by_cases hx:x.1=t
  ·simp[hx]
  ·have:(aget ks t).isSome=true:=by simpa [aget,hx] using h
   simpa using .inr (by simpa using ih this)
theorem keys_len {N:Nat} {why:List Edge} {ks ks0:List (Int×Int)} (hn:(ks.map (·.1)).Nodup) (h:∀t∈ks.map (·.1),t∈ks0.map (·.1)∨∃z,Vn N z∧(edgeAt why z).tag=t):ks.length≤ks0.length+N:=by
 have:=nodup_sub (b:=ks0.map (·.1)++(List.range N).map fun(i:Nat)=>(edgeAt why (i:Int)).tag) hn fun t ht=>by
  rcases h t ht with q|⟨z,vz,e⟩
  ·exact List.mem_append.2 (.inl q)
  ·refine List.mem_append.2 (.inr (List.mem_map.2 ⟨z.toNat,List.mem_range.2 (by have:=vz.1;have:=vz.2;omega),?_⟩))
   rw[toNat_cast vz.1]
   exact e
 rw[List.length_append,List.length_map,List.length_map,List.length_map,List.length_range] at this
 exact this
section
variable {B0:Nat} {w w' w0:World} {p U:Addr} {M N:Nat} {A:Nat→Option Addr} {n c:Nat→Nat} {H:Nat→Prop} {g:GS}
theorem GRep.own_newM (h:GRep B0 w p U M N A n c H g) {m:Nat} (hN:NewM w m w'):GRep B0 w' p U M N A n c (fun b=>H b∨b=m) g∧¬GX p U M N A m∧Ext w w':=by
 have hb:=hN.at_
 have E:Ext w w':=(Keep.refl _ w).newm hN
 have adv0:Adv H w (fun b=>H b∨b=m) w':=⟨(Keep.refl H w).newm hN,fun i hi hh=>hh.elim id fun hh=>by omega⟩
 have h':=h.stay E
 have hsz:w'.heap.size=w.heap.size+1:=by rw[hN.is];simp
 refine⟨⟨h'.fam,h'.ucell,h'.mcell,h'.map,h'.mno,h'.nad,h.nd.adv adv0.low,fun b hb=> .inl (h.sub b hb),.inl h.subM,?_,h.pU,h'.tab⟩,fun hh=> ?_,E⟩
 ·have h0:=(h.lo _ h.subM).1
  have h1:=h.map.lt
  rintro b (hb|rfl)
  ·have:=h.lo b hb
   omega
  ·omega
 ·rcases hh with hh|hh
  ·have:=(h.fam.fx hh).2
   omega
  ·have:=h.map.lt
   omega
structure Wide (W:Nat) (g:GS):Prop where
 wide:wsum g.nodes g.nodes.length≤W
 args:∀x∈g.nodes,x.args.length≤W
 room:g.nodes.length*(W+2)+1≤549755813888
 stand:g.stand.length≤1048575
theorem Wide.room1 {W:Nat} (h:Wide W g):g.nodes.length*(W+1)+1≤549755813888:=by
 have:=h.room
 have e:g.nodes.length*(W+2)=g.nodes.length*(W+1)+g.nodes.length:=by rw[show W+2=(W+1)+1 by omega,Nat.mul_succ]
 omega
theorem Gr.same_iff {C W:Nat} {us:List Edge} (h:GLive C W g us) {x y:Int} (hx:Vn g.nodes.length x) (hy:Vn g.nodes.length y):fd g x=fd g y↔SameBy g.nodes g.stand x y:=fd_iff h.inv h.sem hx hy
theorem clash_iff {C W:Nat} {us:List Edge} (h:GLive C W g us):(∃s∈g.stand,ClashAt g s)↔ClashBy g.nodes g.stand:=by
 constructor
 ·rintro⟨s,hs,h1,h2⟩
  obtain⟨va,vb⟩:=h.sem.val s hs
  exact⟨s,hs,h1,(Gr.same_iff h va vb).1 h2⟩
 ·rintro⟨s,hs,h1,h2⟩
  obtain⟨va,vb⟩:=h.sem.val s hs
  exact⟨s,hs,h1,(Gr.same_iff h va vb).2 h2⟩
theorem known_of {C W:Nat} {us:List Edge} (h:GLive C W g us) (hs:Sm g.stand.length):Known g:=
 ⟨fun x h0 h1=>⟨_,vn_some (d:= -1) h.inv.cls.lfirst ⟨h0,h1⟩⟩,fun s hs=>by
  obtain⟨v1,v2⟩:=h.sem.val s hs
  exact⟨v1.1,v2.1,v1.2,v2.2⟩,hs⟩
theorem why_is {C W:Nat} {us:List Edge} {a b:Int} (h:GRep B0 w p U M N A n c H g) (hl:GLive C W g us) (wd:Wide W g):
  Calls P F.euf_Graph_Why #[.pointer (some p),.int .i64 a,.int .i64 b] w (Ret fun v w'=>∃B m d e,v= .tuple #[.slice B m d,.int .i64 e]∧Ext w w'∧((¬There g a b∧e=80∧m=0)∨(There g a b∧¬SameBy g.nodes g.stand a b∧e=82∧m=0)∨
   (There g a b∧SameBy g.nodes g.stand a b∧e=0∧∃out,m=out.length∧Row w' w.heap.size T.int 1 B out.length d (out.map iv)∧Bare (fun tags=>SameBy g.nodes (pick g.stand tags) a b) out))):=by
 refine Ret.mono (ok_euf_Graph_Why p a b (fun B m d e w'=>Ext w w'∧((¬There g a b∧e=80∧m=0)∨(There g a b∧¬SameBy g.nodes g.stand a b∧e=82∧m=0)∨
   (There g a b∧SameBy g.nodes g.stand a b∧e=0∧∃out,m=out.length∧Row w' w.heap.size T.int 1 B out.length d (out.map iv)∧Bare (fun tags=>SameBy g.nodes (pick g.stand tags) a b) out))) w ?_) (by rintro _ w' ⟨B,m,d,e,rfl,hk⟩;exact⟨B,m,d,e,rfl,hk⟩)
 unfold vc_euf_Graph_Why
 intro p2 w1 hN1 p3 w2 hN2
 have E2:Ext w w2:=(Ext.of_new hN1).new hN2
 have c2:w2.cell? p2=some (.int .i64 a):=(Ext.of_new hN2).cell (by simpa [add0] using hN1.cells rfl 0 _ rfl)
 have c3:w2.cell? p3=some (.int .i64 b):=by simpa [add0] using hN2.cells rfl 0 _ rfl
 have h2:=h.stay E2
 refine⟨a,c2,b,c3,(there_is h2 a b).mono ?_⟩
 rintro _ w3 ⟨_,rfl,r,rfl,hr,rfl⟩
 refine⟨_,rfl,r,rfl,fun hn=>⟨E2,.inl ⟨fun ht=> ?_,rfl,rfl⟩⟩,fun hn=> ?_⟩
 ·rw[hr.2 ht] at hn;cases hn
 have ht:There g a b:=hr.1 (by cases r<;>simp at hn⊢)
 have va:Vn g.nodes.length a:=⟨ht.1,ht.2.2.1⟩
 have vb:Vn g.nodes.length b:=⟨ht.2.1,ht.2.2.2⟩
 have ffa:=vn_some (d:= -1) hl.inv.cls.lfirst va
 have ffb:=vn_some (d:= -1) hl.inv.cls.lfirst vb
 rw[add0]
 refine⟨a,c2,fd g a,fun w' hw'=>find_is (h2.stay (Ext.of_drawn hw')) va.1 ffa,b,c3,fd g b,fun w' hw'=>find_is (h2.stay (Ext.of_drawn hw')) vb.1 ffb,fun w4 hw4=>⟨fun hne=>⟨E2.drawn hw4,.inr (.inl ⟨ht,fun q=>hne ((Gr.same_iff hl va vb).2 q),rfl,rfl⟩)⟩,fun heq=> ?_⟩⟩
 have heq':fd g a=fd g b:=Decidable.not_not.1 heq
 intro m1 w5 hM5
 have h4:=h2.stay (Ext.of_drawn hw4)
 obtain⟨h5,mX,E5⟩:=h4.own_newM hM5
 have E45:Ext w3 w5:=(Ext.of_drawn hw4).trans E5
 refine⟨a,E45.cell c2,b,E45.cell c3,?_⟩
 have few:=hl.inv.few
 refine(tags_is h5 hl.inv hl.sem (.inr rfl) mX wd.args (Wide.room1 wd) va vb heq' (MapIs.new hM5)).mono ?_
 rintro _ w6 ⟨_,rfl,rfl,ks,hm6,K6,_,hcc,hsrc⟩
 have hkl:=keys_len (by obtain⟨_,_,_,_,h3,_⟩:=hm6;exact h3) hsrc
 have hmb:=hM5.at_
 have E26:Ext w3 w6:=E45.over K6 (fun i hi hh=>by have:=(Ext.of_drawn hw4).size;omega)
 have E6:Ext w w6:=E2.trans E26
 have d2:w6.cell? p2=some (.int .i64 a):=E26.cell c2
 have d3:w6.cell? p3=some (.int .i64 b):=E26.cell c3
 refine⟨_,rfl,rfl,?_⟩
 refine(bare_is (cs:=[.pointer (some p2),.pointer (some p3)]) (HP:=fun tags=>SameBy g.nodes (pick g.stand tags) a b) (h.stay E6) hl wd.wide wd.room (by have:=wd.stand;omega) hm6 (by simp at hkl;omega) (fun x y hxy k=>k.mono fun s hs=>pick_mono hxy hs) (CC.mono (fun x y k=>eqs_pick (fun t ht=>isSome_mem ht) k) hcc) (by kernel_rfl) ?_).mono ?_
 ·intro w' tags p' U' M' H' g' us' E' G' hn' hs'
  obtain⟨⟨A',n',c',r'⟩,l',_⟩:=G'
  refine Ret.mono (ok_euf_Graph_Why_1 p' p2 p3 (fun b' w''=>(b'=true↔SameBy g.nodes (pick g.stand tags) a b)∧Ext w' w'') w' ?_) (by rintro _ w'' ⟨b',rfl,hk⟩;exact⟨b',rfl,hk⟩)
  unfold vc_euf_Graph_Why_1
  have va':Vn g'.nodes.length a:=by rw[hn'];exact va
  have vb':Vn g'.nodes.length b:=by rw[hn'];exact vb
  rw[add0]
  refine⟨a,E'.cell d2,fd g' a,fun w1 hw1=>find_is (r'.stay (Ext.of_drawn hw1)) va'.1 (vn_some (d:= -1) l'.inv.cls.lfirst va'),b,E'.cell d3,fd g' b,fun w1 hw1=>find_is (r'.stay (Ext.of_drawn hw1)) vb'.1 (vn_some (d:= -1) l'.inv.cls.lfirst vb'),fun w1 hw1=>⟨?_,Ext.of_drawn hw1⟩⟩
  rw[decide_eq_true_iff,Gr.same_iff l' va' vb',hn',hs']
 ·rintro _ w7 ⟨_,rfl,B,d,out,rfl,R,hr7,hp7,hl7,E7⟩
  exact⟨_,rfl,B,_,d,rfl,E6.trans E7,.inr (.inr ⟨ht,(Gr.same_iff hl va vb).1 heq',rfl,out,rfl,R.rebase E6.size,hr7,hp7,hl7⟩)⟩
end
end Go.Proofs.YtbmbhfghpidggaaDoor
namespace Go.Proofs.YtbmbhfghpidggaaDoor
set_option linter.unusedVariables false
set_option linter.unusedSimpArgs false
open Wk
section
variable {B0:Nat} {w w' w0:World} {p U:Addr} {M N:Nat} {A:Nat→Option Addr} {n c:Nat→Nat} {H:Nat→Prop} {g:GS}
end
end Go.Proofs.YtbmbhfghpidggaaDoor
namespace Go.Proofs.YtbmbhfghpidggaaDoor
set_option linter.unusedVariables false
set_option linter.unusedSimpArgs false
set_option maxHeartbeats 2000000
set_option maxRecDepth 20000
open Wk
def vc_euf_proof_add_J1 (p1:Addr) (K:Int→World→Prop) (w6:World):Prop:=
 ∃A5 n5 c5,w6.cell? (p1.add 1)=some (.slice A5 n5 c5)∧K (IntKind.wrap .i64 ((n5:Int)-1)) w6
def vc_euf_proof_add (p1:Addr) (x1:Int) (x2:Int) (x3:Int) (x4:Int) (A1:Option Addr) (n1 c1:Nat) (K:Int→World→Prop) (w:World):Prop:=
 ∀(p2:Addr) (w1:World),New w (.cells #[(.int .i64 x1),(.int .i64 x2),(.int .i64 x3),(.int .i64 x4),(.slice A1 n1 c1)] T.api_Link) p2 w1→(∃A2 n2 c2,w1.cell? (p1.add 1)=some (.slice A2 n2 c2)∧∃x6,∃x7,∃x8,∃x9,∃A3 n3 c3,CellsAt w1 p2 [(.int .i64 x6),(.int .i64 x7),(.int .i64 x8),(.int .i64 x9),(.slice A3 n3 c3)]∧∀w9,Drawn w1 w9→∀(p3:Addr) (w2:World),New w9 (.cells #[(.int .i64 x6),(.int .i64 x7),(.int .i64 x8),(.int .i64 x9),(.slice A3 n3 c3)] T.api_Link) p3 w2→(∀w8,Drawn w2 w8→∃(A4:Option Addr) (n4 c4:Nat) (w3:World),(Builtin.append_ #[T.sl_api_Link,T.sl_api_Link] T.sl_api_Link #[(.slice A2 n2 c2),(.slice (some p3) 1 1)]).run P w8= .ok (.slice A4 n4 c4) w3∧(∀w7,Drawn w3 w7→(∃u1,w7.cell? (p1.add 1)=some u1)∧w7.frozen? (p1.add 1)=false∧∀w4,w4=w7.setCell (p1.add 1) (.slice A4 n4 c4)→(∀w5,Drawn w4 w5→((vc_euf_proof_add_J1 p1 K) w5)))))
theorem ok_euf_proof_add (p1:Addr) (x1:Int) (x2:Int) (x3:Int) (x4:Int) (A1:Option Addr) (n1 c1:Nat) (K:Int→World→Prop) (w:World) (H:vc_euf_proof_add p1 x1 x2 x3 x4 A1 n1 c1 K w):Calls P F.euf_proof_add #[(.pointer (some p1)),(.agg #[(.int .i64 x1),(.int .i64 x2),(.int .i64 x3),(.int .i64 x4),(.slice A1 n1 c1)])] w (Ret fun v w'=>∃x5,v=(.int .i64 x5)∧K x5 w'):=by
 unfold vc_euf_proof_add at H;refine calls_of (P:=P) Tryd.func38 rfl [(0,(.pointer (some p1))),(1,(.agg #[(.int .i64 x1),(.int .i64 x2),(.int .i64 x3),(.int .i64 x4),(.slice A1 n1 c1)]))] 21 rfl rfl (aa rfl (aa rfl az)) (cw_seq (cw_region (sl_new (f:=(fun p=> .pointer (some p))) rfl rfl (wanted_none rfl) (fun a ha=>x_box (ha.ev rfl) i_box) ?_)));intro p2 w1 hN;replace H:=H _ _ hN;refine ag rfl (sl_nil (nc (kp 0 rfl (kp 3 rfl zz)) ?_));refine cw_join (fun a w=>Ok 21 [(0,(.pointer (some p1)))] a∧vc_euf_proof_add_J1 p1 K w) ?_ ?_
 ·rintro a w6 ⟨ha,H⟩;unfold vc_euf_proof_add_J1 at H;refine(?_:CW _ _ _ 21 [(0,(.pointer (some p1)))] _) a ha;refine cw_seq (cw_region (mv rfl (nk rfl (fa rfl (TF.fld_euf_proof_1 _ _) ?_))));obtain⟨A5,n5,c5,h7,H⟩:=H;exact ld rfl (i_load1 TF.agg_sl_api_Link h7) (sv rfl rfl (fun a ha=>x_builtin (ha.evs rfl) (fun _=>l_slice TF.isslice_sl_api_Link)) (bo rfl rfl o_sub (ag rfl (sl_nil (nc (kp 4 rfl zz) (cw_ret (nx_body_ret (res1 rfl rfl) ⟨_,rfl,_,rfl,H⟩)))))))
 ·refine cw_any_keep follows (fun _=>False) [0,1,2,3,4,5,8,9] [4] 11 rfl rfl (by kernel_rfl) (fun _ _ d _ _ h=>by cases d<;>exact h) (fun cm W D=> ?_);refine pmv 0 cm rfl rfl D W fun _ D W=>(pmv 1 cm rfl rfl D W fun _ D W=>(pnk 2 cm rfl rfl D W fun _ D W=>(pfa 3 cm rfl rfl (TF.fld_euf_proof_1 _ _) D W fun _ D W=> ?_)));obtain⟨A2,n2,c2,h2,H⟩:=H;refine vl 4 cm rfl rfl (fun hw=>(i_load1 TF.agg_sl_api_Link (hw.cell ⟨h2,fun h=>h⟩))) D W fun _ D W=> ?_;obtain⟨x6,x7,x8,x9,A3,n3,c3,h3,H⟩:=H;refine an_e (E:=Drawn w1) (i:=5) cm (fun _ _=>Drawn.trans) rfl (by kernel_rfl) D rfl rfl (wanted_none rfl) (fun w' hw a ha=>x_load (ha.ev rfl) (i_loadN (vs:=[(.int .i64 x6),(.int .i64 x7),(.int .i64 x8),(.int .i64 x9),(.slice A3 n3 c3)]) TF.agg_api_Link TF.size_api_Link (hw.cells h3))) rfl ?_;intro _ hd;replace D:=D.trans hd;replace W:=cm.held _ _ W hd;clear hd;refine ar 6 ?_;replace H:=H _ D;refine aw_new (f:=(fun p=> .slice (some p) 1 1)) rfl rfl rfl (wanted_none rfl) (fun a ha=>x_buildSlice (u:= .slice (some ⟨_,0,none⟩) 1 1) (w':=World.alloc _ (.cells #[(.int .i64 x6),(.int .i64 x7),(.int .i64 x8),(.int .i64 x9),(.slice A3 n3 c3)] T.api_Link)) (qs:=[(0,(.agg #[(.int .i64 x6),(.int .i64 x7),(.int .i64 x8),(.int .i64 x9),(.slice A3 n3 c3)]))]) (by simp only[List.map_cons,List.map_nil,ha.ev (x:=(.tmp 10)) rfl]) (by kernel_rfl)) rfl true (by kernel_rfl) ?_;intro p3 w2 hN _ D;replace H:=H _ _ hN;replace W:=(W.new hN).drawn D;refine⟨fun _=>W,?_⟩;refine ar 7 ?_;replace H:=H _ D;obtain⟨A4,n4,c4,w3,h4,H⟩:=H;refine aw_v rfl rfl rfl (wanted_none rfl) (fun a ha=>x_builtin (ha.evs rfl) (fun _=>bi_append h4)) rfl false (by kernel_rfl) ?_;intro _ D;refine⟨fun h=>(by cases h),?_⟩;refine pnkd 8 cm rfl rfl D fun _ D=>(pfad 9 cm rfl rfl (TF.fld_euf_proof_1 _ _) D fun _ D=>(ar 10 ?_));replace H:=H _ D;obtain⟨⟨u1,h5⟩,h6,H⟩:=H;refine aw_un rfl rfl (wanted_none rfl) (fun a ha=>x_store (ha.ev rfl) (ha.ev rfl) (i_store1 TF.size_sl_api_Link rfl rfl h5 h6)) rfl false (by kernel_rfl) ?_;intro w4 hw _ D;replace H:=H _ hw;clear hw;refine⟨fun h=>(by cases h),?_⟩;refine an_end (by kernel_rfl) D ?_;intro w5 D;replace H:=H _ D;clear D cm;exact nx_to fun a ha=>⟨ha.weaken (cn rfl zz),H⟩
def vc_euf_proof_turned_J1 (K:Int→World→Prop) (x6:Int) (w6:World):Prop:=
 K x6 w6
def vc_euf_proof_turned (p1:Addr) (x1:Int) (K:Int→World→Prop) (w:World):Prop:=
 ∃A1 n1 c1,w.cell? (p1.add 1)=some (.slice A1 n1 c1)∧0≤x1∧x1<(n1:Int)∧∃a1,A1=some a1∧∃x3,w.cell? ((a1.add (x1.toNat*5)).add 2)=some (.int .i64 x3)∧∃A2 n2 c2,w.cell? (p1.add 1)=some (.slice A2 n2 c2)∧0≤x1∧x1<(n2:Int)∧∃a2,A2=some a2∧∃x4,w.cell? ((a2.add (x1.toNat*5)).add 1)=some (.int .i64 x4)∧∀w7,Drawn w w7→∀(p2:Addr) (w1:World),New w7 (.cells #[(.int .i64 x1)] T.int) p2 w1→(∀w3,Drawn w1 w3→Calls P F.euf_proof_add #[(.pointer (some p1)),(.agg #[(.int .i64 3),(.int .i64 x3),(.int .i64 x4),(.int .i64 0),(.slice (some p2) 1 1)])] w3 (Ret fun v1 w2=>∃x5,v1=(.int .i64 x5)∧∀w5,Drawn w2 w5→((vc_euf_proof_turned_J1 K) x5 w5)))
theorem ok_euf_proof_turned (p1:Addr) (x1:Int) (K:Int→World→Prop) (w:World) (H:vc_euf_proof_turned p1 x1 K w):Calls P F.euf_proof_turned #[(.pointer (some p1)),(.int .i64 x1)] w (Ret fun v w'=>∃x2,v=(.int .i64 x2)∧K x2 w'):=by
 unfold vc_euf_proof_turned at H;refine calls_of (P:=P) Tryd.func37 rfl [(0,(.pointer (some p1))),(1,(.int .i64 x1))] 26 rfl rfl (aa rfl (aa rfl az)) (cw_seq (cw_region (ag rfl (sl_nil (nc (kp 0 rfl (kp 1 rfl zz)) ?_)))));refine cw_join (fun a w=>∃x6,Ok 26 [(4,(.int .i64 x6))] a∧vc_euf_proof_turned_J1 K x6 w) ?_ ?_
 ·rintro a w6 ⟨x6,ha,H⟩;unfold vc_euf_proof_turned_J1 at H;refine(?_:CW _ _ _ 26 [(4,(.int .i64 x6))] _) a ha;exact cw_ret (nx_body_ret (res1 rfl rfl) ⟨_,rfl,_,rfl,H⟩)
 ·refine cw_any_keep follows (fun _=>False) [0,1,2,3,4,5,6,7,8,9,10,11,12,13,14,15,16,17,19,21] [4,8,12,16] 22 rfl rfl (by kernel_rfl) (fun _ _ d _ _ h=>by cases d<;>exact h) (fun cm W D=> ?_);refine pmv 0 cm rfl rfl D W fun _ D W=>(pmv 1 cm rfl rfl D W fun _ D W=>(pnk 2 cm rfl rfl D W fun _ D W=>(pfa 3 cm rfl rfl (TF.fld_euf_proof_1 _ _) D W fun _ D W=> ?_)));obtain⟨A1,n1,c1,h1,H⟩:=H;refine vl 4 cm rfl rfl (fun hw=>(i_load1 TF.agg_sl_api_Link (hw.cell ⟨h1,fun h=>h⟩))) D W fun _ D W=>(pmv 5 cm rfl rfl D W fun _ D W=> ?_);obtain⟨h2,h3,a1,e1,H⟩:=H;refine pix 6 cm rfl rfl rfl (i_index TF.elem_sl_api_Link TF.size_api_Link e1 h2 h3) D W fun _ D W=>(pfa 7 cm rfl rfl (TF.fld_api_Link_2 _ _) D W fun _ D W=> ?_);obtain⟨x3,h4,H⟩:=H;refine vl 8 cm rfl rfl (fun hw=>(i_load1 TF.agg_int (hw.cell ⟨h4,fun h=>h⟩))) D W fun _ D W=>(pmv 9 cm rfl rfl D W fun _ D W=>(pnk 10 cm rfl rfl D W fun _ D W=>(pfa 11 cm rfl rfl (TF.fld_euf_proof_1 _ _) D W fun _ D W=> ?_)));obtain⟨A2,n2,c2,h5,H⟩:=H;refine vl 12 cm rfl rfl (fun hw=>(i_load1 TF.agg_sl_api_Link (hw.cell ⟨h5,fun h=>h⟩))) D W fun _ D W=>(pmv 13 cm rfl rfl D W fun _ D W=> ?_);obtain⟨h6,h7,a2,e2,H⟩:=H;refine pix 14 cm rfl rfl rfl (i_index TF.elem_sl_api_Link TF.size_api_Link e2 h6 h7) D W fun _ D W=>(pfa 15 cm rfl rfl (TF.fld_api_Link_1 _ _) D W fun _ D W=> ?_);obtain⟨x4,h8,H⟩:=H;refine vl 16 cm rfl rfl (fun hw=>(i_load1 TF.agg_int (hw.cell ⟨h8,fun h=>h⟩))) D W fun _ D W=>(pmv 17 cm rfl rfl D W fun _ D W=>(ar 18 ?_));replace H:=H _ D;refine aw_new (f:=(fun p=> .slice (some p) 1 1)) rfl rfl rfl (wanted_none rfl) (fun a ha=>x_buildSlice (u:= .slice (some ⟨_,0,none⟩) 1 1) (w':=World.alloc _ (.cells #[(.int .i64 x1)] T.int)) (qs:=[(0,(.int .i64 x1))]) (by simp only[List.map_cons,List.map_nil,ha.ev (x:=(.tmp 22)) rfl]) (by kernel_rfl)) rfl true (by kernel_rfl) ?_;intro p2 w1 hN _ D;replace H:=H _ _ hN;replace W:=(W.new hN).drawn D;refine⟨fun _=>W,?_⟩;refine pvd 19 cm rfl rfl rfl (fun w' a ha=>x_buildP (u:=(.agg #[(.int .i64 3),(.int .i64 x3),(.int .i64 x4),(.int .i64 0),(.slice (some p2) 1 1)])) (qs:=[(0,(.int .i64 3)),(1,(.int .i64 x3)),(2,(.int .i64 x4)),(4,(.slice (some p2) 1 1))]) (by simp only[List.map_cons,List.map_nil,ha.ev (x:=(.const (.int .i64 3))) rfl,ha.ev (x:=(.tmp 13)) rfl,ha.ev (x:=(.tmp 21)) rfl,ha.ev (x:=(.tmp 23)) rfl]) (by kernel_rfl)) D fun _ D=>(ar 20 ?_);replace H:=H _ D;refine aw_c rfl rfl rfl (wanted_none rfl) (fun a ha=>x_call0 (ha.ev rfl) (ha.evs rfl) FF.callable_euf_proof_add) rfl false (by kernel_rfl) H ?_;rintro _ w2 ⟨x5,rfl,H⟩ _ D;refine⟨fun h=>(by cases h),?_⟩;refine pagd 21 cm rfl rfl D fun _ D=>(an_end (by kernel_rfl) D ?_);intro w5 D;replace H:=H _ D;clear D cm;exact nx_to fun a ha=>⟨x5,ha.weaken (cn rfl zz),H⟩
def vc_euf_proof_edge_J1 (k1:Nat) (I1:Nat→Option Addr→Nat→Nat→Int→World→Prop) (x9:Int) (A8:Option Addr) (n8 c8:Nat) (w12:World):Prop:=
 ∃k2,k2<k1∧I1 k2 A8 n8 c8 (IntKind.wrap .i64 (x9+1)) w12
def vc_euf_proof_edge_J2 (p1:Addr) (x1:Int) (K:Int→World→Prop) (x24:Int) (w19:World):Prop:=
 ∃m2:Option Nat,w19.cell? (p1.add 2)=some (.map m2)∧∃w20:World,(Instr.mapUpdate T.map_int_int (.map m2) (.int .i64 x1) (.int .i64 x24)).run P w19= .ok () w20∧(K x24 w20)
def vc_euf_proof_edge_J3 (p3:Addr) (x1:Int) (p1:Addr) (K:Int→World→Prop) (x17:Int) (w16:World):Prop:=
 ∃x22,w16.cell? (p3.add 2)=some (.int .i64 x22)∧(x22≠x1→(Calls P F.euf_proof_turned #[(.pointer (some p1)),(.int .i64 x17)] w16 (Ret fun v4 w18=>∃x23,v4=(.int .i64 x23)∧(vc_euf_proof_edge_J2 p1 x1 K) x23 w18)))∧(¬(x22≠x1)→((vc_euf_proof_edge_J2 p1 x1 K) x17 w16))
def vc_euf_proof_edge (p1:Addr) (x1:Int) (K:Int→World→Prop) (w:World):Prop:=
 ∃m1:Option Nat,w.cell? (p1.add 2)=some (.map m1)∧∃x3,∃b1,(Instr.lookup T.map_int_int (.map m1) (.int .i64 x1) true).run P w= .ok (.tuple #[(.int .i64 x3),(.bool b1)]) w∧(b1=true→(K x3 w))∧(b1=false→(∃q1,w.cell? (p1.add 0)=some (.pointer q1)∧∃p2,q1=some p2∧∃A1 n1 c1,w.cell? (p2.add 7)=some (.slice A1 n1 c1)∧0≤x1∧x1<(n1:Int)∧∃a1,A1=some a1∧∃x4,∃b2,∃x5,∃x6,∃x7,CellsAt w (a1.add (x1.toNat*5)) [(.int .i64 x4),(.bool b2),(.int .i64 x5),(.int .i64 x6),(.int .i64 x7)]∧∀(p3:Addr) (w1:World),New w (.cells #[(.int .i64 0),(.bool false),(.int .i64 0),(.int .i64 0),(.int .i64 0)] T.euf_edge) p3 w1→(Soft w1 p3 5∧∀w2,w2=setCellsAt w1 p3 [(.int .i64 x4),(.bool b2),(.int .i64 x5),(.int .i64 x6),(.int .i64 x7)]→(∃b3,w2.cell? (p3.add 1)=some (.bool b3)∧(b3=true→(∀(p4:Addr) (w3:World),New w2 (.cells #[] T.int) p4 w3→(∃q2,w3.cell? (p1.add 0)=some (.pointer q2)∧∃p5,q2=some p5∧∃A2 n2 c2,w3.cell? (p5.add 4)=some (.slice A2 n2 c2)∧∃x8,w3.cell? (p3.add 2)=some (.int .i64 x8)∧0≤x8∧x8<(n2:Int)∧∃a2,A2=some a2∧∃A3 n3 c3,w3.cell? ((a2.add (x8.toNat*2)).add 1)=some (.slice A3 n3 c3)∧∀w4,Drawn w3 w4→(∃I1:Nat→Option Addr→Nat→Nat→Int→World→Prop,(∃k1,I1 k1 (some p4) 0 0 0 w4)∧∀k1 (A4:Option Addr) (n4 c4:Nat) (x9:Int) (w5:World),I1 k1 A4 n4 c4 x9 w5→((x9<(n3:Int)→(0≤x9∧x9<(n3:Int)∧∃a3,A3=some a3∧∃x10,w5.cell? (a3.add (x9.toNat*1))=some (.int .i64 x10)∧∃q3,w5.cell? (p1.add 0)=some (.pointer q3)∧∃p6,q3=some p6∧∃A5 n5 c5,w5.cell? (p6.add 4)=some (.slice A5 n5 c5)∧∃x11,w5.cell? (p3.add 3)=some (.int .i64 x11)∧0≤x11∧x11<(n5:Int)∧∃a4,A5=some a4∧∃A6 n6 c6,w5.cell? ((a4.add (x11.toNat*2)).add 1)=some (.slice A6 n6 c6)∧0≤x9∧x9<(n6:Int)∧∃a5,A6=some a5∧∃x12,w5.cell? (a5.add (x9.toNat*1))=some (.int .i64 x12)∧∀w7,Drawn w5 w7→Calls P F.euf_proof_same #[(.pointer (some p1)),(.int .i64 x10),(.int .i64 x12)] w7 (Ret fun v1 w6=>∃x13,v1=(.int .i64 x13)∧∀w14,Drawn w6 w14→∀(p7:Addr) (w9:World),New w14 (.cells #[(.int .i64 x13)] T.int) p7 w9→(∀w13,Drawn w9 w13→∃(A7:Option Addr) (n7 c7:Nat) (w10:World),(Builtin.append_ #[T.sl_int,T.sl_int] T.sl_int #[(.slice A4 n4 c4),(.slice (some p7) 1 1)]).run P w13= .ok (.slice A7 n7 c7) w10∧(∀w11,Drawn w10 w11→((vc_euf_proof_edge_J1 k1 I1 x9) A7 n7 c7 w11))))))∧(¬(x9<(n3:Int))→(∃x14,w5.cell? (p3.add 2)=some (.int .i64 x14)∧∃x15,w5.cell? (p3.add 3)=some (.int .i64 x15)∧Calls P F.euf_proof_add #[(.pointer (some p1)),(.agg #[(.int .i64 5),(.int .i64 x14),(.int .i64 x15),(.int .i64 0),(.slice A4 n4 c4)])] w5 (Ret fun v2 w15=>∃x16,v2=(.int .i64 x16)∧(vc_euf_proof_edge_J3 p3 x1 p1 K) x16 w15))))))))∧(b3=false→(∃x18,w2.cell? (p3.add 2)=some (.int .i64 x18)∧∃x19,w2.cell? (p3.add 3)=some (.int .i64 x19)∧∃x20,w2.cell? (p3.add 4)=some (.int .i64 x20)∧Calls P F.euf_proof_add #[(.pointer (some p1)),(.agg #[(.int .i64 1),(.int .i64 x18),(.int .i64 x19),(.int .i64 x20),(.slice none 0 0)])] w2 (Ret fun v3 w17=>∃x21,v3=(.int .i64 x21)∧(vc_euf_proof_edge_J3 p3 x1 p1 K) x21 w17)))))))
theorem ok_euf_proof_edge (p1:Addr) (x1:Int) (K:Int→World→Prop) (w:World) (H:vc_euf_proof_edge p1 x1 K w):Calls P F.euf_proof_edge #[(.pointer (some p1)),(.int .i64 x1)] w (Ret fun v w'=>∃x2,v=(.int .i64 x2)∧K x2 w'):=by
 unfold vc_euf_proof_edge at H;refine calls_of (P:=P) Tryd.func36 rfl [(0,(.pointer (some p1))),(1,(.int .i64 x1))] 107 rfl rfl (aa rfl (aa rfl az)) (cw_seq (cw_region (ag rfl (sl_nil (nc (kp 0 rfl (kp 1 rfl zz)) (cw_seq (cw_seq (cw_region (mv rfl (nk rfl (fa rfl (TF.fld_euf_proof_2 _ _) ?_)))))))))));obtain⟨m1,h1,H⟩:=H;refine ld rfl (i_load1 TF.agg_map_int_int h1) (mv rfl ?_);obtain⟨x3,b1,h2,H⟩:=H;refine sv rfl rfl (fun a ha=>x_lookup (ha.ev rfl) (ha.ev rfl) h2) (mv rfl (sv rfl rfl (fun a ha=>x_extract (ha.ev rfl) rfl) (sv rfl rfl (fun a ha=>x_extract (ha.ev rfl) rfl) (ag rfl (ag rfl (sl_nil (nc (kp 0 rfl (kp 1 rfl (kp 5 rfl (kp 6 rfl zz)))) (cw_seq (cw_region (mv rfl (sl_nil (nc (kp 0 rfl (kp 1 rfl (kp 5 rfl (kp 21 rfl zz)))) ?_))))))))))));refine cw_cond rfl (fun hb=> ?_) (fun hb=> ?_)
 ·replace H:=H.1 hb;exact cw_seq (cw_region (mv rfl (ag rfl (sl_nil (nc (kp 4 rfl zz) (cw_ret (nx_ret_then (nx_body_ret (res1 rfl rfl) ⟨_,rfl,_,rfl,H⟩))))))))
 ·replace H:=H.2 hb;refine cw_skip (nc (kp 0 rfl (kp 1 rfl zz)) (cw_seq (cw_region (mv rfl (nk rfl (fa rfl (TF.fld_euf_proof_0 _ _) ?_))))));obtain⟨q1,h3,H⟩:=H;refine ld rfl (i_load1 TF.agg_p_euf_Graph h3) ?_;obtain⟨p2,e1,H⟩:=H;refine sv rfl rfl (fun a ha=>x_nilCheck_ptr ((ha.ev rfl).trans (by rw[e1]))) (fa rfl (TF.fld_euf_Graph_4 _ _) ?_);obtain⟨A1,n1,c1,h4,H⟩:=H;refine ld rfl (i_load1 TF.agg_sl_euf_edge h4) (mv rfl ?_);obtain⟨h5,h6,a1,e2,H⟩:=H;refine ix rfl rfl (i_index TF.elem_sl_euf_edge TF.size_euf_edge e2 h5 h6) ?_;obtain⟨x4,b2,x5,x6,x7,h7,H⟩:=H;refine ld rfl (i_loadN (vs:=[(.int .i64 x4),(.bool b2),(.int .i64 x5),(.int .i64 x6),(.int .i64 x7)]) TF.agg_euf_edge TF.size_euf_edge h7) (sl_new (f:=(fun p=> .pointer (some p))) rfl rfl (wanted_none rfl) (fun a ha=>x_alloc (i_alloc TF.zero_euf_edge)) ?_);intro p3 w1 hN;replace H:=H _ _ hN;obtain⟨h9,H⟩:=H;refine sl_un rfl (wanted_none rfl) (fun a ha=>x_store (ha.ev rfl) (ha.ev rfl) (i_storeN TF.size_euf_edge (by simp[Value.oneCell']) h9)) ?_;intro w2 hw;replace H:=H _ hw;clear hw;refine sl_nil (nc (kp 0 rfl (kp 1 rfl (kp 7 rfl zz))) (cw_seq (cw_region (ag rfl (sl_nil (nc (kp 0 rfl (kp 1 rfl (kp 7 rfl zz))) ?_))))));refine cw_join (fun a w=>∃x17,Ok 107 [(0,(.pointer (some p1))),(1,(.int .i64 x1)),(7,(.pointer (some p3))),(8,(.int .i64 x17))] a∧vc_euf_proof_edge_J3 p3 x1 p1 K x17 w) ?_ ?_
  ·rintro a w16 ⟨x17,ha,H⟩;unfold vc_euf_proof_edge_J3 at H;refine(?_:CW _ _ _ 107 [(0,(.pointer (some p1))),(1,(.int .i64 x1)),(7,(.pointer (some p3))),(8,(.int .i64 x17))] _) a ha;refine cw_join (fun a w=>∃x24,Ok 107 [(0,(.pointer (some p1))),(1,(.int .i64 x1)),(8,(.int .i64 x24))] a∧vc_euf_proof_edge_J2 p1 x1 K x24 w) ?_ ?_
   ·rintro a w19 ⟨x24,ha,H⟩;unfold vc_euf_proof_edge_J2 at H;refine(?_:CW _ _ _ 107 [(0,(.pointer (some p1))),(1,(.int .i64 x1)),(8,(.int .i64 x24))] _) a ha;refine cw_seq (cw_region (mv rfl (nk rfl (fa rfl (TF.fld_euf_proof_2 _ _) ?_))));obtain⟨m2,h38,H⟩:=H;refine ld rfl (i_load1 TF.agg_map_int_int h38) (mv rfl (mv rfl ?_));obtain⟨w20,h39,H⟩:=H;exact sl_u rfl (wanted_none rfl) (fun a ha=>x_mapUpdate (ha.ev rfl) (ha.ev rfl) (ha.ev rfl) h39) (sl_nil (nc (kp 8 rfl zz) (cw_seq (cw_region (mv rfl (ag rfl (sl_nil (nc (kp 4 rfl zz) (cw_ret (nx_body_ret (res1 rfl rfl) ⟨_,rfl,_,rfl,H⟩))))))))))
   ·refine cw_seq (cw_region (fa rfl (TF.fld_euf_edge_2 _ _) ?_));obtain⟨x22,h37,H⟩:=H;refine ld rfl (i_load1 TF.agg_int h37) (mv rfl (bo rfl rfl o_neq (sl_nil (nc (kp 0 rfl (kp 1 rfl (kp 8 rfl (kp 96 rfl zz)))) ?_))));refine cw_cond_p rfl (fun hb=> ?_) (fun hb=> ?_)
    ·replace H:=H.1 hb;refine cw_region (mv rfl (mv rfl (sl_call rfl rfl (wanted_none rfl) (fun a ha=>x_call0 (ha.ev rfl) (ha.evs rfl) FF.callable_euf_proof_turned) H ?_)));rintro _ w18 ⟨x23,rfl,H⟩;exact ag rfl (sl_nil (nx_to fun a ha=>⟨x23,ha.weaken (cn rfl (cn rfl (cn rfl zz))),H⟩))
    ·replace H:=H.2 hb;exact cw_skip (nx_to fun a ha=>⟨x17,ha.weaken (cn rfl (cn rfl (cn rfl zz))),H⟩)
  ·refine cw_seq (cw_region (fa rfl (TF.fld_euf_edge_1 _ _) ?_));obtain⟨b3,h10,H⟩:=H;refine ld rfl (i_load1 TF.agg_bool h10) (sl_nil (nc (kp 0 rfl (kp 1 rfl (kp 7 rfl (kp 34 rfl zz)))) ?_));refine cw_cond rfl (fun hb=> ?_) (fun hb=> ?_)
   ·replace H:=H.1 hb;refine cw_seq (cw_region (sl_new (f:=(fun p=> .slice (some p) 0 0)) rfl rfl (wanted_none rfl) (fun a ha=>x_buildSlice (u:= .slice (some ⟨_,0,none⟩) 0 0) (w':=World.alloc _ (.cells #[] T.int)) (qs:=[]) (by simp only[List.map_cons,List.map_nil]) (by kernel_rfl)) ?_));intro p4 w3 hN;replace H:=H _ _ hN;refine ag rfl (sl_nil (nc (kp 0 rfl (kp 1 rfl (kp 7 rfl (kp 9 rfl zz)))) (cw_seq (cw_seq ?_))));refine cw_any_drawn follows [0,1,2,3,4,5,6,7,8,9,10,11,12,13] [3,6,8,11] 14 rfl rfl (by kernel_rfl) (fun _ _ d _ _ h=>by cases d<;>exact h) (fun cm W D=> ?_);refine pmv 0 cm rfl rfl D W fun _ D W=>(pnk 1 cm rfl rfl D W fun _ D W=>(pfa 2 cm rfl rfl (TF.fld_euf_proof_0 _ _) D W fun _ D W=> ?_));obtain⟨q2,h11,H⟩:=H;refine vl 3 cm rfl rfl (fun hw=>(i_load1 TF.agg_p_euf_Graph ((hw.cell _).trans h11))) D W fun _ D W=> ?_;obtain⟨p5,e3,H⟩:=H;refine pv 4 cm rfl rfl rfl (fun w' a ha=>x_nilCheck_ptr ((ha.ev rfl).trans (by rw[e3]))) D W fun _ D W=>(pfa 5 cm rfl rfl (TF.fld_euf_Graph_1 _ _) D W fun _ D W=> ?_);obtain⟨A2,n2,c2,h12,H⟩:=H;refine vl 6 cm rfl rfl (fun hw=>(i_load1 TF.agg_sl_api_Flat ((hw.cell _).trans h12))) D W fun _ D W=>(pfa 7 cm rfl rfl (TF.fld_euf_edge_2 _ _) D W fun _ D W=> ?_);obtain⟨x8,h13,H⟩:=H;refine vl 8 cm rfl rfl (fun hw=>(i_load1 TF.agg_int ((hw.cell _).trans h13))) D W fun _ D W=> ?_;obtain⟨h14,h15,a2,e4,H⟩:=H;refine pix 9 cm rfl rfl rfl (i_index TF.elem_sl_api_Flat TF.size_api_Flat e4 h14 h15) D W fun _ D W=>(pfa 10 cm rfl rfl (TF.fld_api_Flat_1 _ _) D W fun _ D W=> ?_);obtain⟨A3,n3,c3,h16,H⟩:=H;refine vl 11 cm rfl rfl (fun hw=>(i_load1 TF.agg_sl_int ((hw.cell _).trans h16))) D W fun _ D W=>(pvd 12 cm rfl rfl rfl (fun w' a ha=>x_builtin (ha.evs rfl) (fun _=>l_slice TF.isslice_sl_int)) D fun _ D=>(pmvd 13 cm rfl rfl D fun _ D=>(an_end (by kernel_rfl) D ?_)));intro w4 D;replace H:=H _ D;clear D cm;refine nc (kp 0 rfl (kp 1 rfl (kp 7 rfl (kp 9 rfl (kp 47 rfl (kp 48 rfl (kp 49 rfl zz))))))) (cw_block ?_);obtain⟨I1,⟨k1,hi⟩,H⟩:=H;refine cw_loop (fun k1 a w'=>∃A4 n4 c4,∃x9,Ok 107 [(0,(.pointer (some p1))),(1,(.int .i64 x1)),(7,(.pointer (some p3))),(9,(.slice A4 n4 c4)),(47,(.slice A3 n3 c3)),(48,(.int .i64 (n3:Int))),(49,(.int .i64 x9))] a∧I1 k1 A4 n4 c4 x9 w') (fun a ha=>⟨k1,some p4,0,0,0,ha.weaken (sub.cons rfl (sub.cons rfl (sub.cons rfl (sub.cons rfl (sub.cons rfl (sub.cons rfl (sub.cons rfl (sub.nil)))))))),hi⟩) ?_;rintro k1 a w5 ⟨A4,n4,c4,x9,ha,hI⟩;replace H:=H k1 A4 n4 c4 x9 w5 hI;refine(?_:CW _ _ _ 107 [(0,(.pointer (some p1))),(1,(.int .i64 x1)),(7,(.pointer (some p3))),(9,(.slice A4 n4 c4)),(47,(.slice A3 n3 c3)),(48,(.int .i64 (n3:Int))),(49,(.int .i64 x9))] _) a ha;refine cw_seq (cw_region (bo rfl rfl o_lss (sl_nil (nc (kp 0 rfl (kp 1 rfl (kp 7 rfl (kp 9 rfl (kp 47 rfl (kp 48 rfl (kp 49 rfl (kp 50 rfl zz)))))))) (cw_seq ?_)))));refine cw_cond_p rfl (fun hb=> ?_) (fun hb=> ?_)
    ·replace H:=H.1 hb;refine cw_skip (nc (kp 0 rfl (kp 1 rfl (kp 7 rfl (kp 9 rfl (kp 47 rfl (kp 48 rfl (kp 49 rfl zz))))))) ?_);refine cw_join (fun a w=>∃A8 n8 c8,Ok 107 [(0,(.pointer (some p1))),(1,(.int .i64 x1)),(7,(.pointer (some p3))),(9,(.slice A8 n8 c8)),(47,(.slice A3 n3 c3)),(48,(.int .i64 (n3:Int))),(49,(.int .i64 x9))] a∧vc_euf_proof_edge_J1 k1 I1 x9 A8 n8 c8 w) ?_ ?_
     ·rintro a w12 ⟨A8,n8,c8,ha,H⟩;unfold vc_euf_proof_edge_J1 at H;refine(?_:CW _ _ _ 107 [(0,(.pointer (some p1))),(1,(.int .i64 x1)),(7,(.pointer (some p3))),(9,(.slice A8 n8 c8)),(47,(.slice A3 n3 c3)),(48,(.int .i64 (n3:Int))),(49,(.int .i64 x9))] _) a ha;refine cw_region (bo rfl rfl o_add (mv rfl (sl_nil ?_)));obtain⟨k2,hk,H⟩:=H;exact nx_to fun a ha=>⟨k2,hk,A8,n8,c8,IntKind.wrap .i64 (x9+1),ha.weaken (cn rfl (cn rfl (cn rfl (cn rfl (cn rfl (cn rfl (cn rfl zz))))))),H⟩
     ·refine cw_block (cw_seq (cw_region (mv rfl ?_)));obtain⟨h17,h18,a3,e5,H⟩:=H;refine ix rfl rfl (i_index TF.elem_sl_int TF.size_int e5 h17 h18) ?_;obtain⟨x10,h19,H⟩:=H;refine ld rfl (i_load1 TF.agg_int h19) (ag rfl (ag rfl (sl_nil (nc (kp 0 rfl (kp 1 rfl (kp 7 rfl (kp 9 rfl (kp 10 rfl (kp 11 rfl (kp 47 rfl (kp 48 rfl (kp 49 rfl zz))))))))) ?_))));refine cw_any_drawn follows [0,1,2,3,4,5,6,7,8,9,10,11,12,13,14,15,16,17,21] [6,9,11,14,17] 22 rfl rfl (by kernel_rfl) (fun _ _ d _ _ h=>by cases d<;>exact h) (fun cm W D=> ?_);refine pmv 0 cm rfl rfl D W fun _ D W=>(pmv 1 cm rfl rfl D W fun _ D W=>(pmv 2 cm rfl rfl D W fun _ D W=>(pmv 3 cm rfl rfl D W fun _ D W=>(pnk 4 cm rfl rfl D W fun _ D W=>(pfa 5 cm rfl rfl (TF.fld_euf_proof_0 _ _) D W fun _ D W=> ?_)))));obtain⟨q3,h20,H⟩:=H;refine vl 6 cm rfl rfl (fun hw=>(i_load1 TF.agg_p_euf_Graph ((hw.cell _).trans h20))) D W fun _ D W=> ?_;obtain⟨p6,e6,H⟩:=H;refine pv 7 cm rfl rfl rfl (fun w' a ha=>x_nilCheck_ptr ((ha.ev rfl).trans (by rw[e6]))) D W fun _ D W=>(pfa 8 cm rfl rfl (TF.fld_euf_Graph_1 _ _) D W fun _ D W=> ?_);obtain⟨A5,n5,c5,h21,H⟩:=H;refine vl 9 cm rfl rfl (fun hw=>(i_load1 TF.agg_sl_api_Flat ((hw.cell _).trans h21))) D W fun _ D W=>(pfa 10 cm rfl rfl (TF.fld_euf_edge_3 _ _) D W fun _ D W=> ?_);obtain⟨x11,h22,H⟩:=H;refine vl 11 cm rfl rfl (fun hw=>(i_load1 TF.agg_int ((hw.cell _).trans h22))) D W fun _ D W=> ?_;obtain⟨h23,h24,a4,e7,H⟩:=H;refine pix 12 cm rfl rfl rfl (i_index TF.elem_sl_api_Flat TF.size_api_Flat e7 h23 h24) D W fun _ D W=>(pfa 13 cm rfl rfl (TF.fld_api_Flat_1 _ _) D W fun _ D W=> ?_);obtain⟨A6,n6,c6,h25,H⟩:=H;refine vl 14 cm rfl rfl (fun hw=>(i_load1 TF.agg_sl_int ((hw.cell _).trans h25))) D W fun _ D W=>(pmv 15 cm rfl rfl D W fun _ D W=> ?_);obtain⟨h26,h27,a5,e8,H⟩:=H;refine pix 16 cm rfl rfl rfl (i_index TF.elem_sl_int TF.size_int e8 h26 h27) D W fun _ D W=> ?_;obtain⟨x12,h28,H⟩:=H;refine vl 17 cm rfl rfl (fun hw=>(i_load1 TF.agg_int ((hw.cell _).trans h28))) D W fun _ D W=>(ar 18 ?_);replace H:=H _ D;refine aw_c rfl rfl rfl (wanted_none rfl) (fun a ha=>x_call0 (ha.ev rfl) (ha.evs rfl) FF.callable_euf_proof_same) rfl false (by kernel_rfl) H ?_;rintro _ w6 ⟨x13,rfl,H⟩ _ D;refine⟨fun h=>(by cases h),?_⟩;refine ar 19 ?_;replace H:=H _ D;refine aw_new (f:=(fun p=> .slice (some p) 1 1)) rfl rfl rfl (wanted_none rfl) (fun a ha=>x_buildSlice (u:= .slice (some ⟨_,0,none⟩) 1 1) (w':=World.alloc _ (.cells #[(.int .i64 x13)] T.int)) (qs:=[(0,(.int .i64 x13))]) (by simp only[List.map_cons,List.map_nil,ha.ev (x:=(.tmp 72)) rfl]) (by kernel_rfl)) rfl false (by kernel_rfl) ?_;intro p7 w9 hN _ D;replace H:=H _ _ hN;refine⟨fun h=>(by cases h),?_⟩;refine ar 20 ?_;replace H:=H _ D;obtain⟨A7,n7,c7,w10,h31,H⟩:=H;refine aw_v rfl rfl rfl (wanted_none rfl) (fun a ha=>x_builtin (ha.evs rfl) (fun _=>bi_append h31)) rfl false (by kernel_rfl) ?_;intro _ D;refine⟨fun h=>(by cases h),?_⟩;refine pagd 21 cm rfl rfl D fun _ D=>(an_end (by kernel_rfl) D ?_);intro w11 D;replace H:=H _ D;clear D cm;exact nx_block (nx_to fun a ha=>⟨A7,n7,c7,ha.weaken (cn rfl (cn rfl (cn rfl (cn rfl (cn rfl (cn rfl (cn rfl zz))))))),H⟩)
    ·replace H:=H.2 hb;refine cw_exit (nx_exit_then (nx_exit_then (nx_exit_hit (nc (kp 0 rfl (kp 1 rfl (kp 7 rfl (kp 9 rfl zz)))) (cw_region (mv rfl (fa rfl (TF.fld_euf_edge_2 _ _) ?_)))))));obtain⟨x14,h32,H⟩:=H;refine ld rfl (i_load1 TF.agg_int h32) (fa rfl (TF.fld_euf_edge_3 _ _) ?_);obtain⟨x15,h33,H⟩:=H;refine ld rfl (i_load1 TF.agg_int h33) (mv rfl (sv rfl rfl (fun a ha=>x_buildP (u:=(.agg #[(.int .i64 5),(.int .i64 x14),(.int .i64 x15),(.int .i64 0),(.slice A4 n4 c4)])) (qs:=[(0,(.int .i64 5)),(1,(.int .i64 x14)),(2,(.int .i64 x15)),(4,(.slice A4 n4 c4))]) (by simp only[List.map_cons,List.map_nil,ha.ev (x:=(.const (.int .i64 5))) rfl,ha.ev (x:=(.tmp 78)) rfl,ha.ev (x:=(.tmp 80)) rfl,ha.ev (x:=(.tmp 81)) rfl]) (by kernel_rfl)) (sl_call rfl rfl (wanted_none rfl) (fun a ha=>x_call0 (ha.ev rfl) (ha.evs rfl) FF.callable_euf_proof_add) H ?_)));rintro _ w15 ⟨x16,rfl,H⟩;exact ag rfl (sl_nil (nx_to fun a ha=>⟨x16,ha.weaken (cn rfl (cn rfl (cn rfl (cn rfl zz)))),H⟩))
   ·replace H:=H.2 hb;refine cw_region (mv rfl (fa rfl (TF.fld_euf_edge_2 _ _) ?_));obtain⟨x18,h34,H⟩:=H;refine ld rfl (i_load1 TF.agg_int h34) (fa rfl (TF.fld_euf_edge_3 _ _) ?_);obtain⟨x19,h35,H⟩:=H;refine ld rfl (i_load1 TF.agg_int h35) (fa rfl (TF.fld_euf_edge_4 _ _) ?_);obtain⟨x20,h36,H⟩:=H;refine ld rfl (i_load1 TF.agg_int h36) (sv rfl rfl (fun a ha=>x_buildP (u:=(.agg #[(.int .i64 1),(.int .i64 x18),(.int .i64 x19),(.int .i64 x20),(.slice none 0 0)])) (qs:=[(0,(.int .i64 1)),(1,(.int .i64 x18)),(2,(.int .i64 x19)),(3,(.int .i64 x20))]) (by simp only[List.map_cons,List.map_nil,ha.ev (x:=(.const (.int .i64 1))) rfl,ha.ev (x:=(.tmp 86)) rfl,ha.ev (x:=(.tmp 88)) rfl,ha.ev (x:=(.tmp 90)) rfl]) (by kernel_rfl)) (sl_call rfl rfl (wanted_none rfl) (fun a ha=>x_call0 (ha.ev rfl) (ha.evs rfl) FF.callable_euf_proof_add) H ?_));rintro _ w17 ⟨x21,rfl,H⟩;exact ag rfl (sl_nil (nx_to fun a ha=>⟨x21,ha.weaken (cn rfl (cn rfl (cn rfl (cn rfl zz)))),H⟩))
def vc_euf_proof_same_J1 (k5:Nat) (I3:Nat→Int→Int→World→Prop) (x14:Int) (x19:Int) (w18:World):Prop:=
 ∃k6,k6<k5∧I3 k6 x19 (IntKind.wrap .i64 (x14+1)) w18
def vc_euf_proof_same (p1:Addr) (x1:Int) (x2:Int) (K:Int→World→Prop) (w:World):Prop:=
 ∃q1,w.cell? (p1.add 0)=some (.pointer q1)∧Calls P F.euf_Graph_between #[(.pointer q1),(.int .i64 x1),(.int .i64 x2)] w (Ret fun v1 w1=>∃A1 n1 c1,∃A2 n2 c2,v1=(.tuple #[(.slice A1 n1 c1),(.slice A2 n2 c2)])∧∃I1:Nat→Option Addr→Nat→Nat→Int→World→Prop,(∃k1,I1 k1 none 0 0 0 w1)∧∀k1 (A3:Option Addr) (n3 c3:Nat) (x4:Int) (w2:World),I1 k1 A3 n3 c3 x4 w2→((x4<(n1:Int)→(0≤x4∧x4<(n1:Int)∧∃a1,A1=some a1∧∃x5,w2.cell? (a1.add (x4.toNat*1))=some (.int .i64 x5)∧Calls P F.euf_proof_edge #[(.pointer (some p1)),(.int .i64 x5)] w2 (Ret fun v2 w3=>∃x6,v2=(.int .i64 x6)∧∀(p2:Addr) (w4:World),New w3 (.cells #[(.int .i64 x6)] T.int) p2 w4→(∃(A4:Option Addr) (n4 c4:Nat) (w5:World),(Builtin.append_ #[T.sl_int,T.sl_int] T.sl_int #[(.slice A3 n3 c3),(.slice (some p2) 1 1)]).run P w4= .ok (.slice A4 n4 c4) w5∧(∃k2,k2<k1∧I1 k2 A4 n4 c4 (IntKind.wrap .i64 (x4+1)) w5)))))∧(¬(x4<(n1:Int))→(∃I2:Nat→Option Addr→Nat→Nat→Int→World→Prop,(∃k3,I2 k3 A3 n3 c3 0 w2)∧∀k3 (A5:Option Addr) (n5 c5:Nat) (x7:Int) (w6:World),I2 k3 A5 n5 c5 x7 w6→((x7<(n2:Int)→(0≤IntKind.wrap .i64 ((IntKind.wrap .i64 ((n2:Int)-1))-x7)∧IntKind.wrap .i64 ((IntKind.wrap .i64 ((n2:Int)-1))-x7)<(n2:Int)∧∃a2,A2=some a2∧∃x8,w6.cell? (a2.add ((IntKind.wrap .i64 ((IntKind.wrap .i64 ((n2:Int)-1))-x7)).toNat*1))=some (.int .i64 x8)∧Calls P F.euf_proof_edge #[(.pointer (some p1)),(.int .i64 x8)] w6 (Ret fun v3 w7=>∃x9,v3=(.int .i64 x9)∧Calls P F.euf_proof_turned #[(.pointer (some p1)),(.int .i64 x9)] w7 (Ret fun v4 w8=>∃x10,v4=(.int .i64 x10)∧∀(p3:Addr) (w9:World),New w8 (.cells #[(.int .i64 x10)] T.int) p3 w9→(∃(A6:Option Addr) (n6 c6:Nat) (w10:World),(Builtin.append_ #[T.sl_int,T.sl_int] T.sl_int #[(.slice A5 n5 c5),(.slice (some p3) 1 1)]).run P w9= .ok (.slice A6 n6 c6) w10∧(∃k4,k4<k3∧I2 k4 A6 n6 c6 (IntKind.wrap .i64 (x7+1)) w10))))))∧(¬(x7<(n2:Int))→(((n5:Int)=0→(Calls P F.euf_proof_add #[(.pointer (some p1)),(.agg #[(.int .i64 2),(.int .i64 x1),(.int .i64 x2),(.int .i64 0),(.slice none 0 0)])] w6 (Ret fun v5 w11=>∃x11,v5=(.int .i64 x11)∧K x11 w11)))∧(¬((n5:Int)=0)→(0≤(0:Int)∧(0:Int)<(n5:Int)∧∃a3,A5=some a3∧∃x12,w6.cell? (a3.add ((0:Int).toNat*1))=some (.int .i64 x12)∧0≤(1:Int)∧(1:Int)≤(n5:Int)∧∃I3:Nat→Int→Int→World→Prop,(∃k5,I3 k5 x12 0 w6)∧∀k5 (x13:Int) (x14:Int) (w12:World),I3 k5 x13 x14 w12→((x14<((n5-(1:Int).toNat:Nat):Int)→(0≤x14∧x14<((n5-(1:Int).toNat:Nat):Int)∧∃a4,subA A5 c5 ((1:Int).toNat) 1=some a4∧∃x15,w12.cell? (a4.add (x14.toNat*1))=some (.int .i64 x15)∧∃A7 n7 c7,w12.cell? (p1.add 1)=some (.slice A7 n7 c7)∧0≤x13∧x13<(n7:Int)∧∃a5,A7=some a5∧∃x16,w12.cell? ((a5.add (x13.toNat*5)).add 1)=some (.int .i64 x16)∧∃A8 n8 c8,w12.cell? (p1.add 1)=some (.slice A8 n8 c8)∧0≤x15∧x15<(n8:Int)∧∃a6,A8=some a6∧∃x17,w12.cell? ((a6.add (x15.toNat*5)).add 2)=some (.int .i64 x17)∧∀w19,Drawn w12 w19→∀(p4:Addr) (w13:World),New w19 (.cells #[(.int .i64 x13),(.int .i64 x15)] T.int) p4 w13→(∀w15,Drawn w13 w15→Calls P F.euf_proof_add #[(.pointer (some p1)),(.agg #[(.int .i64 4),(.int .i64 x16),(.int .i64 x17),(.int .i64 0),(.slice (some p4) 2 2)])] w15 (Ret fun v6 w14=>∃x18,v6=(.int .i64 x18)∧∀w17,Drawn w14 w17→((vc_euf_proof_same_J1 k5 I3 x14) x18 w17)))))∧(¬(x14<((n5-(1:Int).toNat:Nat):Int))→(K x13 w12))))))))))))
theorem ok_euf_proof_same (p1:Addr) (x1:Int) (x2:Int) (K:Int→World→Prop) (w:World) (H:vc_euf_proof_same p1 x1 x2 K w):Calls P F.euf_proof_same #[(.pointer (some p1)),(.int .i64 x1),(.int .i64 x2)] w (Ret fun v w'=>∃x3,v=(.int .i64 x3)∧K x3 w'):=by
 unfold vc_euf_proof_same at H;refine calls_of (P:=P) Tryd.func22 rfl [(0,(.pointer (some p1))),(1,(.int .i64 x1)),(2,(.int .i64 x2))] 102 rfl rfl (aa rfl (aa rfl (aa rfl az))) (cw_seq (cw_region (ag rfl (sl_nil (nc (kp 0 rfl (kp 1 rfl (kp 2 rfl zz))) (cw_seq (cw_region (mv rfl (nk rfl (fa rfl (TF.fld_euf_proof_0 _ _) ?_))))))))));obtain⟨q1,h1,H⟩:=H;refine ld rfl (i_load1 TF.agg_p_euf_Graph h1) (mv rfl (mv rfl (sl_call rfl rfl (wanted_none rfl) (fun a ha=>x_call0 (ha.ev rfl) (ha.evs rfl) FF.callable_euf_Graph_between) H ?_)));rintro _ w1 ⟨A1,n1,c1,A2,n2,c2,rfl,H⟩;refine mv rfl (sv rfl rfl (fun a ha=>x_extract (ha.ev rfl) rfl) (sv rfl rfl (fun a ha=>x_extract (ha.ev rfl) rfl) (ag rfl (ag rfl (sl_nil (nc (kp 0 rfl (kp 1 rfl (kp 2 rfl (kp 7 rfl (kp 8 rfl zz))))) (cw_seq (cw_region (ag rfl (sl_nil (nc (kp 0 rfl (kp 1 rfl (kp 2 rfl (kp 7 rfl (kp 8 rfl (kp 9 rfl zz)))))) (cw_seq (cw_seq (cw_region (mv rfl (sv rfl rfl (fun a ha=>x_builtin (ha.evs rfl) (fun _=>l_slice TF.isslice_sl_int)) (mv rfl (sl_nil (nc (kp 0 rfl (kp 1 rfl (kp 2 rfl (kp 8 rfl (kp 9 rfl (kp 26 rfl (kp 27 rfl (kp 28 rfl zz)))))))) (cw_block ?_))))))))))))))))))));obtain⟨I1,⟨k1,hi⟩,H⟩:=H;refine cw_loop (fun k1 a w'=>∃A3 n3 c3,∃x4,Ok 102 [(0,(.pointer (some p1))),(1,(.int .i64 x1)),(2,(.int .i64 x2)),(8,(.slice A2 n2 c2)),(9,(.slice A3 n3 c3)),(26,(.slice A1 n1 c1)),(27,(.int .i64 (n1:Int))),(28,(.int .i64 x4))] a∧I1 k1 A3 n3 c3 x4 w') (fun a ha=>⟨k1,none,0,0,0,ha.weaken (sub.cons rfl (sub.cons rfl (sub.cons rfl (sub.cons rfl (sub.cons rfl (sub.cons rfl (sub.cons rfl (sub.cons rfl (sub.nil))))))))),hi⟩) ?_;rintro k1 a w2 ⟨A3,n3,c3,x4,ha,hI⟩;replace H:=H k1 A3 n3 c3 x4 w2 hI;refine(?_:CW _ _ _ 102 [(0,(.pointer (some p1))),(1,(.int .i64 x1)),(2,(.int .i64 x2)),(8,(.slice A2 n2 c2)),(9,(.slice A3 n3 c3)),(26,(.slice A1 n1 c1)),(27,(.int .i64 (n1:Int))),(28,(.int .i64 x4))] _) a ha;refine cw_seq (cw_region (bo rfl rfl o_lss (sl_nil (nc (kp 0 rfl (kp 1 rfl (kp 2 rfl (kp 8 rfl (kp 9 rfl (kp 26 rfl (kp 27 rfl (kp 28 rfl (kp 29 rfl zz))))))))) (cw_seq ?_)))));refine cw_cond_p rfl (fun hb=> ?_) (fun hb=> ?_)
 ·replace H:=H.1 hb;refine cw_skip (nc (kp 0 rfl (kp 1 rfl (kp 2 rfl (kp 8 rfl (kp 9 rfl (kp 26 rfl (kp 27 rfl (kp 28 rfl zz)))))))) (cw_seq (cw_block (cw_seq (cw_region ?_)))));obtain⟨h2,h3,a1,e1,H⟩:=H;refine ix rfl rfl (i_index TF.elem_sl_int TF.size_int e1 h2 h3) ?_;obtain⟨x5,h4,H⟩:=H;refine ld rfl (i_load1 TF.agg_int h4) (ag rfl (sl_nil (nc (kp 0 rfl (kp 1 rfl (kp 2 rfl (kp 8 rfl (kp 9 rfl (kp 11 rfl (kp 26 rfl (kp 27 rfl (kp 28 rfl zz))))))))) (cw_region (mv rfl (mv rfl (mv rfl (sl_call rfl rfl (wanted_none rfl) (fun a ha=>x_call0 (ha.ev rfl) (ha.evs rfl) FF.callable_euf_proof_edge) H ?_))))))));rintro _ w3 ⟨x6,rfl,H⟩;refine sl_new (f:=(fun p=> .slice (some p) 1 1)) rfl rfl (wanted_none rfl) (fun a ha=>x_buildSlice (u:= .slice (some ⟨_,0,none⟩) 1 1) (w':=World.alloc _ (.cells #[(.int .i64 x6)] T.int)) (qs:=[(0,(.int .i64 x6))]) (by simp only[List.map_cons,List.map_nil,ha.ev (x:=(.tmp 35)) rfl]) (by kernel_rfl)) ?_;intro p2 w4 hN;replace H:=H _ _ hN;obtain⟨A4,n4,c4,w5,h5,H⟩:=H;refine sv rfl rfl (fun a ha=>x_builtin (ha.evs rfl) (fun _=>bi_append h5)) (ag rfl (sl_nil (nx_block (nc (kp 0 rfl (kp 1 rfl (kp 2 rfl (kp 8 rfl (kp 9 rfl (kp 26 rfl (kp 27 rfl (kp 28 rfl zz)))))))) (cw_region (bo rfl rfl o_add (mv rfl (sl_nil ?_))))))));obtain⟨k2,hk,H⟩:=H;exact nx_to fun a ha=>⟨k2,hk,A4,n4,c4,IntKind.wrap .i64 (x4+1),ha.weaken (cn rfl (cn rfl (cn rfl (cn rfl (cn rfl (cn rfl (cn rfl (cn rfl zz)))))))),H⟩
 ·replace H:=H.2 hb;refine cw_exit (nx_exit_then (nx_exit_then (nx_exit_hit (nc (kp 0 rfl (kp 1 rfl (kp 2 rfl (kp 8 rfl (kp 9 rfl zz))))) (cw_seq (cw_seq (cw_region (mv rfl (sv rfl rfl (fun a ha=>x_builtin (ha.evs rfl) (fun _=>l_slice TF.isslice_sl_int)) (mv rfl (sl_nil (nc (kp 0 rfl (kp 1 rfl (kp 2 rfl (kp 8 rfl (kp 9 rfl (kp 40 rfl (kp 41 rfl zz))))))) (cw_block ?_)))))))))))));obtain⟨I2,⟨k3,hi⟩,H⟩:=H;refine cw_loop (fun k3 a w'=>∃A5 n5 c5,∃x7,Ok 102 [(0,(.pointer (some p1))),(1,(.int .i64 x1)),(2,(.int .i64 x2)),(8,(.slice A2 n2 c2)),(9,(.slice A5 n5 c5)),(40,(.int .i64 (n2:Int))),(41,(.int .i64 x7))] a∧I2 k3 A5 n5 c5 x7 w') (fun a ha=>⟨k3,A3,n3,c3,0,ha.weaken (sub.cons rfl (sub.cons rfl (sub.cons rfl (sub.cons rfl (sub.cons rfl (sub.cons rfl (sub.cons rfl (sub.nil)))))))),hi⟩) ?_;rintro k3 a w6 ⟨A5,n5,c5,x7,ha,hI⟩;replace H:=H k3 A5 n5 c5 x7 w6 hI;refine(?_:CW _ _ _ 102 [(0,(.pointer (some p1))),(1,(.int .i64 x1)),(2,(.int .i64 x2)),(8,(.slice A2 n2 c2)),(9,(.slice A5 n5 c5)),(40,(.int .i64 (n2:Int))),(41,(.int .i64 x7))] _) a ha;refine cw_seq (cw_region (bo rfl rfl o_lss (sl_nil (nc (kp 0 rfl (kp 1 rfl (kp 2 rfl (kp 8 rfl (kp 9 rfl (kp 40 rfl (kp 41 rfl (kp 42 rfl zz)))))))) (cw_seq ?_)))));refine cw_cond_p rfl (fun hb=> ?_) (fun hb=> ?_)
  ·replace H:=H.1 hb;refine cw_skip (nc (kp 0 rfl (kp 1 rfl (kp 2 rfl (kp 8 rfl (kp 9 rfl (kp 40 rfl (kp 41 rfl zz))))))) (cw_seq (cw_block (cw_seq (cw_region (mv rfl (ag rfl (sl_nil (nc (kp 0 rfl (kp 1 rfl (kp 2 rfl (kp 8 rfl (kp 9 rfl (kp 12 rfl (kp 40 rfl (kp 41 rfl zz)))))))) (cw_region (mv rfl (mv rfl (mv rfl (mv rfl (mv rfl (sv rfl rfl (fun a ha=>x_builtin (ha.evs rfl) (fun _=>l_slice TF.isslice_sl_int)) (bo rfl rfl o_sub (mv rfl (bo rfl rfl o_sub ?_)))))))))))))))))));obtain⟨h6,h7,a2,e2,H⟩:=H;refine ix rfl rfl (i_index TF.elem_sl_int TF.size_int e2 h6 h7) ?_;obtain⟨x8,h8,H⟩:=H;refine ld rfl (i_load1 TF.agg_int h8) (sl_call rfl rfl (wanted_none rfl) (fun a ha=>x_call0 (ha.ev rfl) (ha.evs rfl) FF.callable_euf_proof_edge) H ?_);rintro _ w7 ⟨x9,rfl,H⟩;refine sl_call rfl rfl (wanted_none rfl) (fun a ha=>x_call0 (ha.ev rfl) (ha.evs rfl) FF.callable_euf_proof_turned) H ?_;rintro _ w8 ⟨x10,rfl,H⟩;refine sl_new (f:=(fun p=> .slice (some p) 1 1)) rfl rfl (wanted_none rfl) (fun a ha=>x_buildSlice (u:= .slice (some ⟨_,0,none⟩) 1 1) (w':=World.alloc _ (.cells #[(.int .i64 x10)] T.int)) (qs:=[(0,(.int .i64 x10))]) (by simp only[List.map_cons,List.map_nil,ha.ev (x:=(.tmp 56)) rfl]) (by kernel_rfl)) ?_;intro p3 w9 hN;replace H:=H _ _ hN;obtain⟨A6,n6,c6,w10,h9,H⟩:=H;refine sv rfl rfl (fun a ha=>x_builtin (ha.evs rfl) (fun _=>bi_append h9)) (ag rfl (sl_nil (nx_block (nc (kp 0 rfl (kp 1 rfl (kp 2 rfl (kp 8 rfl (kp 9 rfl (kp 40 rfl (kp 41 rfl zz))))))) (cw_region (bo rfl rfl o_add (mv rfl (sl_nil ?_))))))));obtain⟨k4,hk,H⟩:=H;exact nx_to fun a ha=>⟨k4,hk,A6,n6,c6,IntKind.wrap .i64 (x7+1),ha.weaken (cn rfl (cn rfl (cn rfl (cn rfl (cn rfl (cn rfl (cn rfl zz))))))),H⟩
  ·replace H:=H.2 hb;refine cw_exit (nx_exit_then (nx_exit_then (nx_exit_hit (nc (kp 0 rfl (kp 1 rfl (kp 2 rfl (kp 9 rfl zz)))) (cw_seq (cw_seq (cw_region (mv rfl (sv rfl rfl (fun a ha=>x_builtin (ha.evs rfl) (fun _=>l_slice TF.isslice_sl_int)) (bo rfl rfl o_eql (sl_nil (nc (kp 0 rfl (kp 1 rfl (kp 2 rfl (kp 9 rfl (kp 62 rfl zz))))) ?_))))))))))));refine cw_cond_p rfl (fun hb=> ?_) (fun hb=> ?_)
   ·replace H:=H.1 hb;refine cw_seq (cw_region (mv rfl (mv rfl (mv rfl (sv rfl rfl (fun a ha=>x_buildP (u:=(.agg #[(.int .i64 2),(.int .i64 x1),(.int .i64 x2),(.int .i64 0),(.slice none 0 0)])) (qs:=[(0,(.int .i64 2)),(1,(.int .i64 x1)),(2,(.int .i64 x2))]) (by simp only[List.map_cons,List.map_nil,ha.ev (x:=(.const (.int .i64 2))) rfl,ha.ev (x:=(.tmp 64)) rfl,ha.ev (x:=(.tmp 65)) rfl]) (by kernel_rfl)) (sl_call rfl rfl (wanted_none rfl) (fun a ha=>x_call0 (ha.ev rfl) (ha.evs rfl) FF.callable_euf_proof_add) H ?_))))));rintro _ w11 ⟨x11,rfl,H⟩;exact ag rfl (sl_nil (nc (kp 6 rfl zz) (cw_ret (nx_ret_then (nx_body_ret (res1 rfl rfl) ⟨_,rfl,_,rfl,H⟩)))))
   ·replace H:=H.2 hb;refine cw_skip (nc (kp 0 rfl (kp 9 rfl zz)) (cw_seq (cw_region (mv rfl ?_))));obtain⟨h10,h11,a3,e3,H⟩:=H;refine ix rfl rfl (i_index TF.elem_sl_int TF.size_int e3 h10 h11) ?_;obtain⟨x12,h12,H⟩:=H;refine ld rfl (i_load1 TF.agg_int h12) (ag rfl (sl_nil (nc (kp 0 rfl (kp 9 rfl (kp 13 rfl zz))) (cw_seq (cw_seq (cw_region (mv rfl ?_)))))));obtain⟨h13,h14,H⟩:=H;refine sv rfl rfl (fun a ha=>x_slice (ha.ev rfl) (om_some (ha.ev rfl)) rfl rfl (i_slice_l TF.elem_sl_int TF.size_int h13 h14)) (sv rfl rfl (fun a ha=>x_builtin (ha.evs rfl) (fun _=>l_slice TF.isslice_sl_int)) (mv rfl (sl_nil (nc (kp 0 rfl (kp 13 rfl (kp 72 rfl (kp 73 rfl (kp 74 rfl zz))))) (cw_block ?_)))));obtain⟨I3,⟨k5,hi⟩,H⟩:=H;refine cw_loop (fun k5 a w'=>∃x13,∃x14,Ok 102 [(0,(.pointer (some p1))),(13,(.int .i64 x13)),(72,(.slice (subA A5 c5 ((1:Int).toNat) 1) (n5-(1:Int).toNat) (c5-(1:Int).toNat))),(73,(.int .i64 ((n5-(1:Int).toNat:Nat):Int))),(74,(.int .i64 x14))] a∧I3 k5 x13 x14 w') (fun a ha=>⟨k5,x12,0,ha.weaken (sub.cons rfl (sub.cons rfl (sub.cons rfl (sub.cons rfl (sub.cons rfl (sub.nil)))))),hi⟩) ?_;rintro k5 a w12 ⟨x13,x14,ha,hI⟩;replace H:=H k5 x13 x14 w12 hI;refine(?_:CW _ _ _ 102 [(0,(.pointer (some p1))),(13,(.int .i64 x13)),(72,(.slice (subA A5 c5 ((1:Int).toNat) 1) (n5-(1:Int).toNat) (c5-(1:Int).toNat))),(73,(.int .i64 ((n5-(1:Int).toNat:Nat):Int))),(74,(.int .i64 x14))] _) a ha;refine cw_seq (cw_region (bo rfl rfl o_lss (sl_nil (nc (kp 0 rfl (kp 13 rfl (kp 72 rfl (kp 73 rfl (kp 74 rfl (kp 75 rfl zz)))))) (cw_seq ?_)))));refine cw_cond_p rfl (fun hb=> ?_) (fun hb=> ?_)
    ·replace H:=H.1 hb;refine cw_skip (nc (kp 0 rfl (kp 13 rfl (kp 72 rfl (kp 73 rfl (kp 74 rfl zz))))) ?_);refine cw_join (fun a w=>∃x19,Ok 102 [(0,(.pointer (some p1))),(13,(.int .i64 x19)),(72,(.slice (subA A5 c5 ((1:Int).toNat) 1) (n5-(1:Int).toNat) (c5-(1:Int).toNat))),(73,(.int .i64 ((n5-(1:Int).toNat:Nat):Int))),(74,(.int .i64 x14))] a∧vc_euf_proof_same_J1 k5 I3 x14 x19 w) ?_ ?_
     ·rintro a w18 ⟨x19,ha,H⟩;unfold vc_euf_proof_same_J1 at H;refine(?_:CW _ _ _ 102 [(0,(.pointer (some p1))),(13,(.int .i64 x19)),(72,(.slice (subA A5 c5 ((1:Int).toNat) 1) (n5-(1:Int).toNat) (c5-(1:Int).toNat))),(73,(.int .i64 ((n5-(1:Int).toNat:Nat):Int))),(74,(.int .i64 x14))] _) a ha;refine cw_region (bo rfl rfl o_add (mv rfl (sl_nil ?_)));obtain⟨k6,hk,H⟩:=H;exact nx_to fun a ha=>⟨k6,hk,x19,IntKind.wrap .i64 (x14+1),ha.weaken (cn rfl (cn rfl (cn rfl (cn rfl (cn rfl zz))))),H⟩
     ·refine cw_block (cw_seq (cw_region ?_));obtain⟨h17,h18,a4,e4,H⟩:=H;refine ix rfl rfl (i_index TF.elem_sl_int TF.size_int e4 h17 h18) ?_;obtain⟨x15,h19,H⟩:=H;refine ld rfl (i_load1 TF.agg_int h19) (ag rfl (sl_nil (nc (kp 0 rfl (kp 13 rfl (kp 15 rfl (kp 72 rfl (kp 73 rfl (kp 74 rfl zz)))))) ?_)));refine cw_any_keep follows (fun _=>False) [0,1,2,3,4,5,6,7,8,9,10,11,12,13,14,15,16,17,18,20,22] [4,8,12,16] 23 rfl rfl (by kernel_rfl) (fun _ _ d _ _ h=>by cases d<;>exact h) (fun cm W D=> ?_);refine pmv 0 cm rfl rfl D W fun _ D W=>(pmv 1 cm rfl rfl D W fun _ D W=>(pnk 2 cm rfl rfl D W fun _ D W=>(pfa 3 cm rfl rfl (TF.fld_euf_proof_1 _ _) D W fun _ D W=> ?_)));obtain⟨A7,n7,c7,h20,H⟩:=H;refine vl 4 cm rfl rfl (fun hw=>(i_load1 TF.agg_sl_api_Link (hw.cell ⟨h20,fun h=>h⟩))) D W fun _ D W=>(pmv 5 cm rfl rfl D W fun _ D W=> ?_);obtain⟨h21,h22,a5,e5,H⟩:=H;refine pix 6 cm rfl rfl rfl (i_index TF.elem_sl_api_Link TF.size_api_Link e5 h21 h22) D W fun _ D W=>(pfa 7 cm rfl rfl (TF.fld_api_Link_1 _ _) D W fun _ D W=> ?_);obtain⟨x16,h23,H⟩:=H;refine vl 8 cm rfl rfl (fun hw=>(i_load1 TF.agg_int (hw.cell ⟨h23,fun h=>h⟩))) D W fun _ D W=>(pmv 9 cm rfl rfl D W fun _ D W=>(pnk 10 cm rfl rfl D W fun _ D W=>(pfa 11 cm rfl rfl (TF.fld_euf_proof_1 _ _) D W fun _ D W=> ?_)));obtain⟨A8,n8,c8,h24,H⟩:=H;refine vl 12 cm rfl rfl (fun hw=>(i_load1 TF.agg_sl_api_Link (hw.cell ⟨h24,fun h=>h⟩))) D W fun _ D W=>(pmv 13 cm rfl rfl D W fun _ D W=> ?_);obtain⟨h25,h26,a6,e6,H⟩:=H;refine pix 14 cm rfl rfl rfl (i_index TF.elem_sl_api_Link TF.size_api_Link e6 h25 h26) D W fun _ D W=>(pfa 15 cm rfl rfl (TF.fld_api_Link_2 _ _) D W fun _ D W=> ?_);obtain⟨x17,h27,H⟩:=H;refine vl 16 cm rfl rfl (fun hw=>(i_load1 TF.agg_int (hw.cell ⟨h27,fun h=>h⟩))) D W fun _ D W=>(pmv 17 cm rfl rfl D W fun _ D W=>(pmv 18 cm rfl rfl D W fun _ D W=>(ar 19 ?_)));replace H:=H _ D;refine aw_new (f:=(fun p=> .slice (some p) 2 2)) rfl rfl rfl (wanted_none rfl) (fun a ha=>x_buildSlice (u:= .slice (some ⟨_,0,none⟩) 2 2) (w':=World.alloc _ (.cells #[(.int .i64 x13),(.int .i64 x15)] T.int)) (qs:=[(0,(.int .i64 x13)),(1,(.int .i64 x15))]) (by simp only[List.map_cons,List.map_nil,ha.ev (x:=(.tmp 95)) rfl,ha.ev (x:=(.tmp 96)) rfl]) (by kernel_rfl)) rfl true (by kernel_rfl) ?_;intro p4 w13 hN _ D;replace H:=H _ _ hN;replace W:=(W.new hN).drawn D;refine⟨fun _=>W,?_⟩;refine pvd 20 cm rfl rfl rfl (fun w' a ha=>x_buildP (u:=(.agg #[(.int .i64 4),(.int .i64 x16),(.int .i64 x17),(.int .i64 0),(.slice (some p4) 2 2)])) (qs:=[(0,(.int .i64 4)),(1,(.int .i64 x16)),(2,(.int .i64 x17)),(4,(.slice (some p4) 2 2))]) (by simp only[List.map_cons,List.map_nil,ha.ev (x:=(.const (.int .i64 4))) rfl,ha.ev (x:=(.tmp 86)) rfl,ha.ev (x:=(.tmp 94)) rfl,ha.ev (x:=(.tmp 97)) rfl]) (by kernel_rfl)) D fun _ D=>(ar 21 ?_);replace H:=H _ D;refine aw_c rfl rfl rfl (wanted_none rfl) (fun a ha=>x_call0 (ha.ev rfl) (ha.evs rfl) FF.callable_euf_proof_add) rfl false (by kernel_rfl) H ?_;rintro _ w14 ⟨x18,rfl,H⟩ _ D;refine⟨fun h=>(by cases h),?_⟩;refine pagd 22 cm rfl rfl D fun _ D=>(an_end (by kernel_rfl) D ?_);intro w17 D;replace H:=H _ D;clear D cm;exact nx_block (nx_to fun a ha=>⟨x18,ha.weaken (cn rfl (cn rfl (cn rfl (cn rfl (cn rfl zz))))),H⟩)
    ·replace H:=H.2 hb;exact cw_exit (nx_exit_then (nx_exit_then (nx_exit_hit (nc (kp 13 rfl zz) (cw_seq (cw_region (mv rfl (ag rfl (sl_nil (nc (kp 6 rfl zz) (cw_ret (nx_body_ret (res1 rfl rfl) ⟨_,rfl,_,rfl,H⟩))))))))))))
def vc_euf_Graph_Prove (p1:Addr) (x1:Int) (x2:Int) (K:Option Addr→Nat→Nat→Int→World→Prop) (w:World):Prop:=
 Calls P F.euf_Graph_there #[(.pointer (some p1)),(.int .i64 x1),(.int .i64 x2)] w (Ret fun v1 w1=>∃b1,v1=(.bool b1)∧((!b1)=true→(K none 0 0 80 w1))∧((!b1)=false→(∃x4,(∀w',Drawn w1 w'→Calls P F.euf_classes_find #[(.pointer (some (p1.add 0))),(.int .i64 x1)] w' fun x w''=>x= .returned (.int .i64 x4)∧Drawn w' w'')∧∃x5,(∀w',Drawn w1 w'→Calls P F.euf_classes_find #[(.pointer (some (p1.add 0))),(.int .i64 x2)] w' fun x w''=>x= .returned (.int .i64 x5)∧Drawn w' w'')∧∀w2,Drawn w1 w2→((x4≠x5→(K none 0 0 82 w2))∧(¬(x4≠x5)→(∀(m1:Nat) (w3:World),NewM w2 m1 w3→(∀(p2:Addr) (w4:World),New w3 (.cells #[(.pointer (some p1)),(.slice none 0 0),(.map (some m1))] T.euf_proof) p2 w4→(Calls P F.euf_proof_same #[(.pointer (some p2)),(.int .i64 x1),(.int .i64 x2)] w4 (Ret fun v2 w5=>∃x6,v2=(.int .i64 x6)∧∃A2 n2 c2,w5.cell? (p2.add 1)=some (.slice A2 n2 c2)∧0≤IntKind.wrap .i64 (x6+1)∧IntKind.wrap .i64 (x6+1)≤(c2:Int)∧K A2 ((IntKind.wrap .i64 (x6+1)).toNat) c2 0 w5)))))))))
theorem ok_euf_Graph_Prove (p1:Addr) (x1:Int) (x2:Int) (K:Option Addr→Nat→Nat→Int→World→Prop) (w:World) (H:vc_euf_Graph_Prove p1 x1 x2 K w):Calls P F.euf_Graph_Prove #[(.pointer (some p1)),(.int .i64 x1),(.int .i64 x2)] w (Ret fun v w'=>∃A1 n1 c1,∃x3,v=(.tuple #[(.slice A1 n1 c1),(.int .i64 x3)])∧K A1 n1 c1 x3 w'):=by
 unfold vc_euf_Graph_Prove at H;refine calls_of (P:=P) Tryd.func9 rfl [(0,(.pointer (some p1))),(1,(.int .i64 x1)),(2,(.int .i64 x2))] 41 rfl rfl (aa rfl (aa rfl (aa rfl az))) (cw_seq (cw_region (ag rfl (ag rfl (sl_nil (nc (kp 0 rfl (kp 1 rfl (kp 2 rfl zz))) (cw_seq (cw_seq (cw_region (mv rfl (mv rfl (mv rfl (sl_call rfl rfl (wanted_none rfl) (fun a ha=>x_call0 (ha.ev rfl) (ha.evs rfl) FF.callable_euf_Graph_there) H ?_)))))))))))));rintro _ w1 ⟨b1,rfl,H⟩;refine sv rfl rfl (fun a ha=>x_unOp (ha.ev rfl) u_not) (sl_nil (nc (kp 0 rfl (kp 1 rfl (kp 2 rfl (kp 14 rfl zz)))) ?_));refine cw_cond rfl (fun hb=> ?_) (fun hb=> ?_)
 ·replace H:=H.1 hb;exact cw_seq (cw_region (ag rfl (ag rfl (sl_nil (nc (kp 6 rfl (kp 7 rfl zz)) (cw_ret (nx_ret_then (nx_body_ret (res2 rfl rfl rfl) ⟨_,rfl,_,_,_,_,rfl,H⟩))))))))
 ·replace H:=H.2 hb;refine cw_skip (nc (kp 0 rfl (kp 1 rfl (kp 2 rfl zz))) (cw_seq (cw_seq ?_)));refine cw_any_drawn follows [0,1,2,3,4,5,6,7,8,9,10] [4,9] 11 rfl rfl (by kernel_rfl) (fun _ _ d _ _ h=>by cases d<;>exact h) (fun cm W D=> ?_);refine pmv 0 cm rfl rfl D W fun _ D W=>(pnk 1 cm rfl rfl D W fun _ D W=>(pfa 2 cm rfl rfl (TF.fld_euf_Graph_0 _ _) D W fun _ D W=>(pmv 3 cm rfl rfl D W fun _ D W=> ?_)));obtain⟨x4,h1,H⟩:=H;refine an_q (i:=4) cm rfl (by kernel_rfl) W rfl rfl (wanted_none rfl) (fun w' hw a ha=>x_call0 (ha.ev rfl) (ha.evs rfl) FF.callable_euf_classes_find) h1 rfl ?_;intro _ hd W;replace D:=D.trans hd;clear hd;refine pmv 5 cm rfl rfl D W fun _ D W=>(pnk 6 cm rfl rfl D W fun _ D W=>(pfa 7 cm rfl rfl (TF.fld_euf_Graph_0 _ _) D W fun _ D W=>(pmv 8 cm rfl rfl D W fun _ D W=> ?_)));obtain⟨x5,h2,H⟩:=H;refine an_q (i:=9) cm rfl (by kernel_rfl) W rfl rfl (wanted_none rfl) (fun w' hw a ha=>x_call0 (ha.ev rfl) (ha.evs rfl) FF.callable_euf_classes_find) h2 rfl ?_;intro _ hd W;replace D:=D.trans hd;clear hd;refine pvd 10 cm rfl rfl rfl (fun w' a ha=>x_binOp (ha.ev rfl) (ha.ev rfl) o_neq) D fun _ D=>(an_end (by kernel_rfl) D ?_);intro w2 D;replace H:=H _ D;clear D cm;refine nc (kp 0 rfl (kp 1 rfl (kp 2 rfl (kp 25 rfl zz)))) ?_;refine cw_cond_p rfl (fun hb=> ?_) (fun hb=> ?_)
  ·replace H:=H.1 hb;exact cw_seq (cw_region (ag rfl (ag rfl (sl_nil (nc (kp 6 rfl (kp 7 rfl zz)) (cw_ret (nx_ret_then (nx_body_ret (res2 rfl rfl rfl) ⟨_,rfl,_,_,_,_,rfl,H⟩))))))))
  ·replace H:=H.2 hb;refine cw_skip (nc (kp 0 rfl (kp 1 rfl (kp 2 rfl zz))) (cw_seq (cw_region (mv rfl (sl_newm rfl rfl (wanted_none rfl) (fun a ha=>x_makeMap i_makeMap) ?_)))));intro m1 w3 hN;replace H:=H _ _ hN;refine sv rfl rfl (fun a ha=>x_buildP (u:=(.agg #[(.pointer (some p1)),(.slice none 0 0),(.map (some m1))])) (qs:=[(0,(.pointer (some p1))),(2,(.map (some m1)))]) (by simp only[List.map_cons,List.map_nil,ha.ev (x:=(.tmp 26)) rfl,ha.ev (x:=(.tmp 27)) rfl]) (by kernel_rfl)) (sl_new (f:=(fun p=> .pointer (some p))) rfl rfl (wanted_none rfl) (fun a ha=>x_box (ha.ev rfl) i_box) ?_);intro p2 w4 hN;replace H:=H _ _ hN;refine ag rfl (sl_nil (nc (kp 1 rfl (kp 2 rfl (kp 8 rfl zz))) (cw_seq (cw_region (mv rfl (mv rfl (mv rfl (sl_call rfl rfl (wanted_none rfl) (fun a ha=>x_call0 (ha.ev rfl) (ha.evs rfl) FF.callable_euf_proof_same) H ?_))))))));rintro _ w5 ⟨x6,rfl,H⟩;refine ag rfl (sl_nil (nc (kp 8 rfl (kp 9 rfl zz)) (cw_seq (cw_region (mv rfl (nk rfl (fa rfl (TF.fld_euf_proof_1 _ _) ?_)))))));obtain⟨A2,n2,c2,h4,H⟩:=H;refine ld rfl (i_load1 TF.agg_sl_api_Link h4) (mv rfl (bo rfl rfl o_add ?_));obtain⟨h5,h6,H⟩:=H;exact sv rfl rfl (fun a ha=>x_slice (ha.ev rfl) rfl (om_some (ha.ev rfl)) rfl (i_slice_h TF.elem_sl_api_Link TF.size_api_Link h5 h6)) (ag rfl (ag rfl (sl_nil (nc (kp 6 rfl (kp 7 rfl zz)) (cw_ret (nx_body_ret (res2 rfl rfl rfl) ⟨_,rfl,_,_,_,_,rfl,H⟩))))))
end Go.Proofs.YtbmbhfghpidggaaDoor
namespace Go.Proofs.YtbmbhfghpidggaaDoor
set_option linter.unusedVariables false
set_option linter.unusedSimpArgs false
open Wk
def PX (pp:Addr) (m1:Nat) (AL:Option Addr) (b:Nat):Prop:=b=pp.block∨b=m1∨At AL b
structure PS (X:Nat→Prop) (Bp:Nat) (w:World) (p pp:Addr) (m1:Nat) (AL:Option Addr) (nL cL:Nat) (lv:List Value) (ls:List Lnk) (of:List (Int×Int)):Prop where
 c0:w.cell? (pp.add 0)=some (.pointer (some p))
 c1:w.cell? (pp.add 1)=some (.slice AL nL cL)
 f1:w.frozen? (pp.add 1)=false
 c2:w.cell? (pp.add 2)=some (.map (some m1))
 row:Row w Bp T.api_Link 5 AL nL cL lv
 sl:St (fun b=>PX pp m1 AL b∨X b) w fun w=>SlV cLink w lv ls
 mp:MapIs (Value.int .i64) iv w m1 of
 sep1:¬At AL pp.block
 sep2:¬At AL m1
 sep3:pp.block≠m1
 ppB:Bp≤pp.block
 mB:Bp≤m1
 ppl:pp.block<w.heap.size
 xlo:∀b,X b→b<w.heap.size
 xno:∀b,X b→¬PX pp m1 AL b
section
variable {X:Nat→Prop} {Bp:Nat} {w w':World} {p pp:Addr} {m1:Nat} {AL:Option Addr} {nL cL:Nat} {lv:List Value} {ls:List Lnk} {of:List (Int×Int)}
theorem PS.ext (h:PS X Bp w p pp m1 AL nL cL lv ls of) (k:Ext w w'):PS X Bp w' p pp m1 AL nL cL lv ls of:=
 ⟨k.cell h.c0,k.cell h.c1,(World.frozen?_of_block (k.block _ (by rw[Addr.add_block];exact h.ppl) (fun h=>h))).trans h.f1,k.cell h.c2,h.row.keep k (fun _ _ h=>h),h.sl.adv (Adv.of_ext k),h.mp.keep k (fun h=>h),h.sep1,h.sep2,h.sep3,h.ppB,h.mB,Nat.lt_of_lt_of_le h.ppl k.size,fun b hb=>Nat.lt_of_lt_of_le (h.xlo b hb) k.size,h.xno⟩
theorem PS.len (h:PS X Bp w p pp m1 AL nL cL lv ls of):ls.length=nL:=by
 have h1:=h.row.1
 have h2:lv.length=ls.length*5:=h.sl.now.1
 omega
theorem PS.lo (h:PS X Bp w p pp m1 AL nL cL lv ls of):∀b,PX pp m1 AL b→Bp≤b∧b<w.heap.size:=by
 rintro b (rfl|rfl|hb)
 ·exact⟨h.ppB,h.ppl⟩
 ·exact⟨h.mB,h.mp.lt⟩
 ·exact h.row.at hb
theorem PS.link (h:PS X Bp w p pp m1 AL nL cL lv ls of) {i:Nat} {x:Lnk} (hx:ls[i]? =some x):i<nL∧∃a C k d,AL=some a∧CellsAt w (a.add (i*5)) [.int .i64 x.kind,.int .i64 x.a,.int .i64 x.b,.int .i64 x.tag,.slice C k d]:=by
 have hl:=h.len
 have hi:=(List.getElem?_eq_some_iff.1 hx).1
 obtain⟨a,us,hA,hu,_,hcell,_⟩:=h.row.elem (i:=(i:Int)) (by omega) (by omega) (by decide)
 rw[Int.toNat_natCast] at hu hcell
 obtain⟨C,k,d,e,_,_⟩:=h.sl.now.2 i x hx
 rw[show(cLink.size:Nat)=5 from rfl,←hu] at e
 subst e
 exact⟨by omega,a,C,k,d,hA,hcell⟩
theorem link_iN:infoN P T.api_Link=some (5,56,5):=by kernel_rfl
theorem link_eT:elemT P T.sl_api_Link=some T.api_Link:=by kernel_rfl
theorem add_is {x:Lnk} {K:Option Addr} {kn kc:Nat} (h:PS X Bp w p pp m1 AL nL cL lv ls of) (hB:Bp≤w.heap.size) (hk:St (fun b=>PX pp m1 AL b∨X b) w fun w=>Ints w K kn x.kids) (hkn:Sm kn) (hn:ls.length+1≤1099511627776):
  Calls P F.euf_proof_add #[.pointer (some pp),.agg #[.int .i64 x.kind,.int .i64 x.a,.int .i64 x.b,.int .i64 x.tag,.slice K kn kc]] w (Ret fun v w'=>v= .int .i64 (ls.length:Int)∧∃AL' nL' cL' lv',PS X Bp w' p pp m1 AL' nL' cL' lv' (ls++[x]) of∧Adv (PX pp m1 AL) w (PX pp m1 AL') w'):=by
 refine Ret.mono (ok_euf_proof_add pp x.kind x.a x.b x.tag K kn kc (fun r w'=>r=(ls.length:Int)∧∃AL' nL' cL' lv',PS X Bp w' p pp m1 AL' nL' cL' lv' (ls++[x]) of∧Adv (PX pp m1 AL) w (PX pp m1 AL') w') w ?_) (by rintro _ w' ⟨r,rfl,rfl,hk⟩;exact⟨rfl,hk⟩)
 have hl:=h.len
 unfold vc_euf_proof_add
 intro p2 w1 hN1
 have E1:=Ext.of_new hN1
 have h1:=h.ext E1
 refine⟨AL,nL,cL,h1.c1,_,_,_,_,_,_,_,hN1.cells rfl,fun w9 hw9 p3 w2 hN2 w8 hw8=> ?_⟩
 have E8:Ext w w8:=((E1.drawn hw9).new hN2).drawn hw8
 have h8:=h.ext E8
 obtain⟨A',c',w3,hr,hR,hK,hA'⟩:=h8.row.append (P:=P) (t:=T.sl_api_Link) (ty:=T.sl_api_Link) (m:=1) (c2:=1) link_eT link_iN (by decide) (news:=[.int .i64 x.kind,.int .i64 x.a,.int .i64 x.b,.int .i64 x.tag,.slice K kn kc]) rfl ((Ext.of_drawn hw8).cells (hN2.cells rfl)) (by intro u hu;simp at hu;rcases hu with rfl|rfl|rfl|rfl|rfl<;>rfl) (by omega) (by omega) (Nat.le_trans hB E8.size)
 refine⟨A',_,c',w3,hr,fun w7 hw7=> ?_⟩
 have sz8:=E8.size
 have noP:¬At AL (pp.add 1).block:=by rw[Addr.add_block];exact h.sep1
 have k3:∀o v,w8.cell? (pp.add o)=some v→w7.cell? (pp.add o)=some v:=fun o v hv=>(hw7.cell _).trans (hK.cell ⟨hv,by rw[Addr.add_block];exact h.sep1⟩)
 have fr7:w7.frozen? (pp.add 1)=false:=(hw7.frozen _).trans ((World.frozen?_of_block (hK.block _ (by rw[Addr.add_block];exact h8.ppl) noP)).trans h8.f1)
 refine⟨⟨_,k3 1 _ h8.c1⟩,fr7,fun w4 hw4 w5 hw5=> ?_⟩
 have kh:=setCell_keep hw4
 rw[Addr.add_block] at kh
 have gone:∀b,At A' b→b<w8.heap.size→At AL b:=fun b hb hlt=>(hA' b hb).resolve_right (by omega)
 --the way from w8 to w5
 have K85:Keep (PX pp m1 AL) w8 w5:=((hK.mono fun i _ hi=> .inr (.inr hi)).trans (Keep.of_drawn hw7)).trans ((kh.mono fun i _ hi=> .inl hi).trans (Keep.of_drawn hw5))
 have adv:Adv (PX pp m1 AL) w (PX pp m1 A') w5:=by
  refine⟨(E8.mono fun _ _ h=>h.elim).trans K85,fun i hi hh=> ?_⟩
  rcases hh with hh|hh|hh
  ·exact .inl hh
  ·exact .inr (.inl hh)
  ·exact .inr (.inr (gone i hh (by omega)))
 have sep1':¬At A' pp.block:=fun hh=>h.sep1 (gone _ hh h8.ppl)
 have sep2':¬At A' m1:=fun hh=>h.sep2 (gone _ hh h8.mp.lt)
 have R5:Row w5 Bp T.api_Link 5 A' (nL+1) c' (lv++[.int .i64 x.kind,.int .i64 x.a,.int .i64 x.b,.int .i64 x.tag,.slice K kn kc]):=(((hR.keep (Keep.of_drawn (X:=fun _=>False) hw7) (fun _ _ h=>h)).keep kh (fun b hb hh=>sep1' (by rw[←hh];exact hb))).keep (Keep.of_drawn (X:=fun _=>False) hw5) (fun _ _ h=>h))
 have ne1:∀{o},o≠1→pp.add 1≠pp.add o:=fun ho q=>ho (add_inj q).symm
 have cell5:∀o v,o≠1→w8.cell? (pp.add o)=some v→w5.cell? (pp.add o)=some v:=fun o v ho hv=>(hw5.cell _).trans (by rw[hw4,World.cell?_setCell_other _ _ _ _ (ne1 ho)];exact k3 o v hv)
 refine⟨A',nL+1,c',(hw5.cell _).trans (by rw[hw4];exact World.cell?_setCell_same _ _ _ (k3 1 _ h8.c1)),by rw[wrap_small (by omega) (by omega)];omega,A',nL+1,c',_,⟨cell5 0 _ (by omega) h8.c0,(hw5.cell _).trans (by rw[hw4];exact World.cell?_setCell_same _ _ _ (k3 1 _ h8.c1)),(hw5.frozen _).trans (by rw[hw4,World.frozen?_setCell];exact fr7),cell5 2 _ (by omega) h8.c2,R5,?_,?_,sep1',sep2',h.sep3,h.ppB,h.mB,Nat.lt_of_lt_of_le h.ppl adv.keep.size,fun b hb=>Nat.lt_of_lt_of_le (h.xlo b hb) adv.keep.size,fun b hb hh=>h.xno b hb (adv.grow b (h.xlo b hb) hh)⟩,adv⟩
 ·intro w6 hw6
  have Kall:Keep (fun b=>PX pp m1 AL b∨X b) w w6:=(adv.keep.mono fun i _ hi=> .inl hi).over hw6 fun i hi hh=>hh.elim (fun hh=> .inl (adv.grow i hi hh)) .inr
  exact(h.sl w6 Kall).snoc rfl ⟨K,kn,kc,rfl,hkn,hk w6 Kall⟩
 ·refine(((h8.mp.keep hK (fun hh=>h.sep2 hh)).keep (Keep.of_drawn (X:=fun _=>False) hw7) (fun h=>h)).keep kh (fun hh=>h.sep3 hh.symm)).keep (Keep.of_drawn (X:=fun _=>False) hw5) (fun h=>h)
theorem ints_st {H:Nat→Prop} {q:Addr} {l:List Int} {n:Nat} (hc:CellsAt w q (l.map iv)) (hn:n=l.length) (hH:¬H q.block):St H w fun w=>Ints w (some q) n l:=by
 intro w' hw'
 have hc':=hw'.own hc hH
 refine⟨hn.symm,fun i x hx=>⟨q,[iv x],rfl,rfl,fun j v hj=> ?_,rfl⟩⟩
 cases j with
 |zero=>
  simp at hj
  subst hj
  rw[Addr.add_add]
  have:=hc' i (iv x) (by rw[List.getElem?_map,hx];rfl)
  simpa [cInt] using this
 |succ j=>simp at hj
theorem turned_is {k:Nat} {x:Lnk} (h:PS X Bp w p pp m1 AL nL cL lv ls of) (hB:Bp≤w.heap.size) (hx:ls[k]? =some x) (hn:ls.length+1≤1099511627776):
  Calls P F.euf_proof_turned #[.pointer (some pp),.int .i64 (k:Int)] w (Ret fun v w'=>v= .int .i64 (ls.length:Int)∧∃AL' nL' cL' lv',PS X Bp w' p pp m1 AL' nL' cL' lv' (ls++[⟨3,x.b,x.a,0,[(k:Int)]⟩]) of∧Adv (PX pp m1 AL) w (PX pp m1 AL') w'):=by
 refine Ret.mono (ok_euf_proof_turned pp (k:Int) (fun r w'=>r=(ls.length:Int)∧∃AL' nL' cL' lv',PS X Bp w' p pp m1 AL' nL' cL' lv' (ls++[⟨3,x.b,x.a,0,[(k:Int)]⟩]) of∧Adv (PX pp m1 AL) w (PX pp m1 AL') w') w ?_) (by rintro _ w' ⟨r,rfl,rfl,hk⟩;exact⟨rfl,hk⟩)
 obtain⟨hlt,a,C,kn,d,hA,hc⟩:=h.link hx
 unfold vc_euf_proof_turned
 rw[Int.toNat_natCast]
 refine⟨AL,nL,cL,h.c1,by omega,by omega,a,hA,x.b,hc 2 _ rfl,AL,nL,cL,h.c1,by omega,by omega,a,hA,x.a,hc 1 _ rfl,fun w7 hw7 p2 w1 hN1 w3 hw3=> ?_⟩
 have E3:Ext w w3:=((Ext.of_drawn hw7).new hN1).drawn hw3
 have h3:=h.ext E3
 have hst:St (fun b=>PX pp m1 AL b∨X b) w3 fun w=>Ints w (some p2) 1 [(k:Int)]:=ints_st ((Ext.of_drawn hw3).cells (hN1.cells rfl)) rfl (fun hh=>by
  have:p2.block<w.heap.size:=hh.elim (fun hh=>(h.lo _ hh).2) (h.xlo _)
  rw[hN1.block] at this
  have:=(Ext.of_drawn hw7).size
  omega)
 refine(add_is (x:=⟨3,x.b,x.a,0,[(k:Int)]⟩) (kc:=1) h3 (Nat.le_trans hB E3.size) hst (by unfold Sm;omega) hn).mono ?_
 rintro _ w2 ⟨_,rfl,rfl,AL',nL',cL',lv',h2,adv2⟩
 exact⟨_,rfl,_,rfl,fun w5 hw5=>⟨rfl,AL',nL',cL',lv',h2.ext (Ext.of_drawn hw5),(Adv.of_ext E3).trans (adv2.trans (Adv.of_drawn hw5))⟩⟩
end
def LAt (ls:List Lnk) (k x y:Int):Prop:=0≤k∧∃q,ls[k.toNat]? =some q∧q.a=x∧q.b=y
structure LinkOk (ns:List Flat) (st:List SaidR) (ls:List Lnk) (i:Nat) (l:Lnk):Prop where
 va:Vn ns.length l.a
 vb:Vn ns.length l.b
 kids:∀k∈l.kids,0≤k∧k<i
 rule:(l.kind=1∧l.kids=[]∧∃s∈st,s.not=false∧s.a=l.a∧s.b=l.b∧s.tag=l.tag)∨(l.kind=2∧l.tag=0∧l.kids=[]∧l.a=l.b)∨(l.kind=3∧l.tag=0∧∃k,l.kids=[k]∧LAt ls k l.b l.a)∨
  (l.kind=4∧l.tag=0∧∃k m x,l.kids=[k,m]∧LAt ls k l.a x∧LAt ls m x l.b)∨
  (l.kind=5∧l.tag=0∧0≤(nodeOf ns l.a).fn∧(nodeOf ns l.a).fn=(nodeOf ns l.b).fn∧(nodeOf ns l.a).args.length=(nodeOf ns l.b).args.length∧l.kids.length=(nodeOf ns l.a).args.length∧∀(j:Nat) k x y,l.kids[j]? =some k→(nodeOf ns l.a).args[j]? =some x→(nodeOf ns l.b).args[j]? =some y→LAt ls k x y)
theorem LAt.app {ls:List Lnk} {k x y:Int} (h:LAt ls k x y) (m:List Lnk):LAt (ls++m) k x y:=by
 obtain⟨h0,q,h1,h2⟩:=h
 exact⟨h0,q,by rw[List.getElem?_append_left (List.getElem?_eq_some_iff.1 h1).1];exact h1,h2⟩
theorem LAt.last (ls:List Lnk) (l:Lnk):LAt (ls++[l]) (ls.length:Int) l.a l.b:=⟨by omega,l,by simp,rfl,rfl⟩
theorem LAt.lt {ls:List Lnk} {k x y:Int} (h:LAt ls k x y):0≤k∧k<ls.length:=by
 obtain⟨h0,q,h1,h2⟩:=h
 have:=(List.getElem?_eq_some_iff.1 h1).1
 exact⟨h0,by omega⟩
theorem LinkOk.app {ns:List Flat} {st:List SaidR} {ls:List Lnk} {i:Nat} {l:Lnk} (h:LinkOk ns st ls i l) (m:List Lnk):LinkOk ns st (ls++m) i l:=by
 refine⟨h.va,h.vb,h.kids,?_⟩
 rcases h.rule with r|r|⟨r1,r2,k,r3,r4⟩|⟨r1,r2,k,q,x,r3,r4,r5⟩|⟨r1,r2,r3,r4,r5,r6,r7⟩
 ·exact .inl r
 ·exact .inr (.inl r)
 ·exact .inr (.inr (.inl ⟨r1,r2,k,r3,r4.app m⟩))
 ·exact .inr (.inr (.inr (.inl ⟨r1,r2,k,q,x,r3,r4.app m,r5.app m⟩)))
 ·exact .inr (.inr (.inr (.inr ⟨r1,r2,r3,r4,r5,r6,fun j k x y a b c=>(r7 j k x y a b c).app m⟩)))
def AllOk (ns:List Flat) (st:List SaidR) (ls:List Lnk):Prop:=∀(i:Nat) l,ls[i]? =some l→LinkOk ns st ls i l
theorem AllOk.add {ns:List Flat} {st:List SaidR} {ls:List Lnk} (h:AllOk ns st ls) {l:Lnk} (hl:LinkOk ns st ls ls.length l):AllOk ns st (ls++[l]):=by
 intro i x hx
 rcases Nat.lt_or_ge i ls.length with q|q
 ·rw[List.getElem?_append_left q] at hx
  exact(h i x hx).app _
 ·rw[List.getElem?_append_right q] at hx
  have:i=ls.length:=by
   have:=(List.getElem?_eq_some_iff.1 hx).1
   simp at this
   omega
  subst this
  simp at hx
  subst hx
  exact hl.app _
end Go.Proofs.YtbmbhfghpidggaaDoor
