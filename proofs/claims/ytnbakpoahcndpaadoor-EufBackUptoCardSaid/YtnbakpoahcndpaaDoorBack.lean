/- The law EufBack answers true at every input whose reading is of bulk at most 1048576, and the input reads as it did; the tables that it reads are tied to the program's text. Gathered by a program (pack.py) out of smaller texts. -/
import Derived.Test.YtnbakpoahcndpaaDoorBack5
import Derived.Test.YtnbakpoahcndpaaDoorRows
import Derived.WalkKit
import Derived.ProofKit
import Derived.OpenShut
import Derived.JoinedCond
import Derived.Deep.Slices
import Derived.Below
import Derived.Carry
import Derived.Lib.LaidTab
import Derived.LaidSub
import Derived.Test.YtnbakpoahcndpaaDoorCards
import Derived.Test.YtnbakpoahcndpaaDoorTie
import Derived.Deep.DeepHandedRow
set_option linter.unusedSectionVars false
namespace Go.Proofs.YtnbakpoahcndpaaDoor
set_option linter.unusedVariables false
set_option linter.unusedSimpArgs false
open Wk
def Ch (ls : List Lnk) : List Int → Int → Int → Prop
 | [], x, y => x = y
 | k :: st, x, y => ∃ z, LAt ls k x z ∧ Ch ls st z y
theorem Ch.snoc {ls : List Lnk} {k : Int} : ∀ {st : List Int} {x y z : Int}, Ch ls st x y → LAt ls k y z → Ch ls (st ++ [k]) x z
 | [], x, y, z, h, h' => ⟨z, by have : x = y := h; rw [this]; exact h', rfl⟩
 | _ :: st, x, y, z, ⟨t, h1, h2⟩, h' => ⟨t, h1, h2.snoc h'⟩
theorem Ch.app {ls : List Lnk} (m : List Lnk) : ∀ {st : List Int} {x y : Int}, Ch ls st x y → Ch (ls ++ m) st x y
 | [], x, y, h => h
 | _ :: st, x, y, ⟨t, h1, h2⟩ => ⟨t, h1.app m, Ch.app m h2⟩
theorem subA_at {A : Option Addr} {c l s b : Nat} (h : At (subA A c l s) b) : At A b := by
 unfold subA at h
 split at h
 ·exact h
 ·obtain ⟨a, ha, rfl⟩ := h
  cases A with
  | none => cases ha
  | some a0 => cases ha; exact ⟨a0, rfl, by rw [Addr.add_block]⟩
section
variable {B0 : Nat} {Bp : Nat} {ws w w' : World} {p U pp : Addr} {M N m1 : Nat} {g : GS} {A : Nat → Option Addr} {n c : Nat → Nat} {H : Nat → Prop}
structure SI (X : Nat → Prop) (Bp : Nat) (ws : World) (p pp : Addr) (m1 : Nat) (g : GS) (us : List Edge) (J : Nat) (w0 : World) (AL0 : Option Addr) (ls : List Lnk) (of : List (Int × Int)) (bs d0 : Nat) (a z : Int) (w' : World) (D : Option Addr) (k d : Nat) (st : List Int) (AL : Option Addr) (nL cL : Nat) (lv : List Value) (m : List Lnk) (of' : List (Int × Int)) : Prop where
 pt : PT (fun b => X b ∨ At D b) Bp ws p pp m1 g w' AL nL cL lv (ls ++ m) of'
 adv : Adv (PX pp m1 AL0) w0 (PX pp m1 AL) w'
 len : k = st.length
 row : Row w' bs T.int 1 D st.length d (st.map iv)
 sz : bs ≤ w'.heap.size
 ch : Ch (ls ++ m) st a z
 cnt : (ls ++ m).length + phi g us J of' ≤ ls.length + phi g us J of + d0
 mor : ∀ n, (aget of n).isSome = true → (aget of' n).isSome = true
 key : ∀ n, (aget of' n).isSome = true → (aget of n).isSome = true ∨ InJ g us J n
theorem SI.ext {X : Nat → Prop} {us : List Edge} {J bs d0 : Nat} {w0 w'' : World} {AL0 : Option Addr} {ls : List Lnk} {of : List (Int × Int)} {a z : Int} {D : Option Addr} {k d : Nat} {st : List Int} {AL : Option Addr} {nL cL : Nat} {lv : List Value} {m : List Lnk} {of' : List (Int × Int)} (h : SI X Bp ws p pp m1 g us J w0 AL0 ls of bs d0 a z w' D k d st AL nL cL lv m of') (e : Ext w' w'') : SI X Bp ws p pp m1 g us J w0 AL0 ls of bs d0 a z w'' D k d st AL nL cL lv m of' :=
 ⟨h.pt.step e, h.adv.trans (Adv.of_ext e), h.len, h.row.keep e (fun _ _ h => h), Nat.le_trans h.sz e.size, h.ch, h.cnt, h.mor, h.key⟩
theorem SI.next {X : Nat → Prop} {us : List Edge} {J bs d0 d1 : Nat} {w0 w1 : World} {AL0 : Option Addr} {ls : List Lnk} {of : List (Int × Int)} {a z y r : Int} {D : Option Addr} {k d : Nat} {st : List Int} {AL AL1 : Option Addr} {nL cL nL1 cL1 : Nat} {lv lv1 : List Value} {m m' : List Lnk} {of' of1 : List (Int × Int)} (h : SI X Bp ws p pp m1 g us J w0 AL0 ls of bs d0 a z w' D k d st AL nL cL lv m of')
  (hX : ∀ b, X b → b < bs) (hws : ws.heap.size ≤ bs) (hw0 : w0.heap.size ≤ bs) (P1 : PT (fun b => X b ∨ At D b) Bp ws p pp m1 g w1 AL1 nL1 cL1 lv1 (ls ++ m ++ m') of1) (a1 : Adv (PX pp m1 AL) w' (PX pp m1 AL1) w1) (hc : (ls ++ m ++ m').length + phi g us J of1 ≤ (ls ++ m).length + phi g us J of' + d1) (hm : ∀ n, (aget of' n).isSome = true → (aget of1 n).isSome = true) (hk : ∀ n, (aget of1 n).isSome = true → (aget of' n).isSome = true ∨ InJ g us J n) (hl : LAt (ls ++ m ++ m') r z y) (hbig : st.length + 1 ≤ 1099511627776) {q : Addr} {w2 : World} (hN : New w1 (.cells #[.int .i64 r] T.int) q w2) :
  ∃ D2 d2 w3, (Builtin.append_ #[T.sl_int, T.sl_int] T.sl_int #[.slice D k d, .slice (some q) 1 1]).run P w2 = .ok (.slice D2 (k + 1) d2) w3 ∧ SI X Bp ws p pp m1 g us J w0 AL0 ls of bs (d0 + d1) a y w3 D2 (k + 1) d2 (st ++ [r]) AL1 nL1 cL1 lv1 (m ++ m') of1 ∧ (∀ b, b < w'.heap.size → At D2 b → At D b) ∧ Keep (fun b => PX pp m1 AL b ∨ At D b) w' w3 := by
 have noD : ∀ b, At D b → ¬ PX pp m1 AL b := fun b hb => h.pt.ps.xno b (.inr hb)
 have R1 := h.row.keep a1.keep noD
 have E2 := Ext.of_new hN
 have R2 := R1.keep E2 (fun _ _ h => h)
 have s1 := a1.keep.size
 have s2 := E2.size
 have hsz := h.sz
 obtain ⟨D2, d2, w3, hr, hR, hK, hD⟩ := R2.snocI (x := r) (q := q) (hN.cells rfl) hbig (by omega)
 rw [h.len]
 have nl : (ls ++ m ++ m') = ls ++ (m ++ m') := List.append_assoc _ _ _
 have hP3 : PT (fun b => X b ∨ At D2 b) Bp ws p pp m1 g w3 AL1 nL1 cL1 lv1 (ls ++ m ++ m') of1 := (P1.step E2).far hK (fun b _ hb => .inr hb) (fun b hb => by
   rcases hb with hb | hb
   ·have := hX b hb; have := hK.size; omega
   ·exact (hR.at hb).2) (fun b hb hh => by
   rcases hh with hh | hh
   ·exact .inl hh
   ·exact .inr ((hD b hh).resolve_right (by omega))) (fun b hb hy => by have := (h.row.at hy).1; omega)
 have chn := (h.ch.app m').snoc hl
 rw [nl] at hP3 chn hc
 refine ⟨D2, d2, w3, hr, ⟨hP3, ?_, by simp, ?_, by have := hK.size; omega, chn, by have := h.cnt; omega, fun n hn => hm n (h.mor n hn), fun n hn => ?_⟩, fun b hb hh => (hD b hh).resolve_right (by omega), ?_⟩
 ·refine ⟨((h.adv.trans a1).keep.over (E2.mono fun _ _ h => h.elim) (fun i hi hh => hh)).over hK (fun i hi hh => ?_), fun i hi hh => (h.adv.trans a1).grow i hi hh⟩
  have := (h.row.at hh).1
  omega
 ·rw [List.length_append, List.length_singleton]; exact hR
 ·rcases hk n hn with q' | q'
  ·exact h.key n q'
  ·exact .inr q'
 ·exact ((a1.keep.mono fun i _ hi => .inl hi).over (E2.mono fun _ _ h => h.elim) (fun i hi hh => hh)).over hK fun i hi hh => .inr hh
theorem psame_is {W mm J LB : Nat} {us l : List Edge} (h : GRep B0 ws p U M N A n c H g) (k : GInv W mm g us l) (hB : ws.heap.size ≤ Bp) (hbig : LB + 1 ≤ 1099511627776) (he : EdgeC Bp ws p pp m1 g us LB J) : SameC Bp ws p pp m1 g us LB J := by
 intro X w AL nL cL lv ls of a b P_ va vb hc hle
 refine ok_euf_proof_same pp a b (fun r w' => Post X Bp ws p pp m1 g us J (stepL g) w AL ls of a b r w') w ?_
 have few := k.few
 have hst : stepL g = 3 * g.nodes.length + 2 := rfl
 have efd : fd g a = fd g b := (hc.mono fun u hu => List.mem_of_mem_take hu).to k.conn2
 obtain ⟨cc, cc0, u1, u2, dis, vv1, vv2⟩ := betw_spec k va vb efd
 have hidx := betw_idx k va vb hc
 have lB := nodup_len _ _ u1.nodup fun y hy => (k.forest.of_up va u1 y hy).1
 have lC := nodup_len _ _ u2.nodup fun y hy => (k.forest.of_up vb u2 y hy).1
 have lcc := List.length_pos_iff.2 cc0
 rw [List.length_append] at lB lC
 unfold vc_euf_proof_same
 refine ⟨some p, P_.ps.c0, ?_⟩
 refine (between_is (h.stay P_.ext) k va vb).mono ?_
 rintro _ w1 ⟨_, rfl, B, dB, C, dC, rfl, RB, RC, E1⟩
 generalize hup : (betw g a b).1 = up at *
 generalize hdn : (betw g a b).2 = dn at *
 have s1 := E1.size
 have wss := P_.ext.size
 have xB : ∀ b, At B b → w.heap.size ≤ b ∧ b < w1.heap.size := fun b hb => RB.at hb
 have xC : ∀ b, At C b → w.heap.size ≤ b ∧ b < w1.heap.size := fun b hb => RC.at hb
 have hX1 : ∀ b, X b → b < w1.heap.size := fun b hb => by have := P_.ps.xlo b hb; omega
 have P1 : PT (fun b => X b ∨ At none b) Bp ws p pp m1 g w1 AL nL cL lv ls of := P_.far E1 (fun _ _ h => h.elim) (fun b hb => hb.elim (hX1 b) fun hb => by obtain ⟨_, hb, _⟩ := hb; cases hb) (fun b hb hh => hh.elim id fun hh => by obtain ⟨_, hh, _⟩ := hh; cases hh) (fun _ _ h => h)
 have start : SI X Bp ws p pp m1 g us J w AL ls of w1.heap.size 0 a a w1 none 0 0 [] AL nL cL lv [] of := ⟨by rw [List.append_nil]; exact P1, Adv.of_ext E1, rfl, Row.nil _ _ _ _, Nat.le_refl _, rfl, by simp, fun _ h => h, fun _ h => .inl h⟩
 refine ⟨_, rfl, B, _, dB, C, _, dC, rfl, ?_⟩
 refine ⟨fun k1 D n' d i w' => ∃ st AL' nL' cL' lv' m of' z, k1 = up.length - i.toNat ∧ 0 ≤ i ∧ i ≤ up.length ∧ SI X Bp ws p pp m1 g us J w AL ls of w1.heap.size 0 a z w' D n' d st AL' nL' cL' lv' m of' ∧ (up ++ cc)[i.toNat]? = some z ∧ (st.length : Int) = i ∧ Row w' w.heap.size T.int 1 B up.length dB (up.map iv) ∧ Row w' w.heap.size T.int 1 C dn.length dC (dn.map iv) ∧ (∀ b, At B b ∨ At C b → ¬ PX pp m1 AL' b), ⟨_, [], AL, nL, cL, lv, [], of, a, rfl, by omega, by omega, start, by obtain ⟨t, ht⟩ := u1.head; rw [ht]; rfl, rfl, RB, RC, fun b hb hh => ?_⟩, ?_⟩
 ·have h1 := (P_.ps.lo b hh).2
  have h2 := hb.elim (xB b) (xC b)
  omega
 rintro k1 D n' d i w2 ⟨st, AL', nL', cL', lv', m, of', z, rfl, i0, i1, S, hz, hsl, RB2, RC2, noBC⟩
 have keepRow : ∀ {w3 : World} {AL2 : Option Addr} {D2 : Option Addr}, Keep (fun b => PX pp m1 AL' b ∨ At D b) w2 w3 → (∀ b, At D b → w1.heap.size ≤ b) → Row w3 w.heap.size T.int 1 B up.length dB (up.map iv) ∧ Row w3 w.heap.size T.int 1 C dn.length dC (dn.map iv) := fun hk hD =>
  ⟨RB2.keep hk (fun b hb hh => hh.elim (noBC b (.inl hb)) fun hh => by have := hD b hh; have := xB b hb; omega), RC2.keep hk (fun b hb hh => hh.elim (noBC b (.inr hb)) fun hh => by have := hD b hh; have := xC b hb; omega)⟩
 refine ⟨fun hlt => ?_, fun hge => ?_⟩
 ·have hi : i.toNat < up.length := by omega
  obtain ⟨x, hx⟩ : ∃ x, up[i.toNat]? = some x := ⟨_, List.getElem?_eq_getElem hi⟩
  obtain ⟨aB, vB, hAB, hvB, hcB, _⟩ := RB2.get i0 hlt
  rw [List.getElem?_map, hx] at hvB
  cases hvB
  have hzx : z = x := by rw [List.getElem?_append_left hi, hx] at hz; cases hz; rfl
  subst hzx
  obtain ⟨vz, tz⟩ := vv1 z (List.mem_of_getElem? hx)
  obtain ⟨j, _, hat⟩ := at_ex k vz tz
  have hj := hidx z (.inl (List.mem_of_getElem? hx)) j hat
  have hnext : (up ++ cc)[i.toNat + 1]? = some (edgeAt g.why z).to := by
   rcases up_get u1 hz with ⟨q, _⟩ | ⟨_, q⟩
   ·omega
   ·exact q
  refine ⟨i0, hlt, aB, hAB, z, hcB, (he _ w2 AL' nL' cL' lv' (ls ++ m) of' z j S.pt vz tz hat hj (by have := S.cnt; omega)).mono ?_⟩
  rintro _ w3 ⟨_, rfl, r, rfl, AL3, nL3, cL3, lv3, m3, of3, P3, a3, c3, mo3, ke3, la3⟩
  refine ⟨_, rfl, r, rfl, fun p2 w4 hN4 => ?_⟩
  obtain ⟨D2, d2, w5, hr5, S5, hD5, K5⟩ := S.next hX1 (by omega) (by omega) P3 a3 (d1 := 0) c3 mo3 ke3 la3 (by omega) hN4
  refine ⟨D2, _, d2, w5, hr5, up.length - (i.toNat + 1), by omega, ?_⟩
  rw [step_le (n := up.length) i0 hlt (by unfold Sm; omega)]
  obtain ⟨RB5, RC5⟩ := keepRow (AL2 := AL3) (D2 := D2) K5 (fun b hb => (S.row.at hb).1)
  refine ⟨st ++ [r], AL3, nL3, cL3, lv3, m ++ m3, of3, _, by omega, by omega, by omega, S5, by rw [show (i + 1).toNat = i.toNat + 1 by omega]; exact hnext, by rw [List.length_append, List.length_singleton]; omega, RB5, RC5, fun b hb hh => ?_⟩
  have hb1 := hb.elim (xB b) (xC b)
  have := S.sz
  exact noBC b hb (a3.grow b (by omega) hh)
 ·have hi : i.toNat = up.length := by omega
  have hz0 : (dn ++ cc)[dn.length - 0]? = some z := by
   rw [hi, List.getElem?_append_right (Nat.le_refl _), Nat.sub_self] at hz
   rw [Nat.sub_zero, List.getElem?_append_right (Nat.le_refl _), Nat.sub_self]
   exact hz
  have hsl0 : st.length ≤ up.length := by omega
  refine ⟨fun k3 D n' d i w' => ∃ st AL' nL' cL' lv' m of' z, k3 = dn.length - i.toNat ∧ 0 ≤ i ∧ i ≤ dn.length ∧ SI X Bp ws p pp m1 g us J w AL ls of w1.heap.size i.toNat a z w' D n' d st AL' nL' cL' lv' m of' ∧ (dn ++ cc)[dn.length - i.toNat]? = some z ∧ (st.length : Int) ≤ up.length + i ∧ (st.length = 0 → up.length = 0 ∧ i = 0) ∧ Row w' w.heap.size T.int 1 C dn.length dC (dn.map iv) ∧ (∀ b, At C b → ¬ PX pp m1 AL' b), ⟨_, st, AL', nL', cL', lv', m, of', z, rfl, by omega, by omega, S, hz0, by omega, fun q => ⟨by omega, rfl⟩, RC2, fun b hb => noBC b (.inr hb)⟩, ?_⟩
  clear hz hsl RB2 RC2 noBC keepRow S hz0 hsl0
  rintro k3 D3 n3 d3 i w3 ⟨st, AL', nL', cL', lv', m, of', z, rfl, i0, i1, S, hz, hsl, hs0, RC3, noC⟩
  refine ⟨fun hlt => ?_, fun hge => ?_⟩
  ·have hi : i.toNat < dn.length := by omega
   have ew : IntKind.wrap .i64 ((IntKind.wrap .i64 ((dn.length : Int) - 1)) - i) = ((dn.length - 1 - i.toNat : Nat) : Int) := by
    rw [wrap_small (i := (dn.length : Int) - 1) (by omega) (by omega), wrap_small (by omega) (by omega)]
    omega
   rw [ew, Int.toNat_natCast]
   obtain ⟨x, hx⟩ : ∃ x, dn[dn.length - 1 - i.toNat]? = some x := ⟨_, List.getElem?_eq_getElem (by omega)⟩
   obtain ⟨aC, vC, hAC, hvC, hcC, _⟩ := RC3.get (i := ((dn.length - 1 - i.toNat : Nat) : Int)) (by omega) (by omega)
   rw [Int.toNat_natCast, List.getElem?_map, hx] at hvC
   cases hvC
   rw [Int.toNat_natCast] at hcC
   obtain ⟨vx, tx⟩ := vv2 x (List.mem_of_getElem? hx)
   obtain ⟨j, _, hat⟩ := at_ex k vx tx
   have hj := hidx x (.inr (List.mem_of_getElem? hx)) j hat
   have hx' : (dn ++ cc)[dn.length - 1 - i.toNat]? = some x := by rw [List.getElem?_append_left (by omega)]; exact hx
   have hnext : (edgeAt g.why x).to = z := by
    rcases up_get u2 hx' with ⟨q, _⟩ | ⟨_, q⟩
    ·omega
    ·rw [show dn.length - 1 - i.toNat + 1 = dn.length - i.toNat by omega, hz] at q
     exact (Option.some.inj q).symm
   refine ⟨by omega, by omega, aC, hAC, x, hcC, (he _ w3 AL' nL' cL' lv' (ls ++ m) of' x j S.pt vx tx hat hj (by have := S.cnt; omega)).mono ?_⟩
   rintro _ w4 ⟨_, rfl, r, rfl, AL4, nL4, cL4, lv4, m4, of4, P4, a4, c4, mo4, ke4, la4⟩
   rw [hnext] at la4
   obtain ⟨r0, qq, hqq, qa, qb⟩ := la4
   have hcnt := S.cnt
   have hr' : r = ((r.toNat : Nat) : Int) := by omega
   have turn := turned_is (k := r.toNat) P4.ps P4.base hqq (by omega)
   rw [← hr'] at turn
   refine ⟨_, rfl, r, rfl, turn.mono ?_⟩
   rintro _ w5 ⟨_, rfl, rfl, AL5, nL5, cL5, lv5, p5, a5⟩
   have lok : LinkOk g.nodes g.stand (ls ++ m ++ m4) (ls ++ m ++ m4).length ⟨3, qq.b, qq.a, 0, [r]⟩ := by
    have hr2 := (List.getElem?_eq_some_iff.1 hqq).1
    refine ⟨?_, ?_, fun kk hk => ?_, .inr (.inr (.inl ⟨rfl, rfl, r, rfl, r0, qq, hqq, rfl, rfl⟩))⟩
    ·show Vn _ qq.b
     rw [qb]
     exact (k.forest.of_up vb u2 z (List.mem_of_getElem? hz)).1
    ·show Vn _ qq.a
     rw [qa]; exact vx
    ·simp only [List.mem_singleton] at hk
     subst hk
     omega
   have P5 := P4.add p5 a5 lok (P4.lo hB)
   refine ⟨_, rfl, _, rfl, fun p6 w6 hN6 => ?_⟩
   have la5 : LAt (ls ++ m ++ (m4 ++ [⟨3, qq.b, qq.a, 0, [r]⟩])) ((ls ++ m ++ m4).length : Int) z x := by
    have := LAt.last (ls ++ m ++ m4) ⟨3, qq.b, qq.a, 0, [r]⟩
    simp only at this
    rw [qa, qb] at this
    rw [← List.append_assoc (ls ++ m)]
    rw [qa, qb]
    exact this
   obtain ⟨D2, d2, w7, hr7, S7, hD7, K7⟩ := S.next (m' := m4 ++ [⟨3, qq.b, qq.a, 0, [r]⟩]) (d1 := 1) hX1 (by omega) (by omega) (by rw [← List.append_assoc]; exact P5) (a4.trans a5) (by rw [← List.append_assoc, List.length_append, List.length_singleton]; omega) mo4 ke4 la5 (by omega) hN6
   refine ⟨D2, _, d2, w7, hr7, dn.length - (i.toNat + 1), by omega, ?_⟩
   rw [step_le (n := dn.length) i0 hlt (by unfold Sm; omega)]
   have in1 : (i + 1).toNat = i.toNat + 1 := by omega
   refine ⟨st ++ [((ls ++ m ++ m4).length : Int)], AL5, nL5, cL5, lv5, m ++ (m4 ++ [⟨3, qq.b, qq.a, 0, [r]⟩]), of4, x, by omega, by omega, by omega, by rw [in1]; exact S7, by rw [in1, show dn.length - (i.toNat + 1) = dn.length - 1 - i.toNat by omega]; exact hx', by rw [List.length_append, List.length_singleton]; omega, fun q => by simp at q, RC3.keep K7 (fun b hb hh => hh.elim (noC b hb) fun hh => ?_), fun b hb hh => ?_⟩
   ·have h1 := (S.row.at hh).1
    have h2 := xC b hb
    omega
   ·have h2 := xC b hb
    have := S.sz
    exact noC b hb ((a4.trans a5).grow b (by omega) hh)
  ·have hi : i.toNat = dn.length := by omega
   have hzb : z = b := by
    rw [hi, Nat.sub_self] at hz
    obtain ⟨t, ht⟩ := u2.head
    rw [ht] at hz
    simpa using hz.symm
   subst hzb
   have hcnt := S.cnt
   have hlen := S.len
   refine ⟨fun h0 => ?_, fun h0 => ?_⟩
   ·have st0 : st = [] := List.length_eq_zero_iff.1 (by omega)
    subst st0
    have eab : a = z := S.ch
    have PX0 : PT X Bp ws p pp m1 g w3 AL' nL' cL' lv' (ls ++ m) of' := S.pt.far (Keep.refl (fun _ => False) w3) (fun _ _ h => h.elim) (fun b hb => S.pt.ps.xlo b (.inl hb)) (fun b _ hb => .inl hb) (fun _ _ h => h)
    refine (add_is (x := ⟨2, a, z, 0, []⟩) (kc := 0) PX0.ps PX0.base (fun w' _ => ⟨rfl, fun i x hx => by simp at hx⟩) (Nat.zero_le _) (by omega)).mono ?_
    rintro _ w4 ⟨_, rfl, rfl, AL4, nL4, cL4, lv4, p4, a4⟩
    have lok : LinkOk g.nodes g.stand (ls ++ m) (ls ++ m).length ⟨2, a, z, 0, []⟩ := ⟨va, vb, fun kk hk => by simp at hk, .inr (.inl ⟨rfl, rfl, rfl, eab⟩)⟩
    have P4 := PX0.add p4 a4 lok (PX0.lo hB)
    refine ⟨_, rfl, _, rfl, AL4, nL4, cL4, lv4, m ++ [⟨2, a, z, 0, []⟩], of', by rw [← List.append_assoc]; exact P4, S.adv.trans a4, ?_, S.mor, S.key, ?_⟩
    ·rw [← List.append_assoc, List.length_append, List.length_singleton]; omega
    ·rw [← List.append_assoc]; exact LAt.last (ls ++ m) ⟨2, a, z, 0, []⟩
   ·obtain ⟨s0, st', rfl⟩ : ∃ s0 st', st = s0 :: st' := by
     cases st with
     | nil => simp at hlen; omega
     | cons x st => exact ⟨x, st, rfl⟩
    have hn3 : n3 = st'.length + 1 := by rw [hlen]; rfl
    obtain ⟨a3, v3, hA3, hv3, hc3, _⟩ := S.row.get (i := (0 : Int)) (by omega) (by rw [List.length_cons]; omega)
    simp at hv3
    subst hv3
    have hT := S.row.tail (i := 1) (by simp)
    have eT : ((s0 :: st').map iv).drop (1 * 1) = st'.map iv := rfl
    rw [eT] at hT
    have e1 : (1 : Int).toNat = 1 := rfl
    refine ⟨by omega, by omega, a3, hA3, s0, hc3, by omega, by omega, ?_⟩
    rw [e1, hn3, Nat.add_sub_cancel]
    obtain ⟨z1, hz1, hch⟩ := S.ch
    refine ⟨fun k5 x i' w' => ∃ AL'' nL'' cL'' lv'' m' y, k5 = st'.length - i'.toNat ∧ 0 ≤ i' ∧ i' ≤ st'.length ∧ PT (fun b => X b ∨ At D3 b) Bp ws p pp m1 g w' AL'' nL'' cL'' lv'' (ls ++ m ++ m') of' ∧ Adv (PX pp m1 AL') w3 (PX pp m1 AL'') w' ∧ (m'.length : Int) = i' ∧ LAt (ls ++ m ++ m') x a y ∧ Ch (ls ++ m ++ m') (st'.drop i'.toNat) y z, ⟨_, AL', nL', cL', lv', [], z1, rfl, by omega, by omega, by rw [List.append_nil]; exact S.pt, Adv.refl _ _, rfl, by rw [List.append_nil]; exact hz1, by rw [List.append_nil]; exact hch⟩, ?_⟩
    rintro k5 x i' w4 ⟨AL4, nL4, cL4, lv4, m', y, rfl, j0, j1, P4, a4, hm', hx4, hc4⟩
    have noD : ∀ b, At D3 b → ¬ PX pp m1 AL' b := fun b hb => S.pt.ps.xno b (.inr hb)
    have slen := S.cnt
    have hmt : (ls ++ m ++ m').length = (ls ++ m).length + m'.length := List.length_append
    have hs5 : st'.length + 1 ≤ up.length + dn.length := by simp only [List.length_cons] at hsl; omega
    refine ⟨fun hlt => ?_, fun hge' => ?_⟩
    ·have hi' : i'.toNat < st'.length := by omega
     have T4 := (hT.keep a4.keep (fun b hb => noD b (subA_at hb)))
     obtain ⟨a5, v5, hA5, hv5, hc5, _⟩ := T4.get (i := i') j0 (by simp; omega)
     obtain ⟨s, hs⟩ : ∃ s, st'[i'.toNat]? = some s := ⟨_, List.getElem?_eq_getElem hi'⟩
     rw [List.getElem?_map, hs] at hv5
     cases hv5
     have hdrop : st'.drop i'.toNat = s :: st'.drop (i'.toNat + 1) := by
      rw [List.drop_eq_getElem_cons hi']
      congr 1
      exact (List.getElem?_eq_some_iff.1 hs).2
     rw [hdrop] at hc4
     obtain ⟨y2, hy2, hc5'⟩ := hc4
     obtain ⟨x0, q1, hq1, q1a, q1b⟩ := hx4
     obtain ⟨s00, q2, hq2, q2a, q2b⟩ := hy2
     obtain ⟨lt1, al1, C1, k1', d1', hal1, hcl1⟩ := P4.ps.link hq1
     obtain ⟨lt2, al2, C2, k2', d2', hal2, hcl2⟩ := P4.ps.link hq2
     refine ⟨j0, hlt, a5, hA5, s, hc5, AL4, nL4, cL4, P4.ps.c1, x0, by omega, al1, hal1, q1.a, hcl1 1 _ rfl, AL4, nL4, cL4, P4.ps.c1, s00, by omega, al2, hal2, q2.b, hcl2 2 _ rfl, fun w19 hw19 p4 w13 hN13 w15 hw15 => ?_⟩
     have E15 : Ext w4 w15 := ((Ext.of_drawn hw19).new hN13).drawn hw15
     have P15 := P4.step E15
     have hst : St (fun b => PX pp m1 AL4 b ∨ (X b ∨ At D3 b)) w15 fun w => Ints w (some p4) 2 [x, s] := ints_st ((Ext.of_drawn hw15).cells (hN13.cells rfl)) rfl (fun hh => by
      have hlt : p4.block < w4.heap.size := hh.elim (fun hh => (P4.ps.lo _ hh).2) (P4.ps.xlo _)
      rw [hN13.block] at hlt
      have := (Ext.of_drawn hw19).size
      omega)
     refine (add_is (x := ⟨4, q1.a, q2.b, 0, [x, s]⟩) (kc := 2) P15.ps P15.base hst (by unfold Sm; omega) (by omega)).mono ?_
     rintro _ w14 ⟨_, rfl, rfl, AL6, nL6, cL6, lv6, p6, a6⟩
     have l1 := (List.getElem?_eq_some_iff.1 hq1).1
     have l2 := (List.getElem?_eq_some_iff.1 hq2).1
     have hok2 := P4.ok _ q2 hq2
     have hok1 := P4.ok _ q1 hq1
     have lok : LinkOk g.nodes g.stand (ls ++ m ++ m') (ls ++ m ++ m').length ⟨4, q1.a, q2.b, 0, [x, s]⟩ := by
      refine ⟨hok1.va, hok2.vb, fun kk hk => ?_, .inr (.inr (.inr (.inl ⟨rfl, rfl, x, s, y, rfl, ⟨x0, q1, hq1, rfl, q1b⟩, ⟨s00, q2, hq2, q2a, rfl⟩⟩)))⟩
      simp only [List.mem_cons, List.not_mem_nil, or_false] at hk
      rcases hk with rfl | rfl <;> omega
     have P6 := P15.add p6 a6 lok (P15.lo hB)
     refine ⟨_, rfl, _, rfl, fun w17 hw17 => ⟨st'.length - (i'.toNat + 1), by omega, ?_⟩⟩
     rw [step_le (n := st'.length) j0 hlt (by unfold Sm; omega)]
     refine ⟨AL6, nL6, cL6, lv6, m' ++ [⟨4, q1.a, q2.b, 0, [x, s]⟩], y2, by omega, by omega, by omega, by rw [← List.append_assoc]; exact P6.step (Ext.of_drawn hw17), a4.trans ((Adv.of_ext E15).trans (a6.trans (Adv.of_drawn hw17))), by rw [List.length_append, List.length_singleton]; omega, ?_, ?_⟩
     ·rw [← List.append_assoc]
      have := LAt.last (ls ++ m ++ m') ⟨4, q1.a, q2.b, 0, [x, s]⟩
      simp only at this
      rw [q1a, q2b] at this
      rw [q1a, q2b]
      exact this
     ·rw [← List.append_assoc, show (i' + 1).toNat = i'.toNat + 1 by omega]
      exact hc5'.app _
    ·have hi' : i'.toNat = st'.length := by omega
     rw [hi', List.drop_length] at hc4
     have hyz : y = z := hc4
     subst hyz
     have PXf : PT X Bp ws p pp m1 g w4 AL4 nL4 cL4 lv4 (ls ++ m ++ m') of' := P4.far (Keep.refl (fun _ => False) w4) (fun _ _ h => h.elim) (fun b hb => P4.ps.xlo b (.inl hb)) (fun b _ hb => .inl hb) (fun _ _ h => h)
     refine ⟨AL4, nL4, cL4, lv4, m ++ m', of', by rw [← List.append_assoc]; exact PXf, S.adv.trans a4, ?_, S.mor, S.key, by rw [← List.append_assoc]; exact hx4⟩
     rw [← List.append_assoc]
     omega
end
end Go.Proofs.YtnbakpoahcndpaaDoor
namespace Go.Proofs.YtnbakpoahcndpaaDoor
set_option linter.unusedVariables false
set_option linter.unusedSimpArgs false
open Wk
section
variable {B0 : Nat} {Bp : Nat} {ws w w' : World} {p U pp : Addr} {M N m1 : Nat} {g : GS} {A : Nat → Option Addr} {n c : Nat → Nat} {H : Nat → Prop}
theorem same_all {W mm LB : Nat} {us l : List Edge} (h : GRep B0 ws p U M N A n c H g) (k : GInv W mm g us l) (s : Sem g us g.stand) (hB : ws.heap.size ≤ Bp) (hbig : LB + 1 ≤ 1099511627776) : ∀ J, SameC Bp ws p pp m1 g us LB J := by
 intro J
 induction J using Nat.strongRecOn with
 | ind J ih => exact psame_is h k hB hbig (edge_is h k s hB hbig ih)
theorem phi_top {W : Nat} {us : List Edge} {J : Nat} (hwd : wsum g.nodes g.nodes.length ≤ W) (hr : g.nodes.length * (W + 2) + 1 ≤ 300000000000) (hN : g.nodes.length ≤ 1048576) (hW : W ≤ 1048576) : phi g us J [] + stepL g + 1 ≤ 1099511627775 := by
 have h1 : phi g us J [] ≤ ((List.range g.nodes.length).map (costL g)).sum := sum_le_map _ _ _ fun x _ => phiT_le
 have h2 : ∀ k, k ≤ g.nodes.length → ((List.range k).map (costL g)).sum = 2 * k + stepL g * wsum g.nodes k := by
  intro k
  induction k with
  | zero => intro _; simp [wsum]
  | succ k ih =>
   intro hk
   have ih' := ih (by omega)
   have hx : g.nodes[k]? = some (nodeOf g.nodes (k : Int)) := by unfold nodeOf; rw [Int.toNat_natCast]; exact getD_some (by omega)
   rw [List.range_succ, List.map_append, List.sum_append, ih', wsum_succ hx, Nat.mul_add (stepL g)]
   simp only [List.map_cons, List.map_nil, List.sum_cons, List.sum_nil, costL]
   omega
 have h3 := h2 g.nodes.length (Nat.le_refl _)
 have h4 : stepL g * wsum g.nodes g.nodes.length ≤ stepL g * W := Nat.mul_le_mul_left _ hwd
 have h5 : stepL g * W = 3 * (g.nodes.length * W) + 2 * W := by unfold stepL; rw [Nat.add_mul, Nat.mul_assoc]
 have h6 : g.nodes.length * (W + 2) = g.nodes.length * W + g.nodes.length * 2 := Nat.mul_add _ _ _
 have h7 : stepL g = 3 * g.nodes.length + 2 := rfl
 omega
theorem prove_is {C W : Nat} {us : List Edge} {a b : Int} (h : GRep B0 w p U M N A n c H g) (hl : GLive C W g us) (wd : Wide W g) (tight : g.nodes.length * (W + 2) + 1 ≤ 300000000000) :
  Calls P F.euf_Graph_Prove #[.pointer (some p), .int .i64 a, .int .i64 b] w (Ret fun v w' => ∃ B m d e, v = .tuple #[.slice B m d, .int .i64 e] ∧ Ext w w' ∧ ((¬ There g a b ∧ e = 80 ∧ m = 0) ∨ (There g a b ∧ ¬ SameBy g.nodes g.stand a b ∧ e = 82 ∧ m = 0) ∨
   (There g a b ∧ SameBy g.nodes g.stand a b ∧ e = 0 ∧ ∃ ls lv, m = ls.length ∧ ls.length ≤ 1099511627776 ∧ Row w' w.heap.size T.api_Link 5 B ls.length d lv ∧ St (At B) w' (fun w => SlV cLink w lv ls) ∧ AllOk g.nodes g.stand ls ∧ ∃ last, ls[ls.length - 1]? = some last ∧ last.a = a ∧ last.b = b))) := by
 refine Ret.mono (ok_euf_Graph_Prove p a b (fun B m d e w' => Ext w w' ∧ ((¬ There g a b ∧ e = 80 ∧ m = 0) ∨ (There g a b ∧ ¬ SameBy g.nodes g.stand a b ∧ e = 82 ∧ m = 0) ∨
   (There g a b ∧ SameBy g.nodes g.stand a b ∧ e = 0 ∧ ∃ ls lv, m = ls.length ∧ ls.length ≤ 1099511627776 ∧ Row w' w.heap.size T.api_Link 5 B ls.length d lv ∧ St (At B) w' (fun w => SlV cLink w lv ls) ∧ AllOk g.nodes g.stand ls ∧ ∃ last, ls[ls.length - 1]? = some last ∧ last.a = a ∧ last.b = b))) w ?_) (by rintro _ w' ⟨B, m, d, e, rfl, hk⟩; exact ⟨B, m, d, e, rfl, hk⟩)
 unfold vc_euf_Graph_Prove
 refine (there_is h a b).mono ?_
 rintro _ w1 ⟨_, rfl, r, rfl, hr, rfl⟩
 refine ⟨_, rfl, r, rfl, fun hn => ⟨Ext.refl _, .inl ⟨fun ht => ?_, rfl, rfl⟩⟩, fun hn => ?_⟩
 ·rw [hr.2 ht] at hn; cases hn
 have ht : There g a b := hr.1 (by cases r <;> simp at hn ⊢)
 have va : Vn g.nodes.length a := ⟨ht.1, ht.2.2.1⟩
 have vb : Vn g.nodes.length b := ⟨ht.2.1, ht.2.2.2⟩
 rw [add0]
 refine ⟨fd g a, fun w' hw' => find_is (h.stay (Ext.of_drawn hw')) va.1 (vn_some (d := -1) hl.inv.cls.lfirst va), fd g b, fun w' hw' => find_is (h.stay (Ext.of_drawn hw')) vb.1 (vn_some (d := -1) hl.inv.cls.lfirst vb), fun w2 hw2 => ⟨fun hne => ⟨Ext.of_drawn hw2, .inr (.inl ⟨ht, fun q => hne ((Gr.same_iff hl va vb).2 q), rfl, rfl⟩)⟩, fun heq m1 w3 hM3 p2 w4 hN4 => ?_⟩⟩
 have heq' : fd g a = fd g b := Decidable.not_not.1 heq
 have E3 : Ext w2 w3 := (Ext.refl w2).newm hM3
 have E4 : Ext w3 w4 := Ext.of_new hN4
 have E24 : Ext w2 w4 := E3.trans E4
 have E14 := (Ext.of_drawn hw2).trans E24
 have hm1 := hM3.at_
 have hp2 := hN4.block
 have z3 : w3.heap.size = w2.heap.size + 1 := by rw [hM3.is]; simp
 have z4 := hN4.size
 have few := hl.inv.few
 have hphi := phi_top (us := us) (J := us.length) wd.wide tight few hl.bd.wfew
 have m4 : MapIs (Value.int .i64) iv w4 m1 ([] : List (Int × Int)) := (MapIs.new hM3).keep E4 (fun h => h)
 have cells := hN4.cells rfl
 have soft := hN4.soft rfl
 have ps : PS (fun _ => False) w2.heap.size w4 p p2 m1 none 0 0 [] [] [] := by
  refine ⟨cells 0 _ rfl, cells 1 _ rfl, (soft 1 (show 1 < 3 by decide)).2, cells 2 _ rfl, Row.nil _ _ _ _, fun w' _ => SlV.nil _ _, m4, fun hh => ?_, fun hh => ?_, by omega, by omega, by omega, by omega, fun _ h => h.elim, fun _ h => h.elim⟩
  ·obtain ⟨_, hh, _⟩ := hh; cases hh
  ·obtain ⟨_, hh, _⟩ := hh; cases hh
 have pt : PT (fun _ => False) w2.heap.size w2 p p2 m1 g w4 none 0 0 [] [] [] := ⟨ps, fun i l hl => by simp at hl, ⟨fun n k hk => by simp [aget] at hk⟩, E24, E24.size⟩
 have hconn : Conn (us.take us.length) a b := by rw [List.take_length]; exact hl.inv.conn1 a b va vb heq'
 refine (same_all (h.stay (Ext.of_drawn hw2)) hl.inv hl.sem (Nat.le_refl _) (LB := 1099511627775) (by omega) us.length _ w4 none 0 0 [] [] [] a b pt va vb hconn (by simp only [List.length_nil]; omega)).mono ?_
 rintro _ w5 ⟨_, rfl, k, rfl, AL, nL, cL, lv, m, of', P5, a5, c5, _, _, lat⟩
 rw [List.nil_append] at P5 lat c5
 have hlt := lat.lt
 obtain ⟨k0, q, hq, qa, qb⟩ := lat
 have hlen := P5.ps.len
 have hcap := P5.ps.row.le
 simp only [List.length_nil] at c5
 have ew : IntKind.wrap .i64 (k + 1) = k + 1 := wrap_small (by omega) (by omega)
 have E5 : Ext w1 w5 := (Ext.of_drawn hw2).trans P5.ext
 refine ⟨_, rfl, k, rfl, AL, nL, cL, P5.ps.c1, ?_⟩
 rw [ew]
 refine ⟨by omega, by omega, E5, .inr (.inr ⟨ht, (Gr.same_iff hl va vb).1 heq', rfl, m.take (k + 1).toNat, lv.take ((k + 1).toNat * 5), by rw [List.length_take]; omega, by rw [List.length_take]; omega, ?_, ?_, ?_, q, ?_, qa, qb⟩)⟩
 ·have lt : (m.take (k + 1).toNat).length = (k + 1).toNat := by rw [List.length_take]; omega
  rw [lt]
  have := P5.ps.row.cut (m := (k + 1).toNat) (d := cL) (by omega) (by omega) (Nat.le_refl _)
  exact this.rebase (by rw [hw2.heap]; exact Nat.le_refl _)
 ·intro w6 hw6
  have := P5.ps.sl w6 (hw6.mono fun i _ hi => .inl (.inr (.inr hi)))
  refine ⟨?_, fun i x hx => ?_⟩
  ·have h1 := this.1
   rw [List.length_take, List.length_take]
   have e5 : cLink.size = 5 := rfl
   rw [e5] at h1 ⊢
   omega
  ·rw [List.getElem?_take] at hx
   split at hx
   ·rename_i hi
    have h2 := this.2 i x hx
    have e5 : cLink.size = 5 := rfl
    rw [e5] at h2 ⊢
    have : ((lv.take ((k + 1).toNat * 5)).drop (i * 5)).take 5 = (lv.drop (i * 5)).take 5 := by
     rw [List.drop_take, List.take_take, Nat.min_eq_left (by omega)]
    rw [this]
    exact h2
   ·cases hx
 ·intro i l' hl'
  rw [List.getElem?_take] at hl'
  split at hl'
  ·rename_i hi
   have ok := P5.ok i l' hl'
   have cutAt : ∀ {kk x y : Int}, kk < i → LAt m kk x y → LAt (m.take (k + 1).toNat) kk x y := fun {kk x y} hk ⟨h0, q, h1, h2⟩ => ⟨h0, q, by rw [List.getElem?_take, if_pos (by omega)]; exact h1, h2⟩
   refine ⟨ok.va, ok.vb, ok.kids, ?_⟩
   rcases ok.rule with r | r | ⟨r1, r2, kk, r3, r4⟩ | ⟨r1, r2, kk, qq, x, r3, r4, r5⟩ | ⟨r1, r2, r3, r4, r5, r6, r7⟩
   ·exact .inl r
   ·exact .inr (.inl r)
   ·exact .inr (.inr (.inl ⟨r1, r2, kk, r3, cutAt (ok.kids kk (by rw [r3]; simp)).2 r4⟩))
   ·exact .inr (.inr (.inr (.inl ⟨r1, r2, kk, qq, x, r3, cutAt (ok.kids kk (by rw [r3]; simp)).2 r4, cutAt (ok.kids qq (by rw [r3]; simp)).2 r5⟩)))
   ·exact .inr (.inr (.inr (.inr ⟨r1, r2, r3, r4, r5, r6, fun j kk x y h1 h2 h3 => cutAt (ok.kids kk (List.mem_of_getElem? h1)).2 (r7 j kk x y h1 h2 h3)⟩)))
  ·cases hl'
 ·rw [List.length_take, Nat.min_eq_left (by omega), List.getElem?_take, if_pos (by omega)]
  rw [show (k + 1).toNat - 1 = k.toNat by omega]
  exact hq
end
end Go.Proofs.YtnbakpoahcndpaaDoor
namespace Go.Proofs.YtnbakpoahcndpaaDoor
set_option linter.unusedVariables false
set_option linter.unusedSimpArgs false
set_option maxHeartbeats 2000000
set_option maxRecDepth 20000
open Wk
def vc_arbiterlaw13_no (x1 : Int) (K : Int → World → Prop) (w : World) : Prop :=
 K x1 w
theorem ok_arbiterlaw13_no (x1 : Int) (K : Int → World → Prop) (w : World) (H : vc_arbiterlaw13_no x1 K w) : Calls P F.arbiterlaw13_no #[(.int .i64 x1)] w (Ret fun v w' => ∃ x2, v = (.int .i64 x2) ∧ K x2 w') := by
 unfold vc_arbiterlaw13_no at H; exact calls_of (P := P) Tryd.func14 rfl [(0, (.int .i64 x1))] 4 rfl rfl (fun p hp => by rcases List.mem_singleton.1 hp with rfl; rfl) (cw_seq (cw_region (ag rfl (sl_nil (nc (kp 0 rfl zz) (cw_seq (cw_region (mv rfl (ag rfl (sl_nil (nc (kp 2 rfl zz) (cw_ret (nx_body_ret (res1 rfl rfl) ⟨_, rfl, _, rfl, H⟩)))))))))))))
def vc_arbiterlaw13_sound_J1 (K : Bool → World → Prop) (w : World) (k2 : Nat) (I2 : Nat → Int → Prop) (x2 : Int) (b2 : Bool) : Prop :=
 (b2 = true → (K false w)) ∧ (b2 = false → (∃ k3, k3 < k2 ∧ I2 k3 (IntKind.wrap .i64 (x2 + 1))))
def vc_arbiterlaw13_sound (A1 : Option Addr) (n1 c1 : Nat) (K : Bool → World → Prop) (w : World) : Prop :=
 ∃ I1 : Nat → Int → Prop, (∃ k1, I1 k1 0) ∧ ∀ k1 (x1 : Int), I1 k1 x1 → ((x1 < (n1 : Int) → (∃ I2 : Nat → Int → Prop, (∃ k2, I2 k2 0) ∧ ∀ k2 (x2 : Int), I2 k2 x2 → (0 ≤ x1 ∧ x1 < (n1 : Int) ∧ ∃ a1, A1 = some a1 ∧ ∃ A2 n2 c2, w.cell? ((a1.add (x1.toNat * 2)).add 1) = some (.slice A2 n2 c2) ∧ (x2 < (n2 : Int) → (0 ≤ x1 ∧ x1 < (n1 : Int) ∧ ∃ a2, A1 = some a2 ∧ ∃ A3 n3 c3, w.cell? ((a2.add (x1.toNat * 2)).add 1) = some (.slice A3 n3 c3) ∧ 0 ≤ x2 ∧ x2 < (n3 : Int) ∧ ∃ a3, A3 = some a3 ∧ ∃ x3, w.cell? (a3.add (x2.toNat * 1)) = some (.int .i64 x3) ∧ (x3 < 0 → ((vc_arbiterlaw13_sound_J1 K w k2 I2 x2) true)) ∧ (¬ (x3 < 0) → (0 ≤ x1 ∧ x1 < (n1 : Int) ∧ ∃ a4, A1 = some a4 ∧ ∃ A4 n4 c4, w.cell? ((a4.add (x1.toNat * 2)).add 1) = some (.slice A4 n4 c4) ∧ 0 ≤ x2 ∧ x2 < (n4 : Int) ∧ ∃ a5, A4 = some a5 ∧ ∃ x4, w.cell? (a5.add (x2.toNat * 1)) = some (.int .i64 x4) ∧ (vc_arbiterlaw13_sound_J1 K w k2 I2 x2) (decide (x1 ≤ x4)))))) ∧ (¬ (x2 < (n2 : Int)) → (∃ k4, k4 < k1 ∧ I1 k4 (IntKind.wrap .i64 (x1 + 1))))))) ∧ (¬ (x1 < (n1 : Int)) → (K true w)))
theorem ok_arbiterlaw13_sound (A1 : Option Addr) (n1 c1 : Nat) (K : Bool → World → Prop) (w : World) (H : vc_arbiterlaw13_sound A1 n1 c1 K w) : Calls P F.arbiterlaw13_sound #[(.slice A1 n1 c1)] w (Ret fun v w' => ∃ b1, v = (.bool b1) ∧ K b1 w') := by
 unfold vc_arbiterlaw13_sound at H; refine calls_of (P := P) Tryd.func8 rfl [(0, (.slice A1 n1 c1))] 42 rfl rfl (fun p hp => by rcases List.mem_singleton.1 hp with rfl; rfl) (cw_seq (cw_region (ag rfl (sl_nil (nc (kp 0 rfl zz) (cw_seq (cw_seq (cw_region (ag rfl (sl_nil (nc (kp 0 rfl (kp 3 rfl zz)) (cw_block ?_)))))))))))); obtain ⟨I1, ⟨k1, hi⟩, H⟩ := H; refine cw_loop_still (fun k1 a => ∃ x1, Ok 42 [(0, (.slice A1 n1 c1)), (3, (.int .i64 x1))] a ∧ I1 k1 x1) (fun a ha => ⟨k1, 0, ha.weaken (sub.cons rfl (sub.cons rfl (sub.nil))), hi⟩) ?_; rintro k1 a ⟨x1, ha, hI⟩; replace H := H k1 x1 hI; refine (?_ : CW _ _ _ 42 [(0, (.slice A1 n1 c1)), (3, (.int .i64 x1))] _) a ha; refine cw_seq (cw_seq (cw_region (mv rfl (mv rfl (sv rfl rfl (fun a ha => x_builtin (ha.evs rfl) (fun _ => l_slice TF.isslice_sl_api_Flat)) (bo rfl rfl o_lss (sl_nil (nc (kp 0 rfl (kp 3 rfl (kp 8 rfl zz))) ?_)))))))); refine cw_cond_p rfl (fun hb => ?_) (fun hb => ?_)
 ·replace H := H.1 hb; refine cw_skip (nc (kp 0 rfl (kp 3 rfl zz)) (cw_seq (cw_block (cw_seq (cw_region (ag rfl (sl_nil (nc (kp 0 rfl (kp 3 rfl (kp 4 rfl zz))) (cw_block ?_))))))))); obtain ⟨I2, ⟨k2, hi⟩, H⟩ := H; refine cw_loop_still (fun k2 a => ∃ x2, Ok 42 [(0, (.slice A1 n1 c1)), (3, (.int .i64 x1)), (4, (.int .i64 x2))] a ∧ I2 k2 x2) (fun a ha => ⟨k2, 0, ha.weaken (sub.cons rfl (sub.cons rfl (sub.cons rfl (sub.nil)))), hi⟩) ?_; rintro k2 a ⟨x2, ha, hI⟩; replace H := H k2 x2 hI; refine (?_ : CW _ _ _ 42 [(0, (.slice A1 n1 c1)), (3, (.int .i64 x1)), (4, (.int .i64 x2))] _) a ha; refine cw_seq (cw_seq (cw_region (mv rfl (mv rfl (mv rfl ?_))))); obtain ⟨h1, h2, a1, e1, H⟩ := H; refine ix rfl rfl (i_index TF.elem_sl_api_Flat TF.size_api_Flat e1 h1 h2) (fa rfl (TF.fld_api_Flat_1 _ _) ?_); obtain ⟨A2, n2, c2, h3, H⟩ := H; refine ld rfl (i_load1 TF.agg_sl_int h3) (sv rfl rfl (fun a ha => x_builtin (ha.evs rfl) (fun _ => l_slice TF.isslice_sl_int)) (bo rfl rfl o_lss (sl_nil (nc (kp 0 rfl (kp 3 rfl (kp 4 rfl (kp 18 rfl zz)))) ?_)))); refine cw_cond_p rfl (fun hb => ?_) (fun hb => ?_)
  ·replace H := H.1 hb; refine cw_skip (nc (kp 0 rfl (kp 3 rfl (kp 4 rfl zz))) (cw_seq (cw_block ?_))); refine cw_join_still (fun a => ∃ b2, Ok 42 [(0, (.slice A1 n1 c1)), (3, (.int .i64 x1)), (4, (.int .i64 x2)), (41, (.bool b2))] a ∧ vc_arbiterlaw13_sound_J1 K w k2 I2 x2 b2) ?_ ?_
   ·rintro a ⟨b2, ha, H⟩; unfold vc_arbiterlaw13_sound_J1 at H; refine (?_ : CW _ _ _ 42 [(0, (.slice A1 n1 c1)), (3, (.int .i64 x1)), (4, (.int .i64 x2)), (41, (.bool b2))] _) a ha; refine cw_cond rfl (fun hb => ?_) (fun hb => ?_)
    ·replace H := H.1 hb; exact cw_seq (cw_region (ag rfl (sl_nil (nc (kp 2 rfl zz) (cw_ret (nx_ret_block (nx_ret_then (nx_ret_then (nx_ret_block (nx_ret_block (nx_ret_then (nx_ret_then (nx_ret_block (nx_ret_then (nx_body_ret (res1 rfl rfl) ⟨_, rfl, _, rfl, H⟩)))))))))))))))
    ·replace H := H.2 hb; refine cw_skip (nx_block (nc (kp 0 rfl (kp 3 rfl (kp 4 rfl zz))) (cw_region (mv rfl (bo rfl rfl o_add (ag rfl (sl_nil ?_))))))); obtain ⟨k3, hk, H⟩ := H; exact nx_to fun a ha => ⟨k3, hk, ⟨IntKind.wrap .i64 (x2 + 1), ha.weaken (cn rfl (cn rfl (cn rfl zz))), H⟩, rfl⟩
   ·refine cw_region (mv rfl (mv rfl ?_)); obtain ⟨h4, h5, a2, e2, H⟩ := H; refine ix rfl rfl (i_index TF.elem_sl_api_Flat TF.size_api_Flat e2 h4 h5) (fa rfl (TF.fld_api_Flat_1 _ _) ?_); obtain ⟨A3, n3, c3, h6, H⟩ := H; refine ld rfl (i_load1 TF.agg_sl_int h6) (mv rfl ?_); obtain ⟨h7, h8, a3, e3, H⟩ := H; refine ix rfl rfl (i_index TF.elem_sl_int TF.size_int e3 h7 h8) ?_; obtain ⟨x3, h9, H⟩ := H; refine ld rfl (i_load1 TF.agg_int h9) (bo rfl rfl o_lss ?_); rcases Classical.em (x3 < 0) with hb | hb
    ·replace H := H.1 hb; exact sv rfl rfl (fun a ha => o_t (x_move (ha.ev rfl)) hb) (sk rfl rfl rfl rfl (sk rfl rfl rfl rfl (sk rfl rfl rfl rfl (sk rfl rfl rfl rfl (sk rfl rfl rfl rfl (sk rfl rfl rfl rfl (sk rfl rfl rfl rfl (sk rfl rfl rfl rfl (sk rfl rfl rfl rfl (sk rfl rfl rfl rfl (pt rfl rfl (sl_nil (nx_to fun a ha => ⟨⟨true, ha.weaken (cn rfl (cn rfl (cn rfl (cn rfl zz)))), H⟩, rfl⟩)))))))))))))
    ·replace H := H.2 hb; refine sv rfl rfl (fun a ha => o_f (x_move (ha.ev rfl)) hb) (mvg rfl rfl rfl (mvg rfl rfl rfl ?_)); obtain ⟨h10, h11, a4, e4, H⟩ := H; refine ixg rfl rfl rfl rfl (i_index TF.elem_sl_api_Flat TF.size_api_Flat e4 h10 h11) (fag rfl rfl rfl (TF.fld_api_Flat_1 _ _) ?_); obtain ⟨A4, n4, c4, h12, H⟩ := H; refine ldg rfl rfl rfl (i_load1 TF.agg_sl_int h12) (mvg rfl rfl rfl ?_); obtain ⟨h13, h14, a5, e5, H⟩ := H; refine ixg rfl rfl rfl rfl (i_index TF.elem_sl_int TF.size_int e5 h13 h14) ?_; obtain ⟨x4, h15, H⟩ := H; exact ldg rfl rfl rfl (i_load1 TF.agg_int h15) (mvg rfl rfl rfl (bog rfl rfl rfl rfl o_geq (pf rfl rfl (sl_nil (nx_to fun a ha => ⟨⟨(decide (x1 ≤ x4)), ha.weaken (cn rfl (cn rfl (cn rfl (cn rfl zz)))), H⟩, rfl⟩)))))
  ·replace H := H.2 hb; refine cw_exit (nx_exit_then (nx_exit_then (nx_exit_hit (nx_block (nc (kp 0 rfl (kp 3 rfl zz)) (cw_region (mv rfl (bo rfl rfl o_add (ag rfl (sl_nil ?_)))))))))); obtain ⟨k4, hk, H⟩ := H; exact nx_to fun a ha => ⟨k4, hk, ⟨IntKind.wrap .i64 (x1 + 1), ha.weaken (cn rfl (cn rfl zz)), H⟩, rfl⟩
 ·replace H := H.2 hb; exact cw_exit (nx_exit_then (nx_exit_then (nx_exit_hit (nc zz (cw_seq (cw_region (ag rfl (sl_nil (nc (kp 2 rfl zz) (cw_ret (nx_body_ret (res1 rfl rfl) ⟨_, rfl, _, rfl, H⟩)))))))))))
def vc_arbiterlaw13_sameInts (A1 : Option Addr) (n1 c1 : Nat) (A2 : Option Addr) (n2 c2 : Nat) (K : Bool → World → Prop) (w : World) : Prop :=
 ((n1 : Int) ≠ (n2 : Int) → (K false w)) ∧ (¬ ((n1 : Int) ≠ (n2 : Int)) → (∃ I1 : Nat → Int → World → Prop, (∃ k1, I1 k1 0 w) ∧ ∀ k1 (x1 : Int) (w1 : World), I1 k1 x1 w1 → ((x1 < (n1 : Int) → (0 ≤ x1 ∧ x1 < (n1 : Int) ∧ ∃ a1, A1 = some a1 ∧ ∃ x2, w1.cell? (a1.add (x1.toNat * 1)) = some (.int .i64 x2) ∧ 0 ≤ x1 ∧ x1 < (n2 : Int) ∧ ∃ a2, A2 = some a2 ∧ ∃ x3, w1.cell? (a2.add (x1.toNat * 1)) = some (.int .i64 x3) ∧ ∀ w2, Drawn w1 w2 → ((x2 ≠ x3 → (K false w2)) ∧ (¬ (x2 ≠ x3) → (∃ k2, k2 < k1 ∧ I1 k2 (IntKind.wrap .i64 (x1 + 1)) w2))))) ∧ (¬ (x1 < (n1 : Int)) → (K true w1)))))
theorem ok_arbiterlaw13_sameInts (A1 : Option Addr) (n1 c1 : Nat) (A2 : Option Addr) (n2 c2 : Nat) (K : Bool → World → Prop) (w : World) (H : vc_arbiterlaw13_sameInts A1 n1 c1 A2 n2 c2 K w) : Calls P F.arbiterlaw13_sameInts #[(.slice A1 n1 c1), (.slice A2 n2 c2)] w (Ret fun v w' => ∃ b1, v = (.bool b1) ∧ K b1 w') := by
 unfold vc_arbiterlaw13_sameInts at H; refine calls_of (P := P) Tryd.func20 rfl [(0, (.slice A1 n1 c1)), (1, (.slice A2 n2 c2))] 26 rfl rfl (aa rfl (aa rfl az)) (cw_seq (cw_region (ag rfl (sl_nil (nc (kp 0 rfl (kp 1 rfl zz)) (cw_seq (cw_seq (cw_region (mv rfl (sv rfl rfl (fun a ha => x_builtin (ha.evs rfl) (fun _ => l_slice TF.isslice_sl_int)) (mv rfl (sv rfl rfl (fun a ha => x_builtin (ha.evs rfl) (fun _ => l_slice TF.isslice_sl_int)) (bo rfl rfl o_neq (sl_nil (nc (kp 0 rfl (kp 1 rfl (kp 10 rfl zz))) ?_))))))))))))))); refine cw_cond_p rfl (fun hb => ?_) (fun hb => ?_)
 ·replace H := H.1 hb; exact cw_seq (cw_region (ag rfl (sl_nil (nc (kp 4 rfl zz) (cw_ret (nx_ret_then (nx_body_ret (res1 rfl rfl) ⟨_, rfl, _, rfl, H⟩)))))))
 ·replace H := H.2 hb; refine cw_skip (nc (kp 0 rfl (kp 1 rfl zz)) (cw_seq (cw_seq (cw_region (ag rfl (sl_nil (nc (kp 0 rfl (kp 1 rfl (kp 5 rfl zz))) (cw_block ?_)))))))); obtain ⟨I1, ⟨k1, hi⟩, H⟩ := H; refine cw_loop (fun k1 a w' => ∃ x1, Ok 26 [(0, (.slice A1 n1 c1)), (1, (.slice A2 n2 c2)), (5, (.int .i64 x1))] a ∧ I1 k1 x1 w') (fun a ha => ⟨k1, 0, ha.weaken (sub.cons rfl (sub.cons rfl (sub.cons rfl (sub.nil)))), hi⟩) ?_; rintro k1 a w1 ⟨x1, ha, hI⟩; replace H := H k1 x1 w1 hI; refine (?_ : CW _ _ _ 26 [(0, (.slice A1 n1 c1)), (1, (.slice A2 n2 c2)), (5, (.int .i64 x1))] _) a ha; refine cw_seq (cw_seq (cw_region (mv rfl (mv rfl (sv rfl rfl (fun a ha => x_builtin (ha.evs rfl) (fun _ => l_slice TF.isslice_sl_int)) (bo rfl rfl o_lss (sl_nil (nc (kp 0 rfl (kp 1 rfl (kp 5 rfl (kp 14 rfl zz)))) ?_)))))))); refine cw_cond_p rfl (fun hb => ?_) (fun hb => ?_)
  ·replace H := H.1 hb; refine cw_skip (nc (kp 0 rfl (kp 1 rfl (kp 5 rfl zz))) (cw_seq (cw_block (cw_seq ?_)))); refine cw_any_drawn follows [0, 1, 2, 3, 4, 5, 6, 7, 8] [3, 7] 9 rfl rfl (by kernel_rfl) (fun _ _ d _ _ h => by cases d <;> exact h) (fun cm W D => ?_); refine pmv 0 cm rfl rfl D W fun _ D W => (pmv 1 cm rfl rfl D W fun _ D W => ?_); obtain ⟨h1, h2, a1, e1, H⟩ := H; refine pix 2 cm rfl rfl rfl (i_index TF.elem_sl_int TF.size_int e1 h1 h2) D W fun _ D W => ?_; obtain ⟨x2, h3, H⟩ := H; refine vl 3 cm rfl rfl (fun hw => (i_load1 TF.agg_int ((hw.cell _).trans h3))) D W fun _ D W => (pmv 4 cm rfl rfl D W fun _ D W => (pmv 5 cm rfl rfl D W fun _ D W => ?_)); obtain ⟨h4, h5, a2, e2, H⟩ := H; refine pix 6 cm rfl rfl rfl (i_index TF.elem_sl_int TF.size_int e2 h4 h5) D W fun _ D W => ?_; obtain ⟨x3, h6, H⟩ := H; refine vl 7 cm rfl rfl (fun hw => (i_load1 TF.agg_int ((hw.cell _).trans h6))) D W fun _ D W => (pvd 8 cm rfl rfl rfl (fun w' a ha => x_binOp (ha.ev rfl) (ha.ev rfl) o_neq) D fun _ D => (an_end (by kernel_rfl) D ?_)); intro w2 D; replace H := H _ D; clear D cm; refine nc (kp 0 rfl (kp 1 rfl (kp 5 rfl (kp 25 rfl zz)))) ?_; refine cw_cond_p rfl (fun hb => ?_) (fun hb => ?_)
   ·replace H := H.1 hb; exact cw_seq (cw_region (ag rfl (sl_nil (nc (kp 4 rfl zz) (cw_ret (nx_ret_block (nx_ret_then (nx_ret_then (nx_ret_block (nx_ret_then (nx_body_ret (res1 rfl rfl) ⟨_, rfl, _, rfl, H⟩)))))))))))
   ·replace H := H.2 hb; refine cw_skip (nx_block (nc (kp 0 rfl (kp 1 rfl (kp 5 rfl zz))) (cw_region (mv rfl (bo rfl rfl o_add (ag rfl (sl_nil ?_))))))); obtain ⟨k2, hk, H⟩ := H; exact nx_to fun a ha => ⟨k2, hk, IntKind.wrap .i64 (x1 + 1), ha.weaken (cn rfl (cn rfl (cn rfl zz))), H⟩
  ·replace H := H.2 hb; exact cw_exit (nx_exit_then (nx_exit_then (nx_exit_hit (nc zz (cw_seq (cw_region (ag rfl (sl_nil (nc (kp 4 rfl zz) (cw_ret (nx_body_ret (res1 rfl rfl) ⟨_, rfl, _, rfl, H⟩)))))))))))
def vc_arbiterlaw13_heads_J1 (K : Bool → World → Prop) (b7 : Bool) (w19 : World) : Prop :=
 K b7 w19
def vc_arbiterlaw13_heads_J2 (K : Bool → World → Prop) (n1 : Nat) (A1 : Option Addr) (n2 : Nat) (q1 : Option Addr) (b5 : Bool) (w12 : World) : Prop :=
 (b5 = true → (K false w12)) ∧ (b5 = false → (((n1 : Int) = 1 → (0 ≤ (0 : Int) ∧ (0 : Int) < (n1 : Int) ∧ ∃ a1, A1 = some a1 ∧ ∃ x13, w12.cell? (a1.add ((0 : Int).toNat * 1)) = some (.int .i64 x13) ∧ (x13 = 7 → ((0 < (n2 : Int) → (Calls P F.euf_Graph_Clash #[(.pointer q1)] w12 (Ret fun v13 w18 => ∃ b6, v13 = (.bool b6) ∧ (vc_arbiterlaw13_heads_J1 K) (!b6) w18))) ∧ (¬ (0 < (n2 : Int)) → ((vc_arbiterlaw13_heads_J1 K) false w12)))) ∧ (¬ (x13 = 7) → ((vc_arbiterlaw13_heads_J1 K) false w12)))) ∧ (¬ ((n1 : Int) = 1) → ((vc_arbiterlaw13_heads_J1 K) false w12))))
def vc_arbiterlaw13_heads_J3 (K : Bool → World → Prop) (q1 : Option Addr) (b2 : Bool) (w6 : World) : Prop :=
 (b2 = true → (K false w6)) ∧ (b2 = false → (Calls P F.euf_Graph_Same #[(.pointer q1), (.int .i64 2), (.int .i64 3)] w6 (Ret fun v3 w7 => ∃ b3, ∃ x3, v3 = (.tuple #[(.bool b3), (.int .i64 x3)]) ∧ Calls P F.euf_Graph_Equal #[(.pointer q1), (.int .i64 1), (.int .i64 0), (.int .i64 7)] w7 (Ret fun v4 w8 => ∃ x4, v4 = (.int .i64 x4) ∧ Calls P F.euf_Graph_Same #[(.pointer q1), (.int .i64 2), (.int .i64 3)] w8 (Ret fun v5 w9 => ∃ b4, ∃ x5, v5 = (.tuple #[(.bool b4), (.int .i64 x5)]) ∧ Calls P F.euf_Graph_Why #[(.pointer q1), (.int .i64 2), (.int .i64 3)] w9 (Ret fun v6 w10 => ∃ A1 n1 c1, ∃ x6, v6 = (.tuple #[(.slice A1 n1 c1), (.int .i64 x6)]) ∧ Calls P F.euf_Graph_Prove #[(.pointer q1), (.int .i64 2), (.int .i64 3)] w10 (Ret fun v7 w11 => ∃ A2 n2 c2, ∃ x7, v7 = (.tuple #[(.slice A2 n2 c2), (.int .i64 x7)]) ∧ (b3 = true → ((vc_arbiterlaw13_heads_J2 K n1 A1 n2 q1) true w11)) ∧ (b3 = false → (((!b4) = true → ((vc_arbiterlaw13_heads_J2 K n1 A1 n2 q1) true w11)) ∧ ((!b4) = false → (Calls P F.arbiterlaw13_no #[(.int .i64 x3)] w11 (Ret fun v8 w13 => ∃ x8, v8 = (.int .i64 x8) ∧ (x8 ≠ 0 → ((vc_arbiterlaw13_heads_J2 K n1 A1 n2 q1) true w13)) ∧ (¬ (x8 ≠ 0) → (Calls P F.arbiterlaw13_no #[(.int .i64 x4)] w13 (Ret fun v9 w14 => ∃ x9, v9 = (.int .i64 x9) ∧ (x9 ≠ 0 → ((vc_arbiterlaw13_heads_J2 K n1 A1 n2 q1) true w14)) ∧ (¬ (x9 ≠ 0) → (Calls P F.arbiterlaw13_no #[(.int .i64 x5)] w14 (Ret fun v10 w15 => ∃ x10, v10 = (.int .i64 x10) ∧ (x10 ≠ 0 → ((vc_arbiterlaw13_heads_J2 K n1 A1 n2 q1) true w15)) ∧ (¬ (x10 ≠ 0) → (Calls P F.arbiterlaw13_no #[(.int .i64 x6)] w15 (Ret fun v11 w16 => ∃ x11, v11 = (.int .i64 x11) ∧ (x11 ≠ 0 → ((vc_arbiterlaw13_heads_J2 K n1 A1 n2 q1) true w16)) ∧ (¬ (x11 ≠ 0) → (Calls P F.arbiterlaw13_no #[(.int .i64 x7)] w16 (Ret fun v12 w17 => ∃ x12, v12 = (.int .i64 x12) ∧ (vc_arbiterlaw13_heads_J2 K n1 A1 n2 q1) (decide (x12 ≠ 0)) w17))))))))))))))))))))))))
def vc_arbiterlaw13_heads  (K : Bool → World → Prop) (w : World) : Prop :=
 ∀ (p1 : Addr) (w1 : World), New w (.cells #[(.int .i64 0)] T.int) p1 w1 → (∀ (p2 : Addr) (w2 : World), New w1 (.cells #[(.int .i64 1)] T.int) p2 w2 → (∀ (p3 : Addr) (w3 : World), New w2 (.cells #[(.int .i64 0), (.slice none 0 0), (.int .i64 1), (.slice none 0 0), (.int .i64 2), (.slice (some p1) 1 1), (.int .i64 2), (.slice (some p2) 1 1)] T.api_Flat) p3 w3 → (Calls P F.euf_New #[(.slice (some p3) 4 4)] w3 (Ret fun v1 w4 => ∃ q1, ∃ x1, v1 = (.tuple #[(.pointer q1), (.int .i64 x1)]) ∧ Calls P F.arbiterlaw13_no #[(.int .i64 x1)] w4 (Ret fun v2 w5 => ∃ x2, v2 = (.int .i64 x2) ∧ (x2 ≠ 0 → ((vc_arbiterlaw13_heads_J3 K q1) true w5)) ∧ (¬ (x2 ≠ 0) → ((vc_arbiterlaw13_heads_J3 K q1) (decide (q1 = none)) w5)))))))
theorem ok_arbiterlaw13_heads  (K : Bool → World → Prop) (w : World) (H : vc_arbiterlaw13_heads K w) : Calls P F.arbiterlaw13_heads #[] w (Ret fun v w' => ∃ b1, v = (.bool b1) ∧ K b1 w') := by
 unfold vc_arbiterlaw13_heads at H; refine calls_of (P := P) Tryd.func6 rfl [] 101 rfl rfl (fun p hp => by cases hp) (cw_seq (cw_region (ag rfl (sl_nil (nc zz (cw_seq (cw_region (sv rfl rfl (fun a ha => x_buildP (u := (.agg #[(.int .i64 0), (.slice none 0 0)])) (qs := [(0, (.int .i64 0))]) (by simp only [List.map_cons, List.map_nil, ha.ev (x := (.const (.int .i64 0))) rfl]) (by kernel_rfl)) (sv rfl rfl (fun a ha => x_buildP (u := (.agg #[(.int .i64 1), (.slice none 0 0)])) (qs := [(0, (.int .i64 1))]) (by simp only [List.map_cons, List.map_nil, ha.ev (x := (.const (.int .i64 1))) rfl]) (by kernel_rfl)) (sl_new (f := (fun p => .slice (some p) 1 1)) rfl rfl (wanted_none rfl) (fun a ha => x_buildSlice (u := .slice (some ⟨_, 0, none⟩) 1 1) (w' := World.alloc _ (.cells #[(.int .i64 0)] T.int)) (qs := [(0, (.int .i64 0))]) (by simp only [List.map_cons, List.map_nil, ha.ev (x := (.const (.int .i64 0))) rfl]) (by kernel_rfl)) ?_)))))))))); intro p1 w1 hN; replace H := H _ _ hN; refine sv rfl rfl (fun a ha => x_buildP (u := (.agg #[(.int .i64 2), (.slice (some p1) 1 1)])) (qs := [(0, (.int .i64 2)), (1, (.slice (some p1) 1 1))]) (by simp only [List.map_cons, List.map_nil, ha.ev (x := (.const (.int .i64 2))) rfl, ha.ev (x := (.tmp 15)) rfl]) (by kernel_rfl)) (sl_new (f := (fun p => .slice (some p) 1 1)) rfl rfl (wanted_none rfl) (fun a ha => x_buildSlice (u := .slice (some ⟨_, 0, none⟩) 1 1) (w' := World.alloc _ (.cells #[(.int .i64 1)] T.int)) (qs := [(0, (.int .i64 1))]) (by simp only [List.map_cons, List.map_nil, ha.ev (x := (.const (.int .i64 1))) rfl]) (by kernel_rfl)) ?_); intro p2 w2 hN; replace H := H _ _ hN; refine sv rfl rfl (fun a ha => x_buildP (u := (.agg #[(.int .i64 2), (.slice (some p2) 1 1)])) (qs := [(0, (.int .i64 2)), (1, (.slice (some p2) 1 1))]) (by simp only [List.map_cons, List.map_nil, ha.ev (x := (.const (.int .i64 2))) rfl, ha.ev (x := (.tmp 17)) rfl]) (by kernel_rfl)) (sl_new (f := (fun p => .slice (some p) 4 4)) rfl rfl (wanted_none rfl) (fun a ha => x_buildSlice (u := .slice (some ⟨_, 0, none⟩) 4 4) (w' := World.alloc _ (.cells #[(.int .i64 0), (.slice none 0 0), (.int .i64 1), (.slice none 0 0), (.int .i64 2), (.slice (some p1) 1 1), (.int .i64 2), (.slice (some p2) 1 1)] T.api_Flat)) (qs := [(0, (.agg #[(.int .i64 0), (.slice none 0 0)])), (1, (.agg #[(.int .i64 1), (.slice none 0 0)])), (2, (.agg #[(.int .i64 2), (.slice (some p1) 1 1)])), (3, (.agg #[(.int .i64 2), (.slice (some p2) 1 1)]))]) (by simp only [List.map_cons, List.map_nil, ha.ev (x := (.tmp 13)) rfl, ha.ev (x := (.tmp 14)) rfl, ha.ev (x := (.tmp 16)) rfl, ha.ev (x := (.tmp 18)) rfl]) (by kernel_rfl)) ?_); intro p3 w3 hN; replace H := H _ _ hN; refine sl_call rfl rfl (wanted_none rfl) (fun a ha => x_call0 (ha.ev rfl) (ha.evs rfl) FF.callable_euf_New) H ?_; rintro _ w4 ⟨q1, x1, rfl, H⟩; refine mv rfl (sv rfl rfl (fun a ha => x_extract (ha.ev rfl) rfl) (sv rfl rfl (fun a ha => x_extract (ha.ev rfl) rfl) (ag rfl (ag rfl (sl_nil (nc (kp 1 rfl (kp 2 rfl zz)) (cw_seq ?_))))))); refine cw_join (fun a w => ∃ b2, Ok 101 [(1, (.pointer q1)), (29, (.bool b2))] a ∧ vc_arbiterlaw13_heads_J3 K q1 b2 w) ?_ ?_
 ·rintro a w6 ⟨b2, ha, H⟩; unfold vc_arbiterlaw13_heads_J3 at H; refine (?_ : CW _ _ _ 101 [(1, (.pointer q1)), (29, (.bool b2))] _) a ha; refine cw_cond rfl (fun hb => ?_) (fun hb => ?_)
  ·replace H := H.1 hb; exact cw_seq (cw_region (ag rfl (sl_nil (nc (kp 0 rfl zz) (cw_ret (nx_ret_then (nx_body_ret (res1 rfl rfl) ⟨_, rfl, _, rfl, H⟩)))))))
  ·replace H := H.2 hb; refine cw_skip (nc (kp 1 rfl zz) (cw_seq (cw_region (mv rfl (sl_call rfl rfl (wanted_none rfl) (fun a ha => x_call0 (ha.ev rfl) (ha.evs rfl) FF.callable_euf_Graph_Same) H ?_))))); rintro _ w7 ⟨b3, x3, rfl, H⟩; refine mv rfl (sv rfl rfl (fun a ha => x_extract (ha.ev rfl) rfl) (sv rfl rfl (fun a ha => x_extract (ha.ev rfl) rfl) (ag rfl (ag rfl (sl_nil (nc (kp 1 rfl (kp 3 rfl (kp 4 rfl zz))) (cw_seq (cw_region (mv rfl (sl_call rfl rfl (wanted_none rfl) (fun a ha => x_call0 (ha.ev rfl) (ha.evs rfl) FF.callable_euf_Graph_Equal) H ?_)))))))))); rintro _ w8 ⟨x4, rfl, H⟩; refine ag rfl (sl_nil (nc (kp 1 rfl (kp 3 rfl (kp 4 rfl (kp 5 rfl zz)))) (cw_seq (cw_region (mv rfl (sl_call rfl rfl (wanted_none rfl) (fun a ha => x_call0 (ha.ev rfl) (ha.evs rfl) FF.callable_euf_Graph_Same) H ?_)))))); rintro _ w9 ⟨b4, x5, rfl, H⟩; refine mv rfl (sv rfl rfl (fun a ha => x_extract (ha.ev rfl) rfl) (sv rfl rfl (fun a ha => x_extract (ha.ev rfl) rfl) (ag rfl (ag rfl (sl_nil (nc (kp 1 rfl (kp 3 rfl (kp 4 rfl (kp 5 rfl (kp 6 rfl (kp 7 rfl zz)))))) (cw_seq (cw_region (mv rfl (sl_call rfl rfl (wanted_none rfl) (fun a ha => x_call0 (ha.ev rfl) (ha.evs rfl) FF.callable_euf_Graph_Why) H ?_)))))))))); rintro _ w10 ⟨A1, n1, c1, x6, rfl, H⟩; refine mv rfl (sv rfl rfl (fun a ha => x_extract (ha.ev rfl) rfl) (sv rfl rfl (fun a ha => x_extract (ha.ev rfl) rfl) (ag rfl (ag rfl (sl_nil (nc (kp 1 rfl (kp 3 rfl (kp 4 rfl (kp 5 rfl (kp 6 rfl (kp 7 rfl (kp 8 rfl (kp 9 rfl zz)))))))) (cw_seq (cw_region (mv rfl (sl_call rfl rfl (wanted_none rfl) (fun a ha => x_call0 (ha.ev rfl) (ha.evs rfl) FF.callable_euf_Graph_Prove) H ?_)))))))))); rintro _ w11 ⟨A2, n2, c2, x7, rfl, H⟩; refine mv rfl (sv rfl rfl (fun a ha => x_extract (ha.ev rfl) rfl) (sv rfl rfl (fun a ha => x_extract (ha.ev rfl) rfl) (ag rfl (ag rfl (sl_nil (nc (kp 1 rfl (kp 3 rfl (kp 4 rfl (kp 5 rfl (kp 6 rfl (kp 7 rfl (kp 8 rfl (kp 9 rfl (kp 10 rfl (kp 11 rfl zz)))))))))) (cw_seq ?_))))))); refine cw_join (fun a w => ∃ b5, Ok 101 [(1, (.pointer q1)), (8, (.slice A1 n1 c1)), (10, (.slice A2 n2 c2)), (81, (.bool b5))] a ∧ vc_arbiterlaw13_heads_J2 K n1 A1 n2 q1 b5 w) ?_ ?_
   ·rintro a w12 ⟨b5, ha, H⟩; unfold vc_arbiterlaw13_heads_J2 at H; refine (?_ : CW _ _ _ 101 [(1, (.pointer q1)), (8, (.slice A1 n1 c1)), (10, (.slice A2 n2 c2)), (81, (.bool b5))] _) a ha; refine cw_cond rfl (fun hb => ?_) (fun hb => ?_)
    ·replace H := H.1 hb; exact cw_seq (cw_region (ag rfl (sl_nil (nc (kp 0 rfl zz) (cw_ret (nx_ret_then (nx_body_ret (res1 rfl rfl) ⟨_, rfl, _, rfl, H⟩)))))))
    ·replace H := H.2 hb; refine cw_skip (nc (kp 1 rfl (kp 8 rfl (kp 10 rfl zz))) ?_); refine cw_join (fun a w => ∃ b7, Ok 101 [(0, (.bool b7))] a ∧ vc_arbiterlaw13_heads_J1 K b7 w) ?_ ?_
     ·rintro a w19 ⟨b7, ha, H⟩; unfold vc_arbiterlaw13_heads_J1 at H; refine (?_ : CW _ _ _ 101 [(0, (.bool b7))] _) a ha; exact cw_ret (nx_body_ret (res1 rfl rfl) ⟨_, rfl, _, rfl, H⟩)
     ·refine cw_region (mv rfl (sv rfl rfl (fun a ha => x_builtin (ha.evs rfl) (fun _ => l_slice TF.isslice_sl_int)) (bo rfl rfl o_eql ?_))); rcases Classical.em ((n1 : Int) = 1) with hb | hb
      ·replace H := H.1 hb; refine sv rfl rfl (fun a ha => o_t (x_move (ha.ev rfl)) hb) (mvg rfl rfl rfl ?_); obtain ⟨h1, h2, a1, e1, H⟩ := H; refine ixg rfl rfl rfl rfl (i_index TF.elem_sl_int TF.size_int e1 h1 h2) ?_; obtain ⟨x13, h3, H⟩ := H; refine ldg rfl rfl rfl (i_load1 TF.agg_int h3) (bog rfl rfl rfl rfl o_eql (pt rfl rfl ?_)); rcases Classical.em (x13 = 7) with hb | hb
       ·replace H := H.1 hb; refine sv rfl rfl (fun a ha => o_t (x_move (ha.ev rfl)) hb) (mvg rfl rfl rfl (svg rfl rfl rfl rfl (fun a ha => x_builtin (ha.evs rfl) (fun _ => l_slice TF.isslice_sl_api_Link)) (bog rfl rfl rfl rfl o_gtr (pt rfl rfl ?_)))); rcases Classical.em (0 < (n2 : Int)) with hb | hb
        ·replace H := H.1 hb; refine sv rfl rfl (fun a ha => o_t (x_move (ha.ev rfl)) hb) (mvg rfl rfl rfl (sl_call rfl rfl (wanted_some rfl rfl rfl) (fun a ha => x_call0 (ha.ev rfl) (ha.evs rfl) FF.callable_euf_Graph_Clash) H ?_)); rintro _ w18 ⟨b6, rfl, H⟩; exact svg rfl rfl rfl rfl (fun a ha => x_unOp (ha.ev rfl) u_not) (pt rfl rfl (ag rfl (sl_nil (nx_to fun a ha => ⟨(!b6), ha.weaken (cn rfl zz), H⟩))))
        ·replace H := H.2 hb; exact sv rfl rfl (fun a ha => o_f (x_move (ha.ev rfl)) hb) (sk rfl rfl rfl rfl (sk rfl rfl rfl rfl (sk rfl rfl rfl rfl (pf rfl rfl (ag rfl (sl_nil (nx_to fun a ha => ⟨false, ha.weaken (cn rfl zz), H⟩)))))))
       ·replace H := H.2 hb; exact sv rfl rfl (fun a ha => o_f (x_move (ha.ev rfl)) hb) (sk rfl rfl rfl rfl (sk rfl rfl rfl rfl (sk rfl rfl rfl rfl (pf rfl rfl (mv rfl (sk rfl rfl rfl rfl (sk rfl rfl rfl rfl (sk rfl rfl rfl rfl (pf rfl rfl (ag rfl (sl_nil (nx_to fun a ha => ⟨false, ha.weaken (cn rfl zz), H⟩))))))))))))
      ·replace H := H.2 hb; exact sv rfl rfl (fun a ha => o_f (x_move (ha.ev rfl)) hb) (sk rfl rfl rfl rfl (sk rfl rfl rfl rfl (sk rfl rfl rfl rfl (sk rfl rfl rfl rfl (pf rfl rfl (mv rfl (sk rfl rfl rfl rfl (sk rfl rfl rfl rfl (sk rfl rfl rfl rfl (pf rfl rfl (mv rfl (sk rfl rfl rfl rfl (sk rfl rfl rfl rfl (sk rfl rfl rfl rfl (pf rfl rfl (ag rfl (sl_nil (nx_to fun a ha => ⟨false, ha.weaken (cn rfl zz), H⟩))))))))))))))))))
   ·refine cw_region (mv rfl ?_); rcases tf b3 with hb | hb
    ·replace H := H.1 hb; exact sv rfl rfl (fun a ha => o_bt (x_move (ha.ev rfl)) hb) (sk rfl rfl rfl rfl (sk rfl rfl rfl rfl (pt rfl rfl (mv rfl (sk rfl rfl rfl rfl (sk rfl rfl rfl rfl (sk rfl rfl rfl rfl (pt rfl rfl (mv rfl (sk rfl rfl rfl rfl (sk rfl rfl rfl rfl (sk rfl rfl rfl rfl (pt rfl rfl (mv rfl (sk rfl rfl rfl rfl (sk rfl rfl rfl rfl (sk rfl rfl rfl rfl (pt rfl rfl (mv rfl (sk rfl rfl rfl rfl (sk rfl rfl rfl rfl (sk rfl rfl rfl rfl (pt rfl rfl (mv rfl (sk rfl rfl rfl rfl (sk rfl rfl rfl rfl (sk rfl rfl rfl rfl (pt rfl rfl (sl_nil (nx_to fun a ha => ⟨true, ha.weaken (cn rfl (cn rfl (cn rfl (cn rfl zz)))), H⟩))))))))))))))))))))))))))))))
    ·replace H := H.2 hb; refine sv rfl rfl (fun a ha => o_bf (x_move (ha.ev rfl)) hb) (mvg rfl rfl rfl (svg rfl rfl rfl rfl (fun a ha => x_unOp (ha.ev rfl) u_not) (pf rfl rfl ?_))); rcases tf (!b4) with hb | hb
     ·replace H := H.1 hb; exact sv rfl rfl (fun a ha => o_bt (x_move (ha.ev rfl)) hb) (sk rfl rfl rfl rfl (sk rfl rfl rfl rfl (sk rfl rfl rfl rfl (pt rfl rfl (mv rfl (sk rfl rfl rfl rfl (sk rfl rfl rfl rfl (sk rfl rfl rfl rfl (pt rfl rfl (mv rfl (sk rfl rfl rfl rfl (sk rfl rfl rfl rfl (sk rfl rfl rfl rfl (pt rfl rfl (mv rfl (sk rfl rfl rfl rfl (sk rfl rfl rfl rfl (sk rfl rfl rfl rfl (pt rfl rfl (mv rfl (sk rfl rfl rfl rfl (sk rfl rfl rfl rfl (sk rfl rfl rfl rfl (pt rfl rfl (sl_nil (nx_to fun a ha => ⟨true, ha.weaken (cn rfl (cn rfl (cn rfl (cn rfl zz)))), H⟩))))))))))))))))))))))))))
     ·replace H := H.2 hb; refine sv rfl rfl (fun a ha => o_bf (x_move (ha.ev rfl)) hb) (mvg rfl rfl rfl (sl_call rfl rfl (wanted_some rfl rfl rfl) (fun a ha => x_call0 (ha.ev rfl) (ha.evs rfl) FF.callable_arbiterlaw13_no) H ?_)); rintro _ w13 ⟨x8, rfl, H⟩; refine bog rfl rfl rfl rfl o_neq (pf rfl rfl ?_); rcases Classical.em (x8 ≠ 0) with hb | hb
      ·replace H := H.1 hb; exact sv rfl rfl (fun a ha => o_t (x_move (ha.ev rfl)) hb) (sk rfl rfl rfl rfl (sk rfl rfl rfl rfl (sk rfl rfl rfl rfl (pt rfl rfl (mv rfl (sk rfl rfl rfl rfl (sk rfl rfl rfl rfl (sk rfl rfl rfl rfl (pt rfl rfl (mv rfl (sk rfl rfl rfl rfl (sk rfl rfl rfl rfl (sk rfl rfl rfl rfl (pt rfl rfl (mv rfl (sk rfl rfl rfl rfl (sk rfl rfl rfl rfl (sk rfl rfl rfl rfl (pt rfl rfl (sl_nil (nx_to fun a ha => ⟨true, ha.weaken (cn rfl (cn rfl (cn rfl (cn rfl zz)))), H⟩)))))))))))))))))))))
      ·replace H := H.2 hb; refine sv rfl rfl (fun a ha => o_f (x_move (ha.ev rfl)) hb) (mvg rfl rfl rfl (sl_call rfl rfl (wanted_some rfl rfl rfl) (fun a ha => x_call0 (ha.ev rfl) (ha.evs rfl) FF.callable_arbiterlaw13_no) H ?_)); rintro _ w14 ⟨x9, rfl, H⟩; refine bog rfl rfl rfl rfl o_neq (pf rfl rfl ?_); rcases Classical.em (x9 ≠ 0) with hb | hb
       ·replace H := H.1 hb; exact sv rfl rfl (fun a ha => o_t (x_move (ha.ev rfl)) hb) (sk rfl rfl rfl rfl (sk rfl rfl rfl rfl (sk rfl rfl rfl rfl (pt rfl rfl (mv rfl (sk rfl rfl rfl rfl (sk rfl rfl rfl rfl (sk rfl rfl rfl rfl (pt rfl rfl (mv rfl (sk rfl rfl rfl rfl (sk rfl rfl rfl rfl (sk rfl rfl rfl rfl (pt rfl rfl (sl_nil (nx_to fun a ha => ⟨true, ha.weaken (cn rfl (cn rfl (cn rfl (cn rfl zz)))), H⟩))))))))))))))))
       ·replace H := H.2 hb; refine sv rfl rfl (fun a ha => o_f (x_move (ha.ev rfl)) hb) (mvg rfl rfl rfl (sl_call rfl rfl (wanted_some rfl rfl rfl) (fun a ha => x_call0 (ha.ev rfl) (ha.evs rfl) FF.callable_arbiterlaw13_no) H ?_)); rintro _ w15 ⟨x10, rfl, H⟩; refine bog rfl rfl rfl rfl o_neq (pf rfl rfl ?_); rcases Classical.em (x10 ≠ 0) with hb | hb
        ·replace H := H.1 hb; exact sv rfl rfl (fun a ha => o_t (x_move (ha.ev rfl)) hb) (sk rfl rfl rfl rfl (sk rfl rfl rfl rfl (sk rfl rfl rfl rfl (pt rfl rfl (mv rfl (sk rfl rfl rfl rfl (sk rfl rfl rfl rfl (sk rfl rfl rfl rfl (pt rfl rfl (sl_nil (nx_to fun a ha => ⟨true, ha.weaken (cn rfl (cn rfl (cn rfl (cn rfl zz)))), H⟩)))))))))))
        ·replace H := H.2 hb; refine sv rfl rfl (fun a ha => o_f (x_move (ha.ev rfl)) hb) (mvg rfl rfl rfl (sl_call rfl rfl (wanted_some rfl rfl rfl) (fun a ha => x_call0 (ha.ev rfl) (ha.evs rfl) FF.callable_arbiterlaw13_no) H ?_)); rintro _ w16 ⟨x11, rfl, H⟩; refine bog rfl rfl rfl rfl o_neq (pf rfl rfl ?_); rcases Classical.em (x11 ≠ 0) with hb | hb
         ·replace H := H.1 hb; exact sv rfl rfl (fun a ha => o_t (x_move (ha.ev rfl)) hb) (sk rfl rfl rfl rfl (sk rfl rfl rfl rfl (sk rfl rfl rfl rfl (pt rfl rfl (sl_nil (nx_to fun a ha => ⟨true, ha.weaken (cn rfl (cn rfl (cn rfl (cn rfl zz)))), H⟩))))))
         ·replace H := H.2 hb; refine sv rfl rfl (fun a ha => o_f (x_move (ha.ev rfl)) hb) (mvg rfl rfl rfl (sl_call rfl rfl (wanted_some rfl rfl rfl) (fun a ha => x_call0 (ha.ev rfl) (ha.evs rfl) FF.callable_arbiterlaw13_no) H ?_)); rintro _ w17 ⟨x12, rfl, H⟩; exact bog rfl rfl rfl rfl o_neq (pf rfl rfl (sl_nil (nx_to fun a ha => ⟨(decide (x12 ≠ 0)), ha.weaken (cn rfl (cn rfl (cn rfl (cn rfl zz)))), H⟩)))
 ·refine cw_region (mv rfl (sl_call rfl rfl (wanted_none rfl) (fun a ha => x_call0 (ha.ev rfl) (ha.evs rfl) FF.callable_arbiterlaw13_no) H ?_)); rintro _ w5 ⟨x2, rfl, H⟩; refine bo rfl rfl o_neq ?_; rcases Classical.em (x2 ≠ 0) with hb | hb
  ·replace H := H.1 hb; exact sv rfl rfl (fun a ha => o_t (x_move (ha.ev rfl)) hb) (sk rfl rfl rfl rfl (sk rfl rfl rfl rfl (pt rfl rfl (sl_nil (nx_to fun a ha => ⟨true, ha.weaken (cn rfl (cn rfl zz)), H⟩)))))
  ·replace H := H.2 hb; exact sv rfl rfl (fun a ha => o_f (x_move (ha.ev rfl)) hb) (mvg rfl rfl rfl (bog rfl rfl rfl rfl (o_eql_nil TF.ptr_p_euf_Graph) (pf rfl rfl (sl_nil (nx_to fun a ha => ⟨(decide (q1 = none)), ha.weaken (cn rfl (cn rfl zz)), H⟩)))))
end Go.Proofs.YtnbakpoahcndpaaDoor
namespace Go.Proofs.YtnbakpoahcndpaaDoor
set_option linter.unusedVariables false
set_option linter.unusedSimpArgs false
open Wk
theorem law_sound_is {w : World} {A : Option Addr} {n : Nat} (c : Nat) {fs : List Flat} (h : Sl cFlat w A n fs) (hn : Sm n) :
  Calls P F.arbiterlaw13_sound #[.slice A n c] w (Ret fun v w' => ∃ b, v = .bool b ∧ (b = true ↔ Sound fs) ∧ w' = w) := by
 refine ok_arbiterlaw13_sound A n c (fun b w' => (b = true ↔ Sound fs) ∧ w' = w) w ?_
 unfold vc_arbiterlaw13_sound
 refine ⟨fun m i => m = n - i.toNat ∧ 0 ≤ i ∧ i ≤ n ∧ (∀ (k : Nat), (k : Int) < i → ∀ x, fs[k]? = some x → ∀ (j : Nat) a, x.args[j]? = some a → 0 ≤ a ∧ a < (k : Int)), ⟨n, by omega, by omega, by omega, fun k hk => by omega⟩, ?_⟩
 rintro m i ⟨rfl, h0, h1, hall⟩
 refine ⟨fun hlt => ?_, fun hge => ?_⟩
 ·obtain ⟨x, ad, B, k, cc, hx, hA, hc, hk, hr⟩ := h.flat h0 hlt
  refine ⟨fun m j => m = k - j.toNat ∧ 0 ≤ j ∧ j ≤ k ∧ ∀ (q : Nat), (q : Int) < j → ∀ a, x.args[q]? = some a → 0 ≤ a ∧ a < i, ⟨k, by omega, by omega, by omega, fun q hq => by omega⟩, ?_⟩
  rintro m j ⟨rfl, j0, j1, jall⟩
  have c1 := hc 1 _ rfl
  refine ⟨h0, hlt, ad, hA, B, k, cc, c1, fun jlt => ?_, fun jge => ?_⟩
  ·obtain ⟨y, ad', hy, hB, hcell⟩ := hr.int j0 jlt
   refine ⟨h0, hlt, ad, hA, B, k, cc, c1, j0, jlt, ad', hB, y, hcell, ?_⟩
   have key : ∀ b : Bool, (b = true ↔ ¬ (0 ≤ y ∧ y < i)) → vc_arbiterlaw13_sound_J1 (fun b w' => (b = true ↔ Sound fs) ∧ w' = w) w (k - j.toNat) (fun m j => m = k - j.toNat ∧ 0 ≤ j ∧ j ≤ k ∧ ∀ (q : Nat), (q : Int) < j → ∀ a, x.args[q]? = some a → 0 ≤ a ∧ a < i) j b := by
    intro b hb
    refine ⟨fun hbt => ⟨?_, rfl⟩, fun hbf => ?_⟩
    ·refine ⟨fun h => (by cases h), fun hs => ?_⟩
     have := hs i.toNat x hx j.toNat y hy
     rw [show ((i.toNat : Nat) : Int) = i by omega] at this
     exact absurd this (hb.1 hbt)
    ·have hb' : 0 ≤ y ∧ y < i := by
      rcases Classical.em (0 ≤ y ∧ y < i) with h | h
      ·exact h
      ·rw [hb.2 h] at hbf; cases hbf
     rw [step_le j0 jlt hk]
     refine ⟨k - (j + 1).toNat, by omega, rfl, by omega, by omega, fun q hq a ha => ?_⟩
     rcases Int.lt_or_eq_of_le (show (q : Int) ≤ j by omega) with hq | hq
     ·exact jall q hq a ha
     ·rw [show q = j.toNat by omega, hy] at ha
      cases ha
      exact hb'
   refine ⟨fun hneg => key true ⟨fun _ => by omega, fun _ => rfl⟩, fun hneg => ⟨h0, hlt, ad, hA, B, k, cc, c1, j0, jlt, ad', hB, y, hcell, key _ ⟨fun hd => by have := of_decide_eq_true hd; omega, fun hd => decide_eq_true (by omega)⟩⟩⟩
  ·rw [step_le h0 hlt hn]
   refine ⟨n - (i + 1).toNat, by omega, rfl, by omega, by omega, fun q hq z hz j' a ha => ?_⟩
   rcases Int.lt_or_eq_of_le (show (q : Int) ≤ i by omega) with hq | hq
   ·exact hall q hq z hz j' a ha
   ·rw [show q = i.toNat by omega, hx] at hz
    cases hz
    rw [hq]
    refine jall j' ?_ a ha
    have := (List.getElem?_eq_some_iff.1 ha).1
    have := hr.1
    omega
 ·refine ⟨⟨fun _ => fun k x hx j a ha => ?_, fun _ => rfl⟩, rfl⟩
  refine hall k ?_ x hx j a ha
  have := (List.getElem?_eq_some_iff.1 hx).1
  have := h.1
  omega
theorem law_no_is {w : World} (x : Int) : Calls P F.arbiterlaw13_no #[.int .i64 x] w (Ret fun v w' => v = .int .i64 x ∧ w' = w) :=
 Ret.mono (ok_arbiterlaw13_no x (fun r w' => r = x ∧ w' = w) w ⟨rfl, rfl⟩) (by rintro _ _ ⟨_, rfl, rfl, rfl⟩; exact ⟨rfl, rfl⟩)
def valOf (ws : List Int) (a : Int) : Int := ws.getD a.toNat 0
def Worths (f : Int → List Int → Int) (nodes : List Flat) (ws : List Int) : Prop := ∀ (k : Nat) n, k < ws.length → nodes[k]? = some n → 0 ≤ n.fn → valOf ws k = f n.fn (n.args.map (valOf ws))
theorem valOf_at {ws : List Int} {a : Int} {v : Int} (h : ws[a.toNat]? = some v) : valOf ws a = v := by
 unfold valOf
 rw [List.getD_eq_getElem?_getD, h]
 rfl
theorem valOf_app {ws : List Int} {a : Int} (v : Int) (h : a.toNat < ws.length) : valOf (ws ++ [v]) a = valOf ws a := by
 unfold valOf
 rw [List.getD_eq_getElem?_getD, List.getD_eq_getElem?_getD, List.getElem?_append_left h]
theorem Worths.app {f : Int → List Int → Int} {nodes : List Flat} {ws : List Int} {v : Int} (h : Worths f nodes ws) (hs : Sound nodes) (hv : ∀ n, nodes[ws.length]? = some n → 0 ≤ n.fn → v = f n.fn (n.args.map (valOf ws))) : Worths f nodes (ws ++ [v]) := by
 intro k n hk hn hf
 have hmap : k ≤ ws.length → n.args.map (valOf (ws ++ [v])) = n.args.map (valOf ws) := fun hk' => by
  apply List.map_congr_left
  intro a ha
  obtain ⟨j, hj⟩ := List.mem_iff_getElem?.1 ha
  have := hs k n hn j a hj
  exact valOf_app v (by omega)
 rw [List.length_append] at hk
 simp at hk
 rw [hmap (by omega)]
 rcases Nat.lt_or_eq_of_le (show k ≤ ws.length by omega) with hk' | hk'
 ·rw [valOf_app v (by simpa using hk')]
  exact h k n hk' hn hf
 ·subst hk'
  rw [← hv n hn hf]
  exact valOf_at (by simp)
section
variable {w : World} {nodes : List Flat} {table : List Int} {A1 A2 : Option Addr} {n1 n2 : Nat} {size : Int}
end
end Go.Proofs.YtnbakpoahcndpaaDoor
namespace Go.Proofs.YtnbakpoahcndpaaDoor
set_option linter.unusedVariables false
set_option linter.unusedSimpArgs false
open Wk
structure NodesOk (W0 : Nat) (fs : List Flat) : Prop where
 few : fs.length ≤ 1048576
 i64 : ∀ x ∈ fs, I64 x.fn
 wide : wsum fs fs.length ≤ W0
 W : W0 ≤ 1048576
 tight : fs.length * (W0 + 2) + 1 ≤ 300000000000
theorem mem_le_sum : ∀ {l : List Nat} {x : Nat}, x ∈ l → x ≤ l.sum
 | [], _, h => by cases h
 | y :: l, x, h => by
  rw [List.sum_cons]
  rcases List.mem_cons.1 h with rfl | h
  ·omega
  ·have := mem_le_sum h
   omega
theorem NodesOk.args {W0 : Nat} {fs : List Flat} (h : NodesOk W0 fs) {x : Flat} (hx : x ∈ fs) : x.args.length ≤ W0 := by
 refine Nat.le_trans ?_ h.wide
 unfold wsum
 rw [List.take_length]
 exact mem_le_sum (List.mem_map.2 ⟨x, hx, rfl⟩)
def In2 (fs : List Flat) (a b : Int) : Prop := 0 ≤ a ∧ 0 ≤ b ∧ a < fs.length ∧ b < fs.length
theorem In2.l {fs : List Flat} {a b : Int} (h : In2 fs a b) : Vn fs.length a := ⟨h.1, h.2.2.1⟩
theorem In2.r {fs : List Flat} {a b : Int} (h : In2 fs a b) : Vn fs.length b := ⟨h.2.1, h.2.2.2⟩
theorem In2.of {fs : List Flat} {a b : Int} (h : Vn fs.length a) (k : Vn fs.length b) : In2 fs a b := ⟨h.1, k.1, h.2, k.2⟩
section
variable {B0 : Nat} {w w' w0 : World} {p U : Addr} {M N : Nat} {A : Nat → Option Addr} {n c : Nat → Nat} {H : Nat → Prop} {g : GS}
theorem GRep.farBelow {X : Nat → Prop} (h : GRep B0 w p U M N A n c H g) (k : Keep X w w') (hX : ∀ b, b < w.heap.size → X b → b < B0) (tab : Tab10 B0 w') : GRep B0 w' p U M N A n c H g := by
 have k' : Keep (fun b => X b ∧ b < w.heap.size) w w' := k.mono fun i hi hx => ⟨hx, hi⟩
 have no : ∀ b, H b → ¬ (fun b => X b ∧ b < w.heap.size) b := fun b hb hx => by
  have h1 := hX b hx.2 hx.1
  have h2 := (h.lo b hb).1
  omega
 refine ⟨h.fam.keep k' fun b hb => no b (h.sub b hb), ?_, ?_, h.map.keep k' (no M h.subM), h.mno, h.nad, h.nd.adv (Adv.of_keep k fun i hi hx => .inl (hX i hi hx)), h.sub, h.subM, fun b hb => ⟨(h.lo b hb).1, Nat.lt_of_lt_of_le (h.lo b hb).2 k.size⟩, h.pU, tab⟩
 ·exact h.ucell.imp fun _ hc => k'.cell ⟨hc, by rw [Addr.add_block]; exact no _ (h.sub _ h.fx_p)⟩
 ·exact k'.cell ⟨h.mcell, by rw [Addr.add_block]; exact no _ (h.sub _ h.fx_p)⟩
theorem tab_more {B B' : Nat} (h : Tab10 B w) (hB : B ≤ B') : Tab10 B' w := fun w' k => h w' ⟨k.os, k.tape, k.output, k.size, fun b hb => k.block b (Nat.lt_of_lt_of_le hb hB)⟩
end
structure Live (W0 B0 : Nat) (w : World) (p : Addr) (fs : List Flat) (H : Nat → Prop) (st : List SaidR) (ms : List Int) : Prop where
 ok : NodesOk W0 fs
 ex : ∃ U M g us, Gr (fs.length * (W0 + 2) + 1) W0 B0 w p U M fs.length H g us ∧ g.nodes = fs ∧ g.stand = st ∧ g.marks.map Mk.said = ms
section
variable {W0 B0 : Nat} {w w' : World} {p : Addr} {fs : List Flat} {H : Nat → Prop} {st : List SaidR} {ms : List Int}
theorem Live.stay (h : Live W0 B0 w p fs H st ms) (k : Ext w w') : Live W0 B0 w' p fs H st ms := by
 obtain ⟨ok, U, M, g, us, ⟨⟨A, n, c, r⟩, l, hN⟩, e⟩ := h
 exact ⟨ok, U, M, g, us, ⟨⟨A, n, c, r.stay k⟩, l, hN⟩, e⟩
theorem Live.far {X : Nat → Prop} (h : Live W0 B0 w p fs H st ms) (k : Keep X w w') (hX : ∀ b, b < w.heap.size → X b → b < B0) (tab : Tab10 B0 w') : Live W0 B0 w' p fs H st ms := by
 obtain ⟨ok, U, M, g, us, ⟨⟨A, n, c, r⟩, l, hN⟩, e⟩ := h
 exact ⟨ok, U, M, g, us, ⟨⟨A, n, c, r.farBelow k hX tab⟩, l, hN⟩, e⟩
theorem Live.lo (h : Live W0 B0 w p fs H st ms) : ∀ b, H b → B0 ≤ b ∧ b < w.heap.size := by
 obtain ⟨ok, U, M, g, us, ⟨⟨A, n, c, r⟩, l, hN⟩, e⟩ := h
 exact r.lo
theorem Live.sound (h : Live W0 B0 w p fs H st ms) : Sound fs := by
 obtain ⟨ok, U, M, g, us, ⟨⟨A, n, c, r⟩, l, hN⟩, rfl, _⟩ := h
 exact l.inv.sound
theorem Live.val (h : Live W0 B0 w p fs H st ms) : ∀ s ∈ st, In2 fs s.a s.b := by
 obtain ⟨ok, U, M, g, us, ⟨⟨A, n, c, r⟩, l, hN⟩, rfl, rfl, _⟩ := h
 intro s hs
 obtain ⟨v1, v2⟩ := l.sem.val s hs
 exact .of v1 v2
theorem Live.wide (h : Live W0 B0 w p fs H st ms) (hs : st.length ≤ 1048575) : ∃ U M A n c g us, GRep B0 w p U M fs.length A n c H g ∧ GLive (fs.length * (W0 + 2) + 1) W0 g us ∧ Wide W0 g ∧ g.nodes = fs ∧ g.stand = st ∧ g.marks.map Mk.said = ms := by
 obtain ⟨ok, U, M, g, us, ⟨⟨A, n, c, r⟩, l, hN⟩, rfl, rfl, e⟩ := h
 have t := ok.tight
 exact ⟨U, M, A, n, c, g, us, r, l, ⟨ok.wide, fun x hx => ok.args hx, by omega, hs⟩, rfl, rfl, e⟩
theorem live_new {A1 : Option Addr} {c1 : Nat} (hx : ∀ w', Ext w w' → Sl cFlat w' A1 fs.length fs) (hB : B0 ≤ w.heap.size) (tab : Tab10 B0 w) (ok : NodesOk W0 fs) :
  Calls P F.euf_New #[.slice A1 fs.length c1] w (Ret fun v w' => (¬ Sound fs ∧ v = .tuple #[.pointer none, .int .i64 80] ∧ Ext w w') ∨ (Sound fs ∧ ∃ p H, v = .tuple #[.pointer (some p), .int .i64 0] ∧ Live W0 B0 w' p fs H [] [] ∧ Adv (fun _ => False) w H w')) := by
 have t := ok.tight
 refine Ret.mono (new_is hx hB tab ok.few ok.i64 ok.wide ok.W (by omega)) ?_
 rintro v w' (⟨h1, h2, h3⟩ | ⟨h1, p, U, M, H, g, us, h2, h3, h4, h5, h6, h7⟩)
 ·exact .inl ⟨h1, h2, h3⟩
 ·exact .inr ⟨h1, p, H, h2, ⟨ok, U, M, g, us, h3, h4, h5, by rw [h6]; rfl⟩, h7⟩
theorem Live.equal {a b t : Int} (h : Live W0 B0 w p fs H st ms) (hs : st.length ≤ 1048576) :
  Calls P F.euf_Graph_Equal #[.pointer (some p), .int .i64 a, .int .i64 b, .int .i64 t] w (Ret fun v w' => ∃ e : Int, v = .int .i64 e ∧ ∃ H', Adv H w H' w' ∧
   ((¬ In2 fs a b ∧ e = 80 ∧ Live W0 B0 w' p fs H' st ms) ∨ (In2 fs a b ∧ e = 0 ∧ Live W0 B0 w' p fs H' (st ++ [⟨a, b, t, false⟩]) ms))) := by
 obtain ⟨ok, U, M, g, us, hg, rfl, rfl, rfl⟩ := h
 refine Ret.mono (equal_is (a := a) (b := b) (t := t) hg (by omega)) ?_
 rintro v w' ⟨e, rfl, H', g', us', k, adv, _, hm, hn, hv, ⟨h1, rfl, rfl, rfl⟩ | ⟨h1, rfl, h2⟩⟩
 ·exact ⟨_, rfl, H', adv, .inl ⟨h1, rfl, ok, U, M, _, _, k, rfl, rfl, rfl⟩⟩
 ·exact ⟨_, rfl, H', adv, .inr ⟨h1, rfl, ok, U, M, g', us', k, hn, h2, by rw [hm]⟩⟩
theorem Live.differ {a b t : Int} (h : Live W0 B0 w p fs H st ms) (hs : st.length ≤ 1048576) :
  Calls P F.euf_Graph_Differ #[.pointer (some p), .int .i64 a, .int .i64 b, .int .i64 t] w (Ret fun v w' => ∃ e : Int, v = .int .i64 e ∧ ∃ H', Adv H w H' w' ∧
   ((¬ In2 fs a b ∧ e = 80 ∧ Live W0 B0 w' p fs H' st ms) ∨ (In2 fs a b ∧ e = 0 ∧ Live W0 B0 w' p fs H' (st ++ [⟨a, b, t, true⟩]) ms))) := by
 obtain ⟨ok, U, M, g, us, ⟨⟨A, n, c, r⟩, l, hN⟩, rfl, rfl, rfl⟩ := h
 refine Ret.mono (differ_is (a := a) (b := b) (t := t) r (by omega)) ?_
 rintro v w' ⟨e, rfl, A', n', c', H', g', k, adv, _, ⟨h1, rfl, rfl⟩ | ⟨h1, rfl, rfl⟩⟩
 ·exact ⟨_, rfl, H', adv, .inl ⟨h1, rfl, ok, U, M, _, us, ⟨⟨A', n', c', k⟩, l, hN⟩, rfl, rfl, rfl⟩⟩
 ·have h1' : There g a b := h1
  exact ⟨_, rfl, H', adv, .inr ⟨h1, rfl, ok, U, M, _, us, ⟨⟨A', n', c', k⟩, l.differ ⟨h1'.1, h1'.2.2.1⟩ ⟨h1'.2.1, h1'.2.2.2⟩, hN⟩, rfl, rfl, rfl⟩⟩
theorem Live.push (h : Live W0 B0 w p fs H st ms) (hm : ms.length ≤ 1048576) :
  Calls P F.euf_Graph_Push #[.pointer (some p)] w (Ret fun v w' => v = .tuple #[] ∧ ∃ H', Adv H w H' w' ∧ Live W0 B0 w' p fs H' st (ms ++ [(st.length : Int)])) := by
 obtain ⟨ok, U, M, g, us, ⟨⟨A, n, c, r⟩, l, hN⟩, rfl, rfl, rfl⟩ := h
 rw [List.length_map] at hm
 refine Ret.mono (push_is r (by omega)) ?_
 rintro v w' ⟨rfl, A', n', c', H', k, adv, _⟩
 exact ⟨rfl, H', adv, ok, U, M, _, us, ⟨⟨A', n', c', k⟩, l.push, hN⟩, rfl, rfl, by simp⟩
def popS (st : List SaidR) (ms : List Int) (k : Int) : List SaidR × List Int :=
 if 0 < k ∧ k ≤ ms.length then (st.take (ms.getD (ms.length - k.toNat) 0).toNat, ms.take (ms.length - k.toNat)) else (st, ms)
theorem Live.pop {k : Int} (h : Live W0 B0 w p fs H st ms) (hs : st.length ≤ 1048576) (hm : ms.length ≤ 1048576) (hk : I64 k) :
  Calls P F.euf_Graph_Pop #[.pointer (some p), .int .i64 k] w (Ret fun v w' => ∃ e : Int, v = .int .i64 e ∧ ∃ H', Adv H w H' w' ∧ ((k < 0 ∨ ms.length < k) ∧ e = 81 ∨ ¬ (k < 0 ∨ ms.length < k) ∧ e = 0) ∧ Live W0 B0 w' p fs H' (popS st ms k).1 (popS st ms k).2) := by
 obtain ⟨ok, U, M, g, us, hg, rfl, rfl, rfl⟩ := h
 rw [List.length_map] at hm
 refine Ret.mono (pop_is hg (by omega) (by omega) hk) ?_
 unfold popS
 rw [List.length_map]
 rintro v w' ⟨e, rfl, H', g', us', q, adv, _, hn, hv, ⟨h1, rfl, rfl, rfl⟩ | ⟨h1, rfl, rfl, rfl⟩ | ⟨h1, h2, rfl, h3, m, h4, h5⟩⟩
 ·refine ⟨_, rfl, H', adv, .inl ⟨h1, rfl⟩, ok, U, M, _, _, q, rfl, ?_⟩
  rw [if_neg (by omega)]
  exact ⟨rfl, rfl⟩
 ·refine ⟨_, rfl, H', adv, .inr ⟨by omega, rfl⟩, ok, U, M, _, _, q, rfl, ?_⟩
  rw [if_neg (by omega)]
  exact ⟨rfl, rfl⟩
 ·refine ⟨_, rfl, H', adv, .inr ⟨by omega, rfl⟩, ok, U, M, g', us', q, hn, ?_⟩
  rw [if_pos ⟨h1, h2⟩]
  refine ⟨?_, ?_⟩
  ·rw [h5, List.getD_eq_getElem?_getD, List.getElem?_map, h4]
   rfl
  ·rw [h3, List.map_take]
theorem Live.why {a b : Int} (h : Live W0 B0 w p fs H st ms) (hs : st.length ≤ 1048575) :
  Calls P F.euf_Graph_Why #[.pointer (some p), .int .i64 a, .int .i64 b] w (Ret fun v w' => ∃ B m d e, v = .tuple #[.slice B m d, .int .i64 e] ∧ Ext w w' ∧ ((¬ In2 fs a b ∧ e = 80 ∧ m = 0) ∨ (In2 fs a b ∧ ¬ SameBy fs st a b ∧ e = 82 ∧ m = 0) ∨
   (In2 fs a b ∧ SameBy fs st a b ∧ e = 0 ∧ ∃ out, m = out.length ∧ Row w' w.heap.size T.int 1 B out.length d (out.map iv) ∧ Bare (fun tags => SameBy fs (pick st tags) a b) out))) := by
 obtain ⟨U, M, A, n, c, g, us, r, l, wd, rfl, rfl, rfl⟩ := h.wide hs
 exact why_is r l wd
theorem Live.prove {a b : Int} (h : Live W0 B0 w p fs H st ms) (hs : st.length ≤ 1048575) :
  Calls P F.euf_Graph_Prove #[.pointer (some p), .int .i64 a, .int .i64 b] w (Ret fun v w' => ∃ B m d e, v = .tuple #[.slice B m d, .int .i64 e] ∧ Ext w w' ∧ ((¬ In2 fs a b ∧ e = 80 ∧ m = 0) ∨ (In2 fs a b ∧ ¬ SameBy fs st a b ∧ e = 82 ∧ m = 0) ∨
   (In2 fs a b ∧ SameBy fs st a b ∧ e = 0 ∧ ∃ ls lv, m = ls.length ∧ ls.length ≤ 1099511627776 ∧ Row w' w.heap.size T.api_Link 5 B ls.length d lv ∧ St (At B) w' (fun w => SlV cLink w lv ls) ∧ AllOk fs st ls ∧ ∃ last, ls[ls.length - 1]? = some last ∧ last.a = a ∧ last.b = b))) := by
 obtain ⟨U, M, A, n, c, g, us, r, l, wd, rfl, rfl, rfl⟩ := h.wide hs
 exact prove_is r l wd (h.ok.tight)
theorem Live.same {a b : Int} (h : Live W0 B0 w p fs H st ms) :
  Calls P F.euf_Graph_Same #[.pointer (some p), .int .i64 a, .int .i64 b] w (Ret fun v w' => ∃ (r : Bool) (e : Int), v = .tuple #[.bool r, .int .i64 e] ∧ ((¬ In2 fs a b ∧ r = false ∧ e = 80) ∨ (In2 fs a b ∧ e = 0 ∧ (r = true ↔ SameBy fs st a b))) ∧ Ext w w') := by
 obtain ⟨ok, U, M, g, us, ⟨⟨A, n, c, r⟩, l, hN⟩, rfl, rfl, rfl⟩ := h
 refine Ret.mono (same_is r fun x h0 h1 => ⟨_, vn_some (d := -1) l.inv.cls.lfirst ⟨h0, h1⟩⟩) ?_
 rintro v w' ⟨q, e, rfl, hh, hd⟩
 refine ⟨q, e, rfl, hh.imp (fun k => k) fun ⟨k1, k2, k3⟩ => ⟨k1, k2, k3.trans ?_⟩, Ext.of_drawn hd⟩
 have va : Vn g.nodes.length a := ⟨k1.1, k1.2.2.1⟩
 have vb : Vn g.nodes.length b := ⟨k1.2.1, k1.2.2.2⟩
 have ha := vn_some (d := -1) l.inv.cls.lfirst va
 have hb := vn_some (d := -1) l.inv.cls.lfirst vb
 rw [← Gr.same_iff l va vb, ha, hb]
 exact ⟨fun q => Option.some.inj q, fun q => congrArg some q⟩
theorem Live.apart {a b : Int} (h : Live W0 B0 w p fs H st ms) (hs : st.length ≤ 1048576) :
  Calls P F.euf_Graph_Apart #[.pointer (some p), .int .i64 a, .int .i64 b] w (Ret fun v w' => ∃ (r : Bool) (e : Int), v = .tuple #[.bool r, .int .i64 e] ∧ ((¬ In2 fs a b ∧ r = false ∧ e = 80) ∨ (In2 fs a b ∧ e = 0 ∧ (r = true ↔ ApartBy fs st a b))) ∧ Ext w w') := by
 obtain ⟨ok, U, M, g, us, ⟨⟨A, n, c, r⟩, l, hN⟩, rfl, rfl, rfl⟩ := h
 refine Ret.mono (apart_is r (known_of l (by unfold Sm; omega)) a b) ?_
 rintro v w' ⟨q, e, rfl, hh, hd⟩
 exact ⟨q, e, rfl, hh.imp (fun k => k) fun ⟨k1, k2, k3⟩ => ⟨k1, k2, k3.trans (apart_iff l ⟨k1.1, k1.2.2.1⟩ ⟨k1.2.1, k1.2.2.2⟩)⟩, hd⟩
theorem Live.clash (h : Live W0 B0 w p fs H st ms) (hs : st.length ≤ 1048576) :
  Calls P F.euf_Graph_Clash #[.pointer (some p)] w (Ret fun v w' => ∃ b, v = .bool b ∧ (b = true ↔ ClashBy fs st) ∧ Ext w w') := by
 obtain ⟨ok, U, M, g, us, ⟨⟨A, n, c, r⟩, l, hN⟩, rfl, rfl, rfl⟩ := h
 refine Ret.mono (clash_is r (known_of l (by unfold Sm; omega))) ?_
 rintro v w' ⟨q, rfl, hh, hd⟩
 exact ⟨q, rfl, hh.trans (clash_iff l), hd⟩
structure RootsAre (fs : List Flat) (st : List SaidR) (r : List Int) : Prop where
 len : r.length = fs.length
 at_ : ∀ (i : Nat) x, r[i]? = some x → SameBy fs st i x ∧ ∀ y, SameBy fs st i y → x ≤ y
theorem RootsAre.uniq {r r' : List Int} {st' : List SaidR} (h : RootsAre fs st r) (k : RootsAre fs st' r') (he : ∀ x y, SameBy fs st x y ↔ SameBy fs st' x y) : r = r' := by
 refine List.ext_getElem? fun i => ?_
 rcases Nat.lt_or_ge i fs.length with hi | hi
 ·have h1 := List.getElem?_eq_getElem (l := r) (i := i) (by rw [h.len]; exact hi)
  have h2 := List.getElem?_eq_getElem (l := r') (i := i) (by rw [k.len]; exact hi)
  obtain ⟨a1, a2⟩ := h.at_ i _ h1
  obtain ⟨b1, b2⟩ := k.at_ i _ h2
  have c1 := a2 _ ((he _ _).2 b1)
  have c2 := b2 _ ((he _ _).1 a1)
  rw [h1, h2]
  exact congrArg some (Int.le_antisymm c1 c2)
 ·rw [List.getElem?_eq_none (by rw [h.len]; exact hi), List.getElem?_eq_none (by rw [k.len]; exact hi)]
theorem Live.roots (h : Live W0 B0 w p fs H st ms) (hs : st.length ≤ 1048576) :
  Calls P F.euf_Graph_Roots #[.pointer (some p)] w (Ret fun v w' => ∃ B d r, v = .slice B fs.length d ∧ Own w' w.heap.size T.int 1 B fs.length d (r.map iv) ∧ RootsAre fs st r ∧ Ext w w') := by
 obtain ⟨ok, U, M, g, us, ⟨⟨A, n, c, r⟩, l, hN⟩, rfl, rfl, rfl⟩ := h
 have cl := l.inv.cls
 refine Ret.mono (roots_is r (known_of l (by unfold Sm; omega)) (by have := ok.few; unfold Sm; omega) fun x h0 h1 => ?_) ?_
 ·have := cl.root x ⟨h0, h1⟩
  exact ⟨this.1.1, _, vn_some (d := 0) cl.lleast this.1⟩
 ·rintro v w' ⟨B, d, rfl, hO, hE⟩
  refine ⟨B, d, rootsL g, rfl, hO, ⟨by simp [rootsL], fun i x hx => ?_⟩, hE⟩
  have hi : i < g.nodes.length := by
   have := (List.getElem?_eq_some_iff.1 hx).1
   simpa [rootsL] using this
  have vi : Vn g.nodes.length (i : Int) := ⟨by omega, by omega⟩
  simp only [rootsL, List.getElem?_map] at hx
  rw [List.getElem?_range hi] at hx
  simp only [Option.map_some, Option.some.injEq] at hx
  obtain ⟨v1, v2⟩ := cl.root i vi
  obtain ⟨_, k2, _, k4, k5⟩ := cl.cyOf v1 v2
  have e : leastAt g (fd g i) = x := hx
  rw [e] at k4 k5
  obtain ⟨vx, fx⟩ := (k2 x).1 k4
  refine ⟨(Gr.same_iff l vi vx).1 fx.symm, fun y hy => ?_⟩
  have vy := (CC.val hy).2
  exact k5 y ((k2 y).2 ⟨vy, ((Gr.same_iff l vi vy).2 hy).symm⟩)
end
end Go.Proofs.YtnbakpoahcndpaaDoor
namespace Go.Proofs.YtnbakpoahcndpaaDoor
set_option linter.unusedVariables false
set_option linter.unusedSimpArgs false
set_option maxHeartbeats 2000000
set_option maxRecDepth 20000
open Wk
def vc_arbiterlaw13_played_J1 (k1 : Nat) (I1 : Nat → Int → World → Prop) (x3 : Int) (w8 : World) : Prop :=
 ∃ k2, k2 < k1 ∧ I1 k2 (IntKind.wrap .i64 (x3 + 1)) w8
def vc_arbiterlaw13_played_J2 (K : Option Addr → World → Prop) (n2 : Nat) (A2 : Option Addr) (q2 : Option Addr) (b1 : Bool) (w3 : World) : Prop :=
 (b1 = true → (K none w3)) ∧ (b1 = false → (∃ I1 : Nat → Int → World → Prop, (∃ k1, I1 k1 0 w3) ∧ ∀ k1 (x3 : Int) (w4 : World), I1 k1 x3 w4 → ((x3 < (n2 : Int) → (0 ≤ x3 ∧ x3 < (n2 : Int) ∧ ∃ a1, A2 = some a1 ∧ ∃ x4, ∃ b2, ∃ x5, ∃ x6, ∃ x7, CellsAt w4 (a1.add (x3.toNat * 5)) [(.int .i64 x4), (.bool b2), (.int .i64 x5), (.int .i64 x6), (.int .i64 x7)] ∧ ∀ (p1 : Addr) (w5 : World), New w4 (.cells #[(.int .i64 0), (.bool false), (.int .i64 0), (.int .i64 0), (.int .i64 0)] T.arbiterlaw13_Op) p1 w5 → (Soft w5 p1 5 ∧ ∀ w6, w6 = setCellsAt w5 p1 [(.int .i64 x4), (.bool b2), (.int .i64 x5), (.int .i64 x6), (.int .i64 x7)] → (∃ x8, w6.cell? (p1.add 0) = some (.int .i64 x8) ∧ (x8 = 1 → (∃ x9, w6.cell? (p1.add 2) = some (.int .i64 x9) ∧ ∃ x10, w6.cell? (p1.add 3) = some (.int .i64 x10) ∧ ∃ x11, w6.cell? (p1.add 4) = some (.int .i64 x11) ∧ Calls P F.euf_Graph_Equal #[(.pointer q2), (.int .i64 x9), (.int .i64 x10), (.int .i64 x11)] w6 (Ret fun v3 w7 => ∃ x12, v3 = (.int .i64 x12) ∧ (vc_arbiterlaw13_played_J1 k1 I1 x3) w7))) ∧ (¬ (x8 = 1) → ((x8 = 2 → (∃ x13, w6.cell? (p1.add 2) = some (.int .i64 x13) ∧ ∃ x14, w6.cell? (p1.add 3) = some (.int .i64 x14) ∧ ∃ x15, w6.cell? (p1.add 4) = some (.int .i64 x15) ∧ Calls P F.euf_Graph_Differ #[(.pointer q2), (.int .i64 x13), (.int .i64 x14), (.int .i64 x15)] w6 (Ret fun v4 w9 => ∃ x16, v4 = (.int .i64 x16) ∧ (vc_arbiterlaw13_played_J1 k1 I1 x3) w9))) ∧ (¬ (x8 = 2) → ((x8 = 3 → (Calls P F.euf_Graph_Push #[(.pointer q2)] w6 (Ret fun v5 w10 => v5 = (.tuple #[]) ∧ (vc_arbiterlaw13_played_J1 k1 I1 x3) w10))) ∧ (¬ (x8 = 3) → ((x8 = 4 → (∃ x17, w6.cell? (p1.add 2) = some (.int .i64 x17) ∧ Calls P F.euf_Graph_Pop #[(.pointer q2), (.int .i64 x17)] w6 (Ret fun v6 w11 => ∃ x18, v6 = (.int .i64 x18) ∧ (vc_arbiterlaw13_played_J1 k1 I1 x3) w11))) ∧ (¬ (x8 = 4) → ((x8 = 9 → (∃ x19, w6.cell? (p1.add 2) = some (.int .i64 x19) ∧ ∃ x20, w6.cell? (p1.add 3) = some (.int .i64 x20) ∧ Calls P F.euf_Graph_Why #[(.pointer q2), (.int .i64 x19), (.int .i64 x20)] w6 (Ret fun v7 w12 => ∃ A3 n3 c3, ∃ x21, v7 = (.tuple #[(.slice A3 n3 c3), (.int .i64 x21)]) ∧ (vc_arbiterlaw13_played_J1 k1 I1 x3) w12))) ∧ (¬ (x8 = 9) → ((x8 = 5 → (Calls P F.euf_Graph_Roots #[(.pointer q2)] w6 (Ret fun v8 w13 => ∃ A4 n4 c4, v8 = (.slice A4 n4 c4) ∧ (vc_arbiterlaw13_played_J1 k1 I1 x3) w13))) ∧ (¬ (x8 = 5) → ((x8 = 12 → (∃ x22, w6.cell? (p1.add 2) = some (.int .i64 x22) ∧ ∃ x23, w6.cell? (p1.add 3) = some (.int .i64 x23) ∧ Calls P F.euf_Graph_Prove #[(.pointer q2), (.int .i64 x22), (.int .i64 x23)] w6 (Ret fun v9 w14 => ∃ A5 n5 c5, ∃ x24, v9 = (.tuple #[(.slice A5 n5 c5), (.int .i64 x24)]) ∧ (vc_arbiterlaw13_played_J1 k1 I1 x3) w14))) ∧ (¬ (x8 = 12) → ((vc_arbiterlaw13_played_J1 k1 I1 x3) w6)))))))))))))))))) ∧ (¬ (x3 < (n2 : Int)) → (K q2 w4)))))
def vc_arbiterlaw13_played (A1 : Option Addr) (n1 c1 : Nat) (A2 : Option Addr) (n2 c2 : Nat) (K : Option Addr → World → Prop) (w : World) : Prop :=
 Calls P F.euf_New #[(.slice A1 n1 c1)] w (Ret fun v1 w1 => ∃ q2, ∃ x1, v1 = (.tuple #[(.pointer q2), (.int .i64 x1)]) ∧ Calls P F.arbiterlaw13_no #[(.int .i64 x1)] w1 (Ret fun v2 w2 => ∃ x2, v2 = (.int .i64 x2) ∧ (x2 ≠ 0 → ((vc_arbiterlaw13_played_J2 K n2 A2 q2) true w2)) ∧ (¬ (x2 ≠ 0) → ((vc_arbiterlaw13_played_J2 K n2 A2 q2) (decide (q2 = none)) w2))))
theorem ok_arbiterlaw13_played (A1 : Option Addr) (n1 c1 : Nat) (A2 : Option Addr) (n2 c2 : Nat) (K : Option Addr → World → Prop) (w : World) (H : vc_arbiterlaw13_played A1 n1 c1 A2 n2 c2 K w) : Calls P F.arbiterlaw13_played #[(.slice A1 n1 c1), (.slice A2 n2 c2)] w (Ret fun v w' => ∃ q1, v = (.pointer q1) ∧ K q1 w') := by
 unfold vc_arbiterlaw13_played at H; refine calls_of (P := P) Tryd.func7 rfl [(0, (.slice A1 n1 c1)), (1, (.slice A2 n2 c2))] 84 rfl rfl (aa rfl (aa rfl az)) (cw_seq (cw_region (ag rfl (sl_nil (nc (kp 0 rfl (kp 1 rfl zz)) (cw_seq (cw_region (mv rfl (sl_call rfl rfl (wanted_none rfl) (fun a ha => x_call0 (ha.ev rfl) (ha.evs rfl) FF.callable_euf_New) H ?_))))))))); rintro _ w1 ⟨q2, x1, rfl, H⟩; refine mv rfl (sv rfl rfl (fun a ha => x_extract (ha.ev rfl) rfl) (sv rfl rfl (fun a ha => x_extract (ha.ev rfl) rfl) (ag rfl (ag rfl (sl_nil (nc (kp 1 rfl (kp 5 rfl (kp 6 rfl zz))) (cw_seq ?_))))))); refine cw_join (fun a w => ∃ b1, Ok 84 [(1, (.slice A2 n2 c2)), (5, (.pointer q2)), (20, (.bool b1))] a ∧ vc_arbiterlaw13_played_J2 K n2 A2 q2 b1 w) ?_ ?_
 ·rintro a w3 ⟨b1, ha, H⟩; unfold vc_arbiterlaw13_played_J2 at H; refine (?_ : CW _ _ _ 84 [(1, (.slice A2 n2 c2)), (5, (.pointer q2)), (20, (.bool b1))] _) a ha; refine cw_cond rfl (fun hb => ?_) (fun hb => ?_)
  ·replace H := H.1 hb; exact cw_seq (cw_region (ag rfl (sl_nil (nc (kp 4 rfl zz) (cw_ret (nx_ret_then (nx_body_ret (res1 rfl rfl) ⟨_, rfl, _, rfl, H⟩)))))))
  ·replace H := H.2 hb; refine cw_skip (nc (kp 1 rfl (kp 5 rfl zz)) (cw_seq (cw_seq (cw_region (ag rfl (sl_nil (nc (kp 1 rfl (kp 5 rfl (kp 7 rfl zz))) (cw_block ?_)))))))); obtain ⟨I1, ⟨k1, hi⟩, H⟩ := H; refine cw_loop (fun k1 a w' => ∃ x3, Ok 84 [(1, (.slice A2 n2 c2)), (5, (.pointer q2)), (7, (.int .i64 x3))] a ∧ I1 k1 x3 w') (fun a ha => ⟨k1, 0, ha.weaken (sub.cons rfl (sub.cons rfl (sub.cons rfl (sub.nil)))), hi⟩) ?_; rintro k1 a w4 ⟨x3, ha, hI⟩; replace H := H k1 x3 w4 hI; refine (?_ : CW _ _ _ 84 [(1, (.slice A2 n2 c2)), (5, (.pointer q2)), (7, (.int .i64 x3))] _) a ha; refine cw_seq (cw_seq (cw_region (mv rfl (mv rfl (sv rfl rfl (fun a ha => x_builtin (ha.evs rfl) (fun _ => l_slice TF.isslice_sl_arbiterlaw13_Op)) (bo rfl rfl o_lss (sl_nil (nc (kp 1 rfl (kp 5 rfl (kp 7 rfl (kp 24 rfl zz)))) ?_)))))))); refine cw_cond_p rfl (fun hb => ?_) (fun hb => ?_)
   ·replace H := H.1 hb; refine cw_skip (nc (kp 1 rfl (kp 5 rfl (kp 7 rfl zz))) ?_); refine cw_join (fun a w => Ok 84 [(1, (.slice A2 n2 c2)), (5, (.pointer q2)), (7, (.int .i64 x3))] a ∧ vc_arbiterlaw13_played_J1 k1 I1 x3  w) ?_ ?_
    ·rintro a w8 ⟨ha, H⟩; unfold vc_arbiterlaw13_played_J1 at H; refine (?_ : CW _ _ _ 84 [(1, (.slice A2 n2 c2)), (5, (.pointer q2)), (7, (.int .i64 x3))] _) a ha; refine cw_region (mv rfl (bo rfl rfl o_add (ag rfl (sl_nil ?_)))); obtain ⟨k2, hk, H⟩ := H; exact nx_to fun a ha => ⟨k2, hk, IntKind.wrap .i64 (x3 + 1), ha.weaken (cn rfl (cn rfl (cn rfl zz))), H⟩
    ·refine cw_block (cw_seq (cw_region (mv rfl (mv rfl ?_)))); obtain ⟨h1, h2, a1, e1, H⟩ := H; refine ix rfl rfl (i_index TF.elem_sl_arbiterlaw13_Op TF.size_arbiterlaw13_Op e1 h1 h2) ?_; obtain ⟨x4, b2, x5, x6, x7, h3, H⟩ := H; refine ld rfl (i_loadN (vs := [(.int .i64 x4), (.bool b2), (.int .i64 x5), (.int .i64 x6), (.int .i64 x7)]) TF.agg_arbiterlaw13_Op TF.size_arbiterlaw13_Op h3) (sl_new (f := (fun p => .pointer (some p))) rfl rfl (wanted_none rfl) (fun a ha => x_alloc (i_alloc TF.zero_arbiterlaw13_Op)) ?_); intro p1 w5 hN; replace H := H _ _ hN; obtain ⟨h5, H⟩ := H; refine sl_un rfl (wanted_none rfl) (fun a ha => x_store (ha.ev rfl) (ha.ev rfl) (i_storeN TF.size_arbiterlaw13_Op (by simp [Value.oneCell']) h5)) ?_; intro w6 hw; replace H := H _ hw; clear hw; refine sl_nil (nc (kp 1 rfl (kp 5 rfl (kp 7 rfl (kp 8 rfl zz)))) (cw_seq (cw_region (fa rfl (TF.fld_arbiterlaw13_Op_0 _ _) ?_)))); obtain ⟨x8, h6, H⟩ := H; refine ld rfl (i_load1 TF.agg_int h6) (sl_nil (nc (kp 1 rfl (kp 5 rfl (kp 7 rfl (kp 8 rfl (kp 32 rfl zz))))) (cw_block (cw_seq (cw_region (bo rfl rfl o_eql (ag rfl (sl_nil (nc (kp 1 rfl (kp 5 rfl (kp 7 rfl (kp 8 rfl (kp 32 rfl (kp 33 rfl zz)))))) ?_))))))))); refine cw_cond_p rfl (fun hb => ?_) (fun hb => ?_)
     ·replace H := H.1 hb; refine cw_region (mv rfl (fa rfl (TF.fld_arbiterlaw13_Op_2 _ _) ?_)); obtain ⟨x9, h7, H⟩ := H; refine ld rfl (i_load1 TF.agg_int h7) (fa rfl (TF.fld_arbiterlaw13_Op_3 _ _) ?_); obtain ⟨x10, h8, H⟩ := H; refine ld rfl (i_load1 TF.agg_int h8) (fa rfl (TF.fld_arbiterlaw13_Op_4 _ _) ?_); obtain ⟨x11, h9, H⟩ := H; refine ld rfl (i_load1 TF.agg_int h9) (sl_call rfl rfl (wanted_none rfl) (fun a ha => x_call0 (ha.ev rfl) (ha.evs rfl) FF.callable_euf_Graph_Equal) H ?_); rintro _ w7 ⟨x12, rfl, H⟩; exact sl_nil (nx_block (nx_block (nx_to fun a ha => ⟨ha.weaken (cn rfl (cn rfl (cn rfl zz))), H⟩)))
     ·replace H := H.2 hb; refine cw_seq (cw_region (bo rfl rfl o_eql (ag rfl (sl_nil (nc (kp 1 rfl (kp 5 rfl (kp 7 rfl (kp 8 rfl (kp 32 rfl (kp 43 rfl zz)))))) ?_))))); refine cw_cond_p rfl (fun hb => ?_) (fun hb => ?_)
      ·replace H := H.1 hb; refine cw_region (mv rfl (fa rfl (TF.fld_arbiterlaw13_Op_2 _ _) ?_)); obtain ⟨x13, h10, H⟩ := H; refine ld rfl (i_load1 TF.agg_int h10) (fa rfl (TF.fld_arbiterlaw13_Op_3 _ _) ?_); obtain ⟨x14, h11, H⟩ := H; refine ld rfl (i_load1 TF.agg_int h11) (fa rfl (TF.fld_arbiterlaw13_Op_4 _ _) ?_); obtain ⟨x15, h12, H⟩ := H; refine ld rfl (i_load1 TF.agg_int h12) (sl_call rfl rfl (wanted_none rfl) (fun a ha => x_call0 (ha.ev rfl) (ha.evs rfl) FF.callable_euf_Graph_Differ) H ?_); rintro _ w9 ⟨x16, rfl, H⟩; exact sl_nil (nx_block (nx_block (nx_to fun a ha => ⟨ha.weaken (cn rfl (cn rfl (cn rfl zz))), H⟩)))
      ·replace H := H.2 hb; refine cw_seq (cw_region (bo rfl rfl o_eql (ag rfl (sl_nil (nc (kp 1 rfl (kp 5 rfl (kp 7 rfl (kp 8 rfl (kp 32 rfl (kp 53 rfl zz)))))) ?_))))); refine cw_cond_p rfl (fun hb => ?_) (fun hb => ?_)
       ·replace H := H.1 hb; refine cw_region (mv rfl (sl_call rfl rfl (wanted_none rfl) (fun a ha => x_call0 (ha.ev rfl) (ha.evs rfl) FF.callable_euf_Graph_Push) H ?_)); rintro _ w10 ⟨rfl, H⟩; exact sl_nil (nx_block (nx_block (nx_to fun a ha => ⟨ha.weaken (cn rfl (cn rfl (cn rfl zz))), H⟩)))
       ·replace H := H.2 hb; refine cw_seq (cw_region (bo rfl rfl o_eql (ag rfl (sl_nil (nc (kp 1 rfl (kp 5 rfl (kp 7 rfl (kp 8 rfl (kp 32 rfl (kp 57 rfl zz)))))) ?_))))); refine cw_cond_p rfl (fun hb => ?_) (fun hb => ?_)
        ·replace H := H.1 hb; refine cw_region (mv rfl (fa rfl (TF.fld_arbiterlaw13_Op_2 _ _) ?_)); obtain ⟨x17, h13, H⟩ := H; refine ld rfl (i_load1 TF.agg_int h13) (sl_call rfl rfl (wanted_none rfl) (fun a ha => x_call0 (ha.ev rfl) (ha.evs rfl) FF.callable_euf_Graph_Pop) H ?_); rintro _ w11 ⟨x18, rfl, H⟩; exact sl_nil (nx_block (nx_block (nx_to fun a ha => ⟨ha.weaken (cn rfl (cn rfl (cn rfl zz))), H⟩)))
        ·replace H := H.2 hb; refine cw_seq (cw_region (bo rfl rfl o_eql (ag rfl (sl_nil (nc (kp 1 rfl (kp 5 rfl (kp 7 rfl (kp 8 rfl (kp 32 rfl (kp 63 rfl zz)))))) ?_))))); refine cw_cond_p rfl (fun hb => ?_) (fun hb => ?_)
         ·replace H := H.1 hb; refine cw_region (mv rfl (fa rfl (TF.fld_arbiterlaw13_Op_2 _ _) ?_)); obtain ⟨x19, h14, H⟩ := H; refine ld rfl (i_load1 TF.agg_int h14) (fa rfl (TF.fld_arbiterlaw13_Op_3 _ _) ?_); obtain ⟨x20, h15, H⟩ := H; refine ld rfl (i_load1 TF.agg_int h15) (sl_call rfl rfl (wanted_none rfl) (fun a ha => x_call0 (ha.ev rfl) (ha.evs rfl) FF.callable_euf_Graph_Why) H ?_); rintro _ w12 ⟨A3, n3, c3, x21, rfl, H⟩; exact sl_nil (nx_block (nx_block (nx_to fun a ha => ⟨ha.weaken (cn rfl (cn rfl (cn rfl zz))), H⟩)))
         ·replace H := H.2 hb; refine cw_seq (cw_region (bo rfl rfl o_eql (ag rfl (sl_nil (nc (kp 1 rfl (kp 5 rfl (kp 7 rfl (kp 8 rfl (kp 32 rfl (kp 71 rfl zz)))))) ?_))))); refine cw_cond_p rfl (fun hb => ?_) (fun hb => ?_)
          ·replace H := H.1 hb; refine cw_region (mv rfl (sl_call rfl rfl (wanted_none rfl) (fun a ha => x_call0 (ha.ev rfl) (ha.evs rfl) FF.callable_euf_Graph_Roots) H ?_)); rintro _ w13 ⟨A4, n4, c4, rfl, H⟩; exact sl_nil (nx_block (nx_block (nx_to fun a ha => ⟨ha.weaken (cn rfl (cn rfl (cn rfl zz))), H⟩)))
          ·replace H := H.2 hb; refine cw_seq (cw_region (bo rfl rfl o_eql (ag rfl (sl_nil (nc (kp 1 rfl (kp 5 rfl (kp 7 rfl (kp 8 rfl (kp 75 rfl zz))))) ?_))))); refine cw_cond_p rfl (fun hb => ?_) (fun hb => ?_)
           ·replace H := H.1 hb; refine cw_region (mv rfl (fa rfl (TF.fld_arbiterlaw13_Op_2 _ _) ?_)); obtain ⟨x22, h16, H⟩ := H; refine ld rfl (i_load1 TF.agg_int h16) (fa rfl (TF.fld_arbiterlaw13_Op_3 _ _) ?_); obtain ⟨x23, h17, H⟩ := H; refine ld rfl (i_load1 TF.agg_int h17) (sl_call rfl rfl (wanted_none rfl) (fun a ha => x_call0 (ha.ev rfl) (ha.evs rfl) FF.callable_euf_Graph_Prove) H ?_); rintro _ w14 ⟨A5, n5, c5, x24, rfl, H⟩; exact sl_nil (nx_block (nx_block (nx_to fun a ha => ⟨ha.weaken (cn rfl (cn rfl (cn rfl zz))), H⟩)))
           ·replace H := H.2 hb; exact cw_skip (nx_block (nx_block (nx_to fun a ha => ⟨ha.weaken (cn rfl (cn rfl (cn rfl zz))), H⟩)))
   ·replace H := H.2 hb; exact cw_exit (nx_exit_then (nx_exit_then (nx_exit_hit (nc (kp 5 rfl zz) (cw_seq (cw_region (mv rfl (ag rfl (sl_nil (nc (kp 4 rfl zz) (cw_ret (nx_body_ret (res1 rfl rfl) ⟨_, rfl, _, rfl, H⟩))))))))))))
 ·refine cw_region (mv rfl (sl_call rfl rfl (wanted_none rfl) (fun a ha => x_call0 (ha.ev rfl) (ha.evs rfl) FF.callable_arbiterlaw13_no) H ?_)); rintro _ w2 ⟨x2, rfl, H⟩; refine bo rfl rfl o_neq ?_; rcases Classical.em (x2 ≠ 0) with hb | hb
  ·replace H := H.1 hb; exact sv rfl rfl (fun a ha => o_t (x_move (ha.ev rfl)) hb) (sk rfl rfl rfl rfl (sk rfl rfl rfl rfl (pt rfl rfl (sl_nil (nx_to fun a ha => ⟨true, ha.weaken (cn rfl (cn rfl (cn rfl zz))), H⟩)))))
  ·replace H := H.2 hb; exact sv rfl rfl (fun a ha => o_f (x_move (ha.ev rfl)) hb) (mvg rfl rfl rfl (bog rfl rfl rfl rfl (o_eql_nil TF.ptr_p_euf_Graph) (pf rfl rfl (sl_nil (nx_to fun a ha => ⟨(decide (q2 = none)), ha.weaken (cn rfl (cn rfl (cn rfl zz))), H⟩)))))
def vc_arbiterlaw13_stands_J1 (w3 : World) (p1 : Addr) (n5 : Nat) (A5 : Option Addr) (c4 : Nat) (c5 : Nat) (jc3 : Option Addr → Nat → Nat → Option Addr → Nat → Nat → World → Prop) (A4 : Option Addr) (n4 : Nat) (b4 : Bool) : Prop :=
 (b4 = true → (∃ x21, w3.cell? (p1.add 2) = some (.int .i64 x21) ∧ 0 ≤ IntKind.wrap .i64 ((n5 : Int) - x21) ∧ IntKind.wrap .i64 ((n5 : Int) - x21) < (n5 : Int) ∧ ∃ a2, A5 = some a2 ∧ ∃ x22, w3.cell? (a2.add ((IntKind.wrap .i64 ((n5 : Int) - x21)).toNat * 1)) = some (.int .i64 x22) ∧ 0 ≤ x22 ∧ x22 ≤ (c4 : Int) ∧ 0 ≤ IntKind.wrap .i64 ((n5 : Int) - x21) ∧ IntKind.wrap .i64 ((n5 : Int) - x21) ≤ (c5 : Int) ∧ jc3 A4 x22.toNat c4 A5 ((IntKind.wrap .i64 ((n5 : Int) - x21)).toNat) c5 w3)) ∧ (b4 = false → (jc3 A4 n4 c4 A5 n5 c5 w3))
def vc_arbiterlaw13_stands_J2 (w3 : World) (p1 : Addr) (A4 : Option Addr) (n4 c4 : Nat) (jc3 : Option Addr → Nat → Nat → Option Addr → Nat → Nat → World → Prop) (A5 : Option Addr) (n5 c5 : Nat) (b3 : Bool) : Prop :=
 (b3 = true → (∃ x13, w3.cell? (p1.add 0) = some (.int .i64 x13) ∧ ∃ x14, w3.cell? (p1.add 2) = some (.int .i64 x14) ∧ ∃ x15, w3.cell? (p1.add 3) = some (.int .i64 x15) ∧ ∃ x16, w3.cell? (p1.add 4) = some (.int .i64 x16) ∧ ∀ (p2 : Addr) (w4 : World), New w3 (.cells #[(.bool (decide (x13 = 2))), (.int .i64 x14), (.int .i64 x15), (.int .i64 x16)] T.arbiterlaw13_Said) p2 w4 → (∃ (A6 : Option Addr) (n6 c6 : Nat) (w5 : World), (Builtin.append_ #[T.sl_arbiterlaw13_Said, T.sl_arbiterlaw13_Said] T.sl_arbiterlaw13_Said #[(.slice A4 n4 c4), (.slice (some p2) 1 1)]).run P w4 = .ok (.slice A6 n6 c6) w5 ∧ (jc3 A6 n6 c6 A5 n5 c5 w5)))) ∧ (b3 = false → (∃ x17, w3.cell? (p1.add 0) = some (.int .i64 x17) ∧ (x17 = 3 → (∀ (p3 : Addr) (w7 : World), New w3 (.cells #[(.int .i64 (n4 : Int))] T.int) p3 w7 → (∃ (A9 : Option Addr) (n9 c9 : Nat) (w8 : World), (Builtin.append_ #[T.sl_int, T.sl_int] T.sl_int #[(.slice A5 n5 c5), (.slice (some p3) 1 1)]).run P w7 = .ok (.slice A9 n9 c9) w8 ∧ (jc3 A4 n4 c4 A9 n9 c9 w8)))) ∧ (¬ (x17 = 3) → (∃ x18, w3.cell? (p1.add 0) = some (.int .i64 x18) ∧ (x18 = 4 → (∃ x19, w3.cell? (p1.add 2) = some (.int .i64 x19) ∧ (0 < x19 → (∃ x20, w3.cell? (p1.add 2) = some (.int .i64 x20) ∧ (vc_arbiterlaw13_stands_J1 w3 p1 n5 A5 c4 c5 jc3 A4 n4) (decide (x20 ≤ (n5 : Int))))) ∧ (¬ (0 < x19) → ((vc_arbiterlaw13_stands_J1 w3 p1 n5 A5 c4 c5 jc3 A4 n4) false)))) ∧ (¬ (x18 = 4) → ((vc_arbiterlaw13_stands_J1 w3 p1 n5 A5 c4 c5 jc3 A4 n4) false))))))
def vc_arbiterlaw13_stands_J3 (w3 : World) (p1 : Addr) (A4 : Option Addr) (n4 c4 : Nat) (jc3 : Option Addr → Nat → Nat → Option Addr → Nat → Nat → World → Prop) (A5 : Option Addr) (n5 c5 : Nat) (b2 : Bool) : Prop :=
 ∃ x11, w3.cell? (p1.add 0) = some (.int .i64 x11) ∧ (x11 = 1 → ((vc_arbiterlaw13_stands_J2 w3 p1 A4 n4 c4 jc3 A5 n5 c5) b2)) ∧ (¬ (x11 = 1) → (∃ x12, w3.cell? (p1.add 0) = some (.int .i64 x12) ∧ (x12 = 2 → ((vc_arbiterlaw13_stands_J2 w3 p1 A4 n4 c4 jc3 A5 n5 c5) b2)) ∧ (¬ (x12 = 2) → ((vc_arbiterlaw13_stands_J2 w3 p1 A4 n4 c4 jc3 A5 n5 c5) false))))
def vc_arbiterlaw13_stands_J4 (k1 : Nat) (I1 : Nat → Option Addr → Nat → Nat → Option Addr → Nat → Nat → Int → World → Prop) (x2 : Int) (A7 : Option Addr) (n7 c7 : Nat) (A8 : Option Addr) (n8 c8 : Nat) (w6 : World) : Prop :=
 ∃ k2, k2 < k1 ∧ I1 k2 A7 n7 c7 A8 n8 c8 (IntKind.wrap .i64 (x2 + 1)) w6
def vc_arbiterlaw13_stands (A1 : Option Addr) (n1 c1 : Nat) (A2 : Option Addr) (n2 c2 : Nat) (K : Option Addr → Nat → Nat → Int → World → Prop) (w : World) : Prop :=
 ∃ I1 : Nat → Option Addr → Nat → Nat → Option Addr → Nat → Nat → Int → World → Prop, (∃ k1, I1 k1 none 0 0 none 0 0 0 w) ∧ ∀ k1 (A4 : Option Addr) (n4 c4 : Nat) (A5 : Option Addr) (n5 c5 : Nat) (x2 : Int) (w1 : World), I1 k1 A4 n4 c4 A5 n5 c5 x2 w1 → ((x2 < (n2 : Int) → (0 ≤ x2 ∧ x2 < (n2 : Int) ∧ ∃ a1, A2 = some a1 ∧ ∃ x3, ∃ b1, ∃ x4, ∃ x5, ∃ x6, CellsAt w1 (a1.add (x2.toNat * 5)) [(.int .i64 x3), (.bool b1), (.int .i64 x4), (.int .i64 x5), (.int .i64 x6)] ∧ ∀ (p1 : Addr) (w2 : World), New w1 (.cells #[(.int .i64 0), (.bool false), (.int .i64 0), (.int .i64 0), (.int .i64 0)] T.arbiterlaw13_Op) p1 w2 → (Soft w2 p1 5 ∧ ∀ w3, w3 = setCellsAt w2 p1 [(.int .i64 x3), (.bool b1), (.int .i64 x4), (.int .i64 x5), (.int .i64 x6)] → (∃ x7, w3.cell? (p1.add 2) = some (.int .i64 x7) ∧ (0 ≤ x7 → (∃ x8, w3.cell? (p1.add 2) = some (.int .i64 x8) ∧ (x8 < (n1 : Int) → (∃ x9, w3.cell? (p1.add 3) = some (.int .i64 x9) ∧ (0 ≤ x9 → (∃ x10, w3.cell? (p1.add 3) = some (.int .i64 x10) ∧ (vc_arbiterlaw13_stands_J3 w3 p1 A4 n4 c4 (vc_arbiterlaw13_stands_J4 k1 I1 x2) A5 n5 c5) (decide (x10 < (n1 : Int))))) ∧ (¬ (0 ≤ x9) → ((vc_arbiterlaw13_stands_J3 w3 p1 A4 n4 c4 (vc_arbiterlaw13_stands_J4 k1 I1 x2) A5 n5 c5) false)))) ∧ (¬ (x8 < (n1 : Int)) → ((vc_arbiterlaw13_stands_J3 w3 p1 A4 n4 c4 (vc_arbiterlaw13_stands_J4 k1 I1 x2) A5 n5 c5) false)))) ∧ (¬ (0 ≤ x7) → ((vc_arbiterlaw13_stands_J3 w3 p1 A4 n4 c4 (vc_arbiterlaw13_stands_J4 k1 I1 x2) A5 n5 c5) false)))))) ∧ (¬ (x2 < (n2 : Int)) → (K A4 n4 c4 (n5 : Int) w1)))
theorem ok_arbiterlaw13_stands (A1 : Option Addr) (n1 c1 : Nat) (A2 : Option Addr) (n2 c2 : Nat) (K : Option Addr → Nat → Nat → Int → World → Prop) (w : World) (H : vc_arbiterlaw13_stands A1 n1 c1 A2 n2 c2 K w) : Calls P F.arbiterlaw13_stands #[(.slice A1 n1 c1), (.slice A2 n2 c2)] w (Ret fun v w' => ∃ A3 n3 c3, ∃ x1, v = (.tuple #[(.slice A3 n3 c3), (.int .i64 x1)]) ∧ K A3 n3 c3 x1 w') := by
 unfold vc_arbiterlaw13_stands at H; refine calls_of (P := P) Tryd.func10 rfl [(0, (.slice A1 n1 c1)), (1, (.slice A2 n2 c2))] 111 rfl rfl (aa rfl (aa rfl az)) (cw_seq (cw_region (ag rfl (ag rfl (sl_nil (nc (kp 0 rfl (kp 1 rfl zz)) (cw_seq (cw_region (ag rfl (sl_nil (nc (kp 0 rfl (kp 1 rfl (kp 6 rfl zz))) (cw_seq (cw_region (ag rfl (sl_nil (nc (kp 0 rfl (kp 1 rfl (kp 6 rfl (kp 7 rfl zz)))) (cw_seq (cw_seq (cw_region (ag rfl (sl_nil (nc (kp 0 rfl (kp 1 rfl (kp 6 rfl (kp 7 rfl (kp 8 rfl zz))))) (cw_block ?_))))))))))))))))))))))); obtain ⟨I1, ⟨k1, hi⟩, H⟩ := H; refine cw_loop (fun k1 a w' => ∃ A4 n4 c4, ∃ A5 n5 c5, ∃ x2, Ok 111 [(0, (.slice A1 n1 c1)), (1, (.slice A2 n2 c2)), (6, (.slice A4 n4 c4)), (7, (.slice A5 n5 c5)), (8, (.int .i64 x2))] a ∧ I1 k1 A4 n4 c4 A5 n5 c5 x2 w') (fun a ha => ⟨k1, none, 0, 0, none, 0, 0, 0, ha.weaken (sub.cons rfl (sub.cons rfl (sub.cons rfl (sub.cons rfl (sub.cons rfl (sub.nil)))))), hi⟩) ?_; rintro k1 a w1 ⟨A4, n4, c4, A5, n5, c5, x2, ha, hI⟩; replace H := H k1 A4 n4 c4 A5 n5 c5 x2 w1 hI; refine (?_ : CW _ _ _ 111 [(0, (.slice A1 n1 c1)), (1, (.slice A2 n2 c2)), (6, (.slice A4 n4 c4)), (7, (.slice A5 n5 c5)), (8, (.int .i64 x2))] _) a ha; refine cw_seq (cw_seq (cw_region (mv rfl (mv rfl (sv rfl rfl (fun a ha => x_builtin (ha.evs rfl) (fun _ => l_slice TF.isslice_sl_arbiterlaw13_Op)) (bo rfl rfl o_lss (sl_nil (nc (kp 0 rfl (kp 1 rfl (kp 6 rfl (kp 7 rfl (kp 8 rfl (kp 15 rfl zz)))))) ?_)))))))); refine cw_cond_p rfl (fun hb => ?_) (fun hb => ?_)
 ·replace H := H.1 hb; refine cw_skip (nc (kp 0 rfl (kp 1 rfl (kp 6 rfl (kp 7 rfl (kp 8 rfl zz))))) ?_); refine cw_join (fun a w => ∃ A7 n7 c7, ∃ A8 n8 c8, Ok 111 [(0, (.slice A1 n1 c1)), (1, (.slice A2 n2 c2)), (6, (.slice A7 n7 c7)), (7, (.slice A8 n8 c8)), (8, (.int .i64 x2))] a ∧ vc_arbiterlaw13_stands_J4 k1 I1 x2 A7 n7 c7 A8 n8 c8 w) ?_ ?_
  ·rintro a w6 ⟨A7, n7, c7, A8, n8, c8, ha, H⟩; unfold vc_arbiterlaw13_stands_J4 at H; refine (?_ : CW _ _ _ 111 [(0, (.slice A1 n1 c1)), (1, (.slice A2 n2 c2)), (6, (.slice A7 n7 c7)), (7, (.slice A8 n8 c8)), (8, (.int .i64 x2))] _) a ha; refine cw_region (mv rfl (bo rfl rfl o_add (ag rfl (sl_nil ?_)))); obtain ⟨k2, hk, H⟩ := H; exact nx_to fun a ha => ⟨k2, hk, A7, n7, c7, A8, n8, c8, IntKind.wrap .i64 (x2 + 1), ha.weaken (cn rfl (cn rfl (cn rfl (cn rfl (cn rfl zz))))), H⟩
  ·refine cw_block (cw_seq (cw_region (mv rfl (mv rfl ?_)))); obtain ⟨h1, h2, a1, e1, H⟩ := H; refine ix rfl rfl (i_index TF.elem_sl_arbiterlaw13_Op TF.size_arbiterlaw13_Op e1 h1 h2) ?_; obtain ⟨x3, b1, x4, x5, x6, h3, H⟩ := H; refine ld rfl (i_loadN (vs := [(.int .i64 x3), (.bool b1), (.int .i64 x4), (.int .i64 x5), (.int .i64 x6)]) TF.agg_arbiterlaw13_Op TF.size_arbiterlaw13_Op h3) (sl_new (f := (fun p => .pointer (some p))) rfl rfl (wanted_none rfl) (fun a ha => x_alloc (i_alloc TF.zero_arbiterlaw13_Op)) ?_); intro p1 w2 hN; replace H := H _ _ hN; obtain ⟨h5, H⟩ := H; refine sl_un rfl (wanted_none rfl) (fun a ha => x_store (ha.ev rfl) (ha.ev rfl) (i_storeN TF.size_arbiterlaw13_Op (by simp [Value.oneCell']) h5)) ?_; intro w3 hw; replace H := H _ hw; clear hw; refine sl_nil (nc (kp 0 rfl (kp 1 rfl (kp 6 rfl (kp 7 rfl (kp 8 rfl (kp 9 rfl zz)))))) ?_); refine cw_join_still (fun a => ∃ b2, Ok 111 [(0, (.slice A1 n1 c1)), (1, (.slice A2 n2 c2)), (6, (.slice A4 n4 c4)), (7, (.slice A5 n5 c5)), (8, (.int .i64 x2)), (9, (.pointer (some p1))), (10, (.bool b2))] a ∧ vc_arbiterlaw13_stands_J3 w3 p1 A4 n4 c4 (vc_arbiterlaw13_stands_J4 k1 I1 x2) A5 n5 c5 b2) ?_ ?_
   ·rintro a ⟨b2, ha, H⟩; unfold vc_arbiterlaw13_stands_J3 at H; refine (?_ : CW _ _ _ 111 [(0, (.slice A1 n1 c1)), (1, (.slice A2 n2 c2)), (6, (.slice A4 n4 c4)), (7, (.slice A5 n5 c5)), (8, (.int .i64 x2)), (9, (.pointer (some p1))), (10, (.bool b2))] _) a ha; refine cw_block ?_; refine cw_join_still (fun a => ∃ b3, Ok 111 [(0, (.slice A1 n1 c1)), (1, (.slice A2 n2 c2)), (6, (.slice A4 n4 c4)), (7, (.slice A5 n5 c5)), (8, (.int .i64 x2)), (9, (.pointer (some p1))), (44, (.bool b3))] a ∧ vc_arbiterlaw13_stands_J2 w3 p1 A4 n4 c4 (vc_arbiterlaw13_stands_J4 k1 I1 x2) A5 n5 c5 b3) ?_ ?_
    ·rintro a ⟨b3, ha, H⟩; unfold vc_arbiterlaw13_stands_J2 at H; refine (?_ : CW _ _ _ 111 [(0, (.slice A1 n1 c1)), (1, (.slice A2 n2 c2)), (6, (.slice A4 n4 c4)), (7, (.slice A5 n5 c5)), (8, (.int .i64 x2)), (9, (.pointer (some p1))), (44, (.bool b3))] _) a ha; refine cw_cond rfl (fun hb => ?_) (fun hb => ?_)
     ·replace H := H.1 hb; refine cw_region (mv rfl (fa rfl (TF.fld_arbiterlaw13_Op_0 _ _) ?_)); obtain ⟨x13, h12, H⟩ := H; refine ld rfl (i_load1 TF.agg_int h12) (bo rfl rfl o_eql (fa rfl (TF.fld_arbiterlaw13_Op_2 _ _) ?_)); obtain ⟨x14, h13, H⟩ := H; refine ld rfl (i_load1 TF.agg_int h13) (fa rfl (TF.fld_arbiterlaw13_Op_3 _ _) ?_); obtain ⟨x15, h14, H⟩ := H; refine ld rfl (i_load1 TF.agg_int h14) (fa rfl (TF.fld_arbiterlaw13_Op_4 _ _) ?_); obtain ⟨x16, h15, H⟩ := H; refine ld rfl (i_load1 TF.agg_int h15) (sv rfl rfl (fun a ha => x_buildP (u := (.agg #[(.bool (decide (x13 = 2))), (.int .i64 x14), (.int .i64 x15), (.int .i64 x16)])) (qs := [(0, (.bool (decide (x13 = 2)))), (1, (.int .i64 x14)), (2, (.int .i64 x15)), (3, (.int .i64 x16))]) (by simp only [List.map_cons, List.map_nil, ha.ev (x := (.tmp 59)) rfl, ha.ev (x := (.tmp 61)) rfl, ha.ev (x := (.tmp 63)) rfl, ha.ev (x := (.tmp 65)) rfl]) (by kernel_rfl)) (sl_new (f := (fun p => .slice (some p) 1 1)) rfl rfl (wanted_none rfl) (fun a ha => x_buildSlice (u := .slice (some ⟨_, 0, none⟩) 1 1) (w' := World.alloc _ (.cells #[(.bool (decide (x13 = 2))), (.int .i64 x14), (.int .i64 x15), (.int .i64 x16)] T.arbiterlaw13_Said)) (qs := [(0, (.agg #[(.bool (decide (x13 = 2))), (.int .i64 x14), (.int .i64 x15), (.int .i64 x16)]))]) (by simp only [List.map_cons, List.map_nil, ha.ev (x := (.tmp 66)) rfl]) (by kernel_rfl)) ?_)); intro p2 w4 hN; replace H := H _ _ hN; obtain ⟨A6, n6, c6, w5, h16, H⟩ := H; exact sv rfl rfl (fun a ha => x_builtin (ha.evs rfl) (fun _ => bi_append h16)) (ag rfl (sl_nil (nx_block (nx_block (nx_to fun a ha => ⟨A6, n6, c6, A5, n5, c5, ha.weaken (cn rfl (cn rfl (cn rfl (cn rfl (cn rfl zz))))), H⟩)))))
     ·replace H := H.2 hb; refine cw_seq (cw_region (fa rfl (TF.fld_arbiterlaw13_Op_0 _ _) ?_)); obtain ⟨x17, h17, H⟩ := H; refine ld rfl (i_load1 TF.agg_int h17) (bo rfl rfl o_eql (ag rfl (sl_nil (nc (kp 0 rfl (kp 1 rfl (kp 6 rfl (kp 7 rfl (kp 8 rfl (kp 9 rfl (kp 69 rfl zz))))))) ?_)))); refine cw_cond_p rfl (fun hb => ?_) (fun hb => ?_)
      ·replace H := H.1 hb; refine cw_region (mv rfl (mv rfl (sv rfl rfl (fun a ha => x_builtin (ha.evs rfl) (fun _ => l_slice TF.isslice_sl_arbiterlaw13_Said)) (sl_new (f := (fun p => .slice (some p) 1 1)) rfl rfl (wanted_none rfl) (fun a ha => x_buildSlice (u := .slice (some ⟨_, 0, none⟩) 1 1) (w' := World.alloc _ (.cells #[(.int .i64 (n4 : Int))] T.int)) (qs := [(0, (.int .i64 (n4 : Int)))]) (by simp only [List.map_cons, List.map_nil, ha.ev (x := (.tmp 75)) rfl]) (by kernel_rfl)) ?_)))); intro p3 w7 hN; replace H := H _ _ hN; obtain ⟨A9, n9, c9, w8, h18, H⟩ := H; exact sv rfl rfl (fun a ha => x_builtin (ha.evs rfl) (fun _ => bi_append h18)) (ag rfl (sl_nil (nx_block (nx_block (nx_to fun a ha => ⟨A4, n4, c4, A9, n9, c9, ha.weaken (cn rfl (cn rfl (cn rfl (cn rfl (cn rfl zz))))), H⟩)))))
      ·replace H := H.2 hb; refine cw_join_still (fun a => ∃ b4, Ok 111 [(0, (.slice A1 n1 c1)), (1, (.slice A2 n2 c2)), (6, (.slice A4 n4 c4)), (7, (.slice A5 n5 c5)), (8, (.int .i64 x2)), (9, (.pointer (some p1))), (78, (.bool b4))] a ∧ vc_arbiterlaw13_stands_J1 w3 p1 n5 A5 c4 c5 (vc_arbiterlaw13_stands_J4 k1 I1 x2) A4 n4 b4) ?_ ?_
       ·rintro a ⟨b4, ha, H⟩; unfold vc_arbiterlaw13_stands_J1 at H; refine (?_ : CW _ _ _ 111 [(0, (.slice A1 n1 c1)), (1, (.slice A2 n2 c2)), (6, (.slice A4 n4 c4)), (7, (.slice A5 n5 c5)), (8, (.int .i64 x2)), (9, (.pointer (some p1))), (78, (.bool b4))] _) a ha; refine cw_cond rfl (fun hb => ?_) (fun hb => ?_)
        ·replace H := H.1 hb; refine cw_seq (cw_region (mv rfl (sv rfl rfl (fun a ha => x_builtin (ha.evs rfl) (fun _ => l_slice TF.isslice_sl_int)) (fa rfl (TF.fld_arbiterlaw13_Op_2 _ _) ?_)))); obtain ⟨x21, h22, H⟩ := H; refine ld rfl (i_load1 TF.agg_int h22) (bo rfl rfl o_sub (ag rfl (sl_nil (nc (kp 0 rfl (kp 1 rfl (kp 6 rfl (kp 7 rfl (kp 8 rfl (kp 11 rfl zz)))))) (cw_seq (cw_region (mv rfl (mv rfl (mv rfl ?_))))))))); obtain ⟨h23, h24, a2, e2, H⟩ := H; refine ix rfl rfl (i_index TF.elem_sl_int TF.size_int e2 h23 h24) ?_; obtain ⟨x22, h25, H⟩ := H; refine ld rfl (i_load1 TF.agg_int h25) ?_; obtain ⟨h26, h27, H⟩ := H; refine sv rfl rfl (fun a ha => x_slice (ha.ev rfl) rfl (om_some (ha.ev rfl)) rfl (i_slice_h TF.elem_sl_arbiterlaw13_Said TF.size_arbiterlaw13_Said h26 h27)) (ag rfl (sl_nil (nc (kp 0 rfl (kp 1 rfl (kp 6 rfl (kp 7 rfl (kp 8 rfl (kp 11 rfl zz)))))) (cw_region (mv rfl (mv rfl ?_)))))); obtain ⟨h30, h31, H⟩ := H; exact sv rfl rfl (fun a ha => x_slice (ha.ev rfl) rfl (om_some (ha.ev rfl)) rfl (i_slice_h TF.elem_sl_int TF.size_int h30 h31)) (ag rfl (sl_nil (nx_block (nx_block (nx_to fun a ha => ⟨A4, x22.toNat, c4, A5, (IntKind.wrap .i64 ((n5 : Int) - x21)).toNat, c5, ha.weaken (cn rfl (cn rfl (cn rfl (cn rfl (cn rfl zz))))), H⟩)))))
        ·replace H := H.2 hb; exact cw_skip (nx_block (nx_block (nx_to fun a ha => ⟨A4, n4, c4, A5, n5, c5, ha.weaken (cn rfl (cn rfl (cn rfl (cn rfl (cn rfl zz))))), H⟩)))
       ·refine cw_region (fa rfl (TF.fld_arbiterlaw13_Op_0 _ _) ?_); obtain ⟨x18, h19, H⟩ := H; refine ld rfl (i_load1 TF.agg_int h19) (bo rfl rfl o_eql ?_); rcases Classical.em (x18 = 4) with hb | hb
        ·replace H := H.1 hb; refine sv rfl rfl (fun a ha => o_t (x_move (ha.ev rfl)) hb) (fag rfl rfl rfl (TF.fld_arbiterlaw13_Op_2 _ _) ?_); obtain ⟨x19, h20, H⟩ := H; refine ldg rfl rfl rfl (i_load1 TF.agg_int h20) (bog rfl rfl rfl rfl o_gtr (pt rfl rfl ?_)); rcases Classical.em (0 < x19) with hb | hb
         ·replace H := H.1 hb; refine sv rfl rfl (fun a ha => o_t (x_move (ha.ev rfl)) hb) (fag rfl rfl rfl (TF.fld_arbiterlaw13_Op_2 _ _) ?_); obtain ⟨x20, h21, H⟩ := H; exact ldg rfl rfl rfl (i_load1 TF.agg_int h21) (mvg rfl rfl rfl (svg rfl rfl rfl rfl (fun a ha => x_builtin (ha.evs rfl) (fun _ => l_slice TF.isslice_sl_int)) (bog rfl rfl rfl rfl o_leq (pt rfl rfl (ag rfl (sl_nil (nx_to fun a ha => ⟨⟨(decide (x20 ≤ (n5 : Int))), ha.weaken (cn rfl (cn rfl (cn rfl (cn rfl (cn rfl (cn rfl (cn rfl zz))))))), H⟩, rfl⟩)))))))
         ·replace H := H.2 hb; exact sv rfl rfl (fun a ha => o_f (x_move (ha.ev rfl)) hb) (sk rfl rfl rfl rfl (sk rfl rfl rfl rfl (sk rfl rfl rfl rfl (sk rfl rfl rfl rfl (sk rfl rfl rfl rfl (pf rfl rfl (ag rfl (sl_nil (nx_to fun a ha => ⟨⟨false, ha.weaken (cn rfl (cn rfl (cn rfl (cn rfl (cn rfl (cn rfl (cn rfl zz))))))), H⟩, rfl⟩)))))))))
        ·replace H := H.2 hb; exact sv rfl rfl (fun a ha => o_f (x_move (ha.ev rfl)) hb) (sk rfl rfl rfl rfl (sk rfl rfl rfl rfl (sk rfl rfl rfl rfl (pf rfl rfl (mv rfl (sk rfl rfl rfl rfl (sk rfl rfl rfl rfl (sk rfl rfl rfl rfl (sk rfl rfl rfl rfl (sk rfl rfl rfl rfl (pf rfl rfl (ag rfl (sl_nil (nx_to fun a ha => ⟨⟨false, ha.weaken (cn rfl (cn rfl (cn rfl (cn rfl (cn rfl (cn rfl (cn rfl zz))))))), H⟩, rfl⟩))))))))))))))
    ·refine cw_region (fa rfl (TF.fld_arbiterlaw13_Op_0 _ _) ?_); obtain ⟨x11, h10, H⟩ := H; refine ld rfl (i_load1 TF.agg_int h10) (bo rfl rfl o_eql ?_); rcases Classical.em (x11 = 1) with hb | hb
     ·replace H := H.1 hb; exact sv rfl rfl (fun a ha => o_t (x_move (ha.ev rfl)) hb) (sk rfl rfl rfl rfl (sk rfl rfl rfl rfl (sk rfl rfl rfl rfl (pt rfl rfl (mv rfl (mvg rfl rfl rfl (pt rfl rfl (ag rfl (sl_nil (nx_to fun a ha => ⟨⟨b2, ha.weaken (cn rfl (cn rfl (cn rfl (cn rfl (cn rfl (cn rfl (cn rfl zz))))))), H⟩, rfl⟩))))))))))
     ·replace H := H.2 hb; refine sv rfl rfl (fun a ha => o_f (x_move (ha.ev rfl)) hb) (fag rfl rfl rfl (TF.fld_arbiterlaw13_Op_0 _ _) ?_); obtain ⟨x12, h11, H⟩ := H; refine ldg rfl rfl rfl (i_load1 TF.agg_int h11) (bog rfl rfl rfl rfl o_eql (pf rfl rfl ?_)); rcases Classical.em (x12 = 2) with hb | hb
      ·replace H := H.1 hb; exact sv rfl rfl (fun a ha => o_t (x_move (ha.ev rfl)) hb) (mvg rfl rfl rfl (pt rfl rfl (ag rfl (sl_nil (nx_to fun a ha => ⟨⟨b2, ha.weaken (cn rfl (cn rfl (cn rfl (cn rfl (cn rfl (cn rfl (cn rfl zz))))))), H⟩, rfl⟩)))))
      ·replace H := H.2 hb; exact sv rfl rfl (fun a ha => o_f (x_move (ha.ev rfl)) hb) (sk rfl rfl rfl rfl (pf rfl rfl (ag rfl (sl_nil (nx_to fun a ha => ⟨⟨false, ha.weaken (cn rfl (cn rfl (cn rfl (cn rfl (cn rfl (cn rfl (cn rfl zz))))))), H⟩, rfl⟩)))))
   ·refine cw_region (fa rfl (TF.fld_arbiterlaw13_Op_2 _ _) ?_); obtain ⟨x7, h6, H⟩ := H; refine ld rfl (i_load1 TF.agg_int h6) (bo rfl rfl o_geq ?_); rcases Classical.em (0 ≤ x7) with hb | hb
    ·replace H := H.1 hb; refine sv rfl rfl (fun a ha => o_t (x_move (ha.ev rfl)) hb) (fag rfl rfl rfl (TF.fld_arbiterlaw13_Op_2 _ _) ?_); obtain ⟨x8, h7, H⟩ := H; refine ldg rfl rfl rfl (i_load1 TF.agg_int h7) (mvg rfl rfl rfl (svg rfl rfl rfl rfl (fun a ha => x_builtin (ha.evs rfl) (fun _ => l_slice TF.isslice_sl_api_Flat)) (bog rfl rfl rfl rfl o_lss (pt rfl rfl ?_)))); rcases Classical.em (x8 < (n1 : Int)) with hb | hb
     ·replace H := H.1 hb; refine sv rfl rfl (fun a ha => o_t (x_move (ha.ev rfl)) hb) (fag rfl rfl rfl (TF.fld_arbiterlaw13_Op_3 _ _) ?_); obtain ⟨x9, h8, H⟩ := H; refine ldg rfl rfl rfl (i_load1 TF.agg_int h8) (bog rfl rfl rfl rfl o_geq (pt rfl rfl ?_)); rcases Classical.em (0 ≤ x9) with hb | hb
      ·replace H := H.1 hb; refine sv rfl rfl (fun a ha => o_t (x_move (ha.ev rfl)) hb) (fag rfl rfl rfl (TF.fld_arbiterlaw13_Op_3 _ _) ?_); obtain ⟨x10, h9, H⟩ := H; exact ldg rfl rfl rfl (i_load1 TF.agg_int h9) (mvg rfl rfl rfl (svg rfl rfl rfl rfl (fun a ha => x_builtin (ha.evs rfl) (fun _ => l_slice TF.isslice_sl_api_Flat)) (bog rfl rfl rfl rfl o_lss (pt rfl rfl (ag rfl (sl_nil (nx_to fun a ha => ⟨⟨(decide (x10 < (n1 : Int))), ha.weaken (cn rfl (cn rfl (cn rfl (cn rfl (cn rfl (cn rfl (cn rfl zz))))))), H⟩, rfl⟩)))))))
      ·replace H := H.2 hb; exact sv rfl rfl (fun a ha => o_f (x_move (ha.ev rfl)) hb) (sk rfl rfl rfl rfl (sk rfl rfl rfl rfl (sk rfl rfl rfl rfl (sk rfl rfl rfl rfl (sk rfl rfl rfl rfl (pf rfl rfl (ag rfl (sl_nil (nx_to fun a ha => ⟨⟨false, ha.weaken (cn rfl (cn rfl (cn rfl (cn rfl (cn rfl (cn rfl (cn rfl zz))))))), H⟩, rfl⟩)))))))))
     ·replace H := H.2 hb; exact sv rfl rfl (fun a ha => o_f (x_move (ha.ev rfl)) hb) (sk rfl rfl rfl rfl (sk rfl rfl rfl rfl (sk rfl rfl rfl rfl (pf rfl rfl (mv rfl (sk rfl rfl rfl rfl (sk rfl rfl rfl rfl (sk rfl rfl rfl rfl (sk rfl rfl rfl rfl (sk rfl rfl rfl rfl (pf rfl rfl (ag rfl (sl_nil (nx_to fun a ha => ⟨⟨false, ha.weaken (cn rfl (cn rfl (cn rfl (cn rfl (cn rfl (cn rfl (cn rfl zz))))))), H⟩, rfl⟩))))))))))))))
    ·replace H := H.2 hb; exact sv rfl rfl (fun a ha => o_f (x_move (ha.ev rfl)) hb) (sk rfl rfl rfl rfl (sk rfl rfl rfl rfl (sk rfl rfl rfl rfl (sk rfl rfl rfl rfl (sk rfl rfl rfl rfl (pf rfl rfl (mv rfl (sk rfl rfl rfl rfl (sk rfl rfl rfl rfl (sk rfl rfl rfl rfl (pf rfl rfl (mv rfl (sk rfl rfl rfl rfl (sk rfl rfl rfl rfl (sk rfl rfl rfl rfl (sk rfl rfl rfl rfl (sk rfl rfl rfl rfl (pf rfl rfl (ag rfl (sl_nil (nx_to fun a ha => ⟨⟨false, ha.weaken (cn rfl (cn rfl (cn rfl (cn rfl (cn rfl (cn rfl (cn rfl zz))))))), H⟩, rfl⟩)))))))))))))))))))))
 ·replace H := H.2 hb; exact cw_exit (nx_exit_then (nx_exit_then (nx_exit_hit (nc (kp 6 rfl (kp 7 rfl zz)) (cw_seq (cw_region (mv rfl (mv rfl (sv rfl rfl (fun a ha => x_builtin (ha.evs rfl) (fun _ => l_slice TF.isslice_sl_int)) (ag rfl (ag rfl (sl_nil (nc (kp 4 rfl (kp 5 rfl zz)) (cw_ret (nx_body_ret (res2 rfl rfl rfl) ⟨_, rfl, _, _, _, _, rfl, H⟩)))))))))))))))
end Go.Proofs.YtnbakpoahcndpaaDoor
namespace Go.Proofs.YtnbakpoahcndpaaDoor
set_option linter.unusedVariables false
set_option linter.unusedSimpArgs false
open Wk
structure OpR where
 kind : Int
 second : Bool
 a : Int
 b : Int
 tag : Int
def OpR.vals (o : OpR) : List Value := [.int .i64 o.kind, .bool o.second, .int .i64 o.a, .int .i64 o.b, .int .i64 o.tag]
def cOp : Cod OpR := ⟨5, fun _ vs o => vs = o.vals ∧ I64 o.a, fun _ h => h⟩
theorem Sl.op {w : World} {A : Option Addr} {n : Nat} {xs : List OpR} (h : Sl cOp w A n xs) {i : Int} (h0 : 0 ≤ i) (h1 : i < n) :
  ∃ o ad, xs[i.toNat]? = some o ∧ A = some ad ∧ CellsAt w (ad.add (i.toNat * 5)) o.vals ∧ I64 o.a := by
 obtain ⟨x, ad, vs, hx, hA, hl, hc, hv, hr⟩ := h.at h0 h1
 subst hv
 exact ⟨x, ad, hx, hA, hc, hr⟩
def lawVals (s : SaidR) : List Value := [.bool s.not, .int .i64 s.a, .int .i64 s.b, .int .i64 s.tag]
def cSaid : Cod SaidR := ⟨4, fun _ vs s => vs = lawVals s, fun _ h => h⟩
theorem slv_said (w : World) (xs : List SaidR) : SlV cSaid w (xs.flatMap lawVals) xs := by
 refine ⟨?_, fun i x hx => ?_⟩
 ·rw [flat_len (s := 4) (fun _ => rfl)]; rfl
 ·exact flat_elem (f := lawVals) (s := 4) (fun _ => rfl) xs i x hx
theorem Sl.said {w : World} {A : Option Addr} {n : Nat} {xs : List SaidR} (h : Sl cSaid w A n xs) {i : Int} (h0 : 0 ≤ i) (h1 : i < n) :
  ∃ s ad, xs[i.toNat]? = some s ∧ A = some ad ∧ CellsAt w (ad.add (i.toNat * 4)) (lawVals s) := by
 obtain ⟨x, ad, vs, hx, hA, hl, hc, hv⟩ := h.at h0 h1
 subst hv
 exact ⟨x, ad, hx, hA, hc⟩
instance (fs : List Flat) (a b : Int) : Decidable (In2 fs a b) := by unfold In2; infer_instance
def stepS (fs : List Flat) (s : List SaidR × List Int) (o : OpR) : List SaidR × List Int :=
 if (o.kind = 1 ∨ o.kind = 2) ∧ In2 fs o.a o.b then (s.1 ++ [⟨o.a, o.b, o.tag, decide (o.kind = 2)⟩], s.2)
 else if o.kind = 3 then (s.1, s.2 ++ [(s.1.length : Int)])
 else if o.kind = 4 then popS s.1 s.2 o.a
 else s
def standS (fs : List Flat) (ops : List OpR) : List SaidR × List Int := ops.foldl (stepS fs) ([], [])
theorem standS_snoc {fs : List Flat} {ops : List OpR} {i : Nat} {o : OpR} (h : ops[i]? = some o) : standS fs (ops.take (i + 1)) = stepS fs (standS fs (ops.take i)) o := by
 unfold standS
 rw [take_succ_of h, List.foldl_append]
 rfl
structure MsOk (s : List SaidR × List Int) : Prop where
 le : ∀ d ∈ s.2, 0 ≤ d ∧ d ≤ s.1.length
 rise : s.2.Pairwise (· ≤ ·)
theorem MsOk.pop {st : List SaidR} {ms : List Int} {k : Int} (h : MsOk (st, ms)) : MsOk (popS st ms k) := by
 unfold popS
 split
 ·rename_i hk
  refine ⟨fun d hd => ?_, h.rise.sublist (List.take_sublist _ _)⟩
  have hd0 := h.le d (List.mem_of_mem_take hd)
  have hlt : ms.length - k.toNat < ms.length := by omega
  have hg : ms.getD (ms.length - k.toNat) 0 = ms[ms.length - k.toNat] := by rw [List.getD_eq_getElem?_getD, List.getElem?_eq_getElem hlt]; rfl
  rw [hg]
  have hm : 0 ≤ ms[ms.length - k.toNat] ∧ ms[ms.length - k.toNat] ≤ (st.length : Int) := h.le _ (List.getElem_mem hlt)
  obtain ⟨j, hj⟩ := List.mem_iff_getElem?.1 hd
  rw [List.getElem?_take] at hj
  split at hj
  ·rename_i hjl
   obtain ⟨hj1, hj2⟩ := List.getElem?_eq_some_iff.1 hj
   have hle : ms[j] ≤ ms[ms.length - k.toNat] := List.pairwise_iff_getElem.1 h.rise j (ms.length - k.toNat) hj1 hlt hjl
   rw [hj2] at hle
   refine ⟨hd0.1, ?_⟩
   show d ≤ ((st.take _).length : Int)
   rw [List.length_take]
   omega
  ·cases hj
 ·exact h
theorem MsOk.step {fs : List Flat} {s : List SaidR × List Int} (h : MsOk s) (o : OpR) : MsOk (stepS fs s o) := by
 unfold stepS
 split
 ·refine ⟨fun d hd => ?_, h.rise⟩
  have := h.le d hd
  simp only [List.length_append, List.length_cons, List.length_nil]
  omega
 ·split
  ·refine ⟨fun d hd => ?_, ?_⟩
   ·rcases List.mem_append.1 hd with hd | hd
    ·exact h.le d hd
    ·simp only [List.mem_cons, List.not_mem_nil, or_false] at hd
     subst hd
     exact ⟨by omega, Int.le_refl _⟩
   ·rw [List.pairwise_append]
    refine ⟨h.rise, List.pairwise_singleton _ _, fun x hx y hy => ?_⟩
    simp only [List.mem_cons, List.not_mem_nil, or_false] at hy
    subst hy
    exact (h.le x hx).2
  ·split
   ·exact h.pop
   ·exact h
theorem popS_len {st : List SaidR} {ms : List Int} {k : Int} : (popS st ms k).1.length ≤ st.length ∧ (popS st ms k).2.length ≤ ms.length := by
 unfold popS
 split
 ·rw [List.length_take, List.length_take]
  omega
 ·exact ⟨Nat.le_refl _, Nat.le_refl _⟩
theorem stepS_len (fs : List Flat) (s : List SaidR × List Int) (o : OpR) : (stepS fs s o).1.length ≤ s.1.length + 1 ∧ (stepS fs s o).2.length ≤ s.2.length + 1 := by
 unfold stepS
 split
 ·simp
 ·split
  ·simp
  ·split
   ·have := popS_len (st := s.1) (ms := s.2) (k := o.a)
    omega
   ·omega
theorem standS_ok (fs : List Flat) (ops : List OpR) : ∀ i, i ≤ ops.length → MsOk (standS fs (ops.take i)) ∧ (standS fs (ops.take i)).1.length ≤ i ∧ (standS fs (ops.take i)).2.length ≤ i
 | 0, _ => ⟨⟨fun d hd => (by cases hd), List.Pairwise.nil⟩, Nat.le_refl _, Nat.le_refl _⟩
 | i + 1, h => by
  obtain ⟨h1, h2, h3⟩ := standS_ok fs ops i (by omega)
  rw [standS_snoc (List.getElem?_eq_getElem (show i < ops.length by omega))]
  have := stepS_len fs (standS fs (ops.take i)) (ops[i]'(by omega))
  exact ⟨h1.step _, by omega, by omega⟩
section
variable {w : World} {fs : List Flat} {ops : List OpR} {n1 n2 : Nat} {A1 A2 : Option Addr}
def StInv (w : World) (fs : List Flat) (ops : List OpR) (n2 k : Nat) (A4 : Option Addr) (n4 c4 : Nat) (A5 : Option Addr) (n5 c5 : Nat) (i : Int) (w' : World) : Prop :=
 k = n2 - i.toNat ∧ 0 ≤ i ∧ i ≤ n2 ∧ Ext w w' ∧ Row w' w.heap.size T.arbiterlaw13_Said 4 A4 n4 c4 ((standS fs (ops.take i.toNat)).1.flatMap lawVals) ∧ Row w' w.heap.size T.int 1 A5 n5 c5 ((standS fs (ops.take i.toNat)).2.map iv) ∧ ∀ b, At A4 b → ¬ At A5 b
theorem stands_J4_is {w6 : World} {i : Int} {o : OpR} {A7 A8 : Option Addr} {n7 c7 n8 c8 : Nat} (s2 : Sm n2) (h0 : 0 ≤ i) (h1 : i < n2) (ho : ops[i.toNat]? = some o) (hE : Ext w w6)
  (r4 : Row w6 w.heap.size T.arbiterlaw13_Said 4 A7 n7 c7 ((stepS fs (standS fs (ops.take i.toNat)) o).1.flatMap lawVals)) (r5 : Row w6 w.heap.size T.int 1 A8 n8 c8 ((stepS fs (standS fs (ops.take i.toNat)) o).2.map iv)) (hd : ∀ b, At A7 b → ¬ At A8 b) :
  vc_arbiterlaw13_stands_J4 (n2 - i.toNat) (StInv w fs ops n2) i A7 n7 c7 A8 n8 c8 w6 := by
 refine ⟨n2 - (i + 1).toNat, by omega, ?_⟩
 rw [step_le h0 h1 s2]
 refine ⟨rfl, by omega, by omega, hE, ?_, ?_, hd⟩
 ·rw [show (i + 1).toNat = i.toNat + 1 by omega, standS_snoc ho]; exact r4
 ·rw [show (i + 1).toNat = i.toNat + 1 by omega, standS_snoc ho]; exact r5
theorem stands_J2_is {w3 : World} {i : Int} {o : OpR} {A4 A5 : Option Addr} {n4 c4 n5 c5 : Nat} {p1 : Addr} {b3 : Bool} (s2 : n2 ≤ 1048576) (h0 : 0 ≤ i) (h1 : i < n2) (ho : ops[i.toNat]? = some o) (hn : ops.length = n2) (hE : Ext w w3) (ha : I64 o.a)
  (hc : CellsAt w3 p1 o.vals)
  (r4 : Row w3 w.heap.size T.arbiterlaw13_Said 4 A4 n4 c4 ((standS fs (ops.take i.toNat)).1.flatMap lawVals)) (r5 : Row w3 w.heap.size T.int 1 A5 n5 c5 ((standS fs (ops.take i.toNat)).2.map iv)) (hd : ∀ b, At A4 b → ¬ At A5 b)
  (hb : b3 = true ↔ ((o.kind = 1 ∨ o.kind = 2) ∧ In2 fs o.a o.b)) :
  vc_arbiterlaw13_stands_J2 w3 p1 A4 n4 c4 (vc_arbiterlaw13_stands_J4 (n2 - i.toNat) (StInv w fs ops n2) i) A5 n5 c5 b3 := by
 have sm2 : Sm n2 := by unfold Sm; omega
 obtain ⟨mo, ml1, ml2⟩ := standS_ok fs ops i.toNat (by omega)
 generalize hs : standS fs (ops.take i.toNat) = s at r4 r5 mo ml1 ml2
 have e4 : s.1.length = n4 := by have := r4.1; rw [flat_len (s := 4) (fun _ => rfl)] at this; omega
 have e5 : s.2.length = n5 := by have := r5.1; rw [List.length_map] at this; omega
 have fin := fun (w6 : World) (A7 A8 : Option Addr) (n7 c7 n8 c8 : Nat) => stands_J4_is (w := w) (fs := fs) (w6 := w6) (A7 := A7) (A8 := A8) (n7 := n7) (c7 := c7) (n8 := n8) (c8 := c8) sm2 h0 h1 ho
 rw [hs] at fin
 have k0 := hc 0 _ rfl
 have k2 := hc 2 _ rfl
 have k3 := hc 3 _ rfl
 have k4 := hc 4 _ rfl
 refine ⟨fun hb3 => ?_, fun hb3 => ?_⟩
 ·have hin := hb.1 hb3
  have es : stepS fs s o = (s.1 ++ [⟨o.a, o.b, o.tag, decide (o.kind = 2)⟩], s.2) := by unfold stepS; rw [if_pos hin]
  refine ⟨_, k0, _, k2, _, k3, _, k4, fun p2 w4 hN4 => ?_⟩
  have E4 := Ext.of_new hN4
  have r4' := r4.keep E4 (fun _ _ h => h)
  have r5' := r5.keep E4 (fun _ _ h => h)
  obtain ⟨A', c', w5, hr, rr, hK, hA'⟩ := r4'.append (P := P) (m := 1) (c2 := 1) (t := T.sl_arbiterlaw13_Said) (ty := T.sl_arbiterlaw13_Said) (by_ := 32) (by kernel_rfl) (by kernel_rfl) (by decide) (news := lawVals ⟨o.a, o.b, o.tag, decide (o.kind = 2)⟩) rfl (hN4.cells rfl)
   (by intro u hu; simp [lawVals] at hu; rcases hu with rfl | rfl | rfl | rfl <;> rfl) (by omega) (by omega) (hE.trans E4).size
  refine ⟨A', n4 + 1, c', w5, hr, fin w5 A' A5 _ _ _ _ ((hE.trans E4).over hK fun b hb hx => by have := (r4'.at hx).1; omega) ?_ ?_ ?_⟩
  ·rw [es]; simpa using rr
  ·rw [es]; exact r5'.keep hK fun b hb hx => hd b hx hb
  ·intro b hb hx
   rcases hA' b hb with q | q
   ·exact hd b q hx
   ·have := (r5'.at hx).2
    omega
 ·have hin : ¬ ((o.kind = 1 ∨ o.kind = 2) ∧ In2 fs o.a o.b) := fun q => by rw [hb.2 q] at hb3; cases hb3
  have J1 : ∀ b4 : Bool, (b4 = true ↔ (o.kind = 4 ∧ 0 < o.a ∧ o.a ≤ n5)) → o.kind ≠ 3 → vc_arbiterlaw13_stands_J1 w3 p1 n5 A5 c4 c5 (vc_arbiterlaw13_stands_J4 (n2 - i.toNat) (StInv w fs ops n2) i) A4 n4 b4 := by
   intro b4 hb4 h3
   refine ⟨fun q => ?_, fun q => ?_⟩
   ·obtain ⟨q1, q2, q3⟩ := hb4.1 q
    have ew : IntKind.wrap .i64 ((n5 : Int) - o.a) = n5 - o.a := wrap_small (by omega) (by omega)
    obtain ⟨ad, v, hA, hv, hcell, _⟩ := r5.get (i := (n5 : Int) - o.a) (by omega) (by omega)
    have hidx : ((n5 : Int) - o.a).toNat = s.2.length - o.a.toNat := by omega
    have hlt : s.2.length - o.a.toNat < s.2.length := by omega
    rw [hidx, List.getElem?_map, List.getElem?_eq_getElem hlt] at hv
    have hv' : v = iv (s.2[s.2.length - o.a.toNat]) := (Option.some.inj hv).symm
    subst hv'
    have hm := mo.le _ (List.getElem_mem hlt)
    have le4 := r4.le
    have le5 := r5.le
    have es : stepS fs s o = (s.1.take (s.2[s.2.length - o.a.toNat]).toNat, s.2.take (s.2.length - o.a.toNat)) := by
     unfold stepS popS
     rw [if_neg hin, if_neg h3, if_pos q1, if_pos ⟨q2, by rw [e5]; exact q3⟩, List.getD_eq_getElem?_getD, List.getElem?_eq_getElem hlt]
     rfl
    refine ⟨_, k2, ?_⟩
    rw [ew]
    refine ⟨by omega, by omega, ad, hA, _, hcell, hm.1, by omega, by omega, by omega, fin w3 A4 A5 _ _ _ _ hE ?_ ?_ hd⟩
    ·rw [es]
     have := r4.cut (m := (s.2[s.2.length - o.a.toNat]).toNat) (d := c4) (by omega) (by omega) (Nat.le_refl _)
     rw [flat_take (f := lawVals) (s := 4) (fun _ => rfl)] at this
     exact this
    ·rw [es]
     have := r5.cut (m := ((n5 : Int) - o.a).toNat) (d := c5) (by omega) (by omega) (Nat.le_refl _)
     rw [Nat.mul_one, ← List.map_take, hidx] at this
     rw [hidx]
     exact this
   ·have hno : ¬ (o.kind = 4 ∧ 0 < o.a ∧ o.a ≤ n5) := fun hh => by rw [hb4.2 hh] at q; cases q
    have es : stepS fs s o = s := by
     unfold stepS popS
     rw [if_neg hin, if_neg h3]
     split
     ·rw [if_neg (by rw [e5]; omega)]
     ·rfl
    refine fin w3 A4 A5 _ _ _ _ hE ?_ ?_ hd
    ·rw [es]; exact r4
    ·rw [es]; exact r5
  refine ⟨_, k0, fun h3 => ?_, fun h3 => ?_⟩
  ·have es : stepS fs s o = (s.1, s.2 ++ [(s.1.length : Int)]) := by unfold stepS; rw [if_neg hin, if_pos h3]
   intro p3 w7 hN7
   have E7 := Ext.of_new hN7
   have r4' := r4.keep E7 (fun _ _ h => h)
   have r5' := r5.keep E7 (fun _ _ h => h)
   obtain ⟨A', c', w8, hr, rr, hK, hA'⟩ := r5'.append (P := P) (m := 1) (c2 := 1) (t := T.sl_int) (ty := T.sl_int) (by_ := 8) (by kernel_rfl) (by kernel_rfl) (by decide) (news := [.int .i64 (n4 : Int)]) rfl (hN7.cells rfl)
    (by intro u hu; simp at hu; subst hu; rfl) (by omega) (by omega) (hE.trans E7).size
   refine ⟨A', n5 + 1, c', w8, hr, fin w8 A4 A' _ _ _ _ ((hE.trans E7).over hK fun b hb hx => by have := (r5'.at hx).1; omega) ?_ ?_ ?_⟩
   ·rw [es]; exact r4'.keep hK fun b hb hx => hd b hb hx
   ·rw [es, e4]; simpa using rr
   ·intro b hb hx
    rcases hA' b hx with q | q
    ·exact hd b hb q
    ·have := (r4'.at hb).2
     omega
  ·refine ⟨_, k0, fun h4 => ⟨_, k2, fun hp => ⟨_, k2, J1 _ ?_ h3⟩, fun hp => J1 false ⟨fun q => (by cases q), fun q => absurd q.2.1 hp⟩ h3⟩, fun h4 => J1 false ⟨fun q => (by cases q), fun q => absurd q.1 h4⟩ h3⟩
   rw [decide_eq_true_iff]
   exact ⟨fun q => ⟨h4, hp, q⟩, fun q => q.2.2⟩
theorem stands_is (c1 c2 : Nat) (hO : Sl cOp w A2 n2 ops) (s2 : n2 ≤ 1048576) :
  Calls P F.arbiterlaw13_stands #[.slice A1 fs.length c1, .slice A2 n2 c2] w (Ret fun v w' => ∃ A n c, v = .tuple #[.slice A n c, .int .i64 ((standS fs ops).2.length : Int)] ∧ n = (standS fs ops).1.length ∧ Ext w w' ∧ Row w' w.heap.size T.arbiterlaw13_Said 4 A n c ((standS fs ops).1.flatMap lawVals)) := by
 refine Ret.mono (ok_arbiterlaw13_stands A1 fs.length c1 A2 n2 c2 (fun A n c k w' => k = ((standS fs ops).2.length : Int) ∧ n = (standS fs ops).1.length ∧ Ext w w' ∧ Row w' w.heap.size T.arbiterlaw13_Said 4 A n c ((standS fs ops).1.flatMap lawVals)) w ?_) (by rintro _ w' ⟨A, n, c, k, rfl, rfl, h⟩; exact ⟨A, n, c, rfl, h⟩)
 have sm2 : Sm n2 := by unfold Sm; omega
 have hn := hO.1
 unfold vc_arbiterlaw13_stands
 refine ⟨StInv w fs ops n2, ⟨n2, by simp, by omega, by omega, Ext.refl w, Row.nil _ _ _ _, Row.nil _ _ _ _, fun b ⟨a, ha, _⟩ => (by cases ha)⟩, ?_⟩
 rintro k A4 n4 c4 A5 n5 c5 i w1 ⟨rfl, i0, i1, E1, r4, r5, hd⟩
 refine ⟨fun hlt => ?_, fun hge => ?_⟩
 ·obtain ⟨o, ad, ho, hA, hc, ha⟩ := (hO.ext E1).op i0 hlt
  refine ⟨i0, hlt, ad, hA, _, _, _, _, _, hc, fun p1 w2 hN2 => ⟨hN2.soft rfl, fun w3 hw3 => ?_⟩⟩
  have hN3 := hN2.store hw3 rfl
  have E3 : Ext w1 w3 := Ext.of_new hN3
  have hc3 : CellsAt w3 p1 o.vals := hN3.cells rfl
  have main := fun (b3 : Bool) => stands_J2_is (w := w) (fs := fs) (ops := ops) (n2 := n2) (w3 := w3) (p1 := p1) (b3 := b3) s2 i0 hlt ho hn (E1.trans E3) ha hc3 (r4.keep E3 fun _ _ h => h) (r5.keep E3 fun _ _ h => h) hd
  have k0 := hc3 0 _ rfl
  have k2 := hc3 2 _ rfl
  have k3 := hc3 3 _ rfl
  have J3 : ∀ b2 : Bool, (b2 = true ↔ In2 fs o.a o.b) → vc_arbiterlaw13_stands_J3 w3 p1 A4 n4 c4 (vc_arbiterlaw13_stands_J4 (n2 - i.toNat) (StInv w fs ops n2) i) A5 n5 c5 b2 := by
   intro b2 hb2
   refine ⟨_, k0, fun h1 => main b2 ⟨fun q => ⟨.inl h1, hb2.1 q⟩, fun q => hb2.2 q.2⟩, fun h1 => ⟨_, k0, fun h2 => main b2 ⟨fun q => ⟨.inr h2, hb2.1 q⟩, fun q => hb2.2 q.2⟩, fun h2 => main false ⟨fun q => (by cases q), fun q => (q.1.elim h1 h2).elim⟩⟩⟩
  unfold In2 at J3
  refine ⟨_, k2, fun q1 => ⟨_, k2, fun q2 => ⟨_, k3, fun q3 => ⟨_, k3, J3 _ ?_⟩, fun q3 => J3 false ⟨fun q => (by cases q), fun q => absurd q.2.1 q3⟩⟩, fun q2 => J3 false ⟨fun q => (by cases q), fun q => absurd q.2.2.1 q2⟩⟩, fun q1 => J3 false ⟨fun q => (by cases q), fun q => absurd q.1 q1⟩⟩
  rw [decide_eq_true_iff]
  exact ⟨fun q => ⟨q1, q3, q2, q⟩, fun q => q.2.2.2⟩
 ·have hi : i.toNat = ops.length := by omega
  rw [hi, List.take_length] at r4 r5
  have e4 := r4.1
  rw [flat_len (s := 4) (fun _ => rfl)] at e4
  have e5 := r5.1
  rw [List.length_map] at e5
  exact ⟨by omega, by omega, E1, r4⟩
end
end Go.Proofs.YtnbakpoahcndpaaDoor
namespace Go.Proofs.YtnbakpoahcndpaaDoor
set_option linter.unusedVariables false
set_option linter.unusedSimpArgs false
open Wk
section
variable {W0 B0 : Nat} {w : World} {fs : List Flat} {ops : List OpR} {n2 : Nat} {A1 A2 : Option Addr}
theorem played_is {c1 c2 : Nat} (hx : ∀ w', Ext w w' → Sl cFlat w' A1 fs.length fs) (hO : Sl cOp w A2 n2 ops) (hB : B0 ≤ w.heap.size) (tab : Tab10 B0 w) (ok : NodesOk W0 fs) (s2 : n2 ≤ 1048575) :
  Calls P F.arbiterlaw13_played #[.slice A1 fs.length c1, .slice A2 n2 c2] w (Ret fun v w' => (¬ Sound fs ∧ v = .pointer none ∧ Ext w w') ∨ (Sound fs ∧ ∃ p H, v = .pointer (some p) ∧ Live W0 B0 w' p fs H (standS fs ops).1 (standS fs ops).2 ∧ Adv (fun _ => False) w H w')) := by
 refine Ret.mono (ok_arbiterlaw13_played A1 fs.length c1 A2 n2 c2 (fun q w' => (¬ Sound fs ∧ q = none ∧ Ext w w') ∨ (Sound fs ∧ ∃ p H, q = some p ∧ Live W0 B0 w' p fs H (standS fs ops).1 (standS fs ops).2 ∧ Adv (fun _ => False) w H w')) w ?_) (by
  rintro _ w' ⟨q, rfl, ⟨h1, rfl, h2⟩ | ⟨h1, p, H, rfl, h2⟩⟩
  ·exact .inl ⟨h1, rfl, h2⟩
  ·exact .inr ⟨h1, p, H, rfl, h2⟩)
 generalize hKd : (fun (q : Option Addr) w' => (¬ Sound fs ∧ q = none ∧ Ext w w') ∨ (Sound fs ∧ ∃ p H, q = some p ∧ Live W0 B0 w' p fs H (standS fs ops).1 (standS fs ops).2 ∧ Adv (fun _ => False) w H w')) = K
 have sm2 : Sm n2 := by unfold Sm; omega
 have hn := hO.1
 unfold vc_arbiterlaw13_played
 refine (live_new hx hB tab ok).mono ?_
 rintro _ w1 ⟨v, rfl, ⟨h1, rfl, h3⟩ | ⟨hs, p, H, rfl, hL, hA⟩⟩
 ·refine ⟨_, rfl, _, _, rfl, (law_no_is 80).mono ?_⟩
  rintro _ w2 ⟨_, rfl, rfl, rfl⟩
  refine ⟨_, rfl, _, rfl, fun _ => ⟨fun _ => ?_, fun q => (by cases q)⟩, fun q => absurd (show (80 : Int) ≠ 0 by decide) q⟩
  rw [← hKd]
  exact .inl ⟨h1, rfl, h3⟩
 ·refine ⟨_, rfl, _, _, rfl, (law_no_is 0).mono ?_⟩
  rintro _ w2 ⟨_, rfl, rfl, rfl⟩
  refine ⟨_, rfl, _, rfl, fun q => absurd rfl q, fun _ => ⟨fun q => absurd (of_decide_eq_true q) (by simp), fun _ => ?_⟩⟩
  refine ⟨fun k i w' => k = n2 - i.toNat ∧ 0 ≤ i ∧ i ≤ n2 ∧ ∃ H', Live W0 B0 w' p fs H' (standS fs (ops.take i.toNat)).1 (standS fs (ops.take i.toNat)).2 ∧ Adv (fun _ => False) w H' w', ⟨_, rfl, by omega, by omega, H, hL, hA⟩, ?_⟩
  rintro k i w4 ⟨rfl, i0, i1, H4, L4, A4⟩
  refine ⟨fun hlt => ?_, fun hge => ?_⟩
  ·obtain ⟨o, ad, ho, hA2, hc, ha⟩ := (hO.ext A4.keep).op i0 hlt
   refine ⟨i0, hlt, ad, hA2, _, _, _, _, _, hc, fun p1 w5 hN5 => ⟨hN5.soft rfl, fun w6 hw6 => ?_⟩⟩
   have hN6 := hN5.store hw6 rfl
   have E6 : Ext w4 w6 := Ext.of_new hN6
   have hc6 : CellsAt w6 p1 o.vals := hN6.cells rfl
   have k0 := hc6 0 _ rfl
   have k2 := hc6 2 _ rfl
   have k3 := hc6 3 _ rfl
   have k4 := hc6 4 _ rfl
   have L6 := L4.stay E6
   have A6 : Adv (fun _ => False) w H4 w6 := A4.trans (Adv.of_ext E6)
   obtain ⟨mo, ml1, ml2⟩ := standS_ok fs ops i.toNat (by omega)
   have hsn := standS_snoc (fs := fs) ho
   generalize standS fs (ops.take i.toNat) = s at L4 L6 ml1 ml2 hsn
   have fin : ∀ w' H', Live W0 B0 w' p fs H' (stepS fs s o).1 (stepS fs s o).2 → Adv H4 w6 H' w' → vc_arbiterlaw13_played_J1 (n2 - i.toNat) (fun k i w' => k = n2 - i.toNat ∧ 0 ≤ i ∧ i ≤ n2 ∧ ∃ H', Live W0 B0 w' p fs H' (standS fs (ops.take i.toNat)).1 (standS fs (ops.take i.toNat)).2 ∧ Adv (fun _ => False) w H' w') i w' := by
    intro w' H' L' adv'
    refine ⟨n2 - (i + 1).toNat, by omega, ?_⟩
    rw [step_le i0 hlt sm2]
    refine ⟨rfl, by omega, by omega, H', ?_, A6.trans adv'⟩
    rw [show (i + 1).toNat = i.toNat + 1 by omega, hsn]
    exact L'
   have quiet : (o.kind ≠ 1 ∧ o.kind ≠ 2 ∧ o.kind ≠ 3 ∧ o.kind ≠ 4) → ∀ w', Ext w6 w' → vc_arbiterlaw13_played_J1 (n2 - i.toNat) (fun k i w' => k = n2 - i.toNat ∧ 0 ≤ i ∧ i ≤ n2 ∧ ∃ H', Live W0 B0 w' p fs H' (standS fs (ops.take i.toNat)).1 (standS fs (ops.take i.toNat)).2 ∧ Adv (fun _ => False) w H' w') i w' := by
    rintro ⟨q1, q2, q3, q4⟩ w' E'
    refine fin w' H4 ?_ (Adv.of_ext E')
    have : stepS fs s o = s := by unfold stepS; rw [if_neg (fun q => q.1.elim q1 q2), if_neg q3, if_neg q4]
    rw [this]
    exact L6.stay E'
   refine ⟨_, k0, fun e1 => ⟨_, k2, _, k3, _, k4, ?_⟩, fun n1 => ⟨fun e2 => ⟨_, k2, _, k3, _, k4, ?_⟩, fun n2' => ⟨fun e3 => ?_, fun n3 => ⟨fun e4 => ⟨_, k2, ?_⟩, fun n4 => ⟨fun e9 => ⟨_, k2, _, k3, ?_⟩, fun n9 => ⟨fun e5 => ?_, fun n5 => ⟨fun e12 => ⟨_, k2, _, k3, ?_⟩, fun n12 => ?_⟩⟩⟩⟩⟩⟩⟩
   ·refine (L6.equal (a := o.a) (b := o.b) (t := o.tag) (by omega)).mono ?_
    rintro _ w7 ⟨_, rfl, e, rfl, H', adv, ⟨h1, _, L'⟩ | ⟨h1, _, L'⟩⟩
    ·refine ⟨_, rfl, e, rfl, fin w7 H' ?_ adv⟩
     have : stepS fs s o = s := by unfold stepS; rw [if_neg (fun q => h1 q.2), if_neg (by omega), if_neg (by omega)]
     rw [this]; exact L'
    ·refine ⟨_, rfl, e, rfl, fin w7 H' ?_ adv⟩
     have : stepS fs s o = (s.1 ++ [⟨o.a, o.b, o.tag, false⟩], s.2) := by unfold stepS; rw [if_pos ⟨.inl e1, h1⟩, decide_eq_false (by omega)]
     rw [this]; exact L'
   ·refine (L6.differ (a := o.a) (b := o.b) (t := o.tag) (by omega)).mono ?_
    rintro _ w7 ⟨_, rfl, e, rfl, H', adv, ⟨h1, _, L'⟩ | ⟨h1, _, L'⟩⟩
    ·refine ⟨_, rfl, e, rfl, fin w7 H' ?_ adv⟩
     have : stepS fs s o = s := by unfold stepS; rw [if_neg (fun q => h1 q.2), if_neg (by omega), if_neg (by omega)]
     rw [this]; exact L'
    ·refine ⟨_, rfl, e, rfl, fin w7 H' ?_ adv⟩
     have : stepS fs s o = (s.1 ++ [⟨o.a, o.b, o.tag, true⟩], s.2) := by unfold stepS; rw [if_pos ⟨.inr e2, h1⟩, decide_eq_true e2]
     rw [this]; exact L'
   ·refine (L6.push (by omega)).mono ?_
    rintro _ w7 ⟨_, rfl, rfl, H', adv, L'⟩
    refine ⟨_, rfl, rfl, fin w7 H' ?_ adv⟩
    have : stepS fs s o = (s.1, s.2 ++ [(s.1.length : Int)]) := by unfold stepS; rw [if_neg (fun q => q.1.elim n1 n2'), if_pos e3]
    rw [this]; exact L'
   ·refine (L6.pop (k := o.a) (by omega) (by omega) ha).mono ?_
    rintro _ w7 ⟨_, rfl, e, rfl, H', adv, _, L'⟩
    refine ⟨_, rfl, e, rfl, fin w7 H' ?_ adv⟩
    have : stepS fs s o = popS s.1 s.2 o.a := by unfold stepS; rw [if_neg (fun q => q.1.elim n1 n2'), if_neg n3, if_pos e4]
    rw [this]; exact L'
   ·refine (L6.why (a := o.a) (b := o.b) (by omega)).mono ?_
    rintro _ w7 ⟨_, rfl, B, m, d, e, rfl, hE, _⟩
    exact ⟨_, rfl, B, m, d, e, rfl, quiet ⟨n1, n2', n3, n4⟩ w7 hE⟩
   ·refine (L6.roots (by omega)).mono ?_
    rintro _ w7 ⟨_, rfl, B, d, r, rfl, _, _, hE⟩
    exact ⟨_, rfl, B, _, d, rfl, quiet ⟨n1, n2', n3, n4⟩ w7 hE⟩
   ·refine (L6.prove (a := o.a) (b := o.b) (by omega)).mono ?_
    rintro _ w7 ⟨_, rfl, B, m, d, e, rfl, hE, _⟩
    exact ⟨_, rfl, B, m, d, e, rfl, quiet ⟨n1, n2', n3, n4⟩ w7 hE⟩
   ·exact quiet ⟨n1, n2', n3, n4⟩ w6 (Ext.refl w6)
  ·have hi : i.toNat = ops.length := by omega
   rw [hi, List.take_length] at L4
   rw [← hKd]
   exact .inr ⟨hs, p, H4, rfl, L4, A4⟩
end
end Go.Proofs.YtnbakpoahcndpaaDoor
namespace Go.Proofs.YtnbakpoahcndpaaDoor
set_option linter.unusedVariables false
set_option linter.unusedSimpArgs false
open Wk
namespace Hd
def fs : List Flat := [⟨0, []⟩, ⟨1, []⟩, ⟨2, [0]⟩, ⟨2, [1]⟩]
def st : List SaidR := [⟨1, 0, 7, false⟩]
theorem before : ¬ SameBy fs [] 2 3 := by
 intro h
 have : (2 : Int) = 3 := by
  refine CC.least (f := fun x => x) (fun x y _ _ ⟨s, hs, _⟩ => by cases hs) (fun p q c => ?_) h
  obtain ⟨p0, p1⟩ := c.v1
  obtain ⟨q0, q1⟩ := c.v2
  have hf := c.fn
  have ha := c.args
  have e4 : (fs.length : Int) = 4 := rfl
  rw [e4] at p1 q1
  have hp : p = 0 ∨ p = 1 ∨ p = 2 ∨ p = 3 := by omega
  have hq : q = 0 ∨ q = 1 ∨ q = 2 ∨ q = 3 := by omega
  rcases hp with rfl | rfl | rfl | rfl <;> rcases hq with rfl | rfl | rfl | rfl <;> first
   | rfl
   | exact absurd hf (by decide)
   | exact absurd (ha 0 0 1 rfl rfl) (by decide)
   | exact absurd (ha 0 1 0 rfl rfl) (by decide)
 exact absurd this (by decide)
theorem after {l : List SaidR} (h : (⟨1, 0, 7, false⟩ : SaidR) ∈ l) : SameBy fs l 2 3 := by
 have h01 : CC fs (eqsOf l) 0 1 := .symm (.base ⟨by decide, by decide⟩ ⟨by decide, by decide⟩ ⟨_, h, rfl, trivial, rfl, rfl⟩)
 refine .cong ⟨by decide, by decide⟩ ⟨by decide, by decide⟩ (by decide) rfl rfl fun i a b ha hb => ?_
 have ha' : ([0] : List Int)[i]? = some a := ha
 have hb' : ([1] : List Int)[i]? = some b := hb
 match i with
 | 0 =>
  cases ha'
  cases hb'
  exact h01
 | i + 1 => simp at ha'
theorem out_is {out : List Int} (h : Bare (fun tags => SameBy fs (pick st tags) 2 3) out) : out = [7] := by
 have key : ∀ tags : List Int, 7 ∈ tags → SameBy fs (pick st tags) 2 3 := fun tags ht => after (pick_mem.2 ⟨List.mem_singleton.2 rfl, ht⟩)
 have h7 : 7 ∈ out := by
  refine Classical.byContradiction fun hn => ?_
  have hp : pick st out = [] := by
   refine List.eq_nil_iff_forall_not_mem.2 fun s hs => ?_
   obtain ⟨h1, h2⟩ := pick_mem.1 hs
   have : s = ⟨1, 0, 7, false⟩ := List.mem_singleton.1 h1
   subst this
   exact hn h2
  have := h.holds
  rw [hp] at this
  exact before this
 match out, h, h7 with
 | [a], h, h7 => rw [List.mem_singleton.1 h7]
 | a :: b :: r, h, h7 =>
  rcases Classical.em (a = 7) with e | e
  ·exact absurd (key _ (by rw [List.eraseIdx_cons_succ]; rw [e]; exact List.mem_cons_self)) (h.least 1 (by simp))
  ·exact absurd (key _ (by
    rw [List.eraseIdx_cons_zero]
    rcases List.mem_cons.1 h7 with q | q
    ·exact absurd q.symm e
    ·exact q)) (h.least 0 (by simp))
theorem noclash : ¬ ClashBy fs st := fun ⟨s, hs, h1, _⟩ => by
 have : s = ⟨1, 0, 7, false⟩ := List.mem_singleton.1 hs
 subst this
 cases h1
theorem sound : Sound fs := by
 intro i x hx j a ha
 match i with
 | 0 => cases hx; simp at ha
 | 1 => cases hx; simp at ha
 | 2 =>
  cases hx
  match j with
  | 0 => cases ha; decide
  | j + 1 => simp at ha
 | 3 =>
  cases hx
  match j with
  | 0 => cases ha; decide
  | j + 1 => simp at ha
 | i + 4 => simp [fs] at hx
theorem ok : NodesOk 2 fs := ⟨by decide, fun x hx => by
 simp [fs] at hx
 rcases hx with rfl | rfl | rfl | rfl <;> decide, by decide, by decide, by decide⟩
end Hd
theorem heads_is {B0 : Nat} {w : World} (hB : B0 ≤ w.heap.size) (tab : Tab10 B0 w) : Calls P F.arbiterlaw13_heads #[] w (Ret fun v w' => v = .bool true ∧ Ext w w') := by
 refine Ret.mono (ok_arbiterlaw13_heads (fun b w' => b = true ∧ Ext w w') w ?_) (by rintro _ w' ⟨b, rfl, rfl, h⟩; exact ⟨rfl, h⟩)
 unfold vc_arbiterlaw13_heads
 intro p1 w1 hN1 p2 w2 hN2 p3 w3 hN3
 have E3 : Ext w w3 := ((Ext.of_new hN1).new hN2).new hN3
 have c1 : CellsAt w3 p1 [.int .i64 0] := Ext.cells ((Ext.of_new hN2).new hN3) (hN1.cells rfl)
 have c2 : CellsAt w3 p2 [.int .i64 1] := Ext.cells (Ext.of_new hN3) (hN2.cells rfl)
 have c3 : CellsAt w3 p3 [.int .i64 0, .slice none 0 0, .int .i64 1, .slice none 0 0, .int .i64 2, .slice (some p1) 1 1, .int .i64 2, .slice (some p2) 1 1] := hN3.cells rfl
 have one : ∀ {w' : World} {p : Addr} {x : Int}, CellsAt w' p [.int .i64 x] → Ints w' (some p) 1 [x] := fun {w' p x} h => ⟨rfl, fun i y hy => by
  match i with
  | 0 =>
   cases hy
   exact ⟨p, [.int .i64 x], rfl, rfl, by rw [Nat.zero_mul, Addr.add_zero]; exact h, rfl⟩
  | i + 1 => simp at hy⟩
 have two : ∀ {w' : World} (i : Nat) {u v : Value} {us : List Value}, Ext w3 w' → ([.int .i64 0, .slice none 0 0, .int .i64 1, .slice none 0 0, .int .i64 2, .slice (some p1) 1 1, .int .i64 2, .slice (some p2) 1 1] : List Value)[i * 2]? = some u → ([.int .i64 0, .slice none 0 0, .int .i64 1, .slice none 0 0, .int .i64 2, .slice (some p1) 1 1, .int .i64 2, .slice (some p2) 1 1] : List Value)[i * 2 + 1]? = some v → CellsAt w' (p3.add (i * 2)) [u, v] := by
  intro w' i u v us E hu hv j y hy
  match j with
  | 0 => cases hy; rw [Addr.add_zero]; exact E.cells c3 _ _ hu
  | 1 => cases hy; rw [Addr.add_add]; exact E.cells c3 _ _ hv
  | j + 2 => simp at hy
 have hx : ∀ w', Ext w3 w' → Sl cFlat w' (some p3) Hd.fs.length Hd.fs := fun w' E => ⟨rfl, fun i x hxi => by
  match i with
  | 0 => cases hxi; exact ⟨p3, _, rfl, rfl, two 0 (us := []) E rfl rfl, none, 0, 0, rfl, by decide, Sl.nil _ _ _⟩
  | 1 => cases hxi; exact ⟨p3, _, rfl, rfl, two 1 (us := []) E rfl rfl, none, 0, 0, rfl, by decide, Sl.nil _ _ _⟩
  | 2 => cases hxi; exact ⟨p3, _, rfl, rfl, two 2 (us := []) E rfl rfl, some p1, 1, 1, rfl, by decide, one (E.cells c1)⟩
  | 3 => cases hxi; exact ⟨p3, _, rfl, rfl, two 3 (us := []) E rfl rfl, some p2, 1, 1, rfl, by decide, one (E.cells c2)⟩
  | i + 4 => simp [Hd.fs] at hxi⟩
 have tab3 : Tab10 B0 w3 := tab_keep tab E3 hB (fun _ _ h => h.elim)
 refine (live_new (fs := Hd.fs) (c1 := 4) hx (Nat.le_trans hB E3.size) tab3 Hd.ok).mono ?_
 rintro _ w4 ⟨v, rfl, ⟨h1, _⟩ | ⟨_, p, H, rfl, L, adv⟩⟩
 ·exact absurd Hd.sound h1
 have E4 := E3.trans adv.keep
 refine ⟨_, rfl, _, _, rfl, (law_no_is 0).mono ?_⟩
 rintro _ w5 ⟨_, rfl, rfl, rfl⟩
 refine ⟨_, rfl, _, rfl, fun q => absurd rfl q, fun _ => ⟨fun q => absurd (of_decide_eq_true q) (by simp), fun _ => ?_⟩⟩
 have in23 : In2 Hd.fs 2 3 := by decide
 refine (L.same (a := 2) (b := 3)).mono ?_
 rintro _ w7 ⟨_, rfl, b3, x3, rfl, ⟨h1, _⟩ | ⟨_, rfl, hb3⟩, E7⟩
 ·exact absurd in23 h1
 refine ⟨_, rfl, b3, _, rfl, ?_⟩
 refine ((L.stay E7).equal (a := 1) (b := 0) (t := 7) (by simp)).mono ?_
 rintro _ w8 ⟨_, rfl, x4, rfl, H8, adv8, ⟨h1, _⟩ | ⟨_, rfl, L8⟩⟩
 ·exact absurd (by decide : In2 Hd.fs 1 0) h1
 refine ⟨_, rfl, _, rfl, ?_⟩
 have adv8' : Adv (fun _ => False) w3 H8 w8 := (adv.trans (Adv.of_ext E7)).trans adv8
 have E8 := E3.trans adv8'.keep
 have L8' : Live 2 B0 w8 p Hd.fs H8 Hd.st [] := L8
 refine (L8'.same (a := 2) (b := 3)).mono ?_
 rintro _ w9 ⟨_, rfl, b4, x5, rfl, ⟨h1, _⟩ | ⟨_, rfl, hb4⟩, E9⟩
 ·exact absurd in23 h1
 refine ⟨_, rfl, b4, _, rfl, ?_⟩
 have sm : SameBy Hd.fs Hd.st 2 3 := Hd.after (List.mem_singleton.2 rfl)
 refine ((L8'.stay E9).why (a := 2) (b := 3) (by decide)).mono ?_
 rintro _ w10 ⟨_, rfl, B, m, d, e, rfl, E10, ⟨h1, _⟩ | ⟨_, h1, _⟩ | ⟨_, _, rfl, out, rfl, R, hb⟩⟩
 ·exact absurd in23 h1
 ·exact absurd sm h1
 have ho := Hd.out_is hb
 subst ho
 refine ⟨_, rfl, B, _, d, _, rfl, ?_⟩
 refine (((L8'.stay E9).stay E10).prove (a := 2) (b := 3) (by decide)).mono ?_
 rintro _ w11 ⟨_, rfl, B2, m2, d2, e2, rfl, E11, ⟨h1, _⟩ | ⟨_, h1, _⟩ | ⟨_, _, rfl, ls, lv, rfl, _, _, _, _, last, hlast, _⟩⟩
 ·exact absurd in23 h1
 ·exact absurd sm h1
 have hls : 0 < ls.length := by
  have := (List.getElem?_eq_some_iff.1 hlast).1
  omega
 refine ⟨_, rfl, B2, _, d2, _, rfl, fun q => absurd (hb3.1 q) Hd.before, fun _ => ⟨fun q => ?_, fun _ => ?_⟩⟩
 ·rw [hb4.2 sm] at q; cases q
 have L11 := ((L8'.stay E9).stay E10).stay E11
 have E11' := ((E8.trans E9).trans E10).trans E11
 refine (law_no_is 0).mono ?_
 rintro _ w13 ⟨_, rfl, rfl, rfl⟩
 refine ⟨_, rfl, _, rfl, fun q => absurd rfl q, fun _ => ?_⟩
 refine (law_no_is 0).mono ?_
 rintro _ w14 ⟨_, rfl, rfl, rfl⟩
 refine ⟨_, rfl, _, rfl, fun q => absurd rfl q, fun _ => ?_⟩
 refine (law_no_is 0).mono ?_
 rintro _ w15 ⟨_, rfl, rfl, rfl⟩
 refine ⟨_, rfl, _, rfl, fun q => absurd rfl q, fun _ => ?_⟩
 refine (law_no_is 0).mono ?_
 rintro _ w16 ⟨_, rfl, rfl, rfl⟩
 refine ⟨_, rfl, _, rfl, fun q => absurd rfl q, fun _ => ?_⟩
 refine (law_no_is 0).mono ?_
 rintro _ w17 ⟨_, rfl, rfl, rfl⟩
 refine ⟨_, rfl, _, rfl, fun q => absurd (of_decide_eq_true q) (by decide), fun _ => ⟨fun _ => ?_, fun q => absurd rfl q⟩⟩
 obtain ⟨a1, v, hA, hv, hc, _⟩ := (R.keep E11 fun _ _ h => h).get (i := 0) (by decide) (by decide)
 cases hv
 refine ⟨by decide, by decide, a1, hA, 7, hc, fun _ => ⟨fun _ => ?_, fun q => absurd (by omega : (0 : Int) < (ls.length : Int)) q⟩, fun q => absurd rfl q⟩
 refine (L11.clash (by decide)).mono ?_
 rintro _ w18 ⟨_, rfl, b6, rfl, hb6, E18⟩
 refine ⟨_, rfl, b6, rfl, ?_, E11'.trans E18⟩
 cases b6 with
 | false => rfl
 | true => exact absurd (hb6.1 rfl) Hd.noclash
end Go.Proofs.YtnbakpoahcndpaaDoor
namespace Go.Proofs.YtnbakpoahcndpaaDoor
set_option linter.unusedVariables false
set_option linter.unusedSimpArgs false
set_option maxHeartbeats 2000000
set_option maxRecDepth 20000
open Wk
end Go.Proofs.YtnbakpoahcndpaaDoor
namespace Go.Proofs.YtnbakpoahcndpaaDoor
set_option linter.unusedVariables false
set_option linter.unusedSimpArgs false
open Wk
def rAt (r : List Int) (x : Int) : Int := r.getD x.toNat 0
section
variable {fs : List Flat} {st : List SaidR} {r : List Int}
theorem RootsAre.get (h : RootsAre fs st r) {i : Int} (hi : Vn fs.length i) : r[i.toNat]? = some (rAt r i) := by
 have : i.toNat < r.length := by rw [h.len]; have := hi.1; have := hi.2; omega
 unfold rAt
 rw [List.getD_eq_getElem?_getD, List.getElem?_eq_getElem this]
 rfl
theorem RootsAre.spec (h : RootsAre fs st r) {i : Int} (hi : Vn fs.length i) : SameBy fs st i (rAt r i) ∧ ∀ y, SameBy fs st i y → rAt r i ≤ y := by
 have := h.at_ _ _ (h.get hi)
 rwa [show ((i.toNat : Nat) : Int) = i by have := hi.1; omega] at this
theorem RootsAre.vn (h : RootsAre fs st r) {i : Int} (hi : Vn fs.length i) : Vn fs.length (rAt r i) := (CC.val (h.spec hi).1).2
theorem RootsAre.le (h : RootsAre fs st r) {i : Int} (hi : Vn fs.length i) : rAt r i ≤ i := (h.spec hi).2 i (.refl hi)
theorem RootsAre.eq (h : RootsAre fs st r) {x y : Int} (k : SameBy fs st x y) : rAt r x = rAt r y := by
 obtain ⟨vx, vy⟩ := CC.val k
 exact Int.le_antisymm ((h.spec vx).2 _ (.trans k (h.spec vy).1)) ((h.spec vy).2 _ (.trans (.symm k) (h.spec vx).1))
theorem RootsAre.same (h : RootsAre fs st r) {x y : Int} (vx : Vn fs.length x) (vy : Vn fs.length y) (k : rAt r x = rAt r y) : SameBy fs st x y := by
 have h2 := (h.spec vy).1
 rw [← k] at h2
 exact .trans (h.spec vx).1 (.symm h2)
theorem RootsAre.cong (h : RootsAre fs st r) {p q : Int} (c : CongOk fs (fun a b => Vn fs.length a ∧ Vn fs.length b ∧ rAt r a = rAt r b) p q) : rAt r p = rAt r q :=
 h.eq (.cong c.v1 c.v2 c.app c.fn c.len fun i a b ha hb => let ⟨k1, k2, k3⟩ := c.args i a b ha hb; h.same k1 k2 k3)
end
section
variable {w : World} {fs : List Flat} {st : List SaidR} {r : List Int} {n2 : Nat} {A1 A2 A3 : Option Addr}
end
end Go.Proofs.YtnbakpoahcndpaaDoor
namespace Go.Proofs.YtnbakpoahcndpaaDoor
set_option linter.unusedVariables false
set_option linter.unusedSimpArgs false
open Wk
section
variable {W0 B0 : Nat} {w : World} {fs : List Flat} {ops : List OpR} {table : List Int} {n2 n3 : Nat} {A1 A2 A3 : Option Addr}
end
end Go.Proofs.YtnbakpoahcndpaaDoor
namespace Go.Proofs.YtnbakpoahcndpaaDoor
set_option linter.unusedVariables false
set_option linter.unusedSimpArgs false
set_option maxHeartbeats 2000000
set_option maxRecDepth 20000
open Wk
def vc_arbiterlaw13_told_J1 (k2 : Nat) (I2 : Nat → Bool → Int → World → Prop) (x4 : Int) (b4 : Bool) (w7 : World) : Prop :=
 ∃ k3, k3 < k2 ∧ I2 k3 b4 (IntKind.wrap .i64 (x4 + 1)) w7
def vc_arbiterlaw13_told_J2 (x3 : Int) (n2 : Nat) (A2 : Option Addr) (w5 : World) (q2 : Option Addr) (jc4 : World → Prop) (b6 : Bool) : Prop :=
 (b6 = true → (0 ≤ x3 ∧ x3 < (n2 : Int) ∧ ∃ a4, A2 = some a4 ∧ ∃ x7, w5.cell? ((a4.add (x3.toNat * 4)).add 1) = some (.int .i64 x7) ∧ 0 ≤ x3 ∧ x3 < (n2 : Int) ∧ ∃ a5, A2 = some a5 ∧ ∃ x8, w5.cell? ((a5.add (x3.toNat * 4)).add 2) = some (.int .i64 x8) ∧ 0 ≤ x3 ∧ x3 < (n2 : Int) ∧ ∃ a6, A2 = some a6 ∧ ∃ x9, w5.cell? ((a6.add (x3.toNat * 4)).add 3) = some (.int .i64 x9) ∧ ∀ w10, Drawn w5 w10 → Calls P F.euf_Graph_Differ #[(.pointer q2), (.int .i64 x7), (.int .i64 x8), (.int .i64 x9)] w10 (Ret fun v3 w9 => ∃ x10, v3 = (.int .i64 x10) ∧ ∀ w12, Drawn w9 w12 → (jc4 w12)))) ∧ (b6 = false → (jc4 w5))
def vc_arbiterlaw13_told_J3 (x3 : Int) (n2 : Nat) (A2 : Option Addr) (w13 : World) (q2 : Option Addr) (jc6 : World → Prop) (b8 : Bool) : Prop :=
 (b8 = true → (0 ≤ x3 ∧ x3 < (n2 : Int) ∧ ∃ a8, A2 = some a8 ∧ ∃ x11, w13.cell? ((a8.add (x3.toNat * 4)).add 1) = some (.int .i64 x11) ∧ 0 ≤ x3 ∧ x3 < (n2 : Int) ∧ ∃ a9, A2 = some a9 ∧ ∃ x12, w13.cell? ((a9.add (x3.toNat * 4)).add 2) = some (.int .i64 x12) ∧ 0 ≤ x3 ∧ x3 < (n2 : Int) ∧ ∃ a10, A2 = some a10 ∧ ∃ x13, w13.cell? ((a10.add (x3.toNat * 4)).add 3) = some (.int .i64 x13) ∧ ∀ w15, Drawn w13 w15 → Calls P F.euf_Graph_Equal #[(.pointer q2), (.int .i64 x11), (.int .i64 x12), (.int .i64 x13)] w15 (Ret fun v4 w14 => ∃ x14, v4 = (.int .i64 x14) ∧ ∀ w17, Drawn w14 w17 → (jc6 w17)))) ∧ (b8 = false → (jc6 w13))
def vc_arbiterlaw13_told_J4 (b3 : Bool) (x3 : Int) (n2 : Nat) (A2 : Option Addr) (q2 : Option Addr) (jc6 : World → Prop) (w13 : World) : Prop :=
 (b3 = true → (0 ≤ x3 ∧ x3 < (n2 : Int) ∧ ∃ a7, A2 = some a7 ∧ ∃ b7, w13.cell? ((a7.add (x3.toNat * 4)).add 0) = some (.bool b7) ∧ (vc_arbiterlaw13_told_J3 x3 n2 A2 w13 q2 jc6) (!b7))) ∧ (b3 = false → ((vc_arbiterlaw13_told_J3 x3 n2 A2 w13 q2 jc6) false))
def vc_arbiterlaw13_told_J5 (k1 : Nat) (I1 : Nat → Int → World → Prop) (x3 : Int) (w18 : World) : Prop :=
 ∃ k4, k4 < k1 ∧ I1 k4 (IntKind.wrap .i64 (x3 + 1)) w18
def vc_arbiterlaw13_told_J6 (K : Option Addr → World → Prop) (n2 : Nat) (b1 : Bool) (n3 : Nat) (A3 : Option Addr) (A2 : Option Addr) (q2 : Option Addr) (b2 : Bool) (w3 : World) : Prop :=
 (b2 = true → (K none w3)) ∧ (b2 = false → (∃ I1 : Nat → Int → World → Prop, (∃ k1, I1 k1 0 w3) ∧ ∀ k1 (x3 : Int) (w4 : World), I1 k1 x3 w4 → ((x3 < (n2 : Int) → (∃ I2 : Nat → Bool → Int → World → Prop, (∃ k2, I2 k2 b1 0 w4) ∧ ∀ k2 (b3 : Bool) (x4 : Int) (w5 : World), I2 k2 b3 x4 w5 → ((x4 < (n3 : Int) → ((b3 = true → (∀ w6, Drawn w5 w6 → ((vc_arbiterlaw13_told_J1 k2 I2 x4) true w6))) ∧ (b3 = false → (0 ≤ x4 ∧ x4 < (n3 : Int) ∧ ∃ a1, A3 = some a1 ∧ ∃ x5, w5.cell? (a1.add (x4.toNat * 1)) = some (.int .i64 x5) ∧ 0 ≤ x3 ∧ x3 < (n2 : Int) ∧ ∃ a2, A2 = some a2 ∧ ∃ x6, w5.cell? ((a2.add (x3.toNat * 4)).add 3) = some (.int .i64 x6) ∧ ∀ w8, Drawn w5 w8 → ((vc_arbiterlaw13_told_J1 k2 I2 x4) (decide (x5 = x6)) w8))))) ∧ (¬ (x4 < (n3 : Int)) → ((b3 = true → (0 ≤ x3 ∧ x3 < (n2 : Int) ∧ ∃ a3, A2 = some a3 ∧ ∃ b5, w5.cell? ((a3.add (x3.toNat * 4)).add 0) = some (.bool b5) ∧ (vc_arbiterlaw13_told_J2 x3 n2 A2 w5 q2 (vc_arbiterlaw13_told_J4 b3 x3 n2 A2 q2 (vc_arbiterlaw13_told_J5 k1 I1 x3))) b5)) ∧ (b3 = false → ((vc_arbiterlaw13_told_J2 x3 n2 A2 w5 q2 (vc_arbiterlaw13_told_J4 b3 x3 n2 A2 q2 (vc_arbiterlaw13_told_J5 k1 I1 x3))) false))))))) ∧ (¬ (x3 < (n2 : Int)) → (K q2 w4)))))
def vc_arbiterlaw13_told (A1 : Option Addr) (n1 c1 : Nat) (A2 : Option Addr) (n2 c2 : Nat) (A3 : Option Addr) (n3 c3 : Nat) (b1 : Bool) (K : Option Addr → World → Prop) (w : World) : Prop :=
 Calls P F.euf_New #[(.slice A1 n1 c1)] w (Ret fun v1 w1 => ∃ q2, ∃ x1, v1 = (.tuple #[(.pointer q2), (.int .i64 x1)]) ∧ Calls P F.arbiterlaw13_no #[(.int .i64 x1)] w1 (Ret fun v2 w2 => ∃ x2, v2 = (.int .i64 x2) ∧ (x2 ≠ 0 → ((vc_arbiterlaw13_told_J6 K n2 b1 n3 A3 A2 q2) true w2)) ∧ (¬ (x2 ≠ 0) → ((vc_arbiterlaw13_told_J6 K n2 b1 n3 A3 A2 q2) (decide (q2 = none)) w2))))
theorem ok_arbiterlaw13_told (A1 : Option Addr) (n1 c1 : Nat) (A2 : Option Addr) (n2 c2 : Nat) (A3 : Option Addr) (n3 c3 : Nat) (b1 : Bool) (K : Option Addr → World → Prop) (w : World) (H : vc_arbiterlaw13_told A1 n1 c1 A2 n2 c2 A3 n3 c3 b1 K w) : Calls P F.arbiterlaw13_told #[(.slice A1 n1 c1), (.slice A2 n2 c2), (.slice A3 n3 c3), (.bool b1)] w (Ret fun v w' => ∃ q1, v = (.pointer q1) ∧ K q1 w') := by
 unfold vc_arbiterlaw13_told at H; refine calls_of (P := P) Tryd.func15 rfl [(0, (.slice A1 n1 c1)), (1, (.slice A2 n2 c2)), (2, (.slice A3 n3 c3)), (3, (.bool b1))] 104 rfl rfl (aa rfl (aa rfl (aa rfl (aa rfl az)))) (cw_seq (cw_region (ag rfl (sl_nil (nc (kp 0 rfl (kp 1 rfl (kp 2 rfl (kp 3 rfl zz)))) (cw_seq (cw_region (mv rfl (sl_call rfl rfl (wanted_none rfl) (fun a ha => x_call0 (ha.ev rfl) (ha.evs rfl) FF.callable_euf_New) H ?_))))))))); rintro _ w1 ⟨q2, x1, rfl, H⟩; refine mv rfl (sv rfl rfl (fun a ha => x_extract (ha.ev rfl) rfl) (sv rfl rfl (fun a ha => x_extract (ha.ev rfl) rfl) (ag rfl (ag rfl (sl_nil (nc (kp 1 rfl (kp 2 rfl (kp 3 rfl (kp 9 rfl (kp 10 rfl zz))))) (cw_seq ?_))))))); refine cw_join (fun a w => ∃ b2, Ok 104 [(1, (.slice A2 n2 c2)), (2, (.slice A3 n3 c3)), (3, (.bool b1)), (9, (.pointer q2)), (25, (.bool b2))] a ∧ vc_arbiterlaw13_told_J6 K n2 b1 n3 A3 A2 q2 b2 w) ?_ ?_
 ·rintro a w3 ⟨b2, ha, H⟩; unfold vc_arbiterlaw13_told_J6 at H; refine (?_ : CW _ _ _ 104 [(1, (.slice A2 n2 c2)), (2, (.slice A3 n3 c3)), (3, (.bool b1)), (9, (.pointer q2)), (25, (.bool b2))] _) a ha; refine cw_cond rfl (fun hb => ?_) (fun hb => ?_)
  ·replace H := H.1 hb; exact cw_seq (cw_region (ag rfl (sl_nil (nc (kp 8 rfl zz) (cw_ret (nx_ret_then (nx_body_ret (res1 rfl rfl) ⟨_, rfl, _, rfl, H⟩)))))))
  ·replace H := H.2 hb; refine cw_skip (nc (kp 1 rfl (kp 2 rfl (kp 3 rfl (kp 9 rfl zz)))) (cw_seq (cw_seq (cw_region (ag rfl (sl_nil (nc (kp 1 rfl (kp 2 rfl (kp 3 rfl (kp 9 rfl (kp 11 rfl zz))))) (cw_block ?_)))))))); obtain ⟨I1, ⟨k1, hi⟩, H⟩ := H; refine cw_loop (fun k1 a w' => ∃ x3, Ok 104 [(1, (.slice A2 n2 c2)), (2, (.slice A3 n3 c3)), (3, (.bool b1)), (9, (.pointer q2)), (11, (.int .i64 x3))] a ∧ I1 k1 x3 w') (fun a ha => ⟨k1, 0, ha.weaken (sub.cons rfl (sub.cons rfl (sub.cons rfl (sub.cons rfl (sub.cons rfl (sub.nil)))))), hi⟩) ?_; rintro k1 a w4 ⟨x3, ha, hI⟩; replace H := H k1 x3 w4 hI; refine (?_ : CW _ _ _ 104 [(1, (.slice A2 n2 c2)), (2, (.slice A3 n3 c3)), (3, (.bool b1)), (9, (.pointer q2)), (11, (.int .i64 x3))] _) a ha; refine cw_seq (cw_seq (cw_region (mv rfl (mv rfl (sv rfl rfl (fun a ha => x_builtin (ha.evs rfl) (fun _ => l_slice TF.isslice_sl_arbiterlaw13_Said)) (bo rfl rfl o_lss (sl_nil (nc (kp 1 rfl (kp 2 rfl (kp 3 rfl (kp 9 rfl (kp 11 rfl (kp 29 rfl zz)))))) ?_)))))))); refine cw_cond_p rfl (fun hb => ?_) (fun hb => ?_)
   ·replace H := H.1 hb; refine cw_skip (nc (kp 1 rfl (kp 2 rfl (kp 3 rfl (kp 9 rfl (kp 11 rfl zz))))) ?_); refine cw_join (fun a w => Ok 104 [(1, (.slice A2 n2 c2)), (2, (.slice A3 n3 c3)), (3, (.bool b1)), (9, (.pointer q2)), (11, (.int .i64 x3))] a ∧ vc_arbiterlaw13_told_J5 k1 I1 x3  w) ?_ ?_
    ·rintro a w18 ⟨ha, H⟩; unfold vc_arbiterlaw13_told_J5 at H; refine (?_ : CW _ _ _ 104 [(1, (.slice A2 n2 c2)), (2, (.slice A3 n3 c3)), (3, (.bool b1)), (9, (.pointer q2)), (11, (.int .i64 x3))] _) a ha; refine cw_region (mv rfl (bo rfl rfl o_add (ag rfl (sl_nil ?_)))); obtain ⟨k4, hk, H⟩ := H; exact nx_to fun a ha => ⟨k4, hk, IntKind.wrap .i64 (x3 + 1), ha.weaken (cn rfl (cn rfl (cn rfl (cn rfl (cn rfl zz))))), H⟩
    ·refine cw_block (cw_seq (cw_region (mv rfl (ag rfl (sl_nil (nc (kp 1 rfl (kp 2 rfl (kp 3 rfl (kp 9 rfl (kp 11 rfl (kp 12 rfl zz)))))) (cw_seq (cw_seq (cw_region (ag rfl (sl_nil (nc (kp 1 rfl (kp 2 rfl (kp 3 rfl (kp 9 rfl (kp 11 rfl (kp 12 rfl (kp 13 rfl zz))))))) (cw_block ?_))))))))))))); obtain ⟨I2, ⟨k2, hi⟩, H⟩ := H; refine cw_loop (fun k2 a w' => ∃ b3, ∃ x4, Ok 104 [(1, (.slice A2 n2 c2)), (2, (.slice A3 n3 c3)), (3, (.bool b1)), (9, (.pointer q2)), (11, (.int .i64 x3)), (12, (.bool b3)), (13, (.int .i64 x4))] a ∧ I2 k2 b3 x4 w') (fun a ha => ⟨k2, b1, 0, ha.weaken (sub.cons rfl (sub.cons rfl (sub.cons rfl (sub.cons rfl (sub.cons rfl (sub.cons rfl (sub.cons rfl (sub.nil)))))))), hi⟩) ?_; rintro k2 a w5 ⟨b3, x4, ha, hI⟩; replace H := H k2 b3 x4 w5 hI; refine (?_ : CW _ _ _ 104 [(1, (.slice A2 n2 c2)), (2, (.slice A3 n3 c3)), (3, (.bool b1)), (9, (.pointer q2)), (11, (.int .i64 x3)), (12, (.bool b3)), (13, (.int .i64 x4))] _) a ha; refine cw_seq (cw_seq (cw_region (mv rfl (mv rfl (sv rfl rfl (fun a ha => x_builtin (ha.evs rfl) (fun _ => l_slice TF.isslice_sl_int)) (bo rfl rfl o_lss (sl_nil (nc (kp 1 rfl (kp 2 rfl (kp 3 rfl (kp 9 rfl (kp 11 rfl (kp 12 rfl (kp 13 rfl (kp 36 rfl zz)))))))) ?_)))))))); refine cw_cond_p rfl (fun hb => ?_) (fun hb => ?_)
     ·replace H := H.1 hb; refine cw_skip (nc (kp 1 rfl (kp 2 rfl (kp 3 rfl (kp 9 rfl (kp 11 rfl (kp 12 rfl (kp 13 rfl zz))))))) ?_); refine cw_join (fun a w => ∃ b4, Ok 104 [(1, (.slice A2 n2 c2)), (2, (.slice A3 n3 c3)), (3, (.bool b1)), (9, (.pointer q2)), (11, (.int .i64 x3)), (12, (.bool b4)), (13, (.int .i64 x4))] a ∧ vc_arbiterlaw13_told_J1 k2 I2 x4 b4 w) ?_ ?_
      ·rintro a w7 ⟨b4, ha, H⟩; unfold vc_arbiterlaw13_told_J1 at H; refine (?_ : CW _ _ _ 104 [(1, (.slice A2 n2 c2)), (2, (.slice A3 n3 c3)), (3, (.bool b1)), (9, (.pointer q2)), (11, (.int .i64 x3)), (12, (.bool b4)), (13, (.int .i64 x4))] _) a ha; refine cw_region (mv rfl (bo rfl rfl o_add (ag rfl (sl_nil ?_)))); obtain ⟨k3, hk, H⟩ := H; exact nx_to fun a ha => ⟨k3, hk, b4, IntKind.wrap .i64 (x4 + 1), ha.weaken (cn rfl (cn rfl (cn rfl (cn rfl (cn rfl (cn rfl (cn rfl zz))))))), H⟩
      ·refine cw_block ?_; refine cw_any_drawn follows [0, 1, 2, 3, 4, 5, 6, 7, 8, 9, 10, 11, 12, 13] [5, 10] 14 rfl rfl (by kernel_rfl) (fun _ _ d _ _ h => by cases d <;> exact h) (fun cm W D => ?_); refine pmv 0 cm rfl rfl D W fun _ D W => ?_; rcases tf b3 with hb | hb
       ·replace H := H.1 hb; refine pv 1 cm rfl rfl rfl (fun w' a ha => o_bt (x_move (ha.ev rfl)) hb) D W fun _ D W => (ps 2 cm rfl rfl rfl rfl rfl D W fun _ D W => (ps 3 cm rfl rfl rfl rfl rfl D W fun _ D W => (ps 4 cm rfl rfl rfl rfl rfl D W fun _ D W => (ps 5 cm rfl rfl rfl rfl rfl D W fun _ D W => (ps 6 cm rfl rfl rfl rfl rfl D W fun _ D W => (ps 7 cm rfl rfl rfl rfl rfl D W fun _ D W => (ps 8 cm rfl rfl rfl rfl rfl D W fun _ D W => (ps 9 cm rfl rfl rfl rfl rfl D W fun _ D W => (ps 10 cm rfl rfl rfl rfl rfl D W fun _ D W => (psd 11 cm rfl rfl rfl rfl rfl D fun _ D => (pptd 12 cm rfl rfl rfl D fun _ D => (pagd 13 cm rfl rfl D fun _ D => (an_end (by kernel_rfl) D ?_))))))))))))); intro w6 D; replace H := H _ D; clear D cm; exact nx_block (nx_to fun a ha => ⟨true, ha.weaken (cn rfl (cn rfl (cn rfl (cn rfl (cn rfl (cn rfl (cn rfl zz))))))), H⟩)
       ·replace H := H.2 hb; refine pv 1 cm rfl rfl rfl (fun w' a ha => o_bf (x_move (ha.ev rfl)) hb) D W fun _ D W => (pmvg 2 cm rfl rfl rfl rfl D W fun _ D W => (pmvg 3 cm rfl rfl rfl rfl D W fun _ D W => ?_)); obtain ⟨h1, h2, a1, e1, H⟩ := H; refine pixg 4 cm rfl rfl rfl rfl rfl (i_index TF.elem_sl_int TF.size_int e1 h1 h2) D W fun _ D W => ?_; obtain ⟨x5, h3, H⟩ := H; refine vlg 5 cm rfl rfl rfl rfl (fun hw => (i_load1 TF.agg_int ((hw.cell _).trans h3))) D W fun _ D W => (pmvg 6 cm rfl rfl rfl rfl D W fun _ D W => (pmvg 7 cm rfl rfl rfl rfl D W fun _ D W => ?_)); obtain ⟨h4, h5, a2, e2, H⟩ := H; refine pixg 8 cm rfl rfl rfl rfl rfl (i_index TF.elem_sl_arbiterlaw13_Said TF.size_arbiterlaw13_Said e2 h4 h5) D W fun _ D W => (pfag 9 cm rfl rfl rfl rfl (TF.fld_arbiterlaw13_Said_3 _ _) D W fun _ D W => ?_); obtain ⟨x6, h6, H⟩ := H; refine vlg 10 cm rfl rfl rfl rfl (fun hw => (i_load1 TF.agg_int ((hw.cell _).trans h6))) D W fun _ D W => (pvgd 11 cm rfl rfl rfl rfl rfl (fun w' a ha => x_binOp (ha.ev rfl) (ha.ev rfl) o_eql) D fun _ D => (ppfd 12 cm rfl rfl rfl D fun _ D => (pagd 13 cm rfl rfl D fun _ D => (an_end (by kernel_rfl) D ?_)))); intro w8 D; replace H := H _ D; clear D cm; exact nx_block (nx_to fun a ha => ⟨(decide (x5 = x6)), ha.weaken (cn rfl (cn rfl (cn rfl (cn rfl (cn rfl (cn rfl (cn rfl zz))))))), H⟩)
     ·replace H := H.2 hb; refine cw_exit (nx_exit_then (nx_exit_then (nx_exit_hit (nc (kp 1 rfl (kp 2 rfl (kp 3 rfl (kp 9 rfl (kp 11 rfl (kp 12 rfl zz)))))) ?_)))); refine cw_join (fun a w => Ok 104 [(1, (.slice A2 n2 c2)), (2, (.slice A3 n3 c3)), (3, (.bool b1)), (9, (.pointer q2)), (11, (.int .i64 x3)), (12, (.bool b3))] a ∧ vc_arbiterlaw13_told_J4 b3 x3 n2 A2 q2 (vc_arbiterlaw13_told_J5 k1 I1 x3)  w) ?_ ?_
      ·rintro a w13 ⟨ha, H⟩; unfold vc_arbiterlaw13_told_J4 at H; refine (?_ : CW _ _ _ 104 [(1, (.slice A2 n2 c2)), (2, (.slice A3 n3 c3)), (3, (.bool b1)), (9, (.pointer q2)), (11, (.int .i64 x3)), (12, (.bool b3))] _) a ha; refine cw_join_still (fun a => ∃ b8, Ok 104 [(1, (.slice A2 n2 c2)), (2, (.slice A3 n3 c3)), (3, (.bool b1)), (9, (.pointer q2)), (11, (.int .i64 x3)), (85, (.bool b8))] a ∧ vc_arbiterlaw13_told_J3 x3 n2 A2 w13 q2 (vc_arbiterlaw13_told_J5 k1 I1 x3) b8) ?_ ?_
       ·rintro a ⟨b8, ha, H⟩; unfold vc_arbiterlaw13_told_J3 at H; refine (?_ : CW _ _ _ 104 [(1, (.slice A2 n2 c2)), (2, (.slice A3 n3 c3)), (3, (.bool b1)), (9, (.pointer q2)), (11, (.int .i64 x3)), (85, (.bool b8))] _) a ha; refine cw_cond rfl (fun hb => ?_) (fun hb => ?_)
        ·replace H := H.1 hb; refine cw_any_drawn follows [0, 1, 2, 3, 4, 5, 6, 7, 8, 9, 10, 11, 12, 13, 14, 15] [5, 10, 15] 17 rfl rfl (by kernel_rfl) (fun _ _ d _ _ h => by cases d <;> exact h) (fun cm W D => ?_); refine pmv 0 cm rfl rfl D W fun _ D W => (pmv 1 cm rfl rfl D W fun _ D W => (pmv 2 cm rfl rfl D W fun _ D W => ?_)); obtain ⟨h24, h25, a8, e8, H⟩ := H; refine pix 3 cm rfl rfl rfl (i_index TF.elem_sl_arbiterlaw13_Said TF.size_arbiterlaw13_Said e8 h24 h25) D W fun _ D W => (pfa 4 cm rfl rfl (TF.fld_arbiterlaw13_Said_1 _ _) D W fun _ D W => ?_); obtain ⟨x11, h26, H⟩ := H; refine vl 5 cm rfl rfl (fun hw => (i_load1 TF.agg_int ((hw.cell _).trans h26))) D W fun _ D W => (pmv 6 cm rfl rfl D W fun _ D W => (pmv 7 cm rfl rfl D W fun _ D W => ?_)); obtain ⟨h27, h28, a9, e9, H⟩ := H; refine pix 8 cm rfl rfl rfl (i_index TF.elem_sl_arbiterlaw13_Said TF.size_arbiterlaw13_Said e9 h27 h28) D W fun _ D W => (pfa 9 cm rfl rfl (TF.fld_arbiterlaw13_Said_2 _ _) D W fun _ D W => ?_); obtain ⟨x12, h29, H⟩ := H; refine vl 10 cm rfl rfl (fun hw => (i_load1 TF.agg_int ((hw.cell _).trans h29))) D W fun _ D W => (pmv 11 cm rfl rfl D W fun _ D W => (pmv 12 cm rfl rfl D W fun _ D W => ?_)); obtain ⟨h30, h31, a10, e10, H⟩ := H; refine pix 13 cm rfl rfl rfl (i_index TF.elem_sl_arbiterlaw13_Said TF.size_arbiterlaw13_Said e10 h30 h31) D W fun _ D W => (pfa 14 cm rfl rfl (TF.fld_arbiterlaw13_Said_3 _ _) D W fun _ D W => ?_); obtain ⟨x13, h32, H⟩ := H; refine vl 15 cm rfl rfl (fun hw => (i_load1 TF.agg_int ((hw.cell _).trans h32))) D W fun _ D W => (ar 16 ?_); replace H := H _ D; refine aw_c rfl rfl rfl (wanted_none rfl) (fun a ha => x_call0 (ha.ev rfl) (ha.evs rfl) FF.callable_euf_Graph_Equal) rfl false (by kernel_rfl) H ?_; rintro _ w14 ⟨x14, rfl, H⟩ _ D; refine ⟨fun h => (by cases h), ?_⟩; refine an_end (by kernel_rfl) D ?_; intro w17 D; replace H := H _ D; clear D cm; exact nx_block (nx_to fun a ha => ⟨ha.weaken (cn rfl (cn rfl (cn rfl (cn rfl (cn rfl zz))))), H⟩)
        ·replace H := H.2 hb; exact cw_skip (nx_block (nx_to fun a ha => ⟨ha.weaken (cn rfl (cn rfl (cn rfl (cn rfl (cn rfl zz))))), H⟩))
       ·refine cw_region (mv rfl ?_); rcases tf b3 with hb | hb
        ·replace H := H.1 hb; refine sv rfl rfl (fun a ha => o_bt (x_move (ha.ev rfl)) hb) (mvg rfl rfl rfl (mvg rfl rfl rfl ?_)); obtain ⟨h21, h22, a7, e7, H⟩ := H; refine ixg rfl rfl rfl rfl (i_index TF.elem_sl_arbiterlaw13_Said TF.size_arbiterlaw13_Said e7 h21 h22) (fag rfl rfl rfl (TF.fld_arbiterlaw13_Said_0 _ _) ?_); obtain ⟨b7, h23, H⟩ := H; exact ldg rfl rfl rfl (i_load1 TF.agg_bool h23) (svg rfl rfl rfl rfl (fun a ha => x_unOp (ha.ev rfl) u_not) (pt rfl rfl (sl_nil (nx_to fun a ha => ⟨⟨(!b7), ha.weaken (cn rfl (cn rfl (cn rfl (cn rfl (cn rfl (cn rfl zz)))))), H⟩, rfl⟩))))
        ·replace H := H.2 hb; exact sv rfl rfl (fun a ha => o_bf (x_move (ha.ev rfl)) hb) (sk rfl rfl rfl rfl (sk rfl rfl rfl rfl (sk rfl rfl rfl rfl (sk rfl rfl rfl rfl (sk rfl rfl rfl rfl (sk rfl rfl rfl rfl (pf rfl rfl (sl_nil (nx_to fun a ha => ⟨⟨false, ha.weaken (cn rfl (cn rfl (cn rfl (cn rfl (cn rfl (cn rfl zz)))))), H⟩, rfl⟩)))))))))
      ·refine cw_join_still (fun a => ∃ b6, Ok 104 [(1, (.slice A2 n2 c2)), (2, (.slice A3 n3 c3)), (3, (.bool b1)), (9, (.pointer q2)), (11, (.int .i64 x3)), (12, (.bool b3)), (59, (.bool b6))] a ∧ vc_arbiterlaw13_told_J2 x3 n2 A2 w5 q2 (vc_arbiterlaw13_told_J4 b3 x3 n2 A2 q2 (vc_arbiterlaw13_told_J5 k1 I1 x3)) b6) ?_ ?_
       ·rintro a ⟨b6, ha, H⟩; unfold vc_arbiterlaw13_told_J2 at H; refine (?_ : CW _ _ _ 104 [(1, (.slice A2 n2 c2)), (2, (.slice A3 n3 c3)), (3, (.bool b1)), (9, (.pointer q2)), (11, (.int .i64 x3)), (12, (.bool b3)), (59, (.bool b6))] _) a ha; refine cw_cond rfl (fun hb => ?_) (fun hb => ?_)
        ·replace H := H.1 hb; refine cw_any_drawn follows [0, 1, 2, 3, 4, 5, 6, 7, 8, 9, 10, 11, 12, 13, 14, 15] [5, 10, 15] 17 rfl rfl (by kernel_rfl) (fun _ _ d _ _ h => by cases d <;> exact h) (fun cm W D => ?_); refine pmv 0 cm rfl rfl D W fun _ D W => (pmv 1 cm rfl rfl D W fun _ D W => (pmv 2 cm rfl rfl D W fun _ D W => ?_)); obtain ⟨h10, h11, a4, e4, H⟩ := H; refine pix 3 cm rfl rfl rfl (i_index TF.elem_sl_arbiterlaw13_Said TF.size_arbiterlaw13_Said e4 h10 h11) D W fun _ D W => (pfa 4 cm rfl rfl (TF.fld_arbiterlaw13_Said_1 _ _) D W fun _ D W => ?_); obtain ⟨x7, h12, H⟩ := H; refine vl 5 cm rfl rfl (fun hw => (i_load1 TF.agg_int ((hw.cell _).trans h12))) D W fun _ D W => (pmv 6 cm rfl rfl D W fun _ D W => (pmv 7 cm rfl rfl D W fun _ D W => ?_)); obtain ⟨h13, h14, a5, e5, H⟩ := H; refine pix 8 cm rfl rfl rfl (i_index TF.elem_sl_arbiterlaw13_Said TF.size_arbiterlaw13_Said e5 h13 h14) D W fun _ D W => (pfa 9 cm rfl rfl (TF.fld_arbiterlaw13_Said_2 _ _) D W fun _ D W => ?_); obtain ⟨x8, h15, H⟩ := H; refine vl 10 cm rfl rfl (fun hw => (i_load1 TF.agg_int ((hw.cell _).trans h15))) D W fun _ D W => (pmv 11 cm rfl rfl D W fun _ D W => (pmv 12 cm rfl rfl D W fun _ D W => ?_)); obtain ⟨h16, h17, a6, e6, H⟩ := H; refine pix 13 cm rfl rfl rfl (i_index TF.elem_sl_arbiterlaw13_Said TF.size_arbiterlaw13_Said e6 h16 h17) D W fun _ D W => (pfa 14 cm rfl rfl (TF.fld_arbiterlaw13_Said_3 _ _) D W fun _ D W => ?_); obtain ⟨x9, h18, H⟩ := H; refine vl 15 cm rfl rfl (fun hw => (i_load1 TF.agg_int ((hw.cell _).trans h18))) D W fun _ D W => (ar 16 ?_); replace H := H _ D; refine aw_c rfl rfl rfl (wanted_none rfl) (fun a ha => x_call0 (ha.ev rfl) (ha.evs rfl) FF.callable_euf_Graph_Differ) rfl false (by kernel_rfl) H ?_; rintro _ w9 ⟨x10, rfl, H⟩ _ D; refine ⟨fun h => (by cases h), ?_⟩; refine an_end (by kernel_rfl) D ?_; intro w12 D; replace H := H _ D; clear D cm; exact nx_to fun a ha => ⟨ha.weaken (cn rfl (cn rfl (cn rfl (cn rfl (cn rfl (cn rfl zz)))))), H⟩
        ·replace H := H.2 hb; exact cw_skip (nx_to fun a ha => ⟨ha.weaken (cn rfl (cn rfl (cn rfl (cn rfl (cn rfl (cn rfl zz)))))), H⟩)
       ·refine cw_region (mv rfl ?_); rcases tf b3 with hb | hb
        ·replace H := H.1 hb; refine sv rfl rfl (fun a ha => o_bt (x_move (ha.ev rfl)) hb) (mvg rfl rfl rfl (mvg rfl rfl rfl ?_)); obtain ⟨h7, h8, a3, e3, H⟩ := H; refine ixg rfl rfl rfl rfl (i_index TF.elem_sl_arbiterlaw13_Said TF.size_arbiterlaw13_Said e3 h7 h8) (fag rfl rfl rfl (TF.fld_arbiterlaw13_Said_0 _ _) ?_); obtain ⟨b5, h9, H⟩ := H; exact ldg rfl rfl rfl (i_load1 TF.agg_bool h9) (pt rfl rfl (sl_nil (nx_to fun a ha => ⟨⟨b5, ha.weaken (cn rfl (cn rfl (cn rfl (cn rfl (cn rfl (cn rfl (cn rfl zz))))))), H⟩, rfl⟩)))
        ·replace H := H.2 hb; exact sv rfl rfl (fun a ha => o_bf (x_move (ha.ev rfl)) hb) (sk rfl rfl rfl rfl (sk rfl rfl rfl rfl (sk rfl rfl rfl rfl (sk rfl rfl rfl rfl (sk rfl rfl rfl rfl (pf rfl rfl (sl_nil (nx_to fun a ha => ⟨⟨false, ha.weaken (cn rfl (cn rfl (cn rfl (cn rfl (cn rfl (cn rfl (cn rfl zz))))))), H⟩, rfl⟩))))))))
   ·replace H := H.2 hb; exact cw_exit (nx_exit_then (nx_exit_then (nx_exit_hit (nc (kp 9 rfl zz) (cw_seq (cw_region (mv rfl (ag rfl (sl_nil (nc (kp 8 rfl zz) (cw_ret (nx_body_ret (res1 rfl rfl) ⟨_, rfl, _, rfl, H⟩))))))))))))
 ·refine cw_region (mv rfl (sl_call rfl rfl (wanted_none rfl) (fun a ha => x_call0 (ha.ev rfl) (ha.evs rfl) FF.callable_arbiterlaw13_no) H ?_)); rintro _ w2 ⟨x2, rfl, H⟩; refine bo rfl rfl o_neq ?_; rcases Classical.em (x2 ≠ 0) with hb | hb
  ·replace H := H.1 hb; exact sv rfl rfl (fun a ha => o_t (x_move (ha.ev rfl)) hb) (sk rfl rfl rfl rfl (sk rfl rfl rfl rfl (pt rfl rfl (sl_nil (nx_to fun a ha => ⟨true, ha.weaken (cn rfl (cn rfl (cn rfl (cn rfl (cn rfl zz))))), H⟩)))))
  ·replace H := H.2 hb; exact sv rfl rfl (fun a ha => o_f (x_move (ha.ev rfl)) hb) (mvg rfl rfl rfl (bog rfl rfl rfl rfl (o_eql_nil TF.ptr_p_euf_Graph) (pf rfl rfl (sl_nil (nx_to fun a ha => ⟨(decide (q2 = none)), ha.weaken (cn rfl (cn rfl (cn rfl (cn rfl (cn rfl zz))))), H⟩)))))
def vc_arbiterlaw13_alike_J1 (K : Bool → World → Prop) (k2 : Nat) (I2 : Nat → Int → World → Prop) (x2 : Int) (b8 : Bool) (w12 : World) : Prop :=
 (b8 = true → (K false w12)) ∧ (b8 = false → (∃ k3, k3 < k2 ∧ I2 k3 (IntKind.wrap .i64 (x2 + 1)) w12))
def vc_arbiterlaw13_alike_J2 (K : Bool → World → Prop) (n1 : Nat) (q1 : Option Addr) (q2 : Option Addr) (b3 : Bool) (w4 : World) : Prop :=
 (b3 = true → (K false w4)) ∧ (b3 = false → (∃ I1 : Nat → Int → World → Prop, (∃ k1, I1 k1 0 w4) ∧ ∀ k1 (x1 : Int) (w8 : World), I1 k1 x1 w8 → ((x1 < (n1 : Int) → (∃ I2 : Nat → Int → World → Prop, (∃ k2, I2 k2 0 w8) ∧ ∀ k2 (x2 : Int) (w9 : World), I2 k2 x2 w9 → ((x2 < (n1 : Int) → (Calls P F.euf_Graph_Apart #[(.pointer q1), (.int .i64 x1), (.int .i64 x2)] w9 (Ret fun v7 w10 => ∃ b6, ∃ x3, v7 = (.tuple #[(.bool b6), (.int .i64 x3)]) ∧ Calls P F.euf_Graph_Apart #[(.pointer q2), (.int .i64 x1), (.int .i64 x2)] w10 (Ret fun v8 w11 => ∃ b7, ∃ x4, v8 = (.tuple #[(.bool b7), (.int .i64 x4)]) ∧ (b6 ≠ b7 → ((vc_arbiterlaw13_alike_J1 K k2 I2 x2) true w11)) ∧ (¬ (b6 ≠ b7) → (Calls P F.arbiterlaw13_no #[(.int .i64 x3)] w11 (Ret fun v9 w13 => ∃ x5, v9 = (.int .i64 x5) ∧ (x5 ≠ 0 → ((vc_arbiterlaw13_alike_J1 K k2 I2 x2) true w13)) ∧ (¬ (x5 ≠ 0) → (Calls P F.arbiterlaw13_no #[(.int .i64 x4)] w13 (Ret fun v10 w14 => ∃ x6, v10 = (.int .i64 x6) ∧ (vc_arbiterlaw13_alike_J1 K k2 I2 x2) (decide (x6 ≠ 0)) w14)))))))))) ∧ (¬ (x2 < (n1 : Int)) → (∃ k4, k4 < k1 ∧ I1 k4 (IntKind.wrap .i64 (x1 + 1)) w9))))) ∧ (¬ (x1 < (n1 : Int)) → (K true w8)))))
def vc_arbiterlaw13_alike (A1 : Option Addr) (n1 c1 : Nat) (q1 : Option Addr) (q2 : Option Addr) (K : Bool → World → Prop) (w : World) : Prop :=
 Calls P F.euf_Graph_Roots #[(.pointer q1)] w (Ret fun v1 w1 => ∃ A2 n2 c2, v1 = (.slice A2 n2 c2) ∧ Calls P F.euf_Graph_Roots #[(.pointer q2)] w1 (Ret fun v2 w2 => ∃ A3 n3 c3, v2 = (.slice A3 n3 c3) ∧ Calls P F.arbiterlaw13_sameInts #[(.slice A2 n2 c2), (.slice A3 n3 c3)] w2 (Ret fun v3 w3 => ∃ b2, v3 = (.bool b2) ∧ ((!b2) = true → ((vc_arbiterlaw13_alike_J2 K n1 q1 q2) true w3)) ∧ ((!b2) = false → (Calls P F.euf_Graph_Clash #[(.pointer q1)] w3 (Ret fun v4 w5 => ∃ b4, v4 = (.bool b4) ∧ Calls P F.euf_Graph_Clash #[(.pointer q2)] w5 (Ret fun v5 w6 => ∃ b5, v5 = (.bool b5) ∧ (b4 ≠ b5 → ((vc_arbiterlaw13_alike_J2 K n1 q1 q2) true w6)) ∧ (¬ (b4 ≠ b5) → (Calls P F.euf_Graph_Roots #[(.pointer q1)] w6 (Ret fun v6 w7 => ∃ A4 n4 c4, v6 = (.slice A4 n4 c4) ∧ (vc_arbiterlaw13_alike_J2 K n1 q1 q2) (decide ((n4 : Int) ≠ (n1 : Int))) w7))))))))))
theorem ok_arbiterlaw13_alike (A1 : Option Addr) (n1 c1 : Nat) (q1 : Option Addr) (q2 : Option Addr) (K : Bool → World → Prop) (w : World) (H : vc_arbiterlaw13_alike A1 n1 c1 q1 q2 K w) : Calls P F.arbiterlaw13_alike #[(.slice A1 n1 c1), (.pointer q1), (.pointer q2)] w (Ret fun v w' => ∃ b1, v = (.bool b1) ∧ K b1 w') := by
 unfold vc_arbiterlaw13_alike at H; refine calls_of (P := P) Tryd.func16 rfl [(0, (.slice A1 n1 c1)), (1, (.pointer q1)), (2, (.pointer q2))] 73 rfl rfl (aa rfl (aa rfl (aa rfl az))) (cw_seq (cw_region (ag rfl (sl_nil (nc (kp 0 rfl (kp 1 rfl (kp 2 rfl zz))) (cw_seq ?_)))))); refine cw_join (fun a w => ∃ b3, Ok 73 [(0, (.slice A1 n1 c1)), (1, (.pointer q1)), (2, (.pointer q2)), (33, (.bool b3))] a ∧ vc_arbiterlaw13_alike_J2 K n1 q1 q2 b3 w) ?_ ?_
 ·rintro a w4 ⟨b3, ha, H⟩; unfold vc_arbiterlaw13_alike_J2 at H; refine (?_ : CW _ _ _ 73 [(0, (.slice A1 n1 c1)), (1, (.pointer q1)), (2, (.pointer q2)), (33, (.bool b3))] _) a ha; refine cw_cond rfl (fun hb => ?_) (fun hb => ?_)
  ·replace H := H.1 hb; exact cw_seq (cw_region (ag rfl (sl_nil (nc (kp 6 rfl zz) (cw_ret (nx_ret_then (nx_body_ret (res1 rfl rfl) ⟨_, rfl, _, rfl, H⟩)))))))
  ·replace H := H.2 hb; refine cw_skip (nc (kp 0 rfl (kp 1 rfl (kp 2 rfl zz))) (cw_seq (cw_seq (cw_region (ag rfl (sl_nil (nc (kp 0 rfl (kp 1 rfl (kp 2 rfl (kp 7 rfl zz)))) (cw_block ?_)))))))); obtain ⟨I1, ⟨k1, hi⟩, H⟩ := H; refine cw_loop (fun k1 a w' => ∃ x1, Ok 73 [(0, (.slice A1 n1 c1)), (1, (.pointer q1)), (2, (.pointer q2)), (7, (.int .i64 x1))] a ∧ I1 k1 x1 w') (fun a ha => ⟨k1, 0, ha.weaken (sub.cons rfl (sub.cons rfl (sub.cons rfl (sub.cons rfl (sub.nil))))), hi⟩) ?_; rintro k1 a w8 ⟨x1, ha, hI⟩; replace H := H k1 x1 w8 hI; refine (?_ : CW _ _ _ 73 [(0, (.slice A1 n1 c1)), (1, (.pointer q1)), (2, (.pointer q2)), (7, (.int .i64 x1))] _) a ha; refine cw_seq (cw_seq (cw_region (mv rfl (mv rfl (sv rfl rfl (fun a ha => x_builtin (ha.evs rfl) (fun _ => l_slice TF.isslice_sl_api_Flat)) (bo rfl rfl o_lss (sl_nil (nc (kp 0 rfl (kp 1 rfl (kp 2 rfl (kp 7 rfl (kp 37 rfl zz))))) ?_)))))))); refine cw_cond_p rfl (fun hb => ?_) (fun hb => ?_)
   ·replace H := H.1 hb; refine cw_skip (nc (kp 0 rfl (kp 1 rfl (kp 2 rfl (kp 7 rfl zz)))) (cw_seq (cw_block (cw_seq (cw_region (ag rfl (sl_nil (nc (kp 0 rfl (kp 1 rfl (kp 2 rfl (kp 7 rfl (kp 8 rfl zz))))) (cw_block ?_))))))))); obtain ⟨I2, ⟨k2, hi⟩, H⟩ := H; refine cw_loop (fun k2 a w' => ∃ x2, Ok 73 [(0, (.slice A1 n1 c1)), (1, (.pointer q1)), (2, (.pointer q2)), (7, (.int .i64 x1)), (8, (.int .i64 x2))] a ∧ I2 k2 x2 w') (fun a ha => ⟨k2, 0, ha.weaken (sub.cons rfl (sub.cons rfl (sub.cons rfl (sub.cons rfl (sub.cons rfl (sub.nil)))))), hi⟩) ?_; rintro k2 a w9 ⟨x2, ha, hI⟩; replace H := H k2 x2 w9 hI; refine (?_ : CW _ _ _ 73 [(0, (.slice A1 n1 c1)), (1, (.pointer q1)), (2, (.pointer q2)), (7, (.int .i64 x1)), (8, (.int .i64 x2))] _) a ha; refine cw_seq (cw_seq (cw_region (mv rfl (mv rfl (sv rfl rfl (fun a ha => x_builtin (ha.evs rfl) (fun _ => l_slice TF.isslice_sl_api_Flat)) (bo rfl rfl o_lss (sl_nil (nc (kp 0 rfl (kp 1 rfl (kp 2 rfl (kp 7 rfl (kp 8 rfl (kp 43 rfl zz)))))) ?_)))))))); refine cw_cond_p rfl (fun hb => ?_) (fun hb => ?_)
    ·replace H := H.1 hb; refine cw_skip (nc (kp 0 rfl (kp 1 rfl (kp 2 rfl (kp 7 rfl (kp 8 rfl zz))))) (cw_seq (cw_block (cw_seq (cw_region (mv rfl (mv rfl (mv rfl (sl_call rfl rfl (wanted_none rfl) (fun a ha => x_call0 (ha.ev rfl) (ha.evs rfl) FF.callable_euf_Graph_Apart) H ?_))))))))); rintro _ w10 ⟨b6, x3, rfl, H⟩; refine mv rfl (sv rfl rfl (fun a ha => x_extract (ha.ev rfl) rfl) (sv rfl rfl (fun a ha => x_extract (ha.ev rfl) rfl) (ag rfl (ag rfl (sl_nil (nc (kp 0 rfl (kp 1 rfl (kp 2 rfl (kp 7 rfl (kp 8 rfl (kp 9 rfl (kp 10 rfl zz))))))) (cw_seq (cw_region (mv rfl (mv rfl (mv rfl (sl_call rfl rfl (wanted_none rfl) (fun a ha => x_call0 (ha.ev rfl) (ha.evs rfl) FF.callable_euf_Graph_Apart) H ?_)))))))))))); rintro _ w11 ⟨b7, x4, rfl, H⟩; refine mv rfl (sv rfl rfl (fun a ha => x_extract (ha.ev rfl) rfl) (sv rfl rfl (fun a ha => x_extract (ha.ev rfl) rfl) (ag rfl (ag rfl (sl_nil (nc (kp 0 rfl (kp 1 rfl (kp 2 rfl (kp 7 rfl (kp 8 rfl (kp 9 rfl (kp 10 rfl (kp 11 rfl (kp 12 rfl zz))))))))) ?_)))))); refine cw_join (fun a w => ∃ b8, Ok 73 [(0, (.slice A1 n1 c1)), (1, (.pointer q1)), (2, (.pointer q2)), (7, (.int .i64 x1)), (8, (.int .i64 x2)), (72, (.bool b8))] a ∧ vc_arbiterlaw13_alike_J1 K k2 I2 x2 b8 w) ?_ ?_
     ·rintro a w12 ⟨b8, ha, H⟩; unfold vc_arbiterlaw13_alike_J1 at H; refine (?_ : CW _ _ _ 73 [(0, (.slice A1 n1 c1)), (1, (.pointer q1)), (2, (.pointer q2)), (7, (.int .i64 x1)), (8, (.int .i64 x2)), (72, (.bool b8))] _) a ha; refine cw_cond rfl (fun hb => ?_) (fun hb => ?_)
      ·replace H := H.1 hb; exact cw_seq (cw_region (ag rfl (sl_nil (nc (kp 6 rfl zz) (cw_ret (nx_ret_block (nx_ret_then (nx_ret_then (nx_ret_block (nx_ret_block (nx_ret_then (nx_ret_then (nx_ret_block (nx_ret_then (nx_body_ret (res1 rfl rfl) ⟨_, rfl, _, rfl, H⟩)))))))))))))))
      ·replace H := H.2 hb; refine cw_skip (nx_block (nc (kp 0 rfl (kp 1 rfl (kp 2 rfl (kp 7 rfl (kp 8 rfl zz))))) (cw_region (mv rfl (bo rfl rfl o_add (ag rfl (sl_nil ?_))))))); obtain ⟨k3, hk, H⟩ := H; exact nx_to fun a ha => ⟨k3, hk, IntKind.wrap .i64 (x2 + 1), ha.weaken (cn rfl (cn rfl (cn rfl (cn rfl (cn rfl zz))))), H⟩
     ·refine cw_region (mv rfl (mv rfl (bo rfl rfl (o_neq_bool TF.bool_bool) ?_))); rcases Classical.em (b6 ≠ b7) with hb | hb
      ·replace H := H.1 hb; exact sv rfl rfl (fun a ha => o_t (x_move (ha.ev rfl)) hb) (sk rfl rfl rfl rfl (sk rfl rfl rfl rfl (sk rfl rfl rfl rfl (pt rfl rfl (mv rfl (sk rfl rfl rfl rfl (sk rfl rfl rfl rfl (sk rfl rfl rfl rfl (pt rfl rfl (sl_nil (nx_to fun a ha => ⟨true, ha.weaken (cn rfl (cn rfl (cn rfl (cn rfl (cn rfl (cn rfl zz)))))), H⟩)))))))))))
      ·replace H := H.2 hb; refine sv rfl rfl (fun a ha => o_f (x_move (ha.ev rfl)) hb) (mvg rfl rfl rfl (sl_call rfl rfl (wanted_some rfl rfl rfl) (fun a ha => x_call0 (ha.ev rfl) (ha.evs rfl) FF.callable_arbiterlaw13_no) H ?_)); rintro _ w13 ⟨x5, rfl, H⟩; refine bog rfl rfl rfl rfl o_neq (pf rfl rfl ?_); rcases Classical.em (x5 ≠ 0) with hb | hb
       ·replace H := H.1 hb; exact sv rfl rfl (fun a ha => o_t (x_move (ha.ev rfl)) hb) (sk rfl rfl rfl rfl (sk rfl rfl rfl rfl (sk rfl rfl rfl rfl (pt rfl rfl (sl_nil (nx_to fun a ha => ⟨true, ha.weaken (cn rfl (cn rfl (cn rfl (cn rfl (cn rfl (cn rfl zz)))))), H⟩))))))
       ·replace H := H.2 hb; refine sv rfl rfl (fun a ha => o_f (x_move (ha.ev rfl)) hb) (mvg rfl rfl rfl (sl_call rfl rfl (wanted_some rfl rfl rfl) (fun a ha => x_call0 (ha.ev rfl) (ha.evs rfl) FF.callable_arbiterlaw13_no) H ?_)); rintro _ w14 ⟨x6, rfl, H⟩; exact bog rfl rfl rfl rfl o_neq (pf rfl rfl (sl_nil (nx_to fun a ha => ⟨(decide (x6 ≠ 0)), ha.weaken (cn rfl (cn rfl (cn rfl (cn rfl (cn rfl (cn rfl zz)))))), H⟩)))
    ·replace H := H.2 hb; refine cw_exit (nx_exit_then (nx_exit_then (nx_exit_hit (nx_block (nc (kp 0 rfl (kp 1 rfl (kp 2 rfl (kp 7 rfl zz)))) (cw_region (mv rfl (bo rfl rfl o_add (ag rfl (sl_nil ?_)))))))))); obtain ⟨k4, hk, H⟩ := H; exact nx_to fun a ha => ⟨k4, hk, IntKind.wrap .i64 (x1 + 1), ha.weaken (cn rfl (cn rfl (cn rfl (cn rfl zz)))), H⟩
   ·replace H := H.2 hb; exact cw_exit (nx_exit_then (nx_exit_then (nx_exit_hit (nc zz (cw_seq (cw_region (ag rfl (sl_nil (nc (kp 6 rfl zz) (cw_ret (nx_body_ret (res1 rfl rfl) ⟨_, rfl, _, rfl, H⟩)))))))))))
 ·refine cw_region (mv rfl (sl_call rfl rfl (wanted_none rfl) (fun a ha => x_call0 (ha.ev rfl) (ha.evs rfl) FF.callable_euf_Graph_Roots) H ?_)); rintro _ w1 ⟨A2, n2, c2, rfl, H⟩; refine mv rfl (sl_call rfl rfl (wanted_none rfl) (fun a ha => x_call0 (ha.ev rfl) (ha.evs rfl) FF.callable_euf_Graph_Roots) H ?_); rintro _ w2 ⟨A3, n3, c3, rfl, H⟩; refine sl_call rfl rfl (wanted_none rfl) (fun a ha => x_call0 (ha.ev rfl) (ha.evs rfl) FF.callable_arbiterlaw13_sameInts) H ?_; rintro _ w3 ⟨b2, rfl, H⟩; refine sv rfl rfl (fun a ha => x_unOp (ha.ev rfl) u_not) ?_; rcases tf (!b2) with hb | hb
  ·replace H := H.1 hb; exact sv rfl rfl (fun a ha => o_bt (x_move (ha.ev rfl)) hb) (sk rfl rfl rfl rfl (sk rfl rfl rfl rfl (sk rfl rfl rfl rfl (sk rfl rfl rfl rfl (sk rfl rfl rfl rfl (pt rfl rfl (mv rfl (sk rfl rfl rfl rfl (sk rfl rfl rfl rfl (sk rfl rfl rfl rfl (sk rfl rfl rfl rfl (sk rfl rfl rfl rfl (sk rfl rfl rfl rfl (pt rfl rfl (sl_nil (nx_to fun a ha => ⟨true, ha.weaken (cn rfl (cn rfl (cn rfl (cn rfl zz)))), H⟩))))))))))))))))
  ·replace H := H.2 hb; refine sv rfl rfl (fun a ha => o_bf (x_move (ha.ev rfl)) hb) (mvg rfl rfl rfl (sl_call rfl rfl (wanted_some rfl rfl rfl) (fun a ha => x_call0 (ha.ev rfl) (ha.evs rfl) FF.callable_euf_Graph_Clash) H ?_)); rintro _ w5 ⟨b4, rfl, H⟩; refine mvg rfl rfl rfl (sl_call rfl rfl (wanted_some rfl rfl rfl) (fun a ha => x_call0 (ha.ev rfl) (ha.evs rfl) FF.callable_euf_Graph_Clash) H ?_); rintro _ w6 ⟨b5, rfl, H⟩; refine bog rfl rfl rfl rfl (o_neq_bool TF.bool_bool) (pf rfl rfl ?_); rcases Classical.em (b4 ≠ b5) with hb | hb
   ·replace H := H.1 hb; exact sv rfl rfl (fun a ha => o_t (x_move (ha.ev rfl)) hb) (sk rfl rfl rfl rfl (sk rfl rfl rfl rfl (sk rfl rfl rfl rfl (sk rfl rfl rfl rfl (sk rfl rfl rfl rfl (sk rfl rfl rfl rfl (pt rfl rfl (sl_nil (nx_to fun a ha => ⟨true, ha.weaken (cn rfl (cn rfl (cn rfl (cn rfl zz)))), H⟩)))))))))
   ·replace H := H.2 hb; refine sv rfl rfl (fun a ha => o_f (x_move (ha.ev rfl)) hb) (mvg rfl rfl rfl (sl_call rfl rfl (wanted_some rfl rfl rfl) (fun a ha => x_call0 (ha.ev rfl) (ha.evs rfl) FF.callable_euf_Graph_Roots) H ?_)); rintro _ w7 ⟨A4, n4, c4, rfl, H⟩; exact svg rfl rfl rfl rfl (fun a ha => x_builtin (ha.evs rfl) (fun _ => l_slice TF.isslice_sl_int)) (mvg rfl rfl rfl (svg rfl rfl rfl rfl (fun a ha => x_builtin (ha.evs rfl) (fun _ => l_slice TF.isslice_sl_api_Flat)) (bog rfl rfl rfl rfl o_neq (pf rfl rfl (sl_nil (nx_to fun a ha => ⟨(decide ((n4 : Int) ≠ (n1 : Int))), ha.weaken (cn rfl (cn rfl (cn rfl (cn rfl zz)))), H⟩))))))
def vc_arbiterlaw13_copied (A1 : Option Addr) (n1 c1 : Nat) (K : Option Addr → Nat → Nat → World → Prop) (w : World) : Prop :=
 ∀ (p1 : Addr) (w1 : World), New w (.cells #[] T.arbiterlaw13_Op) p1 w1 → (∃ I1 : Nat → Option Addr → Nat → Nat → Int → World → Prop, (∃ k1, I1 k1 (some p1) 0 0 0 w1) ∧ ∀ k1 (A3 : Option Addr) (n3 c3 : Nat) (x1 : Int) (w2 : World), I1 k1 A3 n3 c3 x1 w2 → ((x1 < (n1 : Int) → (0 ≤ x1 ∧ x1 < (n1 : Int) ∧ ∃ a1, A1 = some a1 ∧ ∃ x2, ∃ b1, ∃ x3, ∃ x4, ∃ x5, CellsAt w2 (a1.add (x1.toNat * 5)) [(.int .i64 x2), (.bool b1), (.int .i64 x3), (.int .i64 x4), (.int .i64 x5)] ∧ ∀ (p2 : Addr) (w3 : World), New w2 (.cells #[(.int .i64 x2), (.bool b1), (.int .i64 x3), (.int .i64 x4), (.int .i64 x5)] T.arbiterlaw13_Op) p2 w3 → (∃ (A4 : Option Addr) (n4 c4 : Nat) (w4 : World), (Builtin.append_ #[T.sl_arbiterlaw13_Op, T.sl_arbiterlaw13_Op] T.sl_arbiterlaw13_Op #[(.slice A3 n3 c3), (.slice (some p2) 1 1)]).run P w3 = .ok (.slice A4 n4 c4) w4 ∧ (∃ k2, k2 < k1 ∧ I1 k2 A4 n4 c4 (IntKind.wrap .i64 (x1 + 1)) w4)))) ∧ (¬ (x1 < (n1 : Int)) → (K A3 n3 c3 w2))))
theorem ok_arbiterlaw13_copied (A1 : Option Addr) (n1 c1 : Nat) (K : Option Addr → Nat → Nat → World → Prop) (w : World) (H : vc_arbiterlaw13_copied A1 n1 c1 K w) : Calls P F.arbiterlaw13_copied #[(.slice A1 n1 c1)] w (Ret fun v w' => ∃ A2 n2 c2, v = (.slice A2 n2 c2) ∧ K A2 n2 c2 w') := by
 unfold vc_arbiterlaw13_copied at H; refine calls_of (P := P) Tryd.func18 rfl [(0, (.slice A1 n1 c1))] 20 rfl rfl (fun p hp => by rcases List.mem_singleton.1 hp with rfl; rfl) (cw_seq (cw_region (ag rfl (sl_nil (nc (kp 0 rfl zz) (cw_seq (cw_region (sl_new (f := (fun p => .slice (some p) 0 0)) rfl rfl (wanted_none rfl) (fun a ha => x_buildSlice (u := .slice (some ⟨_, 0, none⟩) 0 0) (w' := World.alloc _ (.cells #[] T.arbiterlaw13_Op)) (qs := []) (by simp only [List.map_cons, List.map_nil]) (by kernel_rfl)) ?_)))))))); intro p1 w1 hN; replace H := H _ _ hN; refine ag rfl (sl_nil (nc (kp 0 rfl (kp 3 rfl zz)) (cw_seq (cw_seq (cw_region (ag rfl (sl_nil (nc (kp 0 rfl (kp 3 rfl (kp 4 rfl zz))) (cw_block ?_))))))))); obtain ⟨I1, ⟨k1, hi⟩, H⟩ := H; refine cw_loop (fun k1 a w' => ∃ A3 n3 c3, ∃ x1, Ok 20 [(0, (.slice A1 n1 c1)), (3, (.slice A3 n3 c3)), (4, (.int .i64 x1))] a ∧ I1 k1 A3 n3 c3 x1 w') (fun a ha => ⟨k1, some p1, 0, 0, 0, ha.weaken (sub.cons rfl (sub.cons rfl (sub.cons rfl (sub.nil)))), hi⟩) ?_; rintro k1 a w2 ⟨A3, n3, c3, x1, ha, hI⟩; replace H := H k1 A3 n3 c3 x1 w2 hI; refine (?_ : CW _ _ _ 20 [(0, (.slice A1 n1 c1)), (3, (.slice A3 n3 c3)), (4, (.int .i64 x1))] _) a ha; refine cw_seq (cw_seq (cw_region (mv rfl (mv rfl (sv rfl rfl (fun a ha => x_builtin (ha.evs rfl) (fun _ => l_slice TF.isslice_sl_arbiterlaw13_Op)) (bo rfl rfl o_lss (sl_nil (nc (kp 0 rfl (kp 3 rfl (kp 4 rfl (kp 9 rfl zz)))) ?_)))))))); refine cw_cond_p rfl (fun hb => ?_) (fun hb => ?_)
 ·replace H := H.1 hb; refine cw_skip (nc (kp 0 rfl (kp 3 rfl (kp 4 rfl zz))) (cw_seq (cw_block (cw_region (mv rfl (mv rfl (mv rfl ?_))))))); obtain ⟨h1, h2, a1, e1, H⟩ := H; refine ix rfl rfl (i_index TF.elem_sl_arbiterlaw13_Op TF.size_arbiterlaw13_Op e1 h1 h2) ?_; obtain ⟨x2, b1, x3, x4, x5, h3, H⟩ := H; refine ld rfl (i_loadN (vs := [(.int .i64 x2), (.bool b1), (.int .i64 x3), (.int .i64 x4), (.int .i64 x5)]) TF.agg_arbiterlaw13_Op TF.size_arbiterlaw13_Op h3) (sl_new (f := (fun p => .slice (some p) 1 1)) rfl rfl (wanted_none rfl) (fun a ha => x_buildSlice (u := .slice (some ⟨_, 0, none⟩) 1 1) (w' := World.alloc _ (.cells #[(.int .i64 x2), (.bool b1), (.int .i64 x3), (.int .i64 x4), (.int .i64 x5)] T.arbiterlaw13_Op)) (qs := [(0, (.agg #[(.int .i64 x2), (.bool b1), (.int .i64 x3), (.int .i64 x4), (.int .i64 x5)]))]) (by simp only [List.map_cons, List.map_nil, ha.ev (x := (.tmp 16)) rfl]) (by kernel_rfl)) ?_); intro p2 w3 hN; replace H := H _ _ hN; obtain ⟨A4, n4, c4, w4, h4, H⟩ := H; refine sv rfl rfl (fun a ha => x_builtin (ha.evs rfl) (fun _ => bi_append h4)) (ag rfl (sl_nil (nx_block (nc (kp 0 rfl (kp 3 rfl (kp 4 rfl zz))) (cw_region (mv rfl (bo rfl rfl o_add (ag rfl (sl_nil ?_))))))))); obtain ⟨k2, hk, H⟩ := H; exact nx_to fun a ha => ⟨k2, hk, A4, n4, c4, IntKind.wrap .i64 (x1 + 1), ha.weaken (cn rfl (cn rfl (cn rfl zz))), H⟩
 ·replace H := H.2 hb; exact cw_exit (nx_exit_then (nx_exit_then (nx_exit_hit (nc (kp 3 rfl zz) (cw_seq (cw_region (mv rfl (ag rfl (sl_nil (nc (kp 2 rfl zz) (cw_ret (nx_body_ret (res1 rfl rfl) ⟨_, rfl, _, _, _, rfl, H⟩))))))))))))
def vc_arbiterlaw13_EufBack_J1 (K : Bool → World → Prop) (b9 : Bool) (w20 : World) : Prop :=
 K b9 w20
def vc_arbiterlaw13_EufBack_J2 (K : Bool → World → Prop) (q1 : Option Addr) (x1 : Int) (A2 : Option Addr) (n2 c2 : Nat) (A1 : Option Addr) (n1 c1 : Nat) (b6 : Bool) (w10 : World) : Prop :=
 (b6 = true → (K false w10)) ∧ (b6 = false → (Calls P F.euf_Graph_Pop #[(.pointer q1), (.int .i64 x1)] w10 (Ret fun v10 w12 => ∃ x4, v10 = (.int .i64 x4) ∧ Calls P F.arbiterlaw13_copied #[(.slice A2 n2 c2)] w12 (Ret fun v11 w13 => ∃ A4 n4 c4, v11 = (.slice A4 n4 c4) ∧ ∀ (p1 : Addr) (w14 : World), New w13 (.cells #[(.int .i64 4), (.bool false), (.int .i64 x1), (.int .i64 0), (.int .i64 0)] T.arbiterlaw13_Op) p1 w14 → (∃ (A5 : Option Addr) (n5 c5 : Nat) (w15 : World), (Builtin.append_ #[T.sl_arbiterlaw13_Op, T.sl_arbiterlaw13_Op] T.sl_arbiterlaw13_Op #[(.slice A4 n4 c4), (.slice (some p1) 1 1)]).run P w14 = .ok (.slice A5 n5 c5) w15 ∧ (Calls P F.arbiterlaw13_stands #[(.slice A1 n1 c1), (.slice A5 n5 c5)] w15 (Ret fun v12 w16 => ∃ A6 n6 c6, ∃ x5, v12 = (.tuple #[(.slice A6 n6 c6), (.int .i64 x5)]) ∧ Calls P F.arbiterlaw13_told #[(.slice A1 n1 c1), (.slice A6 n6 c6), (.slice none 0 0), (.bool true)] w16 (Ret fun v13 w17 => ∃ q3, v13 = (.pointer q3) ∧ Calls P F.arbiterlaw13_no #[(.int .i64 x4)] w17 (Ret fun v14 w18 => ∃ x6, v14 = (.int .i64 x6) ∧ (x6 = 0 → ((q3 ≠ none → (Calls P F.arbiterlaw13_alike #[(.slice A1 n1 c1), (.pointer q1), (.pointer q3)] w18 (Ret fun v15 w19 => ∃ b8, v15 = (.bool b8) ∧ (vc_arbiterlaw13_EufBack_J1 K) b8 w19))) ∧ (¬ (q3 ≠ none) → ((vc_arbiterlaw13_EufBack_J1 K) false w18)))) ∧ (¬ (x6 = 0) → ((vc_arbiterlaw13_EufBack_J1 K) false w18)))))))))))
def vc_arbiterlaw13_EufBack_J3 (K : Bool → World → Prop) (q1 : Option Addr) (x1 : Int) (A2 : Option Addr) (n2 c2 : Nat) (A1 : Option Addr) (n1 c1 : Nat) (q2 : Option Addr) (b4 : Bool) (w6 : World) : Prop :=
 (b4 = true → (K false w6)) ∧ (b4 = false → (Calls P F.euf_Graph_Pop #[(.pointer q1), (.int .i64 (IntKind.wrap .i64 (x1 + 1)))] w6 (Ret fun v7 w8 => ∃ x2, v7 = (.int .i64 x2) ∧ Calls P F.arbiterlaw13_no #[(.int .i64 x2)] w8 (Ret fun v8 w9 => ∃ x3, v8 = (.int .i64 x3) ∧ (x3 ≠ 81 → ((vc_arbiterlaw13_EufBack_J2 K q1 x1 A2 n2 c2 A1 n1 c1) true w9)) ∧ (¬ (x3 ≠ 81) → (Calls P F.arbiterlaw13_alike #[(.slice A1 n1 c1), (.pointer q1), (.pointer q2)] w9 (Ret fun v9 w11 => ∃ b7, v9 = (.bool b7) ∧ (vc_arbiterlaw13_EufBack_J2 K q1 x1 A2 n2 c2 A1 n1 c1) (!b7) w11)))))))
def vc_arbiterlaw13_EufBack (A1 : Option Addr) (n1 c1 : Nat) (A2 : Option Addr) (n2 c2 : Nat) (K : Bool → World → Prop) (w : World) : Prop :=
 Calls P F.arbiterlaw13_heads #[] w (Ret fun v1 w1 => ∃ b2, v1 = (.bool b2) ∧ ((!b2) = true → (K false w1)) ∧ ((!b2) = false → (Calls P F.arbiterlaw13_played #[(.slice A1 n1 c1), (.slice A2 n2 c2)] w1 (Ret fun v2 w2 => ∃ q1, v2 = (.pointer q1) ∧ Calls P F.arbiterlaw13_sound #[(.slice A1 n1 c1)] w2 (Ret fun v3 w3 => ∃ b3, v3 = (.bool b3) ∧ ((!b3) = true → (K (decide (q1 = none)) w3)) ∧ ((!b3) = false → (Calls P F.arbiterlaw13_stands #[(.slice A1 n1 c1), (.slice A2 n2 c2)] w3 (Ret fun v4 w4 => ∃ A3 n3 c3, ∃ x1, v4 = (.tuple #[(.slice A3 n3 c3), (.int .i64 x1)]) ∧ Calls P F.arbiterlaw13_told #[(.slice A1 n1 c1), (.slice A3 n3 c3), (.slice none 0 0), (.bool true)] w4 (Ret fun v5 w5 => ∃ q2, v5 = (.pointer q2) ∧ (q1 = none → ((vc_arbiterlaw13_EufBack_J3 K q1 x1 A2 n2 c2 A1 n1 c1 q2) true w5)) ∧ (¬ (q1 = none) → ((q2 = none → ((vc_arbiterlaw13_EufBack_J3 K q1 x1 A2 n2 c2 A1 n1 c1 q2) true w5)) ∧ (¬ (q2 = none) → (Calls P F.arbiterlaw13_alike #[(.slice A1 n1 c1), (.pointer q1), (.pointer q2)] w5 (Ret fun v6 w7 => ∃ b5, v6 = (.bool b5) ∧ (vc_arbiterlaw13_EufBack_J3 K q1 x1 A2 n2 c2 A1 n1 c1 q2) (!b5) w7))))))))))))))
theorem ok_arbiterlaw13_EufBack (A1 : Option Addr) (n1 c1 : Nat) (A2 : Option Addr) (n2 c2 : Nat) (K : Bool → World → Prop) (w : World) (H : vc_arbiterlaw13_EufBack A1 n1 c1 A2 n2 c2 K w) : Calls P F.arbiterlaw13_EufBack #[(.slice A1 n1 c1), (.slice A2 n2 c2)] w (Ret fun v w' => ∃ b1, v = (.bool b1) ∧ K b1 w') := by
 unfold vc_arbiterlaw13_EufBack at H; refine calls_of (P := P) Tryd.func4 rfl [(0, (.slice A1 n1 c1)), (1, (.slice A2 n2 c2))] 89 rfl rfl (aa rfl (aa rfl az)) (cw_seq (cw_region (ag rfl (sl_nil (nc (kp 0 rfl (kp 1 rfl zz)) (cw_seq (cw_seq (cw_region (sl_call rfl rfl (wanted_none rfl) (fun a ha => x_call0 (ha.ev rfl) (ha.evs rfl) FF.callable_arbiterlaw13_heads) H ?_))))))))); rintro _ w1 ⟨b2, rfl, H⟩; refine sv rfl rfl (fun a ha => x_unOp (ha.ev rfl) u_not) (sl_nil (nc (kp 0 rfl (kp 1 rfl (kp 14 rfl zz))) ?_)); refine cw_cond rfl (fun hb => ?_) (fun hb => ?_)
 ·replace H := H.1 hb; exact cw_seq (cw_region (ag rfl (sl_nil (nc (kp 4 rfl zz) (cw_ret (nx_ret_then (nx_body_ret (res1 rfl rfl) ⟨_, rfl, _, rfl, H⟩)))))))
 ·replace H := H.2 hb; refine cw_skip (nc (kp 0 rfl (kp 1 rfl zz)) (cw_seq (cw_region (mv rfl (mv rfl (sl_call rfl rfl (wanted_none rfl) (fun a ha => x_call0 (ha.ev rfl) (ha.evs rfl) FF.callable_arbiterlaw13_played) H ?_)))))); rintro _ w2 ⟨q1, rfl, H⟩; refine ag rfl (sl_nil (nc (kp 0 rfl (kp 1 rfl (kp 5 rfl zz))) (cw_seq (cw_seq (cw_region (mv rfl (sl_call rfl rfl (wanted_none rfl) (fun a ha => x_call0 (ha.ev rfl) (ha.evs rfl) FF.callable_arbiterlaw13_sound) H ?_))))))); rintro _ w3 ⟨b3, rfl, H⟩; refine sv rfl rfl (fun a ha => x_unOp (ha.ev rfl) u_not) (sl_nil (nc (kp 0 rfl (kp 1 rfl (kp 5 rfl (kp 20 rfl zz)))) ?_)); refine cw_cond rfl (fun hb => ?_) (fun hb => ?_)
  ·replace H := H.1 hb; exact cw_seq (cw_region (mv rfl (bo rfl rfl (o_eql_nil TF.ptr_p_euf_Graph) (ag rfl (sl_nil (nc (kp 4 rfl zz) (cw_ret (nx_ret_then (nx_body_ret (res1 rfl rfl) ⟨_, rfl, _, rfl, H⟩)))))))))
  ·replace H := H.2 hb; refine cw_skip (nc (kp 0 rfl (kp 1 rfl (kp 5 rfl zz))) (cw_seq (cw_region (mv rfl (mv rfl (sl_call rfl rfl (wanted_none rfl) (fun a ha => x_call0 (ha.ev rfl) (ha.evs rfl) FF.callable_arbiterlaw13_stands) H ?_)))))); rintro _ w4 ⟨A3, n3, c3, x1, rfl, H⟩; refine mv rfl (sv rfl rfl (fun a ha => x_extract (ha.ev rfl) rfl) (sv rfl rfl (fun a ha => x_extract (ha.ev rfl) rfl) (ag rfl (ag rfl (sl_nil (nc (kp 0 rfl (kp 1 rfl (kp 5 rfl (kp 6 rfl (kp 7 rfl zz))))) (cw_seq (cw_region (mv rfl (mv rfl (sl_call rfl rfl (wanted_none rfl) (fun a ha => x_call0 (ha.ev rfl) (ha.evs rfl) FF.callable_arbiterlaw13_told) H ?_))))))))))); rintro _ w5 ⟨q2, rfl, H⟩; refine ag rfl (sl_nil (nc (kp 0 rfl (kp 1 rfl (kp 5 rfl (kp 7 rfl (kp 8 rfl zz))))) (cw_seq ?_))); refine cw_join (fun a w => ∃ b4, Ok 89 [(0, (.slice A1 n1 c1)), (1, (.slice A2 n2 c2)), (5, (.pointer q1)), (7, (.int .i64 x1)), (8, (.pointer q2)), (44, (.bool b4))] a ∧ vc_arbiterlaw13_EufBack_J3 K q1 x1 A2 n2 c2 A1 n1 c1 q2 b4 w) ?_ ?_
   ·rintro a w6 ⟨b4, ha, H⟩; unfold vc_arbiterlaw13_EufBack_J3 at H; refine (?_ : CW _ _ _ 89 [(0, (.slice A1 n1 c1)), (1, (.slice A2 n2 c2)), (5, (.pointer q1)), (7, (.int .i64 x1)), (8, (.pointer q2)), (44, (.bool b4))] _) a ha; refine cw_cond rfl (fun hb => ?_) (fun hb => ?_)
    ·replace H := H.1 hb; exact cw_seq (cw_region (ag rfl (sl_nil (nc (kp 4 rfl zz) (cw_ret (nx_ret_then (nx_body_ret (res1 rfl rfl) ⟨_, rfl, _, rfl, H⟩)))))))
    ·replace H := H.2 hb; refine cw_skip (nc (kp 0 rfl (kp 1 rfl (kp 5 rfl (kp 7 rfl (kp 8 rfl zz))))) (cw_seq (cw_region (mv rfl (mv rfl (bo rfl rfl o_add (sl_call rfl rfl (wanted_none rfl) (fun a ha => x_call0 (ha.ev rfl) (ha.evs rfl) FF.callable_euf_Graph_Pop) H ?_))))))); rintro _ w8 ⟨x2, rfl, H⟩; refine ag rfl (sl_nil (nc (kp 0 rfl (kp 1 rfl (kp 5 rfl (kp 7 rfl (kp 8 rfl (kp 9 rfl zz)))))) (cw_seq ?_))); refine cw_join (fun a w => ∃ b6, Ok 89 [(0, (.slice A1 n1 c1)), (1, (.slice A2 n2 c2)), (5, (.pointer q1)), (7, (.int .i64 x1)), (58, (.bool b6))] a ∧ vc_arbiterlaw13_EufBack_J2 K q1 x1 A2 n2 c2 A1 n1 c1 b6 w) ?_ ?_
     ·rintro a w10 ⟨b6, ha, H⟩; unfold vc_arbiterlaw13_EufBack_J2 at H; refine (?_ : CW _ _ _ 89 [(0, (.slice A1 n1 c1)), (1, (.slice A2 n2 c2)), (5, (.pointer q1)), (7, (.int .i64 x1)), (58, (.bool b6))] _) a ha; refine cw_cond rfl (fun hb => ?_) (fun hb => ?_)
      ·replace H := H.1 hb; exact cw_seq (cw_region (ag rfl (sl_nil (nc (kp 4 rfl zz) (cw_ret (nx_ret_then (nx_body_ret (res1 rfl rfl) ⟨_, rfl, _, rfl, H⟩)))))))
      ·replace H := H.2 hb; refine cw_skip (nc (kp 0 rfl (kp 1 rfl (kp 5 rfl (kp 7 rfl zz)))) (cw_seq (cw_region (mv rfl (mv rfl (sl_call rfl rfl (wanted_none rfl) (fun a ha => x_call0 (ha.ev rfl) (ha.evs rfl) FF.callable_euf_Graph_Pop) H ?_)))))); rintro _ w12 ⟨x4, rfl, H⟩; refine ag rfl (sl_nil (nc (kp 0 rfl (kp 1 rfl (kp 5 rfl (kp 7 rfl (kp 9 rfl zz))))) (cw_seq (cw_region (mv rfl (mv rfl (sl_call rfl rfl (wanted_none rfl) (fun a ha => x_call0 (ha.ev rfl) (ha.evs rfl) FF.callable_arbiterlaw13_copied) H ?_))))))); rintro _ w13 ⟨A4, n4, c4, rfl, H⟩; refine mv rfl (sv rfl rfl (fun a ha => x_buildP (u := (.agg #[(.int .i64 4), (.bool false), (.int .i64 x1), (.int .i64 0), (.int .i64 0)])) (qs := [(0, (.int .i64 4)), (2, (.int .i64 x1))]) (by simp only [List.map_cons, List.map_nil, ha.ev (x := (.const (.int .i64 4))) rfl, ha.ev (x := (.tmp 66)) rfl]) (by kernel_rfl)) (sl_new (f := (fun p => .slice (some p) 1 1)) rfl rfl (wanted_none rfl) (fun a ha => x_buildSlice (u := .slice (some ⟨_, 0, none⟩) 1 1) (w' := World.alloc _ (.cells #[(.int .i64 4), (.bool false), (.int .i64 x1), (.int .i64 0), (.int .i64 0)] T.arbiterlaw13_Op)) (qs := [(0, (.agg #[(.int .i64 4), (.bool false), (.int .i64 x1), (.int .i64 0), (.int .i64 0)]))]) (by simp only [List.map_cons, List.map_nil, ha.ev (x := (.tmp 67)) rfl]) (by kernel_rfl)) ?_)); intro p1 w14 hN; replace H := H _ _ hN; obtain ⟨A5, n5, c5, w15, h1, H⟩ := H; refine sv rfl rfl (fun a ha => x_builtin (ha.evs rfl) (fun _ => bi_append h1)) (sl_call rfl rfl (wanted_none rfl) (fun a ha => x_call0 (ha.ev rfl) (ha.evs rfl) FF.callable_arbiterlaw13_stands) H ?_); rintro _ w16 ⟨A6, n6, c6, x5, rfl, H⟩; refine mv rfl (sv rfl rfl (fun a ha => x_extract (ha.ev rfl) rfl) (sv rfl rfl (fun a ha => x_extract (ha.ev rfl) rfl) (ag rfl (ag rfl (sl_nil (nc (kp 0 rfl (kp 5 rfl (kp 9 rfl (kp 10 rfl zz)))) (cw_seq (cw_region (mv rfl (mv rfl (sl_call rfl rfl (wanted_none rfl) (fun a ha => x_call0 (ha.ev rfl) (ha.evs rfl) FF.callable_arbiterlaw13_told) H ?_))))))))))); rintro _ w17 ⟨q3, rfl, H⟩; refine ag rfl (sl_nil (nc (kp 0 rfl (kp 5 rfl (kp 9 rfl (kp 12 rfl zz)))) ?_)); refine cw_join (fun a w => ∃ b9, Ok 89 [(4, (.bool b9))] a ∧ vc_arbiterlaw13_EufBack_J1 K b9 w) ?_ ?_
       ·rintro a w20 ⟨b9, ha, H⟩; unfold vc_arbiterlaw13_EufBack_J1 at H; refine (?_ : CW _ _ _ 89 [(4, (.bool b9))] _) a ha; exact cw_ret (nx_body_ret (res1 rfl rfl) ⟨_, rfl, _, rfl, H⟩)
       ·refine cw_region (mv rfl (sl_call rfl rfl (wanted_none rfl) (fun a ha => x_call0 (ha.ev rfl) (ha.evs rfl) FF.callable_arbiterlaw13_no) H ?_)); rintro _ w18 ⟨x6, rfl, H⟩; refine bo rfl rfl o_eql ?_; rcases Classical.em (x6 = 0) with hb | hb
        ·replace H := H.1 hb; refine sv rfl rfl (fun a ha => o_t (x_move (ha.ev rfl)) hb) (mvg rfl rfl rfl (bog rfl rfl rfl rfl (o_neq_nil TF.ptr_p_euf_Graph) (pt rfl rfl ?_))); rcases Classical.em (q3 ≠ none) with hb | hb
         ·replace H := H.1 hb; refine sv rfl rfl (fun a ha => o_t (x_move (ha.ev rfl)) hb) (mvg rfl rfl rfl (mvg rfl rfl rfl (mvg rfl rfl rfl (sl_call rfl rfl (wanted_some rfl rfl rfl) (fun a ha => x_call0 (ha.ev rfl) (ha.evs rfl) FF.callable_arbiterlaw13_alike) H ?_)))); rintro _ w19 ⟨b8, rfl, H⟩; exact pt rfl rfl (ag rfl (sl_nil (nx_to fun a ha => ⟨b8, ha.weaken (cn rfl zz), H⟩)))
         ·replace H := H.2 hb; exact sv rfl rfl (fun a ha => o_f (x_move (ha.ev rfl)) hb) (sk rfl rfl rfl rfl (sk rfl rfl rfl rfl (sk rfl rfl rfl rfl (sk rfl rfl rfl rfl (pf rfl rfl (ag rfl (sl_nil (nx_to fun a ha => ⟨false, ha.weaken (cn rfl zz), H⟩))))))))
        ·replace H := H.2 hb; exact sv rfl rfl (fun a ha => o_f (x_move (ha.ev rfl)) hb) (sk rfl rfl rfl rfl (sk rfl rfl rfl rfl (pf rfl rfl (mv rfl (sk rfl rfl rfl rfl (sk rfl rfl rfl rfl (sk rfl rfl rfl rfl (sk rfl rfl rfl rfl (pf rfl rfl (ag rfl (sl_nil (nx_to fun a ha => ⟨false, ha.weaken (cn rfl zz), H⟩))))))))))))
     ·refine cw_region (mv rfl (sl_call rfl rfl (wanted_none rfl) (fun a ha => x_call0 (ha.ev rfl) (ha.evs rfl) FF.callable_arbiterlaw13_no) H ?_)); rintro _ w9 ⟨x3, rfl, H⟩; refine bo rfl rfl o_neq ?_; rcases Classical.em (x3 ≠ 81) with hb | hb
      ·replace H := H.1 hb; exact sv rfl rfl (fun a ha => o_t (x_move (ha.ev rfl)) hb) (sk rfl rfl rfl rfl (sk rfl rfl rfl rfl (sk rfl rfl rfl rfl (sk rfl rfl rfl rfl (sk rfl rfl rfl rfl (pt rfl rfl (sl_nil (nx_to fun a ha => ⟨true, ha.weaken (cn rfl (cn rfl (cn rfl (cn rfl (cn rfl zz))))), H⟩))))))))
      ·replace H := H.2 hb; refine sv rfl rfl (fun a ha => o_f (x_move (ha.ev rfl)) hb) (mvg rfl rfl rfl (mvg rfl rfl rfl (mvg rfl rfl rfl (sl_call rfl rfl (wanted_some rfl rfl rfl) (fun a ha => x_call0 (ha.ev rfl) (ha.evs rfl) FF.callable_arbiterlaw13_alike) H ?_)))); rintro _ w11 ⟨b7, rfl, H⟩; exact svg rfl rfl rfl rfl (fun a ha => x_unOp (ha.ev rfl) u_not) (pf rfl rfl (sl_nil (nx_to fun a ha => ⟨(!b7), ha.weaken (cn rfl (cn rfl (cn rfl (cn rfl (cn rfl zz))))), H⟩)))
   ·refine cw_region (mv rfl (bo rfl rfl (o_eql_nil TF.ptr_p_euf_Graph) ?_)); rcases Classical.em (q1 = none) with hb | hb
    ·replace H := H.1 hb; exact sv rfl rfl (fun a ha => o_t (x_move (ha.ev rfl)) hb) (sk rfl rfl rfl rfl (sk rfl rfl rfl rfl (pt rfl rfl (mv rfl (sk rfl rfl rfl rfl (sk rfl rfl rfl rfl (sk rfl rfl rfl rfl (sk rfl rfl rfl rfl (sk rfl rfl rfl rfl (pt rfl rfl (sl_nil (nx_to fun a ha => ⟨true, ha.weaken (cn rfl (cn rfl (cn rfl (cn rfl (cn rfl (cn rfl zz)))))), H⟩))))))))))))
    ·replace H := H.2 hb; refine sv rfl rfl (fun a ha => o_f (x_move (ha.ev rfl)) hb) (mvg rfl rfl rfl (bog rfl rfl rfl rfl (o_eql_nil TF.ptr_p_euf_Graph) (pf rfl rfl ?_))); rcases Classical.em (q2 = none) with hb | hb
     ·replace H := H.1 hb; exact sv rfl rfl (fun a ha => o_t (x_move (ha.ev rfl)) hb) (sk rfl rfl rfl rfl (sk rfl rfl rfl rfl (sk rfl rfl rfl rfl (sk rfl rfl rfl rfl (sk rfl rfl rfl rfl (pt rfl rfl (sl_nil (nx_to fun a ha => ⟨true, ha.weaken (cn rfl (cn rfl (cn rfl (cn rfl (cn rfl (cn rfl zz)))))), H⟩))))))))
     ·replace H := H.2 hb; refine sv rfl rfl (fun a ha => o_f (x_move (ha.ev rfl)) hb) (mvg rfl rfl rfl (mvg rfl rfl rfl (mvg rfl rfl rfl (sl_call rfl rfl (wanted_some rfl rfl rfl) (fun a ha => x_call0 (ha.ev rfl) (ha.evs rfl) FF.callable_arbiterlaw13_alike) H ?_)))); rintro _ w7 ⟨b5, rfl, H⟩; exact svg rfl rfl rfl rfl (fun a ha => x_unOp (ha.ev rfl) u_not) (pf rfl rfl (sl_nil (nx_to fun a ha => ⟨(!b5), ha.weaken (cn rfl (cn rfl (cn rfl (cn rfl (cn rfl (cn rfl zz)))))), H⟩)))
end Go.Proofs.YtnbakpoahcndpaaDoor
namespace Go.Proofs.YtnbakpoahcndpaaDoor
set_option linter.unusedVariables false
set_option linter.unusedSimpArgs false
open Wk
section
variable {w : World}
theorem sameInts_is {B C : Option Addr} {k m : Nat} (d e : Nat) {xs ys : List Int} (h : Ints w B k xs) (h2 : Ints w C m ys) (hk : Sm k) :
  Calls P F.arbiterlaw13_sameInts #[.slice B k d, .slice C m e] w (Ret fun v w' => ∃ b, v = .bool b ∧ (b = true ↔ xs = ys) ∧ Ext w w') := by
 refine ok_arbiterlaw13_sameInts B k d C m e (fun b w' => (b = true ↔ xs = ys) ∧ Ext w w') w ?_
 unfold vc_arbiterlaw13_sameInts
 have e1 := h.1
 have e2 := h2.1
 refine ⟨fun hne => ⟨⟨fun q => (by cases q), fun q => absurd (congrArg List.length q) (by omega)⟩, Ext.refl w⟩, fun hne => ?_⟩
 refine ⟨fun q i w' => q = k - i.toNat ∧ 0 ≤ i ∧ i ≤ k ∧ (∀ j : Nat, (j : Int) < i → xs[j]? = ys[j]?) ∧ Ext w w', ⟨k, by omega, by omega, by omega, fun j hj => by omega, Ext.refl w⟩, ?_⟩
 rintro q i w1 ⟨rfl, i0, i1, hall, E1⟩
 refine ⟨fun hlt => ?_, fun hge => ⟨⟨fun _ => ?_, fun _ => rfl⟩, E1⟩⟩
 ·obtain ⟨x, a, hx, hA, hc⟩ := (h.ext E1).int i0 hlt
  obtain ⟨y, a', hy, hA', hc'⟩ := (h2.ext E1).int i0 (by omega)
  refine ⟨i0, hlt, a, hA, x, hc, i0, by omega, a', hA', y, hc', fun w2 hw2 => ⟨fun hxy => ⟨⟨fun q => (by cases q), fun q => ?_⟩, E1.drawn hw2⟩, fun hxy => ?_⟩⟩
  ·subst q
   rw [hx] at hy
   cases hy
   exact absurd rfl hxy
  ·rw [step_le i0 hlt hk]
   refine ⟨k - (i + 1).toNat, by omega, rfl, by omega, by omega, fun j hj => ?_, E1.drawn hw2⟩
   rcases Int.lt_or_eq_of_le (show (j : Int) ≤ i by omega) with hj | hj
   ·exact hall j hj
   ·rw [show j = i.toNat by omega, hx, hy, Decidable.not_not.1 hxy]
 ·apply List.ext_getElem?
  intro j
  rcases Nat.lt_or_ge j k with hj | hj
  ·exact hall j (by omega)
  ·rw [List.getElem?_eq_none_iff.2 (by omega), List.getElem?_eq_none_iff.2 (by omega)]
end
def toldS (l : List SaidR) (tags : List Int) (every : Bool) : List SaidR := l.filter fun s => every || decide (s.tag ∈ tags)
theorem toldS_all (l : List SaidR) (tags : List Int) : toldS l tags true = l := by
 unfold toldS
 exact List.filter_eq_self.2 fun s _ => rfl
theorem toldS_len (l : List SaidR) (tags : List Int) (every : Bool) : (toldS l tags every).length ≤ l.length := List.length_filter_le _ _
theorem toldS_snoc {l : List SaidR} {tags : List Int} {every : Bool} {i : Nat} {s : SaidR} (h : l[i]? = some s) : toldS (l.take (i + 1)) tags every = toldS (l.take i) tags every ++ (if every || decide (s.tag ∈ tags) then [s] else []) := by
 unfold toldS
 rw [take_succ_of h, List.filter_append]
 congr 1
 cases h' : (every || decide (s.tag ∈ tags)) <;> simp [List.filter, h']
section
variable {W0 B0 : Nat} {w : World} {fs : List Flat} {l : List SaidR} {tags : List Int} {n2 n3 : Nat} {A1 A2 A3 : Option Addr}
theorem told_is {c1 c2 c3 : Nat} {b1 : Bool} (hx : ∀ w', Ext w w' → Sl cFlat w' A1 fs.length fs) (hL : Sl cSaid w A2 n2 l) (hT : Ints w A3 n3 tags) (hB : B0 ≤ w.heap.size) (tab : Tab10 B0 w) (ok : NodesOk W0 fs) (val : ∀ s ∈ l, In2 fs s.a s.b) (s2 : n2 ≤ 1048575) (s3 : n3 ≤ 1099511627776) :
  Calls P F.arbiterlaw13_told #[.slice A1 fs.length c1, .slice A2 n2 c2, .slice A3 n3 c3, .bool b1] w (Ret fun v w' => (¬ Sound fs ∧ v = .pointer none ∧ Ext w w') ∨ (Sound fs ∧ ∃ p H, v = .pointer (some p) ∧ Live W0 B0 w' p fs H (toldS l tags b1) [] ∧ Adv (fun _ => False) w H w')) := by
 refine Ret.mono (ok_arbiterlaw13_told A1 fs.length c1 A2 n2 c2 A3 n3 c3 b1 (fun q w' => (¬ Sound fs ∧ q = none ∧ Ext w w') ∨ (Sound fs ∧ ∃ p H, q = some p ∧ Live W0 B0 w' p fs H (toldS l tags b1) [] ∧ Adv (fun _ => False) w H w')) w ?_) (by
  rintro _ w' ⟨q, rfl, ⟨h1, rfl, h2⟩ | ⟨h1, p, H, rfl, h2⟩⟩
  ·exact .inl ⟨h1, rfl, h2⟩
  ·exact .inr ⟨h1, p, H, rfl, h2⟩)
 generalize hKd : (fun (q : Option Addr) w' => (¬ Sound fs ∧ q = none ∧ Ext w w') ∨ (Sound fs ∧ ∃ p H, q = some p ∧ Live W0 B0 w' p fs H (toldS l tags b1) [] ∧ Adv (fun _ => False) w H w')) = K
 have sm2 : Sm n2 := by unfold Sm; omega
 have hn := hL.1
 have ht := hT.1
 unfold vc_arbiterlaw13_told
 refine (live_new hx hB tab ok).mono ?_
 rintro _ w1 ⟨v, rfl, ⟨h1, rfl, h3⟩ | ⟨hs, p, H, rfl, hL0, hA⟩⟩
 ·refine ⟨_, rfl, _, _, rfl, (law_no_is 80).mono ?_⟩
  rintro _ w2 ⟨_, rfl, rfl, rfl⟩
  refine ⟨_, rfl, _, rfl, fun _ => ⟨fun _ => ?_, fun q => (by cases q)⟩, fun q => absurd (show (80 : Int) ≠ 0 by decide) q⟩
  rw [← hKd]
  exact .inl ⟨h1, rfl, h3⟩
 refine ⟨_, rfl, _, _, rfl, (law_no_is 0).mono ?_⟩
 rintro _ w2 ⟨_, rfl, rfl, rfl⟩
 refine ⟨_, rfl, _, rfl, fun q => absurd rfl q, fun _ => ⟨fun q => absurd (of_decide_eq_true q) (by simp), fun _ => ?_⟩⟩
 generalize hI : (fun (k : Nat) (i : Int) (w' : World) => k = n2 - i.toNat ∧ 0 ≤ i ∧ i ≤ n2 ∧ ∃ H', Live W0 B0 w' p fs H' (toldS (l.take i.toNat) tags b1) [] ∧ Adv (fun _ => False) w H' w') = I
 refine ⟨I, ⟨n2, by rw [← hI]; exact ⟨rfl, by omega, by omega, H, hL0, hA⟩⟩, ?_⟩
 intro k i w4 hi
 rw [← hI] at hi
 obtain ⟨rfl, i0, i1, H4, L4, A4⟩ := hi
 refine ⟨fun hlt => ?b, fun hge => ?a⟩
 case a =>
  have hi : i.toNat = l.length := by omega
  rw [hi, List.take_length] at L4
  rw [← hKd]
  exact .inr ⟨hs, p, H4, rfl, L4, A4⟩
 obtain ⟨s, ad0, hsi, _, _⟩ := hL.said i0 hlt
 have hin := val s (List.mem_of_getElem? hsi)
 have rd : ∀ w', Ext w w' → ∃ ad, A2 = some ad ∧ w'.cell? ((ad.add (i.toNat * 4)).add 0) = some (.bool s.not) ∧ w'.cell? ((ad.add (i.toNat * 4)).add 1) = some (.int .i64 s.a) ∧ w'.cell? ((ad.add (i.toNat * 4)).add 2) = some (.int .i64 s.b) ∧ w'.cell? ((ad.add (i.toNat * 4)).add 3) = some (.int .i64 s.tag) := by
  intro w' E
  obtain ⟨s', ad, hsi', hA, hc⟩ := (hL.ext E).said i0 hlt
  rw [hsi] at hsi'
  cases hsi'
  exact ⟨ad, hA, hc 0 _ rfl, hc 1 _ rfl, hc 2 _ rfl, hc 3 _ rfl⟩
 have hlen : (toldS (l.take i.toNat) tags b1).length ≤ i.toNat := Nat.le_trans (toldS_len _ _ _) (by rw [List.length_take]; omega)
 have fin : ∀ w' H', Live W0 B0 w' p fs H' (toldS (l.take i.toNat) tags b1 ++ (if b1 || decide (s.tag ∈ tags) then [s] else [])) [] → Adv (fun _ => False) w H' w' → vc_arbiterlaw13_told_J5 (n2 - i.toNat) I i w' := by
  intro w' H' L' adv'
  refine ⟨n2 - (i + 1).toNat, by omega, ?_⟩
  rw [step_le i0 hlt sm2, ← hI]
  refine ⟨rfl, by omega, by omega, H', ?_, adv'⟩
  rw [show (i + 1).toNat = i.toNat + 1 by omega, toldS_snoc hsi]
  exact L'
 refine ⟨fun k b t w' => k = n3 - t.toNat ∧ 0 ≤ t ∧ t ≤ n3 ∧ Ext w4 w' ∧ (b = true ↔ (b1 = true ∨ ∃ q : Nat, (q : Int) < t ∧ tags[q]? = some s.tag)), ⟨n3, by simp, by omega, by omega, Ext.refl w4, ⟨fun q => .inl q, fun q => q.elim id fun ⟨q, h, _⟩ => by omega⟩⟩, ?_⟩
 rintro k b t w5 ⟨rfl, t0, t1, E5, hb⟩
 have E5' := A4.keep.trans E5
 have A5 : Adv (fun _ => False) w H4 w5 := A4.trans (Adv.of_ext E5)
 have L5 := L4.stay E5
 refine ⟨fun tlt => ?_, fun tge => ?_⟩
 ·obtain ⟨x, a, hxt, hA3, hc⟩ := (hT.ext E5').int t0 tlt
  obtain ⟨ad, hA2, _, _, _, k3⟩ := rd w5 E5'
  have go : ∀ (b' : Bool) w', Drawn w5 w' → (b' = true ↔ (b = true ∨ x = s.tag)) → vc_arbiterlaw13_told_J1 (n3 - t.toNat) (fun k b t w' => k = n3 - t.toNat ∧ 0 ≤ t ∧ t ≤ n3 ∧ Ext w4 w' ∧ (b = true ↔ (b1 = true ∨ ∃ q : Nat, (q : Int) < t ∧ tags[q]? = some s.tag))) t b' w' := by
   intro b' w' hd hb'
   refine ⟨n3 - (t + 1).toNat, by omega, ?_⟩
   rw [step_le t0 tlt (by unfold Sm; omega)]
   refine ⟨rfl, by omega, by omega, E5.drawn hd, hb'.trans ⟨?_, ?_⟩⟩
   ·rintro (h | h)
    ·exact (hb.1 h).imp id fun ⟨q, h1, h2⟩ => ⟨q, by omega, h2⟩
    ·exact .inr ⟨t.toNat, by omega, by rw [hxt, h]⟩
   ·rintro (h | ⟨q, h1, h2⟩)
    ·exact .inl (hb.2 (.inl h))
    ·rcases Int.lt_or_eq_of_le (show (q : Int) ≤ t by omega) with hq | hq
     ·exact .inl (hb.2 (.inr ⟨q, hq, h2⟩))
     ·rw [show q = t.toNat by omega, hxt] at h2
      exact .inr (Option.some.inj h2)
  refine ⟨fun hb3 w6 hw6 => go true w6 hw6 ⟨fun _ => .inl hb3, fun _ => rfl⟩, fun hb3 => ⟨t0, tlt, a, hA3, x, hc, i0, hlt, ad, hA2, _, k3, fun w8 hw8 => go _ w8 hw8 ?_⟩⟩
  rw [decide_eq_true_iff]
  exact ⟨fun q => .inr q, fun q => q.elim (fun q => by rw [hb3] at q; cases q) id⟩
 have hb' : b = (b1 || decide (s.tag ∈ tags)) := by
  have : (b1 || decide (s.tag ∈ tags)) = true ↔ (b1 = true ∨ ∃ q : Nat, (q : Int) < t ∧ tags[q]? = some s.tag) := by
   rw [Bool.or_eq_true, decide_eq_true_iff]
   refine ⟨fun h => h.imp id fun h => ?_, fun h => h.imp id fun ⟨q, _, h⟩ => List.mem_of_getElem? h⟩
   obtain ⟨q, hq⟩ := List.mem_iff_getElem?.1 h
   have := (List.getElem?_eq_some_iff.1 hq).1
   exact ⟨q, by omega, hq⟩
  cases b with
  | true => exact (this.2 (hb.1 rfl)).symm
  | false =>
   cases h : (b1 || decide (s.tag ∈ tags)) with
   | false => rfl
   | true => exact absurd (hb.2 (this.1 h)) (by simp)
 rw [← hb'] at fin
 obtain ⟨ad, hA2, k0, k1, k2, k3⟩ := rd w5 E5'
 have J4 : ∀ w' H', Adv (fun _ => False) w H' w' → (b = true → s.not = false → Live W0 B0 w' p fs H' (toldS (l.take i.toNat) tags b1) []) → (b = true → s.not = true → Live W0 B0 w' p fs H' (toldS (l.take i.toNat) tags b1 ++ [s]) []) → (b = false → Live W0 B0 w' p fs H' (toldS (l.take i.toNat) tags b1) []) → vc_arbiterlaw13_told_J4 b i n2 A2 (some p) (vc_arbiterlaw13_told_J5 (n2 - i.toNat) I i) w' := by
  intro w' H' A' m1 m2 m3
  obtain ⟨ad, hA2, k0, k1, k2, k3⟩ := rd w' A'.keep
  refine ⟨fun hb1 => ⟨i0, hlt, ad, hA2, _, k0, ⟨fun hn => ?_, fun hn => fin w' H' ?_ A'⟩⟩, fun hb1 => ⟨fun q => (by cases q), fun _ => fin w' H' ?_ A'⟩⟩
  ·have hnot : s.not = false := by cases h : s.not <;> rw [h] at hn <;> first | rfl | cases hn
   have L' := m1 hb1 hnot
   refine ⟨i0, hlt, ad, hA2, _, k1, i0, hlt, ad, hA2, _, k2, i0, hlt, ad, hA2, _, k3, fun w15 hw15 => ?_⟩
   refine ((L'.stay (Ext.of_drawn hw15)).equal (a := s.a) (b := s.b) (t := s.tag) (by omega)).mono ?_
   rintro _ w14 ⟨_, rfl, e, rfl, H14, adv14, ⟨h1, _⟩ | ⟨_, _, L14⟩⟩
   ·exact absurd hin h1
   refine ⟨_, rfl, e, rfl, fun w17 hw17 => fin w17 H14 ?_ (((A'.trans (Adv.of_drawn hw15)).trans adv14).trans (Adv.of_drawn hw17))⟩
   rw [if_pos hb1]
   have : (⟨s.a, s.b, s.tag, false⟩ : SaidR) = s := by rw [← hnot]
   rw [← this]
   exact L14.stay (Ext.of_drawn hw17)
  ·have hnot : s.not = true := by cases h : s.not <;> rw [h] at hn <;> first | rfl | cases hn
   rw [if_pos hb1]
   exact m2 hb1 hnot
  ·rw [if_neg (by rw [hb1]; decide), List.append_nil]
   exact m3 hb1
 have quiet : s.not = false ∨ b = false → vc_arbiterlaw13_told_J4 b i n2 A2 (some p) (vc_arbiterlaw13_told_J5 (n2 - i.toNat) I i) w5 := fun hq => J4 w5 H4 A5 (fun _ _ => L5) (fun h1 h2 => hq.elim (fun q => by rw [h2] at q; cases q) (fun q => by rw [h1] at q; cases q)) (fun _ => L5)
 refine ⟨fun hb1 => ⟨i0, hlt, ad, hA2, _, k0, ⟨fun hn => ?_, fun hn => quiet (.inl hn)⟩⟩, fun hb1 => ⟨fun q => (by cases q), fun _ => quiet (.inr hb1)⟩⟩
 refine ⟨i0, hlt, ad, hA2, _, k1, i0, hlt, ad, hA2, _, k2, i0, hlt, ad, hA2, _, k3, fun w10 hw10 => ?_⟩
 refine ((L5.stay (Ext.of_drawn hw10)).differ (a := s.a) (b := s.b) (t := s.tag) (by omega)).mono ?_
 rintro _ w9 ⟨_, rfl, e, rfl, H9, adv9, ⟨h1, _⟩ | ⟨_, _, L9⟩⟩
 ·exact absurd hin h1
 refine ⟨_, rfl, e, rfl, fun w12 hw12 => J4 w12 H9 (((A5.trans (Adv.of_drawn hw10)).trans adv9).trans (Adv.of_drawn hw12)) (fun _ q => by rw [hn] at q; cases q) (fun _ _ => ?_) (fun q => by rw [hb1] at q; cases q)⟩
 have : (⟨s.a, s.b, s.tag, true⟩ : SaidR) = s := by rw [← hn]
 rw [← this]
 exact L9.stay (Ext.of_drawn hw12)
theorem alike_is {B1 : Nat} {c1 : Nat} {p q : Addr} {H H' : Nat → Prop} {st st' : List SaidR} {ms ms' : List Int} (h : Live W0 B0 w p fs H st ms) (k : Live W0 B1 w q fs H' st' ms') (hs : st.length ≤ 1048576) (hs' : st'.length ≤ 1048576)
  (e1 : ∀ x y, SameBy fs st x y ↔ SameBy fs st' x y) (e2 : ∀ x y, ApartBy fs st x y ↔ ApartBy fs st' x y) (e3 : ClashBy fs st ↔ ClashBy fs st') :
  Calls P F.arbiterlaw13_alike #[.slice A1 fs.length c1, .pointer (some p), .pointer (some q)] w (Ret fun v w' => v = .bool true ∧ Ext w w') := by
 refine Ret.mono (ok_arbiterlaw13_alike A1 fs.length c1 (some p) (some q) (fun b w' => b = true ∧ Ext w w') w ?_) (by rintro _ w' ⟨b, rfl, rfl, h⟩; exact ⟨rfl, h⟩)
 have few := h.ok.few
 have sm1 : Sm fs.length := by unfold Sm; omega
 have same : ∀ {a b : Bool} {X Y : Prop}, (a = true ↔ X) → (b = true ↔ Y) → (X ↔ Y) → a = b := fun {a b X Y} h1 h2 h3 => by
  cases a <;> cases b <;> first | rfl | exact absurd (h2.2 (h3.1 (h1.1 rfl))) (by simp) | exact absurd (h1.2 (h3.2 (h2.1 rfl))) (by simp)
 unfold vc_arbiterlaw13_alike
 refine (h.roots hs).mono ?_
 rintro _ w1 ⟨_, rfl, A2, c2, r, rfl, O1, R1, E1⟩
 refine ⟨_, rfl, A2, _, c2, rfl, ((k.stay E1).roots hs').mono ?_⟩
 rintro _ w2 ⟨_, rfl, A3, c3, r', rfl, O2, R2, E2⟩
 have er : r = r' := R1.uniq R2 e1
 subst er
 refine ⟨_, rfl, A3, _, c3, rfl, (sameInts_is c2 c3 ((O1.keep E2 fun _ _ h => h).ints) O2.ints sm1).mono ?_⟩
 rintro _ w3 ⟨_, rfl, b2, rfl, hb2, E3⟩
 have E3' := (E1.trans E2).trans E3
 refine ⟨_, rfl, b2, rfl, fun hn => ?_, fun _ => ?_⟩
 ·rw [hb2.2 rfl] at hn; cases hn
 refine ((h.stay E3').clash hs).mono ?_
 rintro _ w5 ⟨_, rfl, b4, rfl, hb4, E5⟩
 have E5' := E3'.trans E5
 refine ⟨_, rfl, b4, rfl, ((k.stay E5').clash hs').mono ?_⟩
 rintro _ w6 ⟨_, rfl, b5, rfl, hb5, E6⟩
 have E6' := E5'.trans E6
 refine ⟨_, rfl, b5, rfl, fun hn => absurd (same hb4 hb5 e3) hn, fun _ => ?_⟩
 refine ((h.stay E6').roots hs).mono ?_
 rintro _ w7 ⟨_, rfl, A4, c4, r4, rfl, _, _, E7⟩
 have E7' := E6'.trans E7
 refine ⟨_, rfl, A4, _, c4, rfl, ⟨fun q => absurd rfl (of_decide_eq_true q), fun _ => ?_⟩⟩
 refine ⟨fun k i w' => k = fs.length - i.toNat ∧ 0 ≤ i ∧ i ≤ fs.length ∧ Ext w w', ⟨_, rfl, by omega, by omega, E7'⟩, ?_⟩
 rintro m i w8 ⟨rfl, i0, i1, E8⟩
 refine ⟨fun hlt => ?_, fun hge => ⟨rfl, E8⟩⟩
 refine ⟨fun k j w' => k = fs.length - j.toNat ∧ 0 ≤ j ∧ j ≤ fs.length ∧ Ext w w', ⟨_, rfl, by omega, by omega, E8⟩, ?_⟩
 rintro m j w9 ⟨rfl, j0, j1, E9⟩
 refine ⟨fun jlt => ?_, fun jge => ⟨fs.length - (i + 1).toNat, by omega, by
  rw [step_le i0 hlt sm1]
  exact ⟨rfl, by omega, by omega, E9⟩⟩⟩
 have hin : In2 fs i j := ⟨i0, j0, hlt, jlt⟩
 refine ((h.stay E9).apart (a := i) (b := j) hs).mono ?_
 rintro _ w10 ⟨_, rfl, b6, x3, rfl, ⟨h1, _⟩ | ⟨_, rfl, hb6⟩, E10⟩
 ·exact absurd hin h1
 have E10' := E9.trans E10
 refine ⟨_, rfl, b6, _, rfl, ((k.stay E10').apart (a := i) (b := j) hs').mono ?_⟩
 rintro _ w11 ⟨_, rfl, b7, x4, rfl, ⟨h1, _⟩ | ⟨_, rfl, hb7⟩, E11⟩
 ·exact absurd hin h1
 have E11' := E10'.trans E11
 refine ⟨_, rfl, b7, _, rfl, fun hn => absurd (same hb6 hb7 (e2 i j)) hn, fun _ => ?_⟩
 refine (law_no_is 0).mono ?_
 rintro _ w13 ⟨_, rfl, rfl, rfl⟩
 refine ⟨_, rfl, _, rfl, fun q => absurd rfl q, fun _ => ?_⟩
 refine (law_no_is 0).mono ?_
 rintro _ w14 ⟨_, rfl, rfl, rfl⟩
 refine ⟨_, rfl, _, rfl, ⟨fun q => absurd rfl (of_decide_eq_true q), fun _ => ⟨fs.length - (j + 1).toNat, by omega, ?_⟩⟩⟩
 rw [step_le j0 jlt sm1]
 exact ⟨rfl, by omega, by omega, E11'⟩
theorem slv_op (w : World) (xs : List OpR) (h : ∀ o ∈ xs, I64 o.a) : SlV cOp w (xs.flatMap OpR.vals) xs := by
 refine ⟨?_, fun i x hx => ⟨?_, h x (List.mem_of_getElem? hx)⟩⟩
 ·rw [flat_len (s := 5) (fun _ => rfl)]; rfl
 ·exact flat_elem (f := OpR.vals) (s := 5) (fun _ => rfl) xs i x hx
theorem op_one (o : OpR) : ∀ u ∈ o.vals, u.oneCell' = true := by
 intro u hu
 simp [OpR.vals] at hu
 rcases hu with rfl | rfl | rfl | rfl | rfl <;> rfl
theorem copied_is {ops : List OpR} {c2 : Nat} (hO : Sl cOp w A2 n2 ops) (s2 : n2 ≤ 1048575) :
  Calls P F.arbiterlaw13_copied #[.slice A2 n2 c2] w (Ret fun v w' => ∃ A c, v = .slice A n2 c ∧ Row w' w.heap.size T.arbiterlaw13_Op 5 A n2 c (ops.flatMap OpR.vals) ∧ Ext w w') := by
 refine Ret.mono (ok_arbiterlaw13_copied A2 n2 c2 (fun A n c w' => n = n2 ∧ Row w' w.heap.size T.arbiterlaw13_Op 5 A n c (ops.flatMap OpR.vals) ∧ Ext w w') w ?_) (by rintro _ w' ⟨A, n, c, rfl, rfl, h⟩; exact ⟨A, c, rfl, h⟩)
 have sm2 : Sm n2 := by unfold Sm; omega
 have hn := hO.1
 unfold vc_arbiterlaw13_copied
 intro p1 w1 hN1
 refine ⟨fun k A n c i w' => k = n2 - i.toNat ∧ 0 ≤ i ∧ i ≤ n2 ∧ n = i.toNat ∧ Row w' w.heap.size T.arbiterlaw13_Op 5 A n c ((ops.take i.toNat).flatMap OpR.vals) ∧ Ext w w', ⟨n2, by simp, by omega, by omega, rfl, by simpa using (Own.new (s := 5) hN1).row, Ext.of_new hN1⟩, ?_⟩
 rintro k A n c i w2 ⟨rfl, i0, i1, rfl, R, E⟩
 refine ⟨fun hlt => ?_, fun hge => ?_⟩
 ·obtain ⟨o, ad, ho, hA, hc, _⟩ := (hO.ext E).op i0 hlt
  refine ⟨i0, hlt, ad, hA, _, _, _, _, _, hc, fun p2 w3 hN3 => ?_⟩
  have R3 := R.keep (Ext.of_new hN3) fun _ _ h => h
  have E3 := E.new hN3
  obtain ⟨A', c', w4, hr, rr, hK, _⟩ := R3.append (P := P) (m := 1) (c2 := 1) (t := T.sl_arbiterlaw13_Op) (ty := T.sl_arbiterlaw13_Op) (by_ := 40) (by kernel_rfl) (by kernel_rfl) (by decide) (news := o.vals) rfl (hN3.cells rfl) (op_one o) (by omega) (by omega) E3.size
  refine ⟨A', i.toNat + 1, c', w4, hr, n2 - (i + 1).toNat, by omega, ?_⟩
  rw [step_le i0 hlt sm2]
  refine ⟨rfl, by omega, by omega, by omega, ?_, E3.over hK fun b hb hx => by have := (R3.at hx).1; omega⟩
  rw [show (i + 1).toNat = i.toNat + 1 by omega, take_succ_of ho, List.flatMap_append]
  simpa using rr
 ·have hi : i.toNat = ops.length := by omega
  rw [hi, List.take_length] at R
  refine ⟨by omega, ?_, E⟩
  rw [hi]
  exact R
theorem EufBack_is {ops : List OpR} {c1 c2 : Nat} (hN : Sl cFlat w A1 fs.length fs) (hO : Sl cOp w A2 n2 ops) (hB : B0 ≤ w.heap.size) (tab : Tab10 B0 w) (ok : NodesOk W0 fs) (s2 : n2 ≤ 1048574) :
  Calls P F.arbiterlaw13_EufBack #[.slice A1 fs.length c1, .slice A2 n2 c2] w (Ret fun v w' => v = .bool true ∧ Ext w w') := by
 refine Ret.mono (ok_arbiterlaw13_EufBack A1 fs.length c1 A2 n2 c2 (fun b w' => b = true ∧ Ext w w') w ?_) (by rintro _ w' ⟨b, rfl, rfl, h⟩; exact ⟨rfl, h⟩)
 have few := ok.few
 have sm1 : Sm fs.length := by unfold Sm; omega
 unfold vc_arbiterlaw13_EufBack
 refine (heads_is hB tab).mono ?_
 rintro _ w1 ⟨_, rfl, rfl, E1⟩
 refine ⟨_, rfl, true, rfl, fun q => (by cases q), fun _ => ?_⟩
 have tb : ∀ w', Ext w w' → Tab10 B0 w' := fun w' E => tab_keep tab E hB (fun _ _ h => h.elim)
 refine (played_is (c1 := c1) (c2 := c2) (fun w' E' => hN.ext (E1.trans E')) (hO.ext E1) (Nat.le_trans hB E1.size) (tb w1 E1) ok (by omega)).mono ?_
 rintro _ w2 ⟨v2, rfl, ⟨hns, rfl, E2⟩ | ⟨hs, p, H, rfl, L, adv⟩⟩
 ·have E2' := E1.trans E2
  refine ⟨_, rfl, _, rfl, (law_sound_is c1 (hN.ext E2') sm1).mono ?_⟩
  rintro _ w3 ⟨_, rfl, b3, rfl, hb3, rfl⟩
  refine ⟨_, rfl, b3, rfl, fun q => ⟨by simp, E2'⟩, fun q => absurd (hb3.1 (by cases b3 <;> simp at q ⊢)) hns⟩
 have E2' := E1.trans adv.keep
 refine ⟨_, rfl, _, rfl, (law_sound_is c1 (hN.ext E2') sm1).mono ?_⟩
 rintro _ w3 ⟨_, rfl, b3, rfl, hb3, rfl⟩
 refine ⟨_, rfl, b3, rfl, fun q => absurd (hb3.2 hs) (by cases b3 <;> simp at q ⊢), fun _ => ?_⟩
 obtain ⟨mo, ml1, ml2⟩ := standS_ok fs ops ops.length (Nat.le_refl _)
 rw [List.take_length] at mo ml1 ml2
 have hon := hO.1
 have hval := L.val
 have hlo := L.lo
 have hbot : standS fs (ops ++ [⟨4, false, (standS fs ops).2.length, 0, 0⟩]) = popS (standS fs ops).1 (standS fs ops).2 (standS fs ops).2.length := by
  unfold standS
  rw [List.foldl_append]
  simp only [List.foldl_cons, List.foldl_nil]
  generalize List.foldl (stepS fs) ([], []) ops = S
  unfold stepS
  rw [if_neg (fun q => q.1.elim (fun h => by cases h) (fun h => by cases h)), if_neg (fun q => by cases q), if_pos rfl]
 refine (stands_is (fs := fs) (A1 := A1) c1 c2 (hO.ext E2') (by omega)).mono ?_
 rintro _ w4 ⟨_, rfl, A3, n3, c3, rfl, hn3, E4, R4⟩
 have E4' := E2'.trans E4
 have hS4 : Sl cSaid w4 A3 n3 (standS fs ops).1 := row_sl (cd := cSaid) (e := T.arbiterlaw13_Said) R4 (slv_said w4 _) (by decide)
 refine ⟨_, rfl, A3, n3, c3, _, rfl, ?_⟩
 generalize hst : standS fs ops = S at *
 obtain ⟨st, ms⟩ := S
 simp only at *
 refine (told_is (W0 := W0) (B0 := w4.heap.size) (c1 := c1) (c2 := c3) (c3 := 0) (b1 := true) (tags := []) (fun w' E' => hN.ext (E4'.trans E')) hS4 (Sl.nil _ _ none) (Nat.le_refl _) (tab_more (tb w4 E4') (Nat.le_trans hB E4'.size)) ok hval (by omega) (by omega)).mono ?_
 rintro _ w5 ⟨_, rfl, ⟨h1, _⟩ | ⟨_, pf, Hf, rfl, Lf, advf⟩⟩
 ·exact absurd hs h1
 rw [toldS_all] at Lf
 have E5' := E4'.trans advf.keep
 have L5 := (L.stay E4).stay advf.keep
 refine ⟨_, rfl, _, rfl, fun q => (by cases q), fun _ => ⟨fun q => (by cases q), fun _ => ?_⟩⟩
 refine (alike_is (A1 := A1) (c1 := c1) L5 Lf (by omega) (by omega) (fun _ _ => .rfl) (fun _ _ => .rfl) .rfl).mono ?_
 rintro _ w7 ⟨_, rfl, rfl, E7⟩
 have E7' := E5'.trans E7
 refine ⟨_, rfl, true, rfl, fun q => (by cases q), fun _ => ?_⟩
 have ew : IntKind.wrap .i64 ((ms.length : Int) + 1) = ms.length + 1 := wrap_small (by omega) (by omega)
 rw [ew]
 refine ((L5.stay E7).pop (k := (ms.length : Int) + 1) (by omega) (by omega) ⟨by omega, by omega⟩).mono ?_
 rintro _ w8 ⟨_, rfl, e8, rfl, H8, adv8, he8, L8⟩
 have e81 : e8 = 81 := by
  rcases he8 with ⟨_, h⟩ | ⟨h, _⟩
  ·exact h
  ·exact absurd (.inr (by omega)) h
 subst e81
 have ep : popS st ms ((ms.length : Int) + 1) = (st, ms) := by unfold popS; rw [if_neg (by omega)]
 rw [ep] at L8
 replace L8 : Live W0 B0 w8 p fs H8 st ms := L8
 have A7 : Adv (fun _ => False) w1 H w7 := ((adv.trans (Adv.of_ext E4)).trans (Adv.of_ext advf.keep)).trans (Adv.of_ext E7)
 have A8 := A7.trans adv8
 have E8' := E1.trans A8.keep
 have Lf8 := (Lf.stay E7).far adv8.keep (fun b hb hh => Nat.lt_of_lt_of_le (hlo b hh).2 E4.size) (tab_more (tb w8 E8') (Nat.le_trans hB E4'.size))
 refine ⟨_, rfl, _, rfl, (law_no_is 81).mono ?_⟩
 rintro _ w9 ⟨_, rfl, rfl, rfl⟩
 refine ⟨_, rfl, _, rfl, fun q => absurd rfl q, fun _ => ?_⟩
 refine (alike_is (A1 := A1) (c1 := c1) L8 Lf8 (by omega) (by omega) (fun _ _ => .rfl) (fun _ _ => .rfl) .rfl).mono ?_
 rintro _ w11 ⟨_, rfl, rfl, E11⟩
 refine ⟨_, rfl, true, rfl, fun q => (by cases q), fun _ => ?_⟩
 refine ((L8.stay E11).pop (k := (ms.length : Int)) (by omega) (by omega) ⟨by omega, by omega⟩).mono ?_
 rintro _ w12 ⟨_, rfl, e12, rfl, H12, adv12, he12, L12⟩
 have e0 : e12 = 0 := by
  rcases he12 with ⟨h, _⟩ | ⟨_, h⟩
  ·omega
  ·exact h
 subst e0
 have A12 := (A8.trans (Adv.of_ext E11)).trans adv12
 have E12' := E1.trans A12.keep
 refine ⟨_, rfl, _, rfl, (copied_is (c2 := c2) (hO.ext E12') (by omega)).mono ?_⟩
 rintro _ w13 ⟨_, rfl, A4, c4, rfl, R13, E13⟩
 refine ⟨_, rfl, A4, n2, c4, rfl, fun p1 w14 hN14 => ?_⟩
 have R14 := R13.keep (Ext.of_new hN14) fun _ _ h => h
 have E14 := E13.new hN14
 obtain ⟨A5, c5, w15, hr, R15, hK, _⟩ := R14.append (P := P) (m := 1) (c2 := 1) (t := T.sl_arbiterlaw13_Op) (ty := T.sl_arbiterlaw13_Op) (by_ := 40) (by kernel_rfl) (by kernel_rfl) (by decide) (news := OpR.vals ⟨4, false, ms.length, 0, 0⟩) rfl (hN14.cells rfl) (op_one _) (by omega) (by omega) E14.size
 have E15 : Ext w12 w15 := E14.over hK fun b hb hx => by have := (R14.at hx).1; omega
 have E15' := E12'.trans E15
 have ha : ∀ o ∈ ops ++ [(⟨4, false, ms.length, 0, 0⟩ : OpR)], I64 o.a := by
  intro o ho
  rcases List.mem_append.1 ho with h | h
  ·obtain ⟨i, hi⟩ := List.mem_iff_getElem?.1 h
   obtain ⟨_, _, _, _, _, _, h6⟩ := hO.2 i o hi
   exact h6
  ·rw [List.mem_singleton.1 h]
   exact ⟨by show (-9223372036854775808 : Int) ≤ (ms.length : Int); omega, by show (ms.length : Int) ≤ 9223372036854775807; omega⟩
 have S15 : Sl cOp w15 A5 (n2 + 1) (ops ++ [⟨4, false, ms.length, 0, 0⟩]) := row_sl (cd := cOp) (e := T.arbiterlaw13_Op) R15 (by have := slv_op w15 _ ha; simpa using this) (by decide)
 refine ⟨A5, n2 + 1, c5, w15, hr, (stands_is (fs := fs) (A1 := A1) c1 c5 S15 (by omega)).mono ?_⟩
 rintro _ w16 ⟨_, rfl, A6, n6, c6, rfl, hn6, E16, R16⟩
 have E16' := E15'.trans E16
 have pl := popS_len (st := st) (ms := ms) (k := (ms.length : Int))
 have hv6 := L12.val
 have hS6 : Sl cSaid w16 A6 n6 (standS fs (ops ++ [⟨4, false, ms.length, 0, 0⟩])).1 := row_sl (cd := cSaid) (e := T.arbiterlaw13_Said) R16 (slv_said w16 _) (by decide)
 rw [hbot] at hS6 hn6
 have L16 := (L12.stay E15).stay E16
 refine ⟨_, rfl, A6, n6, c6, _, rfl, ?_⟩
 refine (told_is (W0 := W0) (B0 := w16.heap.size) (c1 := c1) (c2 := c6) (c3 := 0) (b1 := true) (tags := []) (fun w' E' => hN.ext (E16'.trans E')) hS6 (Sl.nil _ _ none) (Nat.le_refl _) (tab_more (tb w16 E16') (Nat.le_trans hB E16'.size)) ok hv6 (by omega) (by omega)).mono ?_
 rintro _ w17 ⟨_, rfl, ⟨h1, _⟩ | ⟨_, ph, Hh, rfl, Lh, advh⟩⟩
 ·exact absurd hs h1
 rw [toldS_all] at Lh
 have E17' := E16'.trans advh.keep
 refine ⟨_, rfl, _, rfl, (law_no_is 0).mono ?_⟩
 rintro _ w18 ⟨_, rfl, rfl, rfl⟩
 refine ⟨_, rfl, _, rfl, fun _ => ⟨fun _ => ?_, fun q => absurd (by simp) q⟩, fun q => absurd rfl q⟩
 refine (alike_is (A1 := A1) (c1 := c1) (L16.stay advh.keep) Lh (by omega) (by omega) (fun _ _ => .rfl) (fun _ _ => .rfl) .rfl).mono ?_
 rintro _ w19 ⟨_, rfl, rfl, E19⟩
 exact ⟨_, rfl, true, rfl, rfl, E17'.trans E19⟩
end
end Go.Proofs.YtnbakpoahcndpaaDoor
namespace Go.Proofs.YtnbakpoahcndpaaDoor
set_option linter.unusedVariables false
set_option linter.unusedSimpArgs false
open Wk Go.ChangeShapes Go.WideShapes Go.Deep Go.RowKit
namespace Opn
theorem one_le {H : Type} (d : DataW H) : 1 ≤ Rows.uptoBulk d := by
 cases d with
 | lit l => cases l <;> simp [Rows.uptoBulk]
 | nil => simp [Rows.uptoBulk]
 | ptr d => simp [Rows.uptoBulk]
 | slice elems spare => simp [Rows.uptoBulk]
 | agg parts => simp [Rows.uptoBulk]
 | iface t d => simp [Rows.uptoBulk]
 | map entries => simp [Rows.uptoBulk]
 | held h => simp [Rows.uptoBulk]
theorem part_le {H : Type} {d : DataW H} {l : List (DataW H)} (h : d ∈ l) : Rows.uptoBulk d ≤ Rows.uptoBulkAll l := by
 induction l with
 | nil => cases h
 | cons x r ih =>
  simp only [Rows.uptoBulkAll]
  cases List.mem_cons.1 h with
  | inl e => subst e; omega
  | inr e => have := ih e; omega
theorem length_le {H : Type} (l : List (DataW H)) : l.length ≤ Rows.uptoBulkAll l := by
 induction l with
 | nil => simp [Rows.uptoBulkAll]
 | cons x r ih => have := one_le x; simp only [Rows.uptoBulkAll, List.length_cons]; omega
abbrev Few {H : Type} (d : DataW H) : Prop := Rows.uptoBulk d ≤ 1048576
theorem few_slice {H : Type} {es sp : List (DataW H)} (h : Few (.slice es sp)) : es.length ≤ 1048576 ∧ ∀ d ∈ es, Few d := by
 unfold Few at h
 simp only [Rows.uptoBulk] at h
 have h1 := length_le es
 refine ⟨by omega, fun d hd => ?_⟩
 have := part_le hd
 unfold Few
 omega
theorem few_agg {H : Type} {es : List (DataW H)} (h : Few (.agg es)) : ∀ d ∈ es, Few d := by
 unfold Few at h
 simp only [Rows.uptoBulk] at h
 intro d hd
 have := part_le hd
 unfold Few
 omega
theorem few_of {H : Type} {l : List (DataW H)} (h : Rows.uptoSmall H l = true) : ∀ d ∈ l, Few d := by
 have h := of_decide_eq_true h
 intro d hd
 have := part_le hd
 unfold Few
 omega
theorem mapM_spec {α β : Type} {f : α → Option β} : ∀ {l : List α} {r : List β}, l.mapM f = some r → r.length = l.length ∧ ∀ (i : Nat) x, l[i]? = some x → f x = r[i]?
 | [], r, h => by simp at h; subst h; simp
 | a :: l, r, h => by
  rw [List.mapM_cons] at h
  cases hf : f a with
  | none => rw [hf] at h; cases h
  | some b =>
   cases hm : l.mapM f with
   | none => rw [hf, hm] at h; cases h
   | some s =>
    rw [hf, hm] at h
    cases h
    obtain ⟨h1, h2⟩ := mapM_spec hm
    refine ⟨by simp [h1], fun i x hx => ?_⟩
    cases i with
    | zero => simp at hx; subst hx; simpa using hf
    | succ i => simpa using h2 i x (by simpa using hx)
theorem cells_spec {w : World} {base : Nat} {a : Addr} {n : Nat} {cs : List Value} (h : w.cells? base a n = some cs) : cs.length = n ∧ CellsAt w a cs := by
 unfold World.cells? at h
 split at h
 ·obtain ⟨h1, h2⟩ := mapM_spec h
  rw [List.length_range] at h1
  refine ⟨h1, fun j v hv => ?_⟩
  have hj := (List.getElem?_eq_some_iff.1 hv).1
  rw [h2 j j (by rw [List.getElem?_range (by omega)]), hv]
 ·cases h
section
variable {P : Program}
def cAnd {α : Type} (c : Cod α) (Q : α → Prop) : Cod α := ⟨c.size, fun w vs x => c.rd w vs x ∧ Q x, fun k h => ⟨c.keep k h.1, h.2⟩⟩
theorem sl_and {α : Type} {c : Cod α} {Q : α → Prop} {w : World} {A : Option Addr} {n : Nat} {xs : List α} (h : Sl (cAnd c Q) w A n xs) : Sl c w A n xs ∧ ∀ x ∈ xs, Q x :=
 ⟨⟨h.1, fun i x hx => let ⟨ad, vs, h1, h2, h3, h4⟩ := h.2 i x hx; ⟨ad, vs, h1, h2, h3, h4.1⟩⟩, fun x hx => by
  obtain ⟨i, hi⟩ := List.mem_iff_getElem?.1 hx
  obtain ⟨_, _, _, _, _, h4⟩ := h.2 i x hi
  exact h4.2⟩
theorem i64_of_wf {n : Int} (h : (Lit.int .i64 n).wf = true) : -9223372036854775808 ≤ n ∧ n ≤ 9223372036854775807 := by
 simpa [Lit.wf, IntKind.min, IntKind.max, IntKind.signed, IntKind.bits] using h
def fieldsOf (P : Program) (t : TypeId) : Option (List (TypeId × Nat × Nat)) := match P.underlying t with
 | some (.struct fs) => some (fs.toList.map fun f => (f.type, f.offset, P.cellsOf f.type))
 | _ => none
end
theorem below {W W' : World} (h : Ext W W') : Below W.heap.size W W' := ⟨h.os, h.tape, h.output, h.size, fun k hk => h.block k hk fun h => h⟩
end Opn
end Go.Proofs.YtnbakpoahcndpaaDoor
namespace Go.Proofs.YtnbakpoahcndpaaDoor
set_option linter.unusedVariables false
set_option linter.unusedSimpArgs false
open Wk Go.ChangeShapes Go.WideShapes Go.Deep Go.RowKit
namespace Opn
theorem sum_le_bulk {α H : Type} {m : α → Nat} : ∀ {xs : List α} {ds : List (DataW H)}, xs.length = ds.length → (∀ (i : Nat) x d, xs[i]? = some x → ds[i]? = some d → m x ≤ Rows.uptoBulk d) → (xs.map m).sum ≤ Rows.uptoBulkAll ds
 | [], [], _, _ => by simp
 | x :: xs, d :: ds, hl, h => by
  have h0 := h 0 x d rfl rfl
  have := sum_le_bulk (m := m) (xs := xs) (ds := ds) (by simpa using hl) fun i x d hx hd => h (i + 1) x d (by simpa using hx) (by simpa using hd)
  simp only [List.map_cons, List.sum_cons, Rows.uptoBulkAll]
  omega
 | [], _ :: _, hl, _ => by simp at hl
 | _ :: _, [], hl, _ => by simp at hl
section
variable {P : Program}
def OpensM (P : Program) {α : Type} (c : Cod α) (m : α → Nat) (t : TypeId) : Prop :=
 ∀ {H : Type} {enc : TypeId × Value → H} {w : World} {base : Nat} {spare : Nat → Bool} {held : Bool} {fuel : Nat} {cs : List Value} {x : DataW H × List MemPlace}, DataW.trod enc P w base spare held fuel t cs = some x → Few x.1 → cs.length = c.size ∧ ∃ a, c.rd w cs a ∧ m a ≤ Rows.uptoBulk x.1
theorem opensM_int {k : IntKind} {t : TypeId} (ht : P.underlying t = some (.int k)) : OpensM P (cInt k) (fun _ => 1) t := by
 intro H enc w base spare held fuel cs x h _
 obtain ⟨n, rfl, _, _⟩ := DataW.trod_int ht h
 exact ⟨rfl, n, rfl, one_le _⟩
theorem opensM_sl {α : Type} {c : Cod α} {m : α → Nat} {t e : TypeId} (ht : elemT P t = some e) (hc : P.cellsOf e = c.size) (ho : OpensM P c m e) {H : Type} {enc : TypeId × Value → H} {w : World} {base : Nat} {spare : Nat → Bool} {held : Bool} {fuel : Nat} {cs : List Value} {x : DataW H × List MemPlace}
  (h : DataW.trod enc P w base spare held fuel t cs = some x) (hf : Few x.1) : ∃ A n cp xs, cs = [.slice A n cp] ∧ n ≤ 1048576 ∧ n ≤ cp ∧ Sl c w A n xs ∧ (xs.map m).sum + 1 ≤ Rows.uptoBulk x.1 := by
 rcases open_slice (elem_under ht) h with ⟨rfl, rfl⟩ | ⟨a, len, cap, m', n, D, Pl, rfl, hb, hl, hm, hmm, rfl, hx⟩
 ·exact ⟨none, 0, 0, [], rfl, by omega, by omega, Sl.nil _ _ _, by simp [Rows.uptoBulk]⟩
 ·obtain ⟨h1, h2⟩ := few_slice hf
  simp only [List.length_map, List.length_range] at h1
  have key : ∀ i : Fin len, ∃ y, (∃ vs, vs.length = c.size ∧ CellsAt w (a.add (i.1 * c.size)) vs ∧ c.rd w vs y) ∧ m y ≤ Rows.uptoBulk (D i.1) := by
   intro i
   have hi := i.2
   obtain ⟨cs', hcs, ht'⟩ := hx i.1 (by rw [hmm]; split <;> omega)
   obtain ⟨g1, g2⟩ := cells_spec hcs
   obtain ⟨g3, y, g4, g5⟩ := ho ht' (h2 _ (List.mem_map.2 ⟨i.1, by simp [hi], rfl⟩))
   exact ⟨y, ⟨cs', g3, by rw [← hc]; exact g2, g4⟩, g5⟩
  refine ⟨some a, len, cap, List.ofFn fun i => (key i).choose, rfl, h1, hl, ⟨by simp, fun i y hy => ?_⟩, ?_⟩
  ·rw [List.getElem?_ofFn] at hy
   split at hy
   ·rename_i hi
    cases hy
    obtain ⟨vs, k1, k2, k3⟩ := (key ⟨i, hi⟩).choose_spec.1
    exact ⟨a, vs, rfl, k1, k2, k3⟩
   ·cases hy
  ·have := sum_le_bulk (m := m) (xs := List.ofFn fun i => (key i).choose) (ds := (List.range len).map D) (by simp) fun i x d hx hd => by
    rw [List.getElem?_ofFn] at hx
    split at hx
    ·rename_i hi
     cases hx
     rw [List.getElem?_map, List.getElem?_range hi] at hd
     cases hd
     exact (key ⟨i, hi⟩).choose_spec.2
    ·cases hx
   simp only [Rows.uptoBulk]
   omega
theorem trod_fieldsM {t : TypeId} {L : List (TypeId × Nat × Nat)} (ht : fieldsOf P t = some L) {H : Type} {enc : TypeId × Value → H} {w : World} {base : Nat} {spare : Nat → Bool} {held : Bool} {fuel : Nat} {cs : List Value} {x : DataW H × List MemPlace}
  (h : DataW.trod enc P w base spare held fuel t cs = some x) (hf : Few x.1) :
  cs.length = P.cellsOf t ∧ ∃ (n : Nat) (ys : List (DataW H)), Rows.uptoBulk x.1 = Rows.uptoBulkAll ys + 1 ∧ ys.length = L.length ∧ ∀ (i : Nat) ty off sz, L[i]? = some (ty, off, sz) → ∃ y, DataW.trod enc P w base spare held n ty ((cs.drop off).take sz) = some y ∧ Few y.1 ∧ ys[i]? = some y.1 := by
 unfold fieldsOf at ht
 split at ht
 ·rename_i fs hfs
  cases ht
  obtain ⟨xs, n, rfl, rfl, hl, hlen, hff⟩ := DataW.trod_struct hfs h
  refine ⟨hl, n, xs.map (·.1), by simp only [Rows.uptoBulk], by simp [hlen], fun i ty off sz hi => ?_⟩
  rw [List.getElem?_map] at hi
  cases hq : fs.toList[i]? with
  | none => rw [hq] at hi; cases hi
  | some f =>
   rw [hq] at hi
   simp only [Option.map_some, Option.some.injEq, Prod.mk.injEq] at hi
   obtain ⟨rfl, rfl, rfl⟩ := hi
   have hi' := (List.getElem?_eq_some_iff.1 hq).1
   rw [Array.length_toList] at hi'
   have h1 := hff i f (by rw [← hq, Array.getElem?_toList])
   have hxi : i < xs.length := by omega
   rw [List.getElem?_eq_getElem hxi] at h1
   exact ⟨_, h1, few_agg hf _ (List.mem_map.2 ⟨_, List.getElem_mem hxi, rfl⟩), by rw [List.getElem?_map, List.getElem?_eq_getElem hxi]; rfl⟩
 ·cases ht
theorem val_slM {α : Type} {c : Cod α} {m : α → Nat} {t e : TypeId} (ht : elemT P t = some e) (hc : P.cellsOf e = c.size) (ho : OpensM P c m e) {H : Type} {enc : TypeId × Value → H} {w : World} {base b0 : Nat} {r : Reach} {spare : Nat → Bool} {held : Bool} {v : Value} {d : DataW H} {ps : List MemPlace}
  (hv : Value.okWide P w r b0 t v) (h : DataW.Trod enc P w base spare held t v d ps) (hf : Few d) : ∃ A n cp xs, v = .slice A n cp ∧ n ≤ 1048576 ∧ n ≤ cp ∧ Sl c w A n xs ∧ (xs.map m).sum + 1 ≤ Rows.uptoBulk d := by
 obtain ⟨A, n, cp, rfl⟩ := okWide_slice (elem_under ht) hv
 obtain ⟨fuel, h⟩ := h
 obtain ⟨A', n', cp', xs, hcs, hn, hle, hs, hm⟩ := opensM_sl ht hc ho h hf
 simp only [Value.cells, List.cons.injEq, Value.slice.injEq, and_true] at hcs
 obtain ⟨rfl, rfl, rfl⟩ := hcs
 exact ⟨_, _, _, xs, rfl, hn, hle, hs, hm⟩
end
theorem one_sum {α : Type} : ∀ (l : List α), (l.map fun _ => 1).sum = l.length
 | [] => rfl
 | x :: l => by simp only [List.map_cons, List.sum_cons, one_sum l, List.length_cons]; omega
theorem own : ownKnob Tryd.prog.godebug = none := by kernel_rfl
theorem laidOut : laidOutB Tryd.prog = true := by kernel_rfl
theorem two {α : Type} {cs : List α} (h : cs.length = 2) : ∃ a b, cs = [a, b] := by
 match cs, h with
 | [a, b], _ => exact ⟨a, b, rfl⟩
theorem five {α : Type} {cs : List α} (h : cs.length = 5) : ∃ a b c d e, cs = [a, b, c, d, e] := by
 match cs, h with
 | [a, b, c, d, e], _ => exact ⟨a, b, c, d, e, rfl⟩
theorem uInt : P.underlying T.int = some (.int .i64) := by kernel_rfl
theorem uBool : P.underlying T.bool = some .bool := by kernel_rfl
theorem eInts : elemT P T.sl_int = some T.int := by kernel_rfl
theorem cInt1 : P.cellsOf T.int = 1 := by kernel_rfl
theorem fFlat : fieldsOf P T.api_Flat = some [(T.int, 0, 1), (T.sl_int, 1, 1)] := by kernel_rfl
theorem fOp : fieldsOf P T.arbiterlaw13_Op = some [(T.int, 0, 1), (T.bool, 1, 1), (T.int, 2, 1), (T.int, 3, 1), (T.int, 4, 1)] := by kernel_rfl
theorem cFlat2 : P.cellsOf T.api_Flat = 2 := by kernel_rfl
theorem cOp5 : P.cellsOf T.arbiterlaw13_Op = 5 := by kernel_rfl
theorem eFlats : elemT P T.sl_api_Flat = some T.api_Flat := by kernel_rfl
theorem eOps : elemT P T.sl_arbiterlaw13_Op = some T.arbiterlaw13_Op := by kernel_rfl
abbrev cFlat64 : Cod Flat := cAnd cFlat fun x => I64 x.fn
theorem opensM_flat : OpensM P cFlat64 (fun x => x.args.length + 3) T.api_Flat := by
 intro H enc w base spare held fuel cs x h hf
 obtain ⟨hl, n, ys, hb, hyl, hfs⟩ := trod_fieldsM fFlat h hf
 rw [cFlat2] at hl
 obtain ⟨a, b, rfl⟩ := two hl
 obtain ⟨z0, z1, rfl⟩ := two hyl
 obtain ⟨y0, h0, f0, g0⟩ := hfs 0 _ _ _ rfl
 obtain ⟨y1, h1, f1, g1⟩ := hfs 1 _ _ _ rfl
 cases g0
 cases g1
 obtain ⟨k0, e0, _, w0⟩ := DataW.trod_int uInt h0
 obtain ⟨A, m, c, xs, e1, hm, _, hs, hsum⟩ := opensM_sl eInts (c := cInt .i64) cInt1 (opensM_int uInt) h1 f1
 simp at e0 e1
 subst e0
 subst e1
 refine ⟨rfl, ⟨k0, xs⟩, ⟨⟨A, m, c, rfl, by unfold Sm; omega, hs⟩, i64_of_wf w0⟩, ?_⟩
 have o1 := one_le y0.1
 rw [one_sum] at hsum
 rw [hb]
 simp only [Rows.uptoBulkAll]
 omega
theorem opensM_op : OpensM P cOp (fun _ => 6) T.arbiterlaw13_Op := by
 intro H enc w base spare held fuel cs x h hf
 obtain ⟨hl, n, ys, hb, hyl, hfs⟩ := trod_fieldsM fOp h hf
 rw [cOp5] at hl
 obtain ⟨a, b, c, d, e, rfl⟩ := five hl
 obtain ⟨z0, z1, z2, z3, z4, rfl⟩ := five hyl
 obtain ⟨y0, h0, f0, g0⟩ := hfs 0 _ _ _ rfl
 obtain ⟨y1, h1, f1, g1⟩ := hfs 1 _ _ _ rfl
 obtain ⟨y2, h2, f2, g2⟩ := hfs 2 _ _ _ rfl
 obtain ⟨y3, h3, f3, g3⟩ := hfs 3 _ _ _ rfl
 obtain ⟨y4, h4, f4, g4⟩ := hfs 4 _ _ _ rfl
 obtain ⟨k0, e0, _, _⟩ := DataW.trod_int uInt h0
 obtain ⟨k1, e1, _⟩ := DataW.trod_bool uBool h1
 obtain ⟨k2, e2, _, w2⟩ := DataW.trod_int uInt h2
 obtain ⟨k3, e3, _, _⟩ := DataW.trod_int uInt h3
 obtain ⟨k4, e4, _, _⟩ := DataW.trod_int uInt h4
 simp at e0 e1 e2 e3 e4
 subst e0 e1 e2 e3 e4
 refine ⟨rfl, ⟨k0, k1, k2, k3, k4⟩, ⟨rfl, i64_of_wf w2⟩, ?_⟩
 rw [hb]
 have o0 := one_le z0
 have o1 := one_le z1
 have o2 := one_le z2
 have o3 := one_le z3
 have o4 := one_le z4
 simp only [Rows.uptoBulkAll]
 omega
theorem flat_sum : ∀ (l : List Flat), (l.map fun x => x.args.length + 3).sum = (l.map fun x => x.args.length).sum + 3 * l.length
 | [] => rfl
 | x :: l => by simp only [List.map_cons, List.sum_cons, flat_sum l, List.length_cons]; omega
theorem six_sum {α : Type} : ∀ (l : List α), (l.map fun _ => 6).sum = 6 * l.length
 | [] => rfl
 | x :: l => by simp only [List.map_cons, List.sum_cons, six_sum l, List.length_cons]; omega
theorem nodesOk {fs : List Flat} (h : (fs.map fun x => x.args.length + 3).sum ≤ 1048576) (h64 : ∀ x ∈ fs, I64 x.fn) : NodesOk (wsum fs fs.length) fs := by
 rw [flat_sum] at h
 have e : wsum fs fs.length = (fs.map fun x => x.args.length).sum := by unfold wsum; rw [List.take_length]
 rw [← e] at h
 refine ⟨by omega, h64, Nat.le_refl _, by omega, ?_⟩
 rcases Nat.lt_or_ge fs.length 262145 with hc | hc
 ·have := Nat.mul_le_mul (show fs.length ≤ 262144 by omega) (show wsum fs fs.length + 2 ≤ 1048578 by omega)
  omega
 ·have := Nat.mul_le_mul (show fs.length ≤ 349526 by omega) (show wsum fs fs.length + 2 ≤ 786434 by omega)
  omega
theorem gPow : Tryd.prog.globalNamed "internal/strconv.uint64pow10" = some 0 := by kernel_rfl
theorem gPowType : (Tryd.prog.globals[0]?).map (·.type) = some T.t_20_uint64 := by kernel_rfl
theorem uPow : P.underlying T.t_20_uint64 = some (.array 20 T.uint64) := by kernel_rfl
theorem uU64 : P.underlying T.uint64 = some (.int .u64) := by kernel_rfl
theorem cPow : P.cellsOf T.t_20_uint64 = 20 := by kernel_rfl
theorem cU64 : P.cellsOf T.uint64 = 1 := by kernel_rfl
theorem table {W : World} {l : List (String × DataW Unit)} (he : (l.filter fun x => x.1 == "internal/strconv.uint64pow10") = [("internal/strconv.uint64pow10", Lib.tabData .u64 Lib.pow10Tab)]) (h : laidMetH P l W) : Tab10 W.heap.size W := by
 have h1 := laidMetH.filter (fun x => x.1 == "internal/strconv.uint64pow10") h
 rw [he] at h1
 exact Lib.tabBelow_of_tabIs (Lib.tabIs_of_head (rest := []) gPow gPowType uPow uU64 cU64 cPow h1)
end Opn
end Go.Proofs.YtnbakpoahcndpaaDoor
namespace Go.Proofs.YtnbakpoahcndpaaDoor.eufBack
set_option linter.unusedVariables false
set_option linter.unusedSimpArgs false
open Go.ChangeShapes Go.WideShapes Go.ChangeAt Go.RowKit Wk Opn
set_option maxRecDepth 100000 in
theorem pow (H : Type) {W : World} (hL : laidMetH Tryd.prog Rows.eufBackUptoRow.laid W) : Tab10 W.heap.size W := table (l := Rows.eufBackUptoRow.laid) (by kernel_rfl) hL
set_option maxRecDepth 100000 in
theorem contract (H : Type) (enc : TypeId × Value → H) (W : World) (base : Nat) (args : Array Value) (ds gs : List (DataW H)) (before : List MemPlace)
  (hval : ∀ (j : Nat) t v, Tryd.f4.params[j]? = some t → args[j]? = some v → Value.okWide Tryd.prog W .any base t v)
  (hW : DataW.Whole enc Tryd.prog Tryd.f4.params.toList Rows.eufBackSpec.vars false W args.toList ds gs before) (hk : Rows.uptoSmall H (ds ++ gs) = true) (hL : laidMetH Tryd.prog Rows.eufBackUptoRow.laid W) :
  Calls Tryd.prog 4 args W fun e W' => ∃ v, e = .returned v ∧ Rows.eufBackSpec.post enc Tryd.prog Tryd.f4 false true false false W args v W' := by
 have hW' := hW
 obtain ⟨p, q, hA0, hV, rfl, hfz, hnd⟩ := hW
 have hA : DataW.TrodAll enc Tryd.prog W 0 (fun _ => true) true Tryd.f4.params.toList args.toList ds p := hA0
 rw [Tryd.params4] at hA hval
 obtain ⟨v0, vs0, d0, ds0, p0, q0, hargs, rfl, rfl, h0, r0⟩ := trodAll_cons hA
 obtain ⟨v1, vs1, d1, ds1, p1, q1, rfl, rfl, rfl, h1, r1⟩ := trodAll_cons r0
 obtain ⟨rfl, rfl, rfl⟩ := trodAll_nil r1
 obtain rfl : args = #[v0, v1] := by cases args; simp_all
 obtain ⟨rfl, rfl⟩ := trodVars_none hV
 have few := few_of hk
 have all : Rows.uptoBulkAll ([d0, d1] ++ ([] : List (DataW H))) ≤ 1048576 := of_decide_eq_true hk
 obtain ⟨A0, n0, c0, nodes, rfl, s0, _, z0, m0⟩ := val_slM eFlats (c := cFlat64) cFlat2 opensM_flat (hval 0 _ v0 rfl rfl) h0 (few _ (by simp))
 obtain ⟨A1, n1, c1, ops, rfl, s1, _, z1, m1⟩ := val_slM eOps cOp5 opensM_op (hval 1 _ v1 rfl rfl) h1 (few _ (by simp))
 have k0 := h0
 have k1 := h1
 have lt0 : ∀ x ∈ p0, x.block < W.heap.size := by obtain ⟨m, hm⟩ := k0; exact DataW.trod_lt m _ _ _ hm
 have lt1 : ∀ x ∈ p1, x.block < W.heap.size := by obtain ⟨m, hm⟩ := k1; exact DataW.trod_lt m _ _ _ hm
 simp only [List.cons_append, List.nil_append, Rows.uptoBulkAll] at all
 rw [six_sum] at m1
 obtain ⟨y0, y64⟩ := sl_and z0
 have e0 := z0.1
 have e1 := z1.1
 clear hA0
 subst e0
 refine (EufBack_is y0 z1 (Nat.le_refl _) (pow H hL) (nodesOk (by omega) y64) (by omega)).mono fun e W' h => ?_
 obtain ⟨v, rfl, rfl, hE⟩ := h
 have bel := below hE
 exact ⟨_, rfl, _, _, _, [], _, [], hW', trodAll_mk1 (shut_bool (by kernel_rfl) _),
  (trodAll_cons_mk (Below.trod laidOut (by kernel_rfl) (of_decide_eq_true (by kernel_rfl)) k0 bel lt0) (trodAll_cons_mk (Below.trod laidOut (by kernel_rfl) (of_decide_eq_true (by kernel_rfl)) k1 bel lt1) trodAll_mk0)), rfl, bel.frame _, fun h => (by cases h)⟩
def cellsIn : DataW Unit → Array Value
 | .agg l => (l.map fun | .lit (.int k n) => Value.int k n | _ => .bool false).toArray
 | _ => #[]
def put (cs : Array Value) : Obj → Obj
 | .cells _ t frozen => .cells cs t frozen
 | o => o
noncomputable def laidWorld (os : Os) : World :=
 { World.holding Tryd.prog os ⟨#[], #[], []⟩ with heap := (((World.holding Tryd.prog os ⟨#[], #[], []⟩).heap.modify 0 (put (cellsIn Rows.laid_internal_strconv_uint64pow10))).modify 1 (put (cellsIn Rows.laid_math_bits_deBruijn32tab))).modify 2 (put (cellsIn Rows.laid_math_bits_deBruijn64tab)) }
abbrev args0 : Array Value := #[.slice none 0 0, .slice none 0 0]
theorem laid_met (os : Os) : laidMet Tryd.prog Rows.eufBackUptoRow.laid ((laidWorld os).forCall (fun _ _ => 0) ⟨#[], args0, []⟩).memory :=
 laidMet_of_run' 8 (by kernel_rfl) (by kernel_rfl)
theorem reads (os : Os) {H : Type} (enc : TypeId × Value → H) : ∃ places, DataW.whole enc Tryd.prog ((laidWorld os).forCall (fun _ _ => 0) ⟨#[], args0, []⟩).memory Tryd.f4.params.toList Rows.eufBackSpec.vars false args0.toList 8 = some ([.nil, .nil], [], places) :=
 ⟨[], by kernel_rfl⟩
set_option maxRecDepth 100000 in
theorem lifted (os : Os) (started : os.Started) (H : Type) (enc : TypeId × Value → H) (F : Stop.Interp) :
  ReturnsInHanded {} Tryd.checked os 4 .any ((Rows.OpenSpec.upto Rows.eufBackSpec).preRow enc Tryd.prog Tryd.f4 Rows.eufBackUptoRow.domain false Rows.eufBackUptoRow.laid) (((Rows.OpenSpec.upto Rows.eufBackSpec).at F).post enc Tryd.prog Tryd.f4 false true false false) := by
 obtain ⟨places, hx⟩ := reads os enc
 refine returnsInHanded_of_row (C := Tryd.checked) (s := Rows.OpenSpec.upto Rows.eufBackSpec) own started (by kernel_rfl) Tryd.func4
  (witness_row_at (enc := enc) (C := Tryd.checked) false (laidWorld os) args0 rfl (by kernel_rfl) (by kernel_rfl) (by kernel_rfl)
   (OpenSpec.preRow_of_cond 8 hx (by kernel_rfl) (fun k hk => by cases hk; kernel_rfl) (by kernel_rfl) (laid_met os))) ?_
 intro W base args ds gs before hval hW _ hcond _ hL _ _
 exact contract H enc W base args ds gs before hval hW (hcond _ rfl) hL
theorem said : Rows.EufBackUptoSaid :=
 OpenClaim.holds_of_cond 4 Tryd.f4 rfl rfl rfl rfl rfl rfl rfl ⟨rfl, rfl, rfl, rfl, rfl⟩ rfl rfl rfl rfl rfl (by kernel_rfl) Tryd.func4 (by kernel_rfl)
  (of_decide_eq_true (by kernel_rfl)) (by unfold Func.isWrapper; first | (rw [if_pos (by decide +kernel)]; kernel_rfl) | (rw [if_neg (by decide +kernel)]; exact ⟨rfl, rfl⟩))
  (fun os started H enc _ F => by rw [OpenClaim.pre_eq_preRow]; exact lifted os started H enc F)
theorem plain (f : FuncId) (fn : Func) (hf : Tryd.pinned.checked.prog.funcNamed "arbiter/arbiterlaw13.EufBack" = some f) (hfn : Tryd.pinned.checked.prog.funcs[f]? = some fn) :
  false = Tryd.pinned.checked.prog.looks [] ∧ ∀ (j : Nat) t, fn.params[j]? = some t → Tryd.pinned.checked.prog.wantsStandIn t = false := by
 obtain rfl : f = 4 := Option.some.inj ((show Tryd.prog.funcNamed "arbiter/arbiterlaw13.EufBack" = some 4 by kernel_rfl).symm.trans hf) |>.symm
 obtain rfl : fn = Tryd.f4 := (Option.some.inj (Tryd.func4.symm.trans hfn)).symm
 refine ⟨by kernel_rfl, fun j t ht => ?_⟩
 rw [Tryd.params4] at ht
 have hm := Array.mem_of_getElem? ht
 have w0 : Tryd.prog.wantsStandIn T.sl_api_Flat = false := by kernel_rfl
 have w1 : Tryd.prog.wantsStandIn T.sl_arbiterlaw13_Op = false := by kernel_rfl
 simp only [List.mem_toArray, List.mem_cons, List.not_mem_nil, or_false] at hm
 rcases hm with rfl | rfl
 ·exact w0
 ·exact w1
theorem proved : Rows.EufBackUptoCardSaid :=
 Claim7.holds_tied_plain_at .later [] _ _ _ _ said (fun _ h => by cases h) (by kernel_rfl) (fun _ h => by cases h) eufBackUpto_row_tie rfl ⟨rfl, rfl⟩ (by kernel_rfl) rfl plain (by kernel_rfl)
end Go.Proofs.YtnbakpoahcndpaaDoor.eufBack
