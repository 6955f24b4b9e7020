/- euf.Audit, and what the law asks beside it: sound, worth. -/
import Derived.Test.YtnbakpoahcndpaaAud3
set_option linter.unusedVariables false
set_option linter.unusedSimpArgs false
namespace Go.Proofs.Ytnbakpoahcndpaa
open Wk
/-- What Audit answers. -/
def AuditIs (nodes : List Flat) (given links : List Lnk) (r e : Int) : Prop :=
  (¬ Sound nodes ∧ r = 0 ∧ e = 80) ∨
  (Sound nodes ∧ e = 0 ∧ ((r = -1 ∧ ∀ i : Nat, i < links.length → Fol nodes given links i) ∨ (0 ≤ r ∧ r < links.length ∧ ¬ Fol nodes given links r ∧ ∀ i : Nat, (i : Int) < r → Fol nodes given links i)))
theorem euf_Audit_is {w : World} {nodes : List Flat} {given links : List Lnk} {A1 A2 A3 : Option Addr} {n1 n2 n3 : Nat} (c1 c2 c3 : Nat) (h1 : Sl cFlat w A1 n1 nodes) (h2 : Sl cLink w A2 n2 given) (h3 : Sl cLink w A3 n3 links)
    (s1 : Sm n1) (s2 : Sm n2) (s3 : Sm n3) :
    Calls P F.euf_Audit #[.slice A1 n1 c1, .slice A2 n2 c2, .slice A3 n3 c3] w (Ret fun v w' => ∃ r e : Int, v = .tuple #[.int .i64 r, .int .i64 e] ∧ AuditIs nodes given links r e ∧ Ext w w') := by
  refine ok_euf_Audit A1 n1 c1 A2 n2 c2 A3 n3 c3 (fun r e w' => AuditIs nodes given links r e ∧ Ext w w') w ?_
  unfold vc_euf_Audit
  refine (euf_sound_is c1 h1 s1).mono ?_
  rintro _ w1 ⟨_, rfl, b, rfl, hb, E1⟩
  refine ⟨_, rfl, b, rfl, fun hn => ⟨.inl ⟨fun hs => ?_, rfl, rfl⟩, E1⟩, fun hn => ?_⟩
  · rw [hb.2 hs] at hn; cases hn
  have hs : Sound nodes := hb.1 (by cases b <;> simp at hn ⊢)
  have e3 := h3.1
  refine ⟨fun m i w' => m = n3 - i.toNat ∧ 0 ≤ i ∧ i ≤ n3 ∧ (∀ k : Nat, (k : Int) < i → Fol nodes given links k) ∧ Ext w w', ⟨n3, by omega, by omega, by omega, fun k hk => by omega, E1⟩, ?_⟩
  rintro m i w2 ⟨rfl, i0, i1, hall, E2⟩
  refine ⟨fun hlt => ?_, fun hge => ⟨.inr ⟨hs, rfl, .inl ⟨rfl, fun k hk => hall k (by omega)⟩⟩, E2⟩⟩
  refine (euf_follows_is c1 c2 c3 (h1.ext E2) (h2.ext E2) (h3.ext E2) s1 s2 s3 i0 hlt).mono ?_
  rintro _ w3 ⟨_, rfl, b2, rfl, hb2, E3⟩
  refine ⟨_, rfl, b2, rfl, fun hn => ⟨.inr ⟨hs, rfl, .inr ⟨i0, by omega, fun hf => ?_, hall⟩⟩, E2.trans E3⟩, fun hn => ?_⟩
  · rw [hb2.2 hf] at hn; cases hn
  · have hf := hb2.1 (by cases b2 <;> simp at hn ⊢)
    rw [step_le i0 hlt s3]
    refine ⟨n3 - (i + 1).toNat, by omega, rfl, by omega, by omega, fun k hk => ?_, E2.trans E3⟩
    rcases Int.lt_or_eq_of_le (show (k : Int) ≤ i by omega) with hk | hk
    · exact hall k hk
    · rw [hk]; exact hf
theorem law_sound_is {w : World} {A : Option Addr} {n : Nat} (c : Nat) {fs : List Flat} (h : Sl cFlat w A n fs) (hn : Sm n) :
    Calls P F.arbiterlaw13_sound #[.slice A n c] w (Ret fun v w' => ∃ b, v = .bool b ∧ (b = true ↔ Sound fs) ∧ w' = w) := by
  refine ok_arbiterlaw13_sound A n c (fun b w' => (b = true ↔ Sound fs) ∧ w' = w) w ?_
  unfold vc_arbiterlaw13_sound
  refine ⟨fun m i => m = n - i.toNat ∧ 0 ≤ i ∧ i ≤ n ∧ (∀ (k : Nat), (k : Int) < i → ∀ x, fs[k]? = some x → ∀ (j : Nat) a, x.args[j]? = some a → 0 ≤ a ∧ a < (k : Int)), ⟨n, by omega, by omega, by omega, fun k hk => by omega⟩, ?_⟩
  rintro m i ⟨rfl, h0, h1, hall⟩
  refine ⟨fun hlt => ?_, fun hge => ?_⟩
  · obtain ⟨x, ad, B, k, cc, hx, hA, hc, hk, hr⟩ := h.flat h0 hlt
    refine ⟨fun m j => m = k - j.toNat ∧ 0 ≤ j ∧ j ≤ k ∧ ∀ (q : Nat), (q : Int) < j → ∀ a, x.args[q]? = some a → 0 ≤ a ∧ a < i, ⟨k, by omega, by omega, by omega, fun q hq => by omega⟩, ?_⟩
    rintro m j ⟨rfl, j0, j1, jall⟩
    have c1 := hc 1 _ rfl
    refine ⟨h0, hlt, ad, hA, B, k, cc, c1, fun jlt => ?_, fun jge => ?_⟩
    · obtain ⟨y, ad', hy, hB, hcell⟩ := hr.int j0 jlt
      refine ⟨h0, hlt, ad, hA, B, k, cc, c1, j0, jlt, ad', hB, y, hcell, ?_⟩
      have key : ∀ b : Bool, (b = true ↔ ¬ (0 ≤ y ∧ y < i)) → vc_arbiterlaw13_sound_J1 (fun b w' => (b = true ↔ Sound fs) ∧ w' = w) w (k - j.toNat) (fun m j => m = k - j.toNat ∧ 0 ≤ j ∧ j ≤ k ∧ ∀ (q : Nat), (q : Int) < j → ∀ a, x.args[q]? = some a → 0 ≤ a ∧ a < i) j b := by
        intro b hb
        refine ⟨fun hbt => ⟨?_, rfl⟩, fun hbf => ?_⟩
        · refine ⟨fun h => (by cases h), fun hs => ?_⟩
          have := hs i.toNat x hx j.toNat y hy
          rw [show ((i.toNat : Nat) : Int) = i by omega] at this
          exact absurd this (hb.1 hbt)
        · have hb' : 0 ≤ y ∧ y < i := by
            rcases Classical.em (0 ≤ y ∧ y < i) with h | h
            · exact h
            · rw [hb.2 h] at hbf; cases hbf
          rw [step_le j0 jlt hk]
          refine ⟨k - (j + 1).toNat, by omega, rfl, by omega, by omega, fun q hq a ha => ?_⟩
          rcases Int.lt_or_eq_of_le (show (q : Int) ≤ j by omega) with hq | hq
          · exact jall q hq a ha
          · rw [show q = j.toNat by omega, hy] at ha
            cases ha
            exact hb'
      refine ⟨fun hneg => key true ⟨fun _ => by omega, fun _ => rfl⟩, fun hneg => ⟨h0, hlt, ad, hA, B, k, cc, c1, j0, jlt, ad', hB, y, hcell, key _ ⟨fun hd => by have := of_decide_eq_true hd; omega, fun hd => decide_eq_true (by omega)⟩⟩⟩
    · rw [step_le h0 hlt hn]
      refine ⟨n - (i + 1).toNat, by omega, rfl, by omega, by omega, fun q hq z hz j' a ha => ?_⟩
      rcases Int.lt_or_eq_of_le (show (q : Int) ≤ i by omega) with hq | hq
      · exact hall q hq z hz j' a ha
      · rw [show q = i.toNat by omega, hx] at hz
        cases hz
        rw [hq]
        refine jall j' ?_ a ha
        have := (List.getElem?_eq_some_iff.1 ha).1
        have := hr.1
        omega
  · refine ⟨⟨fun _ => fun k x hx j a ha => ?_, fun _ => rfl⟩, rfl⟩
    refine hall k ?_ x hx j a ha
    have := (List.getElem?_eq_some_iff.1 hx).1
    have := h.1
    omega
theorem law_no_is {w : World} (x : Int) : Calls P F.arbiterlaw13_no #[.int .i64 x] w (Ret fun v w' => v = .int .i64 x ∧ w' = w) :=
  Ret.mono (ok_arbiterlaw13_no x (fun r w' => r = x ∧ w' = w) w ⟨rfl, rfl⟩) (by rintro _ _ ⟨_, rfl, rfl, rfl⟩; exact ⟨rfl, rfl⟩)
/-! ### worth -/
@[irreducible] def wStep (h v j : Int) : Int := Int.tmod (IntKind.wrap .i64 ((IntKind.wrap .i64 ((IntKind.wrap .i64 (h * 31)) + v)) + (IntKind.wrap .i64 (5 * j)))) 1000003
def wArgs : Int → Nat → List Int → Int
  | h, _, [] => h
  | h, j, v :: vs => wArgs (wStep h v j) (j + 1) vs
theorem wArgs_snoc : ∀ (vs : List Int) (h : Int) (j : Nat) (v : Int), wArgs h j (vs ++ [v]) = wStep (wArgs h j vs) v ((j : Int) + vs.length)
  | [], h, j, v => by
    have : (j : Int) + (([] : List Int).length : Int) = j := by simp
    rw [this]
    simp only [List.nil_append, wArgs]
  | u :: vs, h, j, v => by
    simp only [List.cons_append, wArgs, wArgs_snoc vs, List.length_cons]
    congr 1
    omega
theorem wStep_ok {h v j : Int} (h0 : 0 ≤ h) (h1 : h ≤ 1000006) (v0 : 0 ≤ v) (v1 : v ≤ 8) (j0 : 0 ≤ j) (j1 : j ≤ 1099511627776) : 0 ≤ wStep h v j ∧ wStep h v j ≤ 1000006 := by
  unfold wStep
  rw [wrap_small (i := h * 31) (by omega) (by omega), wrap_small (i := 5 * j) (by omega) (by omega), wrap_small (i := h * 31 + v) (by omega) (by omega), wrap_small (by omega) (by omega)]
  refine ⟨Int.tmod_nonneg _ (by omega), ?_⟩
  have := Int.tmod_lt_of_pos (h * 31 + v + 5 * j) (show (0 : Int) < 1000003 by decide)
  omega
def wFin (table : List Int) (size h : Int) : Int :=
  let v := if 0 < table.length then Int.tmod (table.getD (Int.tmod h table.length).toNat 0) size else Int.tmod h size
  if v < 0 then IntKind.wrap .i64 (0 - v) else v
def wNode (table : List Int) (size fn : Int) (vals : List Int) : Int := wFin table size (IntKind.wrap .i64 (wArgs (IntKind.wrap .i64 (3 + Int.tmod fn 1000003)) 0 vals + vals.length))
def valOf (ws : List Int) (a : Int) : Int := ws.getD a.toNat 0
/-- The first of them are worth what they should be. -/
def Worths (f : Int → List Int → Int) (nodes : List Flat) (ws : List Int) : Prop := ∀ (k : Nat) n, k < ws.length → nodes[k]? = some n → 0 ≤ n.fn → valOf ws k = f n.fn (n.args.map (valOf ws))
theorem tmod_8 {v s : Int} (h1 : 1 ≤ s) (h2 : s ≤ 8) : -8 ≤ Int.tmod v s ∧ Int.tmod v s ≤ 8 := by
  have h3 := Int.tmod_lt_of_pos v (show 0 < s by omega)
  have h4 := Int.tmod_lt_of_pos (-v) (show 0 < s by omega)
  rw [Int.neg_tmod] at h4
  omega
theorem wFin_ok {table : List Int} {s h : Int} (h1 : 1 ≤ s) (h2 : s ≤ 8) : 0 ≤ wFin table s h ∧ wFin table s h ≤ 8 := by
  unfold wFin
  simp only
  generalize hq : (if 0 < table.length then Int.tmod (table.getD (Int.tmod h table.length).toNat 0) s else Int.tmod h s) = v
  have hv : -8 ≤ v ∧ v ≤ 8 := by
    rw [← hq]
    split
    · exact tmod_8 h1 h2
    · exact tmod_8 h1 h2
  split
  · rw [wrap_small (by omega) (by omega)]; omega
  · omega
theorem valOf_mem {ws : List Int} (h : ∀ v ∈ ws, 0 ≤ v ∧ v ≤ 8) (a : Int) : 0 ≤ valOf ws a ∧ valOf ws a ≤ 8 := by
  unfold valOf
  rw [List.getD_eq_getElem?_getD]
  cases hx : ws[a.toNat]? with
  | none => simp
  | some v => simpa using h v (List.mem_of_getElem? hx)
theorem valOf_at {ws : List Int} {a : Int} {v : Int} (h : ws[a.toNat]? = some v) : valOf ws a = v := by
  unfold valOf
  rw [List.getD_eq_getElem?_getD, h]
  rfl
theorem valOf_app {ws : List Int} {a : Int} (v : Int) (h : a.toNat < ws.length) : valOf (ws ++ [v]) a = valOf ws a := by
  unfold valOf
  rw [List.getD_eq_getElem?_getD, List.getD_eq_getElem?_getD, List.getElem?_append_left h]
theorem Worths.app {f : Int → List Int → Int} {nodes : List Flat} {ws : List Int} {v : Int} (h : Worths f nodes ws) (hs : Sound nodes) (hv : ∀ n, nodes[ws.length]? = some n → 0 ≤ n.fn → v = f n.fn (n.args.map (valOf ws))) : Worths f nodes (ws ++ [v]) := by
  intro k n hk hn hf
  have hmap : k ≤ ws.length → n.args.map (valOf (ws ++ [v])) = n.args.map (valOf ws) := fun hk' => by
    apply List.map_congr_left
    intro a ha
    obtain ⟨j, hj⟩ := List.mem_iff_getElem?.1 ha
    have := hs k n hn j a hj
    exact valOf_app v (by omega)
  rw [List.length_append] at hk
  simp at hk
  rw [hmap (by omega)]
  rcases Nat.lt_or_eq_of_le (show k ≤ ws.length by omega) with hk' | hk'
  · rw [valOf_app v (by simpa using hk')]
    exact h k n hk' hn hf
  · subst hk'
    rw [← hv n hn hf]
    exact valOf_at (by simp)
section
variable {w : World} {nodes : List Flat} {table : List Int} {A1 A2 : Option Addr} {n1 n2 : Nat} {size : Int}
def WInv (w : World) (nodes : List Flat) (table : List Int) (size : Int) (n1 : Nat) (m : Nat) (A : Option Addr) (n c : Nat) (i : Int) (w' : World) : Prop :=
  m = n1 - i.toNat ∧ i = n ∧ n ≤ n1 ∧ Ext w w' ∧ ∃ ws : List Int, Own w' w.heap.size T.int 1 A n c (ws.map (.int .i64)) ∧ (∀ v ∈ ws, 0 ≤ v ∧ v ≤ 8) ∧ Worths (wNode table size) nodes ws
theorem worth_J1_is {w3 : World} {A : Option Addr} {n c : Nat} {ws : List Int} {v : Int} (hs : Sound nodes) (s1 : Sm n1) (hE : Ext w w3) (hO : Own w3 w.heap.size T.int 1 A n c (ws.map (.int .i64))) (hb : ∀ v ∈ ws, 0 ≤ v ∧ v ≤ 8) (hW : Worths (wNode table size) nodes ws)
    (hlt : n < n1) (v0 : 0 ≤ v) (v1 : v ≤ 8) (hv : ∀ m, nodes[n]? = some m → 0 ≤ m.fn → v = wNode table size m.fn (m.args.map (valOf ws))) :
    vc_arbiterlaw13_worth_J1 w3 A n c (n1 - (n : Int).toNat) (WInv w nodes table size n1) n v := by
  intro p w4 hN
  have hl : ws.length = n := by have := hO.1; simpa using this
  have hO4 := hO.keep (Ext.of_new hN) (fun _ _ h => h)
  have E4 : Ext w w4 := hE.new hN
  obtain ⟨A', c', w5, hr, hO5, hK, _⟩ := hO4.append (m := 1) (c2 := 1) (ty := T.sl_int) TF.elem_sl_int (show infoN P T.int = some (1, 8, 1) by kernel_rfl) (by decide) (by decide) (by decide) (news := [.int .i64 v]) rfl (hN.cells rfl) (by intro u hu; simp at hu; subst hu; rfl) (by unfold Sm at s1; omega) E4.size
  refine ⟨A', n + 1, c', w5, hr, n1 - (n + 1), by omega, ?_⟩
  rw [wrap_small (by omega) (by unfold Sm at s1; omega)]
  refine ⟨by omega, by omega, by omega, E4.over hK (fun b hb hA => by have := (hO4.at hA).1; omega), ws ++ [v], by simpa using hO5, fun u hu => ?_, hW.app hs (by rw [hl]; exact hv)⟩
  rcases List.mem_append.1 hu with hu | hu
  · exact hb u hu
  · simp at hu; subst hu; exact ⟨v0, v1⟩
theorem worth_J3_is {w3 : World} {A : Option Addr} {n c : Nat} {ws : List Int} {h : Int} (hs : Sound nodes) (s1 : Sm n1) (hT : Ints w A2 n2 table) (z1 : 1 ≤ size) (z2 : size ≤ 8) (hE : Ext w w3) (hO : Own w3 w.heap.size T.int 1 A n c (ws.map (.int .i64))) (hb : ∀ v ∈ ws, 0 ≤ v ∧ v ≤ 8) (hW : Worths (wNode table size) nodes ws)
    (hlt : n < n1) (h0 : 0 ≤ h) (hv : ∀ m, nodes[n]? = some m → 0 ≤ m.fn → wFin table size h = wNode table size m.fn (m.args.map (valOf ws))) :
    vc_arbiterlaw13_worth_J3 size n2 A2 w3 A n c (n1 - (n : Int).toNat) (WInv w nodes table size n1) n h := by
  have hl := hT.1
  have J2 : ∀ v, (if v < 0 then IntKind.wrap .i64 (0 - v) else v) = wFin table size h → vc_arbiterlaw13_worth_J2 w3 A n c (n1 - (n : Int).toNat) (WInv w nodes table size n1) n v := by
    intro v hq
    obtain ⟨q0, q1⟩ := wFin_ok (table := table) (h := h) z1 z2
    refine ⟨fun hneg => ?_, fun hneg => ?_⟩
    · rw [if_pos hneg] at hq
      rw [hq]
      exact worth_J1_is hs s1 hE hO hb hW hlt q0 q1 hv
    · rw [if_neg hneg] at hq
      rw [hq]
      exact worth_J1_is hs s1 hE hO hb hW hlt q0 q1 hv
  refine ⟨by omega, fun ht => ?_, fun ht => J2 _ ?_⟩
  · have hm := Int.tmod_nonneg (n2 : Int) h0
    have hm2 := Int.tmod_lt_of_pos h ht
    obtain ⟨x, a4, hx, hA, hc⟩ := (hT.ext hE).int hm hm2
    refine ⟨by omega, hm, hm2, a4, hA, x, hc, by omega, J2 _ ?_⟩
    have q : 0 < n2 := by omega
    simp only [wFin, hl, q, if_true, List.getD_eq_getElem?_getD, hx, Option.getD_some]
  · have q : ¬ 0 < n2 := by omega
    simp only [wFin, hl, q, if_false]
theorem law_worth_is (c1 c2 : Nat) (hN : Sl cFlat w A1 n1 nodes) (hT : Ints w A2 n2 table) (s1 : Sm n1) (s2 : Sm n2) (hs : Sound nodes) (z1 : 1 ≤ size) (z2 : size ≤ 8) :
    Calls P F.arbiterlaw13_worth #[.slice A1 n1 c1, .slice A2 n2 c2, .int .i64 size] w (Ret fun v w' => ∃ A c ws, v = .slice A n1 c ∧ Ints w' A n1 ws ∧ Worths (wNode table size) nodes ws ∧ Ext w w') := by
  have e1 := hN.1
  refine Ret.mono (ok_arbiterlaw13_worth A1 n1 c1 A2 n2 c2 size (fun A n c w' => n = n1 ∧ ∃ ws, Ints w' A n1 ws ∧ Worths (wNode table size) nodes ws ∧ Ext w w') w ?_) (by rintro _ w' ⟨A, n, c, rfl, rfl, ws, h⟩; exact ⟨A, c, ws, rfl, h⟩)
  unfold vc_arbiterlaw13_worth
  refine ⟨WInv w nodes table size n1, ⟨n1, by simp, rfl, by omega, Ext.refl w, [], Own.nil _ _ _ _, by simp, fun k n hk => by simp at hk⟩, ?_⟩
  rintro m A n c i w1 ⟨rfl, rfl, hle, E1, ws, hO, hb, hW⟩
  have hl : ws.length = n := by have := hO.1; simpa using this
  refine ⟨fun hlt => ?_, fun hge => ?_⟩
  · obtain ⟨x, a1, B, k, cc, hx, hA, hc, hk, hr⟩ := (hN.ext E1).flat (i := n) (by omega) hlt
    refine ⟨by omega, hlt, a1, hA, _, B, k, cc, hc, fun p1 w2 hN2 => ⟨hN2.soft rfl, fun w3 hw3 => ?_⟩⟩
    have hN3 := hN2.store hw3 rfl
    have E13 : Ext w1 w3 := Ext.of_new hN3
    have E3 := E1.trans E13
    have hO3 := hO.keep E13 (fun _ _ h => h)
    have hc3 := hN3.cells rfl
    have ek := hr.1
    refine ⟨_, hc3 0 _ rfl, fun hf => ⟨_, hc3 0 _ rfl, ?_⟩, fun hf => ?_⟩
    · refine ⟨fun m h j => m = k - j.toNat ∧ 0 ≤ j ∧ j ≤ k ∧ 0 ≤ h ∧ h ≤ 1000006 ∧ h = wArgs (IntKind.wrap .i64 (3 + Int.tmod x.fn 1000003)) 0 ((x.args.take j.toNat).map (valOf ws)), ⟨k, by omega, by omega, by omega, ?_, ?_, rfl⟩, ?_⟩
      · have h1 := Int.tmod_nonneg 1000003 hf
        have h2 := Int.tmod_lt_of_pos x.fn (show (0 : Int) < 1000003 by decide)
        rw [wrap_small (by omega) (by omega)]
        omega
      · have h1 := Int.tmod_nonneg 1000003 hf
        have h2 := Int.tmod_lt_of_pos x.fn (show (0 : Int) < 1000003 by decide)
        rw [wrap_small (by omega) (by omega)]
        omega
      rintro m h j ⟨rfl, j0, j1, h0, h1, hh⟩
      refine ⟨B, k, cc, hc3 1 _ rfl, fun jlt => ?_, fun jge => ?_⟩
      · obtain ⟨y, a2, hy, hB, hcy⟩ := (hr.ext E13).int j0 jlt
        have hyn := hs _ x hx _ y hy
        obtain ⟨v, a3, hv, hA4, hcv⟩ := hO3.ints.int hyn.1 (by omega)
        have hvm := hb v (List.mem_of_getElem? hv)
        refine ⟨B, k, cc, hc3 1 _ rfl, j0, jlt, a2, hB, y, hcy, hyn.1, by omega, a3, hA4, v, hcv, k - (j.toNat + 1), by omega, ?_⟩
        rw [step_le j0 jlt hk]
        have hw := wStep_ok h0 h1 hvm.1 hvm.2 j0 (show j ≤ 1099511627776 by unfold Sm at hk; omega)
        have ew : wStep h v j = Int.tmod (IntKind.wrap .i64 ((IntKind.wrap .i64 ((IntKind.wrap .i64 (h * 31)) + v)) + (IntKind.wrap .i64 (5 * j)))) 1000003 := by simp only [wStep]
        rw [← ew]
        refine ⟨by omega, by omega, by omega, hw.1, hw.2, ?_⟩
        rw [show (j + 1).toNat = j.toNat + 1 by omega, List.take_add_one, hy]
        simp only [Option.toList_some, List.map_append, List.map_cons, List.map_nil]
        rw [wArgs_snoc, ← hh, valOf_at hv]
        simp only [List.length_map, List.length_take]
        rw [show ((0 : Nat) : Int) + ((min j.toNat x.args.length : Nat) : Int) = j by omega]
      · have hj : j = k := by omega
        have ej : x.args.take j.toNat = x.args := by rw [List.take_of_length_le (by omega)]
        rw [ej] at hh
        have hk' := hk
        unfold Sm at hk'
        have hwr : 0 ≤ IntKind.wrap .i64 (h + k) := by rw [wrap_small (by omega) (by omega)]; omega
        refine ⟨B, k, cc, hc3 1 _ rfl, worth_J3_is hs s1 hT z1 z2 E3 hO3 hb hW (by omega) hwr fun m' hm' hf' => ?_⟩
        rw [show n = (n : Int).toNat by omega, hx] at hm'
        cases hm'
        unfold wNode
        rw [← hh, List.length_map, ek]
    · have s1' := s1
      unfold Sm at s1'
      refine worth_J3_is hs s1 hT z1 z2 E3 hO3 hb hW (by omega) ?_ fun m' hm' hf' => ?_
      · rw [wrap_small (i := 7 * (n : Int)) (by omega) (by omega), wrap_small (by omega) (by omega)]; omega
      · rw [show n = (n : Int).toNat by omega, hx] at hm'
        cases hm'
        exact absurd hf' hf
  · have : n = n1 := by omega
    subst this
    exact ⟨rfl, ws, hO.ints, hW, E1⟩
end
end Go.Proofs.Ytnbakpoahcndpaa
