/- The law's Hold: kept answers true as long as what was handed over stands. -/
import Derived.Test.YtnbakpoahcndpaaHold13b
set_option linter.unusedVariables false
set_option linter.unusedSimpArgs false
namespace Go.Proofs.Ytnbakpoahcndpaa
open Wk
section
variable {W0 w w' : World} {p : Addr} {A : Nat → Option Addr} {n c : Nat → Nat} {vs : Nat → List Value} {H : Nat → Prop}
theorem Own.get {base : Nat} {e : TypeId} {B : Option Addr} {m d : Nat} {us : List Value} (h : Own w base e 1 B m d us) {i : Int} (h0 : 0 ≤ i) (h1 : i < m) : ∃ a v, B = some a ∧ us[i.toNat]? = some v ∧ w.cell? (a.add (i.toNat * 1)) = some v := by
  have hl := h.1
  have hi : i.toNat < us.length := by omega
  rcases h.cells with h0 | ⟨a, ha, hc⟩
  · rw [h0] at hi; simp at hi
  · exact ⟨a, us[i.toNat], ha, List.getElem?_eq_getElem hi, by rw [Nat.mul_one]; exact hc _ _ (List.getElem?_eq_getElem hi)⟩
theorem PairsE.get {E : World → Value → Value → Prop} {us vs : List Value} {base : Nat} {e e' : TypeId} {B C : Option Addr} {m m' d d' : Nat} (h : PairsE E H w us vs) (hu : Own w base e 1 B m d us) (hv : Own w base e' 1 C m' d' vs) {i : Int} (h0 : 0 ≤ i) (h1 : i < m) :
    (i < m') ∧ ∃ a a' x y, B = some a ∧ C = some a' ∧ w.cell? (a.add (i.toNat * 1)) = some x ∧ w.cell? (a'.add (i.toNat * 1)) = some y ∧ E w x y := by
  have e1 := h.1
  have e2 := hu.1
  have e3 := hv.1
  have hlt : i < m' := by omega
  obtain ⟨a, x, ha, hx, hc⟩ := hu.get h0 h1
  obtain ⟨a', y, ha', hy, hc'⟩ := hv.get h0 hlt
  exact ⟨hlt, a, a', x, y, ha, ha', hc, hc', (h.2 _ x y hx hy).now⟩
abbrev KeptK (w : World) : Bool → World → Prop := fun b w' => b = true ∧ Ext w w'
theorem Hold_kept_is (h : Hold W0 w p A n c vs H) (hs : ∀ k, k < 6 → Sm (n k)) :
    Calls P F.arbiterlaw13_Hold_kept #[.pointer (some p)] w (Ret fun v w' => v = .bool true ∧ Ext w w') := by
  refine Ret.mono (ok_arbiterlaw13_Hold_kept p (KeptK w) w ?_) (by rintro _ _ ⟨b, rfl, rfl, h⟩; exact ⟨rfl, h⟩)
  unfold vc_arbiterlaw13_Hold_kept
  refine ⟨fun q i w1 => q = n 0 - i.toNat ∧ 0 ≤ i ∧ Ext w w1, ⟨n 0, by simp, by omega, Ext.refl w⟩, ?_⟩
  rintro q i w1 ⟨rfl, i0, E1⟩
  have h1 := h.stay E1
  refine ⟨A 0, n 0, c 0, h1.rws.cell 0 (by decide), fun hlt => ?_, fun hge => ?_⟩
  · obtain ⟨hlt', a, a', x, y, hA, hA', hx, hy, B, k, cc, C, d, xs, rfl, rfl, hk, hcap, hB, hC⟩ := h1.nums.get (h1.rws.own 0 (by decide)) (h1.rws.own 1 (by decide)) i0 hlt
    have hk' := hk
    unfold Sm at hk'
    have step : ∀ w2, Ext w w2 → vc_arbiterlaw13_Hold_kept_J1 (KeptK w) (n 0 - i.toNat) (fun q i w1 => q = n 0 - i.toNat ∧ 0 ≤ i ∧ Ext w w1) i false w2 := fun w2 E2 => by
      refine ⟨fun q => (by cases q), fun _ => ?_⟩
      rw [step_le i0 hlt (hs 0 (by decide))]
      exact ⟨n 0 - (i + 1).toNat, by omega, rfl, by omega, E2⟩
    refine ⟨A 1, n 1, c 1, h1.rws.cell 1 (by decide), i0, hlt', a', hA', C, k, d, hy, A 0, n 0, c 0, h1.rws.cell 0 (by decide), i0, hlt, a, hA, B, k + 2, cc, hx, by omega, by omega, A 1, n 1, c 1, h1.rws.cell 1 (by decide), i0, hlt', a', hA', C, k, d, hy, fun w3 hw3 => ?_⟩
    have e3 := hC.1
    have hB1 : Ints w3 B k xs := by
      have := (hB.ext (Ext.of_drawn hw3)).take (k := k) (by omega)
      rwa [List.take_append_of_le_length (by omega), List.take_of_length_le (by omega)] at this
    refine (sameInts_is cc d hB1 (hC.ext (Ext.of_drawn hw3)) hk).mono ?_
    rintro _ w2 ⟨_, rfl, b, rfl, hb, E2⟩
    have E12 : Ext w1 w2 := (Ext.of_drawn hw3).trans E2
    have hb' : b = true := hb.2 rfl
    subst hb'
    obtain ⟨u, a4, hu, hB4, hcu⟩ := (hB.ext E12).int (i := k) (by omega) (by omega)
    rw [show ((k : Int)).toNat = xs.length by omega] at hu
    simp at hu
    obtain ⟨u2, a5, hu2, hB5, hcu2⟩ := (hB.ext E12).int (i := k + 1) (by omega) (by omega)
    rw [show ((k : Int) + 1).toNat = xs.length + 1 by omega] at hu2
    simp at hu2
    subst hu hu2
    refine ⟨_, rfl, true, rfl, fun q => (by cases q), fun _ => ⟨by omega, by omega, a4, hB4, -71, hcu, fun q => absurd rfl q, fun _ => ?_⟩⟩
    rw [wrap_small (i := (k : Int) + 1) (by omega) (by omega)]
    refine ⟨by omega, by omega, a5, hB5, -72, hcu2, fun w8 hw8 => ?_⟩
    exact step w8 ((E1.trans E12).drawn hw8)
  -- the flats
  refine ⟨fun q i w1 => q = n 2 - i.toNat ∧ 0 ≤ i ∧ Ext w w1, ⟨n 2, by simp, by omega, E1⟩, ?_⟩
  rintro q i w2 ⟨rfl, i0, E2⟩
  have h2 := h.stay E2
  refine ⟨A 2, n 2, c 2, h2.rws.cell 2 (by decide), fun hlt => ?_, fun hge => ?_⟩
  · obtain ⟨hlt', a, a', x, y, hA, hA', hx, hy, B, k, cc, C, d, fs, rfl, rfl, hk, hB, hC⟩ := h2.flats.get (h2.rws.own 2 (by decide)) (h2.rws.own 3 (by decide)) i0 hlt
    have hk' := hk
    unfold Sm at hk'
    have e3 := hC.1
    refine ⟨A 3, n 3, c 3, h2.rws.cell 3 (by decide), i0, hlt', a', hA', C, k, d, hy, A 2, n 2, c 2, h2.rws.cell 2 (by decide), i0, hlt, a, hA, B, k + 2, cc, hx, ?_⟩
    refine ⟨fun q j w3 => q = k - j.toNat ∧ 0 ≤ j ∧ j ≤ k ∧ Ext w2 w3, ⟨k, by simp, by omega, by omega, Ext.refl _⟩, ?_⟩
    rintro q j w3 ⟨rfl, j0, j1, E3⟩
    have h3 := h2.stay E3
    have step : ∀ w4, Ext w2 w4 → j < k → vc_arbiterlaw13_Hold_kept_J2 (KeptK w) (k - j.toNat) (fun q j w3 => q = k - j.toNat ∧ 0 ≤ j ∧ j ≤ k ∧ Ext w2 w3) j false w4 := fun w4 E4 hj => by
      refine ⟨fun q => (by cases q), fun _ => ?_⟩
      rw [step_le j0 hj hk]
      exact ⟨k - (j + 1).toNat, by omega, rfl, by omega, by omega, E4⟩
    refine ⟨fun hj => ?_, fun hj => ?_⟩
    · obtain ⟨f, a8, D, s, t, hf, hB8, hc8, hs8, hi8⟩ := (hB.ext E3).flat j0 (by omega)
      obtain ⟨g, a9, D', s', t', hg, hC9, hc9, hs9, hi9⟩ := (hC.ext E3).flat j0 hj
      rw [List.getElem?_append_left (by omega), hg] at hf
      cases hf
      have r := h3.rws.cell 3 (by decide)
      have hy3 := E3.cell hy
      refine ⟨j0, by omega, a8, hB8, _, hc8 0 _ rfl, A 3, n 3, c 3, r, i0, hlt', a', hA', C, k, d, hy3, j0, hj, a9, hC9, _, hc9 0 _ rfl, fun q => absurd rfl q, fun _ => ⟨j0, by omega, a8, hB8, D, s, t, hc8 1 _ rfl, A 3, n 3, c 3, r, i0, hlt', a', hA', C, k, d, hy3, j0, hj, a9, hC9, D', s', t', hc9 1 _ rfl, fun w14 hw14 => ?_⟩⟩
      refine (sameInts_is t t' (hi8.ext (Ext.of_drawn hw14)) (hi9.ext (Ext.of_drawn hw14)) hs8).mono ?_
      rintro _ w13 ⟨_, rfl, b, rfl, hb, E13⟩
      have hb' : b = true := hb.2 rfl
      subst hb'
      exact ⟨_, rfl, true, rfl, fun w16 hw16 => step w16 (((E3.drawn hw14).trans E13).drawn hw16) hj⟩
    · obtain ⟨f, a8, D, s, t, hf, hB8, hc8, _, _⟩ := (hB.ext E3).flat (i := k) (by omega) (by omega)
      rw [show ((k : Int)).toNat = fs.length by omega] at hf
      simp at hf
      obtain ⟨f2, a9, D', s', t', hf2, hB9, hc9, _, _⟩ := (hB.ext E3).flat (i := k + 1) (by omega) (by omega)
      rw [show ((k : Int) + 1).toNat = fs.length + 1 by omega] at hf2
      simp at hf2
      subst hf hf2
      refine ⟨by omega, by omega, a8, hB8, _, hc8 0 _ rfl, fun q => absurd rfl q, fun _ => ?_⟩
      rw [wrap_small (i := (k : Int) + 1) (by omega) (by omega)]
      refine ⟨by omega, by omega, a9, hB9, _, hc9 0 _ rfl, ?_⟩
      refine ⟨fun q => absurd (of_decide_eq_true q) (fun k => k rfl), fun _ => ?_⟩
      rw [step_le i0 hlt (hs 2 (by decide))]
      exact ⟨n 2 - (i + 1).toNat, by omega, rfl, by omega, E2.trans E3⟩
  -- the links
  refine ⟨fun q i w1 => q = n 4 - i.toNat ∧ 0 ≤ i ∧ Ext w w1, ⟨n 4, by simp, by omega, E2⟩, ?_⟩
  rintro q i w2 ⟨rfl, i0, E2⟩
  have h2 := h.stay E2
  refine ⟨A 4, n 4, c 4, h2.rws.cell 4 (by decide), fun hlt => ?_, fun hge => ⟨rfl, E2⟩⟩
  obtain ⟨hlt', a, a', x, y, hA, hA', hx, hy, B, k, cc, C, d, fs, rfl, rfl, hk, hB, hC⟩ := h2.links.get (h2.rws.own 4 (by decide)) (h2.rws.own 5 (by decide)) i0 hlt
  have hk' := hk
  unfold Sm at hk'
  have e3 := hC.1
  refine ⟨A 5, n 5, c 5, h2.rws.cell 5 (by decide), i0, hlt', a', hA', C, k, d, hy, A 4, n 4, c 4, h2.rws.cell 4 (by decide), i0, hlt, a, hA, B, k + 2, cc, hx, ?_⟩
  refine ⟨fun q j w3 => q = k - j.toNat ∧ 0 ≤ j ∧ j ≤ k ∧ Ext w2 w3, ⟨k, by simp, by omega, by omega, Ext.refl _⟩, ?_⟩
  rintro q j w3 ⟨rfl, j0, j1, E3⟩
  have step : ∀ w4, Ext w2 w4 → j < k → vc_arbiterlaw13_Hold_kept_J4 (KeptK w) (k - j.toNat) (fun q j w3 => q = k - j.toNat ∧ 0 ≤ j ∧ j ≤ k ∧ Ext w2 w3) j false w4 := fun w4 E4 hj => by
    refine ⟨fun q => (by cases q), fun _ => ?_⟩
    rw [step_le j0 hj hk]
    exact ⟨k - (j + 1).toNat, by omega, rfl, by omega, by omega, E4⟩
  refine ⟨fun hj => ?_, fun hj => ?_⟩
  · obtain ⟨f, a8, D, s, t, hf, hB8, hc8, hs8, hi8⟩ := (hB.ext E3).link j0 (by omega)
    refine ⟨j0, by omega, a8, hB8, _, _, _, _, D, s, t, hc8, fun p2 w19 hN19 => ⟨hN19.soft rfl, fun w20 hw20 => ?_⟩⟩
    have hN20 := hN19.store hw20 rfl
    have E20 : Ext w2 w20 := E3.new hN20
    have h20 := h2.stay E20
    obtain ⟨g, a9, D', s', t', hg, hC9, hc9, hs9, hi9⟩ := (hC.ext E20).link j0 hj
    rw [List.getElem?_append_left (by omega), hg] at hf
    cases hf
    refine ⟨A 5, n 5, c 5, h20.rws.cell 5 (by decide), i0, hlt', a', hA', C, k, d, E20.cell hy, j0, hj, a9, hC9, _, _, _, _, D', s', t', hc9, fun p3 w21 hN21 => ⟨hN21.soft rfl, fun w22 hw22 => ?_⟩⟩
    have hN22 := hN21.store hw22 rfl
    have E2022 : Ext w20 w22 := Ext.of_new hN22
    have c2 := E2022.cells (hN20.cells rfl)
    have c3 := hN22.cells rfl
    refine ⟨_, c2 0 _ rfl, _, c3 0 _ rfl, fun q => absurd rfl q, fun _ => ⟨_, c2 1 _ rfl, _, c3 1 _ rfl, fun q => absurd rfl q, fun _ => ⟨_, c2 2 _ rfl, _, c3 2 _ rfl, fun q => absurd rfl q, fun _ => ⟨_, c2 3 _ rfl, _, c3 3 _ rfl, fun q => absurd rfl q, fun _ => ⟨D, s, t, c2 4 _ rfl, D', s', t', c3 4 _ rfl, ?_⟩⟩⟩⟩⟩
    refine (sameInts_is t t' ((hi8.ext (Ext.of_new hN20)).ext E2022) (hi9.ext E2022) hs8).mono ?_
    rintro _ w13 ⟨_, rfl, b, rfl, hb, E13⟩
    have hb' : b = true := hb.2 rfl
    subst hb'
    exact ⟨_, rfl, true, rfl, step w13 ((E20.trans E2022).trans E13) hj⟩
  · obtain ⟨f, a8, D, s, t, hf, hB8, hc8, _, _⟩ := (hB.ext E3).link (i := k) (by omega) (by omega)
    rw [show ((k : Int)).toNat = fs.length by omega] at hf
    simp at hf
    obtain ⟨f2, a9, D', s', t', hf2, hB9, hc9, _, _⟩ := (hB.ext E3).link (i := k + 1) (by omega) (by omega)
    rw [show ((k : Int) + 1).toNat = fs.length + 1 by omega] at hf2
    simp at hf2
    subst hf hf2
    refine ⟨by omega, by omega, a8, hB8, _, hc8 0 _ rfl, fun q => absurd rfl q, fun _ => ?_⟩
    rw [wrap_small (i := (k : Int) + 1) (by omega) (by omega)]
    refine ⟨by omega, by omega, a9, hB9, _, hc9 0 _ rfl, ?_⟩
    refine ⟨fun q => absurd (of_decide_eq_true q) (fun k => k rfl), fun _ => ?_⟩
    rw [step_le i0 hlt (hs 4 (by decide))]
    exact ⟨n 4 - (i + 1).toNat, by omega, rfl, by omega, E2.trans E3⟩
end
end Go.Proofs.Ytnbakpoahcndpaa
