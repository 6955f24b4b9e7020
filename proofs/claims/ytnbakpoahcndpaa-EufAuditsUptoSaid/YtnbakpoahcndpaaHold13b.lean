/- The law's Hold: nodes, sameInts. -/
import Derived.Test.YtnbakpoahcndpaaHold13
set_option linter.unusedVariables false
set_option linter.unusedSimpArgs false
namespace Go.Proofs.Ytnbakpoahcndpaa
open Wk
section
variable {W0 w w' : World} {p : Addr} {A : Nat → Option Addr} {n c : Nat → Nat} {vs : Nat → List Value} {H : Nat → Prop}
theorem Sl.flats_args {W0 : World} {B : Option Addr} {m : Nat} {fs : List Flat} (hx : ∀ w', Ext W0 w' → Sl cFlat w' B m fs) {i : Nat} (hi : i < m) :
    ∃ x ad C k d, fs[i]? = some x ∧ B = some ad ∧ ad.block < W0.heap.size ∧ (∀ w', Ext W0 w' → CellsAt w' (ad.add (i * 2)) [.int .i64 x.fn, .slice C k d] ∧ Ints w' C k x.args) ∧ Sm k := by
  obtain ⟨x, ad, C, k, d, h1, h2, h3, h4, h5⟩ := (hx W0 (Ext.refl W0)).flat (i := i) (by omega) (by omega)
  have hb := World.block_lt_of_cell? W0 _ (h3 0 _ rfl)
  rw [Addr.add_block, Addr.add_block] at hb
  exact ⟨x, ad, C, k, d, by simpa using h1, h2, hb, fun w' hw => ⟨by simpa using hw.cells h3, h5.ext hw⟩, h4⟩
/-- One value more in a row of the caller's own, whose block is in H. -/
theorem Hold.grow (h : Hold W0 w p A n c vs H) {wS : World} (hS : W0.heap.size ≤ wS.heap.size) (hSw : wS.heap.size ≤ w.heap.size) {t e : TypeId} {s by_ : Nat} {C : Option Addr} {k d m c2 : Nat} {us news : List Value} {a : Addr} (hO : Own w wS.heap.size e s C k d us) (hC : ∀ b, At C b → H b) (hno : ∀ b, At C b → ¬ HX 6 p A b)
    (ht : elemT P t = some e) (hi : infoN P e = some (s, by_, s)) (hs : 0 < s) (hs2 : s ≤ 64) (hb2 : by_ ≤ 64) (hl : news.length = m * s) (hc : CellsAt w a news) (h1 : ∀ u ∈ news, u.oneCell' = true) (hn : k + m ≤ 2199023255552) :
    ∃ C' d' w', (Builtin.append_ #[t, t] t #[.slice C k d, .slice (some a) m c2]).run P w = .ok (.slice C' (k + m) d') w' ∧ ∀ w2, Drawn w' w2 → ∃ H', Hold W0 w2 p A n c vs H' ∧ (∀ b, At C' b → H' b) ∧ (∀ b, At C' b → ¬ HX 6 p A b) ∧ Own w2 wS.heap.size e s C' (k + m) d' (us ++ news) ∧ Adv H w H' w2 ∧ (∀ b, H b → H' b) := by
  obtain ⟨C', d', w', hr, hO', hK, hA'⟩ := hO.append (m := m) (c2 := c2) (ty := t) ht hi hs hs2 hb2 hl hc h1 hn hSw
  refine ⟨C', d', w', hr, fun w2 hw2 => ⟨fun b => H b ∨ At C' b, ?_, fun b hb => .inr hb, fun b hb => ?_, hO'.keep (Ext.of_drawn hw2) (fun _ _ h => h), ⟨(hK.drawn hw2).mono fun i _ hi => hC i hi, ?_⟩, fun b hb => .inl hb⟩⟩
  · refine h.step (hK.drawn hw2) (fun b _ hb => ⟨hC b hb, hno b hb⟩) ⟨(hK.drawn hw2).mono fun i _ hi => hC i hi, ?_⟩ (fun b hb => .inl (h.sub b hb)) ?_
    · rintro i hi (k | k)
      · exact k
      · rcases hA' i k with q | q
        · exact hC i q
        · omega
    · rintro b (k | k)
      · exact ⟨(h.lo b k).1, Nat.lt_of_lt_of_le (h.lo b k).2 (hK.drawn hw2).size⟩
      · have := hO'.at k
        rw [hw2.heap]
        omega
  · rcases hA' b hb with q | q
    · exact hno b q
    · intro k
      have := (h.rws.hx (by decide) b k).2
      omega
  · rintro i hi (k | k)
    · exact k
    · rcases hA' i k with q | q
      · exact hC i q
      · omega
structure Cnt (n n' : Nat → Nat) (a b c : Nat) : Prop where
  n0 : n' 0 = n 0 + a
  n1 : n' 1 = n 1 + a
  n2 : n' 2 = n 2 + b
  n3 : n' 3 = n 3 + b
  n4 : n' 4 = n 4 + c
  n5 : n' 5 = n 5 + c
theorem Hold_nodes_is {fs : List Flat} {B : Option Addr} {m : Nat} (d : Nat) (h : Hold W0 w p A n c vs H) (hx : ∀ w', Ext W0 w' → Sl cFlat w' B m fs) (hm : Sm m) (hn : n 0 + m ≤ 1099511627776) (hn1 : n 1 + m ≤ 1099511627776) (hn2 : n 2 + 1 ≤ 1099511627776) (hn3 : n 3 + 1 ≤ 1099511627776) :
    Calls P F.arbiterlaw13_Hold_nodes #[.pointer (some p), .slice B m d] w (Ret fun v w' => ∃ C e A' n' c' vs' H', v = .slice C m e ∧ Hold W0 w' p A' n' c' vs' H' ∧ Cnt n n' m 1 0 ∧ Adv H w H' w' ∧ m ≤ e ∧ St H' w' (fun w => Sl cFlat w C m fs)) := by
  refine Ret.mono (ok_arbiterlaw13_Hold_nodes p B m d (fun C k e w' => k = m ∧ ∃ A' n' c' vs' H', Hold W0 w' p A' n' c' vs' H' ∧ Cnt n n' m 1 0 ∧ Adv H w H' w' ∧ m ≤ e ∧ St H' w' (fun w => Sl cFlat w C m fs)) w ?_)
    (by rintro _ w' ⟨C, k, e, rfl, rfl, A', n', c', vs', H', h⟩; exact ⟨C, e, A', n', c', vs', H', rfl, h⟩)
  unfold vc_arbiterlaw13_Hold_nodes
  intro p2 w1 hN
  have hl := (hx w h.rws.ext).1
  have hm' := hm
  unfold Sm at hm'
  have hO0 : Own w1 w.heap.size T.api_Flat 2 (some p2) 0 0 [] := Own.new hN
  have hp2 := hN.block
  refine ⟨fun q C k e i w2 => q = m - i.toNat ∧ i = k ∧ k ≤ m ∧ ∃ A' n' c' vs' H' us, Hold W0 w2 p A' n' c' vs' H' ∧ Cnt n n' k 0 0 ∧ (∀ b, At C b → H' b) ∧ Adv H w H' w2 ∧ Own w2 w.heap.size T.api_Flat 2 C k e us ∧ (∀ b, At C b → ¬ HX 6 p A' b) ∧ St H' w2 (fun w => SlV cFlat w us (fs.take k)),
    ⟨m, by simp, rfl, by omega, A, n, c, vs, fun b => H b ∨ b = w.heap.size, [], ?_, ⟨rfl, rfl, rfl, rfl, rfl, rfl⟩, ?_, ?_, hO0, fun b hb hh => not_h_of_own h hO0 b hb (h.sub b hh), fun w' _ => SlV.nil _ _⟩, ?_⟩
  · have adv0 : Adv H w (fun b => H b ∨ b = w.heap.size) w1 := ⟨(Keep.refl H w).new hN, fun i hi hh => hh.elim id fun hh => by omega⟩
    refine ⟨h.rws.stay (by decide) (Ext.of_new hN), fun b hb => .inl (h.sub b hb), ?_, h.nums.adv adv0, h.flats.adv adv0, h.links.adv adv0⟩
    have := hN.size
    have := h.rws.ext.size
    rintro b (hb | rfl)
    · have := h.lo b hb
      omega
    · omega
  · rintro b ⟨a, ha, rfl⟩
    cases ha
    exact .inr hp2
  · refine ⟨(Keep.refl H w).new hN, ?_⟩
    rintro i hi (k | rfl)
    · exact k
    · omega
  rintro q C k e i w2 ⟨rfl, rfl, hle, A', n', c', vs', H2, us, h2, hcnt, hC, adv2, hO, hno, hst⟩
  have hsz := adv2.keep.size
  have hS := h.rws.ext.size
  refine ⟨fun hlt => ?_, fun hge => ?_⟩
  · obtain ⟨x, ad, D, j, dd, hxi, hA, hab, hc, hj⟩ := Sl.flats_args hx (i := k) (by omega)
    obtain ⟨hc2, hi2⟩ := hc w2 h2.rws.ext
    have hblk : ∀ o, ¬ HX 6 p A' ((ad.add (k * 2)).add o).block := fun o hh => by
      have := (h2.rws.hx (by decide) _ hh).1
      rw [Addr.add_block, Addr.add_block] at this
      omega
    refine ⟨HX 6 p A', by omega, hlt, ad, hA, x.fn, by simpa using hc2 0 _ rfl, hblk 0, by omega, hlt, ad, hA, D, j, dd, by simpa using hc2 1 _ rfl, hblk 1, fun w4 hw4 => ?_⟩
    have h4 := h2.stay (Ext.of_drawn hw4)
    have g0 := hcnt.n0
    have g1 := hcnt.n1
    refine (Hold_list_is dd h4 (fun w' hw => (hc w' hw).2) hj (by omega) (by omega)).mono ?_
    rintro _ w3 ⟨_, rfl, E, g, A3, c3, vs3, H3, rfl, h3, hsub3, hk3, hg3, adv3, hg, hst3⟩
    refine ⟨_, rfl, E, j, g, rfl, (Keep.of_drawn hw4).trans hk3, fun w11 hw11 p3 w6 hN6 w10 hw10 => ?_⟩
    have E310 : Ext w3 w10 := ((Ext.of_drawn hw11).new hN6).drawn hw10
    have hO4 := hO.keep (Ext.of_drawn hw4) (fun _ _ h => h)
    have hO3 : Own w10 w.heap.size T.api_Flat 2 C k e us := (hO4.keep hk3 hno).keep E310 (fun _ _ h => h)
    have hno3 : ∀ b, At C b → ¬ HX 6 p A3 b := fun b hb hh => hno b hb (hg3 b (hO4.at hb).2 hh)
    have hc10 : CellsAt w10 p3 [.int .i64 x.fn, .slice E j g] := (Ext.of_drawn hw10).cells (hN6.cells rfl)
    have h10 := h3.stay E310
    have hz10 : w.heap.size ≤ w10.heap.size := by have := hw4.heap; have := adv3.keep.size; have := E310.size; have := (Ext.of_drawn hw4).size; omega
    obtain ⟨C', e', w7, hr, hgrow⟩ := h10.grow hS hz10 hO3 (fun b hb => hsub3 b (hC b hb)) hno3 eFlat iFlat (by decide) (by decide) (by decide) (m := 1) (c2 := 1) (news := [.int .i64 x.fn, .slice E j g]) rfl hc10 (by intro u hu; simp at hu; rcases hu with rfl | rfl <;> rfl) (by omega)
    refine ⟨C', k + 1, e', w7, hr, fun w8 hw8 => ?_⟩
    obtain ⟨H4, h8, hC8, hno8, hO8, adv8, hsub8⟩ := hgrow w8 hw8
    unfold vc_arbiterlaw13_Hold_nodes_J1
    refine ⟨m - (k + 1), by omega, ?_⟩
    rw [wrap_small (by omega) (by omega)]
    have adv28 : Adv H2 w2 H4 w8 := ((Adv.of_drawn hw4).trans adv3).trans ((Adv.of_ext E310).trans adv8)
    refine ⟨by omega, by omega, by omega, A3, _, c3, vs3, H4, _, h8, ⟨?_, ?_, ?_, ?_, ?_, ?_⟩, hC8, adv2.trans adv28, hO8, hno8, ?_⟩
    · simp only [upd]; simp; omega
    · simp only [upd]; simp; omega
    · simpa [upd] using hcnt.n2
    · simpa [upd] using hcnt.n3
    · simpa [upd] using hcnt.n4
    · simpa [upd] using hcnt.n5
    · intro w' hw
      rw [List.take_add_one, hxi]
      refine ((hst.adv adv28) w' hw).snoc rfl ⟨E, j, g, rfl, hj, ?_⟩
      exact (hst3.adv ((Adv.of_ext E310).trans adv8)) w' hw
  · have hk : k = m := by omega
    subst hk
    rw [List.take_of_length_le (by omega)] at hst
    intro p4 w12 hN12
    have E12 : Ext w2 w12 := Ext.of_new hN12
    have h12 := h2.stay E12
    have hO12 := hO.keep E12 (fun _ _ h => h)
    have hz12 := E12.size
    obtain ⟨C', e', w13, hr, hgrow⟩ := h12.grow hS (by omega) hO12 hC hno eFlat iFlat (by decide) (by decide) (by decide) (m := 2) (c2 := 2) (news := [.int .i64 73, .slice none 0 0, .int .i64 74, .slice none 0 0]) rfl (hN12.cells rfl) (by intro u hu; simp at hu; rcases hu with rfl | rfl | rfl | rfl <;> rfl) (by omega)
    obtain ⟨H4, h13, hC13, hno13, hO13, adv13, hsub13⟩ := hgrow w13 (Drawn.refl w13)
    have adv213 : Adv H2 w2 H4 w13 := (Adv.of_ext E12).trans adv13
    have hst13 : St H4 w13 fun w => SlV cFlat w (us ++ [.int .i64 73, .slice none 0 0, .int .i64 74, .slice none 0 0]) (fs ++ [⟨73, []⟩, ⟨74, []⟩]) := fun w' hw => by
      refine ((hst.adv adv213) w' hw).app ⟨rfl, fun i x hx => ?_⟩
      match i, hx with
      | 0, hx => cases hx; exact ⟨none, 0, 0, rfl, by decide, Sl.nil _ _ _⟩
      | 1, hx => cases hx; exact ⟨none, 0, 0, rfl, by decide, Sl.nil _ _ _⟩
    have g2 := hcnt.n2
    have g3 := hcnt.n3
    refine ⟨C', k + 2, e', w13, hr, A' 2, n' 2, c' 2, h13.rws.cell 2 (by decide), fun p5 w14 hN14 => ?_⟩
    obtain ⟨A1, c1, w15, hr1, hs1, hz1, hpush⟩ := h13.push2 (k := 2) (by decide) (T6 := T.sl_api_Flat) eSlFlat rfl (x := .slice C' (k + 2) e') (y := .slice B k d) rfl rfl (by omega) (show n' 3 + 1 ≤ 1099511627776 by omega) hN14
    refine ⟨A1, n' 2 + 1, c1, w15, hr1, hs1, hz1, fun w16 hw16 => ?_⟩
    obtain ⟨hcell, hpush⟩ := hpush w16 hw16
    refine ⟨A' 3, n' 3, c' 3, hcell, fun p6 w17 hN17 => ?_⟩
    obtain ⟨A2, c2, w18, hr2, hs2, hz2, hpush2⟩ := hpush p6 w17 hN17
    refine ⟨A2, n' 3 + 1, c2, w18, hr2, hs2, hz2, fun w19 hw19 => ?_⟩
    obtain ⟨A5, c5, vs5, H5, hR, hsub5, hH5, hlo5, hkx, hgx, adv5, v0, v1, v2⟩ := hpush2 w19 hw19
    have hcap := hO13.cap
    -- our own row leaves the set
    have hO19 := hO13.keep hkx hno13
    have hno5 : ∀ b, At C' b → ¬ HX 6 p A5 b := fun b hb hh => hno13 b hb (hgx b (hO13.at hb).2 hh)
    have adv6 : Adv H4 w13 (fun b => H5 b ∧ ¬ At C' b) w19 := ⟨adv5.keep, fun i hi hh => adv5.grow i hi hh.1⟩
    have hfin : St (fun b => H5 b ∧ ¬ At C' b) w19 fun w => Sl cFlat w C' (k + 2) (fs ++ [⟨73, []⟩, ⟨74, []⟩]) := Own.st (c := cFlat) hO19 (fun b hb hh => hh.2 hb) (hst13.adv adv6) (by decide)
    have hold : Hold W0 w19 p A5 (upd (upd n' 2 (n' 2 + 1)) 3 (n' 3 + 1)) c5 vs5 (fun b => H5 b ∧ ¬ At C' b) := by
      refine ⟨hR, fun b hb => ⟨hsub5 b hb, fun hh => hno5 b hh hb⟩, fun b hb => hlo5 b hb.1, ?_, ?_, ?_⟩
      · rw [v2 0 (by decide) (by decide), v2 1 (by decide) (by decide)]; exact h13.nums.adv adv6
      · rw [v0, v1]
        exact (h13.flats.adv adv6).snoc fun w' hw => ⟨C', k, e', B, d, fs, rfl, rfl, hm, hfin w' hw, hx w' (hR.ext.over hw fun i hi hx => by have := (hlo5 i hx.1).1; omega)⟩
      · rw [v2 4 (by decide) (by decide), v2 5 (by decide) (by decide)]; exact h13.links.adv adv6
    refine ⟨by omega, by omega, by simp, A5, _, c5, vs5, _, hold, ⟨?_, ?_, ?_, ?_, ?_, ?_⟩, adv2.trans (adv213.trans adv6), by omega, ?_⟩
    · simpa [upd] using hcnt.n0
    · simpa [upd] using hcnt.n1
    · simp only [upd]; simp; omega
    · simp only [upd]; simp; omega
    · simpa [upd] using hcnt.n4
    · simpa [upd] using hcnt.n5
    · refine hfin.imp fun w' hq => ?_
      have := hq.take (k := k) (by omega)
      rwa [List.take_append_of_le_length (by omega), List.take_of_length_le (by omega)] at this
theorem sameInts_is {B C : Option Addr} {k m : Nat} (d e : Nat) {xs ys : List Int} (h : Ints w B k xs) (h2 : Ints w C m ys) (hk : Sm k) :
    Calls P F.arbiterlaw13_sameInts #[.slice B k d, .slice C m e] w (Ret fun v w' => ∃ b, v = .bool b ∧ (b = true ↔ xs = ys) ∧ Ext w w') := by
  refine ok_arbiterlaw13_sameInts B k d C m e (fun b w' => (b = true ↔ xs = ys) ∧ Ext w w') w ?_
  unfold vc_arbiterlaw13_sameInts
  have e1 := h.1
  have e2 := h2.1
  refine ⟨fun hne => ⟨⟨fun q => (by cases q), fun q => absurd (congrArg List.length q) (by omega)⟩, Ext.refl w⟩, fun hne => ?_⟩
  refine ⟨fun q i w' => q = k - i.toNat ∧ 0 ≤ i ∧ i ≤ k ∧ (∀ j : Nat, (j : Int) < i → xs[j]? = ys[j]?) ∧ Ext w w', ⟨k, by omega, by omega, by omega, fun j hj => by omega, Ext.refl w⟩, ?_⟩
  rintro q i w1 ⟨rfl, i0, i1, hall, E1⟩
  refine ⟨fun hlt => ?_, fun hge => ⟨⟨fun _ => ?_, fun _ => rfl⟩, E1⟩⟩
  · obtain ⟨x, a, hx, hA, hc⟩ := (h.ext E1).int i0 hlt
    obtain ⟨y, a', hy, hA', hc'⟩ := (h2.ext E1).int i0 (by omega)
    refine ⟨i0, hlt, a, hA, x, hc, i0, by omega, a', hA', y, hc', fun w2 hw2 => ⟨fun hxy => ⟨⟨fun q => (by cases q), fun q => ?_⟩, E1.drawn hw2⟩, fun hxy => ?_⟩⟩
    · subst q
      rw [hx] at hy
      cases hy
      exact absurd rfl hxy
    · rw [step_le i0 hlt hk]
      refine ⟨k - (i + 1).toNat, by omega, rfl, by omega, by omega, fun j hj => ?_, E1.drawn hw2⟩
      rcases Int.lt_or_eq_of_le (show (j : Int) ≤ i by omega) with hj | hj
      · exact hall j hj
      · rw [show j = i.toNat by omega, hx, hy, Decidable.not_not.1 hxy]
  · apply List.ext_getElem?
    intro j
    rcases Nat.lt_or_ge j k with hj | hj
    · exact hall j (by omega)
    · rw [List.getElem?_eq_none_iff.2 (by omega), List.getElem?_eq_none_iff.2 (by omega)]
end
end Go.Proofs.Ytnbakpoahcndpaa
