/- The law's Hold: chain. -/
import Derived.Test.YtnbakpoahcndpaaHold13c
set_option linter.unusedVariables false
set_option linter.unusedSimpArgs false
namespace Go.Proofs.Ytnbakpoahcndpaa
open Wk
section
variable {W0 w w' : World} {p : Addr} {A : Nat → Option Addr} {n c : Nat → Nat} {vs : Nat → List Value} {H : Nat → Prop}
/-- A new block of the caller's goes along. -/
theorem Hold.own_new (h : Hold W0 w p A n c vs H) {cs : Array Value} {T : TypeId} {q : Addr} (hN : New w (.cells cs T) q w') : Hold W0 w' p A n c vs (fun b => H b ∨ b = q.block) ∧ Adv H w (fun b => H b ∨ b = q.block) w' := by
  have hb := hN.block
  have adv0 : Adv H w (fun b => H b ∨ b = q.block) w' := ⟨(Keep.refl H w).new hN, fun i hi hh => hh.elim id fun hh => by omega⟩
  refine ⟨⟨h.rws.stay (by decide) (Ext.of_new hN), fun b hb => .inl (h.sub b hb), ?_, h.nums.adv adv0, h.flats.adv adv0, h.links.adv adv0⟩, adv0⟩
  have := hN.size
  have := h.rws.ext.size
  rintro b (hb | rfl)
  · have := h.lo b hb
    omega
  · omega
theorem Hold.write {X : Nat → Prop} (h : Hold W0 w p A n c vs H) (k : Keep X w w') (hX : ∀ b, b < w.heap.size → X b → H b ∧ ¬ HX 6 p A b) : Hold W0 w' p A n c vs H ∧ Adv H w H w' := by
  have adv : Adv H w H w' := ⟨k.mono fun i hi hx => (hX i hi hx).1, fun _ _ k => k⟩
  exact ⟨h.step k hX adv h.sub (fun b hb => ⟨(h.lo b hb).1, Nat.lt_of_lt_of_le (h.lo b hb).2 k.size⟩), adv⟩
theorem eSlLink : elemT P T.sl_sl_api_Link = some (hty 4) := by kernel_rfl
theorem iLink : infoN P T.api_Link = some (5, 56, 5) := by kernel_rfl
theorem eLink : elemT P T.sl_api_Link = some T.api_Link := by kernel_rfl
theorem Sl.links_args {W0 : World} {B : Option Addr} {m : Nat} {fs : List Lnk} (hx : ∀ w', Ext W0 w' → Sl cLink w' B m fs) {i : Nat} (hi : i < m) :
    ∃ x ad C k d, fs[i]? = some x ∧ B = some ad ∧ ad.block < W0.heap.size ∧ (∀ w', Ext W0 w' → CellsAt w' (ad.add (i * 5)) [.int .i64 x.kind, .int .i64 x.a, .int .i64 x.b, .int .i64 x.tag, .slice C k d] ∧ Ints w' C k x.kids) ∧ Sm k := by
  obtain ⟨x, ad, C, k, d, h1, h2, h3, h4, h5⟩ := (hx W0 (Ext.refl W0)).link (i := i) (by omega) (by omega)
  have hb := World.block_lt_of_cell? W0 _ (h3 0 _ rfl)
  rw [Addr.add_block, Addr.add_block] at hb
  exact ⟨x, ad, C, k, d, by simpa using h1, h2, hb, fun w' hw => ⟨by simpa using hw.cells h3, h5.ext hw⟩, h4⟩
theorem Hold_chain_is {fs : List Lnk} {B : Option Addr} {m : Nat} (d : Nat) (h : Hold W0 w p A n c vs H) (hx : ∀ w', Ext W0 w' → Sl cLink w' B m fs) (hm : Sm m) (hn : n 0 + m ≤ 1099511627776) (hn1 : n 1 + m ≤ 1099511627776) (hn2 : n 4 + 1 ≤ 1099511627776) (hn3 : n 5 + 1 ≤ 1099511627776) :
    Calls P F.arbiterlaw13_Hold_chain #[.pointer (some p), .slice B m d] w (Ret fun v w' => ∃ C e A' n' c' vs' H', v = .slice C m e ∧ Hold W0 w' p A' n' c' vs' H' ∧ Cnt n n' m 0 1 ∧ Adv H w H' w' ∧ m ≤ e ∧ St H' w' (fun w => Sl cLink w C m fs)) := by
  refine Ret.mono (ok_arbiterlaw13_Hold_chain p B m d (fun C k e w' => k = m ∧ ∃ A' n' c' vs' H', Hold W0 w' p A' n' c' vs' H' ∧ Cnt n n' m 0 1 ∧ Adv H w H' w' ∧ m ≤ e ∧ St H' w' (fun w => Sl cLink w C m fs)) w ?_)
    (by rintro _ w' ⟨C, k, e, rfl, rfl, A', n', c', vs', H', h⟩; exact ⟨C, e, A', n', c', vs', H', rfl, h⟩)
  unfold vc_arbiterlaw13_Hold_chain
  intro p2 w1 hN
  have hl := (hx w h.rws.ext).1
  have hm' := hm
  unfold Sm at hm'
  have hO0 : Own w1 w.heap.size T.api_Link 5 (some p2) 0 0 [] := Own.new hN
  have hp2 := hN.block
  obtain ⟨h1, adv1⟩ := h.own_new hN
  refine ⟨fun q C k e i w2 => q = m - i.toNat ∧ i = k ∧ k ≤ m ∧ ∃ A' n' c' vs' H' us, Hold W0 w2 p A' n' c' vs' H' ∧ Cnt n n' k 0 0 ∧ (∀ b, At C b → H' b) ∧ Adv H w H' w2 ∧ Own w2 w.heap.size T.api_Link 5 C k e us ∧ (∀ b, At C b → ¬ HX 6 p A' b) ∧ St H' w2 (fun w => SlV cLink w us (fs.take k)),
    ⟨m, by simp, rfl, by omega, A, n, c, vs, _, [], h1, ⟨rfl, rfl, rfl, rfl, rfl, rfl⟩, ?_, adv1, hO0, fun b hb hh => not_h_of_own h hO0 b hb (h.sub b hh), fun w' _ => SlV.nil _ _⟩, ?_⟩
  · rintro b ⟨a, ha, rfl⟩
    cases ha
    exact .inr rfl
  rintro q C k e i w2 ⟨rfl, rfl, hle, A', n', c', vs', H2, us, h2, hcnt, hC, adv2, hO, hno, hst⟩
  have hsz := adv2.keep.size
  have hS := h.rws.ext.size
  refine ⟨fun hlt => ?_, fun hge => ?_⟩
  · obtain ⟨x, ad, D, j, dd, hxi, hA, hab, hc, hj⟩ := Sl.links_args hx (i := k) (by omega)
    refine ⟨by omega, hlt, ad, hA, _, _, _, _, D, j, dd, by simpa using (hc w2 h2.rws.ext).1, fun p3 w3 hN3 => ⟨hN3.soft rfl, fun w4 hw4 => ?_⟩⟩
    have hN4 := hN3.store hw4 rfl
    obtain ⟨h4, adv4⟩ := h2.own_new hN4
    have hp3 := hN4.block
    have hp3' := hN4.lt
    have cx := hN4.cells rfl
    have sx := hN4.soft rfl
    have hO4 := hO.keep (Ext.of_new hN4) (fun _ _ h => h)
    have g0 := hcnt.n0
    have g1 := hcnt.n1
    have np3 : ¬ HX 6 p A' p3.block := fun hh => by
      have := (h2.rws.hx (by decide) _ hh).2
      omega
    refine ⟨D, j, dd, cx 4 _ rfl, (Hold_list_is dd h4 (fun w' hw => (hc w' hw).2) hj (by omega) (by omega)).mono ?_⟩
    rintro _ w5 ⟨_, rfl, E, g, A3, c3, vs3, H3, rfl, h3, hsub3, hk3, hg3, adv3, hg, hst3⟩
    have cx5 := hk3.own cx np3
    have sx5 := hk3.soft sx np3
    refine ⟨_, rfl, E, j, g, rfl, ⟨_, cx5 4 _ rfl⟩, (sx5 4 (by simp)).2, fun w6 hw6 => ?_⟩
    have k6 := setCell_keep hw6
    rw [Addr.add_block] at k6
    have hno3 : ∀ b, At C b → ¬ HX 6 p A3 b := fun b hb hh => hno b hb (hg3 b (hO4.at hb).2 hh)
    obtain ⟨h6, adv6⟩ := h3.write k6 (fun b hb hh => by
      subst hh
      exact ⟨hsub3 _ (.inr rfl), fun hh => np3 (hg3 _ hp3' hh)⟩)
    have c6 : CellsAt w6 p3 [.int .i64 x.kind, .int .i64 x.a, .int .i64 x.b, .int .i64 x.tag, .slice E j g] := by
      subst hw6
      intro t v ht
      match t, ht with
      | 0, ht => cases ht; rw [World.cell?_setCell_other _ _ _ _ (fun q => absurd (add_inj q) (by decide))]; exact cx5 0 _ rfl
      | 1, ht => cases ht; rw [World.cell?_setCell_other _ _ _ _ (fun q => absurd (add_inj q) (by decide))]; exact cx5 1 _ rfl
      | 2, ht => cases ht; rw [World.cell?_setCell_other _ _ _ _ (fun q => absurd (add_inj q) (by decide))]; exact cx5 2 _ rfl
      | 3, ht => cases ht; rw [World.cell?_setCell_other _ _ _ _ (fun q => absurd (add_inj q) (by decide))]; exact cx5 3 _ rfl
      | 4, ht => cases ht; exact World.cell?_setCell_same _ _ _ (cx5 4 _ rfl)
    refine ⟨_, _, _, _, E, j, g, c6, fun p4 w7 hN7 => ?_⟩
    have E67 : Ext w6 w7 := Ext.of_new hN7
    have h7 := h6.stay E67
    have hO7 : Own w7 w.heap.size T.api_Link 5 C k e us := ((hO4.keep hk3 hno).keep k6 (fun b hb hh => by
      subst hh
      have := (hO.at hb).2
      omega)).keep E67 (fun _ _ h => h)
    have hz7 : w.heap.size ≤ w7.heap.size := by have := adv4.keep.size; have := adv3.keep.size; have := k6.size; have := E67.size; omega
    obtain ⟨C', e', w8, hr, hgrow⟩ := h7.grow hS hz7 hO7 (fun b hb => hsub3 b (.inl (hC b hb))) hno3 eLink iLink (by decide) (by decide) (by decide) (m := 1) (c2 := 1) (news := [.int .i64 x.kind, .int .i64 x.a, .int .i64 x.b, .int .i64 x.tag, .slice E j g]) rfl (hN7.cells rfl) (by intro u hu; simp at hu; rcases hu with rfl | rfl | rfl | rfl | rfl <;> rfl) (by omega)
    refine ⟨C', k + 1, e', w8, hr, ?_⟩
    obtain ⟨H4, h8, hC8, hno8, hO8, adv8, hsub8⟩ := hgrow w8 (Drawn.refl w8)
    refine ⟨m - (k + 1), by omega, ?_⟩
    rw [wrap_small (by omega) (by omega)]
    have adv58 : Adv H3 w5 H4 w8 := adv6.trans ((Adv.of_ext E67).trans adv8)
    have adv28 : Adv H2 w2 H4 w8 := (adv4.trans adv3).trans adv58
    refine ⟨by omega, by omega, by omega, A3, _, c3, vs3, H4, _, h8, ⟨?_, ?_, ?_, ?_, ?_, ?_⟩, hC8, adv2.trans adv28, hO8, hno8, ?_⟩
    · simp only [upd]; simp; omega
    · simp only [upd]; simp; omega
    · simpa [upd] using hcnt.n2
    · simpa [upd] using hcnt.n3
    · simpa [upd] using hcnt.n4
    · simpa [upd] using hcnt.n5
    · intro w' hw
      rw [List.take_add_one, hxi]
      refine ((hst.adv adv28) w' hw).snoc rfl ⟨E, j, g, rfl, hj, ?_⟩
      exact (hst3.adv adv58) w' hw
  · have hk : k = m := by omega
    subst hk
    rw [List.take_of_length_le (by omega)] at hst
    intro p4 w12 hN12
    have E12 : Ext w2 w12 := Ext.of_new hN12
    have h12 := h2.stay E12
    have hO12 := hO.keep E12 (fun _ _ h => h)
    have hz12 := E12.size
    obtain ⟨C', e', w13, hr, hgrow⟩ := h12.grow hS (by omega) hO12 hC hno eLink iLink (by decide) (by decide) (by decide) (m := 2) (c2 := 2) (news := [.int .i64 75, .int .i64 0, .int .i64 0, .int .i64 0, .slice none 0 0, .int .i64 76, .int .i64 0, .int .i64 0, .int .i64 0, .slice none 0 0]) rfl (hN12.cells rfl) (by intro u hu; simp at hu; rcases hu with rfl | rfl | rfl | rfl | rfl | rfl <;> rfl) (by omega)
    obtain ⟨H4, h13, hC13, hno13, hO13, adv13, hsub13⟩ := hgrow w13 (Drawn.refl w13)
    have adv213 : Adv H2 w2 H4 w13 := (Adv.of_ext E12).trans adv13
    have hst13 : St H4 w13 fun w => SlV cLink w (us ++ [.int .i64 75, .int .i64 0, .int .i64 0, .int .i64 0, .slice none 0 0, .int .i64 76, .int .i64 0, .int .i64 0, .int .i64 0, .slice none 0 0]) (fs ++ [⟨75, 0, 0, 0, []⟩, ⟨76, 0, 0, 0, []⟩]) := fun w' hw => by
      refine ((hst.adv adv213) w' hw).app ⟨rfl, fun i x hx => ?_⟩
      match i, hx with
      | 0, hx => cases hx; exact ⟨none, 0, 0, rfl, by decide, Sl.nil _ _ _⟩
      | 1, hx => cases hx; exact ⟨none, 0, 0, rfl, by decide, Sl.nil _ _ _⟩
    have g2 := hcnt.n4
    have g3 := hcnt.n5
    refine ⟨C', k + 2, e', w13, hr, A' 4, n' 4, c' 4, h13.rws.cell 4 (by decide), fun p5 w14 hN14 => ?_⟩
    obtain ⟨A1, c1, w15, hr1, hs1, hz1, hpush⟩ := h13.push2 (k := 4) (by decide) (T6 := T.sl_api_Link) eSlLink rfl (x := .slice C' (k + 2) e') (y := .slice B k d) rfl rfl (by omega) (show n' 5 + 1 ≤ 1099511627776 by omega) hN14
    refine ⟨A1, n' 4 + 1, c1, w15, hr1, hs1, hz1, fun w16 hw16 => ?_⟩
    obtain ⟨hcell, hpush⟩ := hpush w16 hw16
    refine ⟨A' 5, n' 5, c' 5, hcell, fun p6 w17 hN17 => ?_⟩
    obtain ⟨A2, c2, w18, hr2, hs2, hz2, hpush2⟩ := hpush p6 w17 hN17
    refine ⟨A2, n' 5 + 1, c2, w18, hr2, hs2, hz2, fun w19 hw19 => ?_⟩
    obtain ⟨A5, c5, vs5, H5, hR, hsub5, hH5, hlo5, hkx, hgx, adv5, v0, v1, v2⟩ := hpush2 w19 hw19
    have hcap := hO13.cap
    have hO19 := hO13.keep hkx hno13
    have hno5 : ∀ b, At C' b → ¬ HX 6 p A5 b := fun b hb hh => hno13 b hb (hgx b (hO13.at hb).2 hh)
    have adv6 : Adv H4 w13 (fun b => H5 b ∧ ¬ At C' b) w19 := ⟨adv5.keep, fun i hi hh => adv5.grow i hi hh.1⟩
    have hfin : St (fun b => H5 b ∧ ¬ At C' b) w19 fun w => Sl cLink w C' (k + 2) (fs ++ [⟨75, 0, 0, 0, []⟩, ⟨76, 0, 0, 0, []⟩]) := Own.st (c := cLink) hO19 (fun b hb hh => hh.2 hb) (hst13.adv adv6) (by decide)
    have hold : Hold W0 w19 p A5 (upd (upd n' 4 (n' 4 + 1)) 5 (n' 5 + 1)) c5 vs5 (fun b => H5 b ∧ ¬ At C' b) := by
      refine ⟨hR, fun b hb => ⟨hsub5 b hb, fun hh => hno5 b hh hb⟩, fun b hb => hlo5 b hb.1, ?_, ?_, ?_⟩
      · rw [v2 0 (by decide) (by decide), v2 1 (by decide) (by decide)]; exact h13.nums.adv adv6
      · rw [v2 2 (by decide) (by decide), v2 3 (by decide) (by decide)]; exact h13.flats.adv adv6
      · rw [v0, v1]
        exact (h13.links.adv adv6).snoc fun w' hw => ⟨C', k, e', B, d, fs, rfl, rfl, hm, hfin w' hw, hx w' (hR.ext.over hw fun i hi hx => by have := (hlo5 i hx.1).1; omega)⟩
    refine ⟨by omega, by omega, by simp, A5, _, c5, vs5, _, hold, ⟨?_, ?_, ?_, ?_, ?_, ?_⟩, adv2.trans (adv213.trans adv6), by omega, ?_⟩
    · simpa [upd] using hcnt.n0
    · simpa [upd] using hcnt.n1
    · simpa [upd] using hcnt.n2
    · simpa [upd] using hcnt.n3
    · simp only [upd]; simp; omega
    · simp only [upd]; simp; omega
    · refine hfin.imp fun w' hq => ?_
      have := hq.take (k := k) (by omega)
      rwa [List.take_append_of_le_length (by omega), List.take_of_length_le (by omega)] at this
end
end Go.Proofs.Ytnbakpoahcndpaa
