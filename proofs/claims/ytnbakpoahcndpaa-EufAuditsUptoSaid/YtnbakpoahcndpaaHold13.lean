/- The law's Hold: list, nodes, kept. -/
import Derived.Test.YtnbakpoahcndpaaHoldG
import Derived.Test.YtnbakpoahcndpaaAud
import Derived.Test.YtnbakpoahcndpaaVcD
set_option linter.unusedVariables false
set_option linter.unusedSimpArgs false
namespace Go.Proofs.Ytnbakpoahcndpaa
open Wk
def hty (k : Nat) : TypeId := if k < 2 then T.sl_int else if k < 4 then T.sl_api_Flat else T.sl_api_Link
def NumsE (w : World) (x y : Value) : Prop := ∃ A n c B d xs, x = .slice A (n + 2) c ∧ y = .slice B n d ∧ Sm n ∧ n + 2 ≤ c ∧ Ints w A (n + 2) (xs ++ [-71, -72]) ∧ Ints w B n xs
def FlatsE (w : World) (x y : Value) : Prop := ∃ A n c B d xs, x = .slice A (n + 2) c ∧ y = .slice B n d ∧ Sm n ∧ Sl cFlat w A (n + 2) (xs ++ [⟨73, []⟩, ⟨74, []⟩]) ∧ Sl cFlat w B n xs
def LinksE (w : World) (x y : Value) : Prop := ∃ A n c B d xs, x = .slice A (n + 2) c ∧ y = .slice B n d ∧ Sm n ∧ Sl cLink w A (n + 2) (xs ++ [⟨75, 0, 0, 0, []⟩, ⟨76, 0, 0, 0, []⟩]) ∧ Sl cLink w B n xs
def PairsE (E : World → Value → Value → Prop) (H : Nat → Prop) (w : World) (us vs : List Value) : Prop := us.length = vs.length ∧ ∀ (i : Nat) x y, us[i]? = some x → vs[i]? = some y → St H w fun w => E w x y
theorem PairsE.adv {E : World → Value → Value → Prop} {H H' : Nat → Prop} {w w' : World} {us vs : List Value} (h : PairsE E H w us vs) (k : Adv H w H' w') : PairsE E H' w' us vs := ⟨h.1, fun i x y hx hy => (h.2 i x y hx hy).adv k⟩
theorem PairsE.snoc {E : World → Value → Value → Prop} {H : Nat → Prop} {w : World} {us vs : List Value} {x y : Value} (h : PairsE E H w us vs) (k : St H w fun w => E w x y) : PairsE E H w (us ++ [x]) (vs ++ [y]) := by
  refine ⟨by simp [h.1], fun i x' y' hx hy => ?_⟩
  rcases Nat.lt_or_ge i us.length with hi | hi
  · rw [List.getElem?_append_left hi] at hx
    rw [List.getElem?_append_left (by rw [← h.1]; exact hi)] at hy
    exact h.2 i x' y' hx hy
  · rw [List.getElem?_append_right hi] at hx
    rw [List.getElem?_append_right (by rw [← h.1]; exact hi), ← h.1] at hy
    cases hq : i - us.length with
    | zero => rw [hq] at hx hy; simp at hx hy; subst hx hy; exact k
    | succ j => rw [hq] at hx; simp at hx
structure Hold (W0 w : World) (p : Addr) (A : Nat → Option Addr) (n c : Nat → Nat) (vs : Nat → List Value) (H : Nat → Prop) : Prop where
  rws : Rws 6 hty W0 w p A n c vs
  sub : ∀ b, HX 6 p A b → H b
  lo : ∀ b, H b → W0.heap.size ≤ b ∧ b < w.heap.size
  nums : PairsE NumsE H w (vs 0) (vs 1)
  flats : PairsE FlatsE H w (vs 2) (vs 3)
  links : PairsE LinksE H w (vs 4) (vs 5)
section
variable {W0 w w' : World} {p : Addr} {A : Nat → Option Addr} {n c : Nat → Nat} {vs : Nat → List Value} {H : Nat → Prop}
theorem Hold.stay (h : Hold W0 w p A n c vs H) (k : Ext w w') : Hold W0 w' p A n c vs H :=
  ⟨h.rws.stay (by decide) k, h.sub, fun b hb => ⟨(h.lo b hb).1, Nat.lt_of_lt_of_le (h.lo b hb).2 k.size⟩, h.nums.adv (Adv.of_ext k), h.flats.adv (Adv.of_ext k), h.links.adv (Adv.of_ext k)⟩
/-- Blocks of H that are not the rows' own may be written, and H may change. -/
theorem Hold.step {X H' : Nat → Prop} (h : Hold W0 w p A n c vs H) (k : Keep X w w') (hX : ∀ b, b < w.heap.size → X b → H b ∧ ¬ HX 6 p A b) (g : Adv H w H' w') (sub : ∀ b, HX 6 p A b → H' b) (lo : ∀ b, H' b → W0.heap.size ≤ b ∧ b < w'.heap.size) : Hold W0 w' p A n c vs H' := by
  have k' : Keep (fun b => X b ∧ b < w.heap.size) w w' := k.mono fun i hi hx => ⟨hx, hi⟩
  exact ⟨h.rws.keep (by decide) k' (fun i hi hx => (hX i hx.2 hx.1).2 hi) (fun i hi hx => by have := (h.lo i (hX i hx.2 hx.1).1).1; omega), sub, lo, h.nums.adv g, h.flats.adv g, h.links.adv g⟩
theorem Hold.old (h : Hold W0 w p A n c vs H) {φ : World → Prop} (hφ : ∀ w', Ext W0 w' → φ w') : St H w φ := fun w' hw => hφ w' (h.rws.ext.over hw fun i hi hx => by have := (h.lo i hx).1; omega)
theorem eSlInt : elemT P T.sl_sl_int = some (hty 0) := by kernel_rfl
theorem eSlFlat : elemT P T.sl_sl_api_Flat = some (hty 2) := by kernel_rfl
theorem iSl (k : Nat) : infoN P (hty k) = some (1, 24, 1) := by
  unfold hty
  split
  · kernel_rfl
  · split
    · kernel_rfl
    · kernel_rfl
theorem iInt : infoN P T.int = some (1, 8, 1) := by kernel_rfl
theorem iFlat : infoN P T.api_Flat = some (2, 32, 2) := by kernel_rfl
theorem eInt : elemT P T.sl_int = some T.int := by kernel_rfl
theorem eFlat : elemT P T.sl_api_Flat = some T.api_Flat := by kernel_rfl
theorem not_h_of_own {wS : World} {e : TypeId} {s : Nat} {B : Option Addr} {m d : Nat} {us : List Value} (h : Hold W0 wS p A n c vs H) (hO : Own w wS.heap.size e s B m d us) : ∀ b, At B b → ¬ H b := fun b hb k => by
  have := (h.lo b k).2
  have := (hO.at hb).1
  omega
/-- Two rows grow by a value each: a pair. -/
theorem Hold.push2 {w6 : World} (h6 : Hold W0 w6 p A n c vs H) {k : Nat} (hk : k + 1 < 6) {t T5 T6 : TypeId} (ht : elemT P t = some (hty k)) (ht' : hty (k + 1) = hty k) {x y : Value} (hx : x.oneCell' = true) (hy : y.oneCell' = true) (hn : n k + 1 ≤ 1099511627776) (hn1 : n (k + 1) + 1 ≤ 1099511627776)
    {p5 : Addr} {w7 : World} (hN7 : New w6 (.cells #[x] T5) p5 w7) :
    ∃ A1 c1 w8, (Builtin.append_ #[t, t] t #[.slice (A k) (n k) (c k), .slice (some p5) 1 1]).run P w7 = .ok (.slice A1 (n k + 1) c1) w8 ∧ (∃ u, w8.cell? (p.add k) = some u) ∧ w8.frozen? (p.add k) = false ∧
      ∀ w9, w9 = w8.setCell (p.add k) (.slice A1 (n k + 1) c1) → w9.cell? (p.add (k + 1)) = some (.slice (A (k + 1)) (n (k + 1)) (c (k + 1))) ∧
      ∀ (p6 : Addr) (w10 : World), New w9 (.cells #[y] T6) p6 w10 → ∃ A2 c2 w11, (Builtin.append_ #[t, t] t #[.slice (A (k + 1)) (n (k + 1)) (c (k + 1)), .slice (some p6) 1 1]).run P w10 = .ok (.slice A2 (n (k + 1) + 1) c2) w11 ∧ (∃ u, w11.cell? (p.add (k + 1)) = some u) ∧ w11.frozen? (p.add (k + 1)) = false ∧
      ∀ w12, w12 = w11.setCell (p.add (k + 1)) (.slice A2 (n (k + 1) + 1) c2) → ∃ A' c' vs' H', Rws 6 hty W0 w12 p A' (upd (upd n k (n k + 1)) (k + 1) (n (k + 1) + 1)) c' vs' ∧ (∀ b, HX 6 p A' b → H' b) ∧ (∀ b, H b → H' b) ∧ (∀ b, H' b → W0.heap.size ≤ b ∧ b < w12.heap.size) ∧ Keep (HX 6 p A) w6 w12 ∧ (∀ b, b < w6.heap.size → HX 6 p A' b → HX 6 p A b) ∧ Adv H w6 H' w12 ∧
        vs' k = vs k ++ [x] ∧ vs' (k + 1) = vs (k + 1) ++ [y] ∧ ∀ j, j ≠ k → j ≠ k + 1 → vs' j = vs j := by
  obtain ⟨A1, c1, w8, hr1, hs1, hz1, hpush⟩ := h6.rws.push (k := k) (by omega) ht (iSl k) (by decide) hx (by omega) hN7 (c2 := 1)
  refine ⟨A1, c1, w8, hr1, hs1, hz1, fun w9 hw9 => ?_⟩
  obtain ⟨r9, adv9⟩ := hpush w9 hw9
  refine ⟨by simpa [upd] using r9.cell (k + 1) hk, fun p6 w10 hN10 => ?_⟩
  obtain ⟨A2, c2, w11, hr2, hs2, hz2, hpush2⟩ := r9.push (k := k + 1) hk (by rw [ht']; exact ht) (iSl (k + 1)) (by decide) hy (by simp [upd]; omega) hN10 (c2 := 1)
  simp only [upd_ne _ _ (show k + 1 ≠ k by omega)] at hr2 hs2 hz2 hpush2
  refine ⟨A2, c2, w11, hr2, hs2, hz2, fun w12 hw12 => ?_⟩
  obtain ⟨r12, adv12⟩ := hpush2 w12 hw12
  have adv := adv9.trans adv12
  refine ⟨_, _, _, fun b => H b ∨ HX 6 p (upd (upd A k A1) (k + 1) A2) b, r12, fun b hb => .inr hb, fun b hb => .inl hb, ?_, adv.keep, adv.grow, adv.wide fun i _ hi => h6.sub i hi, ?_, ?_, fun j h1 h2 => ?_⟩
  · rintro b (hb | hb)
    · exact ⟨(h6.lo b hb).1, Nat.lt_of_lt_of_le (h6.lo b hb).2 adv.keep.size⟩
    · exact r12.hx (by decide) b hb
  · simp [upd]
  · simp [upd]
  · simp [upd, h1, h2]
theorem Hold_list_is {xs : List Int} {B : Option Addr} {m : Nat} (d : Nat) (h : Hold W0 w p A n c vs H) (hx : ∀ w', Ext W0 w' → Ints w' B m xs) (hm : Sm m) (hn : n 0 + 1 ≤ 1099511627776) (hn1 : n 1 + 1 ≤ 1099511627776) :
    Calls P F.arbiterlaw13_Hold_list #[.pointer (some p), .slice B m d] w (Ret fun v w' => ∃ C e A' c' vs' H', v = .slice C m e ∧ Hold W0 w' p A' (upd (upd n 0 (n 0 + 1)) 1 (n 1 + 1)) c' vs' H' ∧ (∀ b, H b → H' b) ∧ Keep (HX 6 p A) w w' ∧ (∀ b, b < w.heap.size → HX 6 p A' b → HX 6 p A b) ∧ Adv H w H' w' ∧ m ≤ e ∧ St H' w' (fun w => Ints w C m xs)) := by
  refine Ret.mono (ok_arbiterlaw13_Hold_list p B m d (fun C k e w' => k = m ∧ ∃ A' c' vs' H', Hold W0 w' p A' (upd (upd n 0 (n 0 + 1)) 1 (n 1 + 1)) c' vs' H' ∧ (∀ b, H b → H' b) ∧ Keep (HX 6 p A) w w' ∧ (∀ b, b < w.heap.size → HX 6 p A' b → HX 6 p A b) ∧ Adv H w H' w' ∧ m ≤ e ∧ St H' w' (fun w => Ints w C m xs)) w ?_)
    (by rintro _ w' ⟨C, k, e, rfl, rfl, A', c', vs', H', h⟩; exact ⟨C, e, A', c', vs', H', rfl, h⟩)
  unfold vc_arbiterlaw13_Hold_list
  intro p2 w1 hN
  have hxw := (hx w h.rws.ext)
  have hl := hxw.1
  have hm' := hm
  unfold Sm at hm'
  refine ⟨fun q C k e i w2 => q = m - i.toNat ∧ i = k ∧ k ≤ m ∧ Ext w w2 ∧ Own w2 w.heap.size T.int 1 C k e ((xs.take k).map (.int .i64)), ⟨m, by simp, rfl, by omega, Ext.of_new hN, by simpa using Own.new hN⟩, ?_⟩
  rintro q C k e i w2 ⟨rfl, rfl, hle, E2, hO⟩
  refine ⟨fun hlt => ?_, fun hge => ?_⟩
  · obtain ⟨x, a1, hxi, hA, hc⟩ := (hxw.ext E2).int (i := k) (by omega) hlt
    refine ⟨by omega, hlt, a1, hA, x, hc, fun p3 w3 hN3 => ?_⟩
    have E3 := E2.new hN3
    obtain ⟨C', e', w4, hr, hO4, hK, _⟩ := (hO.keep (Ext.of_new hN3) (fun _ _ h => h)).append (m := 1) (c2 := 1) (ty := T.sl_int) eInt iInt (by decide) (by decide) (by decide) (news := [.int .i64 x]) rfl (hN3.cells rfl) (by intro u hu; simp at hu; subst hu; rfl) (by omega) E3.size
    refine ⟨C', k + 1, e', w4, hr, m - (k + 1), by omega, ?_⟩
    rw [wrap_small (by omega) (by omega)]
    refine ⟨by omega, by omega, by omega, E3.over hK (fun b hb hA => by have := ((hO.keep (Ext.of_new hN3) (fun _ _ h => h)).at hA).1; omega), ?_⟩
    rw [List.take_add_one, show xs[k]? = some x by simpa using hxi]
    simpa using hO4
  · have hk : k = m := by omega
    subst hk
    intro p4 w5 hN5
    have E5 := E2.new hN5
    have hO5 := hO.keep (Ext.of_new hN5) (fun _ _ h => h)
    obtain ⟨C', e', w6, hr, hO6, hK, _⟩ := hO5.append (m := 2) (c2 := 2) (ty := T.sl_int) eInt iInt (by decide) (by decide) (by decide) (news := [.int .i64 (-71), .int .i64 (-72)]) rfl (hN5.cells rfl) (by intro u hu; simp at hu; rcases hu with rfl | rfl <;> rfl) (by omega) E5.size
    have E6 : Ext w w6 := E5.over hK (fun b hb hA => by have := (hO5.at hA).1; omega)
    rw [List.take_of_length_le (by omega)] at hO6
    have hO6 : Own w6 w.heap.size T.int 1 C' (k + 2) e' ((xs ++ [-71, -72]).map (.int .i64)) := by simpa using hO6
    have h6 := h.stay E6
    refine ⟨C', k + 2, e', w6, hr, A 0, n 0, c 0, h6.rws.cell 0 (by decide), fun p5 w7 hN7 => ?_⟩
    obtain ⟨A1, c1, w8, hr1, hs1, hz1, hpush⟩ := h6.push2 (k := 0) (by decide) (T6 := T.sl_int) eSlInt rfl (x := .slice C' (k + 2) e') (y := .slice B k d) rfl rfl hn hn1 hN7
    refine ⟨A1, n 0 + 1, c1, w8, hr1, hs1, hz1, fun w9 hw9 => ?_⟩
    obtain ⟨hcell, hpush⟩ := hpush w9 hw9
    refine ⟨A 1, n 1, c 1, hcell, fun p6 w10 hN10 => ?_⟩
    obtain ⟨A2, c2, w11, hr2, hs2, hz2, hpush2⟩ := hpush p6 w10 hN10
    refine ⟨A2, n 1 + 1, c2, w11, hr2, hs2, hz2, fun w12 hw12 => ?_⟩
    obtain ⟨A', c', vs', H', hR, hsub, hH, hlo, hkx, hgx, adv, v0, v1, v2⟩ := hpush2 w12 hw12
    obtain ⟨hO12, hno⟩ := hO6.adv (not_h_of_own h hO6) adv
    have hst : St H' w12 fun w => Ints w C' (k + 2) (xs ++ [-71, -72]) := Own.st (c := cInt .i64) hO12 hno (fun w' _ => slv_ints w' _) (by decide)
    have hcap := hO6.cap
    have hold : Hold W0 w12 p A' (upd (upd n 0 (n 0 + 1)) 1 (n 1 + 1)) c' vs' H' := by
      have hlo' : St H' w12 fun w => Ints w B k xs := fun w' hw => hx w' (hR.ext.over hw fun i hi hx => by have := (hlo i hx).1; omega)
      refine ⟨hR, hsub, hlo, ?_, ?_, ?_⟩
      · rw [v0, v1]
        exact (h6.nums.adv adv).snoc fun w' hw => ⟨C', k, e', B, d, xs, rfl, rfl, hm, hcap, hst w' hw, hlo' w' hw⟩
      · rw [v2 2 (by decide) (by decide), v2 3 (by decide) (by decide)]; exact h6.flats.adv adv
      · rw [v2 4 (by decide) (by decide), v2 5 (by decide) (by decide)]; exact h6.links.adv adv
    refine ⟨by omega, by omega, by simp, A', c', vs', H', hold, hH, (E6.mono (fun _ _ h => h.elim)).trans hkx, fun b hb hh => ?_, (Adv.of_ext E6).trans adv, by omega, ?_⟩
    · exact hgx b (Nat.lt_of_lt_of_le hb E6.size) hh
    · refine hst.imp fun w' hq => ?_
      have := hq.take (k := k) (by omega)
      rwa [List.take_append_of_le_length (by omega), List.take_of_length_le (by omega)] at this
end
end Go.Proofs.Ytnbakpoahcndpaa
