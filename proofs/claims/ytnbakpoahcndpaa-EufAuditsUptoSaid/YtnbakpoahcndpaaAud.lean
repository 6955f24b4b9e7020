/- What euf.Audit comes to, and the functions beneath it: which links follow. -/
import Derived.Test.YtnbakpoahcndpaaCod
import Derived.Test.YtnbakpoahcndpaaVcA
set_option linter.unusedVariables false
set_option linter.unusedSimpArgs false
namespace Go.Proofs.Ytnbakpoahcndpaa
open Wk
abbrev Sm (n : Nat) : Prop := n ≤ 1099511627776
structure Flat where
  fn : Int
  args : List Int
structure Lnk where
  kind : Int
  a : Int
  b : Int
  tag : Int
  kids : List Int
def cFlat : Cod Flat := ⟨2, fun w vs x => ∃ A n c, vs = [.int .i64 x.fn, .slice A n c] ∧ Sm n ∧ Ints w A n x.args, fun k ⟨A, n, c, hv, hs, h⟩ => ⟨A, n, c, hv, hs, h.keep k⟩⟩
def cLink : Cod Lnk := ⟨5, fun w vs x => ∃ A n c, vs = [.int .i64 x.kind, .int .i64 x.a, .int .i64 x.b, .int .i64 x.tag, .slice A n c] ∧ Sm n ∧ Ints w A n x.kids, fun k ⟨A, n, c, hv, hs, h⟩ => ⟨A, n, c, hv, hs, h.keep k⟩⟩
theorem Sl.flat {w : World} {A : Option Addr} {n : Nat} {xs : List Flat} (h : Sl cFlat w A n xs) {i : Int} (h0 : 0 ≤ i) (h1 : i < n) :
    ∃ x ad B m c, xs[i.toNat]? = some x ∧ A = some ad ∧ CellsAt w (ad.add (i.toNat * 2)) [.int .i64 x.fn, .slice B m c] ∧ Sm m ∧ Ints w B m x.args := by
  obtain ⟨x, ad, vs, hx, hA, hl, hc, B, m, c, hv, hs, hr⟩ := h.at h0 h1
  subst hv
  exact ⟨x, ad, B, m, c, hx, hA, hc, hs, hr⟩
theorem Sl.link {w : World} {A : Option Addr} {n : Nat} {xs : List Lnk} (h : Sl cLink w A n xs) {i : Int} (h0 : 0 ≤ i) (h1 : i < n) :
    ∃ x ad B m c, xs[i.toNat]? = some x ∧ A = some ad ∧ CellsAt w (ad.add (i.toNat * 5)) [.int .i64 x.kind, .int .i64 x.a, .int .i64 x.b, .int .i64 x.tag, .slice B m c] ∧ Sm m ∧ Ints w B m x.kids := by
  obtain ⟨x, ad, vs, hx, hA, hl, hc, B, m, c, hv, hs, hr⟩ := h.at h0 h1
  subst hv
  exact ⟨x, ad, B, m, c, hx, hA, hc, hs, hr⟩
/-- Each node stands on earlier ones. -/
def Sound (fs : List Flat) : Prop := ∀ (i : Nat) x, fs[i]? = some x → ∀ (j : Nat) a, x.args[j]? = some a → 0 ≤ a ∧ a < (i : Int)
theorem step_le {i : Int} {n : Nat} (h0 : 0 ≤ i) (h1 : i < n) (hn : Sm n) : IntKind.wrap .i64 (i + 1) = i + 1 := wrap_small (by omega) (by unfold Sm at hn; omega)

theorem euf_sound_is {w : World} {A : Option Addr} {n : Nat} (c : Nat) {fs : List Flat} (h : Sl cFlat w A n fs) (hn : Sm n) :
    Calls P F.euf_sound #[.slice A n c] w (Ret fun v w' => ∃ b, v = .bool b ∧ (b = true ↔ Sound fs) ∧ Ext w w') := by
  refine ok_euf_sound A n c (fun b w' => (b = true ↔ Sound fs) ∧ Ext w w') w ?_
  unfold vc_euf_sound
  refine ⟨fun m i w' => m = n - i.toNat ∧ 0 ≤ i ∧ i ≤ n ∧ (∀ (k : Nat), (k : Int) < i → ∀ x, fs[k]? = some x → ∀ (j : Nat) a, x.args[j]? = some a → 0 ≤ a ∧ a < (k : Int)) ∧ Ext w w', ⟨n, by omega, by omega, by omega, fun k hk => by omega, Ext.refl w⟩, ?_⟩
  rintro m i w1 ⟨rfl, h0, h1, hall, hE⟩
  refine ⟨fun hlt => ?_, fun hge => ?_⟩
  · obtain ⟨x, ad, B, k, cc, hx, hA, hc, hk, hr⟩ := h.flat h0 hlt
    refine ⟨h0, hlt, ad, hA, _, _, _, _, hE.cells hc, ?_⟩
    intro p w2 hN
    refine ⟨hN.soft rfl, ?_⟩
    intro w3 hw3
    have hN := hN.store hw3 rfl
    have hE3 : Ext w w3 := hE.new hN
    refine ⟨B, k, cc, hN.cells rfl 1 _ rfl, ?_⟩
    refine ⟨fun m j => m = k - j.toNat ∧ 0 ≤ j ∧ j ≤ k ∧ ∀ (q : Nat), (q : Int) < j → ∀ a, x.args[q]? = some a → 0 ≤ a ∧ a < i, ⟨k, by omega, by omega, by omega, fun q hq => by omega⟩, ?_⟩
    rintro m j ⟨rfl, j0, j1, jall⟩
    refine ⟨fun jlt => ?_, fun jge => ?_⟩
    · obtain ⟨y, ad', hy, hB, hcell⟩ := hr.int j0 jlt
      refine ⟨j0, jlt, ad', hB, y, hE3.cell hcell, ?_⟩
      have key : ∀ b : Bool, (b = true ↔ ¬ (0 ≤ y ∧ y < i)) → vc_euf_sound_J1 (fun b w' => (b = true ↔ Sound fs) ∧ Ext w w') w3 (k - j.toNat) (fun m j => m = k - j.toNat ∧ 0 ≤ j ∧ j ≤ k ∧ ∀ (q : Nat), (q : Int) < j → ∀ a, x.args[q]? = some a → 0 ≤ a ∧ a < i) j b := by
        intro b hb
        refine ⟨fun hbt => ⟨?_, hE3⟩, fun hbf => ?_⟩
        · refine ⟨fun h => (by cases h), fun hs => ?_⟩
          have := hs i.toNat x hx j.toNat y hy
          rw [show ((i.toNat : Nat) : Int) = i by omega] at this
          exact absurd this (hb.1 hbt)
        · have hb' : 0 ≤ y ∧ y < i := by
            rcases Classical.em (0 ≤ y ∧ y < i) with h | h
            · exact h
            · rw [hb.2 h] at hbf; cases hbf
          rw [step_le j0 jlt hk]
          refine ⟨k - (j + 1).toNat, by omega, rfl, by omega, by omega, fun q hq a ha => ?_⟩
          rcases Int.lt_or_eq_of_le (show (q : Int) ≤ j by omega) with hq | hq
          · exact jall q hq a ha
          · rw [show q = j.toNat by omega, hy] at ha
            cases ha
            exact hb'
      refine ⟨fun hneg => key true ⟨fun _ => by omega, fun _ => rfl⟩, fun hneg => key _ ⟨fun hd => by have := of_decide_eq_true hd; omega, fun hd => decide_eq_true (by omega)⟩⟩
    · rw [step_le h0 hlt hn]
      refine ⟨n - (i + 1).toNat, by omega, rfl, by omega, by omega, fun q hq z hz j' a ha => ?_, hE3⟩
      rcases Int.lt_or_eq_of_le (show (q : Int) ≤ i by omega) with hq | hq
      · exact hall q hq z hz j' a ha
      · rw [show q = i.toNat by omega, hx] at hz
        cases hz
        rw [hq]
        refine jall j' ?_ a ha
        have := (List.getElem?_eq_some_iff.1 ha).1
        have := hr.1
        omega
  · refine ⟨⟨fun _ => fun k x hx j a ha => ?_, fun _ => rfl⟩, hE⟩
    refine hall k ?_ x hx j a ha
    have := (List.getElem?_eq_some_iff.1 hx).1
    have := h.1
    omega
end Go.Proofs.Ytnbakpoahcndpaa
