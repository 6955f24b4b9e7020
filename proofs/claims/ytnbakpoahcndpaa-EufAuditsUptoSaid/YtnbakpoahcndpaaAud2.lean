/- Which links follow: euf.follows and euf.Audit. -/
import Derived.Test.YtnbakpoahcndpaaAud
set_option linter.unusedVariables false
set_option linter.unusedSimpArgs false
namespace Go.Proofs.Ytnbakpoahcndpaa
open Wk
def kidIs (links : List Lnk) (k x y : Int) : Prop := ∃ q, links[k.toNat]? = some q ∧ q.a = x ∧ q.b = y
def Rule (nodes : List Flat) (given links : List Lnk) (l : Lnk) : Prop :=
  (l.kind = 1 ∧ l.kids = [] ∧ ∃ g ∈ given, g.kind = 1 ∧ g.a = l.a ∧ g.b = l.b ∧ g.tag = l.tag) ∨
  (l.tag = 0 ∧ ((l.kind = 2 ∧ l.kids = [] ∧ l.a = l.b) ∨
    (l.kind = 3 ∧ ∃ k, l.kids = [k] ∧ kidIs links k l.b l.a) ∨
    (l.kind = 4 ∧ ∃ k m, l.kids = [k, m] ∧ ∃ x, kidIs links k l.a x ∧ kidIs links m x l.b) ∨
    (l.kind = 5 ∧ ∃ m n, nodes[l.a.toNat]? = some m ∧ nodes[l.b.toNat]? = some n ∧ 0 ≤ m.fn ∧ m.fn = n.fn ∧ m.args.length = n.args.length ∧ l.kids.length = m.args.length ∧
      ∀ (i : Nat) k x y, l.kids[i]? = some k → m.args[i]? = some x → n.args[i]? = some y → kidIs links k x y)))
def Fol (nodes : List Flat) (given links : List Lnk) (at_ : Int) : Prop :=
  ∃ l, links[at_.toNat]? = some l ∧ 0 ≤ l.a ∧ 0 ≤ l.b ∧ l.a < nodes.length ∧ l.b < nodes.length ∧ (∀ k ∈ l.kids, 0 ≤ k ∧ k < at_) ∧ Rule nodes given links l

theorem index_ints {w : World} {A : Option Addr} {n : Nat} (c : Nat) {xs : List Int} (h : Ints w A n xs) (hn : Sm n) {f : FuncId} {cs : List Value} (hf : callable P f = true) (p : Int → Prop)
    (hp : ∀ x ∈ xs, ∀ w', Ext w w' → Calls P f ([.int .i64 x] ++ cs : List Value).toArray w' (Ret fun v w2 => ∃ b, v = .bool b ∧ (b = true ↔ p x) ∧ Ext w' w2)) :
    Calls P F.slices_IndexFunc_sl_int_int #[.slice A n c, .func (.func f) #[] cs.toArray] w (Ret fun v w' => ∃ r : Int, v = .int .i64 r ∧ (0 ≤ r ↔ ∃ x ∈ xs, p x) ∧ Ext w w') := by
  refine ok_slices_IndexFunc_sl_int_int A n c _ (fun r w' => (0 ≤ r ↔ ∃ x ∈ xs, p x) ∧ Ext w w') w ?_
  unfold vc_slices_IndexFunc_sl_int_int
  refine ⟨fun m i w' => m = n - i.toNat ∧ 0 ≤ i ∧ i ≤ n ∧ (∀ (k : Nat), (k : Int) < i → ∀ x, xs[k]? = some x → ¬ p x) ∧ Ext w w', ⟨n, by omega, by omega, by omega, fun k hk => by omega, Ext.refl w⟩, ?_⟩
  rintro m i w1 ⟨rfl, h0, h1, hall, hE⟩
  refine ⟨fun hlt => ?_, fun hge => ?_⟩
  · obtain ⟨x, ad, hx, hA, hc⟩ := h.int h0 hlt
    refine ⟨h0, hlt, ad, hA, x, hE.cell hc, f, cs, rfl, hf, ?_⟩
    refine (hp x (List.mem_of_getElem? hx) w1 hE).mono ?_
    rintro _ w2 ⟨v, rfl, b, rfl, hb, hE2⟩
    refine ⟨_, rfl, b, rfl, fun hbt => ⟨⟨fun _ => ⟨x, List.mem_of_getElem? hx, hb.1 hbt⟩, fun _ => h0⟩, hE.trans hE2⟩, fun hbf => ?_⟩
    rw [step_le h0 hlt hn]
    refine ⟨n - (i + 1).toNat, by omega, rfl, by omega, by omega, fun k hk y hy => ?_, hE.trans hE2⟩
    rcases Int.lt_or_eq_of_le (show (k : Int) ≤ i by omega) with hk | hk
    · exact hall k hk y hy
    · rw [show k = i.toNat by omega, hx] at hy
      cases hy
      intro hpx
      rw [hb.2 hpx] at hbf
      cases hbf
  · refine ⟨⟨fun h => absurd h (by decide), ?_⟩, hE⟩
    rintro ⟨x, hx, hpx⟩
    obtain ⟨k, hk⟩ := List.mem_iff_getElem?.1 hx
    refine absurd hpx (hall k ?_ x hk)
    have := (List.getElem?_eq_some_iff.1 hk).1
    have := h.1
    omega
theorem contains_ints {w : World} {A : Option Addr} {n : Nat} (c : Nat) {xs : List Int} (h : Ints w A n xs) (hn : Sm n) {f : FuncId} {cs : List Value} (hf : callable P f = true) (p : Int → Prop)
    (hp : ∀ x ∈ xs, ∀ w', Ext w w' → Calls P f ([.int .i64 x] ++ cs : List Value).toArray w' (Ret fun v w2 => ∃ b, v = .bool b ∧ (b = true ↔ p x) ∧ Ext w' w2)) :
    Calls P F.slices_ContainsFunc_sl_int_int #[.slice A n c, .func (.func f) #[] cs.toArray] w (Ret fun v w' => ∃ b, v = .bool b ∧ (b = true ↔ ∃ x ∈ xs, p x) ∧ Ext w w') := by
  refine ok_slices_ContainsFunc_sl_int_int A n c _ (fun b w' => (b = true ↔ ∃ x ∈ xs, p x) ∧ Ext w w') w ?_
  unfold vc_slices_ContainsFunc_sl_int_int
  refine (index_ints c h hn hf p hp).mono ?_
  rintro _ w2 ⟨v, rfl, r, rfl, hr, hE⟩
  exact ⟨_, rfl, r, rfl, ⟨fun hd => hr.1 (of_decide_eq_true hd), fun hx => decide_eq_true (hr.2 hx)⟩, hE⟩
def linkVals (x : Lnk) (B : Option Addr) (m c : Nat) : Value := .agg #[.int .i64 x.kind, .int .i64 x.a, .int .i64 x.b, .int .i64 x.tag, .slice B m c]
theorem index_links {w : World} {A : Option Addr} {n : Nat} (c : Nat) {xs : List Lnk} (h : Sl cLink w A n xs) (hn : Sm n) {f : FuncId} {cs : List Value} (hf : callable P f = true) (p : Lnk → Prop)
    (hp : ∀ x ∈ xs, ∀ w' B m c', Ext w w' → Calls P f ([linkVals x B m c'] ++ cs : List Value).toArray w' (Ret fun v w2 => ∃ b, v = .bool b ∧ (b = true ↔ p x) ∧ Ext w' w2)) :
    Calls P F.slices_IndexFunc_sl_api_Link_api_Link #[.slice A n c, .func (.func f) #[] cs.toArray] w (Ret fun v w' => ∃ r : Int, v = .int .i64 r ∧ (0 ≤ r ↔ ∃ x ∈ xs, p x) ∧ Ext w w') := by
  refine ok_slices_IndexFunc_sl_api_Link_api_Link A n c _ (fun r w' => (0 ≤ r ↔ ∃ x ∈ xs, p x) ∧ Ext w w') w ?_
  unfold vc_slices_IndexFunc_sl_api_Link_api_Link
  refine ⟨fun m i w' => m = n - i.toNat ∧ 0 ≤ i ∧ i ≤ n ∧ (∀ (k : Nat), (k : Int) < i → ∀ x, xs[k]? = some x → ¬ p x) ∧ Ext w w', ⟨n, by omega, by omega, by omega, fun k hk => by omega, Ext.refl w⟩, ?_⟩
  rintro m i w1 ⟨rfl, h0, h1, hall, hE⟩
  refine ⟨fun hlt => ?_, fun hge => ?_⟩
  · obtain ⟨x, ad, B, k, c', hx, hA, hc, _, _⟩ := h.link h0 hlt
    refine ⟨h0, hlt, ad, hA, _, _, _, _, _, _, _, hE.cells hc, f, cs, rfl, hf, ?_⟩
    refine (hp x (List.mem_of_getElem? hx) w1 B k c' hE).mono ?_
    rintro _ w2 ⟨v, rfl, b, rfl, hb, hE2⟩
    refine ⟨_, rfl, b, rfl, fun hbt => ⟨⟨fun _ => ⟨x, List.mem_of_getElem? hx, hb.1 hbt⟩, fun _ => h0⟩, hE.trans hE2⟩, fun hbf => ?_⟩
    rw [step_le h0 hlt hn]
    refine ⟨n - (i + 1).toNat, by omega, rfl, by omega, by omega, fun k hk y hy => ?_, hE.trans hE2⟩
    rcases Int.lt_or_eq_of_le (show (k : Int) ≤ i by omega) with hk | hk
    · exact hall k hk y hy
    · rw [show k = i.toNat by omega, hx] at hy
      cases hy
      intro hpx
      rw [hb.2 hpx] at hbf
      cases hbf
  · refine ⟨⟨fun h => absurd h (by decide), ?_⟩, hE⟩
    rintro ⟨x, hx, hpx⟩
    obtain ⟨k, hk⟩ := List.mem_iff_getElem?.1 hx
    refine absurd hpx (hall k ?_ x hk)
    have := (List.getElem?_eq_some_iff.1 hk).1
    have := h.1
    omega
theorem contains_links {w : World} {A : Option Addr} {n : Nat} (c : Nat) {xs : List Lnk} (h : Sl cLink w A n xs) (hn : Sm n) {f : FuncId} {cs : List Value} (hf : callable P f = true) (p : Lnk → Prop)
    (hp : ∀ x ∈ xs, ∀ w' B m c', Ext w w' → Calls P f ([linkVals x B m c'] ++ cs : List Value).toArray w' (Ret fun v w2 => ∃ b, v = .bool b ∧ (b = true ↔ p x) ∧ Ext w' w2)) :
    Calls P F.slices_ContainsFunc_sl_api_Link_api_Link #[.slice A n c, .func (.func f) #[] cs.toArray] w (Ret fun v w' => ∃ b, v = .bool b ∧ (b = true ↔ ∃ x ∈ xs, p x) ∧ Ext w w') := by
  refine ok_slices_ContainsFunc_sl_api_Link_api_Link A n c _ (fun b w' => (b = true ↔ ∃ x ∈ xs, p x) ∧ Ext w w') w ?_
  unfold vc_slices_ContainsFunc_sl_api_Link_api_Link
  refine (index_links c h hn hf p hp).mono ?_
  rintro _ w2 ⟨v, rfl, r, rfl, hr, hE⟩
  exact ⟨_, rfl, r, rfl, ⟨fun hd => hr.1 (of_decide_eq_true hd), fun hx => decide_eq_true (hr.2 hx)⟩, hE⟩

theorem follows_1_is {w : World} {x y : Int} {p : Addr} (hc : w.cell? p = some (.int .i64 y)) :
    Calls P F.euf_follows_1 #[.int .i64 x, .pointer (some p)] w (Ret fun v w2 => ∃ b, v = .bool b ∧ (b = true ↔ (x < 0 ∨ y ≤ x)) ∧ Ext w w2) := by
  refine ok_euf_follows_1 x p (fun b w' => (b = true ↔ (x < 0 ∨ y ≤ x)) ∧ Ext w w') w ?_
  unfold vc_euf_follows_1 vc_euf_follows_1_J1
  refine ⟨fun h => ⟨⟨fun _ => .inl h, fun _ => rfl⟩, Ext.refl w⟩, fun h => ⟨y, hc, ⟨fun hd => .inr (of_decide_eq_true hd), fun hd => decide_eq_true (by omega)⟩, Ext.refl w⟩⟩
theorem follows_3_is {w : World} {x l : Lnk} {B C : Option Addr} {m c k d : Nat} {p : Addr} (hc : CellsAt w p [.int .i64 l.kind, .int .i64 l.a, .int .i64 l.b, .int .i64 l.tag, .slice C k d]) :
    Calls P F.euf_follows_3 #[linkVals x B m c, .pointer (some p)] w (Ret fun v w2 => ∃ b, v = .bool b ∧ (b = true ↔ (x.kind = l.kind ∧ x.a = l.a ∧ x.b = l.b ∧ x.tag = l.tag)) ∧ Ext w w2) := by
  refine ok_euf_follows_3 _ _ _ _ _ _ _ p (fun b w' => (b = true ↔ (x.kind = l.kind ∧ x.a = l.a ∧ x.b = l.b ∧ x.tag = l.tag)) ∧ Ext w w') w ?_
  unfold vc_euf_follows_3 vc_euf_follows_3_J1
  intro q w1 hN
  have hE : Ext w w1 := Ext.of_new hN
  have hx := hN.cells rfl
  have hl := hE.cells hc
  refine ⟨_, hx 0 _ rfl, _, hl 0 _ rfl, fun h1 => ⟨_, hx 1 _ rfl, _, hl 1 _ rfl, fun h2 => ⟨_, hx 2 _ rfl, _, hl 2 _ rfl, fun h3 => ⟨_, hx 3 _ rfl, _, hl 3 _ rfl, ?_, hE⟩, fun h3 => ⟨?_, hE⟩⟩, fun h2 => ⟨?_, hE⟩⟩, fun h1 => ⟨?_, hE⟩⟩
  · exact ⟨fun hd => ⟨h1, h2, h3, of_decide_eq_true hd⟩, fun hd => decide_eq_true hd.2.2.2⟩
  · exact ⟨fun h => (by cases h), fun h => absurd h.2.2.1 h3⟩
  · exact ⟨fun h => (by cases h), fun h => absurd h.2.1 h2⟩
  · exact ⟨fun h => (by cases h), fun h => absurd h.1 h1⟩
theorem follows_2_is {w : World} {i x y k : Int} {p q : Addr} {A B : Option Addr} {n c m d : Nat} {links : List Lnk} {kids : List Int} {v1 v2 v3 v4 : Value} (hp : w.cell? p = some (.slice A n c)) (hq : CellsAt w q [v1, v2, v3, v4, .slice B m d])
    (hl : Sl cLink w A n links) (hk : Ints w B m kids) (h0 : 0 ≤ i) (hi : kids[i.toNat]? = some k) (k0 : 0 ≤ k) (k1 : k < n) :
    Quiet P F.euf_follows_2 #[.int .i64 i, .int .i64 x, .int .i64 y, .pointer (some p), .pointer (some q)] w (.bool (dec (kidIs links k x y))) := by
  have him : i < m := by
    have := (List.getElem?_eq_some_iff.1 hi).1
    have := hk.1
    omega
  obtain ⟨z, ad, hz, hB, hz2⟩ := hk.int h0 him
  rw [hi] at hz
  cases hz
  obtain ⟨u, ad', C, r, s, hu, hA, hcu, _, _⟩ := hl.link k0 k1
  refine Quiet.of ?_
  refine Ret.mono (ok_euf_follows_2 i x y p q (fun b w' => b = dec (kidIs links k x y) ∧ Drawn w w') w ?_) (by rintro v w' ⟨b, rfl, rfl, h⟩; exact ⟨rfl, h⟩)
  unfold vc_euf_follows_2 vc_euf_follows_2_J1
  refine ⟨A, n, c, hp, B, m, d, hq 4 _ rfl, h0, him, ad, hB, k, hz2, k0, k1, ad', hA, _, hcu 1 _ rfl, fun e1 => ⟨A, n, c, hp, B, m, d, hq 4 _ rfl, h0, him, ad, hB, k, hz2, k0, k1, ad', hA, _, hcu 2 _ rfl, fun w1 hw1 => ⟨?_, hw1⟩⟩, fun e1 w1 hw1 => ⟨?_, hw1⟩⟩
  · refine eq_dec ⟨fun hd => ⟨u, hu, e1, of_decide_eq_true hd⟩, ?_⟩
    rintro ⟨u', hu', _, h2⟩
    rw [hu] at hu'
    cases hu'
    exact decide_eq_true h2
  · refine eq_dec ⟨fun h => (by cases h), ?_⟩
    rintro ⟨u', hu', h1, _⟩
    rw [hu] at hu'
    cases hu'
    exact absurd h1 e1
end Go.Proofs.Ytnbakpoahcndpaa
