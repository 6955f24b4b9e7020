/- The document's own answer: which links follow, what Audit tells. -/
import Derived.Test.YtnbakpoahcndpaaAud4
import Derived.Test.YtnbakpoahcndpaaVcC
set_option linter.unusedVariables false
set_option linter.unusedSimpArgs false
namespace Go.Proofs.Ytnbakpoahcndpaa
open Wk
section
variable {w w0 : World} {nodes : List Flat} {given links : List Lnk} {A1 A2 A3 : Option Addr} {n1 n2 n3 : Nat}
theorem ref_given_is {A B : Option Addr} {n m c d : Nat} {gs : List Lnk} {x : Lnk} (h : Sl cLink w A n gs) (hn : Sm n) :
    Calls P F.arbiterref13_given #[.slice A n c, .agg #[.int .i64 x.kind, .int .i64 x.a, .int .i64 x.b, .int .i64 x.tag, .slice B m d]] w (Ret fun v w' => ∃ b, v = .bool b ∧ (b = true ↔ ∃ g ∈ gs, g.kind = 1 ∧ g.a = x.a ∧ g.b = x.b ∧ g.tag = x.tag) ∧ Ext w w') := by
  refine ok_arbiterref13_given A n c _ _ _ _ B m d (fun b w' => (b = true ↔ ∃ g ∈ gs, g.kind = 1 ∧ g.a = x.a ∧ g.b = x.b ∧ g.tag = x.tag) ∧ Ext w w') w ?_
  unfold vc_arbiterref13_given
  intro p w1 hN
  have E1 : Ext w w1 := Ext.of_new hN
  refine ⟨fun q i w2 => q = n - i.toNat ∧ 0 ≤ i ∧ i ≤ n ∧ (∀ k : Nat, (k : Int) < i → ∀ g, gs[k]? = some g → ¬ (g.kind = 1 ∧ g.a = x.a ∧ g.b = x.b ∧ g.tag = x.tag)) ∧ Ext w1 w2, ⟨n, by omega, by omega, by omega, fun k hk => by omega, Ext.refl _⟩, ?_⟩
  rintro q i w2 ⟨rfl, i0, i1, hall, E2⟩
  have e0 := h.1
  refine ⟨fun hlt => ?_, fun hge => ⟨⟨fun q => (by cases q), ?_⟩, E1.trans E2⟩⟩
  · obtain ⟨g, a, C, s, t, hg, hA, hc, _, _⟩ := (h.ext (E1.trans E2)).link i0 hlt
    have cx := E2.cells (hN.cells rfl)
    have J : ∀ b, (b = true ↔ (g.kind = 1 ∧ g.a = x.a ∧ g.b = x.b ∧ g.tag = x.tag)) → ∀ w3, Ext w1 w3 → vc_arbiterref13_given_J1 (fun b w' => (b = true ↔ ∃ g ∈ gs, g.kind = 1 ∧ g.a = x.a ∧ g.b = x.b ∧ g.tag = x.tag) ∧ Ext w w') (n - i.toNat) (fun q i w2 => q = n - i.toNat ∧ 0 ≤ i ∧ i ≤ n ∧ (∀ k : Nat, (k : Int) < i → ∀ g, gs[k]? = some g → ¬ (g.kind = 1 ∧ g.a = x.a ∧ g.b = x.b ∧ g.tag = x.tag)) ∧ Ext w1 w2) i b w3 := by
      intro b hb w3 E3
      refine ⟨fun hbt => ⟨⟨fun _ => ⟨g, List.mem_of_getElem? hg, hb.1 hbt⟩, fun _ => rfl⟩, E1.trans E3⟩, fun hbf => ?_⟩
      rw [step_le i0 hlt hn]
      refine ⟨n - (i + 1).toNat, by omega, rfl, by omega, by omega, fun k hk g' hg' => ?_, E3⟩
      rcases Int.lt_or_eq_of_le (show (k : Int) ≤ i by omega) with hk | hk
      · exact hall k hk g' hg'
      · rw [show k = i.toNat by omega, hg] at hg'
        cases hg'
        intro hh
        rw [hb.2 hh] at hbf
        cases hbf
    refine ⟨i0, hlt, a, hA, _, hc 0 _ rfl, fun k1 => ⟨i0, hlt, a, hA, _, hc 1 _ rfl, _, cx 1 _ rfl, fun k2 => ⟨i0, hlt, a, hA, _, hc 2 _ rfl, _, cx 2 _ rfl, fun k3 => ⟨i0, hlt, a, hA, _, hc 3 _ rfl, _, cx 3 _ rfl, fun w3 hw3 => J _ ?_ w3 (E2.drawn hw3)⟩, fun k3 w3 hw3 => J _ ?_ w3 (E2.drawn hw3)⟩, fun k2 w3 hw3 => J _ ?_ w3 (E2.drawn hw3)⟩, fun k1 w3 hw3 => J _ ?_ w3 (E2.drawn hw3)⟩
    · rw [decide_eq_true_iff]
      exact ⟨fun k4 => ⟨k1, k2, k3, k4⟩, fun k => k.2.2.2⟩
    · exact ⟨fun k => (by cases k), fun k => absurd k.2.2.1 k3⟩
    · exact ⟨fun k => (by cases k), fun k => absurd k.2.1 k2⟩
    · exact ⟨fun k => (by cases k), fun k => absurd k.1 k1⟩
  · rintro ⟨g, hg, hh⟩
    obtain ⟨k, hk⟩ := List.mem_iff_getElem?.1 hg
    have := (List.getElem?_eq_some_iff.1 hk).1
    exact absurd hh (hall k (by omega) g hk)
theorem ref_kid_is {A : Option Addr} {n c : Nat} {at_ k kk : Int} {l q : Lnk} (h : Sl cLink w A n links) (a0 : 0 ≤ at_) (hl : links[at_.toNat]? = some l) (k0 : 0 ≤ k) (hk : l.kids[k.toNat]? = some kk) (kk0 : 0 ≤ kk) (hq : links[kk.toNat]? = some q) :
    Calls P F.arbiterref13_kid #[.slice A n c, .int .i64 at_, .int .i64 k] w (Ret fun v w' => v = .tuple #[.int .i64 q.a, .int .i64 q.b] ∧ Drawn w w') := by
  refine Ret.mono (ok_arbiterref13_kid A n c at_ k (fun a b w' => a = q.a ∧ b = q.b ∧ Drawn w w') w ?_) (by rintro _ _ ⟨a, b, rfl, rfl, rfl, h⟩; exact ⟨rfl, h⟩)
  have e0 := h.1
  have l1 := (List.getElem?_eq_some_iff.1 hl).1
  have l2 := (List.getElem?_eq_some_iff.1 hq).1
  obtain ⟨l', a1, B, m, d, hl', hA, hc, _, hki⟩ := h.link a0 (by omega)
  rw [hl] at hl'
  cases hl'
  have l3 := (List.getElem?_eq_some_iff.1 hk).1
  have e1 := hki.1
  obtain ⟨kk', a2, hk', hB, hck⟩ := hki.int k0 (by omega)
  rw [hk] at hk'
  cases hk'
  obtain ⟨q', a3, C, s, t, hq', hA3, hc3, _, _⟩ := h.link kk0 (by omega)
  rw [hq] at hq'
  cases hq'
  exact ⟨a0, by omega, a1, hA, B, m, d, hc 4 _ rfl, k0, by omega, a2, hB, kk, hck, kk0, by omega, a3, hA3, _, hc3 1 _ rfl, a0, by omega, a1, hA, B, m, d, hc 4 _ rfl, k0, by omega, a2, hB, kk, hck, kk0, by omega, a3, hA3, _, hc3 2 _ rfl, fun w1 hw1 => ⟨rfl, rfl, hw1⟩⟩
theorem ref_Alike_is {A B : Option Addr} {n m c d : Nat} {x y : Int} :
    Calls P F.arbiterref13_Alike #[.agg #[.int .i64 x, .slice A n c], .agg #[.int .i64 y, .slice B m d]] w (Ret fun v w' => ∃ b, v = .bool b ∧ (b = true ↔ 0 ≤ x ∧ x = y ∧ n = m) ∧ Ext w w') := by
  refine ok_arbiterref13_Alike x A n c y B m d (fun b w' => (b = true ↔ 0 ≤ x ∧ x = y ∧ n = m) ∧ Ext w w') w ?_
  intro p1 w1 hN1 p2 w2 hN2
  have E2 : Ext w w2 := (Ext.of_new hN1).new hN2
  have c1 := (Ext.of_new hN2).cells (hN1.cells rfl)
  have c2 := hN2.cells rfl
  refine ⟨_, c1 0 _ rfl, fun k1 => ⟨_, c1 0 _ rfl, _, c2 0 _ rfl, fun k2 => ⟨_, _, _, c1 1 _ rfl, _, _, _, c2 1 _ rfl, ?_, E2⟩, fun k2 => ⟨⟨fun k => (by cases k), fun k => absurd k.2.1 k2⟩, E2⟩⟩, fun k1 => ⟨⟨fun k => (by cases k), fun k => absurd k.1 k1⟩, E2⟩⟩
  rw [decide_eq_true_iff]
  omega
theorem ref_congruence_is {c1 c3 : Nat} {at_ : Int} {l : Lnk} {m n : Flat} (h1 : Sl cFlat w A1 n1 nodes) (h3 : Sl cLink w A3 n3 links) (s3 : Sm n3) (a0 : 0 ≤ at_) (a1 : at_ < n3) (hl : links[at_.toNat]? = some l) (la0 : 0 ≤ l.a) (lb0 : 0 ≤ l.b)
    (hm : nodes[l.a.toNat]? = some m) (hn : nodes[l.b.toNat]? = some n) (hkid : ∀ k ∈ l.kids, 0 ≤ k ∧ k < at_) :
    Calls P F.arbiterref13_congruence #[.slice A1 n1 c1, .slice A3 n3 c3, .int .i64 at_] w (Ret fun v w' => ∃ b, v = .bool b ∧ (b = true ↔ Cong links m n l.kids) ∧ Ext w w') := by
  refine ok_arbiterref13_congruence A1 n1 c1 A3 n3 c3 at_ (fun b w' => (b = true ↔ Cong links m n l.kids) ∧ Ext w w') w ?_
  have e1 := h1.1
  have e3 := h3.1
  have l1 := (List.getElem?_eq_some_iff.1 hm).1
  have l2 := (List.getElem?_eq_some_iff.1 hn).1
  obtain ⟨l', b1, B, k, d, hl', hA3, hc, hsk, hki⟩ := h3.link a0 a1
  rw [hl] at hl'
  cases hl'
  unfold vc_arbiterref13_congruence
  refine ⟨a0, a1, b1, hA3, _, _, _, _, B, k, d, hc, fun p1 w1 hN1 => ⟨hN1.soft rfl, fun w2 hw2 => ?_⟩⟩
  have hN2 := hN1.store hw2 rfl
  have E2 : Ext w w2 := Ext.of_new hN2
  have cl := hN2.cells rfl
  obtain ⟨m', b2, C, r, s, hm', hA1, hcm, hsr, him⟩ := (h1.ext E2).flat la0 (by omega)
  rw [hm] at hm'
  cases hm'
  refine ⟨_, cl 1 _ rfl, la0, by omega, b2, hA1, _, C, r, s, hcm, fun p2 w3 hN3 => ⟨hN3.soft rfl, fun w4 hw4 => ?_⟩⟩
  have hN4 := hN3.store hw4 rfl
  have E24 : Ext w2 w4 := Ext.of_new hN4
  have cm := hN4.cells rfl
  obtain ⟨n', b3, D, t, u, hn', hA1', hcn, hst, hin⟩ := (h1.ext (E2.trans E24)).flat lb0 (by omega)
  rw [hn] at hn'
  cases hn'
  refine ⟨_, E24.cells cl 2 _ rfl, lb0, by omega, b3, hA1', _, D, t, u, hcn, fun p3 w5 hN5 => ⟨hN5.soft rfl, fun w6 hw6 => ?_⟩⟩
  have hN6 := hN5.store hw6 rfl
  have E46 : Ext w4 w6 := Ext.of_new hN6
  have cn := hN6.cells rfl
  refine ⟨_, C, r, s, E46.cells cm, _, D, t, u, cn, ref_Alike_is.mono ?_⟩
  rintro _ w7 ⟨_, rfl, b, rfl, hb, E67⟩
  have E27 : Ext w2 w7 := (E24.trans E46).trans E67
  have E7 : Ext w w7 := E2.trans E27
  have cl7 := E27.cells cl
  have E47 : Ext w4 w7 := E46.trans E67
  have cm7 := E47.cells cm
  have cn7 := E67.cells cn
  have em := him.1
  have en := hin.1
  have ek := hki.1
  have J : ∀ b, (b = true ↔ ¬ (0 ≤ m.fn ∧ m.fn = n.fn ∧ r = t ∧ k = r)) → vc_arbiterref13_congruence_J2 (fun b w' => (b = true ↔ Cong links m n l.kids) ∧ Ext w w') p1 A3 n3 c3 at_ p2 p3 b w7 := by
    intro b hb
    refine ⟨fun hbt => ⟨⟨fun q => (by cases q), fun q => absurd ⟨q.1, q.2.1, by have := q.2.2.1; omega, by have := q.2.2.2.1; omega⟩ (hb.1 hbt)⟩, E7⟩, fun hbf => ?_⟩
    have hgood : 0 ≤ m.fn ∧ m.fn = n.fn ∧ r = t ∧ k = r := by
      rcases Classical.em (0 ≤ m.fn ∧ m.fn = n.fn ∧ r = t ∧ k = r) with q | q
      · exact q
      · rw [hb.2 q] at hbf; cases hbf
    obtain ⟨g1, g2, rfl, rfl⟩ := hgood
    refine ⟨fun q i w9 => q = k - i.toNat ∧ 0 ≤ i ∧ i ≤ k ∧ (∀ (j : Nat), (j : Int) < i → ∀ z u v, l.kids[j]? = some z → m.args[j]? = some u → n.args[j]? = some v → kidIs links z u v) ∧ Ext w7 w9, ⟨k, by omega, by omega, by omega, fun j hj => by omega, Ext.refl _⟩, ?_⟩
    rintro q i w9 ⟨rfl, i0, i1, hall, E9⟩
    refine ⟨B, k, d, E9.cells cl7 4 _ rfl, fun hlt => ?_, fun hge => ⟨⟨fun _ => ⟨g1, g2, by omega, by omega, fun j z u v hz hu hv => hall j ?_ z u v hz hu hv⟩, fun _ => rfl⟩, E7.trans E9⟩⟩
    · obtain ⟨z, _, hz, _, _⟩ := hki.int i0 hlt
      obtain ⟨z0, z1⟩ := hkid z (List.mem_of_getElem? hz)
      obtain ⟨qq, hqq⟩ : ∃ qq, links[z.toNat]? = some qq := ⟨_, List.getElem?_eq_getElem (by omega)⟩
      refine (ref_kid_is (h3.ext (E7.trans E9)) a0 hl i0 hz z0 hqq).mono ?_
      rintro _ w10 ⟨_, rfl, rfl, hw10⟩
      have E10 : Ext w7 w10 := E9.drawn hw10
      obtain ⟨x, a4, hx, hC, hcx⟩ := (him.ext (E27.trans E10)).int i0 (by omega)
      obtain ⟨y, a5, hy, hD, hcy⟩ := (hin.ext (((E46.trans E67).trans E10))).int i0 (by omega)
      have hkI : kidIs links z x y ↔ qq.a = x ∧ qq.b = y := by
        refine ⟨?_, fun hh => ⟨qq, hqq, hh.1, hh.2⟩⟩
        rintro ⟨q', hq', h1, h2⟩
        rw [hqq] at hq'
        cases hq'
        exact ⟨h1, h2⟩
      have no : ¬ (qq.a = x ∧ qq.b = y) → ∀ w', Ext w7 w' → ((false = true ↔ Cong links m n l.kids) ∧ Ext w w') := fun hn' w' hw' =>
        ⟨⟨fun q => (by cases q), fun q => absurd (hkI.1 (q.2.2.2.2 i.toNat z x y hz hx hy)) hn'⟩, E7.trans hw'⟩
      refine ⟨_, rfl, _, _, rfl, C, k, s, E10.cells cm7 1 _ rfl, i0, by omega, a4, hC, x, hcx, fun hne => ⟨fun _ => no (fun q => hne q.1) _ E10, fun q => (by cases q)⟩, fun heq => ⟨D, k, u, E10.cells cn7 1 _ rfl, i0, by omega, a5, hD, y, hcy, fun hne => no (fun q => of_decide_eq_true hne q.2) _ E10, fun heq2 => ?_⟩⟩
      have h1 : qq.a = x := Decidable.not_not.1 heq
      have h2 : qq.b = y := Decidable.not_not.1 (of_decide_eq_false heq2)
      rw [step_le i0 hlt hsk]
      refine ⟨k - (i + 1).toNat, by omega, rfl, by omega, by omega, fun j hj z' u' v' hz' hu' hv' => ?_, E10⟩
      rcases Int.lt_or_eq_of_le (show (j : Int) ≤ i by omega) with hj | hj
      · exact hall j hj z' u' v' hz' hu' hv'
      · have ej : j = i.toNat := by omega
        subst ej
        rw [hz] at hz'
        rw [hx] at hu'
        rw [hy] at hv'
        cases hz'; cases hu'; cases hv'
        exact hkI.2 ⟨h1, h2⟩
    · have := (List.getElem?_eq_some_iff.1 hz).1
      omega
  refine ⟨_, rfl, b, rfl, fun hn => J true ⟨fun _ hh => ?_, fun _ => rfl⟩, fun hn => ⟨B, k, d, cl7 4 _ rfl, C, r, s, cm7 1 _ rfl, J _ ?_⟩⟩
  · have : b = true := hb.2 ⟨hh.1, hh.2.1, hh.2.2.1⟩
    rw [this] at hn
    cases hn
  · have hbt : b = true := by cases b <;> simp at hn ⊢
    obtain ⟨q1, q2, q3⟩ := hb.1 hbt
    rw [decide_eq_true_iff]
    omega
theorem ref_Follows_is {c1 c2 c3 : Nat} {at_ : Int} (h1 : Sl cFlat w A1 n1 nodes) (h2 : Sl cLink w A2 n2 given) (h3 : Sl cLink w A3 n3 links) (s1 : Sm n1) (s2 : Sm n2) (s3 : Sm n3) (i0 : 0 ≤ at_) (i1 : at_ < n3) :
    Calls P F.arbiterref13_Follows #[.slice A1 n1 c1, .slice A2 n2 c2, .slice A3 n3 c3, .int .i64 at_] w (Ret fun v w' => ∃ b, v = .bool b ∧ (b = true ↔ Fol nodes given links at_) ∧ Ext w w') := by
  refine ok_arbiterref13_Follows A1 n1 c1 A2 n2 c2 A3 n3 c3 at_ (FolK nodes given links at_ w) w ?_
  obtain ⟨l, b1, B, m, d, hl, hA3, hc, hsm, hk⟩ := h3.link i0 i1
  have hF := fol_iff (nodes := nodes) (given := given) hl
  have e1 := h1.1
  have e3 := h3.1
  unfold vc_arbiterref13_Follows
  refine ⟨i0, i1, b1, hA3, _, _, _, _, B, m, d, hc, fun p1 w1 hN1 => ⟨hN1.soft rfl, fun w2 hw2 => ?_⟩⟩
  have hN2 := hN1.store hw2 rfl
  have E2 : Ext w w2 := Ext.of_new hN2
  have cl := hN2.cells rfl
  have hk2 := hk.ext E2
  have ek := hk.1
  have J6 : ∀ b, (b = true ↔ ¬ (0 ≤ l.a ∧ 0 ≤ l.b ∧ l.a < nodes.length ∧ l.b < nodes.length)) → vc_arbiterref13_Follows_J6 (FolK nodes given links at_ w) w2 p1 at_ A2 n2 c2 A3 n3 c3 A1 n1 c1 b := by
    intro b hb
    refine ⟨fun hbt => ⟨⟨fun k => (by cases k), fun k => absurd (hF.1 k).1.1 (hb.1 hbt)⟩, E2⟩, fun hbf => ?_⟩
    have hgood : 0 ≤ l.a ∧ 0 ≤ l.b ∧ l.a < nodes.length ∧ l.b < nodes.length := by
      rcases Classical.em (0 ≤ l.a ∧ 0 ≤ l.b ∧ l.a < nodes.length ∧ l.b < nodes.length) with k | k
      · exact k
      · rw [hb.2 k] at hbf; cases hbf
    refine ⟨fun q i => q = m - i.toNat ∧ 0 ≤ i ∧ i ≤ m ∧ ∀ j : Nat, (j : Int) < i → ∀ z, l.kids[j]? = some z → 0 ≤ z ∧ z < at_, ⟨m, by omega, by omega, by omega, fun j hj => by omega⟩, ?_⟩
    rintro q i ⟨rfl, j0, j1, hall⟩
    refine ⟨B, m, d, cl 4 _ rfl, fun hlt => ?_, fun hge => ?_⟩
    · obtain ⟨z, a2, hz, hB, hcz⟩ := hk2.int j0 hlt
      have J1 : ∀ b, (b = true ↔ ¬ (0 ≤ z ∧ z < at_)) → vc_arbiterref13_Follows_J1 (FolK nodes given links at_ w) w2 (m - i.toNat) (fun q i => q = m - i.toNat ∧ 0 ≤ i ∧ i ≤ m ∧ ∀ j : Nat, (j : Int) < i → ∀ z, l.kids[j]? = some z → 0 ≤ z ∧ z < at_) i b := by
        intro b hb
        refine ⟨fun hbt => ⟨⟨fun k => (by cases k), fun k => absurd ((hF.1 k).1.2 z (List.mem_of_getElem? hz)) (hb.1 hbt)⟩, E2⟩, fun hbf => ?_⟩
        have hz' : 0 ≤ z ∧ z < at_ := by
          rcases Classical.em (0 ≤ z ∧ z < at_) with k | k
          · exact k
          · rw [hb.2 k] at hbf; cases hbf
        rw [step_le j0 hlt hsm]
        refine ⟨m - (i + 1).toNat, by omega, rfl, by omega, by omega, fun j hj z' hz'' => ?_⟩
        rcases Int.lt_or_eq_of_le (show (j : Int) ≤ i by omega) with hj | hj
        · exact hall j hj z' hz''
        · rw [show j = i.toNat by omega, hz] at hz''
          cases hz''
          exact hz'
      refine ⟨B, m, d, cl 4 _ rfl, j0, hlt, a2, hB, z, hcz, fun q => J1 true ⟨fun _ => by omega, fun _ => rfl⟩, fun q => ⟨B, m, d, cl 4 _ rfl, j0, hlt, a2, hB, z, hcz, J1 _ ?_⟩⟩
      rw [decide_eq_true_iff]
      omega
    have hB : Base nodes l at_ := ⟨hgood, fun z hz => by
      obtain ⟨j, hj⟩ := List.mem_iff_getElem?.1 hz
      have := (List.getElem?_eq_some_iff.1 hj).1
      exact hall j (by omega) z hj⟩
    have hF' : Fol nodes given links at_ ↔ Rule nodes given links l := hF.trans ⟨fun k => k.2, fun k => ⟨hB, k⟩⟩
    have hno : ¬ Rule nodes given links l → ∀ w', Ext w2 w' → FolK nodes given links at_ w false w' := fun hn w' hw' => ⟨⟨fun k => (by cases k), fun k => absurd (hF'.1 k) hn⟩, E2.trans hw'⟩
    have nil_iff : (m : Int) = 0 ↔ l.kids = [] := by rw [← List.length_eq_zero_iff]; omega
    refine ⟨_, cl 0 _ rfl, fun hk1 => ⟨B, m, d, cl 4 _ rfl, fun hm0 => ⟨_, _, _, _, B, m, d, cl, ?_⟩, fun hm0 => hno (fun k => hm0 (nil_iff.2 ((rule1 hk1).1 k).1)) _ (Ext.refl _)⟩, fun hk1 => ⟨_, cl 3 _ rfl, fun ht => hno (rule_tag hk1 ht) _ (Ext.refl _), fun ht => ?_⟩⟩
    · refine (ref_given_is (h2.ext E2) s2).mono ?_
      rintro _ w3 ⟨_, rfl, b4, rfl, hb4, E3⟩
      refine ⟨_, rfl, b4, rfl, ?_, E2.trans E3⟩
      rw [hb4, hF', rule1 hk1]
      exact ⟨fun k => ⟨nil_iff.1 hm0, k⟩, fun k => k.2⟩
    have ht : l.tag = 0 := by omega
    refine ⟨_, cl 0 _ rfl, fun hk2' => ⟨B, m, d, cl 4 _ rfl, fun hm0 => ⟨_, cl 1 _ rfl, _, cl 2 _ rfl, ?_⟩, fun hm0 => hno (fun k => hm0 (nil_iff.2 ((rule2 hk2' ht).1 k).1)) _ (Ext.refl _)⟩, fun hk2' => ⟨fun hk3 => ⟨B, m, d, cl 4 _ rfl, fun hm1 => hno (fun k => ?_) _ (Ext.refl _), fun hm1 => ?_⟩, fun hk3 => ⟨fun hk4 => ⟨B, m, d, cl 4 _ rfl, fun hm2 => hno (fun k => ?_) _ (Ext.refl _), fun hm2 => ?_⟩, fun hk4 => ⟨fun hk5 => ?_, fun hk5 => hno (rule_else hk1 hk2' hk3 hk4 hk5) _ (Ext.refl _)⟩⟩⟩⟩
    · unfold vc_arbiterref13_Follows_J3
      refine ⟨?_, E2⟩
      rw [decide_eq_true_iff, hF', rule2 hk2' ht]
      exact ⟨fun k => ⟨nil_iff.1 hm0, k⟩, fun k => k.2⟩
    · obtain ⟨k', hk', _⟩ := (rule3 hk3 ht).1 k
      rw [hk'] at ek
      exact hm1 (by simp at ek; omega)
    · obtain ⟨k, hkk⟩ := List.length_eq_one_iff.1 (show l.kids.length = 1 by omega)
      obtain ⟨k0, k1⟩ := hB.2 k (by rw [hkk]; simp)
      obtain ⟨q, hq⟩ : ∃ q, links[k.toNat]? = some q := ⟨_, List.getElem?_eq_getElem (by omega)⟩
      refine (ref_kid_is (h3.ext E2) i0 hl (k := 0) (by omega) (show l.kids[(0 : Int).toNat]? = some k by rw [hkk]; rfl) k0 hq).mono ?_
      rintro _ w5 ⟨_, rfl, rfl, hw5⟩
      have c5 := (Ext.of_drawn hw5).cells cl
      have hR : Rule nodes given links l ↔ q.a = l.b ∧ q.b = l.a := by
        rw [rule3 hk3 ht]
        refine ⟨?_, fun hh => ⟨k, hkk, q, hq, hh.1, hh.2⟩⟩
        rintro ⟨k', hk', q', hq', hh⟩
        rw [hkk] at hk'
        cases hk'
        rw [hq] at hq'
        cases hq'
        exact hh
      refine ⟨_, rfl, _, _, rfl, _, c5 2 _ rfl, fun e => ⟨_, c5 1 _ rfl, ?_, E2.drawn hw5⟩, fun e => hno (fun hh => e (hR.1 hh).1) _ (Ext.of_drawn hw5)⟩
      rw [decide_eq_true_iff, hF', hR]
      exact ⟨fun k => ⟨e, k⟩, fun k => k.2⟩
    · obtain ⟨k1, k2, hk', _⟩ := (rule4 hk4 ht).1 k
      rw [hk'] at ek
      exact hm2 (by simp at ek; omega)
    · obtain ⟨k, k', hkk⟩ := (show ∃ k k', l.kids = [k, k'] from by
        have : l.kids.length = 2 := by omega
        match hl : l.kids, this with
        | [k, k'], _ => exact ⟨k, k', rfl⟩)
      obtain ⟨k0, k1⟩ := hB.2 k (by rw [hkk]; simp)
      obtain ⟨k0', k1'⟩ := hB.2 k' (by rw [hkk]; simp)
      obtain ⟨q, hq⟩ : ∃ q, links[k.toNat]? = some q := ⟨_, List.getElem?_eq_getElem (by omega)⟩
      obtain ⟨q', hq'⟩ : ∃ q, links[k'.toNat]? = some q := ⟨_, List.getElem?_eq_getElem (by omega)⟩
      refine (ref_kid_is (h3.ext E2) i0 hl (k := 0) (by omega) (show l.kids[(0 : Int).toNat]? = some k by rw [hkk]; rfl) k0 hq).mono ?_
      rintro _ w6 ⟨_, rfl, rfl, hw6⟩
      refine ⟨_, rfl, _, _, rfl, (ref_kid_is (h3.ext (E2.drawn hw6)) i0 hl (k := 1) (by omega) (show l.kids[(1 : Int).toNat]? = some k' by rw [hkk]; rfl) k0' hq').mono ?_⟩
      rintro _ w7 ⟨_, rfl, rfl, hw7⟩
      have E27 : Ext w2 w7 := (Ext.of_drawn hw6).drawn hw7
      have c7 := E27.cells cl
      have hR : Rule nodes given links l ↔ q.a = l.a ∧ q.b = q'.a ∧ q'.b = l.b := by
        rw [rule4 hk4 ht]
        refine ⟨?_, fun hh => ⟨k, k', hkk, q.b, ⟨q, hq, hh.1, rfl⟩, ⟨q', hq', hh.2.1.symm, hh.2.2⟩⟩⟩
        rintro ⟨j, j', hj, x, ⟨r, hr, h1, h2⟩, ⟨r', hr', h3, h4⟩⟩
        rw [hkk] at hj
        cases hj
        rw [hq] at hr
        rw [hq'] at hr'
        cases hr; cases hr'
        exact ⟨h1, by rw [h2, h3], h4⟩
      refine ⟨_, rfl, _, _, rfl, _, c7 1 _ rfl, fun e => ⟨fun e' => ⟨_, c7 2 _ rfl, ?_, E2.trans E27⟩, fun e' => hno (fun hh => e' (hR.1 hh).2.1) _ E27⟩, fun e => hno (fun hh => e (hR.1 hh).1) _ E27⟩
      rw [decide_eq_true_iff, hF', hR]
      exact ⟨fun k => ⟨e, e', k⟩, fun k => k.2.2⟩
    · obtain ⟨x, hx⟩ : ∃ x, nodes[l.a.toNat]? = some x := ⟨_, List.getElem?_eq_getElem (by omega)⟩
      obtain ⟨y, hy⟩ : ∃ y, nodes[l.b.toNat]? = some y := ⟨_, List.getElem?_eq_getElem (by omega)⟩
      refine (ref_congruence_is (h1.ext E2) (h3.ext E2) s3 i0 i1 hl hgood.1 hgood.2.1 hx hy hB.2).mono ?_
      rintro _ w8 ⟨_, rfl, b, rfl, hb, E8⟩
      exact ⟨_, rfl, b, rfl, by rw [hb, hF', rule5 hk5 ht hx hy], E2.trans E8⟩
  refine ⟨_, cl 1 _ rfl, fun q => J6 true ⟨fun _ => by omega, fun _ => rfl⟩, fun q => ⟨_, cl 1 _ rfl, fun q2 => J6 true ⟨fun _ => by omega, fun _ => rfl⟩, fun q2 => ⟨_, cl 2 _ rfl, fun q3 => J6 true ⟨fun _ => by omega, fun _ => rfl⟩, fun q3 => ⟨_, cl 2 _ rfl, J6 _ ?_⟩⟩⟩⟩
  rw [decide_eq_true_iff]
  omega
theorem ref_Sound_is {A : Option Addr} {n c : Nat} {fs : List Flat} (h : Sl cFlat w A n fs) (hn : Sm n) :
    Calls P F.arbiterref13_Sound #[.slice A n c] w (Ret fun v w' => ∃ b, v = .bool b ∧ (b = true ↔ Sound fs) ∧ w' = w) := by
  refine ok_arbiterref13_Sound A n c (fun b w' => (b = true ↔ Sound fs) ∧ w' = w) w ?_
  unfold vc_arbiterref13_Sound
  refine ⟨fun m i => m = n - i.toNat ∧ 0 ≤ i ∧ i ≤ n ∧ (∀ (k : Nat), (k : Int) < i → ∀ x, fs[k]? = some x → ∀ (j : Nat) a, x.args[j]? = some a → 0 ≤ a ∧ a < (k : Int)), ⟨n, by omega, by omega, by omega, fun k hk => by omega⟩, ?_⟩
  rintro m i ⟨rfl, h0, h1, hall⟩
  refine ⟨fun hlt => ?_, fun hge => ?_⟩
  · obtain ⟨x, ad, B, k, cc, hx, hA, hc, hk, hr⟩ := h.flat h0 hlt
    have c1 := hc 1 _ rfl
    refine ⟨h0, hlt, ad, hA, B, k, cc, c1, fun m j => m = k - j.toNat ∧ 0 ≤ j ∧ j ≤ k ∧ ∀ (q : Nat), (q : Int) < j → ∀ a, x.args[q]? = some a → 0 ≤ a ∧ a < i, ⟨k, by omega, by omega, by omega, fun q hq => by omega⟩, ?_⟩
    rintro m j ⟨rfl, j0, j1, jall⟩
    refine ⟨fun jlt => ?_, fun jge => ?_⟩
    · obtain ⟨y, ad', hy, hB, hcell⟩ := hr.int j0 jlt
      refine ⟨j0, jlt, ad', hB, y, hcell, ?_⟩
      have key : ∀ b : Bool, (b = true ↔ ¬ (0 ≤ y ∧ y < i)) → vc_arbiterref13_Sound_J1 (fun b w' => (b = true ↔ Sound fs) ∧ w' = w) w (k - j.toNat) (fun m j => m = k - j.toNat ∧ 0 ≤ j ∧ j ≤ k ∧ ∀ (q : Nat), (q : Int) < j → ∀ a, x.args[q]? = some a → 0 ≤ a ∧ a < i) j b := by
        intro b hb
        refine ⟨fun hbt => ⟨?_, rfl⟩, fun hbf => ?_⟩
        · refine ⟨fun h => (by cases h), fun hs => ?_⟩
          have := hs i.toNat x hx j.toNat y hy
          rw [show ((i.toNat : Nat) : Int) = i by omega] at this
          exact absurd this (hb.1 hbt)
        · have hb' : 0 ≤ y ∧ y < i := by
            rcases Classical.em (0 ≤ y ∧ y < i) with h | h
            · exact h
            · rw [hb.2 h] at hbf; cases hbf
          rw [step_le j0 jlt hk]
          refine ⟨k - (j + 1).toNat, by omega, rfl, by omega, by omega, fun q hq a ha => ?_⟩
          rcases Int.lt_or_eq_of_le (show (q : Int) ≤ j by omega) with hq | hq
          · exact jall q hq a ha
          · rw [show q = j.toNat by omega, hy] at ha
            cases ha
            exact hb'
      refine ⟨fun hneg => key true ⟨fun _ => by omega, fun _ => rfl⟩, fun hneg => ⟨j0, jlt, ad', hB, y, hcell, key _ ⟨fun hd => by have := of_decide_eq_true hd; omega, fun hd => decide_eq_true (by omega)⟩⟩⟩
    · rw [step_le h0 hlt hn]
      refine ⟨n - (i + 1).toNat, by omega, rfl, by omega, by omega, fun q hq z hz j' a ha => ?_⟩
      rcases Int.lt_or_eq_of_le (show (q : Int) ≤ i by omega) with hq | hq
      · exact hall q hq z hz j' a ha
      · rw [show q = i.toNat by omega, hx] at hz
        cases hz
        rw [hq]
        refine jall j' ?_ a ha
        have := (List.getElem?_eq_some_iff.1 ha).1
        have := hr.1
        omega
  · refine ⟨⟨fun _ => fun k x hx j a ha => ?_, fun _ => rfl⟩, rfl⟩
    refine hall k ?_ x hx j a ha
    have := (List.getElem?_eq_some_iff.1 hx).1
    have := h.1
    omega
theorem ref_Audit_is (c1 c2 c3 : Nat) (h1 : Sl cFlat w A1 n1 nodes) (h2 : Sl cLink w A2 n2 given) (h3 : Sl cLink w A3 n3 links) (s1 : Sm n1) (s2 : Sm n2) (s3 : Sm n3) :
    Calls P F.arbiterref13_Audit #[.slice A1 n1 c1, .slice A2 n2 c2, .slice A3 n3 c3] w (Ret fun v w' => ∃ r e : Int, v = .tuple #[.int .i64 r, .int .i64 e] ∧ AuditIs nodes given links r e ∧ Ext w w') := by
  refine ok_arbiterref13_Audit A1 n1 c1 A2 n2 c2 A3 n3 c3 (fun r e w' => AuditIs nodes given links r e ∧ Ext w w') w ?_
  unfold vc_arbiterref13_Audit
  refine (ref_Sound_is h1 s1).mono ?_
  rintro _ w1 ⟨_, rfl, b, rfl, hb, rfl⟩
  refine ⟨_, rfl, b, rfl, fun hn => ⟨.inl ⟨fun hs => ?_, rfl, rfl⟩, Ext.refl _⟩, fun hn => ?_⟩
  · rw [hb.2 hs] at hn; cases hn
  have hs : Sound nodes := hb.1 (by cases b <;> simp at hn ⊢)
  have e3 := h3.1
  refine ⟨fun m i w' => m = n3 - i.toNat ∧ 0 ≤ i ∧ i ≤ n3 ∧ (∀ k : Nat, (k : Int) < i → Fol nodes given links k) ∧ Ext w1 w', ⟨n3, by omega, by omega, by omega, fun k hk => by omega, Ext.refl _⟩, ?_⟩
  rintro m i w2 ⟨rfl, i0, i1, hall, E2⟩
  refine ⟨fun hlt => ?_, fun hge => ⟨.inr ⟨hs, rfl, .inl ⟨rfl, fun k hk => hall k (by omega)⟩⟩, E2⟩⟩
  refine (ref_Follows_is (h1.ext E2) (h2.ext E2) (h3.ext E2) s1 s2 s3 i0 hlt).mono ?_
  rintro _ w3 ⟨_, rfl, b2, rfl, hb2, E3⟩
  refine ⟨_, rfl, b2, rfl, fun hn => ⟨.inr ⟨hs, rfl, .inr ⟨i0, by omega, fun hf => ?_, hall⟩⟩, E2.trans E3⟩, fun hn => ?_⟩
  · rw [hb2.2 hf] at hn; cases hn
  · have hf := hb2.1 (by cases b2 <;> simp at hn ⊢)
    rw [step_le i0 hlt s3]
    refine ⟨n3 - (i + 1).toNat, by omega, rfl, by omega, by omega, fun k hk => ?_, E2.trans E3⟩
    rcases Int.lt_or_eq_of_le (show (k : Int) ≤ i by omega) with hk | hk
    · exact hall k hk
    · rw [hk]; exact hf
theorem AuditIs.same {r e r' e' : Int} (h : AuditIs nodes given links r e) (k : AuditIs nodes given links r' e') : r = r' ∧ e = e' := by
  rcases h with ⟨h1, rfl, rfl⟩ | ⟨h1, rfl, h2⟩ <;> rcases k with ⟨k1, rfl, rfl⟩ | ⟨k1, rfl, k2⟩
  · exact ⟨rfl, rfl⟩
  · exact absurd k1 h1
  · exact absurd h1 k1
  · refine ⟨?_, rfl⟩
    rcases h2 with ⟨rfl, h2⟩ | ⟨h0, h1, h2, h3⟩ <;> rcases k2 with ⟨rfl, k2⟩ | ⟨k0, k1, k2, k3⟩
    · rfl
    · exact absurd (show Fol nodes given links r' by have := h2 r'.toNat (by omega); rwa [show ((r'.toNat : Nat) : Int) = r' by omega] at this) k2
    · exact absurd (show Fol nodes given links r by have := k2 r.toNat (by omega); rwa [show ((r.toNat : Nat) : Int) = r by omega] at this) h2
    · rcases Int.lt_trichotomy r r' with q | q | q
      · exact absurd (show Fol nodes given links r by have := k3 r.toNat (by omega); rwa [show ((r.toNat : Nat) : Int) = r by omega] at this) h2
      · exact q
      · exact absurd (show Fol nodes given links r' by have := h3 r'.toNat (by omega); rwa [show ((r'.toNat : Nat) : Int) = r' by omega] at this) k2
end
end Go.Proofs.Ytnbakpoahcndpaa
