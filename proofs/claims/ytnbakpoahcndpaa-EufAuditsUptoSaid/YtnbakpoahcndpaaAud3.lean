/- euf.follows: just the links that follow. -/
import Derived.Test.YtnbakpoahcndpaaAud2
set_option linter.unusedVariables false
set_option linter.unusedSimpArgs false
namespace Go.Proofs.Ytnbakpoahcndpaa
open Wk
theorem rule1 {nodes : List Flat} {given links : List Lnk} {l : Lnk} (h : l.kind = 1) : Rule nodes given links l ↔ l.kids = [] ∧ ∃ g ∈ given, g.kind = 1 ∧ g.a = l.a ∧ g.b = l.b ∧ g.tag = l.tag := by
  refine ⟨fun hr => ?_, fun hr => .inl ⟨h, hr⟩⟩
  rcases hr with hr | ⟨_, hr | hr | hr | hr⟩
  · exact hr.2
  all_goals exact absurd hr.1 (by omega)
theorem rule_tag {nodes : List Flat} {given links : List Lnk} {l : Lnk} (h : l.kind ≠ 1) (ht : l.tag ≠ 0) : ¬ Rule nodes given links l := by
  intro hr
  rcases hr with hr | hr
  · exact h hr.1
  · exact ht hr.1
theorem rule2 {nodes : List Flat} {given links : List Lnk} {l : Lnk} (h : l.kind = 2) (ht : l.tag = 0) : Rule nodes given links l ↔ l.kids = [] ∧ l.a = l.b := by
  refine ⟨fun hr => ?_, fun hr => .inr ⟨ht, .inl ⟨h, hr⟩⟩⟩
  rcases hr with hr | ⟨_, hr | hr | hr | hr⟩
  · exact absurd hr.1 (by omega)
  · exact hr.2
  all_goals exact absurd hr.1 (by omega)
theorem rule3 {nodes : List Flat} {given links : List Lnk} {l : Lnk} (h : l.kind = 3) (ht : l.tag = 0) : Rule nodes given links l ↔ ∃ k, l.kids = [k] ∧ kidIs links k l.b l.a := by
  refine ⟨fun hr => ?_, fun hr => .inr ⟨ht, .inr (.inl ⟨h, hr⟩)⟩⟩
  rcases hr with hr | ⟨_, hr | hr | hr | hr⟩
  · exact absurd hr.1 (by omega)
  · exact absurd hr.1 (by omega)
  · exact hr.2
  all_goals exact absurd hr.1 (by omega)
theorem rule4 {nodes : List Flat} {given links : List Lnk} {l : Lnk} (h : l.kind = 4) (ht : l.tag = 0) : Rule nodes given links l ↔ ∃ k m, l.kids = [k, m] ∧ ∃ x, kidIs links k l.a x ∧ kidIs links m x l.b := by
  refine ⟨fun hr => ?_, fun hr => .inr ⟨ht, .inr (.inr (.inl ⟨h, hr⟩))⟩⟩
  rcases hr with hr | ⟨_, hr | hr | hr | hr⟩
  · exact absurd hr.1 (by omega)
  · exact absurd hr.1 (by omega)
  · exact absurd hr.1 (by omega)
  · exact hr.2
  · exact absurd hr.1 (by omega)
def Cong (links : List Lnk) (m n : Flat) (kids : List Int) : Prop :=
  0 ≤ m.fn ∧ m.fn = n.fn ∧ m.args.length = n.args.length ∧ kids.length = m.args.length ∧ ∀ (i : Nat) k x y, kids[i]? = some k → m.args[i]? = some x → n.args[i]? = some y → kidIs links k x y
theorem rule5 {nodes : List Flat} {given links : List Lnk} {l : Lnk} {m n : Flat} (h : l.kind = 5) (ht : l.tag = 0) (hm : nodes[l.a.toNat]? = some m) (hn : nodes[l.b.toNat]? = some n) : Rule nodes given links l ↔ Cong links m n l.kids := by
  refine ⟨fun hr => ?_, fun hr => .inr ⟨ht, .inr (.inr (.inr ⟨h, m, n, hm, hn, hr⟩))⟩⟩
  rcases hr with hr | ⟨_, hr | hr | hr | hr⟩
  · exact absurd hr.1 (by omega)
  · exact absurd hr.1 (by omega)
  · exact absurd hr.1 (by omega)
  · exact absurd hr.1 (by omega)
  · obtain ⟨_, m', n', hm', hn', hr⟩ := hr
    rw [hm] at hm'
    rw [hn] at hn'
    cases hm'
    cases hn'
    exact hr
theorem rule_else {nodes : List Flat} {given links : List Lnk} {l : Lnk} (h1 : l.kind ≠ 1) (h2 : l.kind ≠ 2) (h3 : l.kind ≠ 3) (h4 : l.kind ≠ 4) (h5 : l.kind ≠ 5) : ¬ Rule nodes given links l := by
  intro hr
  rcases hr with hr | ⟨_, hr | hr | hr | hr⟩
  · exact h1 hr.1
  · exact h2 hr.1
  · exact h3 hr.1
  · exact h4 hr.1
  · exact h5 hr.1
def Base (nodes : List Flat) (l : Lnk) (at_ : Int) : Prop := (0 ≤ l.a ∧ 0 ≤ l.b ∧ l.a < nodes.length ∧ l.b < nodes.length) ∧ ∀ k ∈ l.kids, 0 ≤ k ∧ k < at_
theorem fol_iff {nodes : List Flat} {given links : List Lnk} {l : Lnk} {at_ : Int} (h : links[at_.toNat]? = some l) : Fol nodes given links at_ ↔ Base nodes l at_ ∧ Rule nodes given links l := by
  refine ⟨?_, fun ⟨⟨⟨h1, h2, h3, h4⟩, h5⟩, h6⟩ => ⟨l, h, h1, h2, h3, h4, h5, h6⟩⟩
  rintro ⟨l', hl', h1, h2, h3, h4, h5, h6⟩
  rw [h] at hl'
  cases hl'
  exact ⟨⟨⟨h1, h2, h3, h4⟩, h5⟩, h6⟩
/-- What stands while follows runs. -/
structure FolCx (nodes : List Flat) (given links : List Lnk) (at_ : Int) (l : Lnk) (A1 A2 A3 B : Option Addr) (n1 n2 n3 m c3 c : Nat) (p1 p2 p3 : Addr) (w : World) : Prop where
  nd : Sl cFlat w A1 n1 nodes
  gv : Sl cLink w A2 n2 given
  ln : Sl cLink w A3 n3 links
  kd : Ints w B m l.kids
  c1 : w.cell? p1 = some (.slice A3 n3 c3)
  c2 : w.cell? p2 = some (.int .i64 at_)
  cl : CellsAt w p3 [.int .i64 l.kind, .int .i64 l.a, .int .i64 l.b, .int .i64 l.tag, .slice B m c]
  s1 : Sm n1
  s2 : Sm n2
  s3 : Sm n3
  sm : Sm m
  at0 : 0 ≤ at_
  at1 : at_ < n3
  is : links[at_.toNat]? = some l
section
variable {nodes : List Flat} {given links : List Lnk} {at_ : Int} {l : Lnk} {A1 A2 A3 B : Option Addr} {n1 n2 n3 m c3 c : Nat} {p1 p2 p3 : Addr} {w w' w0 : World}
theorem FolCx.ext (h : FolCx nodes given links at_ l A1 A2 A3 B n1 n2 n3 m c3 c p1 p2 p3 w) (k : Ext w w') : FolCx nodes given links at_ l A1 A2 A3 B n1 n2 n3 m c3 c p1 p2 p3 w' :=
  ⟨h.nd.ext k, h.gv.ext k, h.ln.ext k, h.kd.ext k, k.cell h.c1, k.cell h.c2, k.cells h.cl, h.s1, h.s2, h.s3, h.sm, h.at0, h.at1, h.is⟩
abbrev FolK (nodes : List Flat) (given links : List Lnk) (at_ : Int) (w0 : World) : Bool → World → Prop := fun b w' => (b = true ↔ Fol nodes given links at_) ∧ Ext w0 w'
theorem follows_J5_is (h : FolCx nodes given links at_ l A1 A2 A3 B n1 n2 n3 m c3 c p1 p2 p3 w) (hE : Ext w0 w) {p6 p7 : Addr} {x y : Flat} {C D : Option Addr} {r s d e : Nat} {b : Bool}
    (h6 : CellsAt w p6 [.int .i64 x.fn, .slice C r d]) (h7 : CellsAt w p7 [.int .i64 y.fn, .slice D s e]) (hC : Ints w C r x.args) (hD : Ints w D s y.args)
    (hx : nodes[l.a.toNat]? = some x) (hy : nodes[l.b.toNat]? = some y) (hk : l.kind = 5) (ht : l.tag = 0) (hB : Base nodes l at_)
    (hb : b = true ↔ ¬ (0 ≤ x.fn ∧ x.fn = y.fn ∧ x.args.length = y.args.length ∧ l.kids.length = x.args.length)) : vc_euf_follows_J5 (FolK nodes given links at_ w0) w p3 p6 p7 p1 b := by
  have hF : Fol nodes given links at_ ↔ Cong links x y l.kids := (fol_iff h.is).trans ⟨fun k => (rule5 hk ht hx hy).1 k.2, fun k => ⟨hB, (rule5 hk ht hx hy).2 k⟩⟩
  unfold vc_euf_follows_J5
  refine ⟨fun hbt => ⟨⟨fun k => (by cases k), fun k => ?_⟩, hE⟩, fun hbf => ?_⟩
  · have k := hF.1 k
    exact absurd ⟨k.1, k.2.1, k.2.2.1, k.2.2.2.1⟩ (hb.1 hbt)
  have hgood : 0 ≤ x.fn ∧ x.fn = y.fn ∧ x.args.length = y.args.length ∧ l.kids.length = x.args.length := by
    rcases Classical.em (0 ≤ x.fn ∧ x.fn = y.fn ∧ x.args.length = y.args.length ∧ l.kids.length = x.args.length) with k | k
    · exact k
    · rw [hb.2 k] at hbf; cases hbf
  obtain ⟨g1, g2, g3, g4⟩ := hgood
  have e1 := hC.1
  have e2 := hD.1
  have e3 := h.kd.1
  refine ⟨B, m, c, h.cl 4 _ rfl, fun q i w' => q = m - i.toNat ∧ 0 ≤ i ∧ i ≤ m ∧ (∀ (j : Nat), (j : Int) < i → ∀ k u v, l.kids[j]? = some k → x.args[j]? = some u → y.args[j]? = some v → kidIs links k u v) ∧ Ext w w', ⟨m, by omega, by omega, by omega, fun k hk => by omega, Ext.refl w⟩, ?_⟩
  rintro q i w1 ⟨rfl, h0, h1, hall, hE1⟩
  refine ⟨fun hlt => ?_, fun hge => ?_⟩
  · have h' := h.ext hE1
    obtain ⟨u, a8, hu, hA8, hcu⟩ := (hC.ext hE1).int h0 (by omega)
    obtain ⟨v, a9, hv, hA9, hcv⟩ := (hD.ext hE1).int h0 (by omega)
    obtain ⟨k, a10, hkk, _, _⟩ := h'.kd.int h0 hlt
    obtain ⟨k0, k1⟩ := hB.2 k (List.mem_of_getElem? hkk)
    have hat := h.at1
    refine ⟨C, r, d, hE1.cells h6 1 _ rfl, h0, by omega, a8, hA8, u, hcu, D, s, e, hE1.cells h7 1 _ rfl, h0, by omega, a9, hA9, v, hcv, dec (kidIs links k u v), fun w2 hw2 => ?_, fun w2 hw2 => ?_⟩
    · exact follows_2_is ((h'.ext (Ext.of_drawn hw2)).c1) ((h'.ext (Ext.of_drawn hw2)).cl) (h'.ext (Ext.of_drawn hw2)).ln (h'.ext (Ext.of_drawn hw2)).kd h0 hkk k0 (by omega)
    · have hE2 := hE1.drawn hw2
      refine ⟨fun hn => ⟨⟨fun k => (by cases k), fun hf => ?_⟩, hE.trans hE2⟩, fun hn => ?_⟩
      · have := (hF.1 hf).2.2.2.2 i.toNat k u v hkk hu hv
        rw [dec_iff.2 this] at hn
        cases hn
      · rw [step_le h0 hlt h.sm]
        refine ⟨m - (i + 1).toNat, by omega, rfl, by omega, by omega, fun j hj k' u' v' hk' hu' hv' => ?_, hE2⟩
        rcases Int.lt_or_eq_of_le (show (j : Int) ≤ i by omega) with hj | hj
        · exact hall j hj k' u' v' hk' hu' hv'
        · have ej : j = i.toNat := by omega
          subst ej
          rw [hkk] at hk'
          rw [hu] at hu'
          rw [hv] at hv'
          cases hk'; cases hu'; cases hv'
          refine dec_iff.1 ?_
          cases hd : dec (kidIs links k u v) with
          | true => rfl
          | false => rw [hd] at hn; cases hn
  · refine ⟨⟨fun _ => hF.2 ⟨g1, g2, g3, g4, fun j k u v hk' hu' hv' => hall j ?_ k u v hk' hu' hv'⟩, fun _ => rfl⟩, hE.trans hE1⟩
    have := (List.getElem?_eq_some_iff.1 hk').1
    omega
theorem follows_J6_is (h : FolCx nodes given links at_ l A1 A2 A3 B n1 n2 n3 m c3 c p1 p2 p3 w) (hE : Ext w0 w) {p6 p7 : Addr} {x y : Flat} {C D : Option Addr} {r s d e : Nat}
    (h6 : CellsAt w p6 [.int .i64 x.fn, .slice C r d]) (h7 : CellsAt w p7 [.int .i64 y.fn, .slice D s e]) (hC : Ints w C r x.args) (hD : Ints w D s y.args)
    (hx : nodes[l.a.toNat]? = some x) (hy : nodes[l.b.toNat]? = some y) (hk : l.kind = 5) (ht : l.tag = 0) (hB : Base nodes l at_) : vc_euf_follows_J6 (FolK nodes given links at_ w0) p3 p1 p6 p7 w := by
  unfold vc_euf_follows_J6
  have e1 := hC.1
  have e2 := hD.1
  have e3 := h.kd.1
  have key : ∀ b, (b = true ↔ ¬ (0 ≤ x.fn ∧ x.fn = y.fn ∧ x.args.length = y.args.length ∧ l.kids.length = x.args.length)) → vc_euf_follows_J5 (FolK nodes given links at_ w0) w p3 p6 p7 p1 b := fun b hb =>
    follows_J5_is h hE h6 h7 hC hD hx hy hk ht hB hb
  refine ⟨_, h6 0 _ rfl, fun hn => key true ⟨fun _ => by omega, fun _ => rfl⟩, fun hn => ⟨_, h6 0 _ rfl, _, h7 0 _ rfl, fun hne => key true ⟨fun _ => by omega, fun _ => rfl⟩, fun hne => ⟨_, _, _, h6 1 _ rfl, _, _, _, h7 1 _ rfl, fun hl => key true ⟨fun _ => by omega, fun _ => rfl⟩, fun hl => ⟨_, _, _, h.cl 4 _ rfl, _, _, _, h6 1 _ rfl, key _ ?_⟩⟩⟩⟩
  rw [decide_eq_true_iff]
  omega
theorem follows_J7_is (h : FolCx nodes given links at_ l A1 A2 A3 B n1 n2 n3 m c3 c p1 p2 p3 w) (hE : Ext w0 w) {c2 : Nat} {b : Bool}
    (hb : b = true ↔ ¬ (0 ≤ l.a ∧ 0 ≤ l.b ∧ l.a < nodes.length ∧ l.b < nodes.length)) : vc_euf_follows_J7 (FolK nodes given links at_ w0) w p3 p2 A2 n2 c2 p1 n1 A1 b := by
  have hF := fol_iff (nodes := nodes) (given := given) h.is
  unfold vc_euf_follows_J7
  refine ⟨fun hbt => ⟨⟨fun k => (by cases k), fun k => absurd (hF.1 k).1.1 (hb.1 hbt)⟩, hE⟩, fun hbf => ?_⟩
  have hgood : 0 ≤ l.a ∧ 0 ≤ l.b ∧ l.a < nodes.length ∧ l.b < nodes.length := by
    rcases Classical.em (0 ≤ l.a ∧ 0 ≤ l.b ∧ l.a < nodes.length ∧ l.b < nodes.length) with k | k
    · exact k
    · rw [hb.2 k] at hbf; cases hbf
  have e0 := h.nd.1
  have e3 := h.kd.1
  refine ⟨B, m, c, h.cl 4 _ rfl, ?_⟩
  refine (contains_ints c h.kd h.sm rfl (fun x => x < 0 ∨ at_ ≤ x) (fun x hx w' hw' => follows_1_is (hw'.cell h.c2))).mono ?_
  rintro _ w5 ⟨_, rfl, b3, rfl, hb3, hE5⟩
  have h := h.ext hE5
  replace hE := hE.trans hE5
  refine ⟨_, rfl, b3, rfl, fun hbt => ⟨⟨fun k => (by cases k), fun k => ?_⟩, hE⟩, fun hbf3 => ?_⟩
  · obtain ⟨k', hk', hbad⟩ := hb3.1 hbt
    have := (hF.1 k).1.2 k' hk'
    omega
  have hB : Base nodes l at_ := ⟨hgood, fun k hk => by
    rcases Classical.em (0 ≤ k ∧ k < at_) with hh | hh
    · exact hh
    · rw [hb3.2 ⟨k, hk, by omega⟩] at hbf3
      cases hbf3⟩
  have hF' : Fol nodes given links at_ ↔ Rule nodes given links l := hF.trans ⟨fun k => k.2, fun k => ⟨hB, k⟩⟩
  have hno : ¬ Rule nodes given links l → ∀ w', Ext w5 w' → FolK nodes given links at_ w0 false w' := fun hn w' hw' => ⟨⟨fun k => (by cases k), fun k => absurd (hF'.1 k) hn⟩, hE.trans hw'⟩
  have nil_iff : (m : Int) = 0 ↔ l.kids = [] := by rw [← List.length_eq_zero_iff]; omega
  refine ⟨_, h.cl 0 _ rfl, fun hk1 => ⟨B, m, c, h.cl 4 _ rfl, fun hm0 => ?_, fun hm0 => hno (fun k => hm0 (nil_iff.2 ((rule1 hk1).1 k).1)) _ (Ext.refl _)⟩, fun hk1 => ⟨_, h.cl 3 _ rfl, fun ht => hno (rule_tag hk1 ht) _ (Ext.refl _), fun ht => ?_⟩⟩
  · refine (contains_links c2 h.gv h.s2 rfl (fun g => g.kind = l.kind ∧ g.a = l.a ∧ g.b = l.b ∧ g.tag = l.tag) (fun g hg w' _ _ _ hw' => follows_3_is (hw'.cells h.cl))).mono ?_
    rintro _ w6 ⟨_, rfl, b4, rfl, hb4, hE6⟩
    refine ⟨_, rfl, b4, rfl, ?_⟩
    unfold vc_euf_follows_J1
    refine ⟨hb4.trans ⟨fun ⟨g, hg, h1, h2⟩ => hF'.2 ((rule1 hk1).2 ⟨nil_iff.1 hm0, g, hg, h1.trans hk1, h2⟩), fun k => ?_⟩, hE.trans hE6⟩
    obtain ⟨_, g, hg, h1, h2⟩ := (rule1 hk1).1 (hF'.1 k)
    exact ⟨g, hg, h1.trans hk1.symm, h2⟩
  have ht : l.tag = 0 := by omega
  have at1 := h.at1
  refine ⟨_, h.cl 0 _ rfl, fun hk2 => ⟨B, m, c, h.cl 4 _ rfl, fun hm0 => ⟨_, h.cl 1 _ rfl, _, h.cl 2 _ rfl, ?_⟩, fun hm0 => hno (fun k => hm0 (nil_iff.2 ((rule2 hk2 ht).1 k).1)) _ (Ext.refl _)⟩, fun hk2 => ⟨fun hk3 => ⟨B, m, c, h.cl 4 _ rfl, fun hm1 => ⟨_, h.cl 2 _ rfl, _, h.cl 1 _ rfl, ?_⟩, fun hm1 => hno (fun k => ?_) _ (Ext.refl _)⟩, fun hk3 => ⟨fun hk4 => ⟨B, m, c, h.cl 4 _ rfl, fun hm2 => ?_, fun hm2 w13 hw13 => hno (fun k => ?_) _ (Ext.of_drawn hw13)⟩, fun hk4 => ⟨fun hk5 => ?_, fun hk5 => hno (rule_else hk1 hk2 hk3 hk4 hk5) _ (Ext.refl _)⟩⟩⟩⟩
  · unfold vc_euf_follows_J2
    refine ⟨?_, hE⟩
    rw [decide_eq_true_iff, hF', rule2 hk2 ht]
    exact ⟨fun k => ⟨nil_iff.1 hm0, k⟩, fun k => k.2⟩
  · obtain ⟨k, hk⟩ := List.length_eq_one_iff.1 (show l.kids.length = 1 by omega)
    obtain ⟨k0, k1⟩ := hB.2 k (by rw [hk]; simp)
    refine (follows_2_is (y := l.a) h.c1 h.cl h.ln h.kd (by omega) (show l.kids[(0 : Int).toNat]? = some k by rw [hk]; rfl) k0 (by omega)).use ?_
    intro w8 hw8
    refine ⟨_, rfl, ?_⟩
    unfold vc_euf_follows_J3
    refine ⟨?_, hE.drawn hw8⟩
    rw [dec_iff, hF', rule3 hk3 ht]
    refine ⟨fun q => ⟨k, hk, q⟩, ?_⟩
    rintro ⟨k', hk', q⟩
    rw [hk] at hk'
    cases hk'
    exact q
  · obtain ⟨k', hk', _⟩ := (rule3 hk3 ht).1 k
    rw [hk'] at e3
    exact hm1 (by simp at e3; omega)
  · obtain ⟨k, k', hk⟩ := (show ∃ k k', l.kids = [k, k'] from by
      have : l.kids.length = 2 := by omega
      match hl : l.kids, this with
      | [k, k'], _ => exact ⟨k, k', rfl⟩)
    obtain ⟨k0, k1⟩ := hB.2 k (by rw [hk]; simp)
    obtain ⟨k0', k1'⟩ := hB.2 k' (by rw [hk]; simp)
    have hk0 : l.kids[(0 : Int).toNat]? = some k := by rw [hk]; rfl
    have hk1' : l.kids[(1 : Int).toNat]? = some k' := by rw [hk]; rfl
    obtain ⟨kk, a2, hkk, hB2, hck⟩ := h.kd.int (i := 0) (by omega) (by omega)
    rw [hk0] at hkk
    cases hkk
    obtain ⟨u, a3, C, r, d, hu, hA3, hcu, _, _⟩ := h.ln.link k0 (by omega)
    have hR : Rule nodes given links l ↔ kidIs links k l.a u.b ∧ kidIs links k' u.b l.b := by
      rw [rule4 hk4 ht]
      refine ⟨?_, fun q => ⟨k, k', hk, u.b, q⟩⟩
      rintro ⟨j, j', hj, x, ⟨q, hq, hqa, hqb⟩, hx2⟩
      rw [hk] at hj
      cases hj
      rw [hu] at hq
      cases hq
      subst hqb
      exact ⟨⟨u, hu, hqa, rfl⟩, hx2⟩
    refine ⟨_, h.cl 1 _ rfl, A3, n3, c3, h.c1, B, m, c, h.cl 4 _ rfl, by omega, by omega, a2, hB2, k, hck, k0, by omega, a3, hA3, _, hcu 2 _ rfl, dec (kidIs links k l.a u.b), fun w' hw' => ?_, fun hd => ?_, fun hd w12 hw12 => ?_⟩
    · have h := h.ext (Ext.of_drawn hw')
      exact follows_2_is h.c1 h.cl h.ln h.kd (by omega) hk0 k0 (by omega)
    · refine ⟨A3, n3, c3, h.c1, B, m, c, h.cl 4 _ rfl, by omega, by omega, a2, hB2, k, hck, k0, by omega, a3, hA3, _, hcu 2 _ rfl, _, h.cl 2 _ rfl, dec (kidIs links k' u.b l.b), fun w' hw' => ?_, fun w10 hw10 => ?_⟩
      · have h := h.ext (Ext.of_drawn hw')
        exact follows_2_is h.c1 h.cl h.ln h.kd (by omega) hk1' k0' (by omega)
      · unfold vc_euf_follows_J4
        refine ⟨?_, hE.drawn hw10⟩
        rw [dec_iff, hF', hR]
        exact ⟨fun q => ⟨dec_iff.1 hd, q⟩, fun q => q.2⟩
    · unfold vc_euf_follows_J4
      refine hno (fun q => ?_) _ (Ext.of_drawn hw12)
      rw [dec_iff.2 (hR.1 q).1] at hd
      cases hd
  · obtain ⟨k1, k2, hk', _⟩ := (rule4 hk4 ht).1 k
    rw [hk'] at e3
    exact hm2 (by simp at e3; omega)
  · obtain ⟨x, a6, C, r, d, hx, hA6, hcx, sr, hC⟩ := h.nd.flat hgood.1 (by omega)
    obtain ⟨y, a7, D, s, e, hy, hA7, hcy, ss, hD⟩ := h.nd.flat hgood.2.1 (by omega)
    have n0 : ∀ b, ¬ (fun _ : Nat => False) b := fun b k => k
    refine ⟨fun _ => False, _, h.cl 1 _ rfl, id, hgood.1, by omega, a6, hA6, _, C, r, d, hcx, id, _, h.cl 2 _ rfl, id, hgood.2.1, by omega, a7, hA7, _, D, s, e, hcy, id, ?_, ?_⟩
    · intro w23 hw23 p4 w14 hN4 w22 hw22 p5 w15 hN5 w21 hw21
      obtain ⟨E, s1, s2, hne, q1, q2⟩ := two_new hw23 hN4 hw22 hN5 hw21
      refine ⟨s1, fun w16 hw16 => ?_⟩
      refine ⟨E.set hw16 (.inl q1), fun w20 hw20 => ?_⟩
      obtain ⟨E', s3, hh⟩ := two_set (us := [.int .i64 x.fn, .slice C r d]) (vs := [.int .i64 y.fn, .slice D s e]) E s1 s2 hne q1 q2 hw16 hw20
      refine ⟨s3, fun w17 hw17 w18 hw18 => ?_⟩
      obtain ⟨E18, k1, k2⟩ := hh w17 hw17 w18 hw18
      exact follows_J6_is (h.ext E18) (hE.trans E18) k1 k2 (hC.ext E18) (hD.ext E18) hx hy hk5 ht hB
    · intro w32 hw32 p8 w24 hN8 w31 hw31 p9 w25 hN9 w30 hw30
      obtain ⟨E, s1, s2, hne, q1, q2⟩ := two_new hw32 hN8 hw31 hN9 hw30
      refine ⟨s2, fun w16 hw16 => ?_⟩
      refine ⟨E.set hw16 (.inl q2), fun w20 hw20 => ?_⟩
      obtain ⟨E', s3, hh⟩ := two_set (us := [.int .i64 x.fn, .slice C r d]) (vs := [.int .i64 y.fn, .slice D s e]) E s2 s1 hne.symm q2 q1 hw16 hw20
      refine ⟨s3, fun w17 hw17 w18 hw18 => ?_⟩
      obtain ⟨E18, k1, k2⟩ := hh w17 hw17 w18 hw18
      exact follows_J6_is (h.ext E18) (hE.trans E18) k1 k2 (hC.ext E18) (hD.ext E18) hx hy hk5 ht hB
theorem euf_follows_is {w : World} {nodes : List Flat} {given links : List Lnk} {A1 A2 A3 : Option Addr} {n1 n2 n3 : Nat} (c1 c2 c3 : Nat) {at_ : Int} (h1 : Sl cFlat w A1 n1 nodes) (h2 : Sl cLink w A2 n2 given) (h3 : Sl cLink w A3 n3 links)
    (s1 : Sm n1) (s2 : Sm n2) (s3 : Sm n3) (i0 : 0 ≤ at_) (i1 : at_ < n3) :
    Calls P F.euf_follows #[.slice A1 n1 c1, .slice A2 n2 c2, .slice A3 n3 c3, .int .i64 at_] w (Ret fun v w' => ∃ b, v = .bool b ∧ (b = true ↔ Fol nodes given links at_) ∧ Ext w w') := by
  refine ok_euf_follows A1 n1 c1 A2 n2 c2 A3 n3 c3 at_ (FolK nodes given links at_ w) w ?_
  unfold vc_euf_follows
  intro p1 w1 hN1 p2 w2 hN2
  have E2 : Ext w w2 := (Ext.of_new hN1).new hN2
  have hc1 : w2.cell? p1 = some (.slice A3 n3 c3) := (Ext.of_new hN2).cell (by simpa [Addr.add_zero] using hN1.cells rfl 0 _ rfl)
  have hc2 : w2.cell? p2 = some (.int .i64 at_) := by simpa [Addr.add_zero] using hN2.cells rfl 0 _ rfl
  obtain ⟨l, a1, B, m, c, hl, hA, hc, hsm, hk⟩ := (h3.ext E2).link i0 i1
  refine ⟨A3, n3, c3, hc1, at_, hc2, i0, i1, a1, hA, _, _, _, _, B, m, c, hc, fun p3 w3 hN3 => ⟨hN3.soft rfl, fun w4 hw4 => ?_⟩⟩
  have hN := hN3.store hw4 rfl
  have E4 : Ext w2 w4 := Ext.of_new hN
  have E := E2.trans E4
  have e0 := h1.1
  have cx : FolCx nodes given links at_ l A1 A2 A3 B n1 n2 n3 m c3 c p1 p2 p3 w4 := ⟨h1.ext E, h2.ext E, h3.ext E, hk.ext E4, E4.cell hc1, E4.cell hc2, hN.cells rfl, s1, s2, s3, hsm, i0, i1, hl⟩
  have key : ∀ b, (b = true ↔ ¬ (0 ≤ l.a ∧ 0 ≤ l.b ∧ l.a < nodes.length ∧ l.b < nodes.length)) → vc_euf_follows_J7 (FolK nodes given links at_ w) w4 p3 p2 A2 n2 c2 p1 n1 A1 b := fun b hb => follows_J7_is cx E hb
  refine ⟨_, cx.cl 1 _ rfl, fun q => key true ⟨fun _ => by omega, fun _ => rfl⟩, fun q => ⟨_, cx.cl 2 _ rfl, fun q2 => key true ⟨fun _ => by omega, fun _ => rfl⟩, fun q2 => ⟨_, cx.cl 1 _ rfl, fun q3 => key true ⟨fun _ => by omega, fun _ => rfl⟩, fun q3 => ⟨_, cx.cl 2 _ rfl, key _ ?_⟩⟩⟩⟩
  rw [decide_eq_true_iff]
  omega
end
end Go.Proofs.Ytnbakpoahcndpaa
