/- The law EufSound answers true. -/
import Derived.Test.YtnbakpoahcndpaaAud4
import Derived.Test.YtnbakpoahcndpaaVcB
set_option linter.unusedVariables false
set_option linter.unusedSimpArgs false
namespace Go.Proofs.Ytnbakpoahcndpaa
open Wk
/-! ### The plain law: what follows is true wherever the given ones are -/
def InR (nodes : List Flat) (l : Lnk) : Prop := 0 ≤ l.a ∧ 0 ≤ l.b ∧ l.a < nodes.length ∧ l.b < nodes.length
theorem true_links {f : Int → List Int → Int} {nodes : List Flat} {given links : List Lnk} {ws : List Int} (hl : ws.length = nodes.length) (hW : Worths f nodes ws)
    (hg : ∀ g ∈ given, g.kind = 1 → InR nodes g → valOf ws g.a = valOf ws g.b) :
    ∀ (n k : Nat), k < n → (∀ i : Nat, i ≤ k → Fol nodes given links i) → ∀ l, links[k]? = some l → InR nodes l ∧ valOf ws l.a = valOf ws l.b
  | 0, k, hk, _, _, _ => absurd hk (Nat.not_lt_zero k)
  | n + 1, k, hk, hF, l, hlk => by
    obtain ⟨l', hl', a0, b0, a1, b1, hkid, hR⟩ := hF k (Nat.le_refl k)
    rw [show ((k : Int)).toNat = k by omega, hlk] at hl'
    cases hl'
    have hin : InR nodes l := ⟨a0, b0, a1, b1⟩
    have kid : ∀ j ∈ l.kids, ∀ x y, kidIs links j x y → valOf ws x = valOf ws y := by
      rintro j hj x y ⟨q, hq, rfl, rfl⟩
      have hj2 := hkid j hj
      exact (true_links hl hW hg n j.toNat (by omega) (fun i hi => hF i (by omega)) q hq).2
    refine ⟨hin, ?_⟩
    rcases hR with ⟨_, _, g, hgm, g1, ga, gb, _⟩ | ⟨_, ⟨_, _, h⟩ | ⟨_, j, hj, hx⟩ | ⟨_, i, j, hj, x, hx, hy⟩ | ⟨_, m, n', hm, hn, hf, hfn, hlen, hlk2, hall⟩⟩
    · rw [← ga, ← gb]
      refine hg g hgm g1 ?_
      unfold InR
      rw [ga, gb]
      exact hin
    · rw [h]
    · exact (kid j (by rw [hj]; simp) _ _ hx).symm
    · exact (kid i (by rw [hj]; simp) _ _ hx).trans (kid j (by rw [hj]; simp) _ _ hy)
    · have e1 := hW l.a.toNat m (by omega) hm hf
      have e2 := hW l.b.toNat n' (by omega) hn (by omega)
      rw [show ((l.a.toNat : Nat) : Int) = l.a by omega] at e1
      rw [show ((l.b.toNat : Nat) : Int) = l.b by omega] at e2
      rw [e1, e2, hfn]
      congr 1
      apply List.ext_getElem?
      intro i
      simp only [List.getElem?_map]
      cases hxi : m.args[i]? with
      | none =>
        have := List.getElem?_eq_none_iff.1 hxi
        rw [List.getElem?_eq_none_iff.2 (by omega)]
      | some x =>
        have hi := (List.getElem?_eq_some_iff.1 hxi).1
        obtain ⟨y, hyi⟩ : ∃ y, n'.args[i]? = some y := ⟨_, List.getElem?_eq_getElem (by omega)⟩
        obtain ⟨j, hji⟩ : ∃ j, l.kids[i]? = some j := ⟨_, List.getElem?_eq_getElem (by omega)⟩
        rw [hyi]
        simp only [Option.map_some]
        rw [kid j (List.mem_of_getElem? hji) x y (hall i j x y hji hxi hyi)]
section
variable {w0 : World} {nodes : List Flat} {given links : List Lnk} {table : List Int} {A1 A2 A3 A4 A5 : Option Addr} {n1 n2 n3 n4 c1 c2 c3 c4 : Nat}
/-- What stands all along. -/
structure EsCx (w0 : World) (nodes : List Flat) (given links : List Lnk) (table : List Int) (A1 A2 A3 A4 : Option Addr) (n1 n2 n3 n4 : Nat) (w : World) : Prop where
  nd : Sl cFlat w A1 n1 nodes
  gv : Sl cLink w A2 n2 given
  ln : Sl cLink w A3 n3 links
  tb : Ints w A4 n4 table
  s1 : Sm n1
  s2 : Sm n2
  s3 : Sm n3
  s4 : Sm n4
  from_ : Ext w0 w
theorem EsCx.ext {w w' : World} (h : EsCx w0 nodes given links table A1 A2 A3 A4 n1 n2 n3 n4 w) (k : Ext w w') : EsCx w0 nodes given links table A1 A2 A3 A4 n1 n2 n3 n4 w' :=
  ⟨h.nd.ext k, h.gv.ext k, h.ln.ext k, h.tb.ext k, h.s1, h.s2, h.s3, h.s4, h.from_.trans k⟩
abbrev EsK (w0 : World) : Bool → World → Prop := fun b w' => b = true ∧ Ext w0 w'
theorem J6_is {w : World} {ws : List Int} {f : Int → List Int → Int} {r up : Int} (h : EsCx w0 nodes given links table A1 A2 A3 A4 n1 n2 n3 n4 w) (h5 : Ints w A5 n1 ws) (hW : Worths f nodes ws)
    (hg : ∀ g ∈ given, g.kind = 1 → InR nodes g → valOf ws g.a = valOf ws g.b)
    (hr : (r = -1 ∧ ∀ i : Nat, i < links.length → Fol nodes given links i) ∨ (0 ≤ r ∧ r < links.length ∧ ¬ Fol nodes given links r ∧ ∀ i : Nat, (i : Int) < r → Fol nodes given links i))
    (hup : (r = -1 ∧ up = n3) ∨ (r ≠ -1 ∧ up = r)) : vc_arbiterlaw13_EufSound_J6 w n3 A3 (EsK w0) n1 n1 A5 r up := by
  have e1 := h.nd.1
  have e3 := h.ln.1
  have s3 := h.s3
  have hup2 : 0 ≤ up ∧ up ≤ n3 ∧ ∀ i : Nat, (i : Int) < up → Fol nodes given links i := by
    rcases hr with ⟨rfl, hall⟩ | ⟨r0, r1, _, hall⟩
    · rcases hup with ⟨_, rfl⟩ | ⟨hn, _⟩
      · exact ⟨by omega, by omega, fun i hi => hall i (by omega)⟩
      · exact absurd rfl hn
    · rcases hup with ⟨rfl, _⟩ | ⟨_, rfl⟩
      · omega
      · exact ⟨r0, by omega, hall⟩
  obtain ⟨u0, u1, uF⟩ := hup2
  unfold vc_arbiterlaw13_EufSound_J6
  refine ⟨fun m i w' => m = n3 - i.toNat ∧ 0 ≤ i ∧ i ≤ up ∧ Ext w w', ⟨n3, by omega, by omega, by omega, Ext.refl w⟩, ?_⟩
  rintro m i w1 ⟨rfl, i0, i1, E1⟩
  have h' := h.ext E1
  refine ⟨fun hlt => ?_, fun hge => ?_⟩
  · obtain ⟨l, a, B, k, c, hl, hA, hc, _, _⟩ := h'.ln.link i0 (by omega)
    obtain ⟨⟨la0, lb0, la1, lb1⟩, hv⟩ := true_links (by rw [h5.1, e1]) hW hg (i.toNat + 1) i.toNat (by omega) (fun j hj => uF j (by omega)) l hl
    refine ⟨i0, by omega, a, hA, _, _, _, _, B, k, c, hc, fun p w2 hN => ⟨hN.soft rfl, fun w3 hw3 => ?_⟩⟩
    have hN3 := hN.store hw3 rfl
    have E3 : Ext w w3 := E1.new hN3
    have hc3 := hN3.cells rfl
    obtain ⟨u, a11, hu, hA5, hcu⟩ := (h5.ext E3).int la0 (by omega)
    obtain ⟨v, a12, hv', hA5', hcv⟩ := (h5.ext E3).int lb0 (by omega)
    rw [valOf_at hu, valOf_at hv'] at hv
    subst hv
    refine ⟨_, hc3 1 _ rfl, fun q => absurd q (by omega), fun _ => ⟨_, hc3 2 _ rfl, fun q => absurd q (by omega), fun _ => ⟨_, hc3 1 _ rfl, fun q => absurd q (by omega), fun _ => ⟨_, hc3 2 _ rfl, fun q => absurd q (by omega), fun _ =>
      ⟨_, hc3 1 _ rfl, la0, by omega, a11, hA5, u, hcu, _, hc3 2 _ rfl, lb0, by omega, a12, hA5', u, hcv, fun w30 hw30 => ⟨fun q => absurd (of_decide_eq_true q) (fun k => k rfl), fun _ => ?_⟩⟩⟩⟩⟩⟩
    rw [step_le i0 (by omega) s3]
    exact ⟨n3 - (i + 1).toNat, by omega, rfl, by omega, by omega, E3.drawn hw30⟩
  · have fin : ∀ b w', b = true → Drawn w1 w' → vc_arbiterlaw13_EufSound_J5 (EsK w0) b w' := fun b w' hb hd => ⟨hb, h'.from_.drawn hd⟩
    refine ⟨fun _ w' hd => fin _ _ rfl hd, fun hne => ?_⟩
    obtain ⟨r0, r1, hnF, _⟩ : 0 ≤ r ∧ r < links.length ∧ ¬ Fol nodes given links r ∧ ∀ i : Nat, (i : Int) < r → Fol nodes given links i := by
      rcases hr with ⟨hr, _⟩ | hr
      · exact absurd hr hne
      · exact hr
    obtain ⟨l, a, B, k, c, hl, hA, hc, _, hkd⟩ := h'.ln.link r0 (by omega)
    refine ⟨r0, by omega, a, hA, _, hc 0 _ rfl, fun _ w' hd => fin _ _ rfl hd, fun k2 => ⟨r0, by omega, a, hA, _, hc 1 _ rfl, r0, by omega, a, hA, _, hc 2 _ rfl, fun _ w' hd => fin _ _ rfl hd, fun kab => ⟨r0, by omega, a, hA, _, hc 1 _ rfl, fun _ w' hd => fin _ _ rfl hd, fun ka => ⟨r0, by omega, a, hA, _, hc 1 _ rfl, fun _ w' hd => fin _ _ rfl hd, fun kb =>
      ⟨r0, by omega, a, hA, _, _, _, hc 4 _ rfl, fun _ w' hd => fin _ _ rfl hd, fun kk => ⟨r0, by omega, a, hA, _, hc 3 _ rfl, fun w' hd => fin _ _ (decide_eq_true fun kt => hnF ?_) hd⟩⟩⟩⟩⟩⟩
    have k2' : l.kind = 2 := by omega
    have kab' : l.a = l.b := by omega
    have hnil : l.kids = [] := List.length_eq_zero_iff.1 (by have := hkd.1; omega)
    refine (fol_iff hl).2 ⟨⟨⟨by omega, by omega, by omega, by omega⟩, by rw [hnil]; simp⟩, (rule2 k2' kt).2 ⟨hnil, kab'⟩⟩
theorem J7_is {w : World} {r s : Int} (h : EsCx w0 nodes given links table A1 A2 A3 A4 n1 n2 n3 n4 w) (hs : Sound nodes) (z1 : 1 ≤ s)
    (hr : (r = -1 ∧ ∀ i : Nat, i < links.length → Fol nodes given links i) ∨ (0 ≤ r ∧ r < links.length ∧ ¬ Fol nodes given links r ∧ ∀ i : Nat, (i : Int) < r → Fol nodes given links i)) :
    vc_arbiterlaw13_EufSound_J7 A1 n1 c1 A4 n4 c4 w n2 A2 (EsK w0) r n3 A3 s := by
  have e1 := h.nd.1
  have e2 := h.gv.1
  have m0 := Int.tmod_nonneg 8 (show 0 ≤ s by omega)
  have m1 := Int.tmod_lt_of_pos s (show (0 : Int) < 8 by decide)
  unfold vc_arbiterlaw13_EufSound_J7
  rw [wrap_small (by omega) (by omega)]
  refine (law_worth_is c1 c4 h.nd h.tb h.s1 h.s4 hs (show 1 ≤ 1 + Int.tmod s 8 by omega) (by omega)).mono ?_
  rintro _ w1 ⟨_, rfl, A5, c5, ws, rfl, h5, hW, E1⟩
  refine ⟨_, rfl, A5, n1, c5, rfl, ?_⟩
  have h1 := h.ext E1
  refine ⟨fun m i w' => m = n2 - i.toNat ∧ 0 ≤ i ∧ i ≤ n2 ∧ Ext w1 w' ∧ ∀ k : Nat, (k : Int) < i → ∀ g, given[k]? = some g → g.kind = 1 → InR nodes g → valOf ws g.a = valOf ws g.b, ⟨n2, by omega, by omega, by omega, Ext.refl w1, fun k hk => by omega⟩, ?_⟩
  rintro m i w2 ⟨rfl, i0, i1, E2, hall⟩
  have h2 := h1.ext E2
  refine ⟨fun hlt => ?_, fun hge => ?_⟩
  · obtain ⟨g, a, B, k, c, hg, hA, hc, _, _⟩ := h2.gv.link i0 hlt
    have next : (g.kind = 1 → InR nodes g → valOf ws g.a = valOf ws g.b) → ∀ w', Drawn w2 w' → vc_arbiterlaw13_EufSound_J2 (EsK w0) (n2 - i.toNat) (fun m i w' => m = n2 - i.toNat ∧ 0 ≤ i ∧ i ≤ n2 ∧ Ext w1 w' ∧ ∀ k : Nat, (k : Int) < i → ∀ g, given[k]? = some g → g.kind = 1 → InR nodes g → valOf ws g.a = valOf ws g.b) i false w' := by
      intro hh w' hw'
      refine ⟨fun q => (by cases q), fun _ => ?_⟩
      rw [step_le i0 hlt h.s2]
      refine ⟨n2 - (i + 1).toNat, by omega, rfl, by omega, by omega, E2.drawn hw', fun k hk g' hg' => ?_⟩
      rcases Int.lt_or_eq_of_le (show (k : Int) ≤ i by omega) with hk | hk
      · exact hall k hk g' hg'
      · rw [show k = i.toNat by omega, hg] at hg'
        cases hg'
        exact hh
    have J3 : ∀ b, (b = true ↔ InR nodes g) → vc_arbiterlaw13_EufSound_J3 i n2 A2 w2 n1 A5 (EsK w0) (n2 - i.toNat) (fun m i w' => m = n2 - i.toNat ∧ 0 ≤ i ∧ i ≤ n2 ∧ Ext w1 w' ∧ ∀ k : Nat, (k : Int) < i → ∀ g, given[k]? = some g → g.kind = 1 → InR nodes g → valOf ws g.a = valOf ws g.b) b := by
      intro b hb
      refine ⟨i0, hlt, a, hA, _, hc 0 _ rfl, fun hk1 => ⟨fun hbt => ?_, fun hbf w' hw' => next (fun _ hi => ?_) w' hw'⟩, fun hk1 w' hw' => next (fun q => absurd q hk1) w' hw'⟩
      · obtain ⟨a0, b0, a1, b1⟩ := hb.1 hbt
        obtain ⟨u, a7, hu, hA5, hcu⟩ := (h5.ext E2).int a0 (by omega)
        obtain ⟨v, a9, hv, hA5', hcv⟩ := (h5.ext E2).int b0 (by omega)
        refine ⟨i0, hlt, a, hA, _, hc 1 _ rfl, a0, by omega, a7, hA5, u, hcu, i0, hlt, a, hA, _, hc 2 _ rfl, b0, by omega, a9, hA5', v, hcv, fun w' hw' => ?_⟩
        rcases Classical.em (u = v) with huv | huv
        · rw [decide_eq_false (fun k => k huv)]
          exact next (fun _ _ => by rw [valOf_at hu, valOf_at hv, huv]) w' hw'
        · exact ⟨fun _ => ⟨rfl, h2.from_.drawn hw'⟩, fun q => absurd (decide_eq_true huv) (by rw [q]; decide)⟩
      · rw [hb.2 hi] at hbf
        cases hbf
    refine ⟨i0, hlt, a, hA, _, hc 1 _ rfl, fun q1 => ⟨i0, hlt, a, hA, _, hc 2 _ rfl, fun q2 => ⟨i0, hlt, a, hA, _, hc 1 _ rfl, fun q3 => ⟨i0, hlt, a, hA, _, hc 2 _ rfl, J3 _ ?_⟩, fun q3 => J3 false ⟨fun q => (by cases q), fun ⟨k1, k2, k3, k4⟩ => ?_⟩⟩, fun q2 => J3 false ⟨fun q => (by cases q), fun ⟨k1, k2, k3, k4⟩ => ?_⟩⟩, fun q1 => J3 false ⟨fun q => (by cases q), fun ⟨k1, k2, k3, k4⟩ => ?_⟩⟩
    · rw [decide_eq_true_iff]
      unfold InR
      omega
    all_goals omega
  · have hg : ∀ g ∈ given, g.kind = 1 → InR nodes g → valOf ws g.a = valOf ws g.b := by
      intro g hg
      obtain ⟨k, hk⟩ := List.mem_iff_getElem?.1 hg
      have := (List.getElem?_eq_some_iff.1 hk).1
      exact hall k (by omega) g hk
    refine ⟨fun hr1 => J6_is h2 (h5.ext E2) hW hg hr (.inl ⟨hr1, rfl⟩), fun hr1 => J6_is h2 (h5.ext E2) hW hg hr (.inr ⟨hr1, rfl⟩)⟩
theorem J9_is {w : World} {s : Int} (h : EsCx w0 nodes given links table A1 A2 A3 A4 n1 n2 n3 n4 w) : vc_arbiterlaw13_EufSound_J9 (EsK w0) A1 n1 c1 A2 n2 c2 A3 n3 c3 s A4 n4 c4 false w := by
  refine ⟨fun q => (by cases q), fun _ => ?_⟩
  have e3 := h.ln.1
  refine (euf_Audit_is c1 c2 c3 h.nd h.gv h.ln h.s1 h.s2 h.s3).mono ?_
  rintro _ w1 ⟨_, rfl, r, e, rfl, hA, E1⟩
  have h1 := h.ext E1
  refine ⟨_, rfl, r, e, rfl, (law_sound_is c1 h1.nd h1.s1).mono ?_⟩
  rintro _ w2 ⟨_, rfl, b, rfl, hb, rfl⟩
  refine ⟨_, rfl, b, rfl, fun hn => ?_, fun hn => ?_⟩
  · have hns : ¬ Sound nodes := fun q => by rw [hb.2 q] at hn; cases hn
    rcases hA with ⟨_, rfl, rfl⟩ | ⟨q, _⟩
    · refine ⟨fun _ => (law_no_is 80).mono ?_, fun q => absurd rfl q⟩
      rintro _ w3 ⟨_, rfl, rfl, rfl⟩
      exact ⟨_, rfl, 80, rfl, decide_eq_true rfl, h1.from_⟩
    · exact absurd q hns
  · have hs : Sound nodes := hb.1 (by cases b <;> simp at hn ⊢)
    rcases hA with ⟨q, _⟩ | ⟨_, rfl, hr⟩
    · exact absurd hs q
    refine (law_no_is 0).mono ?_
    rintro _ w3 ⟨_, rfl, rfl, rfl⟩
    have J8 : vc_arbiterlaw13_EufSound_J8 (EsK w0) s A1 n1 c1 A4 n4 c4 n2 A2 r n3 A3 false w3 :=
      ⟨fun q => (by cases q), fun _ => ⟨fun _ => J7_is h1 hs (by decide) hr, fun q => J7_is h1 hs (by omega) hr⟩⟩
    refine ⟨_, rfl, 0, rfl, fun q => absurd rfl q, fun _ => ⟨fun q => ?_, fun _ => ?_⟩⟩
    · omega
    · rw [decide_eq_false (by omega)]
      exact J8
theorem Sl.one_flat {w : World} {p : Addr} {T : TypeId} {w' : World} (h : New w (.cells #[.int .i64 0, .slice none 0 0] T) p w') : Sl cFlat w' (some p) 1 [⟨0, []⟩] := by
  refine ⟨rfl, fun i x hx => ?_⟩
  cases i with
  | zero =>
    simp at hx
    subst hx
    exact ⟨p, _, rfl, rfl, by simpa [Addr.add_zero] using h.cells rfl, none, 0, 0, rfl, by decide, Sl.nil _ _ _⟩
  | succ i => simp at hx
theorem Sl.one_link {w : World} {p : Addr} {T : TypeId} {w' : World} {k a b t : Int} (h : New w (.cells #[.int .i64 k, .int .i64 a, .int .i64 b, .int .i64 t, .slice none 0 0] T) p w') : Sl cLink w' (some p) 1 [⟨k, a, b, t, []⟩] := by
  refine ⟨rfl, fun i x hx => ?_⟩
  cases i with
  | zero =>
    simp at hx
    subst hx
    exact ⟨p, _, rfl, rfl, by simpa [Addr.add_zero] using h.cells rfl, none, 0, 0, rfl, by decide, Sl.nil _ _ _⟩
  | succ i => simp at hx
theorem one_sound : Sound [⟨0, []⟩] := by
  intro i x hx j a ha
  cases i with
  | zero => simp at hx; subst hx; simp at ha
  | succ i => simp at hx
theorem audit_self {r e : Int} (h : AuditIs [⟨0, []⟩] [] [⟨2, 0, 0, 0, []⟩] r e) : r = -1 ∧ e = 0 := by
  rcases h with ⟨h, _⟩ | ⟨_, rfl, ⟨rfl, _⟩ | ⟨r0, r1, hn, _⟩⟩
  · exact absurd one_sound h
  · exact ⟨rfl, rfl⟩
  · simp at r1
    have : r = 0 := by omega
    subst this
    refine absurd ?_ hn
    exact ⟨⟨2, 0, 0, 0, []⟩, rfl, by simp, by simp, by simp, by simp, by simp, .inr ⟨rfl, .inl ⟨rfl, rfl, rfl⟩⟩⟩
theorem audit_bad {r e : Int} (h : AuditIs [⟨0, []⟩] [] [⟨1, 0, 0, 1, []⟩] r e) : r = 0 ∧ e = 0 := by
  rcases h with ⟨h, _⟩ | ⟨_, rfl, ⟨rfl, hF⟩ | ⟨r0, r1, hn, _⟩⟩
  · exact absurd one_sound h
  · obtain ⟨l, hl, _, _, _, _, _, hR⟩ := hF 0 (by simp)
    simp at hl
    subst hl
    obtain ⟨_, g, hg, _⟩ := (rule1 rfl).1 hR
    simp at hg
  · simp at r1
    exact ⟨by omega, rfl⟩
theorem EufSound_is {w : World} {s : Int} (h : EsCx w nodes given links table A1 A2 A3 A4 n1 n2 n3 n4 w) :
    Calls P F.arbiterlaw13_EufSound #[.slice A1 n1 c1, .slice A2 n2 c2, .slice A3 n3 c3, .slice A4 n4 c4, .int .i64 s] w (Ret fun v w' => v = .bool true ∧ Ext w w') := by
  refine Ret.mono (ok_arbiterlaw13_EufSound A1 n1 c1 A2 n2 c2 A3 n3 c3 A4 n4 c4 s (EsK w) w ?_) (by rintro _ _ ⟨b, rfl, rfl, h⟩; exact ⟨rfl, h⟩)
  unfold vc_arbiterlaw13_EufSound
  intro p1 w1 hN1 p2 w2 hN2
  refine (euf_Audit_is 1 0 1 (Sl.one_flat hN2) (Sl.nil cLink w2 none) ((Sl.one_link hN1).ext (Ext.of_new hN2)) (by decide) (by decide) (by decide)).mono ?_
  rintro _ w3 ⟨_, rfl, r, e, rfl, hA, E3⟩
  obtain ⟨rfl, rfl⟩ := audit_self hA
  refine ⟨_, rfl, _, _, rfl, fun p3 w4 hN3 p4 w5 hN4 => ?_⟩
  refine (euf_Audit_is 1 0 1 ((Sl.one_flat hN3).ext (Ext.of_new hN4)) (Sl.nil cLink w5 none) (Sl.one_link hN4) (by decide) (by decide) (by decide)).mono ?_
  rintro _ w6 ⟨_, rfl, r, e, rfl, hA, E6⟩
  obtain ⟨rfl, rfl⟩ := audit_bad hA
  refine ⟨_, rfl, _, _, rfl, fun q => absurd rfl q, fun _ => ⟨fun q => absurd rfl q, fun _ => (law_no_is 0).mono ?_⟩⟩
  rintro _ _ ⟨_, rfl, rfl, rfl⟩
  refine ⟨_, rfl, 0, rfl, fun q => absurd rfl q, fun _ => (law_no_is 0).mono ?_⟩
  rintro _ _ ⟨_, rfl, rfl, rfl⟩
  refine ⟨_, rfl, 0, rfl, ?_⟩
  rw [decide_eq_false (fun q => q rfl)]
  exact J9_is (h.ext (((((((Ext.of_new hN1).new hN2).trans E3).new hN3).new hN4).trans E6)))
end
end Go.Proofs.Ytnbakpoahcndpaa
