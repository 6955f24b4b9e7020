/- The law EufAudits answers true at every input whose reading is of bulk at most 1048576, and the input reads as it did. -/
import Derived.Test.YtnbakpoahcndpaaRef13a
import Derived.Test.YtnbakpoahcndpaaHold13d
import Derived.Test.YtnbakpoahcndpaaOpen
set_option linter.unusedVariables false
set_option linter.unusedSimpArgs false
namespace Go.Proofs.Ytnbakpoahcndpaa.eufAudits
open Go.ChangeShapes Go.WideShapes Go.ChangeAt Go.RowKit Wk Opn
theorem hold_new {W w1 : World} {p : Addr} (hN : New W (.cells #[.slice none 0 0, .slice none 0 0, .slice none 0 0, .slice none 0 0, .slice none 0 0, .slice none 0 0] T.arbiterlaw13_Hold) p w1) :
    Hold W w1 p (fun _ => none) (fun _ => 0) (fun _ => 0) (fun _ => []) (fun b => b = p.block) := by
  have hc := hN.cells rfl
  have hp := hN.block
  have hl := hN.lt
  refine ⟨⟨fun k hk => ?_, hN.soft rfl, fun k hk => Own.nil _ _ _ _, ?_, ?_, by omega, Ext.of_new hN⟩, ?_, ?_, ⟨rfl, fun i x y h => by simp at h⟩, ⟨rfl, fun i x y h => by simp at h⟩, ⟨rfl, fun i x y h => by simp at h⟩⟩
  · match k, hk with
    | 0, _ => exact hc 0 _ rfl
    | 1, _ => exact hc 1 _ rfl
    | 2, _ => exact hc 2 _ rfl
    | 3, _ => exact hc 3 _ rfl
    | 4, _ => exact hc 4 _ rfl
    | 5, _ => exact hc 5 _ rfl
  · rintro j k _ _ _ b ⟨a, ha, _⟩
    cases ha
  · rintro k _ ⟨a, ha, _⟩
    cases ha
  · rintro b (rfl | ⟨k, _, a, ha, _⟩)
    · rfl
    · cases ha
  · rintro b rfl
    omega
theorem law {W : World} {nodes : List Flat} {given links : List Lnk} {A1 A2 A3 : Option Addr} {n1 n2 n3 c1 c2 c3 : Nat} (h1 : Sl cFlat W A1 n1 nodes) (h2 : Sl cLink W A2 n2 given) (h3 : Sl cLink W A3 n3 links) (s1 : n1 ≤ 1048576) (s2 : n2 ≤ 1048576) (s3 : n3 ≤ 1048576) :
    Calls P F.arbiterlaw13_EufAudits #[.slice A1 n1 c1, .slice A2 n2 c2, .slice A3 n3 c3] W (Ret fun v w' => v = .bool true ∧ Ext W w') := by
  refine Ret.mono (ok_arbiterlaw13_EufAudits A1 n1 c1 A2 n2 c2 A3 n3 c3 (fun b w' => b = true ∧ Ext W w') W ?_) (by rintro _ _ ⟨b, rfl, rfl, h⟩; exact ⟨rfl, h⟩)
  have sm : ∀ {n : Nat}, n ≤ 1048576 → Sm n := fun h => by unfold Sm; omega
  unfold vc_arbiterlaw13_EufAudits
  intro p w1 hN
  have H1 := hold_new hN
  refine (Hold_nodes_is c1 H1 (fun w' hw => h1.ext hw) (sm s1) (by omega) (by omega) (by omega) (by omega)).mono ?_
  rintro _ w2 ⟨_, rfl, B1, e1, A', n', c', vs', H2, rfl, hold2, cnt2, adv2, _, st2⟩
  have a0 := cnt2.n0
  have a1 := cnt2.n1
  have a2 := cnt2.n2
  have a3 := cnt2.n3
  have a4 := cnt2.n4
  have a5 := cnt2.n5
  refine ⟨_, rfl, B1, n1, e1, rfl, (Hold_chain_is c2 hold2 (fun w' hw => h2.ext hw) (sm s2) (by omega) (by omega) (by omega) (by omega)).mono ?_⟩
  rintro _ w3 ⟨_, rfl, B2, e2, A3', n'', c'', vs'', H3, rfl, hold3, cnt3, adv3, _, st3⟩
  have b0 := cnt3.n0
  have b1 := cnt3.n1
  have b2 := cnt3.n2
  have b3 := cnt3.n3
  have b4 := cnt3.n4
  have b5 := cnt3.n5
  refine ⟨_, rfl, B2, n2, e2, rfl, (Hold_chain_is c3 hold3 (fun w' hw => h3.ext hw) (sm s3) (by omega) (by omega) (by omega) (by omega)).mono ?_⟩
  rintro _ w4 ⟨_, rfl, B3, e3, A4', m', d', us', H4, rfl, hold4, cnt4, adv4, _, st4⟩
  have g0 := cnt4.n0
  have g1 := cnt4.n1
  have g2 := cnt4.n2
  have g3 := cnt4.n3
  have g4 := cnt4.n4
  have g5 := cnt4.n5
  have i1 := ((st2.adv adv3).adv adv4).now
  have i2 := (st3.adv adv4).now
  have i3 := st4.now
  refine ⟨_, rfl, B3, n3, e3, rfl, (euf_Audit_is e1 e2 e3 i1 i2 i3 (sm s1) (sm s2) (sm s3)).mono ?_⟩
  rintro _ w5 ⟨_, rfl, r, e, rfl, hA, E5⟩
  have hold5 := hold4.stay E5
  have E05 := hold5.rws.ext
  refine ⟨_, rfl, r, e, rfl, (ref_Audit_is c1 c2 c3 (h1.ext E05) (h2.ext E05) (h3.ext E05) (sm s1) (sm s2) (sm s3)).mono ?_⟩
  rintro _ w6 ⟨_, rfl, r', e', rfl, hA', E6⟩
  obtain ⟨rfl, rfl⟩ := hA.same hA'
  have hold6 := hold5.stay E6
  refine ⟨_, rfl, r, e, rfl, fun _ => (law_no_is e).mono ?_, fun q => absurd rfl q⟩
  rintro _ w7 ⟨_, rfl, rfl, rfl⟩
  refine ⟨_, rfl, e, rfl, fun _ => (Hold_kept_is hold6 ?_).mono ?_, fun q => absurd rfl q⟩
  · intro k hk
    unfold Sm
    match k, hk with
    | 0, _ => omega
    | 1, _ => omega
    | 2, _ => omega
    | 3, _ => omega
    | 4, _ => omega
    | 5, _ => omega
  · rintro _ w8 ⟨_, rfl, rfl, E8⟩
    exact ⟨_, rfl, true, rfl, rfl, hold6.rws.ext.trans E8⟩
theorem own : ownKnob Try.prog.godebug = none := by kernel_rfl
theorem laidOut : laidOutB Try.prog = true := by kernel_rfl
theorem two {α : Type} {cs : List α} (h : cs.length = 2) : ∃ a b, cs = [a, b] := by
  match cs, h with
  | [a, b], _ => exact ⟨a, b, rfl⟩
theorem five {α : Type} {cs : List α} (h : cs.length = 5) : ∃ a b c d e, cs = [a, b, c, d, e] := by
  match cs, h with
  | [a, b, c, d, e], _ => exact ⟨a, b, c, d, e, rfl⟩
theorem uInt : P.underlying T.int = some (.int .i64) := by kernel_rfl
theorem eInts : elemT P T.sl_int = some T.int := by kernel_rfl
theorem cInt1 : P.cellsOf T.int = 1 := by kernel_rfl
theorem fFlat : fieldsOf P T.api_Flat = some [(T.int, 0, 1), (T.sl_int, 1, 1)] := by kernel_rfl
theorem fLink : fieldsOf P T.api_Link = some [(T.int, 0, 1), (T.int, 1, 1), (T.int, 2, 1), (T.int, 3, 1), (T.sl_int, 4, 1)] := by kernel_rfl
theorem cFlat2 : P.cellsOf T.api_Flat = 2 := by kernel_rfl
theorem cLink5 : P.cellsOf T.api_Link = 5 := by kernel_rfl
theorem opens_flat : Opens P cFlat T.api_Flat := by
  intro H enc w base spare held fuel cs x h hf
  obtain ⟨hl, n, hfs⟩ := trod_fields fFlat h hf
  rw [cFlat2] at hl
  obtain ⟨a, b, rfl⟩ := two hl
  obtain ⟨y0, h0, f0⟩ := hfs 0 _ _ _ rfl
  obtain ⟨y1, h1, f1⟩ := hfs 1 _ _ _ rfl
  obtain ⟨k0, e0, _, _⟩ := DataW.trod_int uInt h0
  obtain ⟨A, m, c, xs, e1, hm, _, hs⟩ := opens_sl eInts (c := cInt .i64) cInt1 (opens_int uInt) h1 f1
  simp at e0 e1
  subst e0
  subst e1
  exact ⟨rfl, ⟨k0, xs⟩, A, m, c, rfl, by unfold Sm; omega, hs⟩
theorem opens_link : Opens P cLink T.api_Link := by
  intro H enc w base spare held fuel cs x h hf
  obtain ⟨hl, n, hfs⟩ := trod_fields fLink h hf
  rw [cLink5] at hl
  obtain ⟨a, b, c, d, e, rfl⟩ := five hl
  obtain ⟨y0, h0, f0⟩ := hfs 0 _ _ _ rfl
  obtain ⟨y1, h1, f1⟩ := hfs 1 _ _ _ rfl
  obtain ⟨y2, h2, f2⟩ := hfs 2 _ _ _ rfl
  obtain ⟨y3, h3, f3⟩ := hfs 3 _ _ _ rfl
  obtain ⟨y4, h4, f4⟩ := hfs 4 _ _ _ rfl
  obtain ⟨k0, e0, _, _⟩ := DataW.trod_int uInt h0
  obtain ⟨k1, e1, _, _⟩ := DataW.trod_int uInt h1
  obtain ⟨k2, e2, _, _⟩ := DataW.trod_int uInt h2
  obtain ⟨k3, e3, _, _⟩ := DataW.trod_int uInt h3
  obtain ⟨A, m, cp, xs, e4, hm, _, hs⟩ := opens_sl eInts (c := cInt .i64) cInt1 (opens_int uInt) h4 f4
  simp at e0 e1 e2 e3 e4
  subst e0 e1 e2 e3 e4
  exact ⟨rfl, ⟨k0, k1, k2, k3, xs⟩, A, m, cp, rfl, by unfold Sm; omega, hs⟩
theorem eFlats : elemT P T.sl_api_Flat = some T.api_Flat := by kernel_rfl
theorem eLinks : elemT P T.sl_api_Link = some T.api_Link := by kernel_rfl
theorem contract (H : Type) (enc : TypeId × Value → H) (W : World) (base : Nat) (args : Array Value) (ds gs : List (DataW H)) (before : List MemPlace)
    (hval : ∀ (j : Nat) t v, Try.f3.params[j]? = some t → args[j]? = some v → Value.okWide Try.prog W .any base t v)
    (hW : DataW.Whole enc Try.prog Try.f3.params.toList Rows.eufAuditsSpec.vars false W args.toList ds gs before) (hk : Rows.uptoSmall H (ds ++ gs) = true) :
    Calls Try.prog 3 args W fun e W' => ∃ v, e = .returned v ∧ Rows.eufAuditsSpec.post enc Try.prog Try.f3 false true false false W args v W' := by
  have hW' := hW
  obtain ⟨p, q, hA0, hV, rfl, hfz, hnd⟩ := hW
  have hA : DataW.TrodAll enc Try.prog W 0 (fun _ => true) true Try.f3.params.toList args.toList ds p := hA0
  rw [Try.params3] at hA hval
  obtain ⟨v0, vs0, d0, ds0, p0, q0, hargs, rfl, rfl, h0, r0⟩ := trodAll_cons hA
  obtain ⟨v1, vs1, d1, ds1, p1, q1, rfl, rfl, rfl, h1, r1⟩ := trodAll_cons r0
  obtain ⟨v2, vs2, d2, ds2, p2, q2, rfl, rfl, rfl, h2, r2⟩ := trodAll_cons r1
  obtain ⟨rfl, rfl, rfl⟩ := trodAll_nil r2
  obtain rfl : args = #[v0, v1, v2] := by cases args; simp_all
  obtain ⟨rfl, rfl⟩ := trodVars_none hV
  have few := few_of hk
  obtain ⟨A0, n0, c0, nodes, rfl, s0, _, z0⟩ := val_sl eFlats cFlat2 opens_flat (hval 0 _ v0 rfl rfl) h0 (few _ (by simp))
  obtain ⟨A1, n1, c1, given, rfl, s1, _, z1⟩ := val_sl eLinks cLink5 opens_link (hval 1 _ v1 rfl rfl) h1 (few _ (by simp))
  obtain ⟨A2, n2, c2, links, rfl, s2, _, z2⟩ := val_sl eLinks cLink5 opens_link (hval 2 _ v2 rfl rfl) h2 (few _ (by simp))
  have k0 := h0
  have k1 := h1
  have k2 := h2
  have lt0 : ∀ x ∈ p0, x.block < W.heap.size := by obtain ⟨m, hm⟩ := k0; exact DataW.trod_lt m _ _ _ hm
  have lt1 : ∀ x ∈ p1, x.block < W.heap.size := by obtain ⟨m, hm⟩ := k1; exact DataW.trod_lt m _ _ _ hm
  have lt2 : ∀ x ∈ p2, x.block < W.heap.size := by obtain ⟨m, hm⟩ := k2; exact DataW.trod_lt m _ _ _ hm
  clear hA0
  refine (law z0 z1 z2 s0 s1 s2).mono fun e W' h => ?_
  obtain ⟨v, rfl, rfl, hE⟩ := h
  have bel := below hE
  exact ⟨_, rfl, _, _, _, [], _, [], hW', trodAll_mk1 (shut_bool (by kernel_rfl) _),
    (trodAll_cons_mk (Below.trod laidOut (by kernel_rfl) (of_decide_eq_true (by kernel_rfl)) k0 bel lt0) (trodAll_cons_mk (Below.trod laidOut (by kernel_rfl) (of_decide_eq_true (by kernel_rfl)) k1 bel lt1)
      (trodAll_cons_mk (Below.trod laidOut (by kernel_rfl) (of_decide_eq_true (by kernel_rfl)) k2 bel lt2) trodAll_mk0))), rfl, bel.frame _, fun h => (by cases h)⟩
set_option maxRecDepth 100000 in
theorem lifted (os : Os) (started : os.Started) (H : Type) (enc : TypeId × Value → H) (F : Stop.Interp) :
    ReturnsInHanded {} Try.checked os 3 .any ((Rows.OpenSpec.upto Rows.eufAuditsSpec).pre6 enc Try.prog Try.f3 Rows.eufAuditsUptoRow.domain false) (((Rows.OpenSpec.upto Rows.eufAuditsSpec).at F).post enc Try.prog Try.f3 false true false false) := by
  refine returnsInHanded_of_cond (C := Try.checked) (s := Rows.OpenSpec.upto Rows.eufAuditsSpec) (k := Rows.uptoSmall) rfl own started (by kernel_rfl) Try.func3
    (OpenSpec.witness (enc := enc) (C := Try.checked) (s := Rows.OpenSpec.upto Rows.eufAuditsSpec) (k := Rows.uptoSmall) rfl false ⟨#[], #[.slice none 0 0, .slice none 0 0, .slice none 0 0], []⟩ 8 (by kernel_rfl) (by kernel_rfl) (by kernel_rfl)
      (x := ([.nil, .nil, .nil], [], [])) (by kernel_rfl) rfl (by kernel_rfl)) ?_
  intro W base args ds gs before hval hW _ hk _
  exact contract H enc W base args ds gs before hval hW hk
theorem over : Rows.eufAuditsUptoRow.holds Try.pinned (Rows.OpenSpec.upto Rows.eufAuditsSpec) :=
  OpenClaim.holds_of_cond 3 Try.f3 rfl rfl rfl rfl rfl rfl rfl ⟨rfl, rfl, rfl, rfl, rfl⟩ rfl rfl rfl rfl rfl (by kernel_rfl) Try.func3 (by kernel_rfl)
    (of_decide_eq_true (by kernel_rfl)) (by unfold Func.isWrapper; first | (rw [if_pos (by decide +kernel)]; kernel_rfl) | (rw [if_neg (by decide +kernel)]; exact ⟨rfl, rfl⟩))
    (fun os started H enc _ F => lifted os started H enc F)
theorem proved : Rows.EufAuditsUptoSaid := over
end Go.Proofs.Ytnbakpoahcndpaa.eufAudits
