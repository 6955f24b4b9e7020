/- The law EufSound answers true at every input whose reading is of bulk at most 1048576, and the input reads as it did. -/
import Derived.Test.YtnbakpoahcndpaaEs
import Derived.Test.YtnbakpoahcndpaaOpen
set_option linter.unusedVariables false
set_option linter.unusedSimpArgs false
namespace Go.Proofs.Ytnbakpoahcndpaa.eufSound
open Go.ChangeShapes Go.WideShapes Go.ChangeAt Go.RowKit Wk Opn
theorem own : ownKnob Try.prog.godebug = none := by kernel_rfl
theorem laidOut : laidOutB Try.prog = true := by kernel_rfl
theorem two {α : Type} {cs : List α} (h : cs.length = 2) : ∃ a b, cs = [a, b] := by
  match cs, h with
  | [a, b], _ => exact ⟨a, b, rfl⟩
theorem five {α : Type} {cs : List α} (h : cs.length = 5) : ∃ a b c d e, cs = [a, b, c, d, e] := by
  match cs, h with
  | [a, b, c, d, e], _ => exact ⟨a, b, c, d, e, rfl⟩
theorem uInt : P.underlying T.int = some (.int .i64) := by kernel_rfl
theorem eInts : elemT P T.sl_int = some T.int := by kernel_rfl
theorem cInt1 : P.cellsOf T.int = 1 := by kernel_rfl
theorem fFlat : fieldsOf P T.api_Flat = some [(T.int, 0, 1), (T.sl_int, 1, 1)] := by kernel_rfl
theorem fLink : fieldsOf P T.api_Link = some [(T.int, 0, 1), (T.int, 1, 1), (T.int, 2, 1), (T.int, 3, 1), (T.sl_int, 4, 1)] := by kernel_rfl
theorem cFlat2 : P.cellsOf T.api_Flat = 2 := by kernel_rfl
theorem cLink5 : P.cellsOf T.api_Link = 5 := by kernel_rfl
theorem opens_flat : Opens P cFlat T.api_Flat := by
  intro H enc w base spare held fuel cs x h hf
  obtain ⟨hl, n, hfs⟩ := trod_fields fFlat h hf
  rw [cFlat2] at hl
  obtain ⟨a, b, rfl⟩ := two hl
  obtain ⟨y0, h0, f0⟩ := hfs 0 _ _ _ rfl
  obtain ⟨y1, h1, f1⟩ := hfs 1 _ _ _ rfl
  obtain ⟨k0, e0, _, _⟩ := DataW.trod_int uInt h0
  obtain ⟨A, m, c, xs, e1, hm, _, hs⟩ := opens_sl eInts (c := cInt .i64) cInt1 (opens_int uInt) h1 f1
  simp at e0 e1
  subst e0
  subst e1
  exact ⟨rfl, ⟨k0, xs⟩, A, m, c, rfl, by unfold Sm; omega, hs⟩
theorem opens_link : Opens P cLink T.api_Link := by
  intro H enc w base spare held fuel cs x h hf
  obtain ⟨hl, n, hfs⟩ := trod_fields fLink h hf
  rw [cLink5] at hl
  obtain ⟨a, b, c, d, e, rfl⟩ := five hl
  obtain ⟨y0, h0, f0⟩ := hfs 0 _ _ _ rfl
  obtain ⟨y1, h1, f1⟩ := hfs 1 _ _ _ rfl
  obtain ⟨y2, h2, f2⟩ := hfs 2 _ _ _ rfl
  obtain ⟨y3, h3, f3⟩ := hfs 3 _ _ _ rfl
  obtain ⟨y4, h4, f4⟩ := hfs 4 _ _ _ rfl
  obtain ⟨k0, e0, _, _⟩ := DataW.trod_int uInt h0
  obtain ⟨k1, e1, _, _⟩ := DataW.trod_int uInt h1
  obtain ⟨k2, e2, _, _⟩ := DataW.trod_int uInt h2
  obtain ⟨k3, e3, _, _⟩ := DataW.trod_int uInt h3
  obtain ⟨A, m, cp, xs, e4, hm, _, hs⟩ := opens_sl eInts (c := cInt .i64) cInt1 (opens_int uInt) h4 f4
  simp at e0 e1 e2 e3 e4
  subst e0 e1 e2 e3 e4
  exact ⟨rfl, ⟨k0, k1, k2, k3, xs⟩, A, m, cp, rfl, by unfold Sm; omega, hs⟩
theorem eFlats : elemT P T.sl_api_Flat = some T.api_Flat := by kernel_rfl
theorem eLinks : elemT P T.sl_api_Link = some T.api_Link := by kernel_rfl
theorem contract (H : Type) (enc : TypeId × Value → H) (W : World) (base : Nat) (args : Array Value) (ds gs : List (DataW H)) (before : List MemPlace)
    (hval : ∀ (j : Nat) t v, Try.f4.params[j]? = some t → args[j]? = some v → Value.okWide Try.prog W .any base t v)
    (hW : DataW.Whole enc Try.prog Try.f4.params.toList Rows.eufSoundSpec.vars false W args.toList ds gs before) (hk : Rows.uptoSmall H (ds ++ gs) = true) :
    Calls Try.prog 4 args W fun e W' => ∃ v, e = .returned v ∧ Rows.eufSoundSpec.post enc Try.prog Try.f4 false true false false W args v W' := by
  have hW' := hW
  obtain ⟨p, q, hA0, hV, rfl, hfz, hnd⟩ := hW
  have hA : DataW.TrodAll enc Try.prog W 0 (fun _ => true) true Try.f4.params.toList args.toList ds p := hA0
  rw [Try.params4] at hA hval
  obtain ⟨v0, vs0, d0, ds0, p0, q0, hargs, rfl, rfl, h0, r0⟩ := trodAll_cons hA
  obtain ⟨v1, vs1, d1, ds1, p1, q1, rfl, rfl, rfl, h1, r1⟩ := trodAll_cons r0
  obtain ⟨v2, vs2, d2, ds2, p2, q2, rfl, rfl, rfl, h2, r2⟩ := trodAll_cons r1
  obtain ⟨v3, vs3, d3, ds3, p3, q3, rfl, rfl, rfl, h3, r3⟩ := trodAll_cons r2
  obtain ⟨v4, vs4, d4, ds4, p4, q4, rfl, rfl, rfl, h4, r4⟩ := trodAll_cons r3
  obtain ⟨rfl, rfl, rfl⟩ := trodAll_nil r4
  obtain rfl : args = #[v0, v1, v2, v3, v4] := by cases args; simp_all
  obtain ⟨rfl, rfl⟩ := trodVars_none hV
  have few := few_of hk
  obtain ⟨A0, n0, c0, nodes, rfl, s0, _, z0⟩ := val_sl eFlats cFlat2 opens_flat (hval 0 _ v0 rfl rfl) h0 (few _ (by simp))
  obtain ⟨A1, n1, c1, given, rfl, s1, _, z1⟩ := val_sl eLinks cLink5 opens_link (hval 1 _ v1 rfl rfl) h1 (few _ (by simp))
  obtain ⟨A2, n2, c2, links, rfl, s2, _, z2⟩ := val_sl eLinks cLink5 opens_link (hval 2 _ v2 rfl rfl) h2 (few _ (by simp))
  obtain ⟨A3, n3, c3, table, rfl, s3, _, z3⟩ := val_sl eInts (c := cInt .i64) cInt1 (opens_int uInt) (hval 3 _ v3 rfl rfl) h3 (few _ (by simp))
  obtain ⟨size, rfl, rfl, rfl, w4⟩ := open_int uInt (hval 4 _ v4 rfl rfl) h4
  have k0 := h0
  have k1 := h1
  have k2 := h2
  have k3 := h3
  have lt0 : ∀ x ∈ p0, x.block < W.heap.size := by obtain ⟨m, hm⟩ := k0; exact DataW.trod_lt m _ _ _ hm
  have lt1 : ∀ x ∈ p1, x.block < W.heap.size := by obtain ⟨m, hm⟩ := k1; exact DataW.trod_lt m _ _ _ hm
  have lt2 : ∀ x ∈ p2, x.block < W.heap.size := by obtain ⟨m, hm⟩ := k2; exact DataW.trod_lt m _ _ _ hm
  have lt3 : ∀ x ∈ p3, x.block < W.heap.size := by obtain ⟨m, hm⟩ := k3; exact DataW.trod_lt m _ _ _ hm
  have sm : ∀ {n : Nat}, n ≤ 1048576 → Sm n := fun h => by unfold Sm; omega
  clear hA0
  refine (EufSound_is (s := size) ⟨z0, z1, z2, z3, sm s0, sm s1, sm s2, sm s3, Ext.refl W⟩).mono fun e W' h => ?_
  obtain ⟨v, rfl, rfl, hE⟩ := h
  have bel := below hE
  exact ⟨_, rfl, _, _, _, [], _, [], hW', trodAll_mk1 (shut_bool (by kernel_rfl) _),
    (trodAll_cons_mk (Below.trod laidOut (by kernel_rfl) (of_decide_eq_true (by kernel_rfl)) k0 bel lt0) (trodAll_cons_mk (Below.trod laidOut (by kernel_rfl) (of_decide_eq_true (by kernel_rfl)) k1 bel lt1)
      (trodAll_cons_mk (Below.trod laidOut (by kernel_rfl) (of_decide_eq_true (by kernel_rfl)) k2 bel lt2) (trodAll_cons_mk (Below.trod laidOut (by kernel_rfl) (of_decide_eq_true (by kernel_rfl)) k3 bel lt3)
        (trodAll_cons_mk (shut_int uInt w4) trodAll_mk0))))), rfl, bel.frame _, fun h => (by cases h)⟩
set_option maxRecDepth 100000 in
theorem lifted (os : Os) (started : os.Started) (H : Type) (enc : TypeId × Value → H) (F : Stop.Interp) :
    ReturnsInHanded {} Try.checked os 4 .any ((Rows.OpenSpec.upto Rows.eufSoundSpec).pre6 enc Try.prog Try.f4 Rows.eufSoundUptoRow.domain false) (((Rows.OpenSpec.upto Rows.eufSoundSpec).at F).post enc Try.prog Try.f4 false true false false) := by
  refine returnsInHanded_of_cond (C := Try.checked) (s := Rows.OpenSpec.upto Rows.eufSoundSpec) (k := Rows.uptoSmall) rfl own started (by kernel_rfl) Try.func4
    (OpenSpec.witness (enc := enc) (C := Try.checked) (s := Rows.OpenSpec.upto Rows.eufSoundSpec) (k := Rows.uptoSmall) rfl false ⟨#[], #[.slice none 0 0, .slice none 0 0, .slice none 0 0, .slice none 0 0, .int .i64 0], []⟩ 8 (by kernel_rfl) (by kernel_rfl) (by kernel_rfl)
      (x := ([.nil, .nil, .nil, .nil, .lit (.int .i64 0)], [], [])) (by kernel_rfl) rfl (by kernel_rfl)) ?_
  intro W base args ds gs before hval hW _ hk _
  exact contract H enc W base args ds gs before hval hW hk
theorem over : Rows.eufSoundUptoRow.holds Try.pinned (Rows.OpenSpec.upto Rows.eufSoundSpec) :=
  OpenClaim.holds_of_cond 4 Try.f4 rfl rfl rfl rfl rfl rfl rfl ⟨rfl, rfl, rfl, rfl, rfl⟩ rfl rfl rfl rfl rfl (by kernel_rfl) Try.func4 (by kernel_rfl)
    (of_decide_eq_true (by kernel_rfl)) (by unfold Func.isWrapper; first | (rw [if_pos (by decide +kernel)]; kernel_rfl) | (rw [if_neg (by decide +kernel)]; exact ⟨rfl, rfl⟩))
    (fun os started H enc _ F => lifted os started H enc F)
theorem proved : Rows.EufSoundUptoSaid := over
end Go.Proofs.Ytnbakpoahcndpaa.eufSound
