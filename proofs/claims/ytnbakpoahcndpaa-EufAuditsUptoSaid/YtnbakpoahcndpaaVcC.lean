/- Printed by a program (vc.py): for each function a formula over the world, and the proof that it tells what the call comes to. -/
import Derived.Test.YtnbakpoahcndpaaNums
set_option linter.unusedVariables false
set_option linter.unusedSimpArgs false
namespace Go.Proofs.Ytnbakpoahcndpaa
def vc_arbiterref13_given_J1 (K : Bool → World → Prop) (k1 : Nat) (I1 : Nat → Int → World → Prop) (x5 : Int) (b2 : Bool) (w4 : World) : Prop :=
  (b2 = true → (K true w4)) ∧ (b2 = false → (∃ k2, k2 < k1 ∧ I1 k2 (IntKind.wrap .i64 (x5 + 1)) w4))
def vc_arbiterref13_given (A1 : Option Addr) (n1 : Nat) (c1 : Nat) (x1 : Int) (x2 : Int) (x3 : Int) (x4 : Int) (A2 : Option Addr) (n2 : Nat) (c2 : Nat) (K : Bool → World → Prop) (w : World) : Prop :=
  ∀ (p1 : Addr) (w1 : World), Wk.New w (.cells #[(.int .i64 x1), (.int .i64 x2), (.int .i64 x3), (.int .i64 x4), (.slice A2 n2 c2)] T.api_Link) p1 w1 → (∃ I1 : Nat → Int → World → Prop, (∃ k1, I1 k1 0 w1) ∧ ∀ k1 (x5 : Int) (w2 : World), I1 k1 x5 w2 → ((x5 < (n1 : Int) → (0 ≤ x5 ∧ x5 < (n1 : Int) ∧ ∃ a1, A1 = some a1 ∧ ∃ x6 : Int, w2.cell? ((a1.add (x5.toNat * 5)).add 0) = some (.int .i64 x6) ∧ (x6 = 1 → (0 ≤ x5 ∧ x5 < (n1 : Int) ∧ ∃ a2, A1 = some a2 ∧ ∃ x7 : Int, w2.cell? ((a2.add (x5.toNat * 5)).add 1) = some (.int .i64 x7) ∧ ∃ x8 : Int, w2.cell? (p1.add 1) = some (.int .i64 x8) ∧ (x7 = x8 → (0 ≤ x5 ∧ x5 < (n1 : Int) ∧ ∃ a3, A1 = some a3 ∧ ∃ x9 : Int, w2.cell? ((a3.add (x5.toNat * 5)).add 2) = some (.int .i64 x9) ∧ ∃ x10 : Int, w2.cell? (p1.add 2) = some (.int .i64 x10) ∧ (x9 = x10 → (0 ≤ x5 ∧ x5 < (n1 : Int) ∧ ∃ a4, A1 = some a4 ∧ ∃ x11 : Int, w2.cell? ((a4.add (x5.toNat * 5)).add 3) = some (.int .i64 x11) ∧ ∃ x12 : Int, w2.cell? (p1.add 3) = some (.int .i64 x12) ∧ ∀ w3, Wk.Drawn w2 w3 → ((vc_arbiterref13_given_J1 K k1 I1 x5) (decide (x11 = x12)) w3))) ∧ (¬ (x9 = x10) → (∀ w5, Wk.Drawn w2 w5 → ((vc_arbiterref13_given_J1 K k1 I1 x5) false w5))))) ∧ (¬ (x7 = x8) → (∀ w6, Wk.Drawn w2 w6 → ((vc_arbiterref13_given_J1 K k1 I1 x5) false w6))))) ∧ (¬ (x6 = 1) → (∀ w7, Wk.Drawn w2 w7 → ((vc_arbiterref13_given_J1 K k1 I1 x5) false w7))))) ∧ (¬ (x5 < (n1 : Int)) → (K false w2))))
set_option maxHeartbeats 2000000 in
set_option maxRecDepth 20000 in
theorem ok_arbiterref13_given (A1 : Option Addr) (n1 : Nat) (c1 : Nat) (x1 : Int) (x2 : Int) (x3 : Int) (x4 : Int) (A2 : Option Addr) (n2 : Nat) (c2 : Nat) (K : Bool → World → Prop) (w : World) (H : vc_arbiterref13_given A1 n1 c1 x1 x2 x3 x4 A2 n2 c2 K w) : Calls P F.arbiterref13_given #[(.slice A1 n1 c1), (.agg #[(.int .i64 x1), (.int .i64 x2), (.int .i64 x3), (.int .i64 x4), (.slice A2 n2 c2)])] w (Wk.Ret fun v w' => ∃ b1 : Bool, v = (.bool b1) ∧ K b1 w') := by
  unfold vc_arbiterref13_given at H
  refine Wk.calls_of (P := P) Try.func24 rfl [(0, (.slice A1 n1 c1)), (1, (.agg #[(.int .i64 x1), (.int .i64 x2), (.int .i64 x3), (.int .i64 x4), (.slice A2 n2 c2)]))] 48 rfl rfl (fun p hp => by simp only [List.mem_cons, List.not_mem_nil, or_false] at hp; rcases hp with rfl | rfl <;> rfl) ?_
  refine Wk.cw_seq ?_
  refine Wk.cw_region ?_
  refine Wk.sl_new (f := (fun p => .pointer (some p))) rfl rfl (Wk.wanted_none rfl) (fun a ha => Wk.x_box (ha.ev rfl) Wk.i_box) ?_
  intro p1 w1 hN; replace H := H _ _ hN
  refine Wk.sl_v rfl rfl (Wk.wanted_none rfl) (fun a ha => Wk.x_assign (ha.ev rfl)) ?_
  refine Wk.sl_nil ?_
  refine Wk.nx_code (Wk.cw_sub (e' := [(0, (.slice A1 n1 c1)), (3, (.pointer (some p1)))]) (Wk.sub.cons rfl (Wk.sub.cons rfl (Wk.sub.nil))) ?_)
  refine Wk.cw_seq ?_
  refine Wk.cw_seq ?_
  refine Wk.cw_region ?_
  refine Wk.sl_v rfl rfl (Wk.wanted_none rfl) (fun a ha => Wk.x_assign (ha.ev rfl)) ?_
  refine Wk.sl_nil ?_
  refine Wk.nx_code (Wk.cw_sub (e' := [(0, (.slice A1 n1 c1)), (3, (.pointer (some p1))), (5, (.int .i64 0))]) (Wk.sub.cons rfl (Wk.sub.cons rfl (Wk.sub.cons rfl (Wk.sub.nil)))) ?_)
  refine Wk.cw_block ?_
  obtain ⟨I1, ⟨k1, hi⟩, H⟩ := H
  refine Wk.cw_loop (fun k1 a w' => ∃ x5 : Int, Wk.Ok 48 [(0, (.slice A1 n1 c1)), (3, (.pointer (some p1))), (5, (.int .i64 x5))] a ∧ I1 k1 x5 w') (fun a ha => ⟨k1, 0, ha.weaken (Wk.sub.cons rfl (Wk.sub.cons rfl (Wk.sub.cons rfl (Wk.sub.nil)))), hi⟩) ?_
  rintro k1 a w2 ⟨x5, ha, hI⟩
  replace H := H k1 x5 w2 hI
  refine (?_ : Wk.CW _ _ _ 48 [(0, (.slice A1 n1 c1)), (3, (.pointer (some p1))), (5, (.int .i64 x5))] _) a ha
  refine Wk.cw_seq ?_
  refine Wk.cw_seq ?_
  refine Wk.cw_region ?_
  refine Wk.sl_v rfl rfl (Wk.wanted_none rfl) (fun a ha => Wk.x_move (ha.ev rfl)) ?_
  refine Wk.sl_v rfl rfl (Wk.wanted_none rfl) (fun a ha => Wk.x_move (ha.ev rfl)) ?_
  refine Wk.sl_v rfl rfl (Wk.wanted_none rfl) (fun a ha => Wk.x_builtin (ha.evs rfl) (fun _ => Wk.l_slice TF.isslice_sl_api_Link)) ?_
  refine Wk.sl_v rfl rfl (Wk.wanted_none rfl) (fun a ha => Wk.x_binOp (ha.ev rfl) (ha.ev rfl) Wk.o_lss) ?_
  refine Wk.sl_nil ?_
  refine Wk.nx_code (Wk.cw_sub (e' := [(0, (.slice A1 n1 c1)), (3, (.pointer (some p1))), (5, (.int .i64 x5)), (9, (.bool (decide (x5 < (n1 : Int)))))]) (Wk.sub.cons rfl (Wk.sub.cons rfl (Wk.sub.cons rfl (Wk.sub.cons rfl (Wk.sub.nil))))) ?_)
  refine Wk.cw_cond_p rfl (fun hb => ?_) (fun hb => ?_)
  · replace H := H.1 hb
    refine Wk.cw_skip ?_
    refine Wk.nx_code (Wk.cw_sub (e' := [(0, (.slice A1 n1 c1)), (3, (.pointer (some p1))), (5, (.int .i64 x5))]) (Wk.sub.cons rfl (Wk.sub.cons rfl (Wk.sub.cons rfl (Wk.sub.nil)))) ?_)
    refine Wk.cw_seq ?_
    refine Wk.cw_block ?_
    refine Wk.cw_join (fun a w => ∃ b2 : Bool, Wk.Ok 48 [(0, (.slice A1 n1 c1)), (3, (.pointer (some p1))), (5, (.int .i64 x5)), (47, (.bool b2))] a ∧ vc_arbiterref13_given_J1 K k1 I1 x5 b2 w) ?_ ?_
    · rintro a w4 ⟨b2, ha, H⟩
      unfold vc_arbiterref13_given_J1 at H
      refine (?_ : Wk.CW _ _ _ 48 [(0, (.slice A1 n1 c1)), (3, (.pointer (some p1))), (5, (.int .i64 x5)), (47, (.bool b2))] _) a ha
      refine Wk.cw_cond rfl (fun hb => ?_) (fun hb => ?_)
      · replace H := H.1 hb
        refine Wk.cw_seq ?_
        refine Wk.cw_region ?_
        refine Wk.sl_v rfl rfl (Wk.wanted_none rfl) (fun a ha => Wk.x_assign (ha.ev rfl)) ?_
        refine Wk.sl_nil ?_
        refine Wk.nx_code (Wk.cw_sub (e' := [(4, (.bool true))]) (Wk.sub.cons rfl (Wk.sub.nil)) ?_)
        refine Wk.cw_ret ?_
        refine Wk.nx_ret_block ?_
        refine Wk.nx_ret_then ?_
        refine Wk.nx_ret_then ?_
        refine Wk.nx_ret_block ?_
        refine Wk.nx_ret_then ?_
        exact Wk.nx_body_ret (Wk.res1 rfl rfl) ⟨_, rfl, _, rfl, H⟩
      · replace H := H.2 hb
        refine Wk.cw_skip ?_
        refine Wk.nx_block ?_
        refine Wk.nx_code (Wk.cw_sub (e' := [(0, (.slice A1 n1 c1)), (3, (.pointer (some p1))), (5, (.int .i64 x5))]) (Wk.sub.cons rfl (Wk.sub.cons rfl (Wk.sub.cons rfl (Wk.sub.nil)))) ?_)
        refine Wk.cw_region ?_
        refine Wk.sl_v rfl rfl (Wk.wanted_none rfl) (fun a ha => Wk.x_move (ha.ev rfl)) ?_
        refine Wk.sl_v rfl rfl (Wk.wanted_none rfl) (fun a ha => Wk.x_binOp (ha.ev rfl) (ha.ev rfl) Wk.o_add) ?_
        refine Wk.sl_v rfl rfl (Wk.wanted_none rfl) (fun a ha => Wk.x_assign (ha.ev rfl)) ?_
        refine Wk.sl_nil ?_
        obtain ⟨k2, hk, H⟩ := H
        exact Wk.nx_to fun a ha => ⟨k2, hk, IntKind.wrap .i64 (x5 + 1), ha.weaken (Wk.sub.cons rfl (Wk.sub.cons rfl (Wk.sub.cons rfl (Wk.sub.nil)))), H⟩
    · refine Wk.cw_any_drawn follows [0, 1, 2, 3, 4, 5, 6, 7, 8, 9, 10, 11, 12, 13, 14, 15, 16, 17, 18, 19, 20, 21, 22, 23, 24, 25, 26, 27, 28, 29, 30, 31, 32, 33, 34, 35] [4, 11, 13, 21, 23, 31, 33] 36 rfl rfl (by kernel_rfl) (fun _ _ d _ _ h => by cases d <;> exact h) (fun cm hW hD => ?_)
      refine Wk.an_p (i := 0) cm rfl (by kernel_rfl) rfl rfl (Wk.wanted_none rfl) (fun w' a ha => Wk.x_move (ha.ev rfl)) rfl ?_
      intro _ hd; replace hD := hD.trans hd; replace hW := cm.held _ _ hW hd; clear hd
      refine Wk.an_p (i := 1) cm rfl (by kernel_rfl) rfl rfl (Wk.wanted_none rfl) (fun w' a ha => Wk.x_move (ha.ev rfl)) rfl ?_
      intro _ hd; replace hD := hD.trans hd; replace hW := cm.held _ _ hW hd; clear hd
      obtain ⟨h2, h3, a1, e1, H⟩ := H
      refine Wk.an_p (i := 2) cm rfl (by kernel_rfl) rfl rfl (Wk.wanted_none rfl) (fun w' a ha => Wk.x_indexAddr (ha.ev rfl) (ha.ev rfl) (Wk.i_index TF.elem_sl_api_Link TF.size_api_Link e1 h2 h3)) rfl ?_
      intro _ hd; replace hD := hD.trans hd; replace hW := cm.held _ _ hW hd; clear hd
      refine Wk.an_p (i := 3) cm rfl (by kernel_rfl) rfl rfl (Wk.wanted_none rfl) (fun w' a ha => Wk.x_fieldAddr (ha.ev rfl) (TF.fld_api_Link_0 _ _)) rfl ?_
      intro _ hd; replace hD := hD.trans hd; replace hW := cm.held _ _ hW hd; clear hd
      obtain ⟨x6, h4, H⟩ := H
      refine Wk.an_v (i := 4) cm rfl (by kernel_rfl) hW rfl rfl (Wk.wanted_none rfl) (fun w' hw a ha => Wk.x_load (ha.ev rfl) (Wk.i_load1 TF.agg_int ((hw.cell _).trans h4))) rfl ?_
      intro _ hd hW; replace hD := hD.trans hd; clear hd
      refine Wk.an_p (i := 5) cm rfl (by kernel_rfl) rfl rfl (Wk.wanted_none rfl) (fun w' a ha => Wk.x_binOp (ha.ev rfl) (ha.ev rfl) Wk.o_eql) rfl ?_
      intro _ hd; replace hD := hD.trans hd; replace hW := cm.held _ _ hW hd; clear hd
      rcases Classical.em (x6 = 1) with hb | hb
      · replace H := H.1 hb
        refine Wk.an_p (i := 6) cm rfl (by kernel_rfl) rfl rfl (Wk.wanted_none rfl) (fun w' a ha => Wk.o_t (Wk.x_move (ha.ev rfl)) hb) rfl ?_
        intro _ hd; replace hD := hD.trans hd; replace hW := cm.held _ _ hW hd; clear hd
        refine Wk.an_p (i := 7) cm rfl (by kernel_rfl) rfl rfl (Wk.wanted_some rfl rfl rfl) (fun w' a ha => Wk.x_move (ha.ev rfl)) rfl ?_
        intro _ hd; replace hD := hD.trans hd; replace hW := cm.held _ _ hW hd; clear hd
        refine Wk.an_p (i := 8) cm rfl (by kernel_rfl) rfl rfl (Wk.wanted_some rfl rfl rfl) (fun w' a ha => Wk.x_move (ha.ev rfl)) rfl ?_
        intro _ hd; replace hD := hD.trans hd; replace hW := cm.held _ _ hW hd; clear hd
        obtain ⟨h5, h6, a2, e2, H⟩ := H
        refine Wk.an_p (i := 9) cm rfl (by kernel_rfl) rfl rfl (Wk.wanted_some rfl rfl rfl) (fun w' a ha => Wk.x_indexAddr (ha.ev rfl) (ha.ev rfl) (Wk.i_index TF.elem_sl_api_Link TF.size_api_Link e2 h5 h6)) rfl ?_
        intro _ hd; replace hD := hD.trans hd; replace hW := cm.held _ _ hW hd; clear hd
        refine Wk.an_p (i := 10) cm rfl (by kernel_rfl) rfl rfl (Wk.wanted_some rfl rfl rfl) (fun w' a ha => Wk.x_fieldAddr (ha.ev rfl) (TF.fld_api_Link_1 _ _)) rfl ?_
        intro _ hd; replace hD := hD.trans hd; replace hW := cm.held _ _ hW hd; clear hd
        obtain ⟨x7, h7, H⟩ := H
        refine Wk.an_v (i := 11) cm rfl (by kernel_rfl) hW rfl rfl (Wk.wanted_some rfl rfl rfl) (fun w' hw a ha => Wk.x_load (ha.ev rfl) (Wk.i_load1 TF.agg_int ((hw.cell _).trans h7))) rfl ?_
        intro _ hd hW; replace hD := hD.trans hd; clear hd
        refine Wk.an_p (i := 12) cm rfl (by kernel_rfl) rfl rfl (Wk.wanted_some rfl rfl rfl) (fun w' a ha => Wk.x_fieldAddr (ha.ev rfl) (TF.fld_api_Link_1 _ _)) rfl ?_
        intro _ hd; replace hD := hD.trans hd; replace hW := cm.held _ _ hW hd; clear hd
        obtain ⟨x8, h8, H⟩ := H
        refine Wk.an_v (i := 13) cm rfl (by kernel_rfl) hW rfl rfl (Wk.wanted_some rfl rfl rfl) (fun w' hw a ha => Wk.x_load (ha.ev rfl) (Wk.i_load1 TF.agg_int ((hw.cell _).trans h8))) rfl ?_
        intro _ hd hW; replace hD := hD.trans hd; clear hd
        refine Wk.an_p (i := 14) cm rfl (by kernel_rfl) rfl rfl (Wk.wanted_some rfl rfl rfl) (fun w' a ha => Wk.x_binOp (ha.ev rfl) (ha.ev rfl) Wk.o_eql) rfl ?_
        intro _ hd; replace hD := hD.trans hd; replace hW := cm.held _ _ hW hd; clear hd
        refine Wk.an_p (i := 15) cm rfl (by kernel_rfl) rfl rfl (Wk.wanted_none rfl) (fun w' a ha => Wk.x_pick_t (ha.ev rfl) (ha.ev rfl)) rfl ?_
        intro _ hd; replace hD := hD.trans hd; replace hW := cm.held _ _ hW hd; clear hd
        rcases Classical.em (x7 = x8) with hb | hb
        · replace H := H.1 hb
          refine Wk.an_p (i := 16) cm rfl (by kernel_rfl) rfl rfl (Wk.wanted_none rfl) (fun w' a ha => Wk.o_t (Wk.x_move (ha.ev rfl)) hb) rfl ?_
          intro _ hd; replace hD := hD.trans hd; replace hW := cm.held _ _ hW hd; clear hd
          refine Wk.an_p (i := 17) cm rfl (by kernel_rfl) rfl rfl (Wk.wanted_some rfl rfl rfl) (fun w' a ha => Wk.x_move (ha.ev rfl)) rfl ?_
          intro _ hd; replace hD := hD.trans hd; replace hW := cm.held _ _ hW hd; clear hd
          refine Wk.an_p (i := 18) cm rfl (by kernel_rfl) rfl rfl (Wk.wanted_some rfl rfl rfl) (fun w' a ha => Wk.x_move (ha.ev rfl)) rfl ?_
          intro _ hd; replace hD := hD.trans hd; replace hW := cm.held _ _ hW hd; clear hd
          obtain ⟨h9, h10, a3, e3, H⟩ := H
          refine Wk.an_p (i := 19) cm rfl (by kernel_rfl) rfl rfl (Wk.wanted_some rfl rfl rfl) (fun w' a ha => Wk.x_indexAddr (ha.ev rfl) (ha.ev rfl) (Wk.i_index TF.elem_sl_api_Link TF.size_api_Link e3 h9 h10)) rfl ?_
          intro _ hd; replace hD := hD.trans hd; replace hW := cm.held _ _ hW hd; clear hd
          refine Wk.an_p (i := 20) cm rfl (by kernel_rfl) rfl rfl (Wk.wanted_some rfl rfl rfl) (fun w' a ha => Wk.x_fieldAddr (ha.ev rfl) (TF.fld_api_Link_2 _ _)) rfl ?_
          intro _ hd; replace hD := hD.trans hd; replace hW := cm.held _ _ hW hd; clear hd
          obtain ⟨x9, h11, H⟩ := H
          refine Wk.an_v (i := 21) cm rfl (by kernel_rfl) hW rfl rfl (Wk.wanted_some rfl rfl rfl) (fun w' hw a ha => Wk.x_load (ha.ev rfl) (Wk.i_load1 TF.agg_int ((hw.cell _).trans h11))) rfl ?_
          intro _ hd hW; replace hD := hD.trans hd; clear hd
          refine Wk.an_p (i := 22) cm rfl (by kernel_rfl) rfl rfl (Wk.wanted_some rfl rfl rfl) (fun w' a ha => Wk.x_fieldAddr (ha.ev rfl) (TF.fld_api_Link_2 _ _)) rfl ?_
          intro _ hd; replace hD := hD.trans hd; replace hW := cm.held _ _ hW hd; clear hd
          obtain ⟨x10, h12, H⟩ := H
          refine Wk.an_v (i := 23) cm rfl (by kernel_rfl) hW rfl rfl (Wk.wanted_some rfl rfl rfl) (fun w' hw a ha => Wk.x_load (ha.ev rfl) (Wk.i_load1 TF.agg_int ((hw.cell _).trans h12))) rfl ?_
          intro _ hd hW; replace hD := hD.trans hd; clear hd
          refine Wk.an_p (i := 24) cm rfl (by kernel_rfl) rfl rfl (Wk.wanted_some rfl rfl rfl) (fun w' a ha => Wk.x_binOp (ha.ev rfl) (ha.ev rfl) Wk.o_eql) rfl ?_
          intro _ hd; replace hD := hD.trans hd; replace hW := cm.held _ _ hW hd; clear hd
          refine Wk.an_p (i := 25) cm rfl (by kernel_rfl) rfl rfl (Wk.wanted_none rfl) (fun w' a ha => Wk.x_pick_t (ha.ev rfl) (ha.ev rfl)) rfl ?_
          intro _ hd; replace hD := hD.trans hd; replace hW := cm.held _ _ hW hd; clear hd
          rcases Classical.em (x9 = x10) with hb | hb
          · replace H := H.1 hb
            refine Wk.an_p (i := 26) cm rfl (by kernel_rfl) rfl rfl (Wk.wanted_none rfl) (fun w' a ha => Wk.o_t (Wk.x_move (ha.ev rfl)) hb) rfl ?_
            intro _ hd; replace hD := hD.trans hd; replace hW := cm.held _ _ hW hd; clear hd
            refine Wk.an_p (i := 27) cm rfl (by kernel_rfl) rfl rfl (Wk.wanted_some rfl rfl rfl) (fun w' a ha => Wk.x_move (ha.ev rfl)) rfl ?_
            intro _ hd; replace hD := hD.trans hd; replace hW := cm.held _ _ hW hd; clear hd
            refine Wk.an_p (i := 28) cm rfl (by kernel_rfl) rfl rfl (Wk.wanted_some rfl rfl rfl) (fun w' a ha => Wk.x_move (ha.ev rfl)) rfl ?_
            intro _ hd; replace hD := hD.trans hd; replace hW := cm.held _ _ hW hd; clear hd
            obtain ⟨h13, h14, a4, e4, H⟩ := H
            refine Wk.an_p (i := 29) cm rfl (by kernel_rfl) rfl rfl (Wk.wanted_some rfl rfl rfl) (fun w' a ha => Wk.x_indexAddr (ha.ev rfl) (ha.ev rfl) (Wk.i_index TF.elem_sl_api_Link TF.size_api_Link e4 h13 h14)) rfl ?_
            intro _ hd; replace hD := hD.trans hd; replace hW := cm.held _ _ hW hd; clear hd
            refine Wk.an_p (i := 30) cm rfl (by kernel_rfl) rfl rfl (Wk.wanted_some rfl rfl rfl) (fun w' a ha => Wk.x_fieldAddr (ha.ev rfl) (TF.fld_api_Link_3 _ _)) rfl ?_
            intro _ hd; replace hD := hD.trans hd; replace hW := cm.held _ _ hW hd; clear hd
            obtain ⟨x11, h15, H⟩ := H
            refine Wk.an_v (i := 31) cm rfl (by kernel_rfl) hW rfl rfl (Wk.wanted_some rfl rfl rfl) (fun w' hw a ha => Wk.x_load (ha.ev rfl) (Wk.i_load1 TF.agg_int ((hw.cell _).trans h15))) rfl ?_
            intro _ hd hW; replace hD := hD.trans hd; clear hd
            refine Wk.an_p (i := 32) cm rfl (by kernel_rfl) rfl rfl (Wk.wanted_some rfl rfl rfl) (fun w' a ha => Wk.x_fieldAddr (ha.ev rfl) (TF.fld_api_Link_3 _ _)) rfl ?_
            intro _ hd; replace hD := hD.trans hd; replace hW := cm.held _ _ hW hd; clear hd
            obtain ⟨x12, h16, H⟩ := H
            refine Wk.an_v (i := 33) cm rfl (by kernel_rfl) hW rfl rfl (Wk.wanted_some rfl rfl rfl) (fun w' hw a ha => Wk.x_load (ha.ev rfl) (Wk.i_load1 TF.agg_int ((hw.cell _).trans h16))) rfl ?_
            intro _ hd hW; replace hD := hD.trans hd; clear hd
            refine Wk.an_p (i := 34) cm rfl (by kernel_rfl) rfl rfl (Wk.wanted_some rfl rfl rfl) (fun w' a ha => Wk.x_binOp (ha.ev rfl) (ha.ev rfl) Wk.o_eql) rfl ?_
            intro _ hd; replace hD := hD.trans hd; clear hd
            refine Wk.an_p (i := 35) cm rfl (by kernel_rfl) rfl rfl (Wk.wanted_none rfl) (fun w' a ha => Wk.x_pick_t (ha.ev rfl) (ha.ev rfl)) rfl ?_
            intro _ hd; replace hD := hD.trans hd; clear hd
            refine Wk.an_end (by kernel_rfl) hD ?_
            intro w3 hD; replace H := H _ hD; clear hD cm
            exact Wk.nx_to fun a ha => ⟨(decide (x11 = x12)), ha.weaken (Wk.sub.cons rfl (Wk.sub.cons rfl (Wk.sub.cons rfl (Wk.sub.cons rfl (Wk.sub.nil))))), H⟩
          · replace H := H.2 hb
            refine Wk.an_p (i := 26) cm rfl (by kernel_rfl) rfl rfl (Wk.wanted_none rfl) (fun w' a ha => Wk.o_f (Wk.x_move (ha.ev rfl)) hb) rfl ?_
            intro _ hd; replace hD := hD.trans hd; replace hW := cm.held _ _ hW hd; clear hd
            refine Wk.an_pskip (i := 27) cm rfl (by kernel_rfl) rfl rfl (Wk.wanted_not rfl rfl rfl rfl) rfl ?_
            intro _ hd; replace hD := hD.trans hd; replace hW := cm.held _ _ hW hd; clear hd
            refine Wk.an_pskip (i := 28) cm rfl (by kernel_rfl) rfl rfl (Wk.wanted_not rfl rfl rfl rfl) rfl ?_
            intro _ hd; replace hD := hD.trans hd; replace hW := cm.held _ _ hW hd; clear hd
            refine Wk.an_pskip (i := 29) cm rfl (by kernel_rfl) rfl rfl (Wk.wanted_not rfl rfl rfl rfl) rfl ?_
            intro _ hd; replace hD := hD.trans hd; replace hW := cm.held _ _ hW hd; clear hd
            refine Wk.an_pskip (i := 30) cm rfl (by kernel_rfl) rfl rfl (Wk.wanted_not rfl rfl rfl rfl) rfl ?_
            intro _ hd; replace hD := hD.trans hd; replace hW := cm.held _ _ hW hd; clear hd
            refine Wk.an_pskip (i := 31) cm rfl (by kernel_rfl) rfl rfl (Wk.wanted_not rfl rfl rfl rfl) rfl ?_
            intro _ hd; replace hD := hD.trans hd; replace hW := cm.held _ _ hW hd; clear hd
            refine Wk.an_pskip (i := 32) cm rfl (by kernel_rfl) rfl rfl (Wk.wanted_not rfl rfl rfl rfl) rfl ?_
            intro _ hd; replace hD := hD.trans hd; replace hW := cm.held _ _ hW hd; clear hd
            refine Wk.an_pskip (i := 33) cm rfl (by kernel_rfl) rfl rfl (Wk.wanted_not rfl rfl rfl rfl) rfl ?_
            intro _ hd; replace hD := hD.trans hd; replace hW := cm.held _ _ hW hd; clear hd
            refine Wk.an_pskip (i := 34) cm rfl (by kernel_rfl) rfl rfl (Wk.wanted_not rfl rfl rfl rfl) rfl ?_
            intro _ hd; replace hD := hD.trans hd; clear hd
            refine Wk.an_p (i := 35) cm rfl (by kernel_rfl) rfl rfl (Wk.wanted_none rfl) (fun w' a ha => Wk.x_pick_f (ha.ev rfl) (ha.ev rfl)) rfl ?_
            intro _ hd; replace hD := hD.trans hd; clear hd
            refine Wk.an_end (by kernel_rfl) hD ?_
            intro w5 hD; replace H := H _ hD; clear hD cm
            exact Wk.nx_to fun a ha => ⟨false, ha.weaken (Wk.sub.cons rfl (Wk.sub.cons rfl (Wk.sub.cons rfl (Wk.sub.cons rfl (Wk.sub.nil))))), H⟩
        · replace H := H.2 hb
          refine Wk.an_p (i := 16) cm rfl (by kernel_rfl) rfl rfl (Wk.wanted_none rfl) (fun w' a ha => Wk.o_f (Wk.x_move (ha.ev rfl)) hb) rfl ?_
          intro _ hd; replace hD := hD.trans hd; replace hW := cm.held _ _ hW hd; clear hd
          refine Wk.an_pskip (i := 17) cm rfl (by kernel_rfl) rfl rfl (Wk.wanted_not rfl rfl rfl rfl) rfl ?_
          intro _ hd; replace hD := hD.trans hd; replace hW := cm.held _ _ hW hd; clear hd
          refine Wk.an_pskip (i := 18) cm rfl (by kernel_rfl) rfl rfl (Wk.wanted_not rfl rfl rfl rfl) rfl ?_
          intro _ hd; replace hD := hD.trans hd; replace hW := cm.held _ _ hW hd; clear hd
          refine Wk.an_pskip (i := 19) cm rfl (by kernel_rfl) rfl rfl (Wk.wanted_not rfl rfl rfl rfl) rfl ?_
          intro _ hd; replace hD := hD.trans hd; replace hW := cm.held _ _ hW hd; clear hd
          refine Wk.an_pskip (i := 20) cm rfl (by kernel_rfl) rfl rfl (Wk.wanted_not rfl rfl rfl rfl) rfl ?_
          intro _ hd; replace hD := hD.trans hd; replace hW := cm.held _ _ hW hd; clear hd
          refine Wk.an_pskip (i := 21) cm rfl (by kernel_rfl) rfl rfl (Wk.wanted_not rfl rfl rfl rfl) rfl ?_
          intro _ hd; replace hD := hD.trans hd; replace hW := cm.held _ _ hW hd; clear hd
          refine Wk.an_pskip (i := 22) cm rfl (by kernel_rfl) rfl rfl (Wk.wanted_not rfl rfl rfl rfl) rfl ?_
          intro _ hd; replace hD := hD.trans hd; replace hW := cm.held _ _ hW hd; clear hd
          refine Wk.an_pskip (i := 23) cm rfl (by kernel_rfl) rfl rfl (Wk.wanted_not rfl rfl rfl rfl) rfl ?_
          intro _ hd; replace hD := hD.trans hd; replace hW := cm.held _ _ hW hd; clear hd
          refine Wk.an_pskip (i := 24) cm rfl (by kernel_rfl) rfl rfl (Wk.wanted_not rfl rfl rfl rfl) rfl ?_
          intro _ hd; replace hD := hD.trans hd; replace hW := cm.held _ _ hW hd; clear hd
          refine Wk.an_p (i := 25) cm rfl (by kernel_rfl) rfl rfl (Wk.wanted_none rfl) (fun w' a ha => Wk.x_pick_f (ha.ev rfl) (ha.ev rfl)) rfl ?_
          intro _ hd; replace hD := hD.trans hd; replace hW := cm.held _ _ hW hd; clear hd
          refine Wk.an_p (i := 26) cm rfl (by kernel_rfl) rfl rfl (Wk.wanted_none rfl) (fun w' a ha => Wk.x_move (ha.ev rfl)) rfl ?_
          intro _ hd; replace hD := hD.trans hd; replace hW := cm.held _ _ hW hd; clear hd
          refine Wk.an_pskip (i := 27) cm rfl (by kernel_rfl) rfl rfl (Wk.wanted_not rfl rfl rfl rfl) rfl ?_
          intro _ hd; replace hD := hD.trans hd; replace hW := cm.held _ _ hW hd; clear hd
          refine Wk.an_pskip (i := 28) cm rfl (by kernel_rfl) rfl rfl (Wk.wanted_not rfl rfl rfl rfl) rfl ?_
          intro _ hd; replace hD := hD.trans hd; replace hW := cm.held _ _ hW hd; clear hd
          refine Wk.an_pskip (i := 29) cm rfl (by kernel_rfl) rfl rfl (Wk.wanted_not rfl rfl rfl rfl) rfl ?_
          intro _ hd; replace hD := hD.trans hd; replace hW := cm.held _ _ hW hd; clear hd
          refine Wk.an_pskip (i := 30) cm rfl (by kernel_rfl) rfl rfl (Wk.wanted_not rfl rfl rfl rfl) rfl ?_
          intro _ hd; replace hD := hD.trans hd; replace hW := cm.held _ _ hW hd; clear hd
          refine Wk.an_pskip (i := 31) cm rfl (by kernel_rfl) rfl rfl (Wk.wanted_not rfl rfl rfl rfl) rfl ?_
          intro _ hd; replace hD := hD.trans hd; replace hW := cm.held _ _ hW hd; clear hd
          refine Wk.an_pskip (i := 32) cm rfl (by kernel_rfl) rfl rfl (Wk.wanted_not rfl rfl rfl rfl) rfl ?_
          intro _ hd; replace hD := hD.trans hd; replace hW := cm.held _ _ hW hd; clear hd
          refine Wk.an_pskip (i := 33) cm rfl (by kernel_rfl) rfl rfl (Wk.wanted_not rfl rfl rfl rfl) rfl ?_
          intro _ hd; replace hD := hD.trans hd; replace hW := cm.held _ _ hW hd; clear hd
          refine Wk.an_pskip (i := 34) cm rfl (by kernel_rfl) rfl rfl (Wk.wanted_not rfl rfl rfl rfl) rfl ?_
          intro _ hd; replace hD := hD.trans hd; clear hd
          refine Wk.an_p (i := 35) cm rfl (by kernel_rfl) rfl rfl (Wk.wanted_none rfl) (fun w' a ha => Wk.x_pick_f (ha.ev rfl) (ha.ev rfl)) rfl ?_
          intro _ hd; replace hD := hD.trans hd; clear hd
          refine Wk.an_end (by kernel_rfl) hD ?_
          intro w6 hD; replace H := H _ hD; clear hD cm
          exact Wk.nx_to fun a ha => ⟨false, ha.weaken (Wk.sub.cons rfl (Wk.sub.cons rfl (Wk.sub.cons rfl (Wk.sub.cons rfl (Wk.sub.nil))))), H⟩
      · replace H := H.2 hb
        refine Wk.an_p (i := 6) cm rfl (by kernel_rfl) rfl rfl (Wk.wanted_none rfl) (fun w' a ha => Wk.o_f (Wk.x_move (ha.ev rfl)) hb) rfl ?_
        intro _ hd; replace hD := hD.trans hd; replace hW := cm.held _ _ hW hd; clear hd
        refine Wk.an_pskip (i := 7) cm rfl (by kernel_rfl) rfl rfl (Wk.wanted_not rfl rfl rfl rfl) rfl ?_
        intro _ hd; replace hD := hD.trans hd; replace hW := cm.held _ _ hW hd; clear hd
        refine Wk.an_pskip (i := 8) cm rfl (by kernel_rfl) rfl rfl (Wk.wanted_not rfl rfl rfl rfl) rfl ?_
        intro _ hd; replace hD := hD.trans hd; replace hW := cm.held _ _ hW hd; clear hd
        refine Wk.an_pskip (i := 9) cm rfl (by kernel_rfl) rfl rfl (Wk.wanted_not rfl rfl rfl rfl) rfl ?_
        intro _ hd; replace hD := hD.trans hd; replace hW := cm.held _ _ hW hd; clear hd
        refine Wk.an_pskip (i := 10) cm rfl (by kernel_rfl) rfl rfl (Wk.wanted_not rfl rfl rfl rfl) rfl ?_
        intro _ hd; replace hD := hD.trans hd; replace hW := cm.held _ _ hW hd; clear hd
        refine Wk.an_pskip (i := 11) cm rfl (by kernel_rfl) rfl rfl (Wk.wanted_not rfl rfl rfl rfl) rfl ?_
        intro _ hd; replace hD := hD.trans hd; replace hW := cm.held _ _ hW hd; clear hd
        refine Wk.an_pskip (i := 12) cm rfl (by kernel_rfl) rfl rfl (Wk.wanted_not rfl rfl rfl rfl) rfl ?_
        intro _ hd; replace hD := hD.trans hd; replace hW := cm.held _ _ hW hd; clear hd
        refine Wk.an_pskip (i := 13) cm rfl (by kernel_rfl) rfl rfl (Wk.wanted_not rfl rfl rfl rfl) rfl ?_
        intro _ hd; replace hD := hD.trans hd; replace hW := cm.held _ _ hW hd; clear hd
        refine Wk.an_pskip (i := 14) cm rfl (by kernel_rfl) rfl rfl (Wk.wanted_not rfl rfl rfl rfl) rfl ?_
        intro _ hd; replace hD := hD.trans hd; replace hW := cm.held _ _ hW hd; clear hd
        refine Wk.an_p (i := 15) cm rfl (by kernel_rfl) rfl rfl (Wk.wanted_none rfl) (fun w' a ha => Wk.x_pick_f (ha.ev rfl) (ha.ev rfl)) rfl ?_
        intro _ hd; replace hD := hD.trans hd; replace hW := cm.held _ _ hW hd; clear hd
        refine Wk.an_p (i := 16) cm rfl (by kernel_rfl) rfl rfl (Wk.wanted_none rfl) (fun w' a ha => Wk.x_move (ha.ev rfl)) rfl ?_
        intro _ hd; replace hD := hD.trans hd; replace hW := cm.held _ _ hW hd; clear hd
        refine Wk.an_pskip (i := 17) cm rfl (by kernel_rfl) rfl rfl (Wk.wanted_not rfl rfl rfl rfl) rfl ?_
        intro _ hd; replace hD := hD.trans hd; replace hW := cm.held _ _ hW hd; clear hd
        refine Wk.an_pskip (i := 18) cm rfl (by kernel_rfl) rfl rfl (Wk.wanted_not rfl rfl rfl rfl) rfl ?_
        intro _ hd; replace hD := hD.trans hd; replace hW := cm.held _ _ hW hd; clear hd
        refine Wk.an_pskip (i := 19) cm rfl (by kernel_rfl) rfl rfl (Wk.wanted_not rfl rfl rfl rfl) rfl ?_
        intro _ hd; replace hD := hD.trans hd; replace hW := cm.held _ _ hW hd; clear hd
        refine Wk.an_pskip (i := 20) cm rfl (by kernel_rfl) rfl rfl (Wk.wanted_not rfl rfl rfl rfl) rfl ?_
        intro _ hd; replace hD := hD.trans hd; replace hW := cm.held _ _ hW hd; clear hd
        refine Wk.an_pskip (i := 21) cm rfl (by kernel_rfl) rfl rfl (Wk.wanted_not rfl rfl rfl rfl) rfl ?_
        intro _ hd; replace hD := hD.trans hd; replace hW := cm.held _ _ hW hd; clear hd
        refine Wk.an_pskip (i := 22) cm rfl (by kernel_rfl) rfl rfl (Wk.wanted_not rfl rfl rfl rfl) rfl ?_
        intro _ hd; replace hD := hD.trans hd; replace hW := cm.held _ _ hW hd; clear hd
        refine Wk.an_pskip (i := 23) cm rfl (by kernel_rfl) rfl rfl (Wk.wanted_not rfl rfl rfl rfl) rfl ?_
        intro _ hd; replace hD := hD.trans hd; replace hW := cm.held _ _ hW hd; clear hd
        refine Wk.an_pskip (i := 24) cm rfl (by kernel_rfl) rfl rfl (Wk.wanted_not rfl rfl rfl rfl) rfl ?_
        intro _ hd; replace hD := hD.trans hd; replace hW := cm.held _ _ hW hd; clear hd
        refine Wk.an_p (i := 25) cm rfl (by kernel_rfl) rfl rfl (Wk.wanted_none rfl) (fun w' a ha => Wk.x_pick_f (ha.ev rfl) (ha.ev rfl)) rfl ?_
        intro _ hd; replace hD := hD.trans hd; replace hW := cm.held _ _ hW hd; clear hd
        refine Wk.an_p (i := 26) cm rfl (by kernel_rfl) rfl rfl (Wk.wanted_none rfl) (fun w' a ha => Wk.x_move (ha.ev rfl)) rfl ?_
        intro _ hd; replace hD := hD.trans hd; replace hW := cm.held _ _ hW hd; clear hd
        refine Wk.an_pskip (i := 27) cm rfl (by kernel_rfl) rfl rfl (Wk.wanted_not rfl rfl rfl rfl) rfl ?_
        intro _ hd; replace hD := hD.trans hd; replace hW := cm.held _ _ hW hd; clear hd
        refine Wk.an_pskip (i := 28) cm rfl (by kernel_rfl) rfl rfl (Wk.wanted_not rfl rfl rfl rfl) rfl ?_
        intro _ hd; replace hD := hD.trans hd; replace hW := cm.held _ _ hW hd; clear hd
        refine Wk.an_pskip (i := 29) cm rfl (by kernel_rfl) rfl rfl (Wk.wanted_not rfl rfl rfl rfl) rfl ?_
        intro _ hd; replace hD := hD.trans hd; replace hW := cm.held _ _ hW hd; clear hd
        refine Wk.an_pskip (i := 30) cm rfl (by kernel_rfl) rfl rfl (Wk.wanted_not rfl rfl rfl rfl) rfl ?_
        intro _ hd; replace hD := hD.trans hd; replace hW := cm.held _ _ hW hd; clear hd
        refine Wk.an_pskip (i := 31) cm rfl (by kernel_rfl) rfl rfl (Wk.wanted_not rfl rfl rfl rfl) rfl ?_
        intro _ hd; replace hD := hD.trans hd; replace hW := cm.held _ _ hW hd; clear hd
        refine Wk.an_pskip (i := 32) cm rfl (by kernel_rfl) rfl rfl (Wk.wanted_not rfl rfl rfl rfl) rfl ?_
        intro _ hd; replace hD := hD.trans hd; replace hW := cm.held _ _ hW hd; clear hd
        refine Wk.an_pskip (i := 33) cm rfl (by kernel_rfl) rfl rfl (Wk.wanted_not rfl rfl rfl rfl) rfl ?_
        intro _ hd; replace hD := hD.trans hd; replace hW := cm.held _ _ hW hd; clear hd
        refine Wk.an_pskip (i := 34) cm rfl (by kernel_rfl) rfl rfl (Wk.wanted_not rfl rfl rfl rfl) rfl ?_
        intro _ hd; replace hD := hD.trans hd; clear hd
        refine Wk.an_p (i := 35) cm rfl (by kernel_rfl) rfl rfl (Wk.wanted_none rfl) (fun w' a ha => Wk.x_pick_f (ha.ev rfl) (ha.ev rfl)) rfl ?_
        intro _ hd; replace hD := hD.trans hd; clear hd
        refine Wk.an_end (by kernel_rfl) hD ?_
        intro w7 hD; replace H := H _ hD; clear hD cm
        exact Wk.nx_to fun a ha => ⟨false, ha.weaken (Wk.sub.cons rfl (Wk.sub.cons rfl (Wk.sub.cons rfl (Wk.sub.cons rfl (Wk.sub.nil))))), H⟩
  · replace H := H.2 hb
    refine Wk.cw_exit ?_
    refine Wk.nx_exit_then ?_
    refine Wk.nx_exit_then ?_
    refine Wk.nx_exit_hit ?_
    refine Wk.nx_code (Wk.cw_sub (e' := []) (Wk.sub.nil) ?_)
    refine Wk.cw_seq ?_
    refine Wk.cw_region ?_
    refine Wk.sl_v rfl rfl (Wk.wanted_none rfl) (fun a ha => Wk.x_assign (ha.ev rfl)) ?_
    refine Wk.sl_nil ?_
    refine Wk.nx_code (Wk.cw_sub (e' := [(4, (.bool false))]) (Wk.sub.cons rfl (Wk.sub.nil)) ?_)
    refine Wk.cw_ret ?_
    exact Wk.nx_body_ret (Wk.res1 rfl rfl) ⟨_, rfl, _, rfl, H⟩
def vc_arbiterref13_kid (A1 : Option Addr) (n1 : Nat) (c1 : Nat) (x1 : Int) (x2 : Int) (K : Int → Int → World → Prop) (w : World) : Prop :=
  0 ≤ x1 ∧ x1 < (n1 : Int) ∧ ∃ a1, A1 = some a1 ∧ ∃ A2 : Option Addr, ∃ n2 : Nat, ∃ c2 : Nat, w.cell? ((a1.add (x1.toNat * 5)).add 4) = some (.slice A2 n2 c2) ∧ 0 ≤ x2 ∧ x2 < (n2 : Int) ∧ ∃ a2, A2 = some a2 ∧ ∃ x5 : Int, w.cell? (a2.add (x2.toNat * 1)) = some (.int .i64 x5) ∧ 0 ≤ x5 ∧ x5 < (n1 : Int) ∧ ∃ a3, A1 = some a3 ∧ ∃ x6 : Int, w.cell? ((a3.add (x5.toNat * 5)).add 1) = some (.int .i64 x6) ∧ 0 ≤ x1 ∧ x1 < (n1 : Int) ∧ ∃ a4, A1 = some a4 ∧ ∃ A3 : Option Addr, ∃ n3 : Nat, ∃ c3 : Nat, w.cell? ((a4.add (x1.toNat * 5)).add 4) = some (.slice A3 n3 c3) ∧ 0 ≤ x2 ∧ x2 < (n3 : Int) ∧ ∃ a5, A3 = some a5 ∧ ∃ x7 : Int, w.cell? (a5.add (x2.toNat * 1)) = some (.int .i64 x7) ∧ 0 ≤ x7 ∧ x7 < (n1 : Int) ∧ ∃ a6, A1 = some a6 ∧ ∃ x8 : Int, w.cell? ((a6.add (x7.toNat * 5)).add 2) = some (.int .i64 x8) ∧ ∀ w1, Wk.Drawn w w1 → (K x6 x8 w1)
set_option maxHeartbeats 2000000 in
set_option maxRecDepth 20000 in
theorem ok_arbiterref13_kid (A1 : Option Addr) (n1 : Nat) (c1 : Nat) (x1 : Int) (x2 : Int) (K : Int → Int → World → Prop) (w : World) (H : vc_arbiterref13_kid A1 n1 c1 x1 x2 K w) : Calls P F.arbiterref13_kid #[(.slice A1 n1 c1), (.int .i64 x1), (.int .i64 x2)] w (Wk.Ret fun v w' => ∃ x3 : Int, ∃ x4 : Int, v = (.tuple #[(.int .i64 x3), (.int .i64 x4)]) ∧ K x3 x4 w') := by
  unfold vc_arbiterref13_kid at H
  refine Wk.calls_of (P := P) Try.func25 rfl [(0, (.slice A1 n1 c1)), (1, (.int .i64 x1)), (2, (.int .i64 x2))] 32 rfl rfl (fun p hp => by simp only [List.mem_cons, List.not_mem_nil, or_false] at hp; rcases hp with rfl | rfl | rfl <;> rfl) ?_
  refine Wk.cw_seq ?_
  refine Wk.cw_region ?_
  refine Wk.sl_v rfl rfl (Wk.wanted_none rfl) (fun a ha => Wk.x_assign (ha.ev rfl)) ?_
  refine Wk.sl_v rfl rfl (Wk.wanted_none rfl) (fun a ha => Wk.x_assign (ha.ev rfl)) ?_
  refine Wk.sl_nil ?_
  refine Wk.nx_code (Wk.cw_sub (e' := [(0, (.slice A1 n1 c1)), (1, (.int .i64 x1)), (2, (.int .i64 x2))]) (Wk.sub.cons rfl (Wk.sub.cons rfl (Wk.sub.cons rfl (Wk.sub.nil)))) ?_)
  refine Wk.cw_seq ?_
  refine Wk.cw_any_drawn follows [0, 1, 2, 3, 4, 5, 6, 7, 8, 9, 10, 11, 12, 13, 14, 15, 16, 17, 18, 19, 20, 21, 22, 23, 24, 25] [5, 8, 11, 17, 20, 23] 26 rfl rfl (by kernel_rfl) (fun _ _ d _ _ h => by cases d <;> exact h) (fun cm hW hD => ?_)
  refine Wk.an_p (i := 0) cm rfl (by kernel_rfl) rfl rfl (Wk.wanted_none rfl) (fun w' a ha => Wk.x_move (ha.ev rfl)) rfl ?_
  intro _ hd; replace hD := hD.trans hd; replace hW := cm.held _ _ hW hd; clear hd
  refine Wk.an_p (i := 1) cm rfl (by kernel_rfl) rfl rfl (Wk.wanted_none rfl) (fun w' a ha => Wk.x_move (ha.ev rfl)) rfl ?_
  intro _ hd; replace hD := hD.trans hd; replace hW := cm.held _ _ hW hd; clear hd
  refine Wk.an_p (i := 2) cm rfl (by kernel_rfl) rfl rfl (Wk.wanted_none rfl) (fun w' a ha => Wk.x_move (ha.ev rfl)) rfl ?_
  intro _ hd; replace hD := hD.trans hd; replace hW := cm.held _ _ hW hd; clear hd
  obtain ⟨h1, h2, a1, e1, H⟩ := H
  refine Wk.an_p (i := 3) cm rfl (by kernel_rfl) rfl rfl (Wk.wanted_none rfl) (fun w' a ha => Wk.x_indexAddr (ha.ev rfl) (ha.ev rfl) (Wk.i_index TF.elem_sl_api_Link TF.size_api_Link e1 h1 h2)) rfl ?_
  intro _ hd; replace hD := hD.trans hd; replace hW := cm.held _ _ hW hd; clear hd
  refine Wk.an_p (i := 4) cm rfl (by kernel_rfl) rfl rfl (Wk.wanted_none rfl) (fun w' a ha => Wk.x_fieldAddr (ha.ev rfl) (TF.fld_api_Link_4 _ _)) rfl ?_
  intro _ hd; replace hD := hD.trans hd; replace hW := cm.held _ _ hW hd; clear hd
  obtain ⟨A2, n2, c2, h3, H⟩ := H
  refine Wk.an_v (i := 5) cm rfl (by kernel_rfl) hW rfl rfl (Wk.wanted_none rfl) (fun w' hw a ha => Wk.x_load (ha.ev rfl) (Wk.i_load1 TF.agg_sl_int ((hw.cell _).trans h3))) rfl ?_
  intro _ hd hW; replace hD := hD.trans hd; clear hd
  refine Wk.an_p (i := 6) cm rfl (by kernel_rfl) rfl rfl (Wk.wanted_none rfl) (fun w' a ha => Wk.x_move (ha.ev rfl)) rfl ?_
  intro _ hd; replace hD := hD.trans hd; replace hW := cm.held _ _ hW hd; clear hd
  obtain ⟨h4, h5, a2, e2, H⟩ := H
  refine Wk.an_p (i := 7) cm rfl (by kernel_rfl) rfl rfl (Wk.wanted_none rfl) (fun w' a ha => Wk.x_indexAddr (ha.ev rfl) (ha.ev rfl) (Wk.i_index TF.elem_sl_int TF.size_int e2 h4 h5)) rfl ?_
  intro _ hd; replace hD := hD.trans hd; replace hW := cm.held _ _ hW hd; clear hd
  obtain ⟨x5, h6, H⟩ := H
  refine Wk.an_v (i := 8) cm rfl (by kernel_rfl) hW rfl rfl (Wk.wanted_none rfl) (fun w' hw a ha => Wk.x_load (ha.ev rfl) (Wk.i_load1 TF.agg_int ((hw.cell _).trans h6))) rfl ?_
  intro _ hd hW; replace hD := hD.trans hd; clear hd
  obtain ⟨h7, h8, a3, e3, H⟩ := H
  refine Wk.an_p (i := 9) cm rfl (by kernel_rfl) rfl rfl (Wk.wanted_none rfl) (fun w' a ha => Wk.x_indexAddr (ha.ev rfl) (ha.ev rfl) (Wk.i_index TF.elem_sl_api_Link TF.size_api_Link e3 h7 h8)) rfl ?_
  intro _ hd; replace hD := hD.trans hd; replace hW := cm.held _ _ hW hd; clear hd
  refine Wk.an_p (i := 10) cm rfl (by kernel_rfl) rfl rfl (Wk.wanted_none rfl) (fun w' a ha => Wk.x_fieldAddr (ha.ev rfl) (TF.fld_api_Link_1 _ _)) rfl ?_
  intro _ hd; replace hD := hD.trans hd; replace hW := cm.held _ _ hW hd; clear hd
  obtain ⟨x6, h9, H⟩ := H
  refine Wk.an_v (i := 11) cm rfl (by kernel_rfl) hW rfl rfl (Wk.wanted_none rfl) (fun w' hw a ha => Wk.x_load (ha.ev rfl) (Wk.i_load1 TF.agg_int ((hw.cell _).trans h9))) rfl ?_
  intro _ hd hW; replace hD := hD.trans hd; clear hd
  refine Wk.an_p (i := 12) cm rfl (by kernel_rfl) rfl rfl (Wk.wanted_none rfl) (fun w' a ha => Wk.x_move (ha.ev rfl)) rfl ?_
  intro _ hd; replace hD := hD.trans hd; replace hW := cm.held _ _ hW hd; clear hd
  refine Wk.an_p (i := 13) cm rfl (by kernel_rfl) rfl rfl (Wk.wanted_none rfl) (fun w' a ha => Wk.x_move (ha.ev rfl)) rfl ?_
  intro _ hd; replace hD := hD.trans hd; replace hW := cm.held _ _ hW hd; clear hd
  refine Wk.an_p (i := 14) cm rfl (by kernel_rfl) rfl rfl (Wk.wanted_none rfl) (fun w' a ha => Wk.x_move (ha.ev rfl)) rfl ?_
  intro _ hd; replace hD := hD.trans hd; replace hW := cm.held _ _ hW hd; clear hd
  obtain ⟨h10, h11, a4, e4, H⟩ := H
  refine Wk.an_p (i := 15) cm rfl (by kernel_rfl) rfl rfl (Wk.wanted_none rfl) (fun w' a ha => Wk.x_indexAddr (ha.ev rfl) (ha.ev rfl) (Wk.i_index TF.elem_sl_api_Link TF.size_api_Link e4 h10 h11)) rfl ?_
  intro _ hd; replace hD := hD.trans hd; replace hW := cm.held _ _ hW hd; clear hd
  refine Wk.an_p (i := 16) cm rfl (by kernel_rfl) rfl rfl (Wk.wanted_none rfl) (fun w' a ha => Wk.x_fieldAddr (ha.ev rfl) (TF.fld_api_Link_4 _ _)) rfl ?_
  intro _ hd; replace hD := hD.trans hd; replace hW := cm.held _ _ hW hd; clear hd
  obtain ⟨A3, n3, c3, h12, H⟩ := H
  refine Wk.an_v (i := 17) cm rfl (by kernel_rfl) hW rfl rfl (Wk.wanted_none rfl) (fun w' hw a ha => Wk.x_load (ha.ev rfl) (Wk.i_load1 TF.agg_sl_int ((hw.cell _).trans h12))) rfl ?_
  intro _ hd hW; replace hD := hD.trans hd; clear hd
  refine Wk.an_p (i := 18) cm rfl (by kernel_rfl) rfl rfl (Wk.wanted_none rfl) (fun w' a ha => Wk.x_move (ha.ev rfl)) rfl ?_
  intro _ hd; replace hD := hD.trans hd; replace hW := cm.held _ _ hW hd; clear hd
  obtain ⟨h13, h14, a5, e5, H⟩ := H
  refine Wk.an_p (i := 19) cm rfl (by kernel_rfl) rfl rfl (Wk.wanted_none rfl) (fun w' a ha => Wk.x_indexAddr (ha.ev rfl) (ha.ev rfl) (Wk.i_index TF.elem_sl_int TF.size_int e5 h13 h14)) rfl ?_
  intro _ hd; replace hD := hD.trans hd; replace hW := cm.held _ _ hW hd; clear hd
  obtain ⟨x7, h15, H⟩ := H
  refine Wk.an_v (i := 20) cm rfl (by kernel_rfl) hW rfl rfl (Wk.wanted_none rfl) (fun w' hw a ha => Wk.x_load (ha.ev rfl) (Wk.i_load1 TF.agg_int ((hw.cell _).trans h15))) rfl ?_
  intro _ hd hW; replace hD := hD.trans hd; clear hd
  obtain ⟨h16, h17, a6, e6, H⟩ := H
  refine Wk.an_p (i := 21) cm rfl (by kernel_rfl) rfl rfl (Wk.wanted_none rfl) (fun w' a ha => Wk.x_indexAddr (ha.ev rfl) (ha.ev rfl) (Wk.i_index TF.elem_sl_api_Link TF.size_api_Link e6 h16 h17)) rfl ?_
  intro _ hd; replace hD := hD.trans hd; replace hW := cm.held _ _ hW hd; clear hd
  refine Wk.an_p (i := 22) cm rfl (by kernel_rfl) rfl rfl (Wk.wanted_none rfl) (fun w' a ha => Wk.x_fieldAddr (ha.ev rfl) (TF.fld_api_Link_2 _ _)) rfl ?_
  intro _ hd; replace hD := hD.trans hd; replace hW := cm.held _ _ hW hd; clear hd
  obtain ⟨x8, h18, H⟩ := H
  refine Wk.an_v (i := 23) cm rfl (by kernel_rfl) hW rfl rfl (Wk.wanted_none rfl) (fun w' hw a ha => Wk.x_load (ha.ev rfl) (Wk.i_load1 TF.agg_int ((hw.cell _).trans h18))) rfl ?_
  intro _ hd hW; replace hD := hD.trans hd; clear hd
  refine Wk.an_p (i := 24) cm rfl (by kernel_rfl) rfl rfl (Wk.wanted_none rfl) (fun w' a ha => Wk.x_assign (ha.ev rfl)) rfl ?_
  intro _ hd; replace hD := hD.trans hd; clear hd
  refine Wk.an_p (i := 25) cm rfl (by kernel_rfl) rfl rfl (Wk.wanted_none rfl) (fun w' a ha => Wk.x_assign (ha.ev rfl)) rfl ?_
  intro _ hd; replace hD := hD.trans hd; clear hd
  refine Wk.an_end (by kernel_rfl) hD ?_
  intro w1 hD; replace H := H _ hD; clear hD cm
  refine Wk.nx_code (Wk.cw_sub (e' := [(6, (.int .i64 x6)), (7, (.int .i64 x8))]) (Wk.sub.cons rfl (Wk.sub.cons rfl (Wk.sub.nil))) ?_)
  refine Wk.cw_ret ?_
  exact Wk.nx_body_ret (Wk.res2 rfl rfl rfl) ⟨_, rfl, _, _, rfl, H⟩
def vc_arbiterref13_Alike_J1 (K : Bool → World → Prop) (w2 : World) (b2 : Bool) : Prop :=
  K b2 w2
def vc_arbiterref13_Alike (x1 : Int) (A1 : Option Addr) (n1 : Nat) (c1 : Nat) (x2 : Int) (A2 : Option Addr) (n2 : Nat) (c2 : Nat) (K : Bool → World → Prop) (w : World) : Prop :=
  ∀ (p1 : Addr) (w1 : World), Wk.New w (.cells #[(.int .i64 x1), (.slice A1 n1 c1)] T.api_Flat) p1 w1 → (∀ (p2 : Addr) (w2 : World), Wk.New w1 (.cells #[(.int .i64 x2), (.slice A2 n2 c2)] T.api_Flat) p2 w2 → (∃ x3 : Int, w2.cell? (p1.add 0) = some (.int .i64 x3) ∧ (0 ≤ x3 → (∃ x4 : Int, w2.cell? (p1.add 0) = some (.int .i64 x4) ∧ ∃ x5 : Int, w2.cell? (p2.add 0) = some (.int .i64 x5) ∧ (x4 = x5 → (∃ A3 : Option Addr, ∃ n3 : Nat, ∃ c3 : Nat, w2.cell? (p1.add 1) = some (.slice A3 n3 c3) ∧ ∃ A4 : Option Addr, ∃ n4 : Nat, ∃ c4 : Nat, w2.cell? (p2.add 1) = some (.slice A4 n4 c4) ∧ (vc_arbiterref13_Alike_J1 K w2) (decide ((n3 : Int) = (n4 : Int))))) ∧ (¬ (x4 = x5) → ((vc_arbiterref13_Alike_J1 K w2) false)))) ∧ (¬ (0 ≤ x3) → ((vc_arbiterref13_Alike_J1 K w2) false))))
set_option maxHeartbeats 2000000 in
set_option maxRecDepth 20000 in
theorem ok_arbiterref13_Alike (x1 : Int) (A1 : Option Addr) (n1 : Nat) (c1 : Nat) (x2 : Int) (A2 : Option Addr) (n2 : Nat) (c2 : Nat) (K : Bool → World → Prop) (w : World) (H : vc_arbiterref13_Alike x1 A1 n1 c1 x2 A2 n2 c2 K w) : Calls P F.arbiterref13_Alike #[(.agg #[(.int .i64 x1), (.slice A1 n1 c1)]), (.agg #[(.int .i64 x2), (.slice A2 n2 c2)])] w (Wk.Ret fun v w' => ∃ b1 : Bool, v = (.bool b1) ∧ K b1 w') := by
  unfold vc_arbiterref13_Alike at H
  refine Wk.calls_of (P := P) Try.func29 rfl [(0, (.agg #[(.int .i64 x1), (.slice A1 n1 c1)])), (1, (.agg #[(.int .i64 x2), (.slice A2 n2 c2)]))] 24 rfl rfl (fun p hp => by simp only [List.mem_cons, List.not_mem_nil, or_false] at hp; rcases hp with rfl | rfl <;> rfl) ?_
  refine Wk.cw_seq ?_
  refine Wk.cw_region ?_
  refine Wk.sl_new (f := (fun p => .pointer (some p))) rfl rfl (Wk.wanted_none rfl) (fun a ha => Wk.x_box (ha.ev rfl) Wk.i_box) ?_
  intro p1 w1 hN; replace H := H _ _ hN
  refine Wk.sl_new (f := (fun p => .pointer (some p))) rfl rfl (Wk.wanted_none rfl) (fun a ha => Wk.x_box (ha.ev rfl) Wk.i_box) ?_
  intro p2 w2 hN; replace H := H _ _ hN
  refine Wk.sl_v rfl rfl (Wk.wanted_none rfl) (fun a ha => Wk.x_assign (ha.ev rfl)) ?_
  refine Wk.sl_nil ?_
  refine Wk.nx_code (Wk.cw_sub (e' := [(2, (.pointer (some p1))), (3, (.pointer (some p2)))]) (Wk.sub.cons rfl (Wk.sub.cons rfl (Wk.sub.nil))) ?_)
  refine Wk.cw_join_still (fun a => ∃ b2 : Bool, Wk.Ok 24 [(4, (.bool b2))] a ∧ vc_arbiterref13_Alike_J1 K w2 b2) ?_ ?_
  · rintro a ⟨b2, ha, H⟩
    unfold vc_arbiterref13_Alike_J1 at H
    refine (?_ : Wk.CW _ _ _ 24 [(4, (.bool b2))] _) a ha
    refine Wk.cw_ret ?_
    exact Wk.nx_body_ret (Wk.res1 rfl rfl) ⟨_, rfl, _, rfl, H⟩
  · refine Wk.cw_region ?_
    refine Wk.sl_v rfl rfl (Wk.wanted_none rfl) (fun a ha => Wk.x_fieldAddr (ha.ev rfl) (TF.fld_api_Flat_0 _ _)) ?_
    obtain ⟨x3, h3, H⟩ := H
    refine Wk.sl_v rfl rfl (Wk.wanted_none rfl) (fun a ha => Wk.x_load (ha.ev rfl) (Wk.i_load1 TF.agg_int h3)) ?_
    refine Wk.sl_v rfl rfl (Wk.wanted_none rfl) (fun a ha => Wk.x_binOp (ha.ev rfl) (ha.ev rfl) Wk.o_geq) ?_
    rcases Classical.em (0 ≤ x3) with hb | hb
    · replace H := H.1 hb
      refine Wk.sl_v rfl rfl (Wk.wanted_none rfl) (fun a ha => Wk.o_t (Wk.x_move (ha.ev rfl)) hb) ?_
      refine Wk.sl_v rfl rfl (Wk.wanted_some rfl rfl rfl) (fun a ha => Wk.x_fieldAddr (ha.ev rfl) (TF.fld_api_Flat_0 _ _)) ?_
      obtain ⟨x4, h4, H⟩ := H
      refine Wk.sl_v rfl rfl (Wk.wanted_some rfl rfl rfl) (fun a ha => Wk.x_load (ha.ev rfl) (Wk.i_load1 TF.agg_int h4)) ?_
      refine Wk.sl_v rfl rfl (Wk.wanted_some rfl rfl rfl) (fun a ha => Wk.x_fieldAddr (ha.ev rfl) (TF.fld_api_Flat_0 _ _)) ?_
      obtain ⟨x5, h5, H⟩ := H
      refine Wk.sl_v rfl rfl (Wk.wanted_some rfl rfl rfl) (fun a ha => Wk.x_load (ha.ev rfl) (Wk.i_load1 TF.agg_int h5)) ?_
      refine Wk.sl_v rfl rfl (Wk.wanted_some rfl rfl rfl) (fun a ha => Wk.x_binOp (ha.ev rfl) (ha.ev rfl) Wk.o_eql) ?_
      refine Wk.sl_v rfl rfl (Wk.wanted_none rfl) (fun a ha => Wk.x_pick_t (ha.ev rfl) (ha.ev rfl)) ?_
      rcases Classical.em (x4 = x5) with hb | hb
      · replace H := H.1 hb
        refine Wk.sl_v rfl rfl (Wk.wanted_none rfl) (fun a ha => Wk.o_t (Wk.x_move (ha.ev rfl)) hb) ?_
        refine Wk.sl_v rfl rfl (Wk.wanted_some rfl rfl rfl) (fun a ha => Wk.x_fieldAddr (ha.ev rfl) (TF.fld_api_Flat_1 _ _)) ?_
        obtain ⟨A3, n3, c3, h6, H⟩ := H
        refine Wk.sl_v rfl rfl (Wk.wanted_some rfl rfl rfl) (fun a ha => Wk.x_load (ha.ev rfl) (Wk.i_load1 TF.agg_sl_int h6)) ?_
        refine Wk.sl_v rfl rfl (Wk.wanted_some rfl rfl rfl) (fun a ha => Wk.x_builtin (ha.evs rfl) (fun _ => Wk.l_slice TF.isslice_sl_int)) ?_
        refine Wk.sl_v rfl rfl (Wk.wanted_some rfl rfl rfl) (fun a ha => Wk.x_fieldAddr (ha.ev rfl) (TF.fld_api_Flat_1 _ _)) ?_
        obtain ⟨A4, n4, c4, h7, H⟩ := H
        refine Wk.sl_v rfl rfl (Wk.wanted_some rfl rfl rfl) (fun a ha => Wk.x_load (ha.ev rfl) (Wk.i_load1 TF.agg_sl_int h7)) ?_
        refine Wk.sl_v rfl rfl (Wk.wanted_some rfl rfl rfl) (fun a ha => Wk.x_builtin (ha.evs rfl) (fun _ => Wk.l_slice TF.isslice_sl_int)) ?_
        refine Wk.sl_v rfl rfl (Wk.wanted_some rfl rfl rfl) (fun a ha => Wk.x_binOp (ha.ev rfl) (ha.ev rfl) Wk.o_eql) ?_
        refine Wk.sl_v rfl rfl (Wk.wanted_none rfl) (fun a ha => Wk.x_pick_t (ha.ev rfl) (ha.ev rfl)) ?_
        refine Wk.sl_v rfl rfl (Wk.wanted_none rfl) (fun a ha => Wk.x_assign (ha.ev rfl)) ?_
        refine Wk.sl_nil ?_
        exact Wk.nx_to fun a ha => ⟨⟨(decide ((n3 : Int) = (n4 : Int))), ha.weaken (Wk.sub.cons rfl (Wk.sub.nil)), H⟩, rfl⟩
      · replace H := H.2 hb
        refine Wk.sl_v rfl rfl (Wk.wanted_none rfl) (fun a ha => Wk.o_f (Wk.x_move (ha.ev rfl)) hb) ?_
        refine Wk.sl_skip rfl rfl (Wk.wanted_not rfl rfl rfl rfl) ?_
        refine Wk.sl_skip rfl rfl (Wk.wanted_not rfl rfl rfl rfl) ?_
        refine Wk.sl_skip rfl rfl (Wk.wanted_not rfl rfl rfl rfl) ?_
        refine Wk.sl_skip rfl rfl (Wk.wanted_not rfl rfl rfl rfl) ?_
        refine Wk.sl_skip rfl rfl (Wk.wanted_not rfl rfl rfl rfl) ?_
        refine Wk.sl_skip rfl rfl (Wk.wanted_not rfl rfl rfl rfl) ?_
        refine Wk.sl_skip rfl rfl (Wk.wanted_not rfl rfl rfl rfl) ?_
        refine Wk.sl_v rfl rfl (Wk.wanted_none rfl) (fun a ha => Wk.x_pick_f (ha.ev rfl) (ha.ev rfl)) ?_
        refine Wk.sl_v rfl rfl (Wk.wanted_none rfl) (fun a ha => Wk.x_assign (ha.ev rfl)) ?_
        refine Wk.sl_nil ?_
        exact Wk.nx_to fun a ha => ⟨⟨false, ha.weaken (Wk.sub.cons rfl (Wk.sub.nil)), H⟩, rfl⟩
    · replace H := H.2 hb
      refine Wk.sl_v rfl rfl (Wk.wanted_none rfl) (fun a ha => Wk.o_f (Wk.x_move (ha.ev rfl)) hb) ?_
      refine Wk.sl_skip rfl rfl (Wk.wanted_not rfl rfl rfl rfl) ?_
      refine Wk.sl_skip rfl rfl (Wk.wanted_not rfl rfl rfl rfl) ?_
      refine Wk.sl_skip rfl rfl (Wk.wanted_not rfl rfl rfl rfl) ?_
      refine Wk.sl_skip rfl rfl (Wk.wanted_not rfl rfl rfl rfl) ?_
      refine Wk.sl_skip rfl rfl (Wk.wanted_not rfl rfl rfl rfl) ?_
      refine Wk.sl_v rfl rfl (Wk.wanted_none rfl) (fun a ha => Wk.x_pick_f (ha.ev rfl) (ha.ev rfl)) ?_
      refine Wk.sl_v rfl rfl (Wk.wanted_none rfl) (fun a ha => Wk.x_move (ha.ev rfl)) ?_
      refine Wk.sl_skip rfl rfl (Wk.wanted_not rfl rfl rfl rfl) ?_
      refine Wk.sl_skip rfl rfl (Wk.wanted_not rfl rfl rfl rfl) ?_
      refine Wk.sl_skip rfl rfl (Wk.wanted_not rfl rfl rfl rfl) ?_
      refine Wk.sl_skip rfl rfl (Wk.wanted_not rfl rfl rfl rfl) ?_
      refine Wk.sl_skip rfl rfl (Wk.wanted_not rfl rfl rfl rfl) ?_
      refine Wk.sl_skip rfl rfl (Wk.wanted_not rfl rfl rfl rfl) ?_
      refine Wk.sl_skip rfl rfl (Wk.wanted_not rfl rfl rfl rfl) ?_
      refine Wk.sl_v rfl rfl (Wk.wanted_none rfl) (fun a ha => Wk.x_pick_f (ha.ev rfl) (ha.ev rfl)) ?_
      refine Wk.sl_v rfl rfl (Wk.wanted_none rfl) (fun a ha => Wk.x_assign (ha.ev rfl)) ?_
      refine Wk.sl_nil ?_
      exact Wk.nx_to fun a ha => ⟨⟨false, ha.weaken (Wk.sub.cons rfl (Wk.sub.nil)), H⟩, rfl⟩
def vc_arbiterref13_congruence_J1 (K : Bool → World → Prop) (w10 : World) (k1 : Nat) (I1 : Nat → Int → World → Prop) (x12 : Int) (b4 : Bool) : Prop :=
  (b4 = true → (K false w10)) ∧ (b4 = false → (∃ k2, k2 < k1 ∧ I1 k2 (IntKind.wrap .i64 (x12 + 1)) w10))
def vc_arbiterref13_congruence_J2 (K : Bool → World → Prop) (p1 : Addr) (A2 : Option Addr) (n2 : Nat) (c2 : Nat) (x1 : Int) (p2 : Addr) (p3 : Addr) (b3 : Bool) (w8 : World) : Prop :=
  (b3 = true → (K false w8)) ∧ (b3 = false → (∃ I1 : Nat → Int → World → Prop, (∃ k1, I1 k1 0 w8) ∧ ∀ k1 (x12 : Int) (w9 : World), I1 k1 x12 w9 → (∃ A10 : Option Addr, ∃ n10 : Nat, ∃ c10 : Nat, w9.cell? (p1.add 4) = some (.slice A10 n10 c10) ∧ (x12 < (n10 : Int) → (Calls P F.arbiterref13_kid #[(.slice A2 n2 c2), (.int .i64 x1), (.int .i64 x12)] w9 (Wk.Ret fun v2 w10 => ∃ x13 : Int, ∃ x14 : Int, v2 = (.tuple #[(.int .i64 x13), (.int .i64 x14)]) ∧ ∃ A11 : Option Addr, ∃ n11 : Nat, ∃ c11 : Nat, w10.cell? (p2.add 1) = some (.slice A11 n11 c11) ∧ 0 ≤ x12 ∧ x12 < (n11 : Int) ∧ ∃ a4, A11 = some a4 ∧ ∃ x15 : Int, w10.cell? (a4.add (x12.toNat * 1)) = some (.int .i64 x15) ∧ (x13 ≠ x15 → ((vc_arbiterref13_congruence_J1 K w10 k1 I1 x12) true)) ∧ (¬ (x13 ≠ x15) → (∃ A12 : Option Addr, ∃ n12 : Nat, ∃ c12 : Nat, w10.cell? (p3.add 1) = some (.slice A12 n12 c12) ∧ 0 ≤ x12 ∧ x12 < (n12 : Int) ∧ ∃ a5, A12 = some a5 ∧ ∃ x16 : Int, w10.cell? (a5.add (x12.toNat * 1)) = some (.int .i64 x16) ∧ (vc_arbiterref13_congruence_J1 K w10 k1 I1 x12) (decide (x14 ≠ x16))))))) ∧ (¬ (x12 < (n10 : Int)) → (K true w9)))))
def vc_arbiterref13_congruence (A1 : Option Addr) (n1 : Nat) (c1 : Nat) (A2 : Option Addr) (n2 : Nat) (c2 : Nat) (x1 : Int) (K : Bool → World → Prop) (w : World) : Prop :=
  0 ≤ x1 ∧ x1 < (n2 : Int) ∧ ∃ a1, A2 = some a1 ∧ ∃ x2 : Int, ∃ x3 : Int, ∃ x4 : Int, ∃ x5 : Int, ∃ A3 : Option Addr, ∃ n3 : Nat, ∃ c3 : Nat, Wk.CellsAt w (a1.add (x1.toNat * 5)) [(.int .i64 x2), (.int .i64 x3), (.int .i64 x4), (.int .i64 x5), (.slice A3 n3 c3)] ∧ ∀ (p1 : Addr) (w1 : World), Wk.New w (.cells #[(.int .i64 0), (.int .i64 0), (.int .i64 0), (.int .i64 0), (.slice none 0 0)] T.api_Link) p1 w1 → (Wk.Soft w1 p1 5 ∧ ∀ w2, w2 = Wk.setCellsAt w1 p1 [(.int .i64 x2), (.int .i64 x3), (.int .i64 x4), (.int .i64 x5), (.slice A3 n3 c3)] → (∃ x6 : Int, w2.cell? (p1.add 1) = some (.int .i64 x6) ∧ 0 ≤ x6 ∧ x6 < (n1 : Int) ∧ ∃ a2, A1 = some a2 ∧ ∃ x7 : Int, ∃ A4 : Option Addr, ∃ n4 : Nat, ∃ c4 : Nat, Wk.CellsAt w2 (a2.add (x6.toNat * 2)) [(.int .i64 x7), (.slice A4 n4 c4)] ∧ ∀ (p2 : Addr) (w3 : World), Wk.New w2 (.cells #[(.int .i64 0), (.slice none 0 0)] T.api_Flat) p2 w3 → (Wk.Soft w3 p2 2 ∧ ∀ w4, w4 = Wk.setCellsAt w3 p2 [(.int .i64 x7), (.slice A4 n4 c4)] → (∃ x8 : Int, w4.cell? (p1.add 2) = some (.int .i64 x8) ∧ 0 ≤ x8 ∧ x8 < (n1 : Int) ∧ ∃ a3, A1 = some a3 ∧ ∃ x9 : Int, ∃ A5 : Option Addr, ∃ n5 : Nat, ∃ c5 : Nat, Wk.CellsAt w4 (a3.add (x8.toNat * 2)) [(.int .i64 x9), (.slice A5 n5 c5)] ∧ ∀ (p3 : Addr) (w5 : World), Wk.New w4 (.cells #[(.int .i64 0), (.slice none 0 0)] T.api_Flat) p3 w5 → (Wk.Soft w5 p3 2 ∧ ∀ w6, w6 = Wk.setCellsAt w5 p3 [(.int .i64 x9), (.slice A5 n5 c5)] → (∃ x10 : Int, ∃ A6 : Option Addr, ∃ n6 : Nat, ∃ c6 : Nat, Wk.CellsAt w6 p2 [(.int .i64 x10), (.slice A6 n6 c6)] ∧ ∃ x11 : Int, ∃ A7 : Option Addr, ∃ n7 : Nat, ∃ c7 : Nat, Wk.CellsAt w6 p3 [(.int .i64 x11), (.slice A7 n7 c7)] ∧ Calls P F.arbiterref13_Alike #[(.agg #[(.int .i64 x10), (.slice A6 n6 c6)]), (.agg #[(.int .i64 x11), (.slice A7 n7 c7)])] w6 (Wk.Ret fun v1 w7 => ∃ b2 : Bool, v1 = (.bool b2) ∧ ((!b2) = true → ((vc_arbiterref13_congruence_J2 K p1 A2 n2 c2 x1 p2 p3) true w7)) ∧ ((!b2) = false → (∃ A8 : Option Addr, ∃ n8 : Nat, ∃ c8 : Nat, w7.cell? (p1.add 4) = some (.slice A8 n8 c8) ∧ ∃ A9 : Option Addr, ∃ n9 : Nat, ∃ c9 : Nat, w7.cell? (p2.add 1) = some (.slice A9 n9 c9) ∧ (vc_arbiterref13_congruence_J2 K p1 A2 n2 c2 x1 p2 p3) (decide ((n8 : Int) ≠ (n9 : Int))) w7)))))))))
set_option maxHeartbeats 2000000 in
set_option maxRecDepth 20000 in
theorem ok_arbiterref13_congruence (A1 : Option Addr) (n1 : Nat) (c1 : Nat) (A2 : Option Addr) (n2 : Nat) (c2 : Nat) (x1 : Int) (K : Bool → World → Prop) (w : World) (H : vc_arbiterref13_congruence A1 n1 c1 A2 n2 c2 x1 K w) : Calls P F.arbiterref13_congruence #[(.slice A1 n1 c1), (.slice A2 n2 c2), (.int .i64 x1)] w (Wk.Ret fun v w' => ∃ b1 : Bool, v = (.bool b1) ∧ K b1 w') := by
  unfold vc_arbiterref13_congruence at H
  refine Wk.calls_of (P := P) Try.func26 rfl [(0, (.slice A1 n1 c1)), (1, (.slice A2 n2 c2)), (2, (.int .i64 x1))] 70 rfl rfl (fun p hp => by simp only [List.mem_cons, List.not_mem_nil, or_false] at hp; rcases hp with rfl | rfl | rfl <;> rfl) ?_
  refine Wk.cw_seq ?_
  refine Wk.cw_region ?_
  refine Wk.sl_v rfl rfl (Wk.wanted_none rfl) (fun a ha => Wk.x_assign (ha.ev rfl)) ?_
  refine Wk.sl_nil ?_
  refine Wk.nx_code (Wk.cw_sub (e' := [(0, (.slice A1 n1 c1)), (1, (.slice A2 n2 c2)), (2, (.int .i64 x1))]) (Wk.sub.cons rfl (Wk.sub.cons rfl (Wk.sub.cons rfl (Wk.sub.nil)))) ?_)
  refine Wk.cw_seq ?_
  refine Wk.cw_region ?_
  refine Wk.sl_v rfl rfl (Wk.wanted_none rfl) (fun a ha => Wk.x_move (ha.ev rfl)) ?_
  refine Wk.sl_v rfl rfl (Wk.wanted_none rfl) (fun a ha => Wk.x_move (ha.ev rfl)) ?_
  obtain ⟨h1, h2, a1, e1, H⟩ := H
  refine Wk.sl_v rfl rfl (Wk.wanted_none rfl) (fun a ha => Wk.x_indexAddr (ha.ev rfl) (ha.ev rfl) (Wk.i_index TF.elem_sl_api_Link TF.size_api_Link e1 h1 h2)) ?_
  obtain ⟨x2, x3, x4, x5, A3, n3, c3, h3, H⟩ := H
  refine Wk.sl_v rfl rfl (Wk.wanted_none rfl) (fun a ha => Wk.x_load (ha.ev rfl) (Wk.i_loadN (vs := [(.int .i64 x2), (.int .i64 x3), (.int .i64 x4), (.int .i64 x5), (.slice A3 n3 c3)]) TF.agg_api_Link TF.size_api_Link h3)) ?_
  refine Wk.sl_new (f := (fun p => .pointer (some p))) rfl rfl (Wk.wanted_none rfl) (fun a ha => Wk.x_alloc (Wk.i_alloc TF.zero_api_Link)) ?_
  intro p1 w1 hN; replace H := H _ _ hN
  obtain ⟨h5, H⟩ := H
  refine Wk.sl_un rfl (Wk.wanted_none rfl) (fun a ha => Wk.x_store (ha.ev rfl) (ha.ev rfl) (Wk.i_storeN TF.size_api_Link (by simp [Value.oneCell']) h5)) ?_
  intro w2 hw; replace H := H _ hw; clear hw
  refine Wk.sl_nil ?_
  refine Wk.nx_code (Wk.cw_sub (e' := [(0, (.slice A1 n1 c1)), (1, (.slice A2 n2 c2)), (2, (.int .i64 x1)), (7, (.pointer (some p1)))]) (Wk.sub.cons rfl (Wk.sub.cons rfl (Wk.sub.cons rfl (Wk.sub.cons rfl (Wk.sub.nil))))) ?_)
  refine Wk.cw_seq ?_
  refine Wk.cw_region ?_
  refine Wk.sl_v rfl rfl (Wk.wanted_none rfl) (fun a ha => Wk.x_move (ha.ev rfl)) ?_
  refine Wk.sl_v rfl rfl (Wk.wanted_none rfl) (fun a ha => Wk.x_fieldAddr (ha.ev rfl) (TF.fld_api_Link_1 _ _)) ?_
  obtain ⟨x6, h6, H⟩ := H
  refine Wk.sl_v rfl rfl (Wk.wanted_none rfl) (fun a ha => Wk.x_load (ha.ev rfl) (Wk.i_load1 TF.agg_int h6)) ?_
  obtain ⟨h7, h8, a2, e2, H⟩ := H
  refine Wk.sl_v rfl rfl (Wk.wanted_none rfl) (fun a ha => Wk.x_indexAddr (ha.ev rfl) (ha.ev rfl) (Wk.i_index TF.elem_sl_api_Flat TF.size_api_Flat e2 h7 h8)) ?_
  obtain ⟨x7, A4, n4, c4, h9, H⟩ := H
  refine Wk.sl_v rfl rfl (Wk.wanted_none rfl) (fun a ha => Wk.x_load (ha.ev rfl) (Wk.i_loadN (vs := [(.int .i64 x7), (.slice A4 n4 c4)]) TF.agg_api_Flat TF.size_api_Flat h9)) ?_
  refine Wk.sl_new (f := (fun p => .pointer (some p))) rfl rfl (Wk.wanted_none rfl) (fun a ha => Wk.x_alloc (Wk.i_alloc TF.zero_api_Flat)) ?_
  intro p2 w3 hN; replace H := H _ _ hN
  obtain ⟨h11, H⟩ := H
  refine Wk.sl_un rfl (Wk.wanted_none rfl) (fun a ha => Wk.x_store (ha.ev rfl) (ha.ev rfl) (Wk.i_storeN TF.size_api_Flat (by simp [Value.oneCell']) h11)) ?_
  intro w4 hw; replace H := H _ hw; clear hw
  refine Wk.sl_nil ?_
  refine Wk.nx_code (Wk.cw_sub (e' := [(0, (.slice A1 n1 c1)), (1, (.slice A2 n2 c2)), (2, (.int .i64 x1)), (7, (.pointer (some p1))), (8, (.pointer (some p2)))]) (Wk.sub.cons rfl (Wk.sub.cons rfl (Wk.sub.cons rfl (Wk.sub.cons rfl (Wk.sub.cons rfl (Wk.sub.nil)))))) ?_)
  refine Wk.cw_seq ?_
  refine Wk.cw_region ?_
  refine Wk.sl_v rfl rfl (Wk.wanted_none rfl) (fun a ha => Wk.x_move (ha.ev rfl)) ?_
  refine Wk.sl_v rfl rfl (Wk.wanted_none rfl) (fun a ha => Wk.x_fieldAddr (ha.ev rfl) (TF.fld_api_Link_2 _ _)) ?_
  obtain ⟨x8, h12, H⟩ := H
  refine Wk.sl_v rfl rfl (Wk.wanted_none rfl) (fun a ha => Wk.x_load (ha.ev rfl) (Wk.i_load1 TF.agg_int h12)) ?_
  obtain ⟨h13, h14, a3, e3, H⟩ := H
  refine Wk.sl_v rfl rfl (Wk.wanted_none rfl) (fun a ha => Wk.x_indexAddr (ha.ev rfl) (ha.ev rfl) (Wk.i_index TF.elem_sl_api_Flat TF.size_api_Flat e3 h13 h14)) ?_
  obtain ⟨x9, A5, n5, c5, h15, H⟩ := H
  refine Wk.sl_v rfl rfl (Wk.wanted_none rfl) (fun a ha => Wk.x_load (ha.ev rfl) (Wk.i_loadN (vs := [(.int .i64 x9), (.slice A5 n5 c5)]) TF.agg_api_Flat TF.size_api_Flat h15)) ?_
  refine Wk.sl_new (f := (fun p => .pointer (some p))) rfl rfl (Wk.wanted_none rfl) (fun a ha => Wk.x_alloc (Wk.i_alloc TF.zero_api_Flat)) ?_
  intro p3 w5 hN; replace H := H _ _ hN
  obtain ⟨h17, H⟩ := H
  refine Wk.sl_un rfl (Wk.wanted_none rfl) (fun a ha => Wk.x_store (ha.ev rfl) (ha.ev rfl) (Wk.i_storeN TF.size_api_Flat (by simp [Value.oneCell']) h17)) ?_
  intro w6 hw; replace H := H _ hw; clear hw
  refine Wk.sl_nil ?_
  refine Wk.nx_code (Wk.cw_sub (e' := [(1, (.slice A2 n2 c2)), (2, (.int .i64 x1)), (7, (.pointer (some p1))), (8, (.pointer (some p2))), (9, (.pointer (some p3)))]) (Wk.sub.cons rfl (Wk.sub.cons rfl (Wk.sub.cons rfl (Wk.sub.cons rfl (Wk.sub.cons rfl (Wk.sub.nil)))))) ?_)
  refine Wk.cw_seq ?_
  refine Wk.cw_join (fun a w => ∃ b3 : Bool, Wk.Ok 70 [(1, (.slice A2 n2 c2)), (2, (.int .i64 x1)), (7, (.pointer (some p1))), (8, (.pointer (some p2))), (9, (.pointer (some p3))), (39, (.bool b3))] a ∧ vc_arbiterref13_congruence_J2 K p1 A2 n2 c2 x1 p2 p3 b3 w) ?_ ?_
  · rintro a w8 ⟨b3, ha, H⟩
    unfold vc_arbiterref13_congruence_J2 at H
    refine (?_ : Wk.CW _ _ _ 70 [(1, (.slice A2 n2 c2)), (2, (.int .i64 x1)), (7, (.pointer (some p1))), (8, (.pointer (some p2))), (9, (.pointer (some p3))), (39, (.bool b3))] _) a ha
    refine Wk.cw_cond rfl (fun hb => ?_) (fun hb => ?_)
    · replace H := H.1 hb
      refine Wk.cw_seq ?_
      refine Wk.cw_region ?_
      refine Wk.sl_v rfl rfl (Wk.wanted_none rfl) (fun a ha => Wk.x_assign (ha.ev rfl)) ?_
      refine Wk.sl_nil ?_
      refine Wk.nx_code (Wk.cw_sub (e' := [(6, (.bool false))]) (Wk.sub.cons rfl (Wk.sub.nil)) ?_)
      refine Wk.cw_ret ?_
      refine Wk.nx_ret_then ?_
      exact Wk.nx_body_ret (Wk.res1 rfl rfl) ⟨_, rfl, _, rfl, H⟩
    · replace H := H.2 hb
      refine Wk.cw_skip ?_
      refine Wk.nx_code (Wk.cw_sub (e' := [(1, (.slice A2 n2 c2)), (2, (.int .i64 x1)), (7, (.pointer (some p1))), (8, (.pointer (some p2))), (9, (.pointer (some p3)))]) (Wk.sub.cons rfl (Wk.sub.cons rfl (Wk.sub.cons rfl (Wk.sub.cons rfl (Wk.sub.cons rfl (Wk.sub.nil)))))) ?_)
      refine Wk.cw_seq ?_
      refine Wk.cw_seq ?_
      refine Wk.cw_region ?_
      refine Wk.sl_v rfl rfl (Wk.wanted_none rfl) (fun a ha => Wk.x_assign (ha.ev rfl)) ?_
      refine Wk.sl_nil ?_
      refine Wk.nx_code (Wk.cw_sub (e' := [(1, (.slice A2 n2 c2)), (2, (.int .i64 x1)), (7, (.pointer (some p1))), (8, (.pointer (some p2))), (9, (.pointer (some p3))), (10, (.int .i64 0))]) (Wk.sub.cons rfl (Wk.sub.cons rfl (Wk.sub.cons rfl (Wk.sub.cons rfl (Wk.sub.cons rfl (Wk.sub.cons rfl (Wk.sub.nil))))))) ?_)
      refine Wk.cw_block ?_
      obtain ⟨I1, ⟨k1, hi⟩, H⟩ := H
      refine Wk.cw_loop (fun k1 a w' => ∃ x12 : Int, Wk.Ok 70 [(1, (.slice A2 n2 c2)), (2, (.int .i64 x1)), (7, (.pointer (some p1))), (8, (.pointer (some p2))), (9, (.pointer (some p3))), (10, (.int .i64 x12))] a ∧ I1 k1 x12 w') (fun a ha => ⟨k1, 0, ha.weaken (Wk.sub.cons rfl (Wk.sub.cons rfl (Wk.sub.cons rfl (Wk.sub.cons rfl (Wk.sub.cons rfl (Wk.sub.cons rfl (Wk.sub.nil))))))), hi⟩) ?_
      rintro k1 a w9 ⟨x12, ha, hI⟩
      replace H := H k1 x12 w9 hI
      refine (?_ : Wk.CW _ _ _ 70 [(1, (.slice A2 n2 c2)), (2, (.int .i64 x1)), (7, (.pointer (some p1))), (8, (.pointer (some p2))), (9, (.pointer (some p3))), (10, (.int .i64 x12))] _) a ha
      refine Wk.cw_seq ?_
      refine Wk.cw_seq ?_
      refine Wk.cw_region ?_
      refine Wk.sl_v rfl rfl (Wk.wanted_none rfl) (fun a ha => Wk.x_move (ha.ev rfl)) ?_
      refine Wk.sl_v rfl rfl (Wk.wanted_none rfl) (fun a ha => Wk.x_fieldAddr (ha.ev rfl) (TF.fld_api_Link_4 _ _)) ?_
      obtain ⟨A10, n10, c10, h22, H⟩ := H
      refine Wk.sl_v rfl rfl (Wk.wanted_none rfl) (fun a ha => Wk.x_load (ha.ev rfl) (Wk.i_load1 TF.agg_sl_int h22)) ?_
      refine Wk.sl_v rfl rfl (Wk.wanted_none rfl) (fun a ha => Wk.x_builtin (ha.evs rfl) (fun _ => Wk.l_slice TF.isslice_sl_int)) ?_
      refine Wk.sl_v rfl rfl (Wk.wanted_none rfl) (fun a ha => Wk.x_binOp (ha.ev rfl) (ha.ev rfl) Wk.o_lss) ?_
      refine Wk.sl_nil ?_
      refine Wk.nx_code (Wk.cw_sub (e' := [(1, (.slice A2 n2 c2)), (2, (.int .i64 x1)), (7, (.pointer (some p1))), (8, (.pointer (some p2))), (9, (.pointer (some p3))), (10, (.int .i64 x12)), (44, (.bool (decide (x12 < (n10 : Int)))))]) (Wk.sub.cons rfl (Wk.sub.cons rfl (Wk.sub.cons rfl (Wk.sub.cons rfl (Wk.sub.cons rfl (Wk.sub.cons rfl (Wk.sub.cons rfl (Wk.sub.nil)))))))) ?_)
      refine Wk.cw_cond_p rfl (fun hb => ?_) (fun hb => ?_)
      · replace H := H.1 hb
        refine Wk.cw_skip ?_
        refine Wk.nx_code (Wk.cw_sub (e' := [(1, (.slice A2 n2 c2)), (2, (.int .i64 x1)), (7, (.pointer (some p1))), (8, (.pointer (some p2))), (9, (.pointer (some p3))), (10, (.int .i64 x12))]) (Wk.sub.cons rfl (Wk.sub.cons rfl (Wk.sub.cons rfl (Wk.sub.cons rfl (Wk.sub.cons rfl (Wk.sub.cons rfl (Wk.sub.nil))))))) ?_)
        refine Wk.cw_seq ?_
        refine Wk.cw_block ?_
        refine Wk.cw_seq ?_
        refine Wk.cw_region ?_
        refine Wk.sl_v rfl rfl (Wk.wanted_none rfl) (fun a ha => Wk.x_move (ha.ev rfl)) ?_
        refine Wk.sl_v rfl rfl (Wk.wanted_none rfl) (fun a ha => Wk.x_move (ha.ev rfl)) ?_
        refine Wk.sl_v rfl rfl (Wk.wanted_none rfl) (fun a ha => Wk.x_move (ha.ev rfl)) ?_
        refine Wk.sl_call rfl rfl (Wk.wanted_none rfl) (fun a ha => Wk.x_call0 (ha.ev rfl) (ha.evs rfl) FF.callable_arbiterref13_kid) H ?_
        rintro _ w10 ⟨x13, x14, rfl, H⟩
        refine Wk.sl_v rfl rfl (Wk.wanted_none rfl) (fun a ha => Wk.x_move (ha.ev rfl)) ?_
        refine Wk.sl_v rfl rfl (Wk.wanted_none rfl) (fun a ha => Wk.x_extract (ha.ev rfl) rfl) ?_
        refine Wk.sl_v rfl rfl (Wk.wanted_none rfl) (fun a ha => Wk.x_extract (ha.ev rfl) rfl) ?_
        refine Wk.sl_v rfl rfl (Wk.wanted_none rfl) (fun a ha => Wk.x_assign (ha.ev rfl)) ?_
        refine Wk.sl_v rfl rfl (Wk.wanted_none rfl) (fun a ha => Wk.x_assign (ha.ev rfl)) ?_
        refine Wk.sl_nil ?_
        refine Wk.nx_code (Wk.cw_sub (e' := [(1, (.slice A2 n2 c2)), (2, (.int .i64 x1)), (7, (.pointer (some p1))), (8, (.pointer (some p2))), (9, (.pointer (some p3))), (10, (.int .i64 x12)), (11, (.int .i64 x13)), (12, (.int .i64 x14))]) (Wk.sub.cons rfl (Wk.sub.cons rfl (Wk.sub.cons rfl (Wk.sub.cons rfl (Wk.sub.cons rfl (Wk.sub.cons rfl (Wk.sub.cons rfl (Wk.sub.cons rfl (Wk.sub.nil))))))))) ?_)
        refine Wk.cw_join_still (fun a => ∃ b4 : Bool, Wk.Ok 70 [(1, (.slice A2 n2 c2)), (2, (.int .i64 x1)), (7, (.pointer (some p1))), (8, (.pointer (some p2))), (9, (.pointer (some p3))), (10, (.int .i64 x12)), (69, (.bool b4))] a ∧ vc_arbiterref13_congruence_J1 K w10 k1 I1 x12 b4) ?_ ?_
        · rintro a ⟨b4, ha, H⟩
          unfold vc_arbiterref13_congruence_J1 at H
          refine (?_ : Wk.CW _ _ _ 70 [(1, (.slice A2 n2 c2)), (2, (.int .i64 x1)), (7, (.pointer (some p1))), (8, (.pointer (some p2))), (9, (.pointer (some p3))), (10, (.int .i64 x12)), (69, (.bool b4))] _) a ha
          refine Wk.cw_cond rfl (fun hb => ?_) (fun hb => ?_)
          · replace H := H.1 hb
            refine Wk.cw_seq ?_
            refine Wk.cw_region ?_
            refine Wk.sl_v rfl rfl (Wk.wanted_none rfl) (fun a ha => Wk.x_assign (ha.ev rfl)) ?_
            refine Wk.sl_nil ?_
            refine Wk.nx_code (Wk.cw_sub (e' := [(6, (.bool false))]) (Wk.sub.cons rfl (Wk.sub.nil)) ?_)
            refine Wk.cw_ret ?_
            refine Wk.nx_ret_block ?_
            refine Wk.nx_ret_then ?_
            refine Wk.nx_ret_then ?_
            refine Wk.nx_ret_block ?_
            refine Wk.nx_ret_then ?_
            exact Wk.nx_body_ret (Wk.res1 rfl rfl) ⟨_, rfl, _, rfl, H⟩
          · replace H := H.2 hb
            refine Wk.cw_skip ?_
            refine Wk.nx_block ?_
            refine Wk.nx_code (Wk.cw_sub (e' := [(1, (.slice A2 n2 c2)), (2, (.int .i64 x1)), (7, (.pointer (some p1))), (8, (.pointer (some p2))), (9, (.pointer (some p3))), (10, (.int .i64 x12))]) (Wk.sub.cons rfl (Wk.sub.cons rfl (Wk.sub.cons rfl (Wk.sub.cons rfl (Wk.sub.cons rfl (Wk.sub.cons rfl (Wk.sub.nil))))))) ?_)
            refine Wk.cw_region ?_
            refine Wk.sl_v rfl rfl (Wk.wanted_none rfl) (fun a ha => Wk.x_move (ha.ev rfl)) ?_
            refine Wk.sl_v rfl rfl (Wk.wanted_none rfl) (fun a ha => Wk.x_binOp (ha.ev rfl) (ha.ev rfl) Wk.o_add) ?_
            refine Wk.sl_v rfl rfl (Wk.wanted_none rfl) (fun a ha => Wk.x_assign (ha.ev rfl)) ?_
            refine Wk.sl_nil ?_
            obtain ⟨k2, hk, H⟩ := H
            exact Wk.nx_to fun a ha => ⟨k2, hk, IntKind.wrap .i64 (x12 + 1), ha.weaken (Wk.sub.cons rfl (Wk.sub.cons rfl (Wk.sub.cons rfl (Wk.sub.cons rfl (Wk.sub.cons rfl (Wk.sub.cons rfl (Wk.sub.nil))))))), H⟩
        · refine Wk.cw_region ?_
          refine Wk.sl_v rfl rfl (Wk.wanted_none rfl) (fun a ha => Wk.x_move (ha.ev rfl)) ?_
          refine Wk.sl_v rfl rfl (Wk.wanted_none rfl) (fun a ha => Wk.x_fieldAddr (ha.ev rfl) (TF.fld_api_Flat_1 _ _)) ?_
          obtain ⟨A11, n11, c11, h23, H⟩ := H
          refine Wk.sl_v rfl rfl (Wk.wanted_none rfl) (fun a ha => Wk.x_load (ha.ev rfl) (Wk.i_load1 TF.agg_sl_int h23)) ?_
          refine Wk.sl_v rfl rfl (Wk.wanted_none rfl) (fun a ha => Wk.x_move (ha.ev rfl)) ?_
          obtain ⟨h24, h25, a4, e4, H⟩ := H
          refine Wk.sl_v rfl rfl (Wk.wanted_none rfl) (fun a ha => Wk.x_indexAddr (ha.ev rfl) (ha.ev rfl) (Wk.i_index TF.elem_sl_int TF.size_int e4 h24 h25)) ?_
          obtain ⟨x15, h26, H⟩ := H
          refine Wk.sl_v rfl rfl (Wk.wanted_none rfl) (fun a ha => Wk.x_load (ha.ev rfl) (Wk.i_load1 TF.agg_int h26)) ?_
          refine Wk.sl_v rfl rfl (Wk.wanted_none rfl) (fun a ha => Wk.x_binOp (ha.ev rfl) (ha.ev rfl) Wk.o_neq) ?_
          rcases Classical.em (x13 ≠ x15) with hb | hb
          · replace H := H.1 hb
            refine Wk.sl_v rfl rfl (Wk.wanted_none rfl) (fun a ha => Wk.o_t (Wk.x_move (ha.ev rfl)) hb) ?_
            refine Wk.sl_skip rfl rfl (Wk.wanted_not rfl rfl rfl rfl) ?_
            refine Wk.sl_skip rfl rfl (Wk.wanted_not rfl rfl rfl rfl) ?_
            refine Wk.sl_skip rfl rfl (Wk.wanted_not rfl rfl rfl rfl) ?_
            refine Wk.sl_skip rfl rfl (Wk.wanted_not rfl rfl rfl rfl) ?_
            refine Wk.sl_skip rfl rfl (Wk.wanted_not rfl rfl rfl rfl) ?_
            refine Wk.sl_skip rfl rfl (Wk.wanted_not rfl rfl rfl rfl) ?_
            refine Wk.sl_skip rfl rfl (Wk.wanted_not rfl rfl rfl rfl) ?_
            refine Wk.sl_v rfl rfl (Wk.wanted_none rfl) (fun a ha => Wk.x_pick_t (ha.ev rfl) (ha.ev rfl)) ?_
            refine Wk.sl_nil ?_
            exact Wk.nx_to fun a ha => ⟨⟨true, ha.weaken (Wk.sub.cons rfl (Wk.sub.cons rfl (Wk.sub.cons rfl (Wk.sub.cons rfl (Wk.sub.cons rfl (Wk.sub.cons rfl (Wk.sub.cons rfl (Wk.sub.nil)))))))), H⟩, rfl⟩
          · replace H := H.2 hb
            refine Wk.sl_v rfl rfl (Wk.wanted_none rfl) (fun a ha => Wk.o_f (Wk.x_move (ha.ev rfl)) hb) ?_
            refine Wk.sl_v rfl rfl (Wk.wanted_some rfl rfl rfl) (fun a ha => Wk.x_move (ha.ev rfl)) ?_
            refine Wk.sl_v rfl rfl (Wk.wanted_some rfl rfl rfl) (fun a ha => Wk.x_fieldAddr (ha.ev rfl) (TF.fld_api_Flat_1 _ _)) ?_
            obtain ⟨A12, n12, c12, h27, H⟩ := H
            refine Wk.sl_v rfl rfl (Wk.wanted_some rfl rfl rfl) (fun a ha => Wk.x_load (ha.ev rfl) (Wk.i_load1 TF.agg_sl_int h27)) ?_
            refine Wk.sl_v rfl rfl (Wk.wanted_some rfl rfl rfl) (fun a ha => Wk.x_move (ha.ev rfl)) ?_
            obtain ⟨h28, h29, a5, e5, H⟩ := H
            refine Wk.sl_v rfl rfl (Wk.wanted_some rfl rfl rfl) (fun a ha => Wk.x_indexAddr (ha.ev rfl) (ha.ev rfl) (Wk.i_index TF.elem_sl_int TF.size_int e5 h28 h29)) ?_
            obtain ⟨x16, h30, H⟩ := H
            refine Wk.sl_v rfl rfl (Wk.wanted_some rfl rfl rfl) (fun a ha => Wk.x_load (ha.ev rfl) (Wk.i_load1 TF.agg_int h30)) ?_
            refine Wk.sl_v rfl rfl (Wk.wanted_some rfl rfl rfl) (fun a ha => Wk.x_binOp (ha.ev rfl) (ha.ev rfl) Wk.o_neq) ?_
            refine Wk.sl_v rfl rfl (Wk.wanted_none rfl) (fun a ha => Wk.x_pick_f (ha.ev rfl) (ha.ev rfl)) ?_
            refine Wk.sl_nil ?_
            exact Wk.nx_to fun a ha => ⟨⟨(decide (x14 ≠ x16)), ha.weaken (Wk.sub.cons rfl (Wk.sub.cons rfl (Wk.sub.cons rfl (Wk.sub.cons rfl (Wk.sub.cons rfl (Wk.sub.cons rfl (Wk.sub.cons rfl (Wk.sub.nil)))))))), H⟩, rfl⟩
      · replace H := H.2 hb
        refine Wk.cw_exit ?_
        refine Wk.nx_exit_then ?_
        refine Wk.nx_exit_then ?_
        refine Wk.nx_exit_hit ?_
        refine Wk.nx_code (Wk.cw_sub (e' := []) (Wk.sub.nil) ?_)
        refine Wk.cw_seq ?_
        refine Wk.cw_region ?_
        refine Wk.sl_v rfl rfl (Wk.wanted_none rfl) (fun a ha => Wk.x_assign (ha.ev rfl)) ?_
        refine Wk.sl_nil ?_
        refine Wk.nx_code (Wk.cw_sub (e' := [(6, (.bool true))]) (Wk.sub.cons rfl (Wk.sub.nil)) ?_)
        refine Wk.cw_ret ?_
        exact Wk.nx_body_ret (Wk.res1 rfl rfl) ⟨_, rfl, _, rfl, H⟩
  · refine Wk.cw_region ?_
    obtain ⟨x10, A6, n6, c6, h18, H⟩ := H
    refine Wk.sl_v rfl rfl (Wk.wanted_none rfl) (fun a ha => Wk.x_load (ha.ev rfl) (Wk.i_loadN (vs := [(.int .i64 x10), (.slice A6 n6 c6)]) TF.agg_api_Flat TF.size_api_Flat h18)) ?_
    obtain ⟨x11, A7, n7, c7, h19, H⟩ := H
    refine Wk.sl_v rfl rfl (Wk.wanted_none rfl) (fun a ha => Wk.x_load (ha.ev rfl) (Wk.i_loadN (vs := [(.int .i64 x11), (.slice A7 n7 c7)]) TF.agg_api_Flat TF.size_api_Flat h19)) ?_
    refine Wk.sl_call rfl rfl (Wk.wanted_none rfl) (fun a ha => Wk.x_call0 (ha.ev rfl) (ha.evs rfl) FF.callable_arbiterref13_Alike) H ?_
    rintro _ w7 ⟨b2, rfl, H⟩
    refine Wk.sl_v rfl rfl (Wk.wanted_none rfl) (fun a ha => Wk.x_unOp (ha.ev rfl) Wk.u_not) ?_
    rcases Wk.tf (!b2) with hb | hb
    · replace H := H.1 hb
      refine Wk.sl_v rfl rfl (Wk.wanted_none rfl) (fun a ha => Wk.o_bt (Wk.x_move (ha.ev rfl)) hb) ?_
      refine Wk.sl_skip rfl rfl (Wk.wanted_not rfl rfl rfl rfl) ?_
      refine Wk.sl_skip rfl rfl (Wk.wanted_not rfl rfl rfl rfl) ?_
      refine Wk.sl_skip rfl rfl (Wk.wanted_not rfl rfl rfl rfl) ?_
      refine Wk.sl_skip rfl rfl (Wk.wanted_not rfl rfl rfl rfl) ?_
      refine Wk.sl_skip rfl rfl (Wk.wanted_not rfl rfl rfl rfl) ?_
      refine Wk.sl_skip rfl rfl (Wk.wanted_not rfl rfl rfl rfl) ?_
      refine Wk.sl_skip rfl rfl (Wk.wanted_not rfl rfl rfl rfl) ?_
      refine Wk.sl_v rfl rfl (Wk.wanted_none rfl) (fun a ha => Wk.x_pick_t (ha.ev rfl) (ha.ev rfl)) ?_
      refine Wk.sl_nil ?_
      exact Wk.nx_to fun a ha => ⟨true, ha.weaken (Wk.sub.cons rfl (Wk.sub.cons rfl (Wk.sub.cons rfl (Wk.sub.cons rfl (Wk.sub.cons rfl (Wk.sub.cons rfl (Wk.sub.nil))))))), H⟩
    · replace H := H.2 hb
      refine Wk.sl_v rfl rfl (Wk.wanted_none rfl) (fun a ha => Wk.o_bf (Wk.x_move (ha.ev rfl)) hb) ?_
      refine Wk.sl_v rfl rfl (Wk.wanted_some rfl rfl rfl) (fun a ha => Wk.x_fieldAddr (ha.ev rfl) (TF.fld_api_Link_4 _ _)) ?_
      obtain ⟨A8, n8, c8, h20, H⟩ := H
      refine Wk.sl_v rfl rfl (Wk.wanted_some rfl rfl rfl) (fun a ha => Wk.x_load (ha.ev rfl) (Wk.i_load1 TF.agg_sl_int h20)) ?_
      refine Wk.sl_v rfl rfl (Wk.wanted_some rfl rfl rfl) (fun a ha => Wk.x_builtin (ha.evs rfl) (fun _ => Wk.l_slice TF.isslice_sl_int)) ?_
      refine Wk.sl_v rfl rfl (Wk.wanted_some rfl rfl rfl) (fun a ha => Wk.x_fieldAddr (ha.ev rfl) (TF.fld_api_Flat_1 _ _)) ?_
      obtain ⟨A9, n9, c9, h21, H⟩ := H
      refine Wk.sl_v rfl rfl (Wk.wanted_some rfl rfl rfl) (fun a ha => Wk.x_load (ha.ev rfl) (Wk.i_load1 TF.agg_sl_int h21)) ?_
      refine Wk.sl_v rfl rfl (Wk.wanted_some rfl rfl rfl) (fun a ha => Wk.x_builtin (ha.evs rfl) (fun _ => Wk.l_slice TF.isslice_sl_int)) ?_
      refine Wk.sl_v rfl rfl (Wk.wanted_some rfl rfl rfl) (fun a ha => Wk.x_binOp (ha.ev rfl) (ha.ev rfl) Wk.o_neq) ?_
      refine Wk.sl_v rfl rfl (Wk.wanted_none rfl) (fun a ha => Wk.x_pick_f (ha.ev rfl) (ha.ev rfl)) ?_
      refine Wk.sl_nil ?_
      exact Wk.nx_to fun a ha => ⟨(decide ((n8 : Int) ≠ (n9 : Int))), ha.weaken (Wk.sub.cons rfl (Wk.sub.cons rfl (Wk.sub.cons rfl (Wk.sub.cons rfl (Wk.sub.cons rfl (Wk.sub.cons rfl (Wk.sub.nil))))))), H⟩
def vc_arbiterref13_Follows_J1 (K : Bool → World → Prop) (w2 : World) (k1 : Nat) (I1 : Nat → Int → Prop) (x10 : Int) (b3 : Bool) : Prop :=
  (b3 = true → (K false w2)) ∧ (b3 = false → (∃ k2, k2 < k1 ∧ I1 k2 (IntKind.wrap .i64 (x10 + 1))))
def vc_arbiterref13_Follows_J2 (K : Bool → World → Prop) (b5 : Bool) (w4 : World) : Prop :=
  K b5 w4
def vc_arbiterref13_Follows_J3 (K : Bool → World → Prop) (w2 : World) (b6 : Bool) : Prop :=
  K b6 w2
def vc_arbiterref13_Follows_J4 (K : Bool → World → Prop) (w5 : World) (b7 : Bool) : Prop :=
  K b7 w5
def vc_arbiterref13_Follows_J5 (K : Bool → World → Prop) (w7 : World) (b8 : Bool) : Prop :=
  K b8 w7
def vc_arbiterref13_Follows_J6 (K : Bool → World → Prop) (w2 : World) (p1 : Addr) (x1 : Int) (A2 : Option Addr) (n2 : Nat) (c2 : Nat) (A3 : Option Addr) (n3 : Nat) (c3 : Nat) (A1 : Option Addr) (n1 : Nat) (c1 : Nat) (b2 : Bool) : Prop :=
  (b2 = true → (K false w2)) ∧ (b2 = false → (∃ I1 : Nat → Int → Prop, (∃ k1, I1 k1 0) ∧ ∀ k1 (x10 : Int), I1 k1 x10 → (∃ A5 : Option Addr, ∃ n5 : Nat, ∃ c5 : Nat, w2.cell? (p1.add 4) = some (.slice A5 n5 c5) ∧ (x10 < (n5 : Int) → (∃ A6 : Option Addr, ∃ n6 : Nat, ∃ c6 : Nat, w2.cell? (p1.add 4) = some (.slice A6 n6 c6) ∧ 0 ≤ x10 ∧ x10 < (n6 : Int) ∧ ∃ a2, A6 = some a2 ∧ ∃ x11 : Int, w2.cell? (a2.add (x10.toNat * 1)) = some (.int .i64 x11) ∧ (x11 < 0 → ((vc_arbiterref13_Follows_J1 K w2 k1 I1 x10) true)) ∧ (¬ (x11 < 0) → (∃ A7 : Option Addr, ∃ n7 : Nat, ∃ c7 : Nat, w2.cell? (p1.add 4) = some (.slice A7 n7 c7) ∧ 0 ≤ x10 ∧ x10 < (n7 : Int) ∧ ∃ a3, A7 = some a3 ∧ ∃ x12 : Int, w2.cell? (a3.add (x10.toNat * 1)) = some (.int .i64 x12) ∧ (vc_arbiterref13_Follows_J1 K w2 k1 I1 x10) (decide (x1 ≤ x12)))))) ∧ (¬ (x10 < (n5 : Int)) → (∃ x13 : Int, w2.cell? (p1.add 0) = some (.int .i64 x13) ∧ (x13 = 1 → (∃ A8 : Option Addr, ∃ n8 : Nat, ∃ c8 : Nat, w2.cell? (p1.add 4) = some (.slice A8 n8 c8) ∧ ((n8 : Int) = 0 → (∃ x14 : Int, ∃ x15 : Int, ∃ x16 : Int, ∃ x17 : Int, ∃ A9 : Option Addr, ∃ n9 : Nat, ∃ c9 : Nat, Wk.CellsAt w2 p1 [(.int .i64 x14), (.int .i64 x15), (.int .i64 x16), (.int .i64 x17), (.slice A9 n9 c9)] ∧ Calls P F.arbiterref13_given #[(.slice A2 n2 c2), (.agg #[(.int .i64 x14), (.int .i64 x15), (.int .i64 x16), (.int .i64 x17), (.slice A9 n9 c9)])] w2 (Wk.Ret fun v1 w3 => ∃ b4 : Bool, v1 = (.bool b4) ∧ (vc_arbiterref13_Follows_J2 K) b4 w3))) ∧ (¬ ((n8 : Int) = 0) → ((vc_arbiterref13_Follows_J2 K) false w2)))) ∧ (¬ (x13 = 1) → (∃ x18 : Int, w2.cell? (p1.add 3) = some (.int .i64 x18) ∧ (x18 ≠ 0 → (K false w2)) ∧ (¬ (x18 ≠ 0) → (∃ x19 : Int, w2.cell? (p1.add 0) = some (.int .i64 x19) ∧ (x19 = 2 → (∃ A10 : Option Addr, ∃ n10 : Nat, ∃ c10 : Nat, w2.cell? (p1.add 4) = some (.slice A10 n10 c10) ∧ ((n10 : Int) = 0 → (∃ x20 : Int, w2.cell? (p1.add 1) = some (.int .i64 x20) ∧ ∃ x21 : Int, w2.cell? (p1.add 2) = some (.int .i64 x21) ∧ (vc_arbiterref13_Follows_J3 K w2) (decide (x20 = x21)))) ∧ (¬ ((n10 : Int) = 0) → ((vc_arbiterref13_Follows_J3 K w2) false)))) ∧ (¬ (x19 = 2) → ((x19 = 3 → (∃ A11 : Option Addr, ∃ n11 : Nat, ∃ c11 : Nat, w2.cell? (p1.add 4) = some (.slice A11 n11 c11) ∧ ((n11 : Int) ≠ 1 → (K false w2)) ∧ (¬ ((n11 : Int) ≠ 1) → (Calls P F.arbiterref13_kid #[(.slice A3 n3 c3), (.int .i64 x1), (.int .i64 0)] w2 (Wk.Ret fun v2 w5 => ∃ x22 : Int, ∃ x23 : Int, v2 = (.tuple #[(.int .i64 x22), (.int .i64 x23)]) ∧ ∃ x24 : Int, w5.cell? (p1.add 2) = some (.int .i64 x24) ∧ (x22 = x24 → (∃ x25 : Int, w5.cell? (p1.add 1) = some (.int .i64 x25) ∧ (vc_arbiterref13_Follows_J4 K w5) (decide (x23 = x25)))) ∧ (¬ (x22 = x24) → ((vc_arbiterref13_Follows_J4 K w5) false))))))) ∧ (¬ (x19 = 3) → ((x19 = 4 → (∃ A12 : Option Addr, ∃ n12 : Nat, ∃ c12 : Nat, w2.cell? (p1.add 4) = some (.slice A12 n12 c12) ∧ ((n12 : Int) ≠ 2 → (K false w2)) ∧ (¬ ((n12 : Int) ≠ 2) → (Calls P F.arbiterref13_kid #[(.slice A3 n3 c3), (.int .i64 x1), (.int .i64 0)] w2 (Wk.Ret fun v3 w6 => ∃ x26 : Int, ∃ x27 : Int, v3 = (.tuple #[(.int .i64 x26), (.int .i64 x27)]) ∧ Calls P F.arbiterref13_kid #[(.slice A3 n3 c3), (.int .i64 x1), (.int .i64 1)] w6 (Wk.Ret fun v4 w7 => ∃ x28 : Int, ∃ x29 : Int, v4 = (.tuple #[(.int .i64 x28), (.int .i64 x29)]) ∧ ∃ x30 : Int, w7.cell? (p1.add 1) = some (.int .i64 x30) ∧ (x26 = x30 → ((x27 = x28 → (∃ x31 : Int, w7.cell? (p1.add 2) = some (.int .i64 x31) ∧ (vc_arbiterref13_Follows_J5 K w7) (decide (x29 = x31)))) ∧ (¬ (x27 = x28) → ((vc_arbiterref13_Follows_J5 K w7) false)))) ∧ (¬ (x26 = x30) → ((vc_arbiterref13_Follows_J5 K w7) false)))))))) ∧ (¬ (x19 = 4) → ((x19 = 5 → (Calls P F.arbiterref13_congruence #[(.slice A1 n1 c1), (.slice A3 n3 c3), (.int .i64 x1)] w2 (Wk.Ret fun v5 w8 => ∃ b9 : Bool, v5 = (.bool b9) ∧ K b9 w8))) ∧ (¬ (x19 = 5) → (K false w2)))))))))))))))))
def vc_arbiterref13_Follows (A1 : Option Addr) (n1 : Nat) (c1 : Nat) (A2 : Option Addr) (n2 : Nat) (c2 : Nat) (A3 : Option Addr) (n3 : Nat) (c3 : Nat) (x1 : Int) (K : Bool → World → Prop) (w : World) : Prop :=
  0 ≤ x1 ∧ x1 < (n3 : Int) ∧ ∃ a1, A3 = some a1 ∧ ∃ x2 : Int, ∃ x3 : Int, ∃ x4 : Int, ∃ x5 : Int, ∃ A4 : Option Addr, ∃ n4 : Nat, ∃ c4 : Nat, Wk.CellsAt w (a1.add (x1.toNat * 5)) [(.int .i64 x2), (.int .i64 x3), (.int .i64 x4), (.int .i64 x5), (.slice A4 n4 c4)] ∧ ∀ (p1 : Addr) (w1 : World), Wk.New w (.cells #[(.int .i64 0), (.int .i64 0), (.int .i64 0), (.int .i64 0), (.slice none 0 0)] T.api_Link) p1 w1 → (Wk.Soft w1 p1 5 ∧ ∀ w2, w2 = Wk.setCellsAt w1 p1 [(.int .i64 x2), (.int .i64 x3), (.int .i64 x4), (.int .i64 x5), (.slice A4 n4 c4)] → (∃ x6 : Int, w2.cell? (p1.add 1) = some (.int .i64 x6) ∧ (x6 < 0 → ((vc_arbiterref13_Follows_J6 K w2 p1 x1 A2 n2 c2 A3 n3 c3 A1 n1 c1) true)) ∧ (¬ (x6 < 0) → (∃ x7 : Int, w2.cell? (p1.add 1) = some (.int .i64 x7) ∧ ((n1 : Int) ≤ x7 → ((vc_arbiterref13_Follows_J6 K w2 p1 x1 A2 n2 c2 A3 n3 c3 A1 n1 c1) true)) ∧ (¬ ((n1 : Int) ≤ x7) → (∃ x8 : Int, w2.cell? (p1.add 2) = some (.int .i64 x8) ∧ (x8 < 0 → ((vc_arbiterref13_Follows_J6 K w2 p1 x1 A2 n2 c2 A3 n3 c3 A1 n1 c1) true)) ∧ (¬ (x8 < 0) → (∃ x9 : Int, w2.cell? (p1.add 2) = some (.int .i64 x9) ∧ (vc_arbiterref13_Follows_J6 K w2 p1 x1 A2 n2 c2 A3 n3 c3 A1 n1 c1) (decide ((n1 : Int) ≤ x9))))))))))
set_option maxHeartbeats 2000000 in
set_option maxRecDepth 20000 in
theorem ok_arbiterref13_Follows (A1 : Option Addr) (n1 : Nat) (c1 : Nat) (A2 : Option Addr) (n2 : Nat) (c2 : Nat) (A3 : Option Addr) (n3 : Nat) (c3 : Nat) (x1 : Int) (K : Bool → World → Prop) (w : World) (H : vc_arbiterref13_Follows A1 n1 c1 A2 n2 c2 A3 n3 c3 x1 K w) : Calls P F.arbiterref13_Follows #[(.slice A1 n1 c1), (.slice A2 n2 c2), (.slice A3 n3 c3), (.int .i64 x1)] w (Wk.Ret fun v w' => ∃ b1 : Bool, v = (.bool b1) ∧ K b1 w') := by
  unfold vc_arbiterref13_Follows at H
  refine Wk.calls_of (P := P) Try.func17 rfl [(0, (.slice A1 n1 c1)), (1, (.slice A2 n2 c2)), (2, (.slice A3 n3 c3)), (3, (.int .i64 x1))] 156 rfl rfl (fun p hp => by simp only [List.mem_cons, List.not_mem_nil, or_false] at hp; rcases hp with rfl | rfl | rfl | rfl <;> rfl) ?_
  refine Wk.cw_seq ?_
  refine Wk.cw_region ?_
  refine Wk.sl_v rfl rfl (Wk.wanted_none rfl) (fun a ha => Wk.x_assign (ha.ev rfl)) ?_
  refine Wk.sl_nil ?_
  refine Wk.nx_code (Wk.cw_sub (e' := [(0, (.slice A1 n1 c1)), (1, (.slice A2 n2 c2)), (2, (.slice A3 n3 c3)), (3, (.int .i64 x1))]) (Wk.sub.cons rfl (Wk.sub.cons rfl (Wk.sub.cons rfl (Wk.sub.cons rfl (Wk.sub.nil))))) ?_)
  refine Wk.cw_seq ?_
  refine Wk.cw_region ?_
  refine Wk.sl_v rfl rfl (Wk.wanted_none rfl) (fun a ha => Wk.x_move (ha.ev rfl)) ?_
  refine Wk.sl_v rfl rfl (Wk.wanted_none rfl) (fun a ha => Wk.x_move (ha.ev rfl)) ?_
  obtain ⟨h1, h2, a1, e1, H⟩ := H
  refine Wk.sl_v rfl rfl (Wk.wanted_none rfl) (fun a ha => Wk.x_indexAddr (ha.ev rfl) (ha.ev rfl) (Wk.i_index TF.elem_sl_api_Link TF.size_api_Link e1 h1 h2)) ?_
  obtain ⟨x2, x3, x4, x5, A4, n4, c4, h3, H⟩ := H
  refine Wk.sl_v rfl rfl (Wk.wanted_none rfl) (fun a ha => Wk.x_load (ha.ev rfl) (Wk.i_loadN (vs := [(.int .i64 x2), (.int .i64 x3), (.int .i64 x4), (.int .i64 x5), (.slice A4 n4 c4)]) TF.agg_api_Link TF.size_api_Link h3)) ?_
  refine Wk.sl_new (f := (fun p => .pointer (some p))) rfl rfl (Wk.wanted_none rfl) (fun a ha => Wk.x_alloc (Wk.i_alloc TF.zero_api_Link)) ?_
  intro p1 w1 hN; replace H := H _ _ hN
  obtain ⟨h5, H⟩ := H
  refine Wk.sl_un rfl (Wk.wanted_none rfl) (fun a ha => Wk.x_store (ha.ev rfl) (ha.ev rfl) (Wk.i_storeN TF.size_api_Link (by simp [Value.oneCell']) h5)) ?_
  intro w2 hw; replace H := H _ hw; clear hw
  refine Wk.sl_nil ?_
  refine Wk.nx_code (Wk.cw_sub (e' := [(0, (.slice A1 n1 c1)), (1, (.slice A2 n2 c2)), (2, (.slice A3 n3 c3)), (3, (.int .i64 x1)), (9, (.pointer (some p1)))]) (Wk.sub.cons rfl (Wk.sub.cons rfl (Wk.sub.cons rfl (Wk.sub.cons rfl (Wk.sub.cons rfl (Wk.sub.nil)))))) ?_)
  refine Wk.cw_seq ?_
  refine Wk.cw_join_still (fun a => ∃ b2 : Bool, Wk.Ok 156 [(0, (.slice A1 n1 c1)), (1, (.slice A2 n2 c2)), (2, (.slice A3 n3 c3)), (3, (.int .i64 x1)), (9, (.pointer (some p1))), (42, (.bool b2))] a ∧ vc_arbiterref13_Follows_J6 K w2 p1 x1 A2 n2 c2 A3 n3 c3 A1 n1 c1 b2) ?_ ?_
  · rintro a ⟨b2, ha, H⟩
    unfold vc_arbiterref13_Follows_J6 at H
    refine (?_ : Wk.CW _ _ _ 156 [(0, (.slice A1 n1 c1)), (1, (.slice A2 n2 c2)), (2, (.slice A3 n3 c3)), (3, (.int .i64 x1)), (9, (.pointer (some p1))), (42, (.bool b2))] _) a ha
    refine Wk.cw_cond rfl (fun hb => ?_) (fun hb => ?_)
    · replace H := H.1 hb
      refine Wk.cw_seq ?_
      refine Wk.cw_region ?_
      refine Wk.sl_v rfl rfl (Wk.wanted_none rfl) (fun a ha => Wk.x_assign (ha.ev rfl)) ?_
      refine Wk.sl_nil ?_
      refine Wk.nx_code (Wk.cw_sub (e' := [(8, (.bool false))]) (Wk.sub.cons rfl (Wk.sub.nil)) ?_)
      refine Wk.cw_ret ?_
      refine Wk.nx_ret_then ?_
      exact Wk.nx_body_ret (Wk.res1 rfl rfl) ⟨_, rfl, _, rfl, H⟩
    · replace H := H.2 hb
      refine Wk.cw_skip ?_
      refine Wk.nx_code (Wk.cw_sub (e' := [(0, (.slice A1 n1 c1)), (1, (.slice A2 n2 c2)), (2, (.slice A3 n3 c3)), (3, (.int .i64 x1)), (9, (.pointer (some p1)))]) (Wk.sub.cons rfl (Wk.sub.cons rfl (Wk.sub.cons rfl (Wk.sub.cons rfl (Wk.sub.cons rfl (Wk.sub.nil)))))) ?_)
      refine Wk.cw_seq ?_
      refine Wk.cw_seq ?_
      refine Wk.cw_region ?_
      refine Wk.sl_v rfl rfl (Wk.wanted_none rfl) (fun a ha => Wk.x_assign (ha.ev rfl)) ?_
      refine Wk.sl_nil ?_
      refine Wk.nx_code (Wk.cw_sub (e' := [(0, (.slice A1 n1 c1)), (1, (.slice A2 n2 c2)), (2, (.slice A3 n3 c3)), (3, (.int .i64 x1)), (9, (.pointer (some p1))), (10, (.int .i64 0))]) (Wk.sub.cons rfl (Wk.sub.cons rfl (Wk.sub.cons rfl (Wk.sub.cons rfl (Wk.sub.cons rfl (Wk.sub.cons rfl (Wk.sub.nil))))))) ?_)
      refine Wk.cw_block ?_
      obtain ⟨I1, ⟨k1, hi⟩, H⟩ := H
      refine Wk.cw_loop_still (fun k1 a => ∃ x10 : Int, Wk.Ok 156 [(0, (.slice A1 n1 c1)), (1, (.slice A2 n2 c2)), (2, (.slice A3 n3 c3)), (3, (.int .i64 x1)), (9, (.pointer (some p1))), (10, (.int .i64 x10))] a ∧ I1 k1 x10) (fun a ha => ⟨k1, 0, ha.weaken (Wk.sub.cons rfl (Wk.sub.cons rfl (Wk.sub.cons rfl (Wk.sub.cons rfl (Wk.sub.cons rfl (Wk.sub.cons rfl (Wk.sub.nil))))))), hi⟩) ?_
      rintro k1 a ⟨x10, ha, hI⟩
      replace H := H k1 x10 hI
      refine (?_ : Wk.CW _ _ _ 156 [(0, (.slice A1 n1 c1)), (1, (.slice A2 n2 c2)), (2, (.slice A3 n3 c3)), (3, (.int .i64 x1)), (9, (.pointer (some p1))), (10, (.int .i64 x10))] _) a ha
      refine Wk.cw_seq ?_
      refine Wk.cw_seq ?_
      refine Wk.cw_region ?_
      refine Wk.sl_v rfl rfl (Wk.wanted_none rfl) (fun a ha => Wk.x_move (ha.ev rfl)) ?_
      refine Wk.sl_v rfl rfl (Wk.wanted_none rfl) (fun a ha => Wk.x_fieldAddr (ha.ev rfl) (TF.fld_api_Link_4 _ _)) ?_
      obtain ⟨A5, n5, c5, h10, H⟩ := H
      refine Wk.sl_v rfl rfl (Wk.wanted_none rfl) (fun a ha => Wk.x_load (ha.ev rfl) (Wk.i_load1 TF.agg_sl_int h10)) ?_
      refine Wk.sl_v rfl rfl (Wk.wanted_none rfl) (fun a ha => Wk.x_builtin (ha.evs rfl) (fun _ => Wk.l_slice TF.isslice_sl_int)) ?_
      refine Wk.sl_v rfl rfl (Wk.wanted_none rfl) (fun a ha => Wk.x_binOp (ha.ev rfl) (ha.ev rfl) Wk.o_lss) ?_
      refine Wk.sl_nil ?_
      refine Wk.nx_code (Wk.cw_sub (e' := [(0, (.slice A1 n1 c1)), (1, (.slice A2 n2 c2)), (2, (.slice A3 n3 c3)), (3, (.int .i64 x1)), (9, (.pointer (some p1))), (10, (.int .i64 x10)), (47, (.bool (decide (x10 < (n5 : Int)))))]) (Wk.sub.cons rfl (Wk.sub.cons rfl (Wk.sub.cons rfl (Wk.sub.cons rfl (Wk.sub.cons rfl (Wk.sub.cons rfl (Wk.sub.cons rfl (Wk.sub.nil)))))))) ?_)
      refine Wk.cw_cond_p rfl (fun hb => ?_) (fun hb => ?_)
      · replace H := H.1 hb
        refine Wk.cw_skip ?_
        refine Wk.nx_code (Wk.cw_sub (e' := [(0, (.slice A1 n1 c1)), (1, (.slice A2 n2 c2)), (2, (.slice A3 n3 c3)), (3, (.int .i64 x1)), (9, (.pointer (some p1))), (10, (.int .i64 x10))]) (Wk.sub.cons rfl (Wk.sub.cons rfl (Wk.sub.cons rfl (Wk.sub.cons rfl (Wk.sub.cons rfl (Wk.sub.cons rfl (Wk.sub.nil))))))) ?_)
        refine Wk.cw_seq ?_
        refine Wk.cw_block ?_
        refine Wk.cw_join_still (fun a => ∃ b3 : Bool, Wk.Ok 156 [(0, (.slice A1 n1 c1)), (1, (.slice A2 n2 c2)), (2, (.slice A3 n3 c3)), (3, (.int .i64 x1)), (9, (.pointer (some p1))), (10, (.int .i64 x10)), (64, (.bool b3))] a ∧ vc_arbiterref13_Follows_J1 K w2 k1 I1 x10 b3) ?_ ?_
        · rintro a ⟨b3, ha, H⟩
          unfold vc_arbiterref13_Follows_J1 at H
          refine (?_ : Wk.CW _ _ _ 156 [(0, (.slice A1 n1 c1)), (1, (.slice A2 n2 c2)), (2, (.slice A3 n3 c3)), (3, (.int .i64 x1)), (9, (.pointer (some p1))), (10, (.int .i64 x10)), (64, (.bool b3))] _) a ha
          refine Wk.cw_cond rfl (fun hb => ?_) (fun hb => ?_)
          · replace H := H.1 hb
            refine Wk.cw_seq ?_
            refine Wk.cw_region ?_
            refine Wk.sl_v rfl rfl (Wk.wanted_none rfl) (fun a ha => Wk.x_assign (ha.ev rfl)) ?_
            refine Wk.sl_nil ?_
            refine Wk.nx_code (Wk.cw_sub (e' := [(8, (.bool false))]) (Wk.sub.cons rfl (Wk.sub.nil)) ?_)
            refine Wk.cw_ret ?_
            refine Wk.nx_ret_block ?_
            refine Wk.nx_ret_then ?_
            refine Wk.nx_ret_then ?_
            refine Wk.nx_ret_block ?_
            refine Wk.nx_ret_then ?_
            exact Wk.nx_body_ret (Wk.res1 rfl rfl) ⟨_, rfl, _, rfl, H⟩
          · replace H := H.2 hb
            refine Wk.cw_skip ?_
            refine Wk.nx_block ?_
            refine Wk.nx_code (Wk.cw_sub (e' := [(0, (.slice A1 n1 c1)), (1, (.slice A2 n2 c2)), (2, (.slice A3 n3 c3)), (3, (.int .i64 x1)), (9, (.pointer (some p1))), (10, (.int .i64 x10))]) (Wk.sub.cons rfl (Wk.sub.cons rfl (Wk.sub.cons rfl (Wk.sub.cons rfl (Wk.sub.cons rfl (Wk.sub.cons rfl (Wk.sub.nil))))))) ?_)
            refine Wk.cw_region ?_
            refine Wk.sl_v rfl rfl (Wk.wanted_none rfl) (fun a ha => Wk.x_move (ha.ev rfl)) ?_
            refine Wk.sl_v rfl rfl (Wk.wanted_none rfl) (fun a ha => Wk.x_binOp (ha.ev rfl) (ha.ev rfl) Wk.o_add) ?_
            refine Wk.sl_v rfl rfl (Wk.wanted_none rfl) (fun a ha => Wk.x_assign (ha.ev rfl)) ?_
            refine Wk.sl_nil ?_
            obtain ⟨k2, hk, H⟩ := H
            exact Wk.nx_to fun a ha => ⟨k2, hk, ⟨IntKind.wrap .i64 (x10 + 1), ha.weaken (Wk.sub.cons rfl (Wk.sub.cons rfl (Wk.sub.cons rfl (Wk.sub.cons rfl (Wk.sub.cons rfl (Wk.sub.cons rfl (Wk.sub.nil))))))), H⟩, rfl⟩
        · refine Wk.cw_region ?_
          refine Wk.sl_v rfl rfl (Wk.wanted_none rfl) (fun a ha => Wk.x_fieldAddr (ha.ev rfl) (TF.fld_api_Link_4 _ _)) ?_
          obtain ⟨A6, n6, c6, h11, H⟩ := H
          refine Wk.sl_v rfl rfl (Wk.wanted_none rfl) (fun a ha => Wk.x_load (ha.ev rfl) (Wk.i_load1 TF.agg_sl_int h11)) ?_
          refine Wk.sl_v rfl rfl (Wk.wanted_none rfl) (fun a ha => Wk.x_move (ha.ev rfl)) ?_
          obtain ⟨h12, h13, a2, e2, H⟩ := H
          refine Wk.sl_v rfl rfl (Wk.wanted_none rfl) (fun a ha => Wk.x_indexAddr (ha.ev rfl) (ha.ev rfl) (Wk.i_index TF.elem_sl_int TF.size_int e2 h12 h13)) ?_
          obtain ⟨x11, h14, H⟩ := H
          refine Wk.sl_v rfl rfl (Wk.wanted_none rfl) (fun a ha => Wk.x_load (ha.ev rfl) (Wk.i_load1 TF.agg_int h14)) ?_
          refine Wk.sl_v rfl rfl (Wk.wanted_none rfl) (fun a ha => Wk.x_binOp (ha.ev rfl) (ha.ev rfl) Wk.o_lss) ?_
          rcases Classical.em (x11 < 0) with hb | hb
          · replace H := H.1 hb
            refine Wk.sl_v rfl rfl (Wk.wanted_none rfl) (fun a ha => Wk.o_t (Wk.x_move (ha.ev rfl)) hb) ?_
            refine Wk.sl_skip rfl rfl (Wk.wanted_not rfl rfl rfl rfl) ?_
            refine Wk.sl_skip rfl rfl (Wk.wanted_not rfl rfl rfl rfl) ?_
            refine Wk.sl_skip rfl rfl (Wk.wanted_not rfl rfl rfl rfl) ?_
            refine Wk.sl_skip rfl rfl (Wk.wanted_not rfl rfl rfl rfl) ?_
            refine Wk.sl_skip rfl rfl (Wk.wanted_not rfl rfl rfl rfl) ?_
            refine Wk.sl_skip rfl rfl (Wk.wanted_not rfl rfl rfl rfl) ?_
            refine Wk.sl_skip rfl rfl (Wk.wanted_not rfl rfl rfl rfl) ?_
            refine Wk.sl_v rfl rfl (Wk.wanted_none rfl) (fun a ha => Wk.x_pick_t (ha.ev rfl) (ha.ev rfl)) ?_
            refine Wk.sl_nil ?_
            exact Wk.nx_to fun a ha => ⟨⟨true, ha.weaken (Wk.sub.cons rfl (Wk.sub.cons rfl (Wk.sub.cons rfl (Wk.sub.cons rfl (Wk.sub.cons rfl (Wk.sub.cons rfl (Wk.sub.cons rfl (Wk.sub.nil)))))))), H⟩, rfl⟩
          · replace H := H.2 hb
            refine Wk.sl_v rfl rfl (Wk.wanted_none rfl) (fun a ha => Wk.o_f (Wk.x_move (ha.ev rfl)) hb) ?_
            refine Wk.sl_v rfl rfl (Wk.wanted_some rfl rfl rfl) (fun a ha => Wk.x_fieldAddr (ha.ev rfl) (TF.fld_api_Link_4 _ _)) ?_
            obtain ⟨A7, n7, c7, h15, H⟩ := H
            refine Wk.sl_v rfl rfl (Wk.wanted_some rfl rfl rfl) (fun a ha => Wk.x_load (ha.ev rfl) (Wk.i_load1 TF.agg_sl_int h15)) ?_
            refine Wk.sl_v rfl rfl (Wk.wanted_some rfl rfl rfl) (fun a ha => Wk.x_move (ha.ev rfl)) ?_
            obtain ⟨h16, h17, a3, e3, H⟩ := H
            refine Wk.sl_v rfl rfl (Wk.wanted_some rfl rfl rfl) (fun a ha => Wk.x_indexAddr (ha.ev rfl) (ha.ev rfl) (Wk.i_index TF.elem_sl_int TF.size_int e3 h16 h17)) ?_
            obtain ⟨x12, h18, H⟩ := H
            refine Wk.sl_v rfl rfl (Wk.wanted_some rfl rfl rfl) (fun a ha => Wk.x_load (ha.ev rfl) (Wk.i_load1 TF.agg_int h18)) ?_
            refine Wk.sl_v rfl rfl (Wk.wanted_some rfl rfl rfl) (fun a ha => Wk.x_move (ha.ev rfl)) ?_
            refine Wk.sl_v rfl rfl (Wk.wanted_some rfl rfl rfl) (fun a ha => Wk.x_binOp (ha.ev rfl) (ha.ev rfl) Wk.o_geq) ?_
            refine Wk.sl_v rfl rfl (Wk.wanted_none rfl) (fun a ha => Wk.x_pick_f (ha.ev rfl) (ha.ev rfl)) ?_
            refine Wk.sl_nil ?_
            exact Wk.nx_to fun a ha => ⟨⟨(decide (x1 ≤ x12)), ha.weaken (Wk.sub.cons rfl (Wk.sub.cons rfl (Wk.sub.cons rfl (Wk.sub.cons rfl (Wk.sub.cons rfl (Wk.sub.cons rfl (Wk.sub.cons rfl (Wk.sub.nil)))))))), H⟩, rfl⟩
      · replace H := H.2 hb
        refine Wk.cw_exit ?_
        refine Wk.nx_exit_then ?_
        refine Wk.nx_exit_then ?_
        refine Wk.nx_exit_hit ?_
        refine Wk.nx_code (Wk.cw_sub (e' := [(0, (.slice A1 n1 c1)), (1, (.slice A2 n2 c2)), (2, (.slice A3 n3 c3)), (3, (.int .i64 x1)), (9, (.pointer (some p1)))]) (Wk.sub.cons rfl (Wk.sub.cons rfl (Wk.sub.cons rfl (Wk.sub.cons rfl (Wk.sub.cons rfl (Wk.sub.nil)))))) ?_)
        refine Wk.cw_seq ?_
        refine Wk.cw_seq ?_
        refine Wk.cw_region ?_
        refine Wk.sl_v rfl rfl (Wk.wanted_none rfl) (fun a ha => Wk.x_fieldAddr (ha.ev rfl) (TF.fld_api_Link_0 _ _)) ?_
        obtain ⟨x13, h19, H⟩ := H
        refine Wk.sl_v rfl rfl (Wk.wanted_none rfl) (fun a ha => Wk.x_load (ha.ev rfl) (Wk.i_load1 TF.agg_int h19)) ?_
        refine Wk.sl_v rfl rfl (Wk.wanted_none rfl) (fun a ha => Wk.x_binOp (ha.ev rfl) (ha.ev rfl) Wk.o_eql) ?_
        refine Wk.sl_nil ?_
        refine Wk.nx_code (Wk.cw_sub (e' := [(0, (.slice A1 n1 c1)), (1, (.slice A2 n2 c2)), (2, (.slice A3 n3 c3)), (3, (.int .i64 x1)), (9, (.pointer (some p1))), (67, (.bool (decide (x13 = 1))))]) (Wk.sub.cons rfl (Wk.sub.cons rfl (Wk.sub.cons rfl (Wk.sub.cons rfl (Wk.sub.cons rfl (Wk.sub.cons rfl (Wk.sub.nil))))))) ?_)
        refine Wk.cw_cond_p rfl (fun hb => ?_) (fun hb => ?_)
        · replace H := H.1 hb
          refine Wk.cw_join (fun a w => ∃ b5 : Bool, Wk.Ok 156 [(8, (.bool b5))] a ∧ vc_arbiterref13_Follows_J2 K b5 w) ?_ ?_
          · rintro a w4 ⟨b5, ha, H⟩
            unfold vc_arbiterref13_Follows_J2 at H
            refine (?_ : Wk.CW _ _ _ 156 [(8, (.bool b5))] _) a ha
            refine Wk.cw_ret ?_
            refine Wk.nx_ret_then ?_
            exact Wk.nx_body_ret (Wk.res1 rfl rfl) ⟨_, rfl, _, rfl, H⟩
          · refine Wk.cw_region ?_
            refine Wk.sl_v rfl rfl (Wk.wanted_none rfl) (fun a ha => Wk.x_fieldAddr (ha.ev rfl) (TF.fld_api_Link_4 _ _)) ?_
            obtain ⟨A8, n8, c8, h20, H⟩ := H
            refine Wk.sl_v rfl rfl (Wk.wanted_none rfl) (fun a ha => Wk.x_load (ha.ev rfl) (Wk.i_load1 TF.agg_sl_int h20)) ?_
            refine Wk.sl_v rfl rfl (Wk.wanted_none rfl) (fun a ha => Wk.x_builtin (ha.evs rfl) (fun _ => Wk.l_slice TF.isslice_sl_int)) ?_
            refine Wk.sl_v rfl rfl (Wk.wanted_none rfl) (fun a ha => Wk.x_binOp (ha.ev rfl) (ha.ev rfl) Wk.o_eql) ?_
            rcases Classical.em ((n8 : Int) = 0) with hb | hb
            · replace H := H.1 hb
              refine Wk.sl_v rfl rfl (Wk.wanted_none rfl) (fun a ha => Wk.o_t (Wk.x_move (ha.ev rfl)) hb) ?_
              refine Wk.sl_v rfl rfl (Wk.wanted_some rfl rfl rfl) (fun a ha => Wk.x_move (ha.ev rfl)) ?_
              obtain ⟨x14, x15, x16, x17, A9, n9, c9, h21, H⟩ := H
              refine Wk.sl_v rfl rfl (Wk.wanted_some rfl rfl rfl) (fun a ha => Wk.x_load (ha.ev rfl) (Wk.i_loadN (vs := [(.int .i64 x14), (.int .i64 x15), (.int .i64 x16), (.int .i64 x17), (.slice A9 n9 c9)]) TF.agg_api_Link TF.size_api_Link h21)) ?_
              refine Wk.sl_call rfl rfl (Wk.wanted_some rfl rfl rfl) (fun a ha => Wk.x_call0 (ha.ev rfl) (ha.evs rfl) FF.callable_arbiterref13_given) H ?_
              rintro _ w3 ⟨b4, rfl, H⟩
              refine Wk.sl_v rfl rfl (Wk.wanted_none rfl) (fun a ha => Wk.x_pick_t (ha.ev rfl) (ha.ev rfl)) ?_
              refine Wk.sl_v rfl rfl (Wk.wanted_none rfl) (fun a ha => Wk.x_assign (ha.ev rfl)) ?_
              refine Wk.sl_nil ?_
              exact Wk.nx_to fun a ha => ⟨b4, ha.weaken (Wk.sub.cons rfl (Wk.sub.nil)), H⟩
            · replace H := H.2 hb
              refine Wk.sl_v rfl rfl (Wk.wanted_none rfl) (fun a ha => Wk.o_f (Wk.x_move (ha.ev rfl)) hb) ?_
              refine Wk.sl_skip rfl rfl (Wk.wanted_not rfl rfl rfl rfl) ?_
              refine Wk.sl_skip rfl rfl (Wk.wanted_not rfl rfl rfl rfl) ?_
              refine Wk.sl_skip rfl rfl (Wk.wanted_not rfl rfl rfl rfl) ?_
              refine Wk.sl_v rfl rfl (Wk.wanted_none rfl) (fun a ha => Wk.x_pick_f (ha.ev rfl) (ha.ev rfl)) ?_
              refine Wk.sl_v rfl rfl (Wk.wanted_none rfl) (fun a ha => Wk.x_assign (ha.ev rfl)) ?_
              refine Wk.sl_nil ?_
              exact Wk.nx_to fun a ha => ⟨false, ha.weaken (Wk.sub.cons rfl (Wk.sub.nil)), H⟩
        · replace H := H.2 hb
          refine Wk.cw_skip ?_
          refine Wk.nx_code (Wk.cw_sub (e' := [(0, (.slice A1 n1 c1)), (2, (.slice A3 n3 c3)), (3, (.int .i64 x1)), (9, (.pointer (some p1)))]) (Wk.sub.cons rfl (Wk.sub.cons rfl (Wk.sub.cons rfl (Wk.sub.cons rfl (Wk.sub.nil))))) ?_)
          refine Wk.cw_seq ?_
          refine Wk.cw_seq ?_
          refine Wk.cw_region ?_
          refine Wk.sl_v rfl rfl (Wk.wanted_none rfl) (fun a ha => Wk.x_fieldAddr (ha.ev rfl) (TF.fld_api_Link_3 _ _)) ?_
          obtain ⟨x18, h22, H⟩ := H
          refine Wk.sl_v rfl rfl (Wk.wanted_none rfl) (fun a ha => Wk.x_load (ha.ev rfl) (Wk.i_load1 TF.agg_int h22)) ?_
          refine Wk.sl_v rfl rfl (Wk.wanted_none rfl) (fun a ha => Wk.x_binOp (ha.ev rfl) (ha.ev rfl) Wk.o_neq) ?_
          refine Wk.sl_nil ?_
          refine Wk.nx_code (Wk.cw_sub (e' := [(0, (.slice A1 n1 c1)), (2, (.slice A3 n3 c3)), (3, (.int .i64 x1)), (9, (.pointer (some p1))), (79, (.bool (decide (x18 ≠ 0))))]) (Wk.sub.cons rfl (Wk.sub.cons rfl (Wk.sub.cons rfl (Wk.sub.cons rfl (Wk.sub.cons rfl (Wk.sub.nil)))))) ?_)
          refine Wk.cw_cond_p rfl (fun hb => ?_) (fun hb => ?_)
          · replace H := H.1 hb
            refine Wk.cw_seq ?_
            refine Wk.cw_region ?_
            refine Wk.sl_v rfl rfl (Wk.wanted_none rfl) (fun a ha => Wk.x_assign (ha.ev rfl)) ?_
            refine Wk.sl_nil ?_
            refine Wk.nx_code (Wk.cw_sub (e' := [(8, (.bool false))]) (Wk.sub.cons rfl (Wk.sub.nil)) ?_)
            refine Wk.cw_ret ?_
            refine Wk.nx_ret_then ?_
            exact Wk.nx_body_ret (Wk.res1 rfl rfl) ⟨_, rfl, _, rfl, H⟩
          · replace H := H.2 hb
            refine Wk.cw_skip ?_
            refine Wk.nx_code (Wk.cw_sub (e' := [(0, (.slice A1 n1 c1)), (2, (.slice A3 n3 c3)), (3, (.int .i64 x1)), (9, (.pointer (some p1)))]) (Wk.sub.cons rfl (Wk.sub.cons rfl (Wk.sub.cons rfl (Wk.sub.cons rfl (Wk.sub.nil))))) ?_)
            refine Wk.cw_seq ?_
            refine Wk.cw_seq ?_
            refine Wk.cw_region ?_
            refine Wk.sl_v rfl rfl (Wk.wanted_none rfl) (fun a ha => Wk.x_fieldAddr (ha.ev rfl) (TF.fld_api_Link_0 _ _)) ?_
            obtain ⟨x19, h23, H⟩ := H
            refine Wk.sl_v rfl rfl (Wk.wanted_none rfl) (fun a ha => Wk.x_load (ha.ev rfl) (Wk.i_load1 TF.agg_int h23)) ?_
            refine Wk.sl_nil ?_
            refine Wk.nx_code (Wk.cw_sub (e' := [(0, (.slice A1 n1 c1)), (2, (.slice A3 n3 c3)), (3, (.int .i64 x1)), (9, (.pointer (some p1))), (81, (.int .i64 x19))]) (Wk.sub.cons rfl (Wk.sub.cons rfl (Wk.sub.cons rfl (Wk.sub.cons rfl (Wk.sub.cons rfl (Wk.sub.nil)))))) ?_)
            refine Wk.cw_block ?_
            refine Wk.cw_seq ?_
            refine Wk.cw_region ?_
            refine Wk.sl_v rfl rfl (Wk.wanted_none rfl) (fun a ha => Wk.x_binOp (ha.ev rfl) (ha.ev rfl) Wk.o_eql) ?_
            refine Wk.sl_v rfl rfl (Wk.wanted_none rfl) (fun a ha => Wk.x_assign (ha.ev rfl)) ?_
            refine Wk.sl_nil ?_
            refine Wk.nx_code (Wk.cw_sub (e' := [(0, (.slice A1 n1 c1)), (2, (.slice A3 n3 c3)), (3, (.int .i64 x1)), (9, (.pointer (some p1))), (81, (.int .i64 x19)), (82, (.bool (decide (x19 = 2))))]) (Wk.sub.cons rfl (Wk.sub.cons rfl (Wk.sub.cons rfl (Wk.sub.cons rfl (Wk.sub.cons rfl (Wk.sub.cons rfl (Wk.sub.nil))))))) ?_)
            refine Wk.cw_cond_p rfl (fun hb => ?_) (fun hb => ?_)
            · replace H := H.1 hb
              refine Wk.cw_join_still (fun a => ∃ b6 : Bool, Wk.Ok 156 [(8, (.bool b6))] a ∧ vc_arbiterref13_Follows_J3 K w2 b6) ?_ ?_
              · rintro a ⟨b6, ha, H⟩
                unfold vc_arbiterref13_Follows_J3 at H
                refine (?_ : Wk.CW _ _ _ 156 [(8, (.bool b6))] _) a ha
                refine Wk.cw_ret ?_
                refine Wk.nx_ret_block ?_
                refine Wk.nx_ret_then ?_
                exact Wk.nx_body_ret (Wk.res1 rfl rfl) ⟨_, rfl, _, rfl, H⟩
              · refine Wk.cw_region ?_
                refine Wk.sl_v rfl rfl (Wk.wanted_none rfl) (fun a ha => Wk.x_fieldAddr (ha.ev rfl) (TF.fld_api_Link_4 _ _)) ?_
                obtain ⟨A10, n10, c10, h24, H⟩ := H
                refine Wk.sl_v rfl rfl (Wk.wanted_none rfl) (fun a ha => Wk.x_load (ha.ev rfl) (Wk.i_load1 TF.agg_sl_int h24)) ?_
                refine Wk.sl_v rfl rfl (Wk.wanted_none rfl) (fun a ha => Wk.x_builtin (ha.evs rfl) (fun _ => Wk.l_slice TF.isslice_sl_int)) ?_
                refine Wk.sl_v rfl rfl (Wk.wanted_none rfl) (fun a ha => Wk.x_binOp (ha.ev rfl) (ha.ev rfl) Wk.o_eql) ?_
                rcases Classical.em ((n10 : Int) = 0) with hb | hb
                · replace H := H.1 hb
                  refine Wk.sl_v rfl rfl (Wk.wanted_none rfl) (fun a ha => Wk.o_t (Wk.x_move (ha.ev rfl)) hb) ?_
                  refine Wk.sl_v rfl rfl (Wk.wanted_some rfl rfl rfl) (fun a ha => Wk.x_fieldAddr (ha.ev rfl) (TF.fld_api_Link_1 _ _)) ?_
                  obtain ⟨x20, h25, H⟩ := H
                  refine Wk.sl_v rfl rfl (Wk.wanted_some rfl rfl rfl) (fun a ha => Wk.x_load (ha.ev rfl) (Wk.i_load1 TF.agg_int h25)) ?_
                  refine Wk.sl_v rfl rfl (Wk.wanted_some rfl rfl rfl) (fun a ha => Wk.x_fieldAddr (ha.ev rfl) (TF.fld_api_Link_2 _ _)) ?_
                  obtain ⟨x21, h26, H⟩ := H
                  refine Wk.sl_v rfl rfl (Wk.wanted_some rfl rfl rfl) (fun a ha => Wk.x_load (ha.ev rfl) (Wk.i_load1 TF.agg_int h26)) ?_
                  refine Wk.sl_v rfl rfl (Wk.wanted_some rfl rfl rfl) (fun a ha => Wk.x_binOp (ha.ev rfl) (ha.ev rfl) Wk.o_eql) ?_
                  refine Wk.sl_v rfl rfl (Wk.wanted_none rfl) (fun a ha => Wk.x_pick_t (ha.ev rfl) (ha.ev rfl)) ?_
                  refine Wk.sl_v rfl rfl (Wk.wanted_none rfl) (fun a ha => Wk.x_assign (ha.ev rfl)) ?_
                  refine Wk.sl_nil ?_
                  exact Wk.nx_to fun a ha => ⟨⟨(decide (x20 = x21)), ha.weaken (Wk.sub.cons rfl (Wk.sub.nil)), H⟩, rfl⟩
                · replace H := H.2 hb
                  refine Wk.sl_v rfl rfl (Wk.wanted_none rfl) (fun a ha => Wk.o_f (Wk.x_move (ha.ev rfl)) hb) ?_
                  refine Wk.sl_skip rfl rfl (Wk.wanted_not rfl rfl rfl rfl) ?_
                  refine Wk.sl_skip rfl rfl (Wk.wanted_not rfl rfl rfl rfl) ?_
                  refine Wk.sl_skip rfl rfl (Wk.wanted_not rfl rfl rfl rfl) ?_
                  refine Wk.sl_skip rfl rfl (Wk.wanted_not rfl rfl rfl rfl) ?_
                  refine Wk.sl_skip rfl rfl (Wk.wanted_not rfl rfl rfl rfl) ?_
                  refine Wk.sl_v rfl rfl (Wk.wanted_none rfl) (fun a ha => Wk.x_pick_f (ha.ev rfl) (ha.ev rfl)) ?_
                  refine Wk.sl_v rfl rfl (Wk.wanted_none rfl) (fun a ha => Wk.x_assign (ha.ev rfl)) ?_
                  refine Wk.sl_nil ?_
                  exact Wk.nx_to fun a ha => ⟨⟨false, ha.weaken (Wk.sub.cons rfl (Wk.sub.nil)), H⟩, rfl⟩
            · replace H := H.2 hb
              refine Wk.cw_seq ?_
              refine Wk.cw_region ?_
              refine Wk.sl_v rfl rfl (Wk.wanted_none rfl) (fun a ha => Wk.x_binOp (ha.ev rfl) (ha.ev rfl) Wk.o_eql) ?_
              refine Wk.sl_v rfl rfl (Wk.wanted_none rfl) (fun a ha => Wk.x_assign (ha.ev rfl)) ?_
              refine Wk.sl_nil ?_
              refine Wk.nx_code (Wk.cw_sub (e' := [(0, (.slice A1 n1 c1)), (2, (.slice A3 n3 c3)), (3, (.int .i64 x1)), (9, (.pointer (some p1))), (81, (.int .i64 x19)), (95, (.bool (decide (x19 = 3))))]) (Wk.sub.cons rfl (Wk.sub.cons rfl (Wk.sub.cons rfl (Wk.sub.cons rfl (Wk.sub.cons rfl (Wk.sub.cons rfl (Wk.sub.nil))))))) ?_)
              refine Wk.cw_cond_p rfl (fun hb => ?_) (fun hb => ?_)
              · replace H := H.1 hb
                refine Wk.cw_seq ?_
                refine Wk.cw_seq ?_
                refine Wk.cw_region ?_
                refine Wk.sl_v rfl rfl (Wk.wanted_none rfl) (fun a ha => Wk.x_fieldAddr (ha.ev rfl) (TF.fld_api_Link_4 _ _)) ?_
                obtain ⟨A11, n11, c11, h27, H⟩ := H
                refine Wk.sl_v rfl rfl (Wk.wanted_none rfl) (fun a ha => Wk.x_load (ha.ev rfl) (Wk.i_load1 TF.agg_sl_int h27)) ?_
                refine Wk.sl_v rfl rfl (Wk.wanted_none rfl) (fun a ha => Wk.x_builtin (ha.evs rfl) (fun _ => Wk.l_slice TF.isslice_sl_int)) ?_
                refine Wk.sl_v rfl rfl (Wk.wanted_none rfl) (fun a ha => Wk.x_binOp (ha.ev rfl) (ha.ev rfl) Wk.o_neq) ?_
                refine Wk.sl_nil ?_
                refine Wk.nx_code (Wk.cw_sub (e' := [(2, (.slice A3 n3 c3)), (3, (.int .i64 x1)), (9, (.pointer (some p1))), (100, (.bool (decide ((n11 : Int) ≠ 1))))]) (Wk.sub.cons rfl (Wk.sub.cons rfl (Wk.sub.cons rfl (Wk.sub.cons rfl (Wk.sub.nil))))) ?_)
                refine Wk.cw_cond_p rfl (fun hb => ?_) (fun hb => ?_)
                · replace H := H.1 hb
                  refine Wk.cw_seq ?_
                  refine Wk.cw_region ?_
                  refine Wk.sl_v rfl rfl (Wk.wanted_none rfl) (fun a ha => Wk.x_assign (ha.ev rfl)) ?_
                  refine Wk.sl_nil ?_
                  refine Wk.nx_code (Wk.cw_sub (e' := [(8, (.bool false))]) (Wk.sub.cons rfl (Wk.sub.nil)) ?_)
                  refine Wk.cw_ret ?_
                  refine Wk.nx_ret_then ?_
                  refine Wk.nx_ret_block ?_
                  refine Wk.nx_ret_then ?_
                  exact Wk.nx_body_ret (Wk.res1 rfl rfl) ⟨_, rfl, _, rfl, H⟩
                · replace H := H.2 hb
                  refine Wk.cw_skip ?_
                  refine Wk.nx_code (Wk.cw_sub (e' := [(2, (.slice A3 n3 c3)), (3, (.int .i64 x1)), (9, (.pointer (some p1)))]) (Wk.sub.cons rfl (Wk.sub.cons rfl (Wk.sub.cons rfl (Wk.sub.nil)))) ?_)
                  refine Wk.cw_seq ?_
                  refine Wk.cw_region ?_
                  refine Wk.sl_v rfl rfl (Wk.wanted_none rfl) (fun a ha => Wk.x_move (ha.ev rfl)) ?_
                  refine Wk.sl_v rfl rfl (Wk.wanted_none rfl) (fun a ha => Wk.x_move (ha.ev rfl)) ?_
                  refine Wk.sl_call rfl rfl (Wk.wanted_none rfl) (fun a ha => Wk.x_call0 (ha.ev rfl) (ha.evs rfl) FF.callable_arbiterref13_kid) H ?_
                  rintro _ w5 ⟨x22, x23, rfl, H⟩
                  refine Wk.sl_v rfl rfl (Wk.wanted_none rfl) (fun a ha => Wk.x_move (ha.ev rfl)) ?_
                  refine Wk.sl_v rfl rfl (Wk.wanted_none rfl) (fun a ha => Wk.x_extract (ha.ev rfl) rfl) ?_
                  refine Wk.sl_v rfl rfl (Wk.wanted_none rfl) (fun a ha => Wk.x_extract (ha.ev rfl) rfl) ?_
                  refine Wk.sl_v rfl rfl (Wk.wanted_none rfl) (fun a ha => Wk.x_assign (ha.ev rfl)) ?_
                  refine Wk.sl_v rfl rfl (Wk.wanted_none rfl) (fun a ha => Wk.x_assign (ha.ev rfl)) ?_
                  refine Wk.sl_nil ?_
                  refine Wk.nx_code (Wk.cw_sub (e' := [(9, (.pointer (some p1))), (11, (.int .i64 x22)), (12, (.int .i64 x23))]) (Wk.sub.cons rfl (Wk.sub.cons rfl (Wk.sub.cons rfl (Wk.sub.nil)))) ?_)
                  refine Wk.cw_join_still (fun a => ∃ b7 : Bool, Wk.Ok 156 [(8, (.bool b7))] a ∧ vc_arbiterref13_Follows_J4 K w5 b7) ?_ ?_
                  · rintro a ⟨b7, ha, H⟩
                    unfold vc_arbiterref13_Follows_J4 at H
                    refine (?_ : Wk.CW _ _ _ 156 [(8, (.bool b7))] _) a ha
                    refine Wk.cw_ret ?_
                    refine Wk.nx_ret_block ?_
                    refine Wk.nx_ret_then ?_
                    exact Wk.nx_body_ret (Wk.res1 rfl rfl) ⟨_, rfl, _, rfl, H⟩
                  · refine Wk.cw_region ?_
                    refine Wk.sl_v rfl rfl (Wk.wanted_none rfl) (fun a ha => Wk.x_move (ha.ev rfl)) ?_
                    refine Wk.sl_v rfl rfl (Wk.wanted_none rfl) (fun a ha => Wk.x_fieldAddr (ha.ev rfl) (TF.fld_api_Link_2 _ _)) ?_
                    obtain ⟨x24, h28, H⟩ := H
                    refine Wk.sl_v rfl rfl (Wk.wanted_none rfl) (fun a ha => Wk.x_load (ha.ev rfl) (Wk.i_load1 TF.agg_int h28)) ?_
                    refine Wk.sl_v rfl rfl (Wk.wanted_none rfl) (fun a ha => Wk.x_binOp (ha.ev rfl) (ha.ev rfl) Wk.o_eql) ?_
                    rcases Classical.em (x22 = x24) with hb | hb
                    · replace H := H.1 hb
                      refine Wk.sl_v rfl rfl (Wk.wanted_none rfl) (fun a ha => Wk.o_t (Wk.x_move (ha.ev rfl)) hb) ?_
                      refine Wk.sl_v rfl rfl (Wk.wanted_some rfl rfl rfl) (fun a ha => Wk.x_move (ha.ev rfl)) ?_
                      refine Wk.sl_v rfl rfl (Wk.wanted_some rfl rfl rfl) (fun a ha => Wk.x_fieldAddr (ha.ev rfl) (TF.fld_api_Link_1 _ _)) ?_
                      obtain ⟨x25, h29, H⟩ := H
                      refine Wk.sl_v rfl rfl (Wk.wanted_some rfl rfl rfl) (fun a ha => Wk.x_load (ha.ev rfl) (Wk.i_load1 TF.agg_int h29)) ?_
                      refine Wk.sl_v rfl rfl (Wk.wanted_some rfl rfl rfl) (fun a ha => Wk.x_binOp (ha.ev rfl) (ha.ev rfl) Wk.o_eql) ?_
                      refine Wk.sl_v rfl rfl (Wk.wanted_none rfl) (fun a ha => Wk.x_pick_t (ha.ev rfl) (ha.ev rfl)) ?_
                      refine Wk.sl_v rfl rfl (Wk.wanted_none rfl) (fun a ha => Wk.x_assign (ha.ev rfl)) ?_
                      refine Wk.sl_nil ?_
                      exact Wk.nx_to fun a ha => ⟨⟨(decide (x23 = x25)), ha.weaken (Wk.sub.cons rfl (Wk.sub.nil)), H⟩, rfl⟩
                    · replace H := H.2 hb
                      refine Wk.sl_v rfl rfl (Wk.wanted_none rfl) (fun a ha => Wk.o_f (Wk.x_move (ha.ev rfl)) hb) ?_
                      refine Wk.sl_skip rfl rfl (Wk.wanted_not rfl rfl rfl rfl) ?_
                      refine Wk.sl_skip rfl rfl (Wk.wanted_not rfl rfl rfl rfl) ?_
                      refine Wk.sl_skip rfl rfl (Wk.wanted_not rfl rfl rfl rfl) ?_
                      refine Wk.sl_skip rfl rfl (Wk.wanted_not rfl rfl rfl rfl) ?_
                      refine Wk.sl_v rfl rfl (Wk.wanted_none rfl) (fun a ha => Wk.x_pick_f (ha.ev rfl) (ha.ev rfl)) ?_
                      refine Wk.sl_v rfl rfl (Wk.wanted_none rfl) (fun a ha => Wk.x_assign (ha.ev rfl)) ?_
                      refine Wk.sl_nil ?_
                      exact Wk.nx_to fun a ha => ⟨⟨false, ha.weaken (Wk.sub.cons rfl (Wk.sub.nil)), H⟩, rfl⟩
              · replace H := H.2 hb
                refine Wk.cw_seq ?_
                refine Wk.cw_region ?_
                refine Wk.sl_v rfl rfl (Wk.wanted_none rfl) (fun a ha => Wk.x_binOp (ha.ev rfl) (ha.ev rfl) Wk.o_eql) ?_
                refine Wk.sl_v rfl rfl (Wk.wanted_none rfl) (fun a ha => Wk.x_assign (ha.ev rfl)) ?_
                refine Wk.sl_nil ?_
                refine Wk.nx_code (Wk.cw_sub (e' := [(0, (.slice A1 n1 c1)), (2, (.slice A3 n3 c3)), (3, (.int .i64 x1)), (9, (.pointer (some p1))), (81, (.int .i64 x19)), (117, (.bool (decide (x19 = 4))))]) (Wk.sub.cons rfl (Wk.sub.cons rfl (Wk.sub.cons rfl (Wk.sub.cons rfl (Wk.sub.cons rfl (Wk.sub.cons rfl (Wk.sub.nil))))))) ?_)
                refine Wk.cw_cond_p rfl (fun hb => ?_) (fun hb => ?_)
                · replace H := H.1 hb
                  refine Wk.cw_seq ?_
                  refine Wk.cw_seq ?_
                  refine Wk.cw_region ?_
                  refine Wk.sl_v rfl rfl (Wk.wanted_none rfl) (fun a ha => Wk.x_fieldAddr (ha.ev rfl) (TF.fld_api_Link_4 _ _)) ?_
                  obtain ⟨A12, n12, c12, h30, H⟩ := H
                  refine Wk.sl_v rfl rfl (Wk.wanted_none rfl) (fun a ha => Wk.x_load (ha.ev rfl) (Wk.i_load1 TF.agg_sl_int h30)) ?_
                  refine Wk.sl_v rfl rfl (Wk.wanted_none rfl) (fun a ha => Wk.x_builtin (ha.evs rfl) (fun _ => Wk.l_slice TF.isslice_sl_int)) ?_
                  refine Wk.sl_v rfl rfl (Wk.wanted_none rfl) (fun a ha => Wk.x_binOp (ha.ev rfl) (ha.ev rfl) Wk.o_neq) ?_
                  refine Wk.sl_nil ?_
                  refine Wk.nx_code (Wk.cw_sub (e' := [(2, (.slice A3 n3 c3)), (3, (.int .i64 x1)), (9, (.pointer (some p1))), (122, (.bool (decide ((n12 : Int) ≠ 2))))]) (Wk.sub.cons rfl (Wk.sub.cons rfl (Wk.sub.cons rfl (Wk.sub.cons rfl (Wk.sub.nil))))) ?_)
                  refine Wk.cw_cond_p rfl (fun hb => ?_) (fun hb => ?_)
                  · replace H := H.1 hb
                    refine Wk.cw_seq ?_
                    refine Wk.cw_region ?_
                    refine Wk.sl_v rfl rfl (Wk.wanted_none rfl) (fun a ha => Wk.x_assign (ha.ev rfl)) ?_
                    refine Wk.sl_nil ?_
                    refine Wk.nx_code (Wk.cw_sub (e' := [(8, (.bool false))]) (Wk.sub.cons rfl (Wk.sub.nil)) ?_)
                    refine Wk.cw_ret ?_
                    refine Wk.nx_ret_then ?_
                    refine Wk.nx_ret_block ?_
                    refine Wk.nx_ret_then ?_
                    exact Wk.nx_body_ret (Wk.res1 rfl rfl) ⟨_, rfl, _, rfl, H⟩
                  · replace H := H.2 hb
                    refine Wk.cw_skip ?_
                    refine Wk.nx_code (Wk.cw_sub (e' := [(2, (.slice A3 n3 c3)), (3, (.int .i64 x1)), (9, (.pointer (some p1)))]) (Wk.sub.cons rfl (Wk.sub.cons rfl (Wk.sub.cons rfl (Wk.sub.nil)))) ?_)
                    refine Wk.cw_seq ?_
                    refine Wk.cw_region ?_
                    refine Wk.sl_v rfl rfl (Wk.wanted_none rfl) (fun a ha => Wk.x_move (ha.ev rfl)) ?_
                    refine Wk.sl_v rfl rfl (Wk.wanted_none rfl) (fun a ha => Wk.x_move (ha.ev rfl)) ?_
                    refine Wk.sl_call rfl rfl (Wk.wanted_none rfl) (fun a ha => Wk.x_call0 (ha.ev rfl) (ha.evs rfl) FF.callable_arbiterref13_kid) H ?_
                    rintro _ w6 ⟨x26, x27, rfl, H⟩
                    refine Wk.sl_v rfl rfl (Wk.wanted_none rfl) (fun a ha => Wk.x_move (ha.ev rfl)) ?_
                    refine Wk.sl_v rfl rfl (Wk.wanted_none rfl) (fun a ha => Wk.x_extract (ha.ev rfl) rfl) ?_
                    refine Wk.sl_v rfl rfl (Wk.wanted_none rfl) (fun a ha => Wk.x_extract (ha.ev rfl) rfl) ?_
                    refine Wk.sl_v rfl rfl (Wk.wanted_none rfl) (fun a ha => Wk.x_assign (ha.ev rfl)) ?_
                    refine Wk.sl_v rfl rfl (Wk.wanted_none rfl) (fun a ha => Wk.x_assign (ha.ev rfl)) ?_
                    refine Wk.sl_nil ?_
                    refine Wk.nx_code (Wk.cw_sub (e' := [(2, (.slice A3 n3 c3)), (3, (.int .i64 x1)), (9, (.pointer (some p1))), (13, (.int .i64 x26)), (14, (.int .i64 x27))]) (Wk.sub.cons rfl (Wk.sub.cons rfl (Wk.sub.cons rfl (Wk.sub.cons rfl (Wk.sub.cons rfl (Wk.sub.nil)))))) ?_)
                    refine Wk.cw_seq ?_
                    refine Wk.cw_region ?_
                    refine Wk.sl_v rfl rfl (Wk.wanted_none rfl) (fun a ha => Wk.x_move (ha.ev rfl)) ?_
                    refine Wk.sl_v rfl rfl (Wk.wanted_none rfl) (fun a ha => Wk.x_move (ha.ev rfl)) ?_
                    refine Wk.sl_call rfl rfl (Wk.wanted_none rfl) (fun a ha => Wk.x_call0 (ha.ev rfl) (ha.evs rfl) FF.callable_arbiterref13_kid) H ?_
                    rintro _ w7 ⟨x28, x29, rfl, H⟩
                    refine Wk.sl_v rfl rfl (Wk.wanted_none rfl) (fun a ha => Wk.x_move (ha.ev rfl)) ?_
                    refine Wk.sl_v rfl rfl (Wk.wanted_none rfl) (fun a ha => Wk.x_extract (ha.ev rfl) rfl) ?_
                    refine Wk.sl_v rfl rfl (Wk.wanted_none rfl) (fun a ha => Wk.x_extract (ha.ev rfl) rfl) ?_
                    refine Wk.sl_v rfl rfl (Wk.wanted_none rfl) (fun a ha => Wk.x_assign (ha.ev rfl)) ?_
                    refine Wk.sl_v rfl rfl (Wk.wanted_none rfl) (fun a ha => Wk.x_assign (ha.ev rfl)) ?_
                    refine Wk.sl_nil ?_
                    refine Wk.nx_code (Wk.cw_sub (e' := [(9, (.pointer (some p1))), (13, (.int .i64 x26)), (14, (.int .i64 x27)), (15, (.int .i64 x28)), (16, (.int .i64 x29))]) (Wk.sub.cons rfl (Wk.sub.cons rfl (Wk.sub.cons rfl (Wk.sub.cons rfl (Wk.sub.cons rfl (Wk.sub.nil)))))) ?_)
                    refine Wk.cw_join_still (fun a => ∃ b8 : Bool, Wk.Ok 156 [(8, (.bool b8))] a ∧ vc_arbiterref13_Follows_J5 K w7 b8) ?_ ?_
                    · rintro a ⟨b8, ha, H⟩
                      unfold vc_arbiterref13_Follows_J5 at H
                      refine (?_ : Wk.CW _ _ _ 156 [(8, (.bool b8))] _) a ha
                      refine Wk.cw_ret ?_
                      refine Wk.nx_ret_block ?_
                      refine Wk.nx_ret_then ?_
                      exact Wk.nx_body_ret (Wk.res1 rfl rfl) ⟨_, rfl, _, rfl, H⟩
                    · refine Wk.cw_region ?_
                      refine Wk.sl_v rfl rfl (Wk.wanted_none rfl) (fun a ha => Wk.x_move (ha.ev rfl)) ?_
                      refine Wk.sl_v rfl rfl (Wk.wanted_none rfl) (fun a ha => Wk.x_fieldAddr (ha.ev rfl) (TF.fld_api_Link_1 _ _)) ?_
                      obtain ⟨x30, h31, H⟩ := H
                      refine Wk.sl_v rfl rfl (Wk.wanted_none rfl) (fun a ha => Wk.x_load (ha.ev rfl) (Wk.i_load1 TF.agg_int h31)) ?_
                      refine Wk.sl_v rfl rfl (Wk.wanted_none rfl) (fun a ha => Wk.x_binOp (ha.ev rfl) (ha.ev rfl) Wk.o_eql) ?_
                      rcases Classical.em (x26 = x30) with hb | hb
                      · replace H := H.1 hb
                        refine Wk.sl_v rfl rfl (Wk.wanted_none rfl) (fun a ha => Wk.o_t (Wk.x_move (ha.ev rfl)) hb) ?_
                        refine Wk.sl_v rfl rfl (Wk.wanted_some rfl rfl rfl) (fun a ha => Wk.x_move (ha.ev rfl)) ?_
                        refine Wk.sl_v rfl rfl (Wk.wanted_some rfl rfl rfl) (fun a ha => Wk.x_move (ha.ev rfl)) ?_
                        refine Wk.sl_v rfl rfl (Wk.wanted_some rfl rfl rfl) (fun a ha => Wk.x_binOp (ha.ev rfl) (ha.ev rfl) Wk.o_eql) ?_
                        refine Wk.sl_v rfl rfl (Wk.wanted_none rfl) (fun a ha => Wk.x_pick_t (ha.ev rfl) (ha.ev rfl)) ?_
                        rcases Classical.em (x27 = x28) with hb | hb
                        · replace H := H.1 hb
                          refine Wk.sl_v rfl rfl (Wk.wanted_none rfl) (fun a ha => Wk.o_t (Wk.x_move (ha.ev rfl)) hb) ?_
                          refine Wk.sl_v rfl rfl (Wk.wanted_some rfl rfl rfl) (fun a ha => Wk.x_move (ha.ev rfl)) ?_
                          refine Wk.sl_v rfl rfl (Wk.wanted_some rfl rfl rfl) (fun a ha => Wk.x_fieldAddr (ha.ev rfl) (TF.fld_api_Link_2 _ _)) ?_
                          obtain ⟨x31, h32, H⟩ := H
                          refine Wk.sl_v rfl rfl (Wk.wanted_some rfl rfl rfl) (fun a ha => Wk.x_load (ha.ev rfl) (Wk.i_load1 TF.agg_int h32)) ?_
                          refine Wk.sl_v rfl rfl (Wk.wanted_some rfl rfl rfl) (fun a ha => Wk.x_binOp (ha.ev rfl) (ha.ev rfl) Wk.o_eql) ?_
                          refine Wk.sl_v rfl rfl (Wk.wanted_none rfl) (fun a ha => Wk.x_pick_t (ha.ev rfl) (ha.ev rfl)) ?_
                          refine Wk.sl_v rfl rfl (Wk.wanted_none rfl) (fun a ha => Wk.x_assign (ha.ev rfl)) ?_
                          refine Wk.sl_nil ?_
                          exact Wk.nx_to fun a ha => ⟨⟨(decide (x29 = x31)), ha.weaken (Wk.sub.cons rfl (Wk.sub.nil)), H⟩, rfl⟩
                        · replace H := H.2 hb
                          refine Wk.sl_v rfl rfl (Wk.wanted_none rfl) (fun a ha => Wk.o_f (Wk.x_move (ha.ev rfl)) hb) ?_
                          refine Wk.sl_skip rfl rfl (Wk.wanted_not rfl rfl rfl rfl) ?_
                          refine Wk.sl_skip rfl rfl (Wk.wanted_not rfl rfl rfl rfl) ?_
                          refine Wk.sl_skip rfl rfl (Wk.wanted_not rfl rfl rfl rfl) ?_
                          refine Wk.sl_skip rfl rfl (Wk.wanted_not rfl rfl rfl rfl) ?_
                          refine Wk.sl_v rfl rfl (Wk.wanted_none rfl) (fun a ha => Wk.x_pick_f (ha.ev rfl) (ha.ev rfl)) ?_
                          refine Wk.sl_v rfl rfl (Wk.wanted_none rfl) (fun a ha => Wk.x_assign (ha.ev rfl)) ?_
                          refine Wk.sl_nil ?_
                          exact Wk.nx_to fun a ha => ⟨⟨false, ha.weaken (Wk.sub.cons rfl (Wk.sub.nil)), H⟩, rfl⟩
                      · replace H := H.2 hb
                        refine Wk.sl_v rfl rfl (Wk.wanted_none rfl) (fun a ha => Wk.o_f (Wk.x_move (ha.ev rfl)) hb) ?_
                        refine Wk.sl_skip rfl rfl (Wk.wanted_not rfl rfl rfl rfl) ?_
                        refine Wk.sl_skip rfl rfl (Wk.wanted_not rfl rfl rfl rfl) ?_
                        refine Wk.sl_skip rfl rfl (Wk.wanted_not rfl rfl rfl rfl) ?_
                        refine Wk.sl_v rfl rfl (Wk.wanted_none rfl) (fun a ha => Wk.x_pick_f (ha.ev rfl) (ha.ev rfl)) ?_
                        refine Wk.sl_v rfl rfl (Wk.wanted_none rfl) (fun a ha => Wk.x_move (ha.ev rfl)) ?_
                        refine Wk.sl_skip rfl rfl (Wk.wanted_not rfl rfl rfl rfl) ?_
                        refine Wk.sl_skip rfl rfl (Wk.wanted_not rfl rfl rfl rfl) ?_
                        refine Wk.sl_skip rfl rfl (Wk.wanted_not rfl rfl rfl rfl) ?_
                        refine Wk.sl_skip rfl rfl (Wk.wanted_not rfl rfl rfl rfl) ?_
                        refine Wk.sl_v rfl rfl (Wk.wanted_none rfl) (fun a ha => Wk.x_pick_f (ha.ev rfl) (ha.ev rfl)) ?_
                        refine Wk.sl_v rfl rfl (Wk.wanted_none rfl) (fun a ha => Wk.x_assign (ha.ev rfl)) ?_
                        refine Wk.sl_nil ?_
                        exact Wk.nx_to fun a ha => ⟨⟨false, ha.weaken (Wk.sub.cons rfl (Wk.sub.nil)), H⟩, rfl⟩
                · replace H := H.2 hb
                  refine Wk.cw_seq ?_
                  refine Wk.cw_region ?_
                  refine Wk.sl_v rfl rfl (Wk.wanted_none rfl) (fun a ha => Wk.x_binOp (ha.ev rfl) (ha.ev rfl) Wk.o_eql) ?_
                  refine Wk.sl_v rfl rfl (Wk.wanted_none rfl) (fun a ha => Wk.x_assign (ha.ev rfl)) ?_
                  refine Wk.sl_nil ?_
                  refine Wk.nx_code (Wk.cw_sub (e' := [(0, (.slice A1 n1 c1)), (2, (.slice A3 n3 c3)), (3, (.int .i64 x1)), (150, (.bool (decide (x19 = 5))))]) (Wk.sub.cons rfl (Wk.sub.cons rfl (Wk.sub.cons rfl (Wk.sub.cons rfl (Wk.sub.nil))))) ?_)
                  refine Wk.cw_cond_p rfl (fun hb => ?_) (fun hb => ?_)
                  · replace H := H.1 hb
                    refine Wk.cw_seq ?_
                    refine Wk.cw_region ?_
                    refine Wk.sl_v rfl rfl (Wk.wanted_none rfl) (fun a ha => Wk.x_move (ha.ev rfl)) ?_
                    refine Wk.sl_v rfl rfl (Wk.wanted_none rfl) (fun a ha => Wk.x_move (ha.ev rfl)) ?_
                    refine Wk.sl_v rfl rfl (Wk.wanted_none rfl) (fun a ha => Wk.x_move (ha.ev rfl)) ?_
                    refine Wk.sl_call rfl rfl (Wk.wanted_none rfl) (fun a ha => Wk.x_call0 (ha.ev rfl) (ha.evs rfl) FF.callable_arbiterref13_congruence) H ?_
                    rintro _ w8 ⟨b9, rfl, H⟩
                    refine Wk.sl_v rfl rfl (Wk.wanted_none rfl) (fun a ha => Wk.x_assign (ha.ev rfl)) ?_
                    refine Wk.sl_nil ?_
                    refine Wk.nx_code (Wk.cw_sub (e' := [(8, (.bool b9))]) (Wk.sub.cons rfl (Wk.sub.nil)) ?_)
                    refine Wk.cw_ret ?_
                    refine Wk.nx_ret_block ?_
                    refine Wk.nx_ret_then ?_
                    exact Wk.nx_body_ret (Wk.res1 rfl rfl) ⟨_, rfl, _, rfl, H⟩
                  · replace H := H.2 hb
                    refine Wk.cw_skip ?_
                    refine Wk.nx_block ?_
                    refine Wk.nx_code (Wk.cw_sub (e' := []) (Wk.sub.nil) ?_)
                    refine Wk.cw_seq ?_
                    refine Wk.cw_region ?_
                    refine Wk.sl_v rfl rfl (Wk.wanted_none rfl) (fun a ha => Wk.x_assign (ha.ev rfl)) ?_
                    refine Wk.sl_nil ?_
                    refine Wk.nx_code (Wk.cw_sub (e' := [(8, (.bool false))]) (Wk.sub.cons rfl (Wk.sub.nil)) ?_)
                    refine Wk.cw_ret ?_
                    exact Wk.nx_body_ret (Wk.res1 rfl rfl) ⟨_, rfl, _, rfl, H⟩
  · refine Wk.cw_region ?_
    refine Wk.sl_v rfl rfl (Wk.wanted_none rfl) (fun a ha => Wk.x_fieldAddr (ha.ev rfl) (TF.fld_api_Link_1 _ _)) ?_
    obtain ⟨x6, h6, H⟩ := H
    refine Wk.sl_v rfl rfl (Wk.wanted_none rfl) (fun a ha => Wk.x_load (ha.ev rfl) (Wk.i_load1 TF.agg_int h6)) ?_
    refine Wk.sl_v rfl rfl (Wk.wanted_none rfl) (fun a ha => Wk.x_binOp (ha.ev rfl) (ha.ev rfl) Wk.o_lss) ?_
    rcases Classical.em (x6 < 0) with hb | hb
    · replace H := H.1 hb
      refine Wk.sl_v rfl rfl (Wk.wanted_none rfl) (fun a ha => Wk.o_t (Wk.x_move (ha.ev rfl)) hb) ?_
      refine Wk.sl_skip rfl rfl (Wk.wanted_not rfl rfl rfl rfl) ?_
      refine Wk.sl_skip rfl rfl (Wk.wanted_not rfl rfl rfl rfl) ?_
      refine Wk.sl_skip rfl rfl (Wk.wanted_not rfl rfl rfl rfl) ?_
      refine Wk.sl_skip rfl rfl (Wk.wanted_not rfl rfl rfl rfl) ?_
      refine Wk.sl_skip rfl rfl (Wk.wanted_not rfl rfl rfl rfl) ?_
      refine Wk.sl_v rfl rfl (Wk.wanted_none rfl) (fun a ha => Wk.x_pick_t (ha.ev rfl) (ha.ev rfl)) ?_
      refine Wk.sl_v rfl rfl (Wk.wanted_none rfl) (fun a ha => Wk.x_move (ha.ev rfl)) ?_
      refine Wk.sl_skip rfl rfl (Wk.wanted_not rfl rfl rfl rfl) ?_
      refine Wk.sl_skip rfl rfl (Wk.wanted_not rfl rfl rfl rfl) ?_
      refine Wk.sl_skip rfl rfl (Wk.wanted_not rfl rfl rfl rfl) ?_
      refine Wk.sl_v rfl rfl (Wk.wanted_none rfl) (fun a ha => Wk.x_pick_t (ha.ev rfl) (ha.ev rfl)) ?_
      refine Wk.sl_v rfl rfl (Wk.wanted_none rfl) (fun a ha => Wk.x_move (ha.ev rfl)) ?_
      refine Wk.sl_skip rfl rfl (Wk.wanted_not rfl rfl rfl rfl) ?_
      refine Wk.sl_skip rfl rfl (Wk.wanted_not rfl rfl rfl rfl) ?_
      refine Wk.sl_skip rfl rfl (Wk.wanted_not rfl rfl rfl rfl) ?_
      refine Wk.sl_skip rfl rfl (Wk.wanted_not rfl rfl rfl rfl) ?_
      refine Wk.sl_skip rfl rfl (Wk.wanted_not rfl rfl rfl rfl) ?_
      refine Wk.sl_v rfl rfl (Wk.wanted_none rfl) (fun a ha => Wk.x_pick_t (ha.ev rfl) (ha.ev rfl)) ?_
      refine Wk.sl_nil ?_
      exact Wk.nx_to fun a ha => ⟨⟨true, ha.weaken (Wk.sub.cons rfl (Wk.sub.cons rfl (Wk.sub.cons rfl (Wk.sub.cons rfl (Wk.sub.cons rfl (Wk.sub.cons rfl (Wk.sub.nil))))))), H⟩, rfl⟩
    · replace H := H.2 hb
      refine Wk.sl_v rfl rfl (Wk.wanted_none rfl) (fun a ha => Wk.o_f (Wk.x_move (ha.ev rfl)) hb) ?_
      refine Wk.sl_v rfl rfl (Wk.wanted_some rfl rfl rfl) (fun a ha => Wk.x_fieldAddr (ha.ev rfl) (TF.fld_api_Link_1 _ _)) ?_
      obtain ⟨x7, h7, H⟩ := H
      refine Wk.sl_v rfl rfl (Wk.wanted_some rfl rfl rfl) (fun a ha => Wk.x_load (ha.ev rfl) (Wk.i_load1 TF.agg_int h7)) ?_
      refine Wk.sl_v rfl rfl (Wk.wanted_some rfl rfl rfl) (fun a ha => Wk.x_move (ha.ev rfl)) ?_
      refine Wk.sl_v rfl rfl (Wk.wanted_some rfl rfl rfl) (fun a ha => Wk.x_builtin (ha.evs rfl) (fun _ => Wk.l_slice TF.isslice_sl_api_Flat)) ?_
      refine Wk.sl_v rfl rfl (Wk.wanted_some rfl rfl rfl) (fun a ha => Wk.x_binOp (ha.ev rfl) (ha.ev rfl) Wk.o_geq) ?_
      refine Wk.sl_v rfl rfl (Wk.wanted_none rfl) (fun a ha => Wk.x_pick_f (ha.ev rfl) (ha.ev rfl)) ?_
      rcases Classical.em ((n1 : Int) ≤ x7) with hb | hb
      · replace H := H.1 hb
        refine Wk.sl_v rfl rfl (Wk.wanted_none rfl) (fun a ha => Wk.o_t (Wk.x_move (ha.ev rfl)) hb) ?_
        refine Wk.sl_skip rfl rfl (Wk.wanted_not rfl rfl rfl rfl) ?_
        refine Wk.sl_skip rfl rfl (Wk.wanted_not rfl rfl rfl rfl) ?_
        refine Wk.sl_skip rfl rfl (Wk.wanted_not rfl rfl rfl rfl) ?_
        refine Wk.sl_v rfl rfl (Wk.wanted_none rfl) (fun a ha => Wk.x_pick_t (ha.ev rfl) (ha.ev rfl)) ?_
        refine Wk.sl_v rfl rfl (Wk.wanted_none rfl) (fun a ha => Wk.x_move (ha.ev rfl)) ?_
        refine Wk.sl_skip rfl rfl (Wk.wanted_not rfl rfl rfl rfl) ?_
        refine Wk.sl_skip rfl rfl (Wk.wanted_not rfl rfl rfl rfl) ?_
        refine Wk.sl_skip rfl rfl (Wk.wanted_not rfl rfl rfl rfl) ?_
        refine Wk.sl_skip rfl rfl (Wk.wanted_not rfl rfl rfl rfl) ?_
        refine Wk.sl_skip rfl rfl (Wk.wanted_not rfl rfl rfl rfl) ?_
        refine Wk.sl_v rfl rfl (Wk.wanted_none rfl) (fun a ha => Wk.x_pick_t (ha.ev rfl) (ha.ev rfl)) ?_
        refine Wk.sl_nil ?_
        exact Wk.nx_to fun a ha => ⟨⟨true, ha.weaken (Wk.sub.cons rfl (Wk.sub.cons rfl (Wk.sub.cons rfl (Wk.sub.cons rfl (Wk.sub.cons rfl (Wk.sub.cons rfl (Wk.sub.nil))))))), H⟩, rfl⟩
      · replace H := H.2 hb
        refine Wk.sl_v rfl rfl (Wk.wanted_none rfl) (fun a ha => Wk.o_f (Wk.x_move (ha.ev rfl)) hb) ?_
        refine Wk.sl_v rfl rfl (Wk.wanted_some rfl rfl rfl) (fun a ha => Wk.x_fieldAddr (ha.ev rfl) (TF.fld_api_Link_2 _ _)) ?_
        obtain ⟨x8, h8, H⟩ := H
        refine Wk.sl_v rfl rfl (Wk.wanted_some rfl rfl rfl) (fun a ha => Wk.x_load (ha.ev rfl) (Wk.i_load1 TF.agg_int h8)) ?_
        refine Wk.sl_v rfl rfl (Wk.wanted_some rfl rfl rfl) (fun a ha => Wk.x_binOp (ha.ev rfl) (ha.ev rfl) Wk.o_lss) ?_
        refine Wk.sl_v rfl rfl (Wk.wanted_none rfl) (fun a ha => Wk.x_pick_f (ha.ev rfl) (ha.ev rfl)) ?_
        rcases Classical.em (x8 < 0) with hb | hb
        · replace H := H.1 hb
          refine Wk.sl_v rfl rfl (Wk.wanted_none rfl) (fun a ha => Wk.o_t (Wk.x_move (ha.ev rfl)) hb) ?_
          refine Wk.sl_skip rfl rfl (Wk.wanted_not rfl rfl rfl rfl) ?_
          refine Wk.sl_skip rfl rfl (Wk.wanted_not rfl rfl rfl rfl) ?_
          refine Wk.sl_skip rfl rfl (Wk.wanted_not rfl rfl rfl rfl) ?_
          refine Wk.sl_skip rfl rfl (Wk.wanted_not rfl rfl rfl rfl) ?_
          refine Wk.sl_skip rfl rfl (Wk.wanted_not rfl rfl rfl rfl) ?_
          refine Wk.sl_v rfl rfl (Wk.wanted_none rfl) (fun a ha => Wk.x_pick_t (ha.ev rfl) (ha.ev rfl)) ?_
          refine Wk.sl_nil ?_
          exact Wk.nx_to fun a ha => ⟨⟨true, ha.weaken (Wk.sub.cons rfl (Wk.sub.cons rfl (Wk.sub.cons rfl (Wk.sub.cons rfl (Wk.sub.cons rfl (Wk.sub.cons rfl (Wk.sub.nil))))))), H⟩, rfl⟩
        · replace H := H.2 hb
          refine Wk.sl_v rfl rfl (Wk.wanted_none rfl) (fun a ha => Wk.o_f (Wk.x_move (ha.ev rfl)) hb) ?_
          refine Wk.sl_v rfl rfl (Wk.wanted_some rfl rfl rfl) (fun a ha => Wk.x_fieldAddr (ha.ev rfl) (TF.fld_api_Link_2 _ _)) ?_
          obtain ⟨x9, h9, H⟩ := H
          refine Wk.sl_v rfl rfl (Wk.wanted_some rfl rfl rfl) (fun a ha => Wk.x_load (ha.ev rfl) (Wk.i_load1 TF.agg_int h9)) ?_
          refine Wk.sl_v rfl rfl (Wk.wanted_some rfl rfl rfl) (fun a ha => Wk.x_move (ha.ev rfl)) ?_
          refine Wk.sl_v rfl rfl (Wk.wanted_some rfl rfl rfl) (fun a ha => Wk.x_builtin (ha.evs rfl) (fun _ => Wk.l_slice TF.isslice_sl_api_Flat)) ?_
          refine Wk.sl_v rfl rfl (Wk.wanted_some rfl rfl rfl) (fun a ha => Wk.x_binOp (ha.ev rfl) (ha.ev rfl) Wk.o_geq) ?_
          refine Wk.sl_v rfl rfl (Wk.wanted_none rfl) (fun a ha => Wk.x_pick_f (ha.ev rfl) (ha.ev rfl)) ?_
          refine Wk.sl_nil ?_
          exact Wk.nx_to fun a ha => ⟨⟨(decide ((n1 : Int) ≤ x9)), ha.weaken (Wk.sub.cons rfl (Wk.sub.cons rfl (Wk.sub.cons rfl (Wk.sub.cons rfl (Wk.sub.cons rfl (Wk.sub.cons rfl (Wk.sub.nil))))))), H⟩, rfl⟩
def vc_arbiterref13_Sound_J1 (K : Bool → World → Prop) (w : World) (k2 : Nat) (I2 : Nat → Int → Prop) (x2 : Int) (b2 : Bool) : Prop :=
  (b2 = true → (K false w)) ∧ (b2 = false → (∃ k3, k3 < k2 ∧ I2 k3 (IntKind.wrap .i64 (x2 + 1))))
def vc_arbiterref13_Sound (A1 : Option Addr) (n1 : Nat) (c1 : Nat) (K : Bool → World → Prop) (w : World) : Prop :=
  ∃ I1 : Nat → Int → Prop, (∃ k1, I1 k1 0) ∧ ∀ k1 (x1 : Int), I1 k1 x1 → ((x1 < (n1 : Int) → (0 ≤ x1 ∧ x1 < (n1 : Int) ∧ ∃ a1, A1 = some a1 ∧ ∃ A2 : Option Addr, ∃ n2 : Nat, ∃ c2 : Nat, w.cell? ((a1.add (x1.toNat * 2)).add 1) = some (.slice A2 n2 c2) ∧ ∃ I2 : Nat → Int → Prop, (∃ k2, I2 k2 0) ∧ ∀ k2 (x2 : Int), I2 k2 x2 → ((x2 < (n2 : Int) → (0 ≤ x2 ∧ x2 < (n2 : Int) ∧ ∃ a2, A2 = some a2 ∧ ∃ x3 : Int, w.cell? (a2.add (x2.toNat * 1)) = some (.int .i64 x3) ∧ (x3 < 0 → ((vc_arbiterref13_Sound_J1 K w k2 I2 x2) true)) ∧ (¬ (x3 < 0) → (0 ≤ x2 ∧ x2 < (n2 : Int) ∧ ∃ a3, A2 = some a3 ∧ ∃ x4 : Int, w.cell? (a3.add (x2.toNat * 1)) = some (.int .i64 x4) ∧ (vc_arbiterref13_Sound_J1 K w k2 I2 x2) (decide (x1 ≤ x4)))))) ∧ (¬ (x2 < (n2 : Int)) → (∃ k4, k4 < k1 ∧ I1 k4 (IntKind.wrap .i64 (x1 + 1))))))) ∧ (¬ (x1 < (n1 : Int)) → (K true w)))
set_option maxHeartbeats 2000000 in
set_option maxRecDepth 20000 in
theorem ok_arbiterref13_Sound (A1 : Option Addr) (n1 : Nat) (c1 : Nat) (K : Bool → World → Prop) (w : World) (H : vc_arbiterref13_Sound A1 n1 c1 K w) : Calls P F.arbiterref13_Sound #[(.slice A1 n1 c1)] w (Wk.Ret fun v w' => ∃ b1 : Bool, v = (.bool b1) ∧ K b1 w') := by
  unfold vc_arbiterref13_Sound at H
  refine Wk.calls_of (P := P) Try.func16 rfl [(0, (.slice A1 n1 c1))] 36 rfl rfl (fun p hp => by rcases List.mem_singleton.1 hp with rfl; rfl) ?_
  refine Wk.cw_seq ?_
  refine Wk.cw_region ?_
  refine Wk.sl_v rfl rfl (Wk.wanted_none rfl) (fun a ha => Wk.x_assign (ha.ev rfl)) ?_
  refine Wk.sl_nil ?_
  refine Wk.nx_code (Wk.cw_sub (e' := [(0, (.slice A1 n1 c1))]) (Wk.sub.cons rfl (Wk.sub.nil)) ?_)
  refine Wk.cw_seq ?_
  refine Wk.cw_seq ?_
  refine Wk.cw_region ?_
  refine Wk.sl_v rfl rfl (Wk.wanted_none rfl) (fun a ha => Wk.x_assign (ha.ev rfl)) ?_
  refine Wk.sl_nil ?_
  refine Wk.nx_code (Wk.cw_sub (e' := [(0, (.slice A1 n1 c1)), (3, (.int .i64 0))]) (Wk.sub.cons rfl (Wk.sub.cons rfl (Wk.sub.nil))) ?_)
  refine Wk.cw_block ?_
  obtain ⟨I1, ⟨k1, hi⟩, H⟩ := H
  refine Wk.cw_loop_still (fun k1 a => ∃ x1 : Int, Wk.Ok 36 [(0, (.slice A1 n1 c1)), (3, (.int .i64 x1))] a ∧ I1 k1 x1) (fun a ha => ⟨k1, 0, ha.weaken (Wk.sub.cons rfl (Wk.sub.cons rfl (Wk.sub.nil))), hi⟩) ?_
  rintro k1 a ⟨x1, ha, hI⟩
  replace H := H k1 x1 hI
  refine (?_ : Wk.CW _ _ _ 36 [(0, (.slice A1 n1 c1)), (3, (.int .i64 x1))] _) a ha
  refine Wk.cw_seq ?_
  refine Wk.cw_seq ?_
  refine Wk.cw_region ?_
  refine Wk.sl_v rfl rfl (Wk.wanted_none rfl) (fun a ha => Wk.x_move (ha.ev rfl)) ?_
  refine Wk.sl_v rfl rfl (Wk.wanted_none rfl) (fun a ha => Wk.x_move (ha.ev rfl)) ?_
  refine Wk.sl_v rfl rfl (Wk.wanted_none rfl) (fun a ha => Wk.x_builtin (ha.evs rfl) (fun _ => Wk.l_slice TF.isslice_sl_api_Flat)) ?_
  refine Wk.sl_v rfl rfl (Wk.wanted_none rfl) (fun a ha => Wk.x_binOp (ha.ev rfl) (ha.ev rfl) Wk.o_lss) ?_
  refine Wk.sl_nil ?_
  refine Wk.nx_code (Wk.cw_sub (e' := [(0, (.slice A1 n1 c1)), (3, (.int .i64 x1)), (9, (.bool (decide (x1 < (n1 : Int)))))]) (Wk.sub.cons rfl (Wk.sub.cons rfl (Wk.sub.cons rfl (Wk.sub.nil)))) ?_)
  refine Wk.cw_cond_p rfl (fun hb => ?_) (fun hb => ?_)
  · replace H := H.1 hb
    refine Wk.cw_skip ?_
    refine Wk.nx_code (Wk.cw_sub (e' := [(0, (.slice A1 n1 c1)), (3, (.int .i64 x1))]) (Wk.sub.cons rfl (Wk.sub.cons rfl (Wk.sub.nil))) ?_)
    refine Wk.cw_seq ?_
    refine Wk.cw_block ?_
    refine Wk.cw_seq ?_
    refine Wk.cw_region ?_
    refine Wk.sl_v rfl rfl (Wk.wanted_none rfl) (fun a ha => Wk.x_move (ha.ev rfl)) ?_
    refine Wk.sl_v rfl rfl (Wk.wanted_none rfl) (fun a ha => Wk.x_move (ha.ev rfl)) ?_
    obtain ⟨h1, h2, a1, e1, H⟩ := H
    refine Wk.sl_v rfl rfl (Wk.wanted_none rfl) (fun a ha => Wk.x_indexAddr (ha.ev rfl) (ha.ev rfl) (Wk.i_index TF.elem_sl_api_Flat TF.size_api_Flat e1 h1 h2)) ?_
    refine Wk.sl_v rfl rfl (Wk.wanted_none rfl) (fun a ha => Wk.x_fieldAddr (ha.ev rfl) (TF.fld_api_Flat_1 _ _)) ?_
    obtain ⟨A2, n2, c2, h3, H⟩ := H
    refine Wk.sl_v rfl rfl (Wk.wanted_none rfl) (fun a ha => Wk.x_load (ha.ev rfl) (Wk.i_load1 TF.agg_sl_int h3)) ?_
    refine Wk.sl_v rfl rfl (Wk.wanted_none rfl) (fun a ha => Wk.x_assign (ha.ev rfl)) ?_
    refine Wk.sl_nil ?_
    refine Wk.nx_code (Wk.cw_sub (e' := [(0, (.slice A1 n1 c1)), (3, (.int .i64 x1)), (4, (.slice A2 n2 c2))]) (Wk.sub.cons rfl (Wk.sub.cons rfl (Wk.sub.cons rfl (Wk.sub.nil)))) ?_)
    refine Wk.cw_seq ?_
    refine Wk.cw_region ?_
    refine Wk.sl_v rfl rfl (Wk.wanted_none rfl) (fun a ha => Wk.x_assign (ha.ev rfl)) ?_
    refine Wk.sl_nil ?_
    refine Wk.nx_code (Wk.cw_sub (e' := [(0, (.slice A1 n1 c1)), (3, (.int .i64 x1)), (4, (.slice A2 n2 c2)), (5, (.int .i64 0))]) (Wk.sub.cons rfl (Wk.sub.cons rfl (Wk.sub.cons rfl (Wk.sub.cons rfl (Wk.sub.nil))))) ?_)
    refine Wk.cw_block ?_
    obtain ⟨I2, ⟨k2, hi⟩, H⟩ := H
    refine Wk.cw_loop_still (fun k2 a => ∃ x2 : Int, Wk.Ok 36 [(0, (.slice A1 n1 c1)), (3, (.int .i64 x1)), (4, (.slice A2 n2 c2)), (5, (.int .i64 x2))] a ∧ I2 k2 x2) (fun a ha => ⟨k2, 0, ha.weaken (Wk.sub.cons rfl (Wk.sub.cons rfl (Wk.sub.cons rfl (Wk.sub.cons rfl (Wk.sub.nil))))), hi⟩) ?_
    rintro k2 a ⟨x2, ha, hI⟩
    replace H := H k2 x2 hI
    refine (?_ : Wk.CW _ _ _ 36 [(0, (.slice A1 n1 c1)), (3, (.int .i64 x1)), (4, (.slice A2 n2 c2)), (5, (.int .i64 x2))] _) a ha
    refine Wk.cw_seq ?_
    refine Wk.cw_seq ?_
    refine Wk.cw_region ?_
    refine Wk.sl_v rfl rfl (Wk.wanted_none rfl) (fun a ha => Wk.x_move (ha.ev rfl)) ?_
    refine Wk.sl_v rfl rfl (Wk.wanted_none rfl) (fun a ha => Wk.x_move (ha.ev rfl)) ?_
    refine Wk.sl_v rfl rfl (Wk.wanted_none rfl) (fun a ha => Wk.x_builtin (ha.evs rfl) (fun _ => Wk.l_slice TF.isslice_sl_int)) ?_
    refine Wk.sl_v rfl rfl (Wk.wanted_none rfl) (fun a ha => Wk.x_binOp (ha.ev rfl) (ha.ev rfl) Wk.o_lss) ?_
    refine Wk.sl_nil ?_
    refine Wk.nx_code (Wk.cw_sub (e' := [(0, (.slice A1 n1 c1)), (3, (.int .i64 x1)), (4, (.slice A2 n2 c2)), (5, (.int .i64 x2)), (20, (.bool (decide (x2 < (n2 : Int)))))]) (Wk.sub.cons rfl (Wk.sub.cons rfl (Wk.sub.cons rfl (Wk.sub.cons rfl (Wk.sub.cons rfl (Wk.sub.nil)))))) ?_)
    refine Wk.cw_cond_p rfl (fun hb => ?_) (fun hb => ?_)
    · replace H := H.1 hb
      refine Wk.cw_skip ?_
      refine Wk.nx_code (Wk.cw_sub (e' := [(0, (.slice A1 n1 c1)), (3, (.int .i64 x1)), (4, (.slice A2 n2 c2)), (5, (.int .i64 x2))]) (Wk.sub.cons rfl (Wk.sub.cons rfl (Wk.sub.cons rfl (Wk.sub.cons rfl (Wk.sub.nil))))) ?_)
      refine Wk.cw_seq ?_
      refine Wk.cw_block ?_
      refine Wk.cw_join_still (fun a => ∃ b2 : Bool, Wk.Ok 36 [(0, (.slice A1 n1 c1)), (3, (.int .i64 x1)), (4, (.slice A2 n2 c2)), (5, (.int .i64 x2)), (35, (.bool b2))] a ∧ vc_arbiterref13_Sound_J1 K w k2 I2 x2 b2) ?_ ?_
      · rintro a ⟨b2, ha, H⟩
        unfold vc_arbiterref13_Sound_J1 at H
        refine (?_ : Wk.CW _ _ _ 36 [(0, (.slice A1 n1 c1)), (3, (.int .i64 x1)), (4, (.slice A2 n2 c2)), (5, (.int .i64 x2)), (35, (.bool b2))] _) a ha
        refine Wk.cw_cond rfl (fun hb => ?_) (fun hb => ?_)
        · replace H := H.1 hb
          refine Wk.cw_seq ?_
          refine Wk.cw_region ?_
          refine Wk.sl_v rfl rfl (Wk.wanted_none rfl) (fun a ha => Wk.x_assign (ha.ev rfl)) ?_
          refine Wk.sl_nil ?_
          refine Wk.nx_code (Wk.cw_sub (e' := [(2, (.bool false))]) (Wk.sub.cons rfl (Wk.sub.nil)) ?_)
          refine Wk.cw_ret ?_
          refine Wk.nx_ret_block ?_
          refine Wk.nx_ret_then ?_
          refine Wk.nx_ret_then ?_
          refine Wk.nx_ret_block ?_
          refine Wk.nx_ret_block ?_
          refine Wk.nx_ret_then ?_
          refine Wk.nx_ret_then ?_
          refine Wk.nx_ret_block ?_
          refine Wk.nx_ret_then ?_
          exact Wk.nx_body_ret (Wk.res1 rfl rfl) ⟨_, rfl, _, rfl, H⟩
        · replace H := H.2 hb
          refine Wk.cw_skip ?_
          refine Wk.nx_block ?_
          refine Wk.nx_code (Wk.cw_sub (e' := [(0, (.slice A1 n1 c1)), (3, (.int .i64 x1)), (4, (.slice A2 n2 c2)), (5, (.int .i64 x2))]) (Wk.sub.cons rfl (Wk.sub.cons rfl (Wk.sub.cons rfl (Wk.sub.cons rfl (Wk.sub.nil))))) ?_)
          refine Wk.cw_region ?_
          refine Wk.sl_v rfl rfl (Wk.wanted_none rfl) (fun a ha => Wk.x_move (ha.ev rfl)) ?_
          refine Wk.sl_v rfl rfl (Wk.wanted_none rfl) (fun a ha => Wk.x_binOp (ha.ev rfl) (ha.ev rfl) Wk.o_add) ?_
          refine Wk.sl_v rfl rfl (Wk.wanted_none rfl) (fun a ha => Wk.x_assign (ha.ev rfl)) ?_
          refine Wk.sl_nil ?_
          obtain ⟨k3, hk, H⟩ := H
          exact Wk.nx_to fun a ha => ⟨k3, hk, ⟨IntKind.wrap .i64 (x2 + 1), ha.weaken (Wk.sub.cons rfl (Wk.sub.cons rfl (Wk.sub.cons rfl (Wk.sub.cons rfl (Wk.sub.nil))))), H⟩, rfl⟩
      · refine Wk.cw_region ?_
        refine Wk.sl_v rfl rfl (Wk.wanted_none rfl) (fun a ha => Wk.x_move (ha.ev rfl)) ?_
        refine Wk.sl_v rfl rfl (Wk.wanted_none rfl) (fun a ha => Wk.x_move (ha.ev rfl)) ?_
        obtain ⟨h4, h5, a2, e2, H⟩ := H
        refine Wk.sl_v rfl rfl (Wk.wanted_none rfl) (fun a ha => Wk.x_indexAddr (ha.ev rfl) (ha.ev rfl) (Wk.i_index TF.elem_sl_int TF.size_int e2 h4 h5)) ?_
        obtain ⟨x3, h6, H⟩ := H
        refine Wk.sl_v rfl rfl (Wk.wanted_none rfl) (fun a ha => Wk.x_load (ha.ev rfl) (Wk.i_load1 TF.agg_int h6)) ?_
        refine Wk.sl_v rfl rfl (Wk.wanted_none rfl) (fun a ha => Wk.x_binOp (ha.ev rfl) (ha.ev rfl) Wk.o_lss) ?_
        rcases Classical.em (x3 < 0) with hb | hb
        · replace H := H.1 hb
          refine Wk.sl_v rfl rfl (Wk.wanted_none rfl) (fun a ha => Wk.o_t (Wk.x_move (ha.ev rfl)) hb) ?_
          refine Wk.sl_skip rfl rfl (Wk.wanted_not rfl rfl rfl rfl) ?_
          refine Wk.sl_skip rfl rfl (Wk.wanted_not rfl rfl rfl rfl) ?_
          refine Wk.sl_skip rfl rfl (Wk.wanted_not rfl rfl rfl rfl) ?_
          refine Wk.sl_skip rfl rfl (Wk.wanted_not rfl rfl rfl rfl) ?_
          refine Wk.sl_skip rfl rfl (Wk.wanted_not rfl rfl rfl rfl) ?_
          refine Wk.sl_skip rfl rfl (Wk.wanted_not rfl rfl rfl rfl) ?_
          refine Wk.sl_v rfl rfl (Wk.wanted_none rfl) (fun a ha => Wk.x_pick_t (ha.ev rfl) (ha.ev rfl)) ?_
          refine Wk.sl_nil ?_
          exact Wk.nx_to fun a ha => ⟨⟨true, ha.weaken (Wk.sub.cons rfl (Wk.sub.cons rfl (Wk.sub.cons rfl (Wk.sub.cons rfl (Wk.sub.cons rfl (Wk.sub.nil)))))), H⟩, rfl⟩
        · replace H := H.2 hb
          refine Wk.sl_v rfl rfl (Wk.wanted_none rfl) (fun a ha => Wk.o_f (Wk.x_move (ha.ev rfl)) hb) ?_
          refine Wk.sl_v rfl rfl (Wk.wanted_some rfl rfl rfl) (fun a ha => Wk.x_move (ha.ev rfl)) ?_
          refine Wk.sl_v rfl rfl (Wk.wanted_some rfl rfl rfl) (fun a ha => Wk.x_move (ha.ev rfl)) ?_
          obtain ⟨h7, h8, a3, e3, H⟩ := H
          refine Wk.sl_v rfl rfl (Wk.wanted_some rfl rfl rfl) (fun a ha => Wk.x_indexAddr (ha.ev rfl) (ha.ev rfl) (Wk.i_index TF.elem_sl_int TF.size_int e3 h7 h8)) ?_
          obtain ⟨x4, h9, H⟩ := H
          refine Wk.sl_v rfl rfl (Wk.wanted_some rfl rfl rfl) (fun a ha => Wk.x_load (ha.ev rfl) (Wk.i_load1 TF.agg_int h9)) ?_
          refine Wk.sl_v rfl rfl (Wk.wanted_some rfl rfl rfl) (fun a ha => Wk.x_move (ha.ev rfl)) ?_
          refine Wk.sl_v rfl rfl (Wk.wanted_some rfl rfl rfl) (fun a ha => Wk.x_binOp (ha.ev rfl) (ha.ev rfl) Wk.o_geq) ?_
          refine Wk.sl_v rfl rfl (Wk.wanted_none rfl) (fun a ha => Wk.x_pick_f (ha.ev rfl) (ha.ev rfl)) ?_
          refine Wk.sl_nil ?_
          exact Wk.nx_to fun a ha => ⟨⟨(decide (x1 ≤ x4)), ha.weaken (Wk.sub.cons rfl (Wk.sub.cons rfl (Wk.sub.cons rfl (Wk.sub.cons rfl (Wk.sub.cons rfl (Wk.sub.nil)))))), H⟩, rfl⟩
    · replace H := H.2 hb
      refine Wk.cw_exit ?_
      refine Wk.nx_exit_then ?_
      refine Wk.nx_exit_then ?_
      refine Wk.nx_exit_hit ?_
      refine Wk.nx_block ?_
      refine Wk.nx_code (Wk.cw_sub (e' := [(0, (.slice A1 n1 c1)), (3, (.int .i64 x1))]) (Wk.sub.cons rfl (Wk.sub.cons rfl (Wk.sub.nil))) ?_)
      refine Wk.cw_region ?_
      refine Wk.sl_v rfl rfl (Wk.wanted_none rfl) (fun a ha => Wk.x_move (ha.ev rfl)) ?_
      refine Wk.sl_v rfl rfl (Wk.wanted_none rfl) (fun a ha => Wk.x_binOp (ha.ev rfl) (ha.ev rfl) Wk.o_add) ?_
      refine Wk.sl_v rfl rfl (Wk.wanted_none rfl) (fun a ha => Wk.x_assign (ha.ev rfl)) ?_
      refine Wk.sl_nil ?_
      obtain ⟨k4, hk, H⟩ := H
      exact Wk.nx_to fun a ha => ⟨k4, hk, ⟨IntKind.wrap .i64 (x1 + 1), ha.weaken (Wk.sub.cons rfl (Wk.sub.cons rfl (Wk.sub.nil))), H⟩, rfl⟩
  · replace H := H.2 hb
    refine Wk.cw_exit ?_
    refine Wk.nx_exit_then ?_
    refine Wk.nx_exit_then ?_
    refine Wk.nx_exit_hit ?_
    refine Wk.nx_code (Wk.cw_sub (e' := []) (Wk.sub.nil) ?_)
    refine Wk.cw_seq ?_
    refine Wk.cw_region ?_
    refine Wk.sl_v rfl rfl (Wk.wanted_none rfl) (fun a ha => Wk.x_assign (ha.ev rfl)) ?_
    refine Wk.sl_nil ?_
    refine Wk.nx_code (Wk.cw_sub (e' := [(2, (.bool true))]) (Wk.sub.cons rfl (Wk.sub.nil)) ?_)
    refine Wk.cw_ret ?_
    exact Wk.nx_body_ret (Wk.res1 rfl rfl) ⟨_, rfl, _, rfl, H⟩
def vc_arbiterref13_Audit (A1 : Option Addr) (n1 : Nat) (c1 : Nat) (A2 : Option Addr) (n2 : Nat) (c2 : Nat) (A3 : Option Addr) (n3 : Nat) (c3 : Nat) (K : Int → Int → World → Prop) (w : World) : Prop :=
  Calls P F.arbiterref13_Sound #[(.slice A1 n1 c1)] w (Wk.Ret fun v1 w1 => ∃ b1 : Bool, v1 = (.bool b1) ∧ ((!b1) = true → (K 0 80 w1)) ∧ ((!b1) = false → (∃ I1 : Nat → Int → World → Prop, (∃ k1, I1 k1 0 w1) ∧ ∀ k1 (x3 : Int) (w2 : World), I1 k1 x3 w2 → ((x3 < (n3 : Int) → (Calls P F.arbiterref13_Follows #[(.slice A1 n1 c1), (.slice A2 n2 c2), (.slice A3 n3 c3), (.int .i64 x3)] w2 (Wk.Ret fun v2 w3 => ∃ b2 : Bool, v2 = (.bool b2) ∧ ((!b2) = true → (K x3 0 w3)) ∧ ((!b2) = false → (∃ k2, k2 < k1 ∧ I1 k2 (IntKind.wrap .i64 (x3 + 1)) w3))))) ∧ (¬ (x3 < (n3 : Int)) → (K (-1) 0 w2))))))
set_option maxHeartbeats 2000000 in
set_option maxRecDepth 20000 in
theorem ok_arbiterref13_Audit (A1 : Option Addr) (n1 : Nat) (c1 : Nat) (A2 : Option Addr) (n2 : Nat) (c2 : Nat) (A3 : Option Addr) (n3 : Nat) (c3 : Nat) (K : Int → Int → World → Prop) (w : World) (H : vc_arbiterref13_Audit A1 n1 c1 A2 n2 c2 A3 n3 c3 K w) : Calls P F.arbiterref13_Audit #[(.slice A1 n1 c1), (.slice A2 n2 c2), (.slice A3 n3 c3)] w (Wk.Ret fun v w' => ∃ x1 : Int, ∃ x2 : Int, v = (.tuple #[(.int .i64 x1), (.int .i64 x2)]) ∧ K x1 x2 w') := by
  unfold vc_arbiterref13_Audit at H
  refine Wk.calls_of (P := P) Try.func8 rfl [(0, (.slice A1 n1 c1)), (1, (.slice A2 n2 c2)), (2, (.slice A3 n3 c3))] 27 rfl rfl (fun p hp => by simp only [List.mem_cons, List.not_mem_nil, or_false] at hp; rcases hp with rfl | rfl | rfl <;> rfl) ?_
  refine Wk.cw_seq ?_
  refine Wk.cw_region ?_
  refine Wk.sl_v rfl rfl (Wk.wanted_none rfl) (fun a ha => Wk.x_assign (ha.ev rfl)) ?_
  refine Wk.sl_v rfl rfl (Wk.wanted_none rfl) (fun a ha => Wk.x_assign (ha.ev rfl)) ?_
  refine Wk.sl_nil ?_
  refine Wk.nx_code (Wk.cw_sub (e' := [(0, (.slice A1 n1 c1)), (1, (.slice A2 n2 c2)), (2, (.slice A3 n3 c3))]) (Wk.sub.cons rfl (Wk.sub.cons rfl (Wk.sub.cons rfl (Wk.sub.nil)))) ?_)
  refine Wk.cw_seq ?_
  refine Wk.cw_seq ?_
  refine Wk.cw_region ?_
  refine Wk.sl_v rfl rfl (Wk.wanted_none rfl) (fun a ha => Wk.x_move (ha.ev rfl)) ?_
  refine Wk.sl_call rfl rfl (Wk.wanted_none rfl) (fun a ha => Wk.x_call0 (ha.ev rfl) (ha.evs rfl) FF.callable_arbiterref13_Sound) H ?_
  rintro _ w1 ⟨b1, rfl, H⟩
  refine Wk.sl_v rfl rfl (Wk.wanted_none rfl) (fun a ha => Wk.x_unOp (ha.ev rfl) Wk.u_not) ?_
  refine Wk.sl_nil ?_
  refine Wk.nx_code (Wk.cw_sub (e' := [(0, (.slice A1 n1 c1)), (1, (.slice A2 n2 c2)), (2, (.slice A3 n3 c3)), (12, (.bool (!b1)))]) (Wk.sub.cons rfl (Wk.sub.cons rfl (Wk.sub.cons rfl (Wk.sub.cons rfl (Wk.sub.nil))))) ?_)
  refine Wk.cw_cond rfl (fun hb => ?_) (fun hb => ?_)
  · replace H := H.1 hb
    refine Wk.cw_seq ?_
    refine Wk.cw_region ?_
    refine Wk.sl_v rfl rfl (Wk.wanted_none rfl) (fun a ha => Wk.x_assign (ha.ev rfl)) ?_
    refine Wk.sl_v rfl rfl (Wk.wanted_none rfl) (fun a ha => Wk.x_assign (ha.ev rfl)) ?_
    refine Wk.sl_nil ?_
    refine Wk.nx_code (Wk.cw_sub (e' := [(6, (.int .i64 0)), (7, (.int .i64 80))]) (Wk.sub.cons rfl (Wk.sub.cons rfl (Wk.sub.nil))) ?_)
    refine Wk.cw_ret ?_
    refine Wk.nx_ret_then ?_
    exact Wk.nx_body_ret (Wk.res2 rfl rfl rfl) ⟨_, rfl, _, _, rfl, H⟩
  · replace H := H.2 hb
    refine Wk.cw_skip ?_
    refine Wk.nx_code (Wk.cw_sub (e' := [(0, (.slice A1 n1 c1)), (1, (.slice A2 n2 c2)), (2, (.slice A3 n3 c3))]) (Wk.sub.cons rfl (Wk.sub.cons rfl (Wk.sub.cons rfl (Wk.sub.nil)))) ?_)
    refine Wk.cw_seq ?_
    refine Wk.cw_seq ?_
    refine Wk.cw_region ?_
    refine Wk.sl_v rfl rfl (Wk.wanted_none rfl) (fun a ha => Wk.x_assign (ha.ev rfl)) ?_
    refine Wk.sl_nil ?_
    refine Wk.nx_code (Wk.cw_sub (e' := [(0, (.slice A1 n1 c1)), (1, (.slice A2 n2 c2)), (2, (.slice A3 n3 c3)), (8, (.int .i64 0))]) (Wk.sub.cons rfl (Wk.sub.cons rfl (Wk.sub.cons rfl (Wk.sub.cons rfl (Wk.sub.nil))))) ?_)
    refine Wk.cw_block ?_
    obtain ⟨I1, ⟨k1, hi⟩, H⟩ := H
    refine Wk.cw_loop (fun k1 a w' => ∃ x3 : Int, Wk.Ok 27 [(0, (.slice A1 n1 c1)), (1, (.slice A2 n2 c2)), (2, (.slice A3 n3 c3)), (8, (.int .i64 x3))] a ∧ I1 k1 x3 w') (fun a ha => ⟨k1, 0, ha.weaken (Wk.sub.cons rfl (Wk.sub.cons rfl (Wk.sub.cons rfl (Wk.sub.cons rfl (Wk.sub.nil))))), hi⟩) ?_
    rintro k1 a w2 ⟨x3, ha, hI⟩
    replace H := H k1 x3 w2 hI
    refine (?_ : Wk.CW _ _ _ 27 [(0, (.slice A1 n1 c1)), (1, (.slice A2 n2 c2)), (2, (.slice A3 n3 c3)), (8, (.int .i64 x3))] _) a ha
    refine Wk.cw_seq ?_
    refine Wk.cw_seq ?_
    refine Wk.cw_region ?_
    refine Wk.sl_v rfl rfl (Wk.wanted_none rfl) (fun a ha => Wk.x_move (ha.ev rfl)) ?_
    refine Wk.sl_v rfl rfl (Wk.wanted_none rfl) (fun a ha => Wk.x_move (ha.ev rfl)) ?_
    refine Wk.sl_v rfl rfl (Wk.wanted_none rfl) (fun a ha => Wk.x_builtin (ha.evs rfl) (fun _ => Wk.l_slice TF.isslice_sl_api_Link)) ?_
    refine Wk.sl_v rfl rfl (Wk.wanted_none rfl) (fun a ha => Wk.x_binOp (ha.ev rfl) (ha.ev rfl) Wk.o_lss) ?_
    refine Wk.sl_nil ?_
    refine Wk.nx_code (Wk.cw_sub (e' := [(0, (.slice A1 n1 c1)), (1, (.slice A2 n2 c2)), (2, (.slice A3 n3 c3)), (8, (.int .i64 x3)), (16, (.bool (decide (x3 < (n3 : Int)))))]) (Wk.sub.cons rfl (Wk.sub.cons rfl (Wk.sub.cons rfl (Wk.sub.cons rfl (Wk.sub.cons rfl (Wk.sub.nil)))))) ?_)
    refine Wk.cw_cond_p rfl (fun hb => ?_) (fun hb => ?_)
    · replace H := H.1 hb
      refine Wk.cw_skip ?_
      refine Wk.nx_code (Wk.cw_sub (e' := [(0, (.slice A1 n1 c1)), (1, (.slice A2 n2 c2)), (2, (.slice A3 n3 c3)), (8, (.int .i64 x3))]) (Wk.sub.cons rfl (Wk.sub.cons rfl (Wk.sub.cons rfl (Wk.sub.cons rfl (Wk.sub.nil))))) ?_)
      refine Wk.cw_seq ?_
      refine Wk.cw_block ?_
      refine Wk.cw_seq ?_
      refine Wk.cw_region ?_
      refine Wk.sl_v rfl rfl (Wk.wanted_none rfl) (fun a ha => Wk.x_move (ha.ev rfl)) ?_
      refine Wk.sl_v rfl rfl (Wk.wanted_none rfl) (fun a ha => Wk.x_move (ha.ev rfl)) ?_
      refine Wk.sl_v rfl rfl (Wk.wanted_none rfl) (fun a ha => Wk.x_move (ha.ev rfl)) ?_
      refine Wk.sl_v rfl rfl (Wk.wanted_none rfl) (fun a ha => Wk.x_move (ha.ev rfl)) ?_
      refine Wk.sl_call rfl rfl (Wk.wanted_none rfl) (fun a ha => Wk.x_call0 (ha.ev rfl) (ha.evs rfl) FF.callable_arbiterref13_Follows) H ?_
      rintro _ w3 ⟨b2, rfl, H⟩
      refine Wk.sl_v rfl rfl (Wk.wanted_none rfl) (fun a ha => Wk.x_assign (ha.ev rfl)) ?_
      refine Wk.sl_nil ?_
      refine Wk.nx_code (Wk.cw_sub (e' := [(0, (.slice A1 n1 c1)), (1, (.slice A2 n2 c2)), (2, (.slice A3 n3 c3)), (8, (.int .i64 x3)), (9, (.bool b2))]) (Wk.sub.cons rfl (Wk.sub.cons rfl (Wk.sub.cons rfl (Wk.sub.cons rfl (Wk.sub.cons rfl (Wk.sub.nil)))))) ?_)
      refine Wk.cw_seq ?_
      refine Wk.cw_region ?_
      refine Wk.sl_v rfl rfl (Wk.wanted_none rfl) (fun a ha => Wk.x_move (ha.ev rfl)) ?_
      refine Wk.sl_v rfl rfl (Wk.wanted_none rfl) (fun a ha => Wk.x_unOp (ha.ev rfl) Wk.u_not) ?_
      refine Wk.sl_nil ?_
      refine Wk.nx_code (Wk.cw_sub (e' := [(0, (.slice A1 n1 c1)), (1, (.slice A2 n2 c2)), (2, (.slice A3 n3 c3)), (8, (.int .i64 x3)), (25, (.bool (!b2)))]) (Wk.sub.cons rfl (Wk.sub.cons rfl (Wk.sub.cons rfl (Wk.sub.cons rfl (Wk.sub.cons rfl (Wk.sub.nil)))))) ?_)
      refine Wk.cw_cond rfl (fun hb => ?_) (fun hb => ?_)
      · replace H := H.1 hb
        refine Wk.cw_seq ?_
        refine Wk.cw_region ?_
        refine Wk.sl_v rfl rfl (Wk.wanted_none rfl) (fun a ha => Wk.x_move (ha.ev rfl)) ?_
        refine Wk.sl_v rfl rfl (Wk.wanted_none rfl) (fun a ha => Wk.x_assign (ha.ev rfl)) ?_
        refine Wk.sl_v rfl rfl (Wk.wanted_none rfl) (fun a ha => Wk.x_assign (ha.ev rfl)) ?_
        refine Wk.sl_nil ?_
        refine Wk.nx_code (Wk.cw_sub (e' := [(6, (.int .i64 x3)), (7, (.int .i64 0))]) (Wk.sub.cons rfl (Wk.sub.cons rfl (Wk.sub.nil))) ?_)
        refine Wk.cw_ret ?_
        refine Wk.nx_ret_block ?_
        refine Wk.nx_ret_then ?_
        refine Wk.nx_ret_then ?_
        refine Wk.nx_ret_block ?_
        refine Wk.nx_ret_then ?_
        exact Wk.nx_body_ret (Wk.res2 rfl rfl rfl) ⟨_, rfl, _, _, rfl, H⟩
      · replace H := H.2 hb
        refine Wk.cw_skip ?_
        refine Wk.nx_block ?_
        refine Wk.nx_code (Wk.cw_sub (e' := [(0, (.slice A1 n1 c1)), (1, (.slice A2 n2 c2)), (2, (.slice A3 n3 c3)), (8, (.int .i64 x3))]) (Wk.sub.cons rfl (Wk.sub.cons rfl (Wk.sub.cons rfl (Wk.sub.cons rfl (Wk.sub.nil))))) ?_)
        refine Wk.cw_region ?_
        refine Wk.sl_v rfl rfl (Wk.wanted_none rfl) (fun a ha => Wk.x_move (ha.ev rfl)) ?_
        refine Wk.sl_v rfl rfl (Wk.wanted_none rfl) (fun a ha => Wk.x_binOp (ha.ev rfl) (ha.ev rfl) Wk.o_add) ?_
        refine Wk.sl_v rfl rfl (Wk.wanted_none rfl) (fun a ha => Wk.x_assign (ha.ev rfl)) ?_
        refine Wk.sl_nil ?_
        obtain ⟨k2, hk, H⟩ := H
        exact Wk.nx_to fun a ha => ⟨k2, hk, IntKind.wrap .i64 (x3 + 1), ha.weaken (Wk.sub.cons rfl (Wk.sub.cons rfl (Wk.sub.cons rfl (Wk.sub.cons rfl (Wk.sub.nil))))), H⟩
    · replace H := H.2 hb
      refine Wk.cw_exit ?_
      refine Wk.nx_exit_then ?_
      refine Wk.nx_exit_then ?_
      refine Wk.nx_exit_hit ?_
      refine Wk.nx_code (Wk.cw_sub (e' := []) (Wk.sub.nil) ?_)
      refine Wk.cw_seq ?_
      refine Wk.cw_region ?_
      refine Wk.sl_v rfl rfl (Wk.wanted_none rfl) (fun a ha => Wk.x_assign (ha.ev rfl)) ?_
      refine Wk.sl_v rfl rfl (Wk.wanted_none rfl) (fun a ha => Wk.x_assign (ha.ev rfl)) ?_
      refine Wk.sl_nil ?_
      refine Wk.nx_code (Wk.cw_sub (e' := [(6, (.int .i64 (-1))), (7, (.int .i64 0))]) (Wk.sub.cons rfl (Wk.sub.cons rfl (Wk.sub.nil))) ?_)
      refine Wk.cw_ret ?_
      exact Wk.nx_body_ret (Wk.res2 rfl rfl rfl) ⟨_, rfl, _, _, rfl, H⟩
end Go.Proofs.Ytnbakpoahcndpaa
