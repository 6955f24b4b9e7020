/- Printed by a program (vc.py): for each function a formula over the world, and the proof that it tells what the call comes to. -/
import Derived.Test.YtnbakpoahcndpaaNums
set_option linter.unusedVariables false
set_option linter.unusedSimpArgs false
namespace Go.Proofs.Ytnbakpoahcndpaa
def vc_euf_sound_J1 (K : Bool → World → Prop) (w3 : World) (k2 : Nat) (I2 : Nat → Int → Prop) (x3 : Int) (b2 : Bool) : Prop :=
  (b2 = true → (K false w3)) ∧ (b2 = false → (∃ k3, k3 < k2 ∧ I2 k3 (IntKind.wrap .i64 (x3 + 1))))
def vc_euf_sound (A1 : Option Addr) (n1 : Nat) (c1 : Nat) (K : Bool → World → Prop) (w : World) : Prop :=
  ∃ I1 : Nat → Int → World → Prop, (∃ k1, I1 k1 0 w) ∧ ∀ k1 (x1 : Int) (w1 : World), I1 k1 x1 w1 → ((x1 < (n1 : Int) → (0 ≤ x1 ∧ x1 < (n1 : Int) ∧ ∃ a1, A1 = some a1 ∧ ∃ x2 : Int, ∃ A2 : Option Addr, ∃ n2 : Nat, ∃ c2 : Nat, Wk.CellsAt w1 (a1.add (x1.toNat * 2)) [(.int .i64 x2), (.slice A2 n2 c2)] ∧ ∀ (p1 : Addr) (w2 : World), Wk.New w1 (.cells #[(.int .i64 0), (.slice none 0 0)] T.api_Flat) p1 w2 → (Wk.Soft w2 p1 2 ∧ ∀ w3, w3 = Wk.setCellsAt w2 p1 [(.int .i64 x2), (.slice A2 n2 c2)] → (∃ A3 : Option Addr, ∃ n3 : Nat, ∃ c3 : Nat, w3.cell? (p1.add 1) = some (.slice A3 n3 c3) ∧ ∃ I2 : Nat → Int → Prop, (∃ k2, I2 k2 0) ∧ ∀ k2 (x3 : Int), I2 k2 x3 → ((x3 < (n3 : Int) → (0 ≤ x3 ∧ x3 < (n3 : Int) ∧ ∃ a2, A3 = some a2 ∧ ∃ x4 : Int, w3.cell? (a2.add (x3.toNat * 1)) = some (.int .i64 x4) ∧ (x4 < 0 → ((vc_euf_sound_J1 K w3 k2 I2 x3) true)) ∧ (¬ (x4 < 0) → ((vc_euf_sound_J1 K w3 k2 I2 x3) (decide (x1 ≤ x4)))))) ∧ (¬ (x3 < (n3 : Int)) → (∃ k4, k4 < k1 ∧ I1 k4 (IntKind.wrap .i64 (x1 + 1)) w3))))))) ∧ (¬ (x1 < (n1 : Int)) → (K true w1)))
set_option maxHeartbeats 2000000 in
set_option maxRecDepth 20000 in
theorem ok_euf_sound (A1 : Option Addr) (n1 : Nat) (c1 : Nat) (K : Bool → World → Prop) (w : World) (H : vc_euf_sound A1 n1 c1 K w) : Calls P F.euf_sound #[(.slice A1 n1 c1)] w (Wk.Ret fun v w' => ∃ b1 : Bool, v = (.bool b1) ∧ K b1 w') := by
  unfold vc_euf_sound at H
  refine Wk.calls_of (P := P) Try.func13 rfl [(0, (.slice A1 n1 c1))] 30 rfl rfl (fun p hp => by rcases List.mem_singleton.1 hp with rfl; rfl) ?_
  refine Wk.cw_seq ?_
  refine Wk.cw_region ?_
  refine Wk.sl_v rfl rfl (Wk.wanted_none rfl) (fun a ha => Wk.x_assign (ha.ev rfl)) ?_
  refine Wk.sl_nil ?_
  refine Wk.nx_code (Wk.cw_sub (e' := [(0, (.slice A1 n1 c1))]) (Wk.sub.cons rfl (Wk.sub.nil)) ?_)
  refine Wk.cw_seq ?_
  refine Wk.cw_seq ?_
  refine Wk.cw_region ?_
  refine Wk.sl_v rfl rfl (Wk.wanted_none rfl) (fun a ha => Wk.x_move (ha.ev rfl)) ?_
  refine Wk.sl_v rfl rfl (Wk.wanted_none rfl) (fun a ha => Wk.x_builtin (ha.evs rfl) (fun _ => Wk.l_slice TF.isslice_sl_api_Flat)) ?_
  refine Wk.sl_v rfl rfl (Wk.wanted_none rfl) (fun a ha => Wk.x_move (ha.ev rfl)) ?_
  refine Wk.sl_nil ?_
  refine Wk.nx_code (Wk.cw_sub (e' := [(7, (.slice A1 n1 c1)), (8, (.int .i64 (n1 : Int))), (9, (.int .i64 0))]) (Wk.sub.cons rfl (Wk.sub.cons rfl (Wk.sub.cons rfl (Wk.sub.nil)))) ?_)
  refine Wk.cw_block ?_
  obtain ⟨I1, ⟨k1, hi⟩, H⟩ := H
  refine Wk.cw_loop (fun k1 a w' => ∃ x1 : Int, Wk.Ok 30 [(7, (.slice A1 n1 c1)), (8, (.int .i64 (n1 : Int))), (9, (.int .i64 x1))] a ∧ I1 k1 x1 w') (fun a ha => ⟨k1, 0, ha.weaken (Wk.sub.cons rfl (Wk.sub.cons rfl (Wk.sub.cons rfl (Wk.sub.nil)))), hi⟩) ?_
  rintro k1 a w1 ⟨x1, ha, hI⟩
  replace H := H k1 x1 w1 hI
  refine (?_ : Wk.CW _ _ _ 30 [(7, (.slice A1 n1 c1)), (8, (.int .i64 (n1 : Int))), (9, (.int .i64 x1))] _) a ha
  refine Wk.cw_seq ?_
  refine Wk.cw_region ?_
  refine Wk.sl_v rfl rfl (Wk.wanted_none rfl) (fun a ha => Wk.x_binOp (ha.ev rfl) (ha.ev rfl) Wk.o_lss) ?_
  refine Wk.sl_nil ?_
  refine Wk.nx_code (Wk.cw_sub (e' := [(7, (.slice A1 n1 c1)), (8, (.int .i64 (n1 : Int))), (9, (.int .i64 x1)), (10, (.bool (decide (x1 < (n1 : Int)))))]) (Wk.sub.cons rfl (Wk.sub.cons rfl (Wk.sub.cons rfl (Wk.sub.cons rfl (Wk.sub.nil))))) ?_)
  refine Wk.cw_seq ?_
  refine Wk.cw_cond_p rfl (fun hb => ?_) (fun hb => ?_)
  · replace H := H.1 hb
    refine Wk.cw_skip ?_
    refine Wk.nx_code (Wk.cw_sub (e' := [(7, (.slice A1 n1 c1)), (8, (.int .i64 (n1 : Int))), (9, (.int .i64 x1))]) (Wk.sub.cons rfl (Wk.sub.cons rfl (Wk.sub.cons rfl (Wk.sub.nil)))) ?_)
    refine Wk.cw_seq ?_
    refine Wk.cw_block ?_
    refine Wk.cw_seq ?_
    refine Wk.cw_region ?_
    refine Wk.sl_v rfl rfl (Wk.wanted_none rfl) (fun a ha => Wk.x_move (ha.ev rfl)) ?_
    obtain ⟨h1, h2, a1, e1, H⟩ := H
    refine Wk.sl_v rfl rfl (Wk.wanted_none rfl) (fun a ha => Wk.x_indexAddr (ha.ev rfl) (ha.ev rfl) (Wk.i_index TF.elem_sl_api_Flat TF.size_api_Flat e1 h1 h2)) ?_
    obtain ⟨x2, A2, n2, c2, h3, H⟩ := H
    refine Wk.sl_v rfl rfl (Wk.wanted_none rfl) (fun a ha => Wk.x_load (ha.ev rfl) (Wk.i_loadN (vs := [(.int .i64 x2), (.slice A2 n2 c2)]) TF.agg_api_Flat TF.size_api_Flat h3)) ?_
    refine Wk.sl_new (f := (fun p => .pointer (some p))) rfl rfl (Wk.wanted_none rfl) (fun a ha => Wk.x_alloc (Wk.i_alloc TF.zero_api_Flat)) ?_
    intro p1 w2 hN; replace H := H _ _ hN
    refine Wk.sl_v rfl rfl (Wk.wanted_none rfl) (fun a ha => Wk.x_assign (ha.ev rfl)) ?_
    obtain ⟨h5, H⟩ := H
    refine Wk.sl_un rfl (Wk.wanted_none rfl) (fun a ha => Wk.x_store (ha.ev rfl) (ha.ev rfl) (Wk.i_storeN TF.size_api_Flat (by simp [Value.oneCell']) h5)) ?_
    intro w3 hw; replace H := H _ hw; clear hw
    refine Wk.sl_nil ?_
    refine Wk.nx_code (Wk.cw_sub (e' := [(3, (.int .i64 x1)), (4, (.pointer (some p1))), (7, (.slice A1 n1 c1)), (8, (.int .i64 (n1 : Int))), (9, (.int .i64 x1))]) (Wk.sub.cons rfl (Wk.sub.cons rfl (Wk.sub.cons rfl (Wk.sub.cons rfl (Wk.sub.cons rfl (Wk.sub.nil)))))) ?_)
    refine Wk.cw_seq ?_
    refine Wk.cw_region ?_
    refine Wk.sl_v rfl rfl (Wk.wanted_none rfl) (fun a ha => Wk.x_fieldAddr (ha.ev rfl) (TF.fld_api_Flat_1 _ _)) ?_
    obtain ⟨A3, n3, c3, h6, H⟩ := H
    refine Wk.sl_v rfl rfl (Wk.wanted_none rfl) (fun a ha => Wk.x_load (ha.ev rfl) (Wk.i_load1 TF.agg_sl_int h6)) ?_
    refine Wk.sl_v rfl rfl (Wk.wanted_none rfl) (fun a ha => Wk.x_builtin (ha.evs rfl) (fun _ => Wk.l_slice TF.isslice_sl_int)) ?_
    refine Wk.sl_v rfl rfl (Wk.wanted_none rfl) (fun a ha => Wk.x_move (ha.ev rfl)) ?_
    refine Wk.sl_nil ?_
    refine Wk.nx_code (Wk.cw_sub (e' := [(3, (.int .i64 x1)), (7, (.slice A1 n1 c1)), (8, (.int .i64 (n1 : Int))), (9, (.int .i64 x1)), (15, (.slice A3 n3 c3)), (16, (.int .i64 (n3 : Int))), (17, (.int .i64 0))]) (Wk.sub.cons rfl (Wk.sub.cons rfl (Wk.sub.cons rfl (Wk.sub.cons rfl (Wk.sub.cons rfl (Wk.sub.cons rfl (Wk.sub.cons rfl (Wk.sub.nil)))))))) ?_)
    refine Wk.cw_block ?_
    obtain ⟨I2, ⟨k2, hi⟩, H⟩ := H
    refine Wk.cw_loop_still (fun k2 a => ∃ x3 : Int, Wk.Ok 30 [(3, (.int .i64 x1)), (7, (.slice A1 n1 c1)), (8, (.int .i64 (n1 : Int))), (9, (.int .i64 x1)), (15, (.slice A3 n3 c3)), (16, (.int .i64 (n3 : Int))), (17, (.int .i64 x3))] a ∧ I2 k2 x3) (fun a ha => ⟨k2, 0, ha.weaken (Wk.sub.cons rfl (Wk.sub.cons rfl (Wk.sub.cons rfl (Wk.sub.cons rfl (Wk.sub.cons rfl (Wk.sub.cons rfl (Wk.sub.cons rfl (Wk.sub.nil)))))))), hi⟩) ?_
    rintro k2 a ⟨x3, ha, hI⟩
    replace H := H k2 x3 hI
    refine (?_ : Wk.CW _ _ _ 30 [(3, (.int .i64 x1)), (7, (.slice A1 n1 c1)), (8, (.int .i64 (n1 : Int))), (9, (.int .i64 x1)), (15, (.slice A3 n3 c3)), (16, (.int .i64 (n3 : Int))), (17, (.int .i64 x3))] _) a ha
    refine Wk.cw_seq ?_
    refine Wk.cw_region ?_
    refine Wk.sl_v rfl rfl (Wk.wanted_none rfl) (fun a ha => Wk.x_binOp (ha.ev rfl) (ha.ev rfl) Wk.o_lss) ?_
    refine Wk.sl_nil ?_
    refine Wk.nx_code (Wk.cw_sub (e' := [(3, (.int .i64 x1)), (7, (.slice A1 n1 c1)), (8, (.int .i64 (n1 : Int))), (9, (.int .i64 x1)), (15, (.slice A3 n3 c3)), (16, (.int .i64 (n3 : Int))), (17, (.int .i64 x3)), (18, (.bool (decide (x3 < (n3 : Int)))))]) (Wk.sub.cons rfl (Wk.sub.cons rfl (Wk.sub.cons rfl (Wk.sub.cons rfl (Wk.sub.cons rfl (Wk.sub.cons rfl (Wk.sub.cons rfl (Wk.sub.cons rfl (Wk.sub.nil))))))))) ?_)
    refine Wk.cw_seq ?_
    refine Wk.cw_cond_p rfl (fun hb => ?_) (fun hb => ?_)
    · replace H := H.1 hb
      refine Wk.cw_skip ?_
      refine Wk.nx_code (Wk.cw_sub (e' := [(3, (.int .i64 x1)), (7, (.slice A1 n1 c1)), (8, (.int .i64 (n1 : Int))), (9, (.int .i64 x1)), (15, (.slice A3 n3 c3)), (16, (.int .i64 (n3 : Int))), (17, (.int .i64 x3))]) (Wk.sub.cons rfl (Wk.sub.cons rfl (Wk.sub.cons rfl (Wk.sub.cons rfl (Wk.sub.cons rfl (Wk.sub.cons rfl (Wk.sub.cons rfl (Wk.sub.nil)))))))) ?_)
      refine Wk.cw_seq ?_
      refine Wk.cw_block ?_
      refine Wk.cw_seq ?_
      refine Wk.cw_region ?_
      obtain ⟨h7, h8, a2, e2, H⟩ := H
      refine Wk.sl_v rfl rfl (Wk.wanted_none rfl) (fun a ha => Wk.x_indexAddr (ha.ev rfl) (ha.ev rfl) (Wk.i_index TF.elem_sl_int TF.size_int e2 h7 h8)) ?_
      obtain ⟨x4, h9, H⟩ := H
      refine Wk.sl_v rfl rfl (Wk.wanted_none rfl) (fun a ha => Wk.x_load (ha.ev rfl) (Wk.i_load1 TF.agg_int h9)) ?_
      refine Wk.sl_v rfl rfl (Wk.wanted_none rfl) (fun a ha => Wk.x_assign (ha.ev rfl)) ?_
      refine Wk.sl_nil ?_
      refine Wk.nx_code (Wk.cw_sub (e' := [(3, (.int .i64 x1)), (6, (.int .i64 x4)), (7, (.slice A1 n1 c1)), (8, (.int .i64 (n1 : Int))), (9, (.int .i64 x1)), (15, (.slice A3 n3 c3)), (16, (.int .i64 (n3 : Int))), (17, (.int .i64 x3))]) (Wk.sub.cons rfl (Wk.sub.cons rfl (Wk.sub.cons rfl (Wk.sub.cons rfl (Wk.sub.cons rfl (Wk.sub.cons rfl (Wk.sub.cons rfl (Wk.sub.cons rfl (Wk.sub.nil))))))))) ?_)
      refine Wk.cw_join_still (fun a => ∃ b2 : Bool, Wk.Ok 30 [(3, (.int .i64 x1)), (7, (.slice A1 n1 c1)), (8, (.int .i64 (n1 : Int))), (9, (.int .i64 x1)), (15, (.slice A3 n3 c3)), (16, (.int .i64 (n3 : Int))), (17, (.int .i64 x3)), (27, (.bool b2))] a ∧ vc_euf_sound_J1 K w3 k2 I2 x3 b2) ?_ ?_
      · rintro a ⟨b2, ha, H⟩
        unfold vc_euf_sound_J1 at H
        refine (?_ : Wk.CW _ _ _ 30 [(3, (.int .i64 x1)), (7, (.slice A1 n1 c1)), (8, (.int .i64 (n1 : Int))), (9, (.int .i64 x1)), (15, (.slice A3 n3 c3)), (16, (.int .i64 (n3 : Int))), (17, (.int .i64 x3)), (27, (.bool b2))] _) a ha
        refine Wk.cw_cond rfl (fun hb => ?_) (fun hb => ?_)
        · replace H := H.1 hb
          refine Wk.cw_seq ?_
          refine Wk.cw_region ?_
          refine Wk.sl_v rfl rfl (Wk.wanted_none rfl) (fun a ha => Wk.x_assign (ha.ev rfl)) ?_
          refine Wk.sl_nil ?_
          refine Wk.nx_code (Wk.cw_sub (e' := [(2, (.bool false))]) (Wk.sub.cons rfl (Wk.sub.nil)) ?_)
          refine Wk.cw_ret ?_
          refine Wk.nx_ret_block ?_
          refine Wk.nx_ret_then ?_
          refine Wk.nx_ret_then ?_
          refine Wk.nx_ret_block ?_
          refine Wk.nx_ret_block ?_
          refine Wk.nx_ret_then ?_
          refine Wk.nx_ret_then ?_
          refine Wk.nx_ret_block ?_
          refine Wk.nx_ret_then ?_
          exact Wk.nx_body_ret (Wk.res1 rfl rfl) ⟨_, rfl, _, rfl, H⟩
        · replace H := H.2 hb
          refine Wk.cw_skip ?_
          refine Wk.nx_block ?_
          refine Wk.nx_code (Wk.cw_sub (e' := [(3, (.int .i64 x1)), (7, (.slice A1 n1 c1)), (8, (.int .i64 (n1 : Int))), (9, (.int .i64 x1)), (15, (.slice A3 n3 c3)), (16, (.int .i64 (n3 : Int))), (17, (.int .i64 x3))]) (Wk.sub.cons rfl (Wk.sub.cons rfl (Wk.sub.cons rfl (Wk.sub.cons rfl (Wk.sub.cons rfl (Wk.sub.cons rfl (Wk.sub.cons rfl (Wk.sub.nil)))))))) ?_)
          refine Wk.cw_region ?_
          refine Wk.sl_v rfl rfl (Wk.wanted_none rfl) (fun a ha => Wk.x_binOp (ha.ev rfl) (ha.ev rfl) Wk.o_add) ?_
          refine Wk.sl_v rfl rfl (Wk.wanted_none rfl) (fun a ha => Wk.x_move (ha.ev rfl)) ?_
          refine Wk.sl_nil ?_
          obtain ⟨k3, hk, H⟩ := H
          exact Wk.nx_to fun a ha => ⟨k3, hk, ⟨IntKind.wrap .i64 (x3 + 1), ha.weaken (Wk.sub.cons rfl (Wk.sub.cons rfl (Wk.sub.cons rfl (Wk.sub.cons rfl (Wk.sub.cons rfl (Wk.sub.cons rfl (Wk.sub.cons rfl (Wk.sub.nil)))))))), H⟩, rfl⟩
      · refine Wk.cw_region ?_
        refine Wk.sl_v rfl rfl (Wk.wanted_none rfl) (fun a ha => Wk.x_move (ha.ev rfl)) ?_
        refine Wk.sl_v rfl rfl (Wk.wanted_none rfl) (fun a ha => Wk.x_binOp (ha.ev rfl) (ha.ev rfl) Wk.o_lss) ?_
        rcases Classical.em (x4 < 0) with hb | hb
        · replace H := H.1 hb
          refine Wk.sl_v rfl rfl (Wk.wanted_none rfl) (fun a ha => Wk.o_t (Wk.x_move (ha.ev rfl)) hb) ?_
          refine Wk.sl_skip rfl rfl (Wk.wanted_not rfl rfl rfl rfl) ?_
          refine Wk.sl_skip rfl rfl (Wk.wanted_not rfl rfl rfl rfl) ?_
          refine Wk.sl_skip rfl rfl (Wk.wanted_not rfl rfl rfl rfl) ?_
          refine Wk.sl_v rfl rfl (Wk.wanted_none rfl) (fun a ha => Wk.x_pick_t (ha.ev rfl) (ha.ev rfl)) ?_
          refine Wk.sl_nil ?_
          exact Wk.nx_to fun a ha => ⟨⟨true, ha.weaken (Wk.sub.cons rfl (Wk.sub.cons rfl (Wk.sub.cons rfl (Wk.sub.cons rfl (Wk.sub.cons rfl (Wk.sub.cons rfl (Wk.sub.cons rfl (Wk.sub.cons rfl (Wk.sub.nil))))))))), H⟩, rfl⟩
        · replace H := H.2 hb
          refine Wk.sl_v rfl rfl (Wk.wanted_none rfl) (fun a ha => Wk.o_f (Wk.x_move (ha.ev rfl)) hb) ?_
          refine Wk.sl_v rfl rfl (Wk.wanted_some rfl rfl rfl) (fun a ha => Wk.x_move (ha.ev rfl)) ?_
          refine Wk.sl_v rfl rfl (Wk.wanted_some rfl rfl rfl) (fun a ha => Wk.x_move (ha.ev rfl)) ?_
          refine Wk.sl_v rfl rfl (Wk.wanted_some rfl rfl rfl) (fun a ha => Wk.x_binOp (ha.ev rfl) (ha.ev rfl) Wk.o_geq) ?_
          refine Wk.sl_v rfl rfl (Wk.wanted_none rfl) (fun a ha => Wk.x_pick_f (ha.ev rfl) (ha.ev rfl)) ?_
          refine Wk.sl_nil ?_
          exact Wk.nx_to fun a ha => ⟨⟨(decide (x1 ≤ x4)), ha.weaken (Wk.sub.cons rfl (Wk.sub.cons rfl (Wk.sub.cons rfl (Wk.sub.cons rfl (Wk.sub.cons rfl (Wk.sub.cons rfl (Wk.sub.cons rfl (Wk.sub.cons rfl (Wk.sub.nil))))))))), H⟩, rfl⟩
    · replace H := H.2 hb
      refine Wk.cw_exit ?_
      refine Wk.nx_exit_then ?_
      refine Wk.nx_exit_then ?_
      refine Wk.nx_exit_hit ?_
      refine Wk.nx_block ?_
      refine Wk.nx_code (Wk.cw_sub (e' := [(7, (.slice A1 n1 c1)), (8, (.int .i64 (n1 : Int))), (9, (.int .i64 x1))]) (Wk.sub.cons rfl (Wk.sub.cons rfl (Wk.sub.cons rfl (Wk.sub.nil)))) ?_)
      refine Wk.cw_region ?_
      refine Wk.sl_v rfl rfl (Wk.wanted_none rfl) (fun a ha => Wk.x_binOp (ha.ev rfl) (ha.ev rfl) Wk.o_add) ?_
      refine Wk.sl_v rfl rfl (Wk.wanted_none rfl) (fun a ha => Wk.x_move (ha.ev rfl)) ?_
      refine Wk.sl_nil ?_
      obtain ⟨k4, hk, H⟩ := H
      exact Wk.nx_to fun a ha => ⟨k4, hk, IntKind.wrap .i64 (x1 + 1), ha.weaken (Wk.sub.cons rfl (Wk.sub.cons rfl (Wk.sub.cons rfl (Wk.sub.nil)))), H⟩
  · replace H := H.2 hb
    refine Wk.cw_exit ?_
    refine Wk.nx_exit_then ?_
    refine Wk.nx_exit_then ?_
    refine Wk.nx_exit_hit ?_
    refine Wk.nx_code (Wk.cw_sub (e' := []) (Wk.sub.nil) ?_)
    refine Wk.cw_seq ?_
    refine Wk.cw_region ?_
    refine Wk.sl_v rfl rfl (Wk.wanted_none rfl) (fun a ha => Wk.x_assign (ha.ev rfl)) ?_
    refine Wk.sl_nil ?_
    refine Wk.nx_code (Wk.cw_sub (e' := [(2, (.bool true))]) (Wk.sub.cons rfl (Wk.sub.nil)) ?_)
    refine Wk.cw_ret ?_
    exact Wk.nx_body_ret (Wk.res1 rfl rfl) ⟨_, rfl, _, rfl, H⟩
def vc_arbiterlaw13_sound_J1 (K : Bool → World → Prop) (w : World) (k2 : Nat) (I2 : Nat → Int → Prop) (x2 : Int) (b2 : Bool) : Prop :=
  (b2 = true → (K false w)) ∧ (b2 = false → (∃ k3, k3 < k2 ∧ I2 k3 (IntKind.wrap .i64 (x2 + 1))))
def vc_arbiterlaw13_sound (A1 : Option Addr) (n1 : Nat) (c1 : Nat) (K : Bool → World → Prop) (w : World) : Prop :=
  ∃ I1 : Nat → Int → Prop, (∃ k1, I1 k1 0) ∧ ∀ k1 (x1 : Int), I1 k1 x1 → ((x1 < (n1 : Int) → (∃ I2 : Nat → Int → Prop, (∃ k2, I2 k2 0) ∧ ∀ k2 (x2 : Int), I2 k2 x2 → (0 ≤ x1 ∧ x1 < (n1 : Int) ∧ ∃ a1, A1 = some a1 ∧ ∃ A2 : Option Addr, ∃ n2 : Nat, ∃ c2 : Nat, w.cell? ((a1.add (x1.toNat * 2)).add 1) = some (.slice A2 n2 c2) ∧ (x2 < (n2 : Int) → (0 ≤ x1 ∧ x1 < (n1 : Int) ∧ ∃ a2, A1 = some a2 ∧ ∃ A3 : Option Addr, ∃ n3 : Nat, ∃ c3 : Nat, w.cell? ((a2.add (x1.toNat * 2)).add 1) = some (.slice A3 n3 c3) ∧ 0 ≤ x2 ∧ x2 < (n3 : Int) ∧ ∃ a3, A3 = some a3 ∧ ∃ x3 : Int, w.cell? (a3.add (x2.toNat * 1)) = some (.int .i64 x3) ∧ (x3 < 0 → ((vc_arbiterlaw13_sound_J1 K w k2 I2 x2) true)) ∧ (¬ (x3 < 0) → (0 ≤ x1 ∧ x1 < (n1 : Int) ∧ ∃ a4, A1 = some a4 ∧ ∃ A4 : Option Addr, ∃ n4 : Nat, ∃ c4 : Nat, w.cell? ((a4.add (x1.toNat * 2)).add 1) = some (.slice A4 n4 c4) ∧ 0 ≤ x2 ∧ x2 < (n4 : Int) ∧ ∃ a5, A4 = some a5 ∧ ∃ x4 : Int, w.cell? (a5.add (x2.toNat * 1)) = some (.int .i64 x4) ∧ (vc_arbiterlaw13_sound_J1 K w k2 I2 x2) (decide (x1 ≤ x4)))))) ∧ (¬ (x2 < (n2 : Int)) → (∃ k4, k4 < k1 ∧ I1 k4 (IntKind.wrap .i64 (x1 + 1))))))) ∧ (¬ (x1 < (n1 : Int)) → (K true w)))
set_option maxHeartbeats 2000000 in
set_option maxRecDepth 20000 in
theorem ok_arbiterlaw13_sound (A1 : Option Addr) (n1 : Nat) (c1 : Nat) (K : Bool → World → Prop) (w : World) (H : vc_arbiterlaw13_sound A1 n1 c1 K w) : Calls P F.arbiterlaw13_sound #[(.slice A1 n1 c1)] w (Wk.Ret fun v w' => ∃ b1 : Bool, v = (.bool b1) ∧ K b1 w') := by
  unfold vc_arbiterlaw13_sound at H
  refine Wk.calls_of (P := P) Try.func11 rfl [(0, (.slice A1 n1 c1))] 42 rfl rfl (fun p hp => by rcases List.mem_singleton.1 hp with rfl; rfl) ?_
  refine Wk.cw_seq ?_
  refine Wk.cw_region ?_
  refine Wk.sl_v rfl rfl (Wk.wanted_none rfl) (fun a ha => Wk.x_assign (ha.ev rfl)) ?_
  refine Wk.sl_nil ?_
  refine Wk.nx_code (Wk.cw_sub (e' := [(0, (.slice A1 n1 c1))]) (Wk.sub.cons rfl (Wk.sub.nil)) ?_)
  refine Wk.cw_seq ?_
  refine Wk.cw_seq ?_
  refine Wk.cw_region ?_
  refine Wk.sl_v rfl rfl (Wk.wanted_none rfl) (fun a ha => Wk.x_assign (ha.ev rfl)) ?_
  refine Wk.sl_nil ?_
  refine Wk.nx_code (Wk.cw_sub (e' := [(0, (.slice A1 n1 c1)), (3, (.int .i64 0))]) (Wk.sub.cons rfl (Wk.sub.cons rfl (Wk.sub.nil))) ?_)
  refine Wk.cw_block ?_
  obtain ⟨I1, ⟨k1, hi⟩, H⟩ := H
  refine Wk.cw_loop_still (fun k1 a => ∃ x1 : Int, Wk.Ok 42 [(0, (.slice A1 n1 c1)), (3, (.int .i64 x1))] a ∧ I1 k1 x1) (fun a ha => ⟨k1, 0, ha.weaken (Wk.sub.cons rfl (Wk.sub.cons rfl (Wk.sub.nil))), hi⟩) ?_
  rintro k1 a ⟨x1, ha, hI⟩
  replace H := H k1 x1 hI
  refine (?_ : Wk.CW _ _ _ 42 [(0, (.slice A1 n1 c1)), (3, (.int .i64 x1))] _) a ha
  refine Wk.cw_seq ?_
  refine Wk.cw_seq ?_
  refine Wk.cw_region ?_
  refine Wk.sl_v rfl rfl (Wk.wanted_none rfl) (fun a ha => Wk.x_move (ha.ev rfl)) ?_
  refine Wk.sl_v rfl rfl (Wk.wanted_none rfl) (fun a ha => Wk.x_move (ha.ev rfl)) ?_
  refine Wk.sl_v rfl rfl (Wk.wanted_none rfl) (fun a ha => Wk.x_builtin (ha.evs rfl) (fun _ => Wk.l_slice TF.isslice_sl_api_Flat)) ?_
  refine Wk.sl_v rfl rfl (Wk.wanted_none rfl) (fun a ha => Wk.x_binOp (ha.ev rfl) (ha.ev rfl) Wk.o_lss) ?_
  refine Wk.sl_nil ?_
  refine Wk.nx_code (Wk.cw_sub (e' := [(0, (.slice A1 n1 c1)), (3, (.int .i64 x1)), (8, (.bool (decide (x1 < (n1 : Int)))))]) (Wk.sub.cons rfl (Wk.sub.cons rfl (Wk.sub.cons rfl (Wk.sub.nil)))) ?_)
  refine Wk.cw_cond_p rfl (fun hb => ?_) (fun hb => ?_)
  · replace H := H.1 hb
    refine Wk.cw_skip ?_
    refine Wk.nx_code (Wk.cw_sub (e' := [(0, (.slice A1 n1 c1)), (3, (.int .i64 x1))]) (Wk.sub.cons rfl (Wk.sub.cons rfl (Wk.sub.nil))) ?_)
    refine Wk.cw_seq ?_
    refine Wk.cw_block ?_
    refine Wk.cw_seq ?_
    refine Wk.cw_region ?_
    refine Wk.sl_v rfl rfl (Wk.wanted_none rfl) (fun a ha => Wk.x_assign (ha.ev rfl)) ?_
    refine Wk.sl_nil ?_
    refine Wk.nx_code (Wk.cw_sub (e' := [(0, (.slice A1 n1 c1)), (3, (.int .i64 x1)), (4, (.int .i64 0))]) (Wk.sub.cons rfl (Wk.sub.cons rfl (Wk.sub.cons rfl (Wk.sub.nil)))) ?_)
    refine Wk.cw_block ?_
    obtain ⟨I2, ⟨k2, hi⟩, H⟩ := H
    refine Wk.cw_loop_still (fun k2 a => ∃ x2 : Int, Wk.Ok 42 [(0, (.slice A1 n1 c1)), (3, (.int .i64 x1)), (4, (.int .i64 x2))] a ∧ I2 k2 x2) (fun a ha => ⟨k2, 0, ha.weaken (Wk.sub.cons rfl (Wk.sub.cons rfl (Wk.sub.cons rfl (Wk.sub.nil)))), hi⟩) ?_
    rintro k2 a ⟨x2, ha, hI⟩
    replace H := H k2 x2 hI
    refine (?_ : Wk.CW _ _ _ 42 [(0, (.slice A1 n1 c1)), (3, (.int .i64 x1)), (4, (.int .i64 x2))] _) a ha
    refine Wk.cw_seq ?_
    refine Wk.cw_seq ?_
    refine Wk.cw_region ?_
    refine Wk.sl_v rfl rfl (Wk.wanted_none rfl) (fun a ha => Wk.x_move (ha.ev rfl)) ?_
    refine Wk.sl_v rfl rfl (Wk.wanted_none rfl) (fun a ha => Wk.x_move (ha.ev rfl)) ?_
    refine Wk.sl_v rfl rfl (Wk.wanted_none rfl) (fun a ha => Wk.x_move (ha.ev rfl)) ?_
    obtain ⟨h1, h2, a1, e1, H⟩ := H
    refine Wk.sl_v rfl rfl (Wk.wanted_none rfl) (fun a ha => Wk.x_indexAddr (ha.ev rfl) (ha.ev rfl) (Wk.i_index TF.elem_sl_api_Flat TF.size_api_Flat e1 h1 h2)) ?_
    refine Wk.sl_v rfl rfl (Wk.wanted_none rfl) (fun a ha => Wk.x_fieldAddr (ha.ev rfl) (TF.fld_api_Flat_1 _ _)) ?_
    obtain ⟨A2, n2, c2, h3, H⟩ := H
    refine Wk.sl_v rfl rfl (Wk.wanted_none rfl) (fun a ha => Wk.x_load (ha.ev rfl) (Wk.i_load1 TF.agg_sl_int h3)) ?_
    refine Wk.sl_v rfl rfl (Wk.wanted_none rfl) (fun a ha => Wk.x_builtin (ha.evs rfl) (fun _ => Wk.l_slice TF.isslice_sl_int)) ?_
    refine Wk.sl_v rfl rfl (Wk.wanted_none rfl) (fun a ha => Wk.x_binOp (ha.ev rfl) (ha.ev rfl) Wk.o_lss) ?_
    refine Wk.sl_nil ?_
    refine Wk.nx_code (Wk.cw_sub (e' := [(0, (.slice A1 n1 c1)), (3, (.int .i64 x1)), (4, (.int .i64 x2)), (18, (.bool (decide (x2 < (n2 : Int)))))]) (Wk.sub.cons rfl (Wk.sub.cons rfl (Wk.sub.cons rfl (Wk.sub.cons rfl (Wk.sub.nil))))) ?_)
    refine Wk.cw_cond_p rfl (fun hb => ?_) (fun hb => ?_)
    · replace H := H.1 hb
      refine Wk.cw_skip ?_
      refine Wk.nx_code (Wk.cw_sub (e' := [(0, (.slice A1 n1 c1)), (3, (.int .i64 x1)), (4, (.int .i64 x2))]) (Wk.sub.cons rfl (Wk.sub.cons rfl (Wk.sub.cons rfl (Wk.sub.nil)))) ?_)
      refine Wk.cw_seq ?_
      refine Wk.cw_block ?_
      refine Wk.cw_join_still (fun a => ∃ b2 : Bool, Wk.Ok 42 [(0, (.slice A1 n1 c1)), (3, (.int .i64 x1)), (4, (.int .i64 x2)), (41, (.bool b2))] a ∧ vc_arbiterlaw13_sound_J1 K w k2 I2 x2 b2) ?_ ?_
      · rintro a ⟨b2, ha, H⟩
        unfold vc_arbiterlaw13_sound_J1 at H
        refine (?_ : Wk.CW _ _ _ 42 [(0, (.slice A1 n1 c1)), (3, (.int .i64 x1)), (4, (.int .i64 x2)), (41, (.bool b2))] _) a ha
        refine Wk.cw_cond rfl (fun hb => ?_) (fun hb => ?_)
        · replace H := H.1 hb
          refine Wk.cw_seq ?_
          refine Wk.cw_region ?_
          refine Wk.sl_v rfl rfl (Wk.wanted_none rfl) (fun a ha => Wk.x_assign (ha.ev rfl)) ?_
          refine Wk.sl_nil ?_
          refine Wk.nx_code (Wk.cw_sub (e' := [(2, (.bool false))]) (Wk.sub.cons rfl (Wk.sub.nil)) ?_)
          refine Wk.cw_ret ?_
          refine Wk.nx_ret_block ?_
          refine Wk.nx_ret_then ?_
          refine Wk.nx_ret_then ?_
          refine Wk.nx_ret_block ?_
          refine Wk.nx_ret_block ?_
          refine Wk.nx_ret_then ?_
          refine Wk.nx_ret_then ?_
          refine Wk.nx_ret_block ?_
          refine Wk.nx_ret_then ?_
          exact Wk.nx_body_ret (Wk.res1 rfl rfl) ⟨_, rfl, _, rfl, H⟩
        · replace H := H.2 hb
          refine Wk.cw_skip ?_
          refine Wk.nx_block ?_
          refine Wk.nx_code (Wk.cw_sub (e' := [(0, (.slice A1 n1 c1)), (3, (.int .i64 x1)), (4, (.int .i64 x2))]) (Wk.sub.cons rfl (Wk.sub.cons rfl (Wk.sub.cons rfl (Wk.sub.nil)))) ?_)
          refine Wk.cw_region ?_
          refine Wk.sl_v rfl rfl (Wk.wanted_none rfl) (fun a ha => Wk.x_move (ha.ev rfl)) ?_
          refine Wk.sl_v rfl rfl (Wk.wanted_none rfl) (fun a ha => Wk.x_binOp (ha.ev rfl) (ha.ev rfl) Wk.o_add) ?_
          refine Wk.sl_v rfl rfl (Wk.wanted_none rfl) (fun a ha => Wk.x_assign (ha.ev rfl)) ?_
          refine Wk.sl_nil ?_
          obtain ⟨k3, hk, H⟩ := H
          exact Wk.nx_to fun a ha => ⟨k3, hk, ⟨IntKind.wrap .i64 (x2 + 1), ha.weaken (Wk.sub.cons rfl (Wk.sub.cons rfl (Wk.sub.cons rfl (Wk.sub.nil)))), H⟩, rfl⟩
      · refine Wk.cw_region ?_
        refine Wk.sl_v rfl rfl (Wk.wanted_none rfl) (fun a ha => Wk.x_move (ha.ev rfl)) ?_
        refine Wk.sl_v rfl rfl (Wk.wanted_none rfl) (fun a ha => Wk.x_move (ha.ev rfl)) ?_
        obtain ⟨h4, h5, a2, e2, H⟩ := H
        refine Wk.sl_v rfl rfl (Wk.wanted_none rfl) (fun a ha => Wk.x_indexAddr (ha.ev rfl) (ha.ev rfl) (Wk.i_index TF.elem_sl_api_Flat TF.size_api_Flat e2 h4 h5)) ?_
        refine Wk.sl_v rfl rfl (Wk.wanted_none rfl) (fun a ha => Wk.x_fieldAddr (ha.ev rfl) (TF.fld_api_Flat_1 _ _)) ?_
        obtain ⟨A3, n3, c3, h6, H⟩ := H
        refine Wk.sl_v rfl rfl (Wk.wanted_none rfl) (fun a ha => Wk.x_load (ha.ev rfl) (Wk.i_load1 TF.agg_sl_int h6)) ?_
        refine Wk.sl_v rfl rfl (Wk.wanted_none rfl) (fun a ha => Wk.x_move (ha.ev rfl)) ?_
        obtain ⟨h7, h8, a3, e3, H⟩ := H
        refine Wk.sl_v rfl rfl (Wk.wanted_none rfl) (fun a ha => Wk.x_indexAddr (ha.ev rfl) (ha.ev rfl) (Wk.i_index TF.elem_sl_int TF.size_int e3 h7 h8)) ?_
        obtain ⟨x3, h9, H⟩ := H
        refine Wk.sl_v rfl rfl (Wk.wanted_none rfl) (fun a ha => Wk.x_load (ha.ev rfl) (Wk.i_load1 TF.agg_int h9)) ?_
        refine Wk.sl_v rfl rfl (Wk.wanted_none rfl) (fun a ha => Wk.x_binOp (ha.ev rfl) (ha.ev rfl) Wk.o_lss) ?_
        rcases Classical.em (x3 < 0) with hb | hb
        · replace H := H.1 hb
          refine Wk.sl_v rfl rfl (Wk.wanted_none rfl) (fun a ha => Wk.o_t (Wk.x_move (ha.ev rfl)) hb) ?_
          refine Wk.sl_skip rfl rfl (Wk.wanted_not rfl rfl rfl rfl) ?_
          refine Wk.sl_skip rfl rfl (Wk.wanted_not rfl rfl rfl rfl) ?_
          refine Wk.sl_skip rfl rfl (Wk.wanted_not rfl rfl rfl rfl) ?_
          refine Wk.sl_skip rfl rfl (Wk.wanted_not rfl rfl rfl rfl) ?_
          refine Wk.sl_skip rfl rfl (Wk.wanted_not rfl rfl rfl rfl) ?_
          refine Wk.sl_skip rfl rfl (Wk.wanted_not rfl rfl rfl rfl) ?_
          refine Wk.sl_skip rfl rfl (Wk.wanted_not rfl rfl rfl rfl) ?_
          refine Wk.sl_skip rfl rfl (Wk.wanted_not rfl rfl rfl rfl) ?_
          refine Wk.sl_skip rfl rfl (Wk.wanted_not rfl rfl rfl rfl) ?_
          refine Wk.sl_skip rfl rfl (Wk.wanted_not rfl rfl rfl rfl) ?_
          refine Wk.sl_v rfl rfl (Wk.wanted_none rfl) (fun a ha => Wk.x_pick_t (ha.ev rfl) (ha.ev rfl)) ?_
          refine Wk.sl_nil ?_
          exact Wk.nx_to fun a ha => ⟨⟨true, ha.weaken (Wk.sub.cons rfl (Wk.sub.cons rfl (Wk.sub.cons rfl (Wk.sub.cons rfl (Wk.sub.nil))))), H⟩, rfl⟩
        · replace H := H.2 hb
          refine Wk.sl_v rfl rfl (Wk.wanted_none rfl) (fun a ha => Wk.o_f (Wk.x_move (ha.ev rfl)) hb) ?_
          refine Wk.sl_v rfl rfl (Wk.wanted_some rfl rfl rfl) (fun a ha => Wk.x_move (ha.ev rfl)) ?_
          refine Wk.sl_v rfl rfl (Wk.wanted_some rfl rfl rfl) (fun a ha => Wk.x_move (ha.ev rfl)) ?_
          obtain ⟨h10, h11, a4, e4, H⟩ := H
          refine Wk.sl_v rfl rfl (Wk.wanted_some rfl rfl rfl) (fun a ha => Wk.x_indexAddr (ha.ev rfl) (ha.ev rfl) (Wk.i_index TF.elem_sl_api_Flat TF.size_api_Flat e4 h10 h11)) ?_
          refine Wk.sl_v rfl rfl (Wk.wanted_some rfl rfl rfl) (fun a ha => Wk.x_fieldAddr (ha.ev rfl) (TF.fld_api_Flat_1 _ _)) ?_
          obtain ⟨A4, n4, c4, h12, H⟩ := H
          refine Wk.sl_v rfl rfl (Wk.wanted_some rfl rfl rfl) (fun a ha => Wk.x_load (ha.ev rfl) (Wk.i_load1 TF.agg_sl_int h12)) ?_
          refine Wk.sl_v rfl rfl (Wk.wanted_some rfl rfl rfl) (fun a ha => Wk.x_move (ha.ev rfl)) ?_
          obtain ⟨h13, h14, a5, e5, H⟩ := H
          refine Wk.sl_v rfl rfl (Wk.wanted_some rfl rfl rfl) (fun a ha => Wk.x_indexAddr (ha.ev rfl) (ha.ev rfl) (Wk.i_index TF.elem_sl_int TF.size_int e5 h13 h14)) ?_
          obtain ⟨x4, h15, H⟩ := H
          refine Wk.sl_v rfl rfl (Wk.wanted_some rfl rfl rfl) (fun a ha => Wk.x_load (ha.ev rfl) (Wk.i_load1 TF.agg_int h15)) ?_
          refine Wk.sl_v rfl rfl (Wk.wanted_some rfl rfl rfl) (fun a ha => Wk.x_move (ha.ev rfl)) ?_
          refine Wk.sl_v rfl rfl (Wk.wanted_some rfl rfl rfl) (fun a ha => Wk.x_binOp (ha.ev rfl) (ha.ev rfl) Wk.o_geq) ?_
          refine Wk.sl_v rfl rfl (Wk.wanted_none rfl) (fun a ha => Wk.x_pick_f (ha.ev rfl) (ha.ev rfl)) ?_
          refine Wk.sl_nil ?_
          exact Wk.nx_to fun a ha => ⟨⟨(decide (x1 ≤ x4)), ha.weaken (Wk.sub.cons rfl (Wk.sub.cons rfl (Wk.sub.cons rfl (Wk.sub.cons rfl (Wk.sub.nil))))), H⟩, rfl⟩
    · replace H := H.2 hb
      refine Wk.cw_exit ?_
      refine Wk.nx_exit_then ?_
      refine Wk.nx_exit_then ?_
      refine Wk.nx_exit_hit ?_
      refine Wk.nx_block ?_
      refine Wk.nx_code (Wk.cw_sub (e' := [(0, (.slice A1 n1 c1)), (3, (.int .i64 x1))]) (Wk.sub.cons rfl (Wk.sub.cons rfl (Wk.sub.nil))) ?_)
      refine Wk.cw_region ?_
      refine Wk.sl_v rfl rfl (Wk.wanted_none rfl) (fun a ha => Wk.x_move (ha.ev rfl)) ?_
      refine Wk.sl_v rfl rfl (Wk.wanted_none rfl) (fun a ha => Wk.x_binOp (ha.ev rfl) (ha.ev rfl) Wk.o_add) ?_
      refine Wk.sl_v rfl rfl (Wk.wanted_none rfl) (fun a ha => Wk.x_assign (ha.ev rfl)) ?_
      refine Wk.sl_nil ?_
      obtain ⟨k4, hk, H⟩ := H
      exact Wk.nx_to fun a ha => ⟨k4, hk, ⟨IntKind.wrap .i64 (x1 + 1), ha.weaken (Wk.sub.cons rfl (Wk.sub.cons rfl (Wk.sub.nil))), H⟩, rfl⟩
  · replace H := H.2 hb
    refine Wk.cw_exit ?_
    refine Wk.nx_exit_then ?_
    refine Wk.nx_exit_then ?_
    refine Wk.nx_exit_hit ?_
    refine Wk.nx_code (Wk.cw_sub (e' := []) (Wk.sub.nil) ?_)
    refine Wk.cw_seq ?_
    refine Wk.cw_region ?_
    refine Wk.sl_v rfl rfl (Wk.wanted_none rfl) (fun a ha => Wk.x_assign (ha.ev rfl)) ?_
    refine Wk.sl_nil ?_
    refine Wk.nx_code (Wk.cw_sub (e' := [(2, (.bool true))]) (Wk.sub.cons rfl (Wk.sub.nil)) ?_)
    refine Wk.cw_ret ?_
    exact Wk.nx_body_ret (Wk.res1 rfl rfl) ⟨_, rfl, _, rfl, H⟩
def vc_arbiterlaw13_no (x1 : Int) (K : Int → World → Prop) (w : World) : Prop :=
  K x1 w
set_option maxHeartbeats 2000000 in
set_option maxRecDepth 20000 in
theorem ok_arbiterlaw13_no (x1 : Int) (K : Int → World → Prop) (w : World) (H : vc_arbiterlaw13_no x1 K w) : Calls P F.arbiterlaw13_no #[(.int .i64 x1)] w (Wk.Ret fun v w' => ∃ x2 : Int, v = (.int .i64 x2) ∧ K x2 w') := by
  unfold vc_arbiterlaw13_no at H
  refine Wk.calls_of (P := P) Try.func9 rfl [(0, (.int .i64 x1))] 4 rfl rfl (fun p hp => by rcases List.mem_singleton.1 hp with rfl; rfl) ?_
  refine Wk.cw_seq ?_
  refine Wk.cw_region ?_
  refine Wk.sl_v rfl rfl (Wk.wanted_none rfl) (fun a ha => Wk.x_assign (ha.ev rfl)) ?_
  refine Wk.sl_nil ?_
  refine Wk.nx_code (Wk.cw_sub (e' := [(0, (.int .i64 x1))]) (Wk.sub.cons rfl (Wk.sub.nil)) ?_)
  refine Wk.cw_seq ?_
  refine Wk.cw_region ?_
  refine Wk.sl_v rfl rfl (Wk.wanted_none rfl) (fun a ha => Wk.x_move (ha.ev rfl)) ?_
  refine Wk.sl_v rfl rfl (Wk.wanted_none rfl) (fun a ha => Wk.x_assign (ha.ev rfl)) ?_
  refine Wk.sl_nil ?_
  refine Wk.nx_code (Wk.cw_sub (e' := [(2, (.int .i64 x1))]) (Wk.sub.cons rfl (Wk.sub.nil)) ?_)
  refine Wk.cw_ret ?_
  exact Wk.nx_body_ret (Wk.res1 rfl rfl) ⟨_, rfl, _, rfl, H⟩
def vc_slices_IndexFunc_sl_int_int (A1 : Option Addr) (n1 : Nat) (c1 : Nat) (v1 : Value) (K : Int → World → Prop) (w : World) : Prop :=
  ∃ I1 : Nat → Int → World → Prop, (∃ k1, I1 k1 0 w) ∧ ∀ k1 (x2 : Int) (w1 : World), I1 k1 x2 w1 → ((x2 < (n1 : Int) → (0 ≤ x2 ∧ x2 < (n1 : Int) ∧ ∃ a1, A1 = some a1 ∧ ∃ x3 : Int, w1.cell? (a1.add (x2.toNat * 1)) = some (.int .i64 x3) ∧ ∃ (f1 : FuncId) (cs1 : List Value), v1 = .func (.func f1) #[] cs1.toArray ∧ Wk.callable P f1 = true ∧ Calls P f1 ([(.int .i64 x3)] ++ cs1 : List Value).toArray w1 (Wk.Ret fun v2 w2 => ∃ b1 : Bool, v2 = (.bool b1) ∧ (b1 = true → (K x2 w2)) ∧ (b1 = false → (∃ k2, k2 < k1 ∧ I1 k2 (IntKind.wrap .i64 (x2 + 1)) w2))))) ∧ (¬ (x2 < (n1 : Int)) → (K (-1) w1)))
set_option maxHeartbeats 2000000 in
set_option maxRecDepth 20000 in
theorem ok_slices_IndexFunc_sl_int_int (A1 : Option Addr) (n1 : Nat) (c1 : Nat) (v1 : Value) (K : Int → World → Prop) (w : World) (H : vc_slices_IndexFunc_sl_int_int A1 n1 c1 v1 K w) : Calls P F.slices_IndexFunc_sl_int_int #[(.slice A1 n1 c1), v1] w (Wk.Ret fun v w' => ∃ x1 : Int, v = (.int .i64 x1) ∧ K x1 w') := by
  unfold vc_slices_IndexFunc_sl_int_int at H
  refine Wk.calls_of (P := P) Try.func27 rfl [(0, (.slice A1 n1 c1)), (1, v1)] 19 rfl rfl (fun p hp => by simp only [List.mem_cons, List.not_mem_nil, or_false] at hp; rcases hp with rfl | rfl <;> rfl) ?_
  refine Wk.cw_seq ?_
  refine Wk.cw_region ?_
  refine Wk.sl_v rfl rfl (Wk.wanted_none rfl) (fun a ha => Wk.x_assign (ha.ev rfl)) ?_
  refine Wk.sl_nil ?_
  refine Wk.nx_code (Wk.cw_sub (e' := [(0, (.slice A1 n1 c1)), (1, v1)]) (Wk.sub.cons rfl (Wk.sub.cons rfl (Wk.sub.nil))) ?_)
  refine Wk.cw_seq ?_
  refine Wk.cw_seq ?_
  refine Wk.cw_region ?_
  refine Wk.sl_v rfl rfl (Wk.wanted_none rfl) (fun a ha => Wk.x_move (ha.ev rfl)) ?_
  refine Wk.sl_v rfl rfl (Wk.wanted_none rfl) (fun a ha => Wk.x_builtin (ha.evs rfl) (fun _ => Wk.l_slice TF.isslice_sl_int)) ?_
  refine Wk.sl_v rfl rfl (Wk.wanted_none rfl) (fun a ha => Wk.x_move (ha.ev rfl)) ?_
  refine Wk.sl_nil ?_
  refine Wk.nx_code (Wk.cw_sub (e' := [(0, (.slice A1 n1 c1)), (1, v1), (7, (.int .i64 (n1 : Int))), (8, (.int .i64 0))]) (Wk.sub.cons rfl (Wk.sub.cons rfl (Wk.sub.cons rfl (Wk.sub.cons rfl (Wk.sub.nil))))) ?_)
  refine Wk.cw_block ?_
  obtain ⟨I1, ⟨k1, hi⟩, H⟩ := H
  refine Wk.cw_loop (fun k1 a w' => ∃ x2 : Int, Wk.Ok 19 [(0, (.slice A1 n1 c1)), (1, v1), (7, (.int .i64 (n1 : Int))), (8, (.int .i64 x2))] a ∧ I1 k1 x2 w') (fun a ha => ⟨k1, 0, ha.weaken (Wk.sub.cons rfl (Wk.sub.cons rfl (Wk.sub.cons rfl (Wk.sub.cons rfl (Wk.sub.nil))))), hi⟩) ?_
  rintro k1 a w1 ⟨x2, ha, hI⟩
  replace H := H k1 x2 w1 hI
  refine (?_ : Wk.CW _ _ _ 19 [(0, (.slice A1 n1 c1)), (1, v1), (7, (.int .i64 (n1 : Int))), (8, (.int .i64 x2))] _) a ha
  refine Wk.cw_seq ?_
  refine Wk.cw_region ?_
  refine Wk.sl_v rfl rfl (Wk.wanted_none rfl) (fun a ha => Wk.x_binOp (ha.ev rfl) (ha.ev rfl) Wk.o_lss) ?_
  refine Wk.sl_nil ?_
  refine Wk.nx_code (Wk.cw_sub (e' := [(0, (.slice A1 n1 c1)), (1, v1), (7, (.int .i64 (n1 : Int))), (8, (.int .i64 x2)), (9, (.bool (decide (x2 < (n1 : Int)))))]) (Wk.sub.cons rfl (Wk.sub.cons rfl (Wk.sub.cons rfl (Wk.sub.cons rfl (Wk.sub.cons rfl (Wk.sub.nil)))))) ?_)
  refine Wk.cw_seq ?_
  refine Wk.cw_cond_p rfl (fun hb => ?_) (fun hb => ?_)
  · replace H := H.1 hb
    refine Wk.cw_skip ?_
    refine Wk.nx_code (Wk.cw_sub (e' := [(0, (.slice A1 n1 c1)), (1, v1), (7, (.int .i64 (n1 : Int))), (8, (.int .i64 x2))]) (Wk.sub.cons rfl (Wk.sub.cons rfl (Wk.sub.cons rfl (Wk.sub.cons rfl (Wk.sub.nil))))) ?_)
    refine Wk.cw_seq ?_
    refine Wk.cw_block ?_
    refine Wk.cw_seq ?_
    refine Wk.cw_region ?_
    refine Wk.sl_v rfl rfl (Wk.wanted_none rfl) (fun a ha => Wk.x_move (ha.ev rfl)) ?_
    refine Wk.sl_v rfl rfl (Wk.wanted_none rfl) (fun a ha => Wk.x_assign (ha.ev rfl)) ?_
    refine Wk.sl_nil ?_
    refine Wk.nx_code (Wk.cw_sub (e' := [(0, (.slice A1 n1 c1)), (1, v1), (5, (.int .i64 x2)), (7, (.int .i64 (n1 : Int))), (8, (.int .i64 x2))]) (Wk.sub.cons rfl (Wk.sub.cons rfl (Wk.sub.cons rfl (Wk.sub.cons rfl (Wk.sub.cons rfl (Wk.sub.nil)))))) ?_)
    refine Wk.cw_seq ?_
    refine Wk.cw_region ?_
    refine Wk.sl_v rfl rfl (Wk.wanted_none rfl) (fun a ha => Wk.x_move (ha.ev rfl)) ?_
    refine Wk.sl_v rfl rfl (Wk.wanted_none rfl) (fun a ha => Wk.x_move (ha.ev rfl)) ?_
    refine Wk.sl_v rfl rfl (Wk.wanted_none rfl) (fun a ha => Wk.x_move (ha.ev rfl)) ?_
    obtain ⟨h1, h2, a1, e1, H⟩ := H
    refine Wk.sl_v rfl rfl (Wk.wanted_none rfl) (fun a ha => Wk.x_indexAddr (ha.ev rfl) (ha.ev rfl) (Wk.i_index TF.elem_sl_int TF.size_int e1 h1 h2)) ?_
    obtain ⟨x3, h3, H⟩ := H
    refine Wk.sl_v rfl rfl (Wk.wanted_none rfl) (fun a ha => Wk.x_load (ha.ev rfl) (Wk.i_load1 TF.agg_int h3)) ?_
    obtain ⟨f1, cs1, e2, h4, H⟩ := H
    refine Wk.sl_call rfl rfl (Wk.wanted_none rfl) (fun a ha => Wk.x_callv ((ha.ev rfl).trans e2) (ha.evs rfl) h4) H ?_
    rintro _ w2 ⟨b1, rfl, H⟩
    refine Wk.sl_nil ?_
    refine Wk.nx_code (Wk.cw_sub (e' := [(0, (.slice A1 n1 c1)), (1, v1), (5, (.int .i64 x2)), (7, (.int .i64 (n1 : Int))), (8, (.int .i64 x2)), (16, (.bool b1))]) (Wk.sub.cons rfl (Wk.sub.cons rfl (Wk.sub.cons rfl (Wk.sub.cons rfl (Wk.sub.cons rfl (Wk.sub.cons rfl (Wk.sub.nil))))))) ?_)
    refine Wk.cw_cond rfl (fun hb => ?_) (fun hb => ?_)
    · replace H := H.1 hb
      refine Wk.cw_seq ?_
      refine Wk.cw_region ?_
      refine Wk.sl_v rfl rfl (Wk.wanted_none rfl) (fun a ha => Wk.x_move (ha.ev rfl)) ?_
      refine Wk.sl_v rfl rfl (Wk.wanted_none rfl) (fun a ha => Wk.x_assign (ha.ev rfl)) ?_
      refine Wk.sl_nil ?_
      refine Wk.nx_code (Wk.cw_sub (e' := [(4, (.int .i64 x2))]) (Wk.sub.cons rfl (Wk.sub.nil)) ?_)
      refine Wk.cw_ret ?_
      refine Wk.nx_ret_block ?_
      refine Wk.nx_ret_then ?_
      refine Wk.nx_ret_then ?_
      refine Wk.nx_ret_block ?_
      refine Wk.nx_ret_then ?_
      exact Wk.nx_body_ret (Wk.res1 rfl rfl) ⟨_, rfl, _, rfl, H⟩
    · replace H := H.2 hb
      refine Wk.cw_skip ?_
      refine Wk.nx_block ?_
      refine Wk.nx_code (Wk.cw_sub (e' := [(0, (.slice A1 n1 c1)), (1, v1), (7, (.int .i64 (n1 : Int))), (8, (.int .i64 x2))]) (Wk.sub.cons rfl (Wk.sub.cons rfl (Wk.sub.cons rfl (Wk.sub.cons rfl (Wk.sub.nil))))) ?_)
      refine Wk.cw_region ?_
      refine Wk.sl_v rfl rfl (Wk.wanted_none rfl) (fun a ha => Wk.x_binOp (ha.ev rfl) (ha.ev rfl) Wk.o_add) ?_
      refine Wk.sl_v rfl rfl (Wk.wanted_none rfl) (fun a ha => Wk.x_move (ha.ev rfl)) ?_
      refine Wk.sl_nil ?_
      obtain ⟨k2, hk, H⟩ := H
      exact Wk.nx_to fun a ha => ⟨k2, hk, IntKind.wrap .i64 (x2 + 1), ha.weaken (Wk.sub.cons rfl (Wk.sub.cons rfl (Wk.sub.cons rfl (Wk.sub.cons rfl (Wk.sub.nil))))), H⟩
  · replace H := H.2 hb
    refine Wk.cw_exit ?_
    refine Wk.nx_exit_then ?_
    refine Wk.nx_exit_then ?_
    refine Wk.nx_exit_hit ?_
    refine Wk.nx_code (Wk.cw_sub (e' := []) (Wk.sub.nil) ?_)
    refine Wk.cw_seq ?_
    refine Wk.cw_region ?_
    refine Wk.sl_v rfl rfl (Wk.wanted_none rfl) (fun a ha => Wk.x_assign (ha.ev rfl)) ?_
    refine Wk.sl_nil ?_
    refine Wk.nx_code (Wk.cw_sub (e' := [(4, (.int .i64 (-1)))]) (Wk.sub.cons rfl (Wk.sub.nil)) ?_)
    refine Wk.cw_ret ?_
    exact Wk.nx_body_ret (Wk.res1 rfl rfl) ⟨_, rfl, _, rfl, H⟩
def vc_slices_IndexFunc_sl_api_Link_api_Link (A1 : Option Addr) (n1 : Nat) (c1 : Nat) (v1 : Value) (K : Int → World → Prop) (w : World) : Prop :=
  ∃ I1 : Nat → Int → World → Prop, (∃ k1, I1 k1 0 w) ∧ ∀ k1 (x2 : Int) (w1 : World), I1 k1 x2 w1 → ((x2 < (n1 : Int) → (0 ≤ x2 ∧ x2 < (n1 : Int) ∧ ∃ a1, A1 = some a1 ∧ ∃ x3 : Int, ∃ x4 : Int, ∃ x5 : Int, ∃ x6 : Int, ∃ A2 : Option Addr, ∃ n2 : Nat, ∃ c2 : Nat, Wk.CellsAt w1 (a1.add (x2.toNat * 5)) [(.int .i64 x3), (.int .i64 x4), (.int .i64 x5), (.int .i64 x6), (.slice A2 n2 c2)] ∧ ∃ (f1 : FuncId) (cs1 : List Value), v1 = .func (.func f1) #[] cs1.toArray ∧ Wk.callable P f1 = true ∧ Calls P f1 ([(.agg #[(.int .i64 x3), (.int .i64 x4), (.int .i64 x5), (.int .i64 x6), (.slice A2 n2 c2)])] ++ cs1 : List Value).toArray w1 (Wk.Ret fun v2 w2 => ∃ b1 : Bool, v2 = (.bool b1) ∧ (b1 = true → (K x2 w2)) ∧ (b1 = false → (∃ k2, k2 < k1 ∧ I1 k2 (IntKind.wrap .i64 (x2 + 1)) w2))))) ∧ (¬ (x2 < (n1 : Int)) → (K (-1) w1)))
set_option maxHeartbeats 2000000 in
set_option maxRecDepth 20000 in
theorem ok_slices_IndexFunc_sl_api_Link_api_Link (A1 : Option Addr) (n1 : Nat) (c1 : Nat) (v1 : Value) (K : Int → World → Prop) (w : World) (H : vc_slices_IndexFunc_sl_api_Link_api_Link A1 n1 c1 v1 K w) : Calls P F.slices_IndexFunc_sl_api_Link_api_Link #[(.slice A1 n1 c1), v1] w (Wk.Ret fun v w' => ∃ x1 : Int, v = (.int .i64 x1) ∧ K x1 w') := by
  unfold vc_slices_IndexFunc_sl_api_Link_api_Link at H
  refine Wk.calls_of (P := P) Try.func28 rfl [(0, (.slice A1 n1 c1)), (1, v1)] 19 rfl rfl (fun p hp => by simp only [List.mem_cons, List.not_mem_nil, or_false] at hp; rcases hp with rfl | rfl <;> rfl) ?_
  refine Wk.cw_seq ?_
  refine Wk.cw_region ?_
  refine Wk.sl_v rfl rfl (Wk.wanted_none rfl) (fun a ha => Wk.x_assign (ha.ev rfl)) ?_
  refine Wk.sl_nil ?_
  refine Wk.nx_code (Wk.cw_sub (e' := [(0, (.slice A1 n1 c1)), (1, v1)]) (Wk.sub.cons rfl (Wk.sub.cons rfl (Wk.sub.nil))) ?_)
  refine Wk.cw_seq ?_
  refine Wk.cw_seq ?_
  refine Wk.cw_region ?_
  refine Wk.sl_v rfl rfl (Wk.wanted_none rfl) (fun a ha => Wk.x_move (ha.ev rfl)) ?_
  refine Wk.sl_v rfl rfl (Wk.wanted_none rfl) (fun a ha => Wk.x_builtin (ha.evs rfl) (fun _ => Wk.l_slice TF.isslice_sl_api_Link)) ?_
  refine Wk.sl_v rfl rfl (Wk.wanted_none rfl) (fun a ha => Wk.x_move (ha.ev rfl)) ?_
  refine Wk.sl_nil ?_
  refine Wk.nx_code (Wk.cw_sub (e' := [(0, (.slice A1 n1 c1)), (1, v1), (7, (.int .i64 (n1 : Int))), (8, (.int .i64 0))]) (Wk.sub.cons rfl (Wk.sub.cons rfl (Wk.sub.cons rfl (Wk.sub.cons rfl (Wk.sub.nil))))) ?_)
  refine Wk.cw_block ?_
  obtain ⟨I1, ⟨k1, hi⟩, H⟩ := H
  refine Wk.cw_loop (fun k1 a w' => ∃ x2 : Int, Wk.Ok 19 [(0, (.slice A1 n1 c1)), (1, v1), (7, (.int .i64 (n1 : Int))), (8, (.int .i64 x2))] a ∧ I1 k1 x2 w') (fun a ha => ⟨k1, 0, ha.weaken (Wk.sub.cons rfl (Wk.sub.cons rfl (Wk.sub.cons rfl (Wk.sub.cons rfl (Wk.sub.nil))))), hi⟩) ?_
  rintro k1 a w1 ⟨x2, ha, hI⟩
  replace H := H k1 x2 w1 hI
  refine (?_ : Wk.CW _ _ _ 19 [(0, (.slice A1 n1 c1)), (1, v1), (7, (.int .i64 (n1 : Int))), (8, (.int .i64 x2))] _) a ha
  refine Wk.cw_seq ?_
  refine Wk.cw_region ?_
  refine Wk.sl_v rfl rfl (Wk.wanted_none rfl) (fun a ha => Wk.x_binOp (ha.ev rfl) (ha.ev rfl) Wk.o_lss) ?_
  refine Wk.sl_nil ?_
  refine Wk.nx_code (Wk.cw_sub (e' := [(0, (.slice A1 n1 c1)), (1, v1), (7, (.int .i64 (n1 : Int))), (8, (.int .i64 x2)), (9, (.bool (decide (x2 < (n1 : Int)))))]) (Wk.sub.cons rfl (Wk.sub.cons rfl (Wk.sub.cons rfl (Wk.sub.cons rfl (Wk.sub.cons rfl (Wk.sub.nil)))))) ?_)
  refine Wk.cw_seq ?_
  refine Wk.cw_cond_p rfl (fun hb => ?_) (fun hb => ?_)
  · replace H := H.1 hb
    refine Wk.cw_skip ?_
    refine Wk.nx_code (Wk.cw_sub (e' := [(0, (.slice A1 n1 c1)), (1, v1), (7, (.int .i64 (n1 : Int))), (8, (.int .i64 x2))]) (Wk.sub.cons rfl (Wk.sub.cons rfl (Wk.sub.cons rfl (Wk.sub.cons rfl (Wk.sub.nil))))) ?_)
    refine Wk.cw_seq ?_
    refine Wk.cw_block ?_
    refine Wk.cw_seq ?_
    refine Wk.cw_region ?_
    refine Wk.sl_v rfl rfl (Wk.wanted_none rfl) (fun a ha => Wk.x_move (ha.ev rfl)) ?_
    refine Wk.sl_v rfl rfl (Wk.wanted_none rfl) (fun a ha => Wk.x_assign (ha.ev rfl)) ?_
    refine Wk.sl_nil ?_
    refine Wk.nx_code (Wk.cw_sub (e' := [(0, (.slice A1 n1 c1)), (1, v1), (5, (.int .i64 x2)), (7, (.int .i64 (n1 : Int))), (8, (.int .i64 x2))]) (Wk.sub.cons rfl (Wk.sub.cons rfl (Wk.sub.cons rfl (Wk.sub.cons rfl (Wk.sub.cons rfl (Wk.sub.nil)))))) ?_)
    refine Wk.cw_seq ?_
    refine Wk.cw_region ?_
    refine Wk.sl_v rfl rfl (Wk.wanted_none rfl) (fun a ha => Wk.x_move (ha.ev rfl)) ?_
    refine Wk.sl_v rfl rfl (Wk.wanted_none rfl) (fun a ha => Wk.x_move (ha.ev rfl)) ?_
    refine Wk.sl_v rfl rfl (Wk.wanted_none rfl) (fun a ha => Wk.x_move (ha.ev rfl)) ?_
    obtain ⟨h1, h2, a1, e1, H⟩ := H
    refine Wk.sl_v rfl rfl (Wk.wanted_none rfl) (fun a ha => Wk.x_indexAddr (ha.ev rfl) (ha.ev rfl) (Wk.i_index TF.elem_sl_api_Link TF.size_api_Link e1 h1 h2)) ?_
    obtain ⟨x3, x4, x5, x6, A2, n2, c2, h3, H⟩ := H
    refine Wk.sl_v rfl rfl (Wk.wanted_none rfl) (fun a ha => Wk.x_load (ha.ev rfl) (Wk.i_loadN (vs := [(.int .i64 x3), (.int .i64 x4), (.int .i64 x5), (.int .i64 x6), (.slice A2 n2 c2)]) TF.agg_api_Link TF.size_api_Link h3)) ?_
    obtain ⟨f1, cs1, e2, h4, H⟩ := H
    refine Wk.sl_call rfl rfl (Wk.wanted_none rfl) (fun a ha => Wk.x_callv ((ha.ev rfl).trans e2) (ha.evs rfl) h4) H ?_
    rintro _ w2 ⟨b1, rfl, H⟩
    refine Wk.sl_nil ?_
    refine Wk.nx_code (Wk.cw_sub (e' := [(0, (.slice A1 n1 c1)), (1, v1), (5, (.int .i64 x2)), (7, (.int .i64 (n1 : Int))), (8, (.int .i64 x2)), (16, (.bool b1))]) (Wk.sub.cons rfl (Wk.sub.cons rfl (Wk.sub.cons rfl (Wk.sub.cons rfl (Wk.sub.cons rfl (Wk.sub.cons rfl (Wk.sub.nil))))))) ?_)
    refine Wk.cw_cond rfl (fun hb => ?_) (fun hb => ?_)
    · replace H := H.1 hb
      refine Wk.cw_seq ?_
      refine Wk.cw_region ?_
      refine Wk.sl_v rfl rfl (Wk.wanted_none rfl) (fun a ha => Wk.x_move (ha.ev rfl)) ?_
      refine Wk.sl_v rfl rfl (Wk.wanted_none rfl) (fun a ha => Wk.x_assign (ha.ev rfl)) ?_
      refine Wk.sl_nil ?_
      refine Wk.nx_code (Wk.cw_sub (e' := [(4, (.int .i64 x2))]) (Wk.sub.cons rfl (Wk.sub.nil)) ?_)
      refine Wk.cw_ret ?_
      refine Wk.nx_ret_block ?_
      refine Wk.nx_ret_then ?_
      refine Wk.nx_ret_then ?_
      refine Wk.nx_ret_block ?_
      refine Wk.nx_ret_then ?_
      exact Wk.nx_body_ret (Wk.res1 rfl rfl) ⟨_, rfl, _, rfl, H⟩
    · replace H := H.2 hb
      refine Wk.cw_skip ?_
      refine Wk.nx_block ?_
      refine Wk.nx_code (Wk.cw_sub (e' := [(0, (.slice A1 n1 c1)), (1, v1), (7, (.int .i64 (n1 : Int))), (8, (.int .i64 x2))]) (Wk.sub.cons rfl (Wk.sub.cons rfl (Wk.sub.cons rfl (Wk.sub.cons rfl (Wk.sub.nil))))) ?_)
      refine Wk.cw_region ?_
      refine Wk.sl_v rfl rfl (Wk.wanted_none rfl) (fun a ha => Wk.x_binOp (ha.ev rfl) (ha.ev rfl) Wk.o_add) ?_
      refine Wk.sl_v rfl rfl (Wk.wanted_none rfl) (fun a ha => Wk.x_move (ha.ev rfl)) ?_
      refine Wk.sl_nil ?_
      obtain ⟨k2, hk, H⟩ := H
      exact Wk.nx_to fun a ha => ⟨k2, hk, IntKind.wrap .i64 (x2 + 1), ha.weaken (Wk.sub.cons rfl (Wk.sub.cons rfl (Wk.sub.cons rfl (Wk.sub.cons rfl (Wk.sub.nil))))), H⟩
  · replace H := H.2 hb
    refine Wk.cw_exit ?_
    refine Wk.nx_exit_then ?_
    refine Wk.nx_exit_then ?_
    refine Wk.nx_exit_hit ?_
    refine Wk.nx_code (Wk.cw_sub (e' := []) (Wk.sub.nil) ?_)
    refine Wk.cw_seq ?_
    refine Wk.cw_region ?_
    refine Wk.sl_v rfl rfl (Wk.wanted_none rfl) (fun a ha => Wk.x_assign (ha.ev rfl)) ?_
    refine Wk.sl_nil ?_
    refine Wk.nx_code (Wk.cw_sub (e' := [(4, (.int .i64 (-1)))]) (Wk.sub.cons rfl (Wk.sub.nil)) ?_)
    refine Wk.cw_ret ?_
    exact Wk.nx_body_ret (Wk.res1 rfl rfl) ⟨_, rfl, _, rfl, H⟩
def vc_slices_ContainsFunc_sl_int_int (A1 : Option Addr) (n1 : Nat) (c1 : Nat) (v1 : Value) (K : Bool → World → Prop) (w : World) : Prop :=
  Calls P F.slices_IndexFunc_sl_int_int #[(.slice A1 n1 c1), v1] w (Wk.Ret fun v2 w1 => ∃ x1 : Int, v2 = (.int .i64 x1) ∧ K (decide (0 ≤ x1)) w1)
set_option maxHeartbeats 2000000 in
set_option maxRecDepth 20000 in
theorem ok_slices_ContainsFunc_sl_int_int (A1 : Option Addr) (n1 : Nat) (c1 : Nat) (v1 : Value) (K : Bool → World → Prop) (w : World) (H : vc_slices_ContainsFunc_sl_int_int A1 n1 c1 v1 K w) : Calls P F.slices_ContainsFunc_sl_int_int #[(.slice A1 n1 c1), v1] w (Wk.Ret fun v w' => ∃ b1 : Bool, v = (.bool b1) ∧ K b1 w') := by
  unfold vc_slices_ContainsFunc_sl_int_int at H
  refine Wk.calls_of (P := P) Try.func19 rfl [(0, (.slice A1 n1 c1)), (1, v1)] 9 rfl rfl (fun p hp => by simp only [List.mem_cons, List.not_mem_nil, or_false] at hp; rcases hp with rfl | rfl <;> rfl) ?_
  refine Wk.cw_seq ?_
  refine Wk.cw_region ?_
  refine Wk.sl_v rfl rfl (Wk.wanted_none rfl) (fun a ha => Wk.x_assign (ha.ev rfl)) ?_
  refine Wk.sl_nil ?_
  refine Wk.nx_code (Wk.cw_sub (e' := [(0, (.slice A1 n1 c1)), (1, v1)]) (Wk.sub.cons rfl (Wk.sub.cons rfl (Wk.sub.nil))) ?_)
  refine Wk.cw_seq ?_
  refine Wk.cw_region ?_
  refine Wk.sl_v rfl rfl (Wk.wanted_none rfl) (fun a ha => Wk.x_move (ha.ev rfl)) ?_
  refine Wk.sl_v rfl rfl (Wk.wanted_none rfl) (fun a ha => Wk.x_move (ha.ev rfl)) ?_
  refine Wk.sl_call rfl rfl (Wk.wanted_none rfl) (fun a ha => Wk.x_call0 (ha.ev rfl) (ha.evs rfl) FF.callable_slices_IndexFunc_sl_int_int) H ?_
  rintro _ w1 ⟨x1, rfl, H⟩
  refine Wk.sl_v rfl rfl (Wk.wanted_none rfl) (fun a ha => Wk.x_binOp (ha.ev rfl) (ha.ev rfl) Wk.o_geq) ?_
  refine Wk.sl_v rfl rfl (Wk.wanted_none rfl) (fun a ha => Wk.x_assign (ha.ev rfl)) ?_
  refine Wk.sl_nil ?_
  refine Wk.nx_code (Wk.cw_sub (e' := [(4, (.bool (decide (0 ≤ x1))))]) (Wk.sub.cons rfl (Wk.sub.nil)) ?_)
  refine Wk.cw_ret ?_
  exact Wk.nx_body_ret (Wk.res1 rfl rfl) ⟨_, rfl, _, rfl, H⟩
def vc_slices_ContainsFunc_sl_api_Link_api_Link (A1 : Option Addr) (n1 : Nat) (c1 : Nat) (v1 : Value) (K : Bool → World → Prop) (w : World) : Prop :=
  Calls P F.slices_IndexFunc_sl_api_Link_api_Link #[(.slice A1 n1 c1), v1] w (Wk.Ret fun v2 w1 => ∃ x1 : Int, v2 = (.int .i64 x1) ∧ K (decide (0 ≤ x1)) w1)
set_option maxHeartbeats 2000000 in
set_option maxRecDepth 20000 in
theorem ok_slices_ContainsFunc_sl_api_Link_api_Link (A1 : Option Addr) (n1 : Nat) (c1 : Nat) (v1 : Value) (K : Bool → World → Prop) (w : World) (H : vc_slices_ContainsFunc_sl_api_Link_api_Link A1 n1 c1 v1 K w) : Calls P F.slices_ContainsFunc_sl_api_Link_api_Link #[(.slice A1 n1 c1), v1] w (Wk.Ret fun v w' => ∃ b1 : Bool, v = (.bool b1) ∧ K b1 w') := by
  unfold vc_slices_ContainsFunc_sl_api_Link_api_Link at H
  refine Wk.calls_of (P := P) Try.func22 rfl [(0, (.slice A1 n1 c1)), (1, v1)] 9 rfl rfl (fun p hp => by simp only [List.mem_cons, List.not_mem_nil, or_false] at hp; rcases hp with rfl | rfl <;> rfl) ?_
  refine Wk.cw_seq ?_
  refine Wk.cw_region ?_
  refine Wk.sl_v rfl rfl (Wk.wanted_none rfl) (fun a ha => Wk.x_assign (ha.ev rfl)) ?_
  refine Wk.sl_nil ?_
  refine Wk.nx_code (Wk.cw_sub (e' := [(0, (.slice A1 n1 c1)), (1, v1)]) (Wk.sub.cons rfl (Wk.sub.cons rfl (Wk.sub.nil))) ?_)
  refine Wk.cw_seq ?_
  refine Wk.cw_region ?_
  refine Wk.sl_v rfl rfl (Wk.wanted_none rfl) (fun a ha => Wk.x_move (ha.ev rfl)) ?_
  refine Wk.sl_v rfl rfl (Wk.wanted_none rfl) (fun a ha => Wk.x_move (ha.ev rfl)) ?_
  refine Wk.sl_call rfl rfl (Wk.wanted_none rfl) (fun a ha => Wk.x_call0 (ha.ev rfl) (ha.evs rfl) FF.callable_slices_IndexFunc_sl_api_Link_api_Link) H ?_
  rintro _ w1 ⟨x1, rfl, H⟩
  refine Wk.sl_v rfl rfl (Wk.wanted_none rfl) (fun a ha => Wk.x_binOp (ha.ev rfl) (ha.ev rfl) Wk.o_geq) ?_
  refine Wk.sl_v rfl rfl (Wk.wanted_none rfl) (fun a ha => Wk.x_assign (ha.ev rfl)) ?_
  refine Wk.sl_nil ?_
  refine Wk.nx_code (Wk.cw_sub (e' := [(4, (.bool (decide (0 ≤ x1))))]) (Wk.sub.cons rfl (Wk.sub.nil)) ?_)
  refine Wk.cw_ret ?_
  exact Wk.nx_body_ret (Wk.res1 rfl rfl) ⟨_, rfl, _, rfl, H⟩
def vc_euf_follows_1_J1 (K : Bool → World → Prop) (w : World) (b2 : Bool) : Prop :=
  K b2 w
def vc_euf_follows_1 (x1 : Int) (p1 : Addr) (K : Bool → World → Prop) (w : World) : Prop :=
  (x1 < 0 → ((vc_euf_follows_1_J1 K w) true)) ∧ (¬ (x1 < 0) → (∃ x2 : Int, w.cell? p1 = some (.int .i64 x2) ∧ (vc_euf_follows_1_J1 K w) (decide (x2 ≤ x1))))
set_option maxHeartbeats 2000000 in
set_option maxRecDepth 20000 in
theorem ok_euf_follows_1 (x1 : Int) (p1 : Addr) (K : Bool → World → Prop) (w : World) (H : vc_euf_follows_1 x1 p1 K w) : Calls P F.euf_follows_1 #[(.int .i64 x1), (.pointer (some p1))] w (Wk.Ret fun v w' => ∃ b1 : Bool, v = (.bool b1) ∧ K b1 w') := by
  unfold vc_euf_follows_1 at H
  refine Wk.calls_of (P := P) Try.func20 rfl [(0, (.int .i64 x1)), (1, (.pointer (some p1)))] 11 rfl rfl (fun p hp => by simp only [List.mem_cons, List.not_mem_nil, or_false] at hp; rcases hp with rfl | rfl <;> rfl) ?_
  refine Wk.cw_seq ?_
  refine Wk.cw_region ?_
  refine Wk.sl_v rfl rfl (Wk.wanted_none rfl) (fun a ha => Wk.x_assign (ha.ev rfl)) ?_
  refine Wk.sl_nil ?_
  refine Wk.nx_code (Wk.cw_sub (e' := [(0, (.int .i64 x1)), (1, (.pointer (some p1)))]) (Wk.sub.cons rfl (Wk.sub.cons rfl (Wk.sub.nil))) ?_)
  refine Wk.cw_join_still (fun a => ∃ b2 : Bool, Wk.Ok 11 [(3, (.bool b2))] a ∧ vc_euf_follows_1_J1 K w b2) ?_ ?_
  · rintro a ⟨b2, ha, H⟩
    unfold vc_euf_follows_1_J1 at H
    refine (?_ : Wk.CW _ _ _ 11 [(3, (.bool b2))] _) a ha
    refine Wk.cw_ret ?_
    exact Wk.nx_body_ret (Wk.res1 rfl rfl) ⟨_, rfl, _, rfl, H⟩
  · refine Wk.cw_region ?_
    refine Wk.sl_v rfl rfl (Wk.wanted_none rfl) (fun a ha => Wk.x_move (ha.ev rfl)) ?_
    refine Wk.sl_v rfl rfl (Wk.wanted_none rfl) (fun a ha => Wk.x_binOp (ha.ev rfl) (ha.ev rfl) Wk.o_lss) ?_
    rcases Classical.em (x1 < 0) with hb | hb
    · replace H := H.1 hb
      refine Wk.sl_v rfl rfl (Wk.wanted_none rfl) (fun a ha => Wk.o_t (Wk.x_move (ha.ev rfl)) hb) ?_
      refine Wk.sl_skip rfl rfl (Wk.wanted_not rfl rfl rfl rfl) ?_
      refine Wk.sl_skip rfl rfl (Wk.wanted_not rfl rfl rfl rfl) ?_
      refine Wk.sl_skip rfl rfl (Wk.wanted_not rfl rfl rfl rfl) ?_
      refine Wk.sl_v rfl rfl (Wk.wanted_none rfl) (fun a ha => Wk.x_pick_t (ha.ev rfl) (ha.ev rfl)) ?_
      refine Wk.sl_v rfl rfl (Wk.wanted_none rfl) (fun a ha => Wk.x_assign (ha.ev rfl)) ?_
      refine Wk.sl_nil ?_
      exact Wk.nx_to fun a ha => ⟨⟨true, ha.weaken (Wk.sub.cons rfl (Wk.sub.nil)), H⟩, rfl⟩
    · replace H := H.2 hb
      refine Wk.sl_v rfl rfl (Wk.wanted_none rfl) (fun a ha => Wk.o_f (Wk.x_move (ha.ev rfl)) hb) ?_
      refine Wk.sl_v rfl rfl (Wk.wanted_some rfl rfl rfl) (fun a ha => Wk.x_move (ha.ev rfl)) ?_
      obtain ⟨x2, h1, H⟩ := H
      refine Wk.sl_v rfl rfl (Wk.wanted_some rfl rfl rfl) (fun a ha => Wk.x_load (ha.ev rfl) (Wk.i_load1 TF.agg_int h1)) ?_
      refine Wk.sl_v rfl rfl (Wk.wanted_some rfl rfl rfl) (fun a ha => Wk.x_binOp (ha.ev rfl) (ha.ev rfl) Wk.o_geq) ?_
      refine Wk.sl_v rfl rfl (Wk.wanted_none rfl) (fun a ha => Wk.x_pick_f (ha.ev rfl) (ha.ev rfl)) ?_
      refine Wk.sl_v rfl rfl (Wk.wanted_none rfl) (fun a ha => Wk.x_assign (ha.ev rfl)) ?_
      refine Wk.sl_nil ?_
      exact Wk.nx_to fun a ha => ⟨⟨(decide (x2 ≤ x1)), ha.weaken (Wk.sub.cons rfl (Wk.sub.nil)), H⟩, rfl⟩
def vc_euf_follows_2_J1 (K : Bool → World → Prop) (b2 : Bool) (w2 : World) : Prop :=
  K b2 w2
def vc_euf_follows_2 (x1 : Int) (x2 : Int) (x3 : Int) (p1 : Addr) (p2 : Addr) (K : Bool → World → Prop) (w : World) : Prop :=
  ∃ A1 : Option Addr, ∃ n1 : Nat, ∃ c1 : Nat, w.cell? p1 = some (.slice A1 n1 c1) ∧ ∃ A2 : Option Addr, ∃ n2 : Nat, ∃ c2 : Nat, w.cell? (p2.add 4) = some (.slice A2 n2 c2) ∧ 0 ≤ x1 ∧ x1 < (n2 : Int) ∧ ∃ a1, A2 = some a1 ∧ ∃ x4 : Int, w.cell? (a1.add (x1.toNat * 1)) = some (.int .i64 x4) ∧ 0 ≤ x4 ∧ x4 < (n1 : Int) ∧ ∃ a2, A1 = some a2 ∧ ∃ x5 : Int, w.cell? ((a2.add (x4.toNat * 5)).add 1) = some (.int .i64 x5) ∧ (x5 = x2 → (∃ A3 : Option Addr, ∃ n3 : Nat, ∃ c3 : Nat, w.cell? p1 = some (.slice A3 n3 c3) ∧ ∃ A4 : Option Addr, ∃ n4 : Nat, ∃ c4 : Nat, w.cell? (p2.add 4) = some (.slice A4 n4 c4) ∧ 0 ≤ x1 ∧ x1 < (n4 : Int) ∧ ∃ a3, A4 = some a3 ∧ ∃ x6 : Int, w.cell? (a3.add (x1.toNat * 1)) = some (.int .i64 x6) ∧ 0 ≤ x6 ∧ x6 < (n3 : Int) ∧ ∃ a4, A3 = some a4 ∧ ∃ x7 : Int, w.cell? ((a4.add (x6.toNat * 5)).add 2) = some (.int .i64 x7) ∧ ∀ w1, Wk.Drawn w w1 → ((vc_euf_follows_2_J1 K) (decide (x7 = x3)) w1))) ∧ (¬ (x5 = x2) → (∀ w3, Wk.Drawn w w3 → ((vc_euf_follows_2_J1 K) false w3)))
set_option maxHeartbeats 2000000 in
set_option maxRecDepth 20000 in
theorem ok_euf_follows_2 (x1 : Int) (x2 : Int) (x3 : Int) (p1 : Addr) (p2 : Addr) (K : Bool → World → Prop) (w : World) (H : vc_euf_follows_2 x1 x2 x3 p1 p2 K w) : Calls P F.euf_follows_2 #[(.int .i64 x1), (.int .i64 x2), (.int .i64 x3), (.pointer (some p1)), (.pointer (some p2))] w (Wk.Ret fun v w' => ∃ b1 : Bool, v = (.bool b1) ∧ K b1 w') := by
  unfold vc_euf_follows_2 at H
  refine Wk.calls_of (P := P) Try.func21 rfl [(0, (.int .i64 x1)), (1, (.int .i64 x2)), (2, (.int .i64 x3)), (3, (.pointer (some p1))), (4, (.pointer (some p2)))] 33 rfl rfl (fun p hp => by simp only [List.mem_cons, List.not_mem_nil, or_false] at hp; rcases hp with rfl | rfl | rfl | rfl | rfl <;> rfl) ?_
  refine Wk.cw_seq ?_
  refine Wk.cw_region ?_
  refine Wk.sl_v rfl rfl (Wk.wanted_none rfl) (fun a ha => Wk.x_assign (ha.ev rfl)) ?_
  refine Wk.sl_nil ?_
  refine Wk.nx_code (Wk.cw_sub (e' := [(0, (.int .i64 x1)), (1, (.int .i64 x2)), (2, (.int .i64 x3)), (3, (.pointer (some p1))), (4, (.pointer (some p2)))]) (Wk.sub.cons rfl (Wk.sub.cons rfl (Wk.sub.cons rfl (Wk.sub.cons rfl (Wk.sub.cons rfl (Wk.sub.nil)))))) ?_)
  refine Wk.cw_join (fun a w => ∃ b2 : Bool, Wk.Ok 33 [(8, (.bool b2))] a ∧ vc_euf_follows_2_J1 K b2 w) ?_ ?_
  · rintro a w2 ⟨b2, ha, H⟩
    unfold vc_euf_follows_2_J1 at H
    refine (?_ : Wk.CW _ _ _ 33 [(8, (.bool b2))] _) a ha
    refine Wk.cw_ret ?_
    exact Wk.nx_body_ret (Wk.res1 rfl rfl) ⟨_, rfl, _, rfl, H⟩
  · refine Wk.cw_any_drawn follows [0, 1, 2, 3, 4, 5, 6, 7, 8, 9, 10, 11, 12, 13, 14, 15, 16, 17, 18, 19, 20, 21, 22, 23, 24] [0, 2, 5, 8, 12, 14, 17, 20] 25 rfl rfl (by kernel_rfl) (fun _ _ d _ _ h => by cases d <;> exact h) (fun cm hW hD => ?_)
    obtain ⟨A1, n1, c1, h1, H⟩ := H
    refine Wk.an_v (i := 0) cm rfl (by kernel_rfl) hW rfl rfl (Wk.wanted_none rfl) (fun w' hw a ha => Wk.x_load (ha.ev rfl) (Wk.i_load1 TF.agg_sl_api_Link ((hw.cell _).trans h1))) rfl ?_
    intro _ hd hW; replace hD := hD.trans hd; clear hd
    refine Wk.an_p (i := 1) cm rfl (by kernel_rfl) rfl rfl (Wk.wanted_none rfl) (fun w' a ha => Wk.x_fieldAddr (ha.ev rfl) (TF.fld_api_Link_4 _ _)) rfl ?_
    intro _ hd; replace hD := hD.trans hd; replace hW := cm.held _ _ hW hd; clear hd
    obtain ⟨A2, n2, c2, h2, H⟩ := H
    refine Wk.an_v (i := 2) cm rfl (by kernel_rfl) hW rfl rfl (Wk.wanted_none rfl) (fun w' hw a ha => Wk.x_load (ha.ev rfl) (Wk.i_load1 TF.agg_sl_int ((hw.cell _).trans h2))) rfl ?_
    intro _ hd hW; replace hD := hD.trans hd; clear hd
    refine Wk.an_p (i := 3) cm rfl (by kernel_rfl) rfl rfl (Wk.wanted_none rfl) (fun w' a ha => Wk.x_move (ha.ev rfl)) rfl ?_
    intro _ hd; replace hD := hD.trans hd; replace hW := cm.held _ _ hW hd; clear hd
    obtain ⟨h3, h4, a1, e1, H⟩ := H
    refine Wk.an_p (i := 4) cm rfl (by kernel_rfl) rfl rfl (Wk.wanted_none rfl) (fun w' a ha => Wk.x_indexAddr (ha.ev rfl) (ha.ev rfl) (Wk.i_index TF.elem_sl_int TF.size_int e1 h3 h4)) rfl ?_
    intro _ hd; replace hD := hD.trans hd; replace hW := cm.held _ _ hW hd; clear hd
    obtain ⟨x4, h5, H⟩ := H
    refine Wk.an_v (i := 5) cm rfl (by kernel_rfl) hW rfl rfl (Wk.wanted_none rfl) (fun w' hw a ha => Wk.x_load (ha.ev rfl) (Wk.i_load1 TF.agg_int ((hw.cell _).trans h5))) rfl ?_
    intro _ hd hW; replace hD := hD.trans hd; clear hd
    obtain ⟨h6, h7, a2, e2, H⟩ := H
    refine Wk.an_p (i := 6) cm rfl (by kernel_rfl) rfl rfl (Wk.wanted_none rfl) (fun w' a ha => Wk.x_indexAddr (ha.ev rfl) (ha.ev rfl) (Wk.i_index TF.elem_sl_api_Link TF.size_api_Link e2 h6 h7)) rfl ?_
    intro _ hd; replace hD := hD.trans hd; replace hW := cm.held _ _ hW hd; clear hd
    refine Wk.an_p (i := 7) cm rfl (by kernel_rfl) rfl rfl (Wk.wanted_none rfl) (fun w' a ha => Wk.x_fieldAddr (ha.ev rfl) (TF.fld_api_Link_1 _ _)) rfl ?_
    intro _ hd; replace hD := hD.trans hd; replace hW := cm.held _ _ hW hd; clear hd
    obtain ⟨x5, h8, H⟩ := H
    refine Wk.an_v (i := 8) cm rfl (by kernel_rfl) hW rfl rfl (Wk.wanted_none rfl) (fun w' hw a ha => Wk.x_load (ha.ev rfl) (Wk.i_load1 TF.agg_int ((hw.cell _).trans h8))) rfl ?_
    intro _ hd hW; replace hD := hD.trans hd; clear hd
    refine Wk.an_p (i := 9) cm rfl (by kernel_rfl) rfl rfl (Wk.wanted_none rfl) (fun w' a ha => Wk.x_move (ha.ev rfl)) rfl ?_
    intro _ hd; replace hD := hD.trans hd; replace hW := cm.held _ _ hW hd; clear hd
    refine Wk.an_p (i := 10) cm rfl (by kernel_rfl) rfl rfl (Wk.wanted_none rfl) (fun w' a ha => Wk.x_binOp (ha.ev rfl) (ha.ev rfl) Wk.o_eql) rfl ?_
    intro _ hd; replace hD := hD.trans hd; replace hW := cm.held _ _ hW hd; clear hd
    rcases Classical.em (x5 = x2) with hb | hb
    · replace H := H.1 hb
      refine Wk.an_p (i := 11) cm rfl (by kernel_rfl) rfl rfl (Wk.wanted_none rfl) (fun w' a ha => Wk.o_t (Wk.x_move (ha.ev rfl)) hb) rfl ?_
      intro _ hd; replace hD := hD.trans hd; replace hW := cm.held _ _ hW hd; clear hd
      obtain ⟨A3, n3, c3, h9, H⟩ := H
      refine Wk.an_v (i := 12) cm rfl (by kernel_rfl) hW rfl rfl (Wk.wanted_some rfl rfl rfl) (fun w' hw a ha => Wk.x_load (ha.ev rfl) (Wk.i_load1 TF.agg_sl_api_Link ((hw.cell _).trans h9))) rfl ?_
      intro _ hd hW; replace hD := hD.trans hd; clear hd
      refine Wk.an_p (i := 13) cm rfl (by kernel_rfl) rfl rfl (Wk.wanted_some rfl rfl rfl) (fun w' a ha => Wk.x_fieldAddr (ha.ev rfl) (TF.fld_api_Link_4 _ _)) rfl ?_
      intro _ hd; replace hD := hD.trans hd; replace hW := cm.held _ _ hW hd; clear hd
      obtain ⟨A4, n4, c4, h10, H⟩ := H
      refine Wk.an_v (i := 14) cm rfl (by kernel_rfl) hW rfl rfl (Wk.wanted_some rfl rfl rfl) (fun w' hw a ha => Wk.x_load (ha.ev rfl) (Wk.i_load1 TF.agg_sl_int ((hw.cell _).trans h10))) rfl ?_
      intro _ hd hW; replace hD := hD.trans hd; clear hd
      refine Wk.an_p (i := 15) cm rfl (by kernel_rfl) rfl rfl (Wk.wanted_some rfl rfl rfl) (fun w' a ha => Wk.x_move (ha.ev rfl)) rfl ?_
      intro _ hd; replace hD := hD.trans hd; replace hW := cm.held _ _ hW hd; clear hd
      obtain ⟨h11, h12, a3, e3, H⟩ := H
      refine Wk.an_p (i := 16) cm rfl (by kernel_rfl) rfl rfl (Wk.wanted_some rfl rfl rfl) (fun w' a ha => Wk.x_indexAddr (ha.ev rfl) (ha.ev rfl) (Wk.i_index TF.elem_sl_int TF.size_int e3 h11 h12)) rfl ?_
      intro _ hd; replace hD := hD.trans hd; replace hW := cm.held _ _ hW hd; clear hd
      obtain ⟨x6, h13, H⟩ := H
      refine Wk.an_v (i := 17) cm rfl (by kernel_rfl) hW rfl rfl (Wk.wanted_some rfl rfl rfl) (fun w' hw a ha => Wk.x_load (ha.ev rfl) (Wk.i_load1 TF.agg_int ((hw.cell _).trans h13))) rfl ?_
      intro _ hd hW; replace hD := hD.trans hd; clear hd
      obtain ⟨h14, h15, a4, e4, H⟩ := H
      refine Wk.an_p (i := 18) cm rfl (by kernel_rfl) rfl rfl (Wk.wanted_some rfl rfl rfl) (fun w' a ha => Wk.x_indexAddr (ha.ev rfl) (ha.ev rfl) (Wk.i_index TF.elem_sl_api_Link TF.size_api_Link e4 h14 h15)) rfl ?_
      intro _ hd; replace hD := hD.trans hd; replace hW := cm.held _ _ hW hd; clear hd
      refine Wk.an_p (i := 19) cm rfl (by kernel_rfl) rfl rfl (Wk.wanted_some rfl rfl rfl) (fun w' a ha => Wk.x_fieldAddr (ha.ev rfl) (TF.fld_api_Link_2 _ _)) rfl ?_
      intro _ hd; replace hD := hD.trans hd; replace hW := cm.held _ _ hW hd; clear hd
      obtain ⟨x7, h16, H⟩ := H
      refine Wk.an_v (i := 20) cm rfl (by kernel_rfl) hW rfl rfl (Wk.wanted_some rfl rfl rfl) (fun w' hw a ha => Wk.x_load (ha.ev rfl) (Wk.i_load1 TF.agg_int ((hw.cell _).trans h16))) rfl ?_
      intro _ hd hW; replace hD := hD.trans hd; clear hd
      refine Wk.an_p (i := 21) cm rfl (by kernel_rfl) rfl rfl (Wk.wanted_some rfl rfl rfl) (fun w' a ha => Wk.x_move (ha.ev rfl)) rfl ?_
      intro _ hd; replace hD := hD.trans hd; clear hd
      refine Wk.an_p (i := 22) cm rfl (by kernel_rfl) rfl rfl (Wk.wanted_some rfl rfl rfl) (fun w' a ha => Wk.x_binOp (ha.ev rfl) (ha.ev rfl) Wk.o_eql) rfl ?_
      intro _ hd; replace hD := hD.trans hd; clear hd
      refine Wk.an_p (i := 23) cm rfl (by kernel_rfl) rfl rfl (Wk.wanted_none rfl) (fun w' a ha => Wk.x_pick_t (ha.ev rfl) (ha.ev rfl)) rfl ?_
      intro _ hd; replace hD := hD.trans hd; clear hd
      refine Wk.an_p (i := 24) cm rfl (by kernel_rfl) rfl rfl (Wk.wanted_none rfl) (fun w' a ha => Wk.x_assign (ha.ev rfl)) rfl ?_
      intro _ hd; replace hD := hD.trans hd; clear hd
      refine Wk.an_end (by kernel_rfl) hD ?_
      intro w1 hD; replace H := H _ hD; clear hD cm
      exact Wk.nx_to fun a ha => ⟨(decide (x7 = x3)), ha.weaken (Wk.sub.cons rfl (Wk.sub.nil)), H⟩
    · replace H := H.2 hb
      refine Wk.an_p (i := 11) cm rfl (by kernel_rfl) rfl rfl (Wk.wanted_none rfl) (fun w' a ha => Wk.o_f (Wk.x_move (ha.ev rfl)) hb) rfl ?_
      intro _ hd; replace hD := hD.trans hd; replace hW := cm.held _ _ hW hd; clear hd
      refine Wk.an_pskip (i := 12) cm rfl (by kernel_rfl) rfl rfl (Wk.wanted_not rfl rfl rfl rfl) rfl ?_
      intro _ hd; replace hD := hD.trans hd; replace hW := cm.held _ _ hW hd; clear hd
      refine Wk.an_pskip (i := 13) cm rfl (by kernel_rfl) rfl rfl (Wk.wanted_not rfl rfl rfl rfl) rfl ?_
      intro _ hd; replace hD := hD.trans hd; replace hW := cm.held _ _ hW hd; clear hd
      refine Wk.an_pskip (i := 14) cm rfl (by kernel_rfl) rfl rfl (Wk.wanted_not rfl rfl rfl rfl) rfl ?_
      intro _ hd; replace hD := hD.trans hd; replace hW := cm.held _ _ hW hd; clear hd
      refine Wk.an_pskip (i := 15) cm rfl (by kernel_rfl) rfl rfl (Wk.wanted_not rfl rfl rfl rfl) rfl ?_
      intro _ hd; replace hD := hD.trans hd; replace hW := cm.held _ _ hW hd; clear hd
      refine Wk.an_pskip (i := 16) cm rfl (by kernel_rfl) rfl rfl (Wk.wanted_not rfl rfl rfl rfl) rfl ?_
      intro _ hd; replace hD := hD.trans hd; replace hW := cm.held _ _ hW hd; clear hd
      refine Wk.an_pskip (i := 17) cm rfl (by kernel_rfl) rfl rfl (Wk.wanted_not rfl rfl rfl rfl) rfl ?_
      intro _ hd; replace hD := hD.trans hd; replace hW := cm.held _ _ hW hd; clear hd
      refine Wk.an_pskip (i := 18) cm rfl (by kernel_rfl) rfl rfl (Wk.wanted_not rfl rfl rfl rfl) rfl ?_
      intro _ hd; replace hD := hD.trans hd; replace hW := cm.held _ _ hW hd; clear hd
      refine Wk.an_pskip (i := 19) cm rfl (by kernel_rfl) rfl rfl (Wk.wanted_not rfl rfl rfl rfl) rfl ?_
      intro _ hd; replace hD := hD.trans hd; replace hW := cm.held _ _ hW hd; clear hd
      refine Wk.an_pskip (i := 20) cm rfl (by kernel_rfl) rfl rfl (Wk.wanted_not rfl rfl rfl rfl) rfl ?_
      intro _ hd; replace hD := hD.trans hd; replace hW := cm.held _ _ hW hd; clear hd
      refine Wk.an_pskip (i := 21) cm rfl (by kernel_rfl) rfl rfl (Wk.wanted_not rfl rfl rfl rfl) rfl ?_
      intro _ hd; replace hD := hD.trans hd; clear hd
      refine Wk.an_pskip (i := 22) cm rfl (by kernel_rfl) rfl rfl (Wk.wanted_not rfl rfl rfl rfl) rfl ?_
      intro _ hd; replace hD := hD.trans hd; clear hd
      refine Wk.an_p (i := 23) cm rfl (by kernel_rfl) rfl rfl (Wk.wanted_none rfl) (fun w' a ha => Wk.x_pick_f (ha.ev rfl) (ha.ev rfl)) rfl ?_
      intro _ hd; replace hD := hD.trans hd; clear hd
      refine Wk.an_p (i := 24) cm rfl (by kernel_rfl) rfl rfl (Wk.wanted_none rfl) (fun w' a ha => Wk.x_assign (ha.ev rfl)) rfl ?_
      intro _ hd; replace hD := hD.trans hd; clear hd
      refine Wk.an_end (by kernel_rfl) hD ?_
      intro w3 hD; replace H := H _ hD; clear hD cm
      exact Wk.nx_to fun a ha => ⟨false, ha.weaken (Wk.sub.cons rfl (Wk.sub.nil)), H⟩
def vc_euf_follows_3_J1 (K : Bool → World → Prop) (w1 : World) (b2 : Bool) : Prop :=
  K b2 w1
def vc_euf_follows_3 (x1 : Int) (x2 : Int) (x3 : Int) (x4 : Int) (A1 : Option Addr) (n1 : Nat) (c1 : Nat) (p1 : Addr) (K : Bool → World → Prop) (w : World) : Prop :=
  ∀ (p2 : Addr) (w1 : World), Wk.New w (.cells #[(.int .i64 x1), (.int .i64 x2), (.int .i64 x3), (.int .i64 x4), (.slice A1 n1 c1)] T.api_Link) p2 w1 → (∃ x5 : Int, w1.cell? (p2.add 0) = some (.int .i64 x5) ∧ ∃ x6 : Int, w1.cell? (p1.add 0) = some (.int .i64 x6) ∧ (x5 = x6 → (∃ x7 : Int, w1.cell? (p2.add 1) = some (.int .i64 x7) ∧ ∃ x8 : Int, w1.cell? (p1.add 1) = some (.int .i64 x8) ∧ (x7 = x8 → (∃ x9 : Int, w1.cell? (p2.add 2) = some (.int .i64 x9) ∧ ∃ x10 : Int, w1.cell? (p1.add 2) = some (.int .i64 x10) ∧ (x9 = x10 → (∃ x11 : Int, w1.cell? (p2.add 3) = some (.int .i64 x11) ∧ ∃ x12 : Int, w1.cell? (p1.add 3) = some (.int .i64 x12) ∧ (vc_euf_follows_3_J1 K w1) (decide (x11 = x12)))) ∧ (¬ (x9 = x10) → ((vc_euf_follows_3_J1 K w1) false)))) ∧ (¬ (x7 = x8) → ((vc_euf_follows_3_J1 K w1) false)))) ∧ (¬ (x5 = x6) → ((vc_euf_follows_3_J1 K w1) false)))
set_option maxHeartbeats 2000000 in
set_option maxRecDepth 20000 in
theorem ok_euf_follows_3 (x1 : Int) (x2 : Int) (x3 : Int) (x4 : Int) (A1 : Option Addr) (n1 : Nat) (c1 : Nat) (p1 : Addr) (K : Bool → World → Prop) (w : World) (H : vc_euf_follows_3 x1 x2 x3 x4 A1 n1 c1 p1 K w) : Calls P F.euf_follows_3 #[(.agg #[(.int .i64 x1), (.int .i64 x2), (.int .i64 x3), (.int .i64 x4), (.slice A1 n1 c1)]), (.pointer (some p1))] w (Wk.Ret fun v w' => ∃ b1 : Bool, v = (.bool b1) ∧ K b1 w') := by
  unfold vc_euf_follows_3 at H
  refine Wk.calls_of (P := P) Try.func23 rfl [(0, (.agg #[(.int .i64 x1), (.int .i64 x2), (.int .i64 x3), (.int .i64 x4), (.slice A1 n1 c1)])), (1, (.pointer (some p1)))] 30 rfl rfl (fun p hp => by simp only [List.mem_cons, List.not_mem_nil, or_false] at hp; rcases hp with rfl | rfl <;> rfl) ?_
  refine Wk.cw_seq ?_
  refine Wk.cw_region ?_
  refine Wk.sl_new (f := (fun p => .pointer (some p))) rfl rfl (Wk.wanted_none rfl) (fun a ha => Wk.x_box (ha.ev rfl) Wk.i_box) ?_
  intro p2 w1 hN; replace H := H _ _ hN
  refine Wk.sl_v rfl rfl (Wk.wanted_none rfl) (fun a ha => Wk.x_assign (ha.ev rfl)) ?_
  refine Wk.sl_nil ?_
  refine Wk.nx_code (Wk.cw_sub (e' := [(1, (.pointer (some p1))), (2, (.pointer (some p2)))]) (Wk.sub.cons rfl (Wk.sub.cons rfl (Wk.sub.nil))) ?_)
  refine Wk.cw_join_still (fun a => ∃ b2 : Bool, Wk.Ok 30 [(3, (.bool b2))] a ∧ vc_euf_follows_3_J1 K w1 b2) ?_ ?_
  · rintro a ⟨b2, ha, H⟩
    unfold vc_euf_follows_3_J1 at H
    refine (?_ : Wk.CW _ _ _ 30 [(3, (.bool b2))] _) a ha
    refine Wk.cw_ret ?_
    exact Wk.nx_body_ret (Wk.res1 rfl rfl) ⟨_, rfl, _, rfl, H⟩
  · refine Wk.cw_region ?_
    refine Wk.sl_v rfl rfl (Wk.wanted_none rfl) (fun a ha => Wk.x_fieldAddr (ha.ev rfl) (TF.fld_api_Link_0 _ _)) ?_
    obtain ⟨x5, h2, H⟩ := H
    refine Wk.sl_v rfl rfl (Wk.wanted_none rfl) (fun a ha => Wk.x_load (ha.ev rfl) (Wk.i_load1 TF.agg_int h2)) ?_
    refine Wk.sl_v rfl rfl (Wk.wanted_none rfl) (fun a ha => Wk.x_fieldAddr (ha.ev rfl) (TF.fld_api_Link_0 _ _)) ?_
    obtain ⟨x6, h3, H⟩ := H
    refine Wk.sl_v rfl rfl (Wk.wanted_none rfl) (fun a ha => Wk.x_load (ha.ev rfl) (Wk.i_load1 TF.agg_int h3)) ?_
    refine Wk.sl_v rfl rfl (Wk.wanted_none rfl) (fun a ha => Wk.x_binOp (ha.ev rfl) (ha.ev rfl) Wk.o_eql) ?_
    rcases Classical.em (x5 = x6) with hb | hb
    · replace H := H.1 hb
      refine Wk.sl_v rfl rfl (Wk.wanted_none rfl) (fun a ha => Wk.o_t (Wk.x_move (ha.ev rfl)) hb) ?_
      refine Wk.sl_v rfl rfl (Wk.wanted_some rfl rfl rfl) (fun a ha => Wk.x_fieldAddr (ha.ev rfl) (TF.fld_api_Link_1 _ _)) ?_
      obtain ⟨x7, h4, H⟩ := H
      refine Wk.sl_v rfl rfl (Wk.wanted_some rfl rfl rfl) (fun a ha => Wk.x_load (ha.ev rfl) (Wk.i_load1 TF.agg_int h4)) ?_
      refine Wk.sl_v rfl rfl (Wk.wanted_some rfl rfl rfl) (fun a ha => Wk.x_fieldAddr (ha.ev rfl) (TF.fld_api_Link_1 _ _)) ?_
      obtain ⟨x8, h5, H⟩ := H
      refine Wk.sl_v rfl rfl (Wk.wanted_some rfl rfl rfl) (fun a ha => Wk.x_load (ha.ev rfl) (Wk.i_load1 TF.agg_int h5)) ?_
      refine Wk.sl_v rfl rfl (Wk.wanted_some rfl rfl rfl) (fun a ha => Wk.x_binOp (ha.ev rfl) (ha.ev rfl) Wk.o_eql) ?_
      refine Wk.sl_v rfl rfl (Wk.wanted_none rfl) (fun a ha => Wk.x_pick_t (ha.ev rfl) (ha.ev rfl)) ?_
      rcases Classical.em (x7 = x8) with hb | hb
      · replace H := H.1 hb
        refine Wk.sl_v rfl rfl (Wk.wanted_none rfl) (fun a ha => Wk.o_t (Wk.x_move (ha.ev rfl)) hb) ?_
        refine Wk.sl_v rfl rfl (Wk.wanted_some rfl rfl rfl) (fun a ha => Wk.x_fieldAddr (ha.ev rfl) (TF.fld_api_Link_2 _ _)) ?_
        obtain ⟨x9, h6, H⟩ := H
        refine Wk.sl_v rfl rfl (Wk.wanted_some rfl rfl rfl) (fun a ha => Wk.x_load (ha.ev rfl) (Wk.i_load1 TF.agg_int h6)) ?_
        refine Wk.sl_v rfl rfl (Wk.wanted_some rfl rfl rfl) (fun a ha => Wk.x_fieldAddr (ha.ev rfl) (TF.fld_api_Link_2 _ _)) ?_
        obtain ⟨x10, h7, H⟩ := H
        refine Wk.sl_v rfl rfl (Wk.wanted_some rfl rfl rfl) (fun a ha => Wk.x_load (ha.ev rfl) (Wk.i_load1 TF.agg_int h7)) ?_
        refine Wk.sl_v rfl rfl (Wk.wanted_some rfl rfl rfl) (fun a ha => Wk.x_binOp (ha.ev rfl) (ha.ev rfl) Wk.o_eql) ?_
        refine Wk.sl_v rfl rfl (Wk.wanted_none rfl) (fun a ha => Wk.x_pick_t (ha.ev rfl) (ha.ev rfl)) ?_
        rcases Classical.em (x9 = x10) with hb | hb
        · replace H := H.1 hb
          refine Wk.sl_v rfl rfl (Wk.wanted_none rfl) (fun a ha => Wk.o_t (Wk.x_move (ha.ev rfl)) hb) ?_
          refine Wk.sl_v rfl rfl (Wk.wanted_some rfl rfl rfl) (fun a ha => Wk.x_fieldAddr (ha.ev rfl) (TF.fld_api_Link_3 _ _)) ?_
          obtain ⟨x11, h8, H⟩ := H
          refine Wk.sl_v rfl rfl (Wk.wanted_some rfl rfl rfl) (fun a ha => Wk.x_load (ha.ev rfl) (Wk.i_load1 TF.agg_int h8)) ?_
          refine Wk.sl_v rfl rfl (Wk.wanted_some rfl rfl rfl) (fun a ha => Wk.x_fieldAddr (ha.ev rfl) (TF.fld_api_Link_3 _ _)) ?_
          obtain ⟨x12, h9, H⟩ := H
          refine Wk.sl_v rfl rfl (Wk.wanted_some rfl rfl rfl) (fun a ha => Wk.x_load (ha.ev rfl) (Wk.i_load1 TF.agg_int h9)) ?_
          refine Wk.sl_v rfl rfl (Wk.wanted_some rfl rfl rfl) (fun a ha => Wk.x_binOp (ha.ev rfl) (ha.ev rfl) Wk.o_eql) ?_
          refine Wk.sl_v rfl rfl (Wk.wanted_none rfl) (fun a ha => Wk.x_pick_t (ha.ev rfl) (ha.ev rfl)) ?_
          refine Wk.sl_v rfl rfl (Wk.wanted_none rfl) (fun a ha => Wk.x_assign (ha.ev rfl)) ?_
          refine Wk.sl_nil ?_
          exact Wk.nx_to fun a ha => ⟨⟨(decide (x11 = x12)), ha.weaken (Wk.sub.cons rfl (Wk.sub.nil)), H⟩, rfl⟩
        · replace H := H.2 hb
          refine Wk.sl_v rfl rfl (Wk.wanted_none rfl) (fun a ha => Wk.o_f (Wk.x_move (ha.ev rfl)) hb) ?_
          refine Wk.sl_skip rfl rfl (Wk.wanted_not rfl rfl rfl rfl) ?_
          refine Wk.sl_skip rfl rfl (Wk.wanted_not rfl rfl rfl rfl) ?_
          refine Wk.sl_skip rfl rfl (Wk.wanted_not rfl rfl rfl rfl) ?_
          refine Wk.sl_skip rfl rfl (Wk.wanted_not rfl rfl rfl rfl) ?_
          refine Wk.sl_skip rfl rfl (Wk.wanted_not rfl rfl rfl rfl) ?_
          refine Wk.sl_v rfl rfl (Wk.wanted_none rfl) (fun a ha => Wk.x_pick_f (ha.ev rfl) (ha.ev rfl)) ?_
          refine Wk.sl_v rfl rfl (Wk.wanted_none rfl) (fun a ha => Wk.x_assign (ha.ev rfl)) ?_
          refine Wk.sl_nil ?_
          exact Wk.nx_to fun a ha => ⟨⟨false, ha.weaken (Wk.sub.cons rfl (Wk.sub.nil)), H⟩, rfl⟩
      · replace H := H.2 hb
        refine Wk.sl_v rfl rfl (Wk.wanted_none rfl) (fun a ha => Wk.o_f (Wk.x_move (ha.ev rfl)) hb) ?_
        refine Wk.sl_skip rfl rfl (Wk.wanted_not rfl rfl rfl rfl) ?_
        refine Wk.sl_skip rfl rfl (Wk.wanted_not rfl rfl rfl rfl) ?_
        refine Wk.sl_skip rfl rfl (Wk.wanted_not rfl rfl rfl rfl) ?_
        refine Wk.sl_skip rfl rfl (Wk.wanted_not rfl rfl rfl rfl) ?_
        refine Wk.sl_skip rfl rfl (Wk.wanted_not rfl rfl rfl rfl) ?_
        refine Wk.sl_v rfl rfl (Wk.wanted_none rfl) (fun a ha => Wk.x_pick_f (ha.ev rfl) (ha.ev rfl)) ?_
        refine Wk.sl_v rfl rfl (Wk.wanted_none rfl) (fun a ha => Wk.x_move (ha.ev rfl)) ?_
        refine Wk.sl_skip rfl rfl (Wk.wanted_not rfl rfl rfl rfl) ?_
        refine Wk.sl_skip rfl rfl (Wk.wanted_not rfl rfl rfl rfl) ?_
        refine Wk.sl_skip rfl rfl (Wk.wanted_not rfl rfl rfl rfl) ?_
        refine Wk.sl_skip rfl rfl (Wk.wanted_not rfl rfl rfl rfl) ?_
        refine Wk.sl_skip rfl rfl (Wk.wanted_not rfl rfl rfl rfl) ?_
        refine Wk.sl_v rfl rfl (Wk.wanted_none rfl) (fun a ha => Wk.x_pick_f (ha.ev rfl) (ha.ev rfl)) ?_
        refine Wk.sl_v rfl rfl (Wk.wanted_none rfl) (fun a ha => Wk.x_assign (ha.ev rfl)) ?_
        refine Wk.sl_nil ?_
        exact Wk.nx_to fun a ha => ⟨⟨false, ha.weaken (Wk.sub.cons rfl (Wk.sub.nil)), H⟩, rfl⟩
    · replace H := H.2 hb
      refine Wk.sl_v rfl rfl (Wk.wanted_none rfl) (fun a ha => Wk.o_f (Wk.x_move (ha.ev rfl)) hb) ?_
      refine Wk.sl_skip rfl rfl (Wk.wanted_not rfl rfl rfl rfl) ?_
      refine Wk.sl_skip rfl rfl (Wk.wanted_not rfl rfl rfl rfl) ?_
      refine Wk.sl_skip rfl rfl (Wk.wanted_not rfl rfl rfl rfl) ?_
      refine Wk.sl_skip rfl rfl (Wk.wanted_not rfl rfl rfl rfl) ?_
      refine Wk.sl_skip rfl rfl (Wk.wanted_not rfl rfl rfl rfl) ?_
      refine Wk.sl_v rfl rfl (Wk.wanted_none rfl) (fun a ha => Wk.x_pick_f (ha.ev rfl) (ha.ev rfl)) ?_
      refine Wk.sl_v rfl rfl (Wk.wanted_none rfl) (fun a ha => Wk.x_move (ha.ev rfl)) ?_
      refine Wk.sl_skip rfl rfl (Wk.wanted_not rfl rfl rfl rfl) ?_
      refine Wk.sl_skip rfl rfl (Wk.wanted_not rfl rfl rfl rfl) ?_
      refine Wk.sl_skip rfl rfl (Wk.wanted_not rfl rfl rfl rfl) ?_
      refine Wk.sl_skip rfl rfl (Wk.wanted_not rfl rfl rfl rfl) ?_
      refine Wk.sl_skip rfl rfl (Wk.wanted_not rfl rfl rfl rfl) ?_
      refine Wk.sl_v rfl rfl (Wk.wanted_none rfl) (fun a ha => Wk.x_pick_f (ha.ev rfl) (ha.ev rfl)) ?_
      refine Wk.sl_v rfl rfl (Wk.wanted_none rfl) (fun a ha => Wk.x_move (ha.ev rfl)) ?_
      refine Wk.sl_skip rfl rfl (Wk.wanted_not rfl rfl rfl rfl) ?_
      refine Wk.sl_skip rfl rfl (Wk.wanted_not rfl rfl rfl rfl) ?_
      refine Wk.sl_skip rfl rfl (Wk.wanted_not rfl rfl rfl rfl) ?_
      refine Wk.sl_skip rfl rfl (Wk.wanted_not rfl rfl rfl rfl) ?_
      refine Wk.sl_skip rfl rfl (Wk.wanted_not rfl rfl rfl rfl) ?_
      refine Wk.sl_v rfl rfl (Wk.wanted_none rfl) (fun a ha => Wk.x_pick_f (ha.ev rfl) (ha.ev rfl)) ?_
      refine Wk.sl_v rfl rfl (Wk.wanted_none rfl) (fun a ha => Wk.x_assign (ha.ev rfl)) ?_
      refine Wk.sl_nil ?_
      exact Wk.nx_to fun a ha => ⟨⟨false, ha.weaken (Wk.sub.cons rfl (Wk.sub.nil)), H⟩, rfl⟩
def vc_euf_follows_J1 (K : Bool → World → Prop) (b5 : Bool) (w7 : World) : Prop :=
  K b5 w7
def vc_euf_follows_J2 (K : Bool → World → Prop) (w5 : World) (b6 : Bool) : Prop :=
  K b6 w5
def vc_euf_follows_J3 (K : Bool → World → Prop) (b8 : Bool) (w9 : World) : Prop :=
  K b8 w9
def vc_euf_follows_J4 (K : Bool → World → Prop) (b11 : Bool) (w11 : World) : Prop :=
  K b11 w11
def vc_euf_follows_J5 (K : Bool → World → Prop) (w19 : World) (p3 : Addr) (p6 : Addr) (p7 : Addr) (p1 : Addr) (b12 : Bool) : Prop :=
  (b12 = true → (K false w19)) ∧ (b12 = false → (∃ A21 : Option Addr, ∃ n21 : Nat, ∃ c21 : Nat, w19.cell? (p3.add 4) = some (.slice A21 n21 c21) ∧ ∃ I1 : Nat → Int → World → Prop, (∃ k1, I1 k1 0 w19) ∧ ∀ k1 (x31 : Int) (w33 : World), I1 k1 x31 w33 → ((x31 < (n21 : Int) → (∃ A22 : Option Addr, ∃ n22 : Nat, ∃ c22 : Nat, w33.cell? (p6.add 1) = some (.slice A22 n22 c22) ∧ 0 ≤ x31 ∧ x31 < (n22 : Int) ∧ ∃ a8, A22 = some a8 ∧ ∃ x32 : Int, w33.cell? (a8.add (x31.toNat * 1)) = some (.int .i64 x32) ∧ ∃ A23 : Option Addr, ∃ n23 : Nat, ∃ c23 : Nat, w33.cell? (p7.add 1) = some (.slice A23 n23 c23) ∧ 0 ≤ x31 ∧ x31 < (n23 : Int) ∧ ∃ a9, A23 = some a9 ∧ ∃ x33 : Int, w33.cell? (a9.add (x31.toNat * 1)) = some (.int .i64 x33) ∧ ∃ b13 : Bool, (∀ w', Wk.Drawn w33 w' → Calls P F.euf_follows_2 #[(.int .i64 x31), (.int .i64 x32), (.int .i64 x33), (.pointer (some p1)), (.pointer (some p3))] w' fun x w'' => x = .returned (.bool b13) ∧ Wk.Drawn w' w'') ∧ ∀ w34, Wk.Drawn w33 w34 → (((!b13) = true → (K false w34)) ∧ ((!b13) = false → (∃ k2, k2 < k1 ∧ I1 k2 (IntKind.wrap .i64 (x31 + 1)) w34))))) ∧ (¬ (x31 < (n21 : Int)) → (K true w33)))))
def vc_euf_follows_J6 (K : Bool → World → Prop) (p3 : Addr) (p1 : Addr) (p6 : Addr) (p7 : Addr) (w19 : World) : Prop :=
  ∃ x28 : Int, w19.cell? (p6.add 0) = some (.int .i64 x28) ∧ (x28 < 0 → ((vc_euf_follows_J5 K w19 p3 p6 p7 p1) true)) ∧ (¬ (x28 < 0) → (∃ x29 : Int, w19.cell? (p6.add 0) = some (.int .i64 x29) ∧ ∃ x30 : Int, w19.cell? (p7.add 0) = some (.int .i64 x30) ∧ (x29 ≠ x30 → ((vc_euf_follows_J5 K w19 p3 p6 p7 p1) true)) ∧ (¬ (x29 ≠ x30) → (∃ A17 : Option Addr, ∃ n17 : Nat, ∃ c17 : Nat, w19.cell? (p6.add 1) = some (.slice A17 n17 c17) ∧ ∃ A18 : Option Addr, ∃ n18 : Nat, ∃ c18 : Nat, w19.cell? (p7.add 1) = some (.slice A18 n18 c18) ∧ ((n17 : Int) ≠ (n18 : Int) → ((vc_euf_follows_J5 K w19 p3 p6 p7 p1) true)) ∧ (¬ ((n17 : Int) ≠ (n18 : Int)) → (∃ A19 : Option Addr, ∃ n19 : Nat, ∃ c19 : Nat, w19.cell? (p3.add 4) = some (.slice A19 n19 c19) ∧ ∃ A20 : Option Addr, ∃ n20 : Nat, ∃ c20 : Nat, w19.cell? (p6.add 1) = some (.slice A20 n20 c20) ∧ (vc_euf_follows_J5 K w19 p3 p6 p7 p1) (decide ((n19 : Int) ≠ (n20 : Int)))))))))
def vc_euf_follows_J7 (K : Bool → World → Prop) (w4 : World) (p3 : Addr) (p2 : Addr) (A2 : Option Addr) (n2 : Nat) (c2 : Nat) (p1 : Addr) (n1 : Nat) (A1 : Option Addr) (b2 : Bool) : Prop :=
  (b2 = true → (K false w4)) ∧ (b2 = false → (∃ A6 : Option Addr, ∃ n6 : Nat, ∃ c6 : Nat, w4.cell? (p3.add 4) = some (.slice A6 n6 c6) ∧ Calls P F.slices_ContainsFunc_sl_int_int #[(.slice A6 n6 c6), (.func (.func F.euf_follows_1) #[] #[(.pointer (some p2))])] w4 (Wk.Ret fun v1 w5 => ∃ b3 : Bool, v1 = (.bool b3) ∧ (b3 = true → (K false w5)) ∧ (b3 = false → (∃ x11 : Int, w5.cell? (p3.add 0) = some (.int .i64 x11) ∧ (x11 = 1 → (∃ A7 : Option Addr, ∃ n7 : Nat, ∃ c7 : Nat, w5.cell? (p3.add 4) = some (.slice A7 n7 c7) ∧ ((n7 : Int) = 0 → (Calls P F.slices_ContainsFunc_sl_api_Link_api_Link #[(.slice A2 n2 c2), (.func (.func F.euf_follows_3) #[] #[(.pointer (some p3))])] w5 (Wk.Ret fun v2 w6 => ∃ b4 : Bool, v2 = (.bool b4) ∧ (vc_euf_follows_J1 K) b4 w6))) ∧ (¬ ((n7 : Int) = 0) → ((vc_euf_follows_J1 K) false w5)))) ∧ (¬ (x11 = 1) → (∃ x12 : Int, w5.cell? (p3.add 3) = some (.int .i64 x12) ∧ (x12 ≠ 0 → (K false w5)) ∧ (¬ (x12 ≠ 0) → (∃ x13 : Int, w5.cell? (p3.add 0) = some (.int .i64 x13) ∧ (x13 = 2 → (∃ A8 : Option Addr, ∃ n8 : Nat, ∃ c8 : Nat, w5.cell? (p3.add 4) = some (.slice A8 n8 c8) ∧ ((n8 : Int) = 0 → (∃ x14 : Int, w5.cell? (p3.add 1) = some (.int .i64 x14) ∧ ∃ x15 : Int, w5.cell? (p3.add 2) = some (.int .i64 x15) ∧ (vc_euf_follows_J2 K w5) (decide (x14 = x15)))) ∧ (¬ ((n8 : Int) = 0) → ((vc_euf_follows_J2 K w5) false)))) ∧ (¬ (x13 = 2) → ((x13 = 3 → (∃ A9 : Option Addr, ∃ n9 : Nat, ∃ c9 : Nat, w5.cell? (p3.add 4) = some (.slice A9 n9 c9) ∧ ((n9 : Int) = 1 → (∃ x16 : Int, w5.cell? (p3.add 2) = some (.int .i64 x16) ∧ ∃ x17 : Int, w5.cell? (p3.add 1) = some (.int .i64 x17) ∧ Calls P F.euf_follows_2 #[(.int .i64 0), (.int .i64 x16), (.int .i64 x17), (.pointer (some p1)), (.pointer (some p3))] w5 (Wk.Ret fun v3 w8 => ∃ b7 : Bool, v3 = (.bool b7) ∧ (vc_euf_follows_J3 K) b7 w8))) ∧ (¬ ((n9 : Int) = 1) → ((vc_euf_follows_J3 K) false w5)))) ∧ (¬ (x13 = 3) → ((x13 = 4 → (∃ A10 : Option Addr, ∃ n10 : Nat, ∃ c10 : Nat, w5.cell? (p3.add 4) = some (.slice A10 n10 c10) ∧ ((n10 : Int) = 2 → (∃ x18 : Int, w5.cell? (p3.add 1) = some (.int .i64 x18) ∧ ∃ A11 : Option Addr, ∃ n11 : Nat, ∃ c11 : Nat, w5.cell? p1 = some (.slice A11 n11 c11) ∧ ∃ A12 : Option Addr, ∃ n12 : Nat, ∃ c12 : Nat, w5.cell? (p3.add 4) = some (.slice A12 n12 c12) ∧ 0 ≤ (0 : Int) ∧ (0 : Int) < (n12 : Int) ∧ ∃ a2, A12 = some a2 ∧ ∃ x19 : Int, w5.cell? (a2.add ((0 : Int).toNat * 1)) = some (.int .i64 x19) ∧ 0 ≤ x19 ∧ x19 < (n11 : Int) ∧ ∃ a3, A11 = some a3 ∧ ∃ x20 : Int, w5.cell? ((a3.add (x19.toNat * 5)).add 2) = some (.int .i64 x20) ∧ ∃ b9 : Bool, (∀ w', Wk.Drawn w5 w' → Calls P F.euf_follows_2 #[(.int .i64 0), (.int .i64 x18), (.int .i64 x20), (.pointer (some p1)), (.pointer (some p3))] w' fun x w'' => x = .returned (.bool b9) ∧ Wk.Drawn w' w'') ∧ (b9 = true → (∃ A13 : Option Addr, ∃ n13 : Nat, ∃ c13 : Nat, w5.cell? p1 = some (.slice A13 n13 c13) ∧ ∃ A14 : Option Addr, ∃ n14 : Nat, ∃ c14 : Nat, w5.cell? (p3.add 4) = some (.slice A14 n14 c14) ∧ 0 ≤ (0 : Int) ∧ (0 : Int) < (n14 : Int) ∧ ∃ a4, A14 = some a4 ∧ ∃ x21 : Int, w5.cell? (a4.add ((0 : Int).toNat * 1)) = some (.int .i64 x21) ∧ 0 ≤ x21 ∧ x21 < (n13 : Int) ∧ ∃ a5, A13 = some a5 ∧ ∃ x22 : Int, w5.cell? ((a5.add (x21.toNat * 5)).add 2) = some (.int .i64 x22) ∧ ∃ x23 : Int, w5.cell? (p3.add 2) = some (.int .i64 x23) ∧ ∃ b10 : Bool, (∀ w', Wk.Drawn w5 w' → Calls P F.euf_follows_2 #[(.int .i64 1), (.int .i64 x22), (.int .i64 x23), (.pointer (some p1)), (.pointer (some p3))] w' fun x w'' => x = .returned (.bool b10) ∧ Wk.Drawn w' w'') ∧ ∀ w10, Wk.Drawn w5 w10 → ((vc_euf_follows_J4 K) b10 w10))) ∧ (b9 = false → (∀ w12, Wk.Drawn w5 w12 → ((vc_euf_follows_J4 K) false w12))))) ∧ (¬ ((n10 : Int) = 2) → (∀ w13, Wk.Drawn w5 w13 → ((vc_euf_follows_J4 K) false w13))))) ∧ (¬ (x13 = 4) → ((x13 = 5 → (∃ X1 : Nat → Prop, ∃ x24 : Int, w5.cell? (p3.add 1) = some (.int .i64 x24) ∧ ¬ X1 (p3.add 1).block ∧ 0 ≤ x24 ∧ x24 < (n1 : Int) ∧ ∃ a6, A1 = some a6 ∧ ∃ x25 : Int, ∃ A15 : Option Addr, ∃ n15 : Nat, ∃ c15 : Nat, Wk.CellsAt w5 (a6.add (x24.toNat * 2)) [(.int .i64 x25), (.slice A15 n15 c15)] ∧ ¬ X1 (a6.add (x24.toNat * 2)).block ∧ ∃ x26 : Int, w5.cell? (p3.add 2) = some (.int .i64 x26) ∧ ¬ X1 (p3.add 2).block ∧ 0 ≤ x26 ∧ x26 < (n1 : Int) ∧ ∃ a7, A1 = some a7 ∧ ∃ x27 : Int, ∃ A16 : Option Addr, ∃ n16 : Nat, ∃ c16 : Nat, Wk.CellsAt w5 (a7.add (x26.toNat * 2)) [(.int .i64 x27), (.slice A16 n16 c16)] ∧ ¬ X1 (a7.add (x26.toNat * 2)).block ∧ (∀ w23, Wk.Drawn w5 w23 → ∀ (p4 : Addr) (w14 : World), Wk.New w23 (.cells #[(.int .i64 0), (.slice none 0 0)] T.api_Flat) p4 w14 → (∀ w22, Wk.Drawn w14 w22 → ∀ (p5 : Addr) (w15 : World), Wk.New w22 (.cells #[(.int .i64 0), (.slice none 0 0)] T.api_Flat) p5 w15 → (∀ w21, Wk.Drawn w15 w21 → Wk.Soft w21 p4 2 ∧ ∀ w16, w16 = Wk.setCellsAt w21 p4 [(.int .i64 x25), (.slice A15 n15 c15)] → (Wk.Keep X1 w5 w16 ∧ (∀ w20, Wk.Drawn w16 w20 → Wk.Soft w20 p5 2 ∧ ∀ w17, w17 = Wk.setCellsAt w20 p5 [(.int .i64 x27), (.slice A16 n16 c16)] → (∀ w18, Wk.Drawn w17 w18 → ((vc_euf_follows_J6 K p3 p1) p4 p5 w18))))))) ∧ (∀ w32, Wk.Drawn w5 w32 → ∀ (p8 : Addr) (w24 : World), Wk.New w32 (.cells #[(.int .i64 0), (.slice none 0 0)] T.api_Flat) p8 w24 → (∀ w31, Wk.Drawn w24 w31 → ∀ (p9 : Addr) (w25 : World), Wk.New w31 (.cells #[(.int .i64 0), (.slice none 0 0)] T.api_Flat) p9 w25 → (∀ w30, Wk.Drawn w25 w30 → Wk.Soft w30 p9 2 ∧ ∀ w26, w26 = Wk.setCellsAt w30 p9 [(.int .i64 x25), (.slice A15 n15 c15)] → (Wk.Keep X1 w5 w26 ∧ (∀ w29, Wk.Drawn w26 w29 → Wk.Soft w29 p8 2 ∧ ∀ w27, w27 = Wk.setCellsAt w29 p8 [(.int .i64 x27), (.slice A16 n16 c16)] → (∀ w28, Wk.Drawn w27 w28 → ((vc_euf_follows_J6 K p3 p1) p9 p8 w28))))))))) ∧ (¬ (x13 = 5) → (K false w5)))))))))))))))))
def vc_euf_follows (A1 : Option Addr) (n1 : Nat) (c1 : Nat) (A2 : Option Addr) (n2 : Nat) (c2 : Nat) (A3 : Option Addr) (n3 : Nat) (c3 : Nat) (x1 : Int) (K : Bool → World → Prop) (w : World) : Prop :=
  ∀ (p1 : Addr) (w1 : World), Wk.New w (.cells #[(.slice A3 n3 c3)] T.sl_api_Link) p1 w1 → (∀ (p2 : Addr) (w2 : World), Wk.New w1 (.cells #[(.int .i64 x1)] T.int) p2 w2 → (∃ A4 : Option Addr, ∃ n4 : Nat, ∃ c4 : Nat, w2.cell? p1 = some (.slice A4 n4 c4) ∧ ∃ x2 : Int, w2.cell? p2 = some (.int .i64 x2) ∧ 0 ≤ x2 ∧ x2 < (n4 : Int) ∧ ∃ a1, A4 = some a1 ∧ ∃ x3 : Int, ∃ x4 : Int, ∃ x5 : Int, ∃ x6 : Int, ∃ A5 : Option Addr, ∃ n5 : Nat, ∃ c5 : Nat, Wk.CellsAt w2 (a1.add (x2.toNat * 5)) [(.int .i64 x3), (.int .i64 x4), (.int .i64 x5), (.int .i64 x6), (.slice A5 n5 c5)] ∧ ∀ (p3 : Addr) (w3 : World), Wk.New w2 (.cells #[(.int .i64 0), (.int .i64 0), (.int .i64 0), (.int .i64 0), (.slice none 0 0)] T.api_Link) p3 w3 → (Wk.Soft w3 p3 5 ∧ ∀ w4, w4 = Wk.setCellsAt w3 p3 [(.int .i64 x3), (.int .i64 x4), (.int .i64 x5), (.int .i64 x6), (.slice A5 n5 c5)] → (∃ x7 : Int, w4.cell? (p3.add 1) = some (.int .i64 x7) ∧ (x7 < 0 → ((vc_euf_follows_J7 K w4 p3 p2 A2 n2 c2 p1 n1 A1) true)) ∧ (¬ (x7 < 0) → (∃ x8 : Int, w4.cell? (p3.add 2) = some (.int .i64 x8) ∧ (x8 < 0 → ((vc_euf_follows_J7 K w4 p3 p2 A2 n2 c2 p1 n1 A1) true)) ∧ (¬ (x8 < 0) → (∃ x9 : Int, w4.cell? (p3.add 1) = some (.int .i64 x9) ∧ ((n1 : Int) ≤ x9 → ((vc_euf_follows_J7 K w4 p3 p2 A2 n2 c2 p1 n1 A1) true)) ∧ (¬ ((n1 : Int) ≤ x9) → (∃ x10 : Int, w4.cell? (p3.add 2) = some (.int .i64 x10) ∧ (vc_euf_follows_J7 K w4 p3 p2 A2 n2 c2 p1 n1 A1) (decide ((n1 : Int) ≤ x10))))))))))))
set_option maxHeartbeats 2000000 in
set_option maxRecDepth 20000 in
theorem ok_euf_follows (A1 : Option Addr) (n1 : Nat) (c1 : Nat) (A2 : Option Addr) (n2 : Nat) (c2 : Nat) (A3 : Option Addr) (n3 : Nat) (c3 : Nat) (x1 : Int) (K : Bool → World → Prop) (w : World) (H : vc_euf_follows A1 n1 c1 A2 n2 c2 A3 n3 c3 x1 K w) : Calls P F.euf_follows #[(.slice A1 n1 c1), (.slice A2 n2 c2), (.slice A3 n3 c3), (.int .i64 x1)] w (Wk.Ret fun v w' => ∃ b1 : Bool, v = (.bool b1) ∧ K b1 w') := by
  unfold vc_euf_follows at H
  refine Wk.calls_of (P := P) Try.func14 rfl [(0, (.slice A1 n1 c1)), (1, (.slice A2 n2 c2)), (2, (.slice A3 n3 c3)), (3, (.int .i64 x1))] 184 rfl rfl (fun p hp => by simp only [List.mem_cons, List.not_mem_nil, or_false] at hp; rcases hp with rfl | rfl | rfl | rfl <;> rfl) ?_
  refine Wk.cw_seq ?_
  refine Wk.cw_region ?_
  refine Wk.sl_new (f := (fun p => .pointer (some p))) rfl rfl (Wk.wanted_none rfl) (fun a ha => Wk.x_box (ha.ev rfl) Wk.i_box) ?_
  intro p1 w1 hN; replace H := H _ _ hN
  refine Wk.sl_new (f := (fun p => .pointer (some p))) rfl rfl (Wk.wanted_none rfl) (fun a ha => Wk.x_box (ha.ev rfl) Wk.i_box) ?_
  intro p2 w2 hN; replace H := H _ _ hN
  refine Wk.sl_v rfl rfl (Wk.wanted_none rfl) (fun a ha => Wk.x_assign (ha.ev rfl)) ?_
  refine Wk.sl_nil ?_
  refine Wk.nx_code (Wk.cw_sub (e' := [(0, (.slice A1 n1 c1)), (1, (.slice A2 n2 c2)), (6, (.pointer (some p1))), (7, (.pointer (some p2)))]) (Wk.sub.cons rfl (Wk.sub.cons rfl (Wk.sub.cons rfl (Wk.sub.cons rfl (Wk.sub.nil))))) ?_)
  refine Wk.cw_seq ?_
  refine Wk.cw_region ?_
  obtain ⟨A4, n4, c4, h3, H⟩ := H
  refine Wk.sl_v rfl rfl (Wk.wanted_none rfl) (fun a ha => Wk.x_load (ha.ev rfl) (Wk.i_load1 TF.agg_sl_api_Link h3)) ?_
  obtain ⟨x2, h4, H⟩ := H
  refine Wk.sl_v rfl rfl (Wk.wanted_none rfl) (fun a ha => Wk.x_load (ha.ev rfl) (Wk.i_load1 TF.agg_int h4)) ?_
  obtain ⟨h5, h6, a1, e1, H⟩ := H
  refine Wk.sl_v rfl rfl (Wk.wanted_none rfl) (fun a ha => Wk.x_indexAddr (ha.ev rfl) (ha.ev rfl) (Wk.i_index TF.elem_sl_api_Link TF.size_api_Link e1 h5 h6)) ?_
  obtain ⟨x3, x4, x5, x6, A5, n5, c5, h7, H⟩ := H
  refine Wk.sl_v rfl rfl (Wk.wanted_none rfl) (fun a ha => Wk.x_load (ha.ev rfl) (Wk.i_loadN (vs := [(.int .i64 x3), (.int .i64 x4), (.int .i64 x5), (.int .i64 x6), (.slice A5 n5 c5)]) TF.agg_api_Link TF.size_api_Link h7)) ?_
  refine Wk.sl_new (f := (fun p => .pointer (some p))) rfl rfl (Wk.wanted_none rfl) (fun a ha => Wk.x_alloc (Wk.i_alloc TF.zero_api_Link)) ?_
  intro p3 w3 hN; replace H := H _ _ hN
  obtain ⟨h9, H⟩ := H
  refine Wk.sl_un rfl (Wk.wanted_none rfl) (fun a ha => Wk.x_store (ha.ev rfl) (ha.ev rfl) (Wk.i_storeN TF.size_api_Link (by simp [Value.oneCell']) h9)) ?_
  intro w4 hw; replace H := H _ hw; clear hw
  refine Wk.sl_nil ?_
  refine Wk.nx_code (Wk.cw_sub (e' := [(0, (.slice A1 n1 c1)), (1, (.slice A2 n2 c2)), (6, (.pointer (some p1))), (7, (.pointer (some p2))), (9, (.pointer (some p3)))]) (Wk.sub.cons rfl (Wk.sub.cons rfl (Wk.sub.cons rfl (Wk.sub.cons rfl (Wk.sub.cons rfl (Wk.sub.nil)))))) ?_)
  refine Wk.cw_seq ?_
  refine Wk.cw_join_still (fun a => ∃ b2 : Bool, Wk.Ok 184 [(0, (.slice A1 n1 c1)), (1, (.slice A2 n2 c2)), (6, (.pointer (some p1))), (7, (.pointer (some p2))), (9, (.pointer (some p3))), (39, (.bool b2))] a ∧ vc_euf_follows_J7 K w4 p3 p2 A2 n2 c2 p1 n1 A1 b2) ?_ ?_
  · rintro a ⟨b2, ha, H⟩
    unfold vc_euf_follows_J7 at H
    refine (?_ : Wk.CW _ _ _ 184 [(0, (.slice A1 n1 c1)), (1, (.slice A2 n2 c2)), (6, (.pointer (some p1))), (7, (.pointer (some p2))), (9, (.pointer (some p3))), (39, (.bool b2))] _) a ha
    refine Wk.cw_cond rfl (fun hb => ?_) (fun hb => ?_)
    · replace H := H.1 hb
      refine Wk.cw_seq ?_
      refine Wk.cw_region ?_
      refine Wk.sl_v rfl rfl (Wk.wanted_none rfl) (fun a ha => Wk.x_assign (ha.ev rfl)) ?_
      refine Wk.sl_nil ?_
      refine Wk.nx_code (Wk.cw_sub (e' := [(8, (.bool false))]) (Wk.sub.cons rfl (Wk.sub.nil)) ?_)
      refine Wk.cw_ret ?_
      refine Wk.nx_ret_then ?_
      exact Wk.nx_body_ret (Wk.res1 rfl rfl) ⟨_, rfl, _, rfl, H⟩
    · replace H := H.2 hb
      refine Wk.cw_skip ?_
      refine Wk.nx_code (Wk.cw_sub (e' := [(0, (.slice A1 n1 c1)), (1, (.slice A2 n2 c2)), (6, (.pointer (some p1))), (7, (.pointer (some p2))), (9, (.pointer (some p3)))]) (Wk.sub.cons rfl (Wk.sub.cons rfl (Wk.sub.cons rfl (Wk.sub.cons rfl (Wk.sub.cons rfl (Wk.sub.nil)))))) ?_)
      refine Wk.cw_seq ?_
      refine Wk.cw_seq ?_
      refine Wk.cw_region ?_
      refine Wk.sl_v rfl rfl (Wk.wanted_none rfl) (fun a ha => Wk.x_fieldAddr (ha.ev rfl) (TF.fld_api_Link_4 _ _)) ?_
      obtain ⟨A6, n6, c6, h14, H⟩ := H
      refine Wk.sl_v rfl rfl (Wk.wanted_none rfl) (fun a ha => Wk.x_load (ha.ev rfl) (Wk.i_load1 TF.agg_sl_int h14)) ?_
      refine Wk.sl_v rfl rfl (Wk.wanted_none rfl) (fun a ha => Wk.x_makeFunc (ha.evs rfl) (ha.evs rfl)) ?_
      refine Wk.sl_call rfl rfl (Wk.wanted_none rfl) (fun a ha => Wk.x_call0 (ha.ev rfl) (ha.evs rfl) FF.callable_slices_ContainsFunc_sl_int_int) H ?_
      rintro _ w5 ⟨b3, rfl, H⟩
      refine Wk.sl_nil ?_
      refine Wk.nx_code (Wk.cw_sub (e' := [(0, (.slice A1 n1 c1)), (1, (.slice A2 n2 c2)), (6, (.pointer (some p1))), (9, (.pointer (some p3))), (43, (.bool b3))]) (Wk.sub.cons rfl (Wk.sub.cons rfl (Wk.sub.cons rfl (Wk.sub.cons rfl (Wk.sub.cons rfl (Wk.sub.nil)))))) ?_)
      refine Wk.cw_cond rfl (fun hb => ?_) (fun hb => ?_)
      · replace H := H.1 hb
        refine Wk.cw_seq ?_
        refine Wk.cw_region ?_
        refine Wk.sl_v rfl rfl (Wk.wanted_none rfl) (fun a ha => Wk.x_assign (ha.ev rfl)) ?_
        refine Wk.sl_nil ?_
        refine Wk.nx_code (Wk.cw_sub (e' := [(8, (.bool false))]) (Wk.sub.cons rfl (Wk.sub.nil)) ?_)
        refine Wk.cw_ret ?_
        refine Wk.nx_ret_then ?_
        exact Wk.nx_body_ret (Wk.res1 rfl rfl) ⟨_, rfl, _, rfl, H⟩
      · replace H := H.2 hb
        refine Wk.cw_skip ?_
        refine Wk.nx_code (Wk.cw_sub (e' := [(0, (.slice A1 n1 c1)), (1, (.slice A2 n2 c2)), (6, (.pointer (some p1))), (9, (.pointer (some p3)))]) (Wk.sub.cons rfl (Wk.sub.cons rfl (Wk.sub.cons rfl (Wk.sub.cons rfl (Wk.sub.nil))))) ?_)
        refine Wk.cw_seq ?_
        refine Wk.cw_region ?_
        refine Wk.sl_v rfl rfl (Wk.wanted_none rfl) (fun a ha => Wk.x_makeFunc (ha.evs rfl) (ha.evs rfl)) ?_
        refine Wk.sl_v rfl rfl (Wk.wanted_none rfl) (fun a ha => Wk.x_assign (ha.ev rfl)) ?_
        refine Wk.sl_nil ?_
        refine Wk.nx_code (Wk.cw_sub (e' := [(0, (.slice A1 n1 c1)), (1, (.slice A2 n2 c2)), (6, (.pointer (some p1))), (9, (.pointer (some p3))), (10, (.func (.func F.euf_follows_2) #[] #[(.pointer (some p1)), (.pointer (some p3))]))]) (Wk.sub.cons rfl (Wk.sub.cons rfl (Wk.sub.cons rfl (Wk.sub.cons rfl (Wk.sub.cons rfl (Wk.sub.nil)))))) ?_)
        refine Wk.cw_seq ?_
        refine Wk.cw_seq ?_
        refine Wk.cw_region ?_
        refine Wk.sl_v rfl rfl (Wk.wanted_none rfl) (fun a ha => Wk.x_fieldAddr (ha.ev rfl) (TF.fld_api_Link_0 _ _)) ?_
        obtain ⟨x11, h15, H⟩ := H
        refine Wk.sl_v rfl rfl (Wk.wanted_none rfl) (fun a ha => Wk.x_load (ha.ev rfl) (Wk.i_load1 TF.agg_int h15)) ?_
        refine Wk.sl_v rfl rfl (Wk.wanted_none rfl) (fun a ha => Wk.x_binOp (ha.ev rfl) (ha.ev rfl) Wk.o_eql) ?_
        refine Wk.sl_nil ?_
        refine Wk.nx_code (Wk.cw_sub (e' := [(0, (.slice A1 n1 c1)), (1, (.slice A2 n2 c2)), (6, (.pointer (some p1))), (9, (.pointer (some p3))), (10, (.func (.func F.euf_follows_2) #[] #[(.pointer (some p1)), (.pointer (some p3))])), (47, (.bool (decide (x11 = 1))))]) (Wk.sub.cons rfl (Wk.sub.cons rfl (Wk.sub.cons rfl (Wk.sub.cons rfl (Wk.sub.cons rfl (Wk.sub.cons rfl (Wk.sub.nil))))))) ?_)
        refine Wk.cw_cond_p rfl (fun hb => ?_) (fun hb => ?_)
        · replace H := H.1 hb
          refine Wk.cw_join (fun a w => ∃ b5 : Bool, Wk.Ok 184 [(8, (.bool b5))] a ∧ vc_euf_follows_J1 K b5 w) ?_ ?_
          · rintro a w7 ⟨b5, ha, H⟩
            unfold vc_euf_follows_J1 at H
            refine (?_ : Wk.CW _ _ _ 184 [(8, (.bool b5))] _) a ha
            refine Wk.cw_ret ?_
            refine Wk.nx_ret_then ?_
            exact Wk.nx_body_ret (Wk.res1 rfl rfl) ⟨_, rfl, _, rfl, H⟩
          · refine Wk.cw_region ?_
            refine Wk.sl_v rfl rfl (Wk.wanted_none rfl) (fun a ha => Wk.x_fieldAddr (ha.ev rfl) (TF.fld_api_Link_4 _ _)) ?_
            obtain ⟨A7, n7, c7, h16, H⟩ := H
            refine Wk.sl_v rfl rfl (Wk.wanted_none rfl) (fun a ha => Wk.x_load (ha.ev rfl) (Wk.i_load1 TF.agg_sl_int h16)) ?_
            refine Wk.sl_v rfl rfl (Wk.wanted_none rfl) (fun a ha => Wk.x_builtin (ha.evs rfl) (fun _ => Wk.l_slice TF.isslice_sl_int)) ?_
            refine Wk.sl_v rfl rfl (Wk.wanted_none rfl) (fun a ha => Wk.x_binOp (ha.ev rfl) (ha.ev rfl) Wk.o_eql) ?_
            rcases Classical.em ((n7 : Int) = 0) with hb | hb
            · replace H := H.1 hb
              refine Wk.sl_v rfl rfl (Wk.wanted_none rfl) (fun a ha => Wk.o_t (Wk.x_move (ha.ev rfl)) hb) ?_
              refine Wk.sl_v rfl rfl (Wk.wanted_some rfl rfl rfl) (fun a ha => Wk.x_move (ha.ev rfl)) ?_
              refine Wk.sl_v rfl rfl (Wk.wanted_some rfl rfl rfl) (fun a ha => Wk.x_makeFunc (ha.evs rfl) (ha.evs rfl)) ?_
              refine Wk.sl_call rfl rfl (Wk.wanted_some rfl rfl rfl) (fun a ha => Wk.x_call0 (ha.ev rfl) (ha.evs rfl) FF.callable_slices_ContainsFunc_sl_api_Link_api_Link) H ?_
              rintro _ w6 ⟨b4, rfl, H⟩
              refine Wk.sl_v rfl rfl (Wk.wanted_none rfl) (fun a ha => Wk.x_pick_t (ha.ev rfl) (ha.ev rfl)) ?_
              refine Wk.sl_v rfl rfl (Wk.wanted_none rfl) (fun a ha => Wk.x_assign (ha.ev rfl)) ?_
              refine Wk.sl_nil ?_
              exact Wk.nx_to fun a ha => ⟨b4, ha.weaken (Wk.sub.cons rfl (Wk.sub.nil)), H⟩
            · replace H := H.2 hb
              refine Wk.sl_v rfl rfl (Wk.wanted_none rfl) (fun a ha => Wk.o_f (Wk.x_move (ha.ev rfl)) hb) ?_
              refine Wk.sl_skip rfl rfl (Wk.wanted_not rfl rfl rfl rfl) ?_
              refine Wk.sl_skip rfl rfl (Wk.wanted_not rfl rfl rfl rfl) ?_
              refine Wk.sl_skip rfl rfl (Wk.wanted_not rfl rfl rfl rfl) ?_
              refine Wk.sl_v rfl rfl (Wk.wanted_none rfl) (fun a ha => Wk.x_pick_f (ha.ev rfl) (ha.ev rfl)) ?_
              refine Wk.sl_v rfl rfl (Wk.wanted_none rfl) (fun a ha => Wk.x_assign (ha.ev rfl)) ?_
              refine Wk.sl_nil ?_
              exact Wk.nx_to fun a ha => ⟨false, ha.weaken (Wk.sub.cons rfl (Wk.sub.nil)), H⟩
        · replace H := H.2 hb
          refine Wk.cw_skip ?_
          refine Wk.nx_code (Wk.cw_sub (e' := [(0, (.slice A1 n1 c1)), (6, (.pointer (some p1))), (9, (.pointer (some p3))), (10, (.func (.func F.euf_follows_2) #[] #[(.pointer (some p1)), (.pointer (some p3))]))]) (Wk.sub.cons rfl (Wk.sub.cons rfl (Wk.sub.cons rfl (Wk.sub.cons rfl (Wk.sub.nil))))) ?_)
          refine Wk.cw_seq ?_
          refine Wk.cw_seq ?_
          refine Wk.cw_region ?_
          refine Wk.sl_v rfl rfl (Wk.wanted_none rfl) (fun a ha => Wk.x_fieldAddr (ha.ev rfl) (TF.fld_api_Link_3 _ _)) ?_
          obtain ⟨x12, h17, H⟩ := H
          refine Wk.sl_v rfl rfl (Wk.wanted_none rfl) (fun a ha => Wk.x_load (ha.ev rfl) (Wk.i_load1 TF.agg_int h17)) ?_
          refine Wk.sl_v rfl rfl (Wk.wanted_none rfl) (fun a ha => Wk.x_binOp (ha.ev rfl) (ha.ev rfl) Wk.o_neq) ?_
          refine Wk.sl_nil ?_
          refine Wk.nx_code (Wk.cw_sub (e' := [(0, (.slice A1 n1 c1)), (6, (.pointer (some p1))), (9, (.pointer (some p3))), (10, (.func (.func F.euf_follows_2) #[] #[(.pointer (some p1)), (.pointer (some p3))])), (59, (.bool (decide (x12 ≠ 0))))]) (Wk.sub.cons rfl (Wk.sub.cons rfl (Wk.sub.cons rfl (Wk.sub.cons rfl (Wk.sub.cons rfl (Wk.sub.nil)))))) ?_)
          refine Wk.cw_cond_p rfl (fun hb => ?_) (fun hb => ?_)
          · replace H := H.1 hb
            refine Wk.cw_seq ?_
            refine Wk.cw_region ?_
            refine Wk.sl_v rfl rfl (Wk.wanted_none rfl) (fun a ha => Wk.x_assign (ha.ev rfl)) ?_
            refine Wk.sl_nil ?_
            refine Wk.nx_code (Wk.cw_sub (e' := [(8, (.bool false))]) (Wk.sub.cons rfl (Wk.sub.nil)) ?_)
            refine Wk.cw_ret ?_
            refine Wk.nx_ret_then ?_
            exact Wk.nx_body_ret (Wk.res1 rfl rfl) ⟨_, rfl, _, rfl, H⟩
          · replace H := H.2 hb
            refine Wk.cw_skip ?_
            refine Wk.nx_code (Wk.cw_sub (e' := [(0, (.slice A1 n1 c1)), (6, (.pointer (some p1))), (9, (.pointer (some p3))), (10, (.func (.func F.euf_follows_2) #[] #[(.pointer (some p1)), (.pointer (some p3))]))]) (Wk.sub.cons rfl (Wk.sub.cons rfl (Wk.sub.cons rfl (Wk.sub.cons rfl (Wk.sub.nil))))) ?_)
            refine Wk.cw_seq ?_
            refine Wk.cw_seq ?_
            refine Wk.cw_region ?_
            refine Wk.sl_v rfl rfl (Wk.wanted_none rfl) (fun a ha => Wk.x_fieldAddr (ha.ev rfl) (TF.fld_api_Link_0 _ _)) ?_
            obtain ⟨x13, h18, H⟩ := H
            refine Wk.sl_v rfl rfl (Wk.wanted_none rfl) (fun a ha => Wk.x_load (ha.ev rfl) (Wk.i_load1 TF.agg_int h18)) ?_
            refine Wk.sl_nil ?_
            refine Wk.nx_code (Wk.cw_sub (e' := [(0, (.slice A1 n1 c1)), (6, (.pointer (some p1))), (9, (.pointer (some p3))), (10, (.func (.func F.euf_follows_2) #[] #[(.pointer (some p1)), (.pointer (some p3))])), (61, (.int .i64 x13))]) (Wk.sub.cons rfl (Wk.sub.cons rfl (Wk.sub.cons rfl (Wk.sub.cons rfl (Wk.sub.cons rfl (Wk.sub.nil)))))) ?_)
            refine Wk.cw_block ?_
            refine Wk.cw_seq ?_
            refine Wk.cw_region ?_
            refine Wk.sl_v rfl rfl (Wk.wanted_none rfl) (fun a ha => Wk.x_binOp (ha.ev rfl) (ha.ev rfl) Wk.o_eql) ?_
            refine Wk.sl_v rfl rfl (Wk.wanted_none rfl) (fun a ha => Wk.x_assign (ha.ev rfl)) ?_
            refine Wk.sl_nil ?_
            refine Wk.nx_code (Wk.cw_sub (e' := [(0, (.slice A1 n1 c1)), (6, (.pointer (some p1))), (9, (.pointer (some p3))), (10, (.func (.func F.euf_follows_2) #[] #[(.pointer (some p1)), (.pointer (some p3))])), (61, (.int .i64 x13)), (62, (.bool (decide (x13 = 2))))]) (Wk.sub.cons rfl (Wk.sub.cons rfl (Wk.sub.cons rfl (Wk.sub.cons rfl (Wk.sub.cons rfl (Wk.sub.cons rfl (Wk.sub.nil))))))) ?_)
            refine Wk.cw_cond_p rfl (fun hb => ?_) (fun hb => ?_)
            · replace H := H.1 hb
              refine Wk.cw_join_still (fun a => ∃ b6 : Bool, Wk.Ok 184 [(8, (.bool b6))] a ∧ vc_euf_follows_J2 K w5 b6) ?_ ?_
              · rintro a ⟨b6, ha, H⟩
                unfold vc_euf_follows_J2 at H
                refine (?_ : Wk.CW _ _ _ 184 [(8, (.bool b6))] _) a ha
                refine Wk.cw_ret ?_
                refine Wk.nx_ret_block ?_
                refine Wk.nx_ret_then ?_
                exact Wk.nx_body_ret (Wk.res1 rfl rfl) ⟨_, rfl, _, rfl, H⟩
              · refine Wk.cw_region ?_
                refine Wk.sl_v rfl rfl (Wk.wanted_none rfl) (fun a ha => Wk.x_fieldAddr (ha.ev rfl) (TF.fld_api_Link_4 _ _)) ?_
                obtain ⟨A8, n8, c8, h19, H⟩ := H
                refine Wk.sl_v rfl rfl (Wk.wanted_none rfl) (fun a ha => Wk.x_load (ha.ev rfl) (Wk.i_load1 TF.agg_sl_int h19)) ?_
                refine Wk.sl_v rfl rfl (Wk.wanted_none rfl) (fun a ha => Wk.x_builtin (ha.evs rfl) (fun _ => Wk.l_slice TF.isslice_sl_int)) ?_
                refine Wk.sl_v rfl rfl (Wk.wanted_none rfl) (fun a ha => Wk.x_binOp (ha.ev rfl) (ha.ev rfl) Wk.o_eql) ?_
                rcases Classical.em ((n8 : Int) = 0) with hb | hb
                · replace H := H.1 hb
                  refine Wk.sl_v rfl rfl (Wk.wanted_none rfl) (fun a ha => Wk.o_t (Wk.x_move (ha.ev rfl)) hb) ?_
                  refine Wk.sl_v rfl rfl (Wk.wanted_some rfl rfl rfl) (fun a ha => Wk.x_fieldAddr (ha.ev rfl) (TF.fld_api_Link_1 _ _)) ?_
                  obtain ⟨x14, h20, H⟩ := H
                  refine Wk.sl_v rfl rfl (Wk.wanted_some rfl rfl rfl) (fun a ha => Wk.x_load (ha.ev rfl) (Wk.i_load1 TF.agg_int h20)) ?_
                  refine Wk.sl_v rfl rfl (Wk.wanted_some rfl rfl rfl) (fun a ha => Wk.x_fieldAddr (ha.ev rfl) (TF.fld_api_Link_2 _ _)) ?_
                  obtain ⟨x15, h21, H⟩ := H
                  refine Wk.sl_v rfl rfl (Wk.wanted_some rfl rfl rfl) (fun a ha => Wk.x_load (ha.ev rfl) (Wk.i_load1 TF.agg_int h21)) ?_
                  refine Wk.sl_v rfl rfl (Wk.wanted_some rfl rfl rfl) (fun a ha => Wk.x_binOp (ha.ev rfl) (ha.ev rfl) Wk.o_eql) ?_
                  refine Wk.sl_v rfl rfl (Wk.wanted_none rfl) (fun a ha => Wk.x_pick_t (ha.ev rfl) (ha.ev rfl)) ?_
                  refine Wk.sl_v rfl rfl (Wk.wanted_none rfl) (fun a ha => Wk.x_assign (ha.ev rfl)) ?_
                  refine Wk.sl_nil ?_
                  exact Wk.nx_to fun a ha => ⟨⟨(decide (x14 = x15)), ha.weaken (Wk.sub.cons rfl (Wk.sub.nil)), H⟩, rfl⟩
                · replace H := H.2 hb
                  refine Wk.sl_v rfl rfl (Wk.wanted_none rfl) (fun a ha => Wk.o_f (Wk.x_move (ha.ev rfl)) hb) ?_
                  refine Wk.sl_skip rfl rfl (Wk.wanted_not rfl rfl rfl rfl) ?_
                  refine Wk.sl_skip rfl rfl (Wk.wanted_not rfl rfl rfl rfl) ?_
                  refine Wk.sl_skip rfl rfl (Wk.wanted_not rfl rfl rfl rfl) ?_
                  refine Wk.sl_skip rfl rfl (Wk.wanted_not rfl rfl rfl rfl) ?_
                  refine Wk.sl_skip rfl rfl (Wk.wanted_not rfl rfl rfl rfl) ?_
                  refine Wk.sl_v rfl rfl (Wk.wanted_none rfl) (fun a ha => Wk.x_pick_f (ha.ev rfl) (ha.ev rfl)) ?_
                  refine Wk.sl_v rfl rfl (Wk.wanted_none rfl) (fun a ha => Wk.x_assign (ha.ev rfl)) ?_
                  refine Wk.sl_nil ?_
                  exact Wk.nx_to fun a ha => ⟨⟨false, ha.weaken (Wk.sub.cons rfl (Wk.sub.nil)), H⟩, rfl⟩
            · replace H := H.2 hb
              refine Wk.cw_seq ?_
              refine Wk.cw_region ?_
              refine Wk.sl_v rfl rfl (Wk.wanted_none rfl) (fun a ha => Wk.x_binOp (ha.ev rfl) (ha.ev rfl) Wk.o_eql) ?_
              refine Wk.sl_v rfl rfl (Wk.wanted_none rfl) (fun a ha => Wk.x_assign (ha.ev rfl)) ?_
              refine Wk.sl_nil ?_
              refine Wk.nx_code (Wk.cw_sub (e' := [(0, (.slice A1 n1 c1)), (6, (.pointer (some p1))), (9, (.pointer (some p3))), (10, (.func (.func F.euf_follows_2) #[] #[(.pointer (some p1)), (.pointer (some p3))])), (61, (.int .i64 x13)), (75, (.bool (decide (x13 = 3))))]) (Wk.sub.cons rfl (Wk.sub.cons rfl (Wk.sub.cons rfl (Wk.sub.cons rfl (Wk.sub.cons rfl (Wk.sub.cons rfl (Wk.sub.nil))))))) ?_)
              refine Wk.cw_cond_p rfl (fun hb => ?_) (fun hb => ?_)
              · replace H := H.1 hb
                refine Wk.cw_join (fun a w => ∃ b8 : Bool, Wk.Ok 184 [(8, (.bool b8))] a ∧ vc_euf_follows_J3 K b8 w) ?_ ?_
                · rintro a w9 ⟨b8, ha, H⟩
                  unfold vc_euf_follows_J3 at H
                  refine (?_ : Wk.CW _ _ _ 184 [(8, (.bool b8))] _) a ha
                  refine Wk.cw_ret ?_
                  refine Wk.nx_ret_block ?_
                  refine Wk.nx_ret_then ?_
                  exact Wk.nx_body_ret (Wk.res1 rfl rfl) ⟨_, rfl, _, rfl, H⟩
                · refine Wk.cw_region ?_
                  refine Wk.sl_v rfl rfl (Wk.wanted_none rfl) (fun a ha => Wk.x_fieldAddr (ha.ev rfl) (TF.fld_api_Link_4 _ _)) ?_
                  obtain ⟨A9, n9, c9, h22, H⟩ := H
                  refine Wk.sl_v rfl rfl (Wk.wanted_none rfl) (fun a ha => Wk.x_load (ha.ev rfl) (Wk.i_load1 TF.agg_sl_int h22)) ?_
                  refine Wk.sl_v rfl rfl (Wk.wanted_none rfl) (fun a ha => Wk.x_builtin (ha.evs rfl) (fun _ => Wk.l_slice TF.isslice_sl_int)) ?_
                  refine Wk.sl_v rfl rfl (Wk.wanted_none rfl) (fun a ha => Wk.x_binOp (ha.ev rfl) (ha.ev rfl) Wk.o_eql) ?_
                  rcases Classical.em ((n9 : Int) = 1) with hb | hb
                  · replace H := H.1 hb
                    refine Wk.sl_v rfl rfl (Wk.wanted_none rfl) (fun a ha => Wk.o_t (Wk.x_move (ha.ev rfl)) hb) ?_
                    refine Wk.sl_v rfl rfl (Wk.wanted_some rfl rfl rfl) (fun a ha => Wk.x_move (ha.ev rfl)) ?_
                    refine Wk.sl_v rfl rfl (Wk.wanted_some rfl rfl rfl) (fun a ha => Wk.x_fieldAddr (ha.ev rfl) (TF.fld_api_Link_2 _ _)) ?_
                    obtain ⟨x16, h23, H⟩ := H
                    refine Wk.sl_v rfl rfl (Wk.wanted_some rfl rfl rfl) (fun a ha => Wk.x_load (ha.ev rfl) (Wk.i_load1 TF.agg_int h23)) ?_
                    refine Wk.sl_v rfl rfl (Wk.wanted_some rfl rfl rfl) (fun a ha => Wk.x_fieldAddr (ha.ev rfl) (TF.fld_api_Link_1 _ _)) ?_
                    obtain ⟨x17, h24, H⟩ := H
                    refine Wk.sl_v rfl rfl (Wk.wanted_some rfl rfl rfl) (fun a ha => Wk.x_load (ha.ev rfl) (Wk.i_load1 TF.agg_int h24)) ?_
                    refine Wk.sl_call rfl rfl (Wk.wanted_some rfl rfl rfl) (fun a ha => Wk.x_callc (xs' := [(.int .i64 0), (.int .i64 x16), (.int .i64 x17), (.pointer (some p1)), (.pointer (some p3))]) (ha.ev rfl) (ha.evs rfl) rfl FF.callable_euf_follows_2) H ?_
                    rintro _ w8 ⟨b7, rfl, H⟩
                    refine Wk.sl_v rfl rfl (Wk.wanted_none rfl) (fun a ha => Wk.x_pick_t (ha.ev rfl) (ha.ev rfl)) ?_
                    refine Wk.sl_v rfl rfl (Wk.wanted_none rfl) (fun a ha => Wk.x_assign (ha.ev rfl)) ?_
                    refine Wk.sl_nil ?_
                    exact Wk.nx_to fun a ha => ⟨b7, ha.weaken (Wk.sub.cons rfl (Wk.sub.nil)), H⟩
                  · replace H := H.2 hb
                    refine Wk.sl_v rfl rfl (Wk.wanted_none rfl) (fun a ha => Wk.o_f (Wk.x_move (ha.ev rfl)) hb) ?_
                    refine Wk.sl_skip rfl rfl (Wk.wanted_not rfl rfl rfl rfl) ?_
                    refine Wk.sl_skip rfl rfl (Wk.wanted_not rfl rfl rfl rfl) ?_
                    refine Wk.sl_skip rfl rfl (Wk.wanted_not rfl rfl rfl rfl) ?_
                    refine Wk.sl_skip rfl rfl (Wk.wanted_not rfl rfl rfl rfl) ?_
                    refine Wk.sl_skip rfl rfl (Wk.wanted_not rfl rfl rfl rfl) ?_
                    refine Wk.sl_skip rfl rfl (Wk.wanted_not rfl rfl rfl rfl) ?_
                    refine Wk.sl_v rfl rfl (Wk.wanted_none rfl) (fun a ha => Wk.x_pick_f (ha.ev rfl) (ha.ev rfl)) ?_
                    refine Wk.sl_v rfl rfl (Wk.wanted_none rfl) (fun a ha => Wk.x_assign (ha.ev rfl)) ?_
                    refine Wk.sl_nil ?_
                    exact Wk.nx_to fun a ha => ⟨false, ha.weaken (Wk.sub.cons rfl (Wk.sub.nil)), H⟩
              · replace H := H.2 hb
                refine Wk.cw_seq ?_
                refine Wk.cw_region ?_
                refine Wk.sl_v rfl rfl (Wk.wanted_none rfl) (fun a ha => Wk.x_binOp (ha.ev rfl) (ha.ev rfl) Wk.o_eql) ?_
                refine Wk.sl_v rfl rfl (Wk.wanted_none rfl) (fun a ha => Wk.x_assign (ha.ev rfl)) ?_
                refine Wk.sl_nil ?_
                refine Wk.nx_code (Wk.cw_sub (e' := [(0, (.slice A1 n1 c1)), (6, (.pointer (some p1))), (9, (.pointer (some p3))), (10, (.func (.func F.euf_follows_2) #[] #[(.pointer (some p1)), (.pointer (some p3))])), (61, (.int .i64 x13)), (89, (.bool (decide (x13 = 4))))]) (Wk.sub.cons rfl (Wk.sub.cons rfl (Wk.sub.cons rfl (Wk.sub.cons rfl (Wk.sub.cons rfl (Wk.sub.cons rfl (Wk.sub.nil))))))) ?_)
                refine Wk.cw_cond_p rfl (fun hb => ?_) (fun hb => ?_)
                · replace H := H.1 hb
                  refine Wk.cw_join (fun a w => ∃ b11 : Bool, Wk.Ok 184 [(8, (.bool b11))] a ∧ vc_euf_follows_J4 K b11 w) ?_ ?_
                  · rintro a w11 ⟨b11, ha, H⟩
                    unfold vc_euf_follows_J4 at H
                    refine (?_ : Wk.CW _ _ _ 184 [(8, (.bool b11))] _) a ha
                    refine Wk.cw_ret ?_
                    refine Wk.nx_ret_block ?_
                    refine Wk.nx_ret_then ?_
                    exact Wk.nx_body_ret (Wk.res1 rfl rfl) ⟨_, rfl, _, rfl, H⟩
                  · refine Wk.cw_any_drawn follows [0, 1, 2, 3, 4, 5, 6, 7, 8, 9, 10, 11, 12, 13, 14, 15, 16, 17, 18, 19, 20, 21, 22, 23, 24, 25, 26, 27, 28, 29, 30, 31, 32] [1, 7, 8, 10, 12, 15, 16, 20, 22, 24, 27, 29, 30] 33 rfl rfl (by kernel_rfl) (fun _ _ d _ _ h => by cases d <;> exact h) (fun cm hW hD => ?_)
                    refine Wk.an_p (i := 0) cm rfl (by kernel_rfl) rfl rfl (Wk.wanted_none rfl) (fun w' a ha => Wk.x_fieldAddr (ha.ev rfl) (TF.fld_api_Link_4 _ _)) rfl ?_
                    intro _ hd; replace hD := hD.trans hd; replace hW := cm.held _ _ hW hd; clear hd
                    obtain ⟨A10, n10, c10, h25, H⟩ := H
                    refine Wk.an_v (i := 1) cm rfl (by kernel_rfl) hW rfl rfl (Wk.wanted_none rfl) (fun w' hw a ha => Wk.x_load (ha.ev rfl) (Wk.i_load1 TF.agg_sl_int ((hw.cell _).trans h25))) rfl ?_
                    intro _ hd hW; replace hD := hD.trans hd; clear hd
                    refine Wk.an_p (i := 2) cm rfl (by kernel_rfl) rfl rfl (Wk.wanted_none rfl) (fun w' a ha => Wk.x_builtin (ha.evs rfl) (fun _ => Wk.l_slice TF.isslice_sl_int)) rfl ?_
                    intro _ hd; replace hD := hD.trans hd; replace hW := cm.held _ _ hW hd; clear hd
                    refine Wk.an_p (i := 3) cm rfl (by kernel_rfl) rfl rfl (Wk.wanted_none rfl) (fun w' a ha => Wk.x_binOp (ha.ev rfl) (ha.ev rfl) Wk.o_eql) rfl ?_
                    intro _ hd; replace hD := hD.trans hd; replace hW := cm.held _ _ hW hd; clear hd
                    rcases Classical.em ((n10 : Int) = 2) with hb | hb
                    · replace H := H.1 hb
                      refine Wk.an_p (i := 4) cm rfl (by kernel_rfl) rfl rfl (Wk.wanted_none rfl) (fun w' a ha => Wk.o_t (Wk.x_move (ha.ev rfl)) hb) rfl ?_
                      intro _ hd; replace hD := hD.trans hd; replace hW := cm.held _ _ hW hd; clear hd
                      refine Wk.an_p (i := 5) cm rfl (by kernel_rfl) rfl rfl (Wk.wanted_some rfl rfl rfl) (fun w' a ha => Wk.x_move (ha.ev rfl)) rfl ?_
                      intro _ hd; replace hD := hD.trans hd; replace hW := cm.held _ _ hW hd; clear hd
                      refine Wk.an_p (i := 6) cm rfl (by kernel_rfl) rfl rfl (Wk.wanted_some rfl rfl rfl) (fun w' a ha => Wk.x_fieldAddr (ha.ev rfl) (TF.fld_api_Link_1 _ _)) rfl ?_
                      intro _ hd; replace hD := hD.trans hd; replace hW := cm.held _ _ hW hd; clear hd
                      obtain ⟨x18, h26, H⟩ := H
                      refine Wk.an_v (i := 7) cm rfl (by kernel_rfl) hW rfl rfl (Wk.wanted_some rfl rfl rfl) (fun w' hw a ha => Wk.x_load (ha.ev rfl) (Wk.i_load1 TF.agg_int ((hw.cell _).trans h26))) rfl ?_
                      intro _ hd hW; replace hD := hD.trans hd; clear hd
                      obtain ⟨A11, n11, c11, h27, H⟩ := H
                      refine Wk.an_v (i := 8) cm rfl (by kernel_rfl) hW rfl rfl (Wk.wanted_some rfl rfl rfl) (fun w' hw a ha => Wk.x_load (ha.ev rfl) (Wk.i_load1 TF.agg_sl_api_Link ((hw.cell _).trans h27))) rfl ?_
                      intro _ hd hW; replace hD := hD.trans hd; clear hd
                      refine Wk.an_p (i := 9) cm rfl (by kernel_rfl) rfl rfl (Wk.wanted_some rfl rfl rfl) (fun w' a ha => Wk.x_fieldAddr (ha.ev rfl) (TF.fld_api_Link_4 _ _)) rfl ?_
                      intro _ hd; replace hD := hD.trans hd; replace hW := cm.held _ _ hW hd; clear hd
                      obtain ⟨A12, n12, c12, h28, H⟩ := H
                      refine Wk.an_v (i := 10) cm rfl (by kernel_rfl) hW rfl rfl (Wk.wanted_some rfl rfl rfl) (fun w' hw a ha => Wk.x_load (ha.ev rfl) (Wk.i_load1 TF.agg_sl_int ((hw.cell _).trans h28))) rfl ?_
                      intro _ hd hW; replace hD := hD.trans hd; clear hd
                      obtain ⟨h29, h30, a2, e2, H⟩ := H
                      refine Wk.an_p (i := 11) cm rfl (by kernel_rfl) rfl rfl (Wk.wanted_some rfl rfl rfl) (fun w' a ha => Wk.x_indexAddr (ha.ev rfl) (ha.ev rfl) (Wk.i_index TF.elem_sl_int TF.size_int e2 h29 h30)) rfl ?_
                      intro _ hd; replace hD := hD.trans hd; replace hW := cm.held _ _ hW hd; clear hd
                      obtain ⟨x19, h31, H⟩ := H
                      refine Wk.an_v (i := 12) cm rfl (by kernel_rfl) hW rfl rfl (Wk.wanted_some rfl rfl rfl) (fun w' hw a ha => Wk.x_load (ha.ev rfl) (Wk.i_load1 TF.agg_int ((hw.cell _).trans h31))) rfl ?_
                      intro _ hd hW; replace hD := hD.trans hd; clear hd
                      obtain ⟨h32, h33, a3, e3, H⟩ := H
                      refine Wk.an_p (i := 13) cm rfl (by kernel_rfl) rfl rfl (Wk.wanted_some rfl rfl rfl) (fun w' a ha => Wk.x_indexAddr (ha.ev rfl) (ha.ev rfl) (Wk.i_index TF.elem_sl_api_Link TF.size_api_Link e3 h32 h33)) rfl ?_
                      intro _ hd; replace hD := hD.trans hd; replace hW := cm.held _ _ hW hd; clear hd
                      refine Wk.an_p (i := 14) cm rfl (by kernel_rfl) rfl rfl (Wk.wanted_some rfl rfl rfl) (fun w' a ha => Wk.x_fieldAddr (ha.ev rfl) (TF.fld_api_Link_2 _ _)) rfl ?_
                      intro _ hd; replace hD := hD.trans hd; replace hW := cm.held _ _ hW hd; clear hd
                      obtain ⟨x20, h34, H⟩ := H
                      refine Wk.an_v (i := 15) cm rfl (by kernel_rfl) hW rfl rfl (Wk.wanted_some rfl rfl rfl) (fun w' hw a ha => Wk.x_load (ha.ev rfl) (Wk.i_load1 TF.agg_int ((hw.cell _).trans h34))) rfl ?_
                      intro _ hd hW; replace hD := hD.trans hd; clear hd
                      obtain ⟨b9, h35, H⟩ := H
                      refine Wk.an_q (i := 16) cm rfl (by kernel_rfl) hW rfl rfl (Wk.wanted_some rfl rfl rfl) (fun w' hw a ha => Wk.x_callc (xs' := [(.int .i64 0), (.int .i64 x18), (.int .i64 x20), (.pointer (some p1)), (.pointer (some p3))]) (ha.ev rfl) (ha.evs rfl) rfl FF.callable_euf_follows_2) h35 rfl ?_
                      intro _ hd hW; replace hD := hD.trans hd; clear hd
                      refine Wk.an_p (i := 17) cm rfl (by kernel_rfl) rfl rfl (Wk.wanted_none rfl) (fun w' a ha => Wk.x_pick_t (ha.ev rfl) (ha.ev rfl)) rfl ?_
                      intro _ hd; replace hD := hD.trans hd; replace hW := cm.held _ _ hW hd; clear hd
                      rcases Wk.tf b9 with hb | hb
                      · replace H := H.1 hb
                        refine Wk.an_p (i := 18) cm rfl (by kernel_rfl) rfl rfl (Wk.wanted_none rfl) (fun w' a ha => Wk.o_bt (Wk.x_move (ha.ev rfl)) hb) rfl ?_
                        intro _ hd; replace hD := hD.trans hd; replace hW := cm.held _ _ hW hd; clear hd
                        refine Wk.an_p (i := 19) cm rfl (by kernel_rfl) rfl rfl (Wk.wanted_some rfl rfl rfl) (fun w' a ha => Wk.x_move (ha.ev rfl)) rfl ?_
                        intro _ hd; replace hD := hD.trans hd; replace hW := cm.held _ _ hW hd; clear hd
                        obtain ⟨A13, n13, c13, h36, H⟩ := H
                        refine Wk.an_v (i := 20) cm rfl (by kernel_rfl) hW rfl rfl (Wk.wanted_some rfl rfl rfl) (fun w' hw a ha => Wk.x_load (ha.ev rfl) (Wk.i_load1 TF.agg_sl_api_Link ((hw.cell _).trans h36))) rfl ?_
                        intro _ hd hW; replace hD := hD.trans hd; clear hd
                        refine Wk.an_p (i := 21) cm rfl (by kernel_rfl) rfl rfl (Wk.wanted_some rfl rfl rfl) (fun w' a ha => Wk.x_fieldAddr (ha.ev rfl) (TF.fld_api_Link_4 _ _)) rfl ?_
                        intro _ hd; replace hD := hD.trans hd; replace hW := cm.held _ _ hW hd; clear hd
                        obtain ⟨A14, n14, c14, h37, H⟩ := H
                        refine Wk.an_v (i := 22) cm rfl (by kernel_rfl) hW rfl rfl (Wk.wanted_some rfl rfl rfl) (fun w' hw a ha => Wk.x_load (ha.ev rfl) (Wk.i_load1 TF.agg_sl_int ((hw.cell _).trans h37))) rfl ?_
                        intro _ hd hW; replace hD := hD.trans hd; clear hd
                        obtain ⟨h38, h39, a4, e4, H⟩ := H
                        refine Wk.an_p (i := 23) cm rfl (by kernel_rfl) rfl rfl (Wk.wanted_some rfl rfl rfl) (fun w' a ha => Wk.x_indexAddr (ha.ev rfl) (ha.ev rfl) (Wk.i_index TF.elem_sl_int TF.size_int e4 h38 h39)) rfl ?_
                        intro _ hd; replace hD := hD.trans hd; replace hW := cm.held _ _ hW hd; clear hd
                        obtain ⟨x21, h40, H⟩ := H
                        refine Wk.an_v (i := 24) cm rfl (by kernel_rfl) hW rfl rfl (Wk.wanted_some rfl rfl rfl) (fun w' hw a ha => Wk.x_load (ha.ev rfl) (Wk.i_load1 TF.agg_int ((hw.cell _).trans h40))) rfl ?_
                        intro _ hd hW; replace hD := hD.trans hd; clear hd
                        obtain ⟨h41, h42, a5, e5, H⟩ := H
                        refine Wk.an_p (i := 25) cm rfl (by kernel_rfl) rfl rfl (Wk.wanted_some rfl rfl rfl) (fun w' a ha => Wk.x_indexAddr (ha.ev rfl) (ha.ev rfl) (Wk.i_index TF.elem_sl_api_Link TF.size_api_Link e5 h41 h42)) rfl ?_
                        intro _ hd; replace hD := hD.trans hd; replace hW := cm.held _ _ hW hd; clear hd
                        refine Wk.an_p (i := 26) cm rfl (by kernel_rfl) rfl rfl (Wk.wanted_some rfl rfl rfl) (fun w' a ha => Wk.x_fieldAddr (ha.ev rfl) (TF.fld_api_Link_2 _ _)) rfl ?_
                        intro _ hd; replace hD := hD.trans hd; replace hW := cm.held _ _ hW hd; clear hd
                        obtain ⟨x22, h43, H⟩ := H
                        refine Wk.an_v (i := 27) cm rfl (by kernel_rfl) hW rfl rfl (Wk.wanted_some rfl rfl rfl) (fun w' hw a ha => Wk.x_load (ha.ev rfl) (Wk.i_load1 TF.agg_int ((hw.cell _).trans h43))) rfl ?_
                        intro _ hd hW; replace hD := hD.trans hd; clear hd
                        refine Wk.an_p (i := 28) cm rfl (by kernel_rfl) rfl rfl (Wk.wanted_some rfl rfl rfl) (fun w' a ha => Wk.x_fieldAddr (ha.ev rfl) (TF.fld_api_Link_2 _ _)) rfl ?_
                        intro _ hd; replace hD := hD.trans hd; replace hW := cm.held _ _ hW hd; clear hd
                        obtain ⟨x23, h44, H⟩ := H
                        refine Wk.an_v (i := 29) cm rfl (by kernel_rfl) hW rfl rfl (Wk.wanted_some rfl rfl rfl) (fun w' hw a ha => Wk.x_load (ha.ev rfl) (Wk.i_load1 TF.agg_int ((hw.cell _).trans h44))) rfl ?_
                        intro _ hd hW; replace hD := hD.trans hd; clear hd
                        obtain ⟨b10, h45, H⟩ := H
                        refine Wk.an_q (i := 30) cm rfl (by kernel_rfl) hW rfl rfl (Wk.wanted_some rfl rfl rfl) (fun w' hw a ha => Wk.x_callc (xs' := [(.int .i64 1), (.int .i64 x22), (.int .i64 x23), (.pointer (some p1)), (.pointer (some p3))]) (ha.ev rfl) (ha.evs rfl) rfl FF.callable_euf_follows_2) h45 rfl ?_
                        intro _ hd hW; replace hD := hD.trans hd; clear hd
                        refine Wk.an_p (i := 31) cm rfl (by kernel_rfl) rfl rfl (Wk.wanted_none rfl) (fun w' a ha => Wk.x_pick_t (ha.ev rfl) (ha.ev rfl)) rfl ?_
                        intro _ hd; replace hD := hD.trans hd; clear hd
                        refine Wk.an_p (i := 32) cm rfl (by kernel_rfl) rfl rfl (Wk.wanted_none rfl) (fun w' a ha => Wk.x_assign (ha.ev rfl)) rfl ?_
                        intro _ hd; replace hD := hD.trans hd; clear hd
                        refine Wk.an_end (by kernel_rfl) hD ?_
                        intro w10 hD; replace H := H _ hD; clear hD cm
                        exact Wk.nx_to fun a ha => ⟨b10, ha.weaken (Wk.sub.cons rfl (Wk.sub.nil)), H⟩
                      · replace H := H.2 hb
                        refine Wk.an_p (i := 18) cm rfl (by kernel_rfl) rfl rfl (Wk.wanted_none rfl) (fun w' a ha => Wk.o_bf (Wk.x_move (ha.ev rfl)) hb) rfl ?_
                        intro _ hd; replace hD := hD.trans hd; replace hW := cm.held _ _ hW hd; clear hd
                        refine Wk.an_pskip (i := 19) cm rfl (by kernel_rfl) rfl rfl (Wk.wanted_not rfl rfl rfl rfl) rfl ?_
                        intro _ hd; replace hD := hD.trans hd; replace hW := cm.held _ _ hW hd; clear hd
                        refine Wk.an_pskip (i := 20) cm rfl (by kernel_rfl) rfl rfl (Wk.wanted_not rfl rfl rfl rfl) rfl ?_
                        intro _ hd; replace hD := hD.trans hd; replace hW := cm.held _ _ hW hd; clear hd
                        refine Wk.an_pskip (i := 21) cm rfl (by kernel_rfl) rfl rfl (Wk.wanted_not rfl rfl rfl rfl) rfl ?_
                        intro _ hd; replace hD := hD.trans hd; replace hW := cm.held _ _ hW hd; clear hd
                        refine Wk.an_pskip (i := 22) cm rfl (by kernel_rfl) rfl rfl (Wk.wanted_not rfl rfl rfl rfl) rfl ?_
                        intro _ hd; replace hD := hD.trans hd; replace hW := cm.held _ _ hW hd; clear hd
                        refine Wk.an_pskip (i := 23) cm rfl (by kernel_rfl) rfl rfl (Wk.wanted_not rfl rfl rfl rfl) rfl ?_
                        intro _ hd; replace hD := hD.trans hd; replace hW := cm.held _ _ hW hd; clear hd
                        refine Wk.an_pskip (i := 24) cm rfl (by kernel_rfl) rfl rfl (Wk.wanted_not rfl rfl rfl rfl) rfl ?_
                        intro _ hd; replace hD := hD.trans hd; replace hW := cm.held _ _ hW hd; clear hd
                        refine Wk.an_pskip (i := 25) cm rfl (by kernel_rfl) rfl rfl (Wk.wanted_not rfl rfl rfl rfl) rfl ?_
                        intro _ hd; replace hD := hD.trans hd; replace hW := cm.held _ _ hW hd; clear hd
                        refine Wk.an_pskip (i := 26) cm rfl (by kernel_rfl) rfl rfl (Wk.wanted_not rfl rfl rfl rfl) rfl ?_
                        intro _ hd; replace hD := hD.trans hd; replace hW := cm.held _ _ hW hd; clear hd
                        refine Wk.an_pskip (i := 27) cm rfl (by kernel_rfl) rfl rfl (Wk.wanted_not rfl rfl rfl rfl) rfl ?_
                        intro _ hd; replace hD := hD.trans hd; replace hW := cm.held _ _ hW hd; clear hd
                        refine Wk.an_pskip (i := 28) cm rfl (by kernel_rfl) rfl rfl (Wk.wanted_not rfl rfl rfl rfl) rfl ?_
                        intro _ hd; replace hD := hD.trans hd; replace hW := cm.held _ _ hW hd; clear hd
                        refine Wk.an_pskip (i := 29) cm rfl (by kernel_rfl) rfl rfl (Wk.wanted_not rfl rfl rfl rfl) rfl ?_
                        intro _ hd; replace hD := hD.trans hd; replace hW := cm.held _ _ hW hd; clear hd
                        refine Wk.an_pskip (i := 30) cm rfl (by kernel_rfl) rfl rfl (Wk.wanted_not rfl rfl rfl rfl) rfl ?_
                        intro _ hd; replace hD := hD.trans hd; replace hW := cm.held _ _ hW hd; clear hd
                        refine Wk.an_p (i := 31) cm rfl (by kernel_rfl) rfl rfl (Wk.wanted_none rfl) (fun w' a ha => Wk.x_pick_f (ha.ev rfl) (ha.ev rfl)) rfl ?_
                        intro _ hd; replace hD := hD.trans hd; clear hd
                        refine Wk.an_p (i := 32) cm rfl (by kernel_rfl) rfl rfl (Wk.wanted_none rfl) (fun w' a ha => Wk.x_assign (ha.ev rfl)) rfl ?_
                        intro _ hd; replace hD := hD.trans hd; clear hd
                        refine Wk.an_end (by kernel_rfl) hD ?_
                        intro w12 hD; replace H := H _ hD; clear hD cm
                        exact Wk.nx_to fun a ha => ⟨false, ha.weaken (Wk.sub.cons rfl (Wk.sub.nil)), H⟩
                    · replace H := H.2 hb
                      refine Wk.an_p (i := 4) cm rfl (by kernel_rfl) rfl rfl (Wk.wanted_none rfl) (fun w' a ha => Wk.o_f (Wk.x_move (ha.ev rfl)) hb) rfl ?_
                      intro _ hd; replace hD := hD.trans hd; replace hW := cm.held _ _ hW hd; clear hd
                      refine Wk.an_pskip (i := 5) cm rfl (by kernel_rfl) rfl rfl (Wk.wanted_not rfl rfl rfl rfl) rfl ?_
                      intro _ hd; replace hD := hD.trans hd; replace hW := cm.held _ _ hW hd; clear hd
                      refine Wk.an_pskip (i := 6) cm rfl (by kernel_rfl) rfl rfl (Wk.wanted_not rfl rfl rfl rfl) rfl ?_
                      intro _ hd; replace hD := hD.trans hd; replace hW := cm.held _ _ hW hd; clear hd
                      refine Wk.an_pskip (i := 7) cm rfl (by kernel_rfl) rfl rfl (Wk.wanted_not rfl rfl rfl rfl) rfl ?_
                      intro _ hd; replace hD := hD.trans hd; replace hW := cm.held _ _ hW hd; clear hd
                      refine Wk.an_pskip (i := 8) cm rfl (by kernel_rfl) rfl rfl (Wk.wanted_not rfl rfl rfl rfl) rfl ?_
                      intro _ hd; replace hD := hD.trans hd; replace hW := cm.held _ _ hW hd; clear hd
                      refine Wk.an_pskip (i := 9) cm rfl (by kernel_rfl) rfl rfl (Wk.wanted_not rfl rfl rfl rfl) rfl ?_
                      intro _ hd; replace hD := hD.trans hd; replace hW := cm.held _ _ hW hd; clear hd
                      refine Wk.an_pskip (i := 10) cm rfl (by kernel_rfl) rfl rfl (Wk.wanted_not rfl rfl rfl rfl) rfl ?_
                      intro _ hd; replace hD := hD.trans hd; replace hW := cm.held _ _ hW hd; clear hd
                      refine Wk.an_pskip (i := 11) cm rfl (by kernel_rfl) rfl rfl (Wk.wanted_not rfl rfl rfl rfl) rfl ?_
                      intro _ hd; replace hD := hD.trans hd; replace hW := cm.held _ _ hW hd; clear hd
                      refine Wk.an_pskip (i := 12) cm rfl (by kernel_rfl) rfl rfl (Wk.wanted_not rfl rfl rfl rfl) rfl ?_
                      intro _ hd; replace hD := hD.trans hd; replace hW := cm.held _ _ hW hd; clear hd
                      refine Wk.an_pskip (i := 13) cm rfl (by kernel_rfl) rfl rfl (Wk.wanted_not rfl rfl rfl rfl) rfl ?_
                      intro _ hd; replace hD := hD.trans hd; replace hW := cm.held _ _ hW hd; clear hd
                      refine Wk.an_pskip (i := 14) cm rfl (by kernel_rfl) rfl rfl (Wk.wanted_not rfl rfl rfl rfl) rfl ?_
                      intro _ hd; replace hD := hD.trans hd; replace hW := cm.held _ _ hW hd; clear hd
                      refine Wk.an_pskip (i := 15) cm rfl (by kernel_rfl) rfl rfl (Wk.wanted_not rfl rfl rfl rfl) rfl ?_
                      intro _ hd; replace hD := hD.trans hd; replace hW := cm.held _ _ hW hd; clear hd
                      refine Wk.an_pskip (i := 16) cm rfl (by kernel_rfl) rfl rfl (Wk.wanted_not rfl rfl rfl rfl) rfl ?_
                      intro _ hd; replace hD := hD.trans hd; replace hW := cm.held _ _ hW hd; clear hd
                      refine Wk.an_p (i := 17) cm rfl (by kernel_rfl) rfl rfl (Wk.wanted_none rfl) (fun w' a ha => Wk.x_pick_f (ha.ev rfl) (ha.ev rfl)) rfl ?_
                      intro _ hd; replace hD := hD.trans hd; replace hW := cm.held _ _ hW hd; clear hd
                      refine Wk.an_p (i := 18) cm rfl (by kernel_rfl) rfl rfl (Wk.wanted_none rfl) (fun w' a ha => Wk.x_move (ha.ev rfl)) rfl ?_
                      intro _ hd; replace hD := hD.trans hd; replace hW := cm.held _ _ hW hd; clear hd
                      refine Wk.an_pskip (i := 19) cm rfl (by kernel_rfl) rfl rfl (Wk.wanted_not rfl rfl rfl rfl) rfl ?_
                      intro _ hd; replace hD := hD.trans hd; replace hW := cm.held _ _ hW hd; clear hd
                      refine Wk.an_pskip (i := 20) cm rfl (by kernel_rfl) rfl rfl (Wk.wanted_not rfl rfl rfl rfl) rfl ?_
                      intro _ hd; replace hD := hD.trans hd; replace hW := cm.held _ _ hW hd; clear hd
                      refine Wk.an_pskip (i := 21) cm rfl (by kernel_rfl) rfl rfl (Wk.wanted_not rfl rfl rfl rfl) rfl ?_
                      intro _ hd; replace hD := hD.trans hd; replace hW := cm.held _ _ hW hd; clear hd
                      refine Wk.an_pskip (i := 22) cm rfl (by kernel_rfl) rfl rfl (Wk.wanted_not rfl rfl rfl rfl) rfl ?_
                      intro _ hd; replace hD := hD.trans hd; replace hW := cm.held _ _ hW hd; clear hd
                      refine Wk.an_pskip (i := 23) cm rfl (by kernel_rfl) rfl rfl (Wk.wanted_not rfl rfl rfl rfl) rfl ?_
                      intro _ hd; replace hD := hD.trans hd; replace hW := cm.held _ _ hW hd; clear hd
                      refine Wk.an_pskip (i := 24) cm rfl (by kernel_rfl) rfl rfl (Wk.wanted_not rfl rfl rfl rfl) rfl ?_
                      intro _ hd; replace hD := hD.trans hd; replace hW := cm.held _ _ hW hd; clear hd
                      refine Wk.an_pskip (i := 25) cm rfl (by kernel_rfl) rfl rfl (Wk.wanted_not rfl rfl rfl rfl) rfl ?_
                      intro _ hd; replace hD := hD.trans hd; replace hW := cm.held _ _ hW hd; clear hd
                      refine Wk.an_pskip (i := 26) cm rfl (by kernel_rfl) rfl rfl (Wk.wanted_not rfl rfl rfl rfl) rfl ?_
                      intro _ hd; replace hD := hD.trans hd; replace hW := cm.held _ _ hW hd; clear hd
                      refine Wk.an_pskip (i := 27) cm rfl (by kernel_rfl) rfl rfl (Wk.wanted_not rfl rfl rfl rfl) rfl ?_
                      intro _ hd; replace hD := hD.trans hd; replace hW := cm.held _ _ hW hd; clear hd
                      refine Wk.an_pskip (i := 28) cm rfl (by kernel_rfl) rfl rfl (Wk.wanted_not rfl rfl rfl rfl) rfl ?_
                      intro _ hd; replace hD := hD.trans hd; replace hW := cm.held _ _ hW hd; clear hd
                      refine Wk.an_pskip (i := 29) cm rfl (by kernel_rfl) rfl rfl (Wk.wanted_not rfl rfl rfl rfl) rfl ?_
                      intro _ hd; replace hD := hD.trans hd; replace hW := cm.held _ _ hW hd; clear hd
                      refine Wk.an_pskip (i := 30) cm rfl (by kernel_rfl) rfl rfl (Wk.wanted_not rfl rfl rfl rfl) rfl ?_
                      intro _ hd; replace hD := hD.trans hd; replace hW := cm.held _ _ hW hd; clear hd
                      refine Wk.an_p (i := 31) cm rfl (by kernel_rfl) rfl rfl (Wk.wanted_none rfl) (fun w' a ha => Wk.x_pick_f (ha.ev rfl) (ha.ev rfl)) rfl ?_
                      intro _ hd; replace hD := hD.trans hd; clear hd
                      refine Wk.an_p (i := 32) cm rfl (by kernel_rfl) rfl rfl (Wk.wanted_none rfl) (fun w' a ha => Wk.x_assign (ha.ev rfl)) rfl ?_
                      intro _ hd; replace hD := hD.trans hd; clear hd
                      refine Wk.an_end (by kernel_rfl) hD ?_
                      intro w13 hD; replace H := H _ hD; clear hD cm
                      exact Wk.nx_to fun a ha => ⟨false, ha.weaken (Wk.sub.cons rfl (Wk.sub.nil)), H⟩
                · replace H := H.2 hb
                  refine Wk.cw_seq ?_
                  refine Wk.cw_region ?_
                  refine Wk.sl_v rfl rfl (Wk.wanted_none rfl) (fun a ha => Wk.x_binOp (ha.ev rfl) (ha.ev rfl) Wk.o_eql) ?_
                  refine Wk.sl_v rfl rfl (Wk.wanted_none rfl) (fun a ha => Wk.x_assign (ha.ev rfl)) ?_
                  refine Wk.sl_nil ?_
                  refine Wk.nx_code (Wk.cw_sub (e' := [(0, (.slice A1 n1 c1)), (9, (.pointer (some p3))), (10, (.func (.func F.euf_follows_2) #[] #[(.pointer (some p1)), (.pointer (some p3))])), (123, (.bool (decide (x13 = 5))))]) (Wk.sub.cons rfl (Wk.sub.cons rfl (Wk.sub.cons rfl (Wk.sub.cons rfl (Wk.sub.nil))))) ?_)
                  refine Wk.cw_cond_p rfl (fun hb => ?_) (fun hb => ?_)
                  · replace H := H.1 hb
                    refine Wk.cw_join (fun a w => ∃ p6 : Addr, ∃ p7 : Addr, Wk.Ok 184 [(9, (.pointer (some p3))), (10, (.func (.func F.euf_follows_2) #[] #[(.pointer (some p1)), (.pointer (some p3))])), (11, (.pointer (some p6))), (12, (.pointer (some p7)))] a ∧ vc_euf_follows_J6 K p3 p1 p6 p7 w) ?_ ?_
                    · rintro a w19 ⟨p6, p7, ha, H⟩
                      unfold vc_euf_follows_J6 at H
                      refine (?_ : Wk.CW _ _ _ 184 [(9, (.pointer (some p3))), (10, (.func (.func F.euf_follows_2) #[] #[(.pointer (some p1)), (.pointer (some p3))])), (11, (.pointer (some p6))), (12, (.pointer (some p7)))] _) a ha
                      refine Wk.cw_seq ?_
                      refine Wk.cw_join_still (fun a => ∃ b12 : Bool, Wk.Ok 184 [(9, (.pointer (some p3))), (10, (.func (.func F.euf_follows_2) #[] #[(.pointer (some p1)), (.pointer (some p3))])), (11, (.pointer (some p6))), (12, (.pointer (some p7))), (162, (.bool b12))] a ∧ vc_euf_follows_J5 K w19 p3 p6 p7 p1 b12) ?_ ?_
                      · rintro a ⟨b12, ha, H⟩
                        unfold vc_euf_follows_J5 at H
                        refine (?_ : Wk.CW _ _ _ 184 [(9, (.pointer (some p3))), (10, (.func (.func F.euf_follows_2) #[] #[(.pointer (some p1)), (.pointer (some p3))])), (11, (.pointer (some p6))), (12, (.pointer (some p7))), (162, (.bool b12))] _) a ha
                        refine Wk.cw_cond rfl (fun hb => ?_) (fun hb => ?_)
                        · replace H := H.1 hb
                          refine Wk.cw_seq ?_
                          refine Wk.cw_region ?_
                          refine Wk.sl_v rfl rfl (Wk.wanted_none rfl) (fun a ha => Wk.x_assign (ha.ev rfl)) ?_
                          refine Wk.sl_nil ?_
                          refine Wk.nx_code (Wk.cw_sub (e' := [(8, (.bool false))]) (Wk.sub.cons rfl (Wk.sub.nil)) ?_)
                          refine Wk.cw_ret ?_
                          refine Wk.nx_ret_then ?_
                          refine Wk.nx_ret_block ?_
                          refine Wk.nx_ret_then ?_
                          exact Wk.nx_body_ret (Wk.res1 rfl rfl) ⟨_, rfl, _, rfl, H⟩
                        · replace H := H.2 hb
                          refine Wk.cw_skip ?_
                          refine Wk.nx_code (Wk.cw_sub (e' := [(9, (.pointer (some p3))), (10, (.func (.func F.euf_follows_2) #[] #[(.pointer (some p1)), (.pointer (some p3))])), (11, (.pointer (some p6))), (12, (.pointer (some p7)))]) (Wk.sub.cons rfl (Wk.sub.cons rfl (Wk.sub.cons rfl (Wk.sub.cons rfl (Wk.sub.nil))))) ?_)
                          refine Wk.cw_seq ?_
                          refine Wk.cw_seq ?_
                          refine Wk.cw_region ?_
                          refine Wk.sl_v rfl rfl (Wk.wanted_none rfl) (fun a ha => Wk.x_fieldAddr (ha.ev rfl) (TF.fld_api_Link_4 _ _)) ?_
                          obtain ⟨A21, n21, c21, h69, H⟩ := H
                          refine Wk.sl_v rfl rfl (Wk.wanted_none rfl) (fun a ha => Wk.x_load (ha.ev rfl) (Wk.i_load1 TF.agg_sl_int h69)) ?_
                          refine Wk.sl_v rfl rfl (Wk.wanted_none rfl) (fun a ha => Wk.x_builtin (ha.evs rfl) (fun _ => Wk.l_slice TF.isslice_sl_int)) ?_
                          refine Wk.sl_v rfl rfl (Wk.wanted_none rfl) (fun a ha => Wk.x_move (ha.ev rfl)) ?_
                          refine Wk.sl_nil ?_
                          refine Wk.nx_code (Wk.cw_sub (e' := [(10, (.func (.func F.euf_follows_2) #[] #[(.pointer (some p1)), (.pointer (some p3))])), (11, (.pointer (some p6))), (12, (.pointer (some p7))), (165, (.int .i64 (n21 : Int))), (166, (.int .i64 0))]) (Wk.sub.cons rfl (Wk.sub.cons rfl (Wk.sub.cons rfl (Wk.sub.cons rfl (Wk.sub.cons rfl (Wk.sub.nil)))))) ?_)
                          refine Wk.cw_block ?_
                          obtain ⟨I1, ⟨k1, hi⟩, H⟩ := H
                          refine Wk.cw_loop (fun k1 a w' => ∃ x31 : Int, Wk.Ok 184 [(10, (.func (.func F.euf_follows_2) #[] #[(.pointer (some p1)), (.pointer (some p3))])), (11, (.pointer (some p6))), (12, (.pointer (some p7))), (165, (.int .i64 (n21 : Int))), (166, (.int .i64 x31))] a ∧ I1 k1 x31 w') (fun a ha => ⟨k1, 0, ha.weaken (Wk.sub.cons rfl (Wk.sub.cons rfl (Wk.sub.cons rfl (Wk.sub.cons rfl (Wk.sub.cons rfl (Wk.sub.nil)))))), hi⟩) ?_
                          rintro k1 a w33 ⟨x31, ha, hI⟩
                          replace H := H k1 x31 w33 hI
                          refine (?_ : Wk.CW _ _ _ 184 [(10, (.func (.func F.euf_follows_2) #[] #[(.pointer (some p1)), (.pointer (some p3))])), (11, (.pointer (some p6))), (12, (.pointer (some p7))), (165, (.int .i64 (n21 : Int))), (166, (.int .i64 x31))] _) a ha
                          refine Wk.cw_seq ?_
                          refine Wk.cw_region ?_
                          refine Wk.sl_v rfl rfl (Wk.wanted_none rfl) (fun a ha => Wk.x_binOp (ha.ev rfl) (ha.ev rfl) Wk.o_lss) ?_
                          refine Wk.sl_nil ?_
                          refine Wk.nx_code (Wk.cw_sub (e' := [(10, (.func (.func F.euf_follows_2) #[] #[(.pointer (some p1)), (.pointer (some p3))])), (11, (.pointer (some p6))), (12, (.pointer (some p7))), (165, (.int .i64 (n21 : Int))), (166, (.int .i64 x31)), (167, (.bool (decide (x31 < (n21 : Int)))))]) (Wk.sub.cons rfl (Wk.sub.cons rfl (Wk.sub.cons rfl (Wk.sub.cons rfl (Wk.sub.cons rfl (Wk.sub.cons rfl (Wk.sub.nil))))))) ?_)
                          refine Wk.cw_seq ?_
                          refine Wk.cw_cond_p rfl (fun hb => ?_) (fun hb => ?_)
                          · replace H := H.1 hb
                            refine Wk.cw_skip ?_
                            refine Wk.nx_code (Wk.cw_sub (e' := [(10, (.func (.func F.euf_follows_2) #[] #[(.pointer (some p1)), (.pointer (some p3))])), (11, (.pointer (some p6))), (12, (.pointer (some p7))), (165, (.int .i64 (n21 : Int))), (166, (.int .i64 x31))]) (Wk.sub.cons rfl (Wk.sub.cons rfl (Wk.sub.cons rfl (Wk.sub.cons rfl (Wk.sub.cons rfl (Wk.sub.nil)))))) ?_)
                            refine Wk.cw_seq ?_
                            refine Wk.cw_block ?_
                            refine Wk.cw_seq ?_
                            refine Wk.cw_region ?_
                            refine Wk.sl_v rfl rfl (Wk.wanted_none rfl) (fun a ha => Wk.x_move (ha.ev rfl)) ?_
                            refine Wk.sl_v rfl rfl (Wk.wanted_none rfl) (fun a ha => Wk.x_assign (ha.ev rfl)) ?_
                            refine Wk.sl_nil ?_
                            refine Wk.nx_code (Wk.cw_sub (e' := [(10, (.func (.func F.euf_follows_2) #[] #[(.pointer (some p1)), (.pointer (some p3))])), (11, (.pointer (some p6))), (12, (.pointer (some p7))), (13, (.int .i64 x31)), (165, (.int .i64 (n21 : Int))), (166, (.int .i64 x31))]) (Wk.sub.cons rfl (Wk.sub.cons rfl (Wk.sub.cons rfl (Wk.sub.cons rfl (Wk.sub.cons rfl (Wk.sub.cons rfl (Wk.sub.nil))))))) ?_)
                            refine Wk.cw_seq ?_
                            refine Wk.cw_any_drawn follows [0, 1, 2, 3, 4, 5, 6, 7, 8, 9, 10, 11, 12, 13] [3, 6, 8, 11, 12] 14 rfl rfl (by kernel_rfl) (fun _ _ d _ _ h => by cases d <;> exact h) (fun cm hW hD => ?_)
                            refine Wk.an_p (i := 0) cm rfl (by kernel_rfl) rfl rfl (Wk.wanted_none rfl) (fun w' a ha => Wk.x_move (ha.ev rfl)) rfl ?_
                            intro _ hd; replace hD := hD.trans hd; replace hW := cm.held _ _ hW hd; clear hd
                            refine Wk.an_p (i := 1) cm rfl (by kernel_rfl) rfl rfl (Wk.wanted_none rfl) (fun w' a ha => Wk.x_move (ha.ev rfl)) rfl ?_
                            intro _ hd; replace hD := hD.trans hd; replace hW := cm.held _ _ hW hd; clear hd
                            refine Wk.an_p (i := 2) cm rfl (by kernel_rfl) rfl rfl (Wk.wanted_none rfl) (fun w' a ha => Wk.x_fieldAddr (ha.ev rfl) (TF.fld_api_Flat_1 _ _)) rfl ?_
                            intro _ hd; replace hD := hD.trans hd; replace hW := cm.held _ _ hW hd; clear hd
                            obtain ⟨A22, n22, c22, h70, H⟩ := H
                            refine Wk.an_v (i := 3) cm rfl (by kernel_rfl) hW rfl rfl (Wk.wanted_none rfl) (fun w' hw a ha => Wk.x_load (ha.ev rfl) (Wk.i_load1 TF.agg_sl_int ((hw.cell _).trans h70))) rfl ?_
                            intro _ hd hW; replace hD := hD.trans hd; clear hd
                            refine Wk.an_p (i := 4) cm rfl (by kernel_rfl) rfl rfl (Wk.wanted_none rfl) (fun w' a ha => Wk.x_move (ha.ev rfl)) rfl ?_
                            intro _ hd; replace hD := hD.trans hd; replace hW := cm.held _ _ hW hd; clear hd
                            obtain ⟨h71, h72, a8, e8, H⟩ := H
                            refine Wk.an_p (i := 5) cm rfl (by kernel_rfl) rfl rfl (Wk.wanted_none rfl) (fun w' a ha => Wk.x_indexAddr (ha.ev rfl) (ha.ev rfl) (Wk.i_index TF.elem_sl_int TF.size_int e8 h71 h72)) rfl ?_
                            intro _ hd; replace hD := hD.trans hd; replace hW := cm.held _ _ hW hd; clear hd
                            obtain ⟨x32, h73, H⟩ := H
                            refine Wk.an_v (i := 6) cm rfl (by kernel_rfl) hW rfl rfl (Wk.wanted_none rfl) (fun w' hw a ha => Wk.x_load (ha.ev rfl) (Wk.i_load1 TF.agg_int ((hw.cell _).trans h73))) rfl ?_
                            intro _ hd hW; replace hD := hD.trans hd; clear hd
                            refine Wk.an_p (i := 7) cm rfl (by kernel_rfl) rfl rfl (Wk.wanted_none rfl) (fun w' a ha => Wk.x_fieldAddr (ha.ev rfl) (TF.fld_api_Flat_1 _ _)) rfl ?_
                            intro _ hd; replace hD := hD.trans hd; replace hW := cm.held _ _ hW hd; clear hd
                            obtain ⟨A23, n23, c23, h74, H⟩ := H
                            refine Wk.an_v (i := 8) cm rfl (by kernel_rfl) hW rfl rfl (Wk.wanted_none rfl) (fun w' hw a ha => Wk.x_load (ha.ev rfl) (Wk.i_load1 TF.agg_sl_int ((hw.cell _).trans h74))) rfl ?_
                            intro _ hd hW; replace hD := hD.trans hd; clear hd
                            refine Wk.an_p (i := 9) cm rfl (by kernel_rfl) rfl rfl (Wk.wanted_none rfl) (fun w' a ha => Wk.x_move (ha.ev rfl)) rfl ?_
                            intro _ hd; replace hD := hD.trans hd; replace hW := cm.held _ _ hW hd; clear hd
                            obtain ⟨h75, h76, a9, e9, H⟩ := H
                            refine Wk.an_p (i := 10) cm rfl (by kernel_rfl) rfl rfl (Wk.wanted_none rfl) (fun w' a ha => Wk.x_indexAddr (ha.ev rfl) (ha.ev rfl) (Wk.i_index TF.elem_sl_int TF.size_int e9 h75 h76)) rfl ?_
                            intro _ hd; replace hD := hD.trans hd; replace hW := cm.held _ _ hW hd; clear hd
                            obtain ⟨x33, h77, H⟩ := H
                            refine Wk.an_v (i := 11) cm rfl (by kernel_rfl) hW rfl rfl (Wk.wanted_none rfl) (fun w' hw a ha => Wk.x_load (ha.ev rfl) (Wk.i_load1 TF.agg_int ((hw.cell _).trans h77))) rfl ?_
                            intro _ hd hW; replace hD := hD.trans hd; clear hd
                            obtain ⟨b13, h78, H⟩ := H
                            refine Wk.an_q (i := 12) cm rfl (by kernel_rfl) hW rfl rfl (Wk.wanted_none rfl) (fun w' hw a ha => Wk.x_callc (xs' := [(.int .i64 x31), (.int .i64 x32), (.int .i64 x33), (.pointer (some p1)), (.pointer (some p3))]) (ha.ev rfl) (ha.evs rfl) rfl FF.callable_euf_follows_2) h78 rfl ?_
                            intro _ hd hW; replace hD := hD.trans hd; clear hd
                            refine Wk.an_p (i := 13) cm rfl (by kernel_rfl) rfl rfl (Wk.wanted_none rfl) (fun w' a ha => Wk.x_unOp (ha.ev rfl) Wk.u_not) rfl ?_
                            intro _ hd; replace hD := hD.trans hd; clear hd
                            refine Wk.an_end (by kernel_rfl) hD ?_
                            intro w34 hD; replace H := H _ hD; clear hD cm
                            refine Wk.nx_code (Wk.cw_sub (e' := [(10, (.func (.func F.euf_follows_2) #[] #[(.pointer (some p1)), (.pointer (some p3))])), (11, (.pointer (some p6))), (12, (.pointer (some p7))), (165, (.int .i64 (n21 : Int))), (166, (.int .i64 x31)), (182, (.bool (!b13)))]) (Wk.sub.cons rfl (Wk.sub.cons rfl (Wk.sub.cons rfl (Wk.sub.cons rfl (Wk.sub.cons rfl (Wk.sub.cons rfl (Wk.sub.nil))))))) ?_)
                            refine Wk.cw_cond rfl (fun hb => ?_) (fun hb => ?_)
                            · replace H := H.1 hb
                              refine Wk.cw_seq ?_
                              refine Wk.cw_region ?_
                              refine Wk.sl_v rfl rfl (Wk.wanted_none rfl) (fun a ha => Wk.x_assign (ha.ev rfl)) ?_
                              refine Wk.sl_nil ?_
                              refine Wk.nx_code (Wk.cw_sub (e' := [(8, (.bool false))]) (Wk.sub.cons rfl (Wk.sub.nil)) ?_)
                              refine Wk.cw_ret ?_
                              refine Wk.nx_ret_block ?_
                              refine Wk.nx_ret_then ?_
                              refine Wk.nx_ret_then ?_
                              refine Wk.nx_ret_block ?_
                              refine Wk.nx_ret_then ?_
                              refine Wk.nx_ret_block ?_
                              refine Wk.nx_ret_then ?_
                              exact Wk.nx_body_ret (Wk.res1 rfl rfl) ⟨_, rfl, _, rfl, H⟩
                            · replace H := H.2 hb
                              refine Wk.cw_skip ?_
                              refine Wk.nx_block ?_
                              refine Wk.nx_code (Wk.cw_sub (e' := [(10, (.func (.func F.euf_follows_2) #[] #[(.pointer (some p1)), (.pointer (some p3))])), (11, (.pointer (some p6))), (12, (.pointer (some p7))), (165, (.int .i64 (n21 : Int))), (166, (.int .i64 x31))]) (Wk.sub.cons rfl (Wk.sub.cons rfl (Wk.sub.cons rfl (Wk.sub.cons rfl (Wk.sub.cons rfl (Wk.sub.nil)))))) ?_)
                              refine Wk.cw_region ?_
                              refine Wk.sl_v rfl rfl (Wk.wanted_none rfl) (fun a ha => Wk.x_binOp (ha.ev rfl) (ha.ev rfl) Wk.o_add) ?_
                              refine Wk.sl_v rfl rfl (Wk.wanted_none rfl) (fun a ha => Wk.x_move (ha.ev rfl)) ?_
                              refine Wk.sl_nil ?_
                              obtain ⟨k2, hk, H⟩ := H
                              exact Wk.nx_to fun a ha => ⟨k2, hk, IntKind.wrap .i64 (x31 + 1), ha.weaken (Wk.sub.cons rfl (Wk.sub.cons rfl (Wk.sub.cons rfl (Wk.sub.cons rfl (Wk.sub.cons rfl (Wk.sub.nil)))))), H⟩
                          · replace H := H.2 hb
                            refine Wk.cw_exit ?_
                            refine Wk.nx_exit_then ?_
                            refine Wk.nx_exit_then ?_
                            refine Wk.nx_exit_hit ?_
                            refine Wk.nx_code (Wk.cw_sub (e' := []) (Wk.sub.nil) ?_)
                            refine Wk.cw_seq ?_
                            refine Wk.cw_region ?_
                            refine Wk.sl_v rfl rfl (Wk.wanted_none rfl) (fun a ha => Wk.x_assign (ha.ev rfl)) ?_
                            refine Wk.sl_nil ?_
                            refine Wk.nx_code (Wk.cw_sub (e' := [(8, (.bool true))]) (Wk.sub.cons rfl (Wk.sub.nil)) ?_)
                            refine Wk.cw_ret ?_
                            refine Wk.nx_ret_block ?_
                            refine Wk.nx_ret_then ?_
                            exact Wk.nx_body_ret (Wk.res1 rfl rfl) ⟨_, rfl, _, rfl, H⟩
                      · refine Wk.cw_region ?_
                        refine Wk.sl_v rfl rfl (Wk.wanted_none rfl) (fun a ha => Wk.x_fieldAddr (ha.ev rfl) (TF.fld_api_Flat_0 _ _)) ?_
                        obtain ⟨x28, h62, H⟩ := H
                        refine Wk.sl_v rfl rfl (Wk.wanted_none rfl) (fun a ha => Wk.x_load (ha.ev rfl) (Wk.i_load1 TF.agg_int h62)) ?_
                        refine Wk.sl_v rfl rfl (Wk.wanted_none rfl) (fun a ha => Wk.x_binOp (ha.ev rfl) (ha.ev rfl) Wk.o_lss) ?_
                        rcases Classical.em (x28 < 0) with hb | hb
                        · replace H := H.1 hb
                          refine Wk.sl_v rfl rfl (Wk.wanted_none rfl) (fun a ha => Wk.o_t (Wk.x_move (ha.ev rfl)) hb) ?_
                          refine Wk.sl_skip rfl rfl (Wk.wanted_not rfl rfl rfl rfl) ?_
                          refine Wk.sl_skip rfl rfl (Wk.wanted_not rfl rfl rfl rfl) ?_
                          refine Wk.sl_skip rfl rfl (Wk.wanted_not rfl rfl rfl rfl) ?_
                          refine Wk.sl_skip rfl rfl (Wk.wanted_not rfl rfl rfl rfl) ?_
                          refine Wk.sl_skip rfl rfl (Wk.wanted_not rfl rfl rfl rfl) ?_
                          refine Wk.sl_v rfl rfl (Wk.wanted_none rfl) (fun a ha => Wk.x_pick_t (ha.ev rfl) (ha.ev rfl)) ?_
                          refine Wk.sl_v rfl rfl (Wk.wanted_none rfl) (fun a ha => Wk.x_move (ha.ev rfl)) ?_
                          refine Wk.sl_skip rfl rfl (Wk.wanted_not rfl rfl rfl rfl) ?_
                          refine Wk.sl_skip rfl rfl (Wk.wanted_not rfl rfl rfl rfl) ?_
                          refine Wk.sl_skip rfl rfl (Wk.wanted_not rfl rfl rfl rfl) ?_
                          refine Wk.sl_skip rfl rfl (Wk.wanted_not rfl rfl rfl rfl) ?_
                          refine Wk.sl_skip rfl rfl (Wk.wanted_not rfl rfl rfl rfl) ?_
                          refine Wk.sl_skip rfl rfl (Wk.wanted_not rfl rfl rfl rfl) ?_
                          refine Wk.sl_skip rfl rfl (Wk.wanted_not rfl rfl rfl rfl) ?_
                          refine Wk.sl_v rfl rfl (Wk.wanted_none rfl) (fun a ha => Wk.x_pick_t (ha.ev rfl) (ha.ev rfl)) ?_
                          refine Wk.sl_v rfl rfl (Wk.wanted_none rfl) (fun a ha => Wk.x_move (ha.ev rfl)) ?_
                          refine Wk.sl_skip rfl rfl (Wk.wanted_not rfl rfl rfl rfl) ?_
                          refine Wk.sl_skip rfl rfl (Wk.wanted_not rfl rfl rfl rfl) ?_
                          refine Wk.sl_skip rfl rfl (Wk.wanted_not rfl rfl rfl rfl) ?_
                          refine Wk.sl_skip rfl rfl (Wk.wanted_not rfl rfl rfl rfl) ?_
                          refine Wk.sl_skip rfl rfl (Wk.wanted_not rfl rfl rfl rfl) ?_
                          refine Wk.sl_skip rfl rfl (Wk.wanted_not rfl rfl rfl rfl) ?_
                          refine Wk.sl_skip rfl rfl (Wk.wanted_not rfl rfl rfl rfl) ?_
                          refine Wk.sl_v rfl rfl (Wk.wanted_none rfl) (fun a ha => Wk.x_pick_t (ha.ev rfl) (ha.ev rfl)) ?_
                          refine Wk.sl_nil ?_
                          exact Wk.nx_to fun a ha => ⟨⟨true, ha.weaken (Wk.sub.cons rfl (Wk.sub.cons rfl (Wk.sub.cons rfl (Wk.sub.cons rfl (Wk.sub.cons rfl (Wk.sub.nil)))))), H⟩, rfl⟩
                        · replace H := H.2 hb
                          refine Wk.sl_v rfl rfl (Wk.wanted_none rfl) (fun a ha => Wk.o_f (Wk.x_move (ha.ev rfl)) hb) ?_
                          refine Wk.sl_v rfl rfl (Wk.wanted_some rfl rfl rfl) (fun a ha => Wk.x_fieldAddr (ha.ev rfl) (TF.fld_api_Flat_0 _ _)) ?_
                          obtain ⟨x29, h63, H⟩ := H
                          refine Wk.sl_v rfl rfl (Wk.wanted_some rfl rfl rfl) (fun a ha => Wk.x_load (ha.ev rfl) (Wk.i_load1 TF.agg_int h63)) ?_
                          refine Wk.sl_v rfl rfl (Wk.wanted_some rfl rfl rfl) (fun a ha => Wk.x_fieldAddr (ha.ev rfl) (TF.fld_api_Flat_0 _ _)) ?_
                          obtain ⟨x30, h64, H⟩ := H
                          refine Wk.sl_v rfl rfl (Wk.wanted_some rfl rfl rfl) (fun a ha => Wk.x_load (ha.ev rfl) (Wk.i_load1 TF.agg_int h64)) ?_
                          refine Wk.sl_v rfl rfl (Wk.wanted_some rfl rfl rfl) (fun a ha => Wk.x_binOp (ha.ev rfl) (ha.ev rfl) Wk.o_neq) ?_
                          refine Wk.sl_v rfl rfl (Wk.wanted_none rfl) (fun a ha => Wk.x_pick_f (ha.ev rfl) (ha.ev rfl)) ?_
                          rcases Classical.em (x29 ≠ x30) with hb | hb
                          · replace H := H.1 hb
                            refine Wk.sl_v rfl rfl (Wk.wanted_none rfl) (fun a ha => Wk.o_t (Wk.x_move (ha.ev rfl)) hb) ?_
                            refine Wk.sl_skip rfl rfl (Wk.wanted_not rfl rfl rfl rfl) ?_
                            refine Wk.sl_skip rfl rfl (Wk.wanted_not rfl rfl rfl rfl) ?_
                            refine Wk.sl_skip rfl rfl (Wk.wanted_not rfl rfl rfl rfl) ?_
                            refine Wk.sl_skip rfl rfl (Wk.wanted_not rfl rfl rfl rfl) ?_
                            refine Wk.sl_skip rfl rfl (Wk.wanted_not rfl rfl rfl rfl) ?_
                            refine Wk.sl_skip rfl rfl (Wk.wanted_not rfl rfl rfl rfl) ?_
                            refine Wk.sl_skip rfl rfl (Wk.wanted_not rfl rfl rfl rfl) ?_
                            refine Wk.sl_v rfl rfl (Wk.wanted_none rfl) (fun a ha => Wk.x_pick_t (ha.ev rfl) (ha.ev rfl)) ?_
                            refine Wk.sl_v rfl rfl (Wk.wanted_none rfl) (fun a ha => Wk.x_move (ha.ev rfl)) ?_
                            refine Wk.sl_skip rfl rfl (Wk.wanted_not rfl rfl rfl rfl) ?_
                            refine Wk.sl_skip rfl rfl (Wk.wanted_not rfl rfl rfl rfl) ?_
                            refine Wk.sl_skip rfl rfl (Wk.wanted_not rfl rfl rfl rfl) ?_
                            refine Wk.sl_skip rfl rfl (Wk.wanted_not rfl rfl rfl rfl) ?_
                            refine Wk.sl_skip rfl rfl (Wk.wanted_not rfl rfl rfl rfl) ?_
                            refine Wk.sl_skip rfl rfl (Wk.wanted_not rfl rfl rfl rfl) ?_
                            refine Wk.sl_skip rfl rfl (Wk.wanted_not rfl rfl rfl rfl) ?_
                            refine Wk.sl_v rfl rfl (Wk.wanted_none rfl) (fun a ha => Wk.x_pick_t (ha.ev rfl) (ha.ev rfl)) ?_
                            refine Wk.sl_nil ?_
                            exact Wk.nx_to fun a ha => ⟨⟨true, ha.weaken (Wk.sub.cons rfl (Wk.sub.cons rfl (Wk.sub.cons rfl (Wk.sub.cons rfl (Wk.sub.cons rfl (Wk.sub.nil)))))), H⟩, rfl⟩
                          · replace H := H.2 hb
                            refine Wk.sl_v rfl rfl (Wk.wanted_none rfl) (fun a ha => Wk.o_f (Wk.x_move (ha.ev rfl)) hb) ?_
                            refine Wk.sl_v rfl rfl (Wk.wanted_some rfl rfl rfl) (fun a ha => Wk.x_fieldAddr (ha.ev rfl) (TF.fld_api_Flat_1 _ _)) ?_
                            obtain ⟨A17, n17, c17, h65, H⟩ := H
                            refine Wk.sl_v rfl rfl (Wk.wanted_some rfl rfl rfl) (fun a ha => Wk.x_load (ha.ev rfl) (Wk.i_load1 TF.agg_sl_int h65)) ?_
                            refine Wk.sl_v rfl rfl (Wk.wanted_some rfl rfl rfl) (fun a ha => Wk.x_builtin (ha.evs rfl) (fun _ => Wk.l_slice TF.isslice_sl_int)) ?_
                            refine Wk.sl_v rfl rfl (Wk.wanted_some rfl rfl rfl) (fun a ha => Wk.x_fieldAddr (ha.ev rfl) (TF.fld_api_Flat_1 _ _)) ?_
                            obtain ⟨A18, n18, c18, h66, H⟩ := H
                            refine Wk.sl_v rfl rfl (Wk.wanted_some rfl rfl rfl) (fun a ha => Wk.x_load (ha.ev rfl) (Wk.i_load1 TF.agg_sl_int h66)) ?_
                            refine Wk.sl_v rfl rfl (Wk.wanted_some rfl rfl rfl) (fun a ha => Wk.x_builtin (ha.evs rfl) (fun _ => Wk.l_slice TF.isslice_sl_int)) ?_
                            refine Wk.sl_v rfl rfl (Wk.wanted_some rfl rfl rfl) (fun a ha => Wk.x_binOp (ha.ev rfl) (ha.ev rfl) Wk.o_neq) ?_
                            refine Wk.sl_v rfl rfl (Wk.wanted_none rfl) (fun a ha => Wk.x_pick_f (ha.ev rfl) (ha.ev rfl)) ?_
                            rcases Classical.em ((n17 : Int) ≠ (n18 : Int)) with hb | hb
                            · replace H := H.1 hb
                              refine Wk.sl_v rfl rfl (Wk.wanted_none rfl) (fun a ha => Wk.o_t (Wk.x_move (ha.ev rfl)) hb) ?_
                              refine Wk.sl_skip rfl rfl (Wk.wanted_not rfl rfl rfl rfl) ?_
                              refine Wk.sl_skip rfl rfl (Wk.wanted_not rfl rfl rfl rfl) ?_
                              refine Wk.sl_skip rfl rfl (Wk.wanted_not rfl rfl rfl rfl) ?_
                              refine Wk.sl_skip rfl rfl (Wk.wanted_not rfl rfl rfl rfl) ?_
                              refine Wk.sl_skip rfl rfl (Wk.wanted_not rfl rfl rfl rfl) ?_
                              refine Wk.sl_skip rfl rfl (Wk.wanted_not rfl rfl rfl rfl) ?_
                              refine Wk.sl_skip rfl rfl (Wk.wanted_not rfl rfl rfl rfl) ?_
                              refine Wk.sl_v rfl rfl (Wk.wanted_none rfl) (fun a ha => Wk.x_pick_t (ha.ev rfl) (ha.ev rfl)) ?_
                              refine Wk.sl_nil ?_
                              exact Wk.nx_to fun a ha => ⟨⟨true, ha.weaken (Wk.sub.cons rfl (Wk.sub.cons rfl (Wk.sub.cons rfl (Wk.sub.cons rfl (Wk.sub.cons rfl (Wk.sub.nil)))))), H⟩, rfl⟩
                            · replace H := H.2 hb
                              refine Wk.sl_v rfl rfl (Wk.wanted_none rfl) (fun a ha => Wk.o_f (Wk.x_move (ha.ev rfl)) hb) ?_
                              refine Wk.sl_v rfl rfl (Wk.wanted_some rfl rfl rfl) (fun a ha => Wk.x_fieldAddr (ha.ev rfl) (TF.fld_api_Link_4 _ _)) ?_
                              obtain ⟨A19, n19, c19, h67, H⟩ := H
                              refine Wk.sl_v rfl rfl (Wk.wanted_some rfl rfl rfl) (fun a ha => Wk.x_load (ha.ev rfl) (Wk.i_load1 TF.agg_sl_int h67)) ?_
                              refine Wk.sl_v rfl rfl (Wk.wanted_some rfl rfl rfl) (fun a ha => Wk.x_builtin (ha.evs rfl) (fun _ => Wk.l_slice TF.isslice_sl_int)) ?_
                              refine Wk.sl_v rfl rfl (Wk.wanted_some rfl rfl rfl) (fun a ha => Wk.x_fieldAddr (ha.ev rfl) (TF.fld_api_Flat_1 _ _)) ?_
                              obtain ⟨A20, n20, c20, h68, H⟩ := H
                              refine Wk.sl_v rfl rfl (Wk.wanted_some rfl rfl rfl) (fun a ha => Wk.x_load (ha.ev rfl) (Wk.i_load1 TF.agg_sl_int h68)) ?_
                              refine Wk.sl_v rfl rfl (Wk.wanted_some rfl rfl rfl) (fun a ha => Wk.x_builtin (ha.evs rfl) (fun _ => Wk.l_slice TF.isslice_sl_int)) ?_
                              refine Wk.sl_v rfl rfl (Wk.wanted_some rfl rfl rfl) (fun a ha => Wk.x_binOp (ha.ev rfl) (ha.ev rfl) Wk.o_neq) ?_
                              refine Wk.sl_v rfl rfl (Wk.wanted_none rfl) (fun a ha => Wk.x_pick_f (ha.ev rfl) (ha.ev rfl)) ?_
                              refine Wk.sl_nil ?_
                              exact Wk.nx_to fun a ha => ⟨⟨(decide ((n19 : Int) ≠ (n20 : Int))), ha.weaken (Wk.sub.cons rfl (Wk.sub.cons rfl (Wk.sub.cons rfl (Wk.sub.cons rfl (Wk.sub.cons rfl (Wk.sub.nil)))))), H⟩, rfl⟩
                    · obtain ⟨X1, H⟩ := H
                      refine Wk.cw_any_keep follows X1 [0, 1, 2, 3, 4, 5, 6, 7, 8, 9] [2, 4, 7, 9] 14 rfl rfl (by kernel_rfl) (fun _ _ d _ _ h => by cases d <;> exact h) (fun cm hW hD => ?_)
                      refine Wk.an_p (i := 0) cm rfl (by kernel_rfl) rfl rfl (Wk.wanted_none rfl) (fun w' a ha => Wk.x_move (ha.ev rfl)) rfl ?_
                      intro _ hd; replace hD := hD.trans hd; replace hW := cm.held _ _ hW hd; clear hd
                      refine Wk.an_p (i := 1) cm rfl (by kernel_rfl) rfl rfl (Wk.wanted_none rfl) (fun w' a ha => Wk.x_fieldAddr (ha.ev rfl) (TF.fld_api_Link_1 _ _)) rfl ?_
                      intro _ hd; replace hD := hD.trans hd; replace hW := cm.held _ _ hW hd; clear hd
                      obtain ⟨x24, h46, hx', H⟩ := H; replace h46 := And.intro h46 hx'; clear hx'
                      refine Wk.an_v (i := 2) cm rfl (by kernel_rfl) hW rfl rfl (Wk.wanted_none rfl) (fun w' hw a ha => Wk.x_load (ha.ev rfl) (Wk.i_load1 TF.agg_int (hw.cell h46))) rfl ?_
                      intro _ hd hW; replace hD := hD.trans hd; clear hd
                      obtain ⟨h47, h48, a6, e6, H⟩ := H
                      refine Wk.an_p (i := 3) cm rfl (by kernel_rfl) rfl rfl (Wk.wanted_none rfl) (fun w' a ha => Wk.x_indexAddr (ha.ev rfl) (ha.ev rfl) (Wk.i_index TF.elem_sl_api_Flat TF.size_api_Flat e6 h47 h48)) rfl ?_
                      intro _ hd; replace hD := hD.trans hd; replace hW := cm.held _ _ hW hd; clear hd
                      obtain ⟨x25, A15, n15, c15, h49, hx', H⟩ := H; replace h49 := And.intro h49 hx'; clear hx'
                      refine Wk.an_v (i := 4) cm rfl (by kernel_rfl) hW rfl rfl (Wk.wanted_none rfl) (fun w' hw a ha => Wk.x_load (ha.ev rfl) (Wk.i_loadN (vs := [(.int .i64 x25), (.slice A15 n15 c15)]) TF.agg_api_Flat TF.size_api_Flat (hw.cells h49))) rfl ?_
                      intro _ hd hW; replace hD := hD.trans hd; clear hd
                      refine Wk.an_p (i := 5) cm rfl (by kernel_rfl) rfl rfl (Wk.wanted_none rfl) (fun w' a ha => Wk.x_move (ha.ev rfl)) rfl ?_
                      intro _ hd; replace hD := hD.trans hd; replace hW := cm.held _ _ hW hd; clear hd
                      refine Wk.an_p (i := 6) cm rfl (by kernel_rfl) rfl rfl (Wk.wanted_none rfl) (fun w' a ha => Wk.x_fieldAddr (ha.ev rfl) (TF.fld_api_Link_2 _ _)) rfl ?_
                      intro _ hd; replace hD := hD.trans hd; replace hW := cm.held _ _ hW hd; clear hd
                      obtain ⟨x26, h50, hx', H⟩ := H; replace h50 := And.intro h50 hx'; clear hx'
                      refine Wk.an_v (i := 7) cm rfl (by kernel_rfl) hW rfl rfl (Wk.wanted_none rfl) (fun w' hw a ha => Wk.x_load (ha.ev rfl) (Wk.i_load1 TF.agg_int (hw.cell h50))) rfl ?_
                      intro _ hd hW; replace hD := hD.trans hd; clear hd
                      obtain ⟨h51, h52, a7, e7, H⟩ := H
                      refine Wk.an_p (i := 8) cm rfl (by kernel_rfl) rfl rfl (Wk.wanted_none rfl) (fun w' a ha => Wk.x_indexAddr (ha.ev rfl) (ha.ev rfl) (Wk.i_index TF.elem_sl_api_Flat TF.size_api_Flat e7 h51 h52)) rfl ?_
                      intro _ hd; replace hD := hD.trans hd; replace hW := cm.held _ _ hW hd; clear hd
                      obtain ⟨x27, A16, n16, c16, h53, hx', H⟩ := H; replace h53 := And.intro h53 hx'; clear hx'
                      refine Wk.an_v (i := 9) cm rfl (by kernel_rfl) hW rfl rfl (Wk.wanted_none rfl) (fun w' hw a ha => Wk.x_load (ha.ev rfl) (Wk.i_loadN (vs := [(.int .i64 x27), (.slice A16 n16 c16)]) TF.agg_api_Flat TF.size_api_Flat (hw.cells h53))) rfl ?_
                      intro _ hd hW; replace hD := hD.trans hd; clear hd
                      refine Wk.an_ready (rs := [10, 11]) (by kernel_rfl) rfl (Wk.aw_cons ?_ (Wk.aw_cons ?_ Wk.aw_nil))
                      · replace H := H.1
                        replace H := H _ hD
                        refine Wk.aw_new (f := (fun p => .pointer (some p))) rfl rfl rfl (Wk.wanted_none rfl) (fun a ha => Wk.x_alloc (Wk.i_alloc TF.zero_api_Flat)) rfl true (by kernel_rfl) ?_
                        intro p4 w14 hN _ hD; replace H := H _ _ hN
                        replace hW := (hW.new hN).drawn hD
                        refine ⟨fun _ => hW, ?_⟩
                        refine Wk.an_ready (rs := [11]) (by kernel_rfl) rfl (Wk.aw_cons ?_ Wk.aw_nil)
                        replace H := H _ hD
                        refine Wk.aw_new (f := (fun p => .pointer (some p))) rfl rfl rfl (Wk.wanted_none rfl) (fun a ha => Wk.x_alloc (Wk.i_alloc TF.zero_api_Flat)) rfl true (by kernel_rfl) ?_
                        intro p5 w15 hN _ hD; replace H := H _ _ hN
                        replace hW := (hW.new hN).drawn hD
                        refine ⟨fun _ => hW, ?_⟩
                        refine Wk.an_ready (rs := [12]) (by kernel_rfl) rfl (Wk.aw_cons ?_ Wk.aw_nil)
                        replace H := H _ hD
                        obtain ⟨h56, H⟩ := H
                        refine Wk.aw_un rfl rfl (Wk.wanted_none rfl) (fun a ha => Wk.x_store (ha.ev rfl) (ha.ev rfl) (Wk.i_storeN TF.size_api_Flat (by simp [Value.oneCell']) h56)) rfl true (by kernel_rfl) ?_
                        intro w16 hw _ hD; replace H := H _ hw; clear hw
                        have hW := H.1.drawn hD
                        replace H := H.2
                        refine ⟨fun _ => hW, ?_⟩
                        refine Wk.an_ready (rs := [13]) (by kernel_rfl) rfl (Wk.aw_cons ?_ Wk.aw_nil)
                        replace H := H _ hD
                        obtain ⟨h57, H⟩ := H
                        refine Wk.aw_un rfl rfl (Wk.wanted_none rfl) (fun a ha => Wk.x_store (ha.ev rfl) (ha.ev rfl) (Wk.i_storeN TF.size_api_Flat (by simp [Value.oneCell']) h57)) rfl false (by kernel_rfl) ?_
                        intro w17 hw _ hD; replace H := H _ hw; clear hw
                        refine ⟨fun h => (by cases h), ?_⟩
                        refine Wk.an_end (by kernel_rfl) hD ?_
                        intro w18 hD; replace H := H _ hD; clear hD cm
                        exact Wk.nx_to fun a ha => ⟨p4, p5, ha.weaken (Wk.sub.cons rfl (Wk.sub.cons rfl (Wk.sub.cons rfl (Wk.sub.cons rfl (Wk.sub.nil))))), H⟩
                      · replace H := H.2
                        replace H := H _ hD
                        refine Wk.aw_new (f := (fun p => .pointer (some p))) rfl rfl rfl (Wk.wanted_none rfl) (fun a ha => Wk.x_alloc (Wk.i_alloc TF.zero_api_Flat)) rfl true (by kernel_rfl) ?_
                        intro p8 w24 hN _ hD; replace H := H _ _ hN
                        replace hW := (hW.new hN).drawn hD
                        refine ⟨fun _ => hW, ?_⟩
                        refine Wk.an_ready (rs := [10]) (by kernel_rfl) rfl (Wk.aw_cons ?_ Wk.aw_nil)
                        replace H := H _ hD
                        refine Wk.aw_new (f := (fun p => .pointer (some p))) rfl rfl rfl (Wk.wanted_none rfl) (fun a ha => Wk.x_alloc (Wk.i_alloc TF.zero_api_Flat)) rfl true (by kernel_rfl) ?_
                        intro p9 w25 hN _ hD; replace H := H _ _ hN
                        replace hW := (hW.new hN).drawn hD
                        refine ⟨fun _ => hW, ?_⟩
                        refine Wk.an_ready (rs := [12]) (by kernel_rfl) rfl (Wk.aw_cons ?_ Wk.aw_nil)
                        replace H := H _ hD
                        obtain ⟨h60, H⟩ := H
                        refine Wk.aw_un rfl rfl (Wk.wanted_none rfl) (fun a ha => Wk.x_store (ha.ev rfl) (ha.ev rfl) (Wk.i_storeN TF.size_api_Flat (by simp [Value.oneCell']) h60)) rfl true (by kernel_rfl) ?_
                        intro w26 hw _ hD; replace H := H _ hw; clear hw
                        have hW := H.1.drawn hD
                        replace H := H.2
                        refine ⟨fun _ => hW, ?_⟩
                        refine Wk.an_ready (rs := [13]) (by kernel_rfl) rfl (Wk.aw_cons ?_ Wk.aw_nil)
                        replace H := H _ hD
                        obtain ⟨h61, H⟩ := H
                        refine Wk.aw_un rfl rfl (Wk.wanted_none rfl) (fun a ha => Wk.x_store (ha.ev rfl) (ha.ev rfl) (Wk.i_storeN TF.size_api_Flat (by simp [Value.oneCell']) h61)) rfl false (by kernel_rfl) ?_
                        intro w27 hw _ hD; replace H := H _ hw; clear hw
                        refine ⟨fun h => (by cases h), ?_⟩
                        refine Wk.an_end (by kernel_rfl) hD ?_
                        intro w28 hD; replace H := H _ hD; clear hD cm
                        exact Wk.nx_to fun a ha => ⟨p9, p8, ha.weaken (Wk.sub.cons rfl (Wk.sub.cons rfl (Wk.sub.cons rfl (Wk.sub.cons rfl (Wk.sub.nil))))), H⟩
                  · replace H := H.2 hb
                    refine Wk.cw_skip ?_
                    refine Wk.nx_block ?_
                    refine Wk.nx_code (Wk.cw_sub (e' := []) (Wk.sub.nil) ?_)
                    refine Wk.cw_seq ?_
                    refine Wk.cw_region ?_
                    refine Wk.sl_v rfl rfl (Wk.wanted_none rfl) (fun a ha => Wk.x_assign (ha.ev rfl)) ?_
                    refine Wk.sl_nil ?_
                    refine Wk.nx_code (Wk.cw_sub (e' := [(8, (.bool false))]) (Wk.sub.cons rfl (Wk.sub.nil)) ?_)
                    refine Wk.cw_ret ?_
                    exact Wk.nx_body_ret (Wk.res1 rfl rfl) ⟨_, rfl, _, rfl, H⟩
  · refine Wk.cw_region ?_
    refine Wk.sl_v rfl rfl (Wk.wanted_none rfl) (fun a ha => Wk.x_fieldAddr (ha.ev rfl) (TF.fld_api_Link_1 _ _)) ?_
    obtain ⟨x7, h10, H⟩ := H
    refine Wk.sl_v rfl rfl (Wk.wanted_none rfl) (fun a ha => Wk.x_load (ha.ev rfl) (Wk.i_load1 TF.agg_int h10)) ?_
    refine Wk.sl_v rfl rfl (Wk.wanted_none rfl) (fun a ha => Wk.x_binOp (ha.ev rfl) (ha.ev rfl) Wk.o_lss) ?_
    rcases Classical.em (x7 < 0) with hb | hb
    · replace H := H.1 hb
      refine Wk.sl_v rfl rfl (Wk.wanted_none rfl) (fun a ha => Wk.o_t (Wk.x_move (ha.ev rfl)) hb) ?_
      refine Wk.sl_skip rfl rfl (Wk.wanted_not rfl rfl rfl rfl) ?_
      refine Wk.sl_skip rfl rfl (Wk.wanted_not rfl rfl rfl rfl) ?_
      refine Wk.sl_skip rfl rfl (Wk.wanted_not rfl rfl rfl rfl) ?_
      refine Wk.sl_v rfl rfl (Wk.wanted_none rfl) (fun a ha => Wk.x_pick_t (ha.ev rfl) (ha.ev rfl)) ?_
      refine Wk.sl_v rfl rfl (Wk.wanted_none rfl) (fun a ha => Wk.x_move (ha.ev rfl)) ?_
      refine Wk.sl_skip rfl rfl (Wk.wanted_not rfl rfl rfl rfl) ?_
      refine Wk.sl_skip rfl rfl (Wk.wanted_not rfl rfl rfl rfl) ?_
      refine Wk.sl_skip rfl rfl (Wk.wanted_not rfl rfl rfl rfl) ?_
      refine Wk.sl_skip rfl rfl (Wk.wanted_not rfl rfl rfl rfl) ?_
      refine Wk.sl_skip rfl rfl (Wk.wanted_not rfl rfl rfl rfl) ?_
      refine Wk.sl_v rfl rfl (Wk.wanted_none rfl) (fun a ha => Wk.x_pick_t (ha.ev rfl) (ha.ev rfl)) ?_
      refine Wk.sl_v rfl rfl (Wk.wanted_none rfl) (fun a ha => Wk.x_move (ha.ev rfl)) ?_
      refine Wk.sl_skip rfl rfl (Wk.wanted_not rfl rfl rfl rfl) ?_
      refine Wk.sl_skip rfl rfl (Wk.wanted_not rfl rfl rfl rfl) ?_
      refine Wk.sl_skip rfl rfl (Wk.wanted_not rfl rfl rfl rfl) ?_
      refine Wk.sl_skip rfl rfl (Wk.wanted_not rfl rfl rfl rfl) ?_
      refine Wk.sl_skip rfl rfl (Wk.wanted_not rfl rfl rfl rfl) ?_
      refine Wk.sl_v rfl rfl (Wk.wanted_none rfl) (fun a ha => Wk.x_pick_t (ha.ev rfl) (ha.ev rfl)) ?_
      refine Wk.sl_nil ?_
      exact Wk.nx_to fun a ha => ⟨⟨true, ha.weaken (Wk.sub.cons rfl (Wk.sub.cons rfl (Wk.sub.cons rfl (Wk.sub.cons rfl (Wk.sub.cons rfl (Wk.sub.cons rfl (Wk.sub.nil))))))), H⟩, rfl⟩
    · replace H := H.2 hb
      refine Wk.sl_v rfl rfl (Wk.wanted_none rfl) (fun a ha => Wk.o_f (Wk.x_move (ha.ev rfl)) hb) ?_
      refine Wk.sl_v rfl rfl (Wk.wanted_some rfl rfl rfl) (fun a ha => Wk.x_fieldAddr (ha.ev rfl) (TF.fld_api_Link_2 _ _)) ?_
      obtain ⟨x8, h11, H⟩ := H
      refine Wk.sl_v rfl rfl (Wk.wanted_some rfl rfl rfl) (fun a ha => Wk.x_load (ha.ev rfl) (Wk.i_load1 TF.agg_int h11)) ?_
      refine Wk.sl_v rfl rfl (Wk.wanted_some rfl rfl rfl) (fun a ha => Wk.x_binOp (ha.ev rfl) (ha.ev rfl) Wk.o_lss) ?_
      refine Wk.sl_v rfl rfl (Wk.wanted_none rfl) (fun a ha => Wk.x_pick_f (ha.ev rfl) (ha.ev rfl)) ?_
      rcases Classical.em (x8 < 0) with hb | hb
      · replace H := H.1 hb
        refine Wk.sl_v rfl rfl (Wk.wanted_none rfl) (fun a ha => Wk.o_t (Wk.x_move (ha.ev rfl)) hb) ?_
        refine Wk.sl_skip rfl rfl (Wk.wanted_not rfl rfl rfl rfl) ?_
        refine Wk.sl_skip rfl rfl (Wk.wanted_not rfl rfl rfl rfl) ?_
        refine Wk.sl_skip rfl rfl (Wk.wanted_not rfl rfl rfl rfl) ?_
        refine Wk.sl_skip rfl rfl (Wk.wanted_not rfl rfl rfl rfl) ?_
        refine Wk.sl_skip rfl rfl (Wk.wanted_not rfl rfl rfl rfl) ?_
        refine Wk.sl_v rfl rfl (Wk.wanted_none rfl) (fun a ha => Wk.x_pick_t (ha.ev rfl) (ha.ev rfl)) ?_
        refine Wk.sl_v rfl rfl (Wk.wanted_none rfl) (fun a ha => Wk.x_move (ha.ev rfl)) ?_
        refine Wk.sl_skip rfl rfl (Wk.wanted_not rfl rfl rfl rfl) ?_
        refine Wk.sl_skip rfl rfl (Wk.wanted_not rfl rfl rfl rfl) ?_
        refine Wk.sl_skip rfl rfl (Wk.wanted_not rfl rfl rfl rfl) ?_
        refine Wk.sl_skip rfl rfl (Wk.wanted_not rfl rfl rfl rfl) ?_
        refine Wk.sl_skip rfl rfl (Wk.wanted_not rfl rfl rfl rfl) ?_
        refine Wk.sl_v rfl rfl (Wk.wanted_none rfl) (fun a ha => Wk.x_pick_t (ha.ev rfl) (ha.ev rfl)) ?_
        refine Wk.sl_nil ?_
        exact Wk.nx_to fun a ha => ⟨⟨true, ha.weaken (Wk.sub.cons rfl (Wk.sub.cons rfl (Wk.sub.cons rfl (Wk.sub.cons rfl (Wk.sub.cons rfl (Wk.sub.cons rfl (Wk.sub.nil))))))), H⟩, rfl⟩
      · replace H := H.2 hb
        refine Wk.sl_v rfl rfl (Wk.wanted_none rfl) (fun a ha => Wk.o_f (Wk.x_move (ha.ev rfl)) hb) ?_
        refine Wk.sl_v rfl rfl (Wk.wanted_some rfl rfl rfl) (fun a ha => Wk.x_fieldAddr (ha.ev rfl) (TF.fld_api_Link_1 _ _)) ?_
        obtain ⟨x9, h12, H⟩ := H
        refine Wk.sl_v rfl rfl (Wk.wanted_some rfl rfl rfl) (fun a ha => Wk.x_load (ha.ev rfl) (Wk.i_load1 TF.agg_int h12)) ?_
        refine Wk.sl_v rfl rfl (Wk.wanted_some rfl rfl rfl) (fun a ha => Wk.x_move (ha.ev rfl)) ?_
        refine Wk.sl_v rfl rfl (Wk.wanted_some rfl rfl rfl) (fun a ha => Wk.x_builtin (ha.evs rfl) (fun _ => Wk.l_slice TF.isslice_sl_api_Flat)) ?_
        refine Wk.sl_v rfl rfl (Wk.wanted_some rfl rfl rfl) (fun a ha => Wk.x_binOp (ha.ev rfl) (ha.ev rfl) Wk.o_geq) ?_
        refine Wk.sl_v rfl rfl (Wk.wanted_none rfl) (fun a ha => Wk.x_pick_f (ha.ev rfl) (ha.ev rfl)) ?_
        rcases Classical.em ((n1 : Int) ≤ x9) with hb | hb
        · replace H := H.1 hb
          refine Wk.sl_v rfl rfl (Wk.wanted_none rfl) (fun a ha => Wk.o_t (Wk.x_move (ha.ev rfl)) hb) ?_
          refine Wk.sl_skip rfl rfl (Wk.wanted_not rfl rfl rfl rfl) ?_
          refine Wk.sl_skip rfl rfl (Wk.wanted_not rfl rfl rfl rfl) ?_
          refine Wk.sl_skip rfl rfl (Wk.wanted_not rfl rfl rfl rfl) ?_
          refine Wk.sl_skip rfl rfl (Wk.wanted_not rfl rfl rfl rfl) ?_
          refine Wk.sl_skip rfl rfl (Wk.wanted_not rfl rfl rfl rfl) ?_
          refine Wk.sl_v rfl rfl (Wk.wanted_none rfl) (fun a ha => Wk.x_pick_t (ha.ev rfl) (ha.ev rfl)) ?_
          refine Wk.sl_nil ?_
          exact Wk.nx_to fun a ha => ⟨⟨true, ha.weaken (Wk.sub.cons rfl (Wk.sub.cons rfl (Wk.sub.cons rfl (Wk.sub.cons rfl (Wk.sub.cons rfl (Wk.sub.cons rfl (Wk.sub.nil))))))), H⟩, rfl⟩
        · replace H := H.2 hb
          refine Wk.sl_v rfl rfl (Wk.wanted_none rfl) (fun a ha => Wk.o_f (Wk.x_move (ha.ev rfl)) hb) ?_
          refine Wk.sl_v rfl rfl (Wk.wanted_some rfl rfl rfl) (fun a ha => Wk.x_fieldAddr (ha.ev rfl) (TF.fld_api_Link_2 _ _)) ?_
          obtain ⟨x10, h13, H⟩ := H
          refine Wk.sl_v rfl rfl (Wk.wanted_some rfl rfl rfl) (fun a ha => Wk.x_load (ha.ev rfl) (Wk.i_load1 TF.agg_int h13)) ?_
          refine Wk.sl_v rfl rfl (Wk.wanted_some rfl rfl rfl) (fun a ha => Wk.x_move (ha.ev rfl)) ?_
          refine Wk.sl_v rfl rfl (Wk.wanted_some rfl rfl rfl) (fun a ha => Wk.x_builtin (ha.evs rfl) (fun _ => Wk.l_slice TF.isslice_sl_api_Flat)) ?_
          refine Wk.sl_v rfl rfl (Wk.wanted_some rfl rfl rfl) (fun a ha => Wk.x_binOp (ha.ev rfl) (ha.ev rfl) Wk.o_geq) ?_
          refine Wk.sl_v rfl rfl (Wk.wanted_none rfl) (fun a ha => Wk.x_pick_f (ha.ev rfl) (ha.ev rfl)) ?_
          refine Wk.sl_nil ?_
          exact Wk.nx_to fun a ha => ⟨⟨(decide ((n1 : Int) ≤ x10)), ha.weaken (Wk.sub.cons rfl (Wk.sub.cons rfl (Wk.sub.cons rfl (Wk.sub.cons rfl (Wk.sub.cons rfl (Wk.sub.cons rfl (Wk.sub.nil))))))), H⟩, rfl⟩
def vc_euf_Audit (A1 : Option Addr) (n1 : Nat) (c1 : Nat) (A2 : Option Addr) (n2 : Nat) (c2 : Nat) (A3 : Option Addr) (n3 : Nat) (c3 : Nat) (K : Int → Int → World → Prop) (w : World) : Prop :=
  Calls P F.euf_sound #[(.slice A1 n1 c1)] w (Wk.Ret fun v1 w1 => ∃ b1 : Bool, v1 = (.bool b1) ∧ ((!b1) = true → (K 0 80 w1)) ∧ ((!b1) = false → (∃ I1 : Nat → Int → World → Prop, (∃ k1, I1 k1 0 w1) ∧ ∀ k1 (x3 : Int) (w2 : World), I1 k1 x3 w2 → ((x3 < (n3 : Int) → (Calls P F.euf_follows #[(.slice A1 n1 c1), (.slice A2 n2 c2), (.slice A3 n3 c3), (.int .i64 x3)] w2 (Wk.Ret fun v2 w3 => ∃ b2 : Bool, v2 = (.bool b2) ∧ ((!b2) = true → (K x3 0 w3)) ∧ ((!b2) = false → (∃ k2, k2 < k1 ∧ I1 k2 (IntKind.wrap .i64 (x3 + 1)) w3))))) ∧ (¬ (x3 < (n3 : Int)) → (K (-1) 0 w2))))))
set_option maxHeartbeats 2000000 in
set_option maxRecDepth 20000 in
theorem ok_euf_Audit (A1 : Option Addr) (n1 : Nat) (c1 : Nat) (A2 : Option Addr) (n2 : Nat) (c2 : Nat) (A3 : Option Addr) (n3 : Nat) (c3 : Nat) (K : Int → Int → World → Prop) (w : World) (H : vc_euf_Audit A1 n1 c1 A2 n2 c2 A3 n3 c3 K w) : Calls P F.euf_Audit #[(.slice A1 n1 c1), (.slice A2 n2 c2), (.slice A3 n3 c3)] w (Wk.Ret fun v w' => ∃ x1 : Int, ∃ x2 : Int, v = (.tuple #[(.int .i64 x1), (.int .i64 x2)]) ∧ K x1 x2 w') := by
  unfold vc_euf_Audit at H
  refine Wk.calls_of (P := P) Try.func5 rfl [(0, (.slice A1 n1 c1)), (1, (.slice A2 n2 c2)), (2, (.slice A3 n3 c3))] 25 rfl rfl (fun p hp => by simp only [List.mem_cons, List.not_mem_nil, or_false] at hp; rcases hp with rfl | rfl | rfl <;> rfl) ?_
  refine Wk.cw_seq ?_
  refine Wk.cw_region ?_
  refine Wk.sl_v rfl rfl (Wk.wanted_none rfl) (fun a ha => Wk.x_assign (ha.ev rfl)) ?_
  refine Wk.sl_v rfl rfl (Wk.wanted_none rfl) (fun a ha => Wk.x_assign (ha.ev rfl)) ?_
  refine Wk.sl_nil ?_
  refine Wk.nx_code (Wk.cw_sub (e' := [(0, (.slice A1 n1 c1)), (1, (.slice A2 n2 c2)), (2, (.slice A3 n3 c3))]) (Wk.sub.cons rfl (Wk.sub.cons rfl (Wk.sub.cons rfl (Wk.sub.nil)))) ?_)
  refine Wk.cw_seq ?_
  refine Wk.cw_seq ?_
  refine Wk.cw_region ?_
  refine Wk.sl_v rfl rfl (Wk.wanted_none rfl) (fun a ha => Wk.x_move (ha.ev rfl)) ?_
  refine Wk.sl_call rfl rfl (Wk.wanted_none rfl) (fun a ha => Wk.x_call0 (ha.ev rfl) (ha.evs rfl) FF.callable_euf_sound) H ?_
  rintro _ w1 ⟨b1, rfl, H⟩
  refine Wk.sl_v rfl rfl (Wk.wanted_none rfl) (fun a ha => Wk.x_unOp (ha.ev rfl) Wk.u_not) ?_
  refine Wk.sl_nil ?_
  refine Wk.nx_code (Wk.cw_sub (e' := [(0, (.slice A1 n1 c1)), (1, (.slice A2 n2 c2)), (2, (.slice A3 n3 c3)), (11, (.bool (!b1)))]) (Wk.sub.cons rfl (Wk.sub.cons rfl (Wk.sub.cons rfl (Wk.sub.cons rfl (Wk.sub.nil))))) ?_)
  refine Wk.cw_cond rfl (fun hb => ?_) (fun hb => ?_)
  · replace H := H.1 hb
    refine Wk.cw_seq ?_
    refine Wk.cw_region ?_
    refine Wk.sl_v rfl rfl (Wk.wanted_none rfl) (fun a ha => Wk.x_assign (ha.ev rfl)) ?_
    refine Wk.sl_v rfl rfl (Wk.wanted_none rfl) (fun a ha => Wk.x_assign (ha.ev rfl)) ?_
    refine Wk.sl_nil ?_
    refine Wk.nx_code (Wk.cw_sub (e' := [(6, (.int .i64 0)), (7, (.int .i64 80))]) (Wk.sub.cons rfl (Wk.sub.cons rfl (Wk.sub.nil))) ?_)
    refine Wk.cw_ret ?_
    refine Wk.nx_ret_then ?_
    exact Wk.nx_body_ret (Wk.res2 rfl rfl rfl) ⟨_, rfl, _, _, rfl, H⟩
  · replace H := H.2 hb
    refine Wk.cw_skip ?_
    refine Wk.nx_code (Wk.cw_sub (e' := [(0, (.slice A1 n1 c1)), (1, (.slice A2 n2 c2)), (2, (.slice A3 n3 c3))]) (Wk.sub.cons rfl (Wk.sub.cons rfl (Wk.sub.cons rfl (Wk.sub.nil)))) ?_)
    refine Wk.cw_seq ?_
    refine Wk.cw_seq ?_
    refine Wk.cw_region ?_
    refine Wk.sl_v rfl rfl (Wk.wanted_none rfl) (fun a ha => Wk.x_move (ha.ev rfl)) ?_
    refine Wk.sl_v rfl rfl (Wk.wanted_none rfl) (fun a ha => Wk.x_builtin (ha.evs rfl) (fun _ => Wk.l_slice TF.isslice_sl_api_Link)) ?_
    refine Wk.sl_v rfl rfl (Wk.wanted_none rfl) (fun a ha => Wk.x_move (ha.ev rfl)) ?_
    refine Wk.sl_nil ?_
    refine Wk.nx_code (Wk.cw_sub (e' := [(0, (.slice A1 n1 c1)), (1, (.slice A2 n2 c2)), (2, (.slice A3 n3 c3)), (13, (.int .i64 (n3 : Int))), (14, (.int .i64 0))]) (Wk.sub.cons rfl (Wk.sub.cons rfl (Wk.sub.cons rfl (Wk.sub.cons rfl (Wk.sub.cons rfl (Wk.sub.nil)))))) ?_)
    refine Wk.cw_block ?_
    obtain ⟨I1, ⟨k1, hi⟩, H⟩ := H
    refine Wk.cw_loop (fun k1 a w' => ∃ x3 : Int, Wk.Ok 25 [(0, (.slice A1 n1 c1)), (1, (.slice A2 n2 c2)), (2, (.slice A3 n3 c3)), (13, (.int .i64 (n3 : Int))), (14, (.int .i64 x3))] a ∧ I1 k1 x3 w') (fun a ha => ⟨k1, 0, ha.weaken (Wk.sub.cons rfl (Wk.sub.cons rfl (Wk.sub.cons rfl (Wk.sub.cons rfl (Wk.sub.cons rfl (Wk.sub.nil)))))), hi⟩) ?_
    rintro k1 a w2 ⟨x3, ha, hI⟩
    replace H := H k1 x3 w2 hI
    refine (?_ : Wk.CW _ _ _ 25 [(0, (.slice A1 n1 c1)), (1, (.slice A2 n2 c2)), (2, (.slice A3 n3 c3)), (13, (.int .i64 (n3 : Int))), (14, (.int .i64 x3))] _) a ha
    refine Wk.cw_seq ?_
    refine Wk.cw_region ?_
    refine Wk.sl_v rfl rfl (Wk.wanted_none rfl) (fun a ha => Wk.x_binOp (ha.ev rfl) (ha.ev rfl) Wk.o_lss) ?_
    refine Wk.sl_nil ?_
    refine Wk.nx_code (Wk.cw_sub (e' := [(0, (.slice A1 n1 c1)), (1, (.slice A2 n2 c2)), (2, (.slice A3 n3 c3)), (13, (.int .i64 (n3 : Int))), (14, (.int .i64 x3)), (15, (.bool (decide (x3 < (n3 : Int)))))]) (Wk.sub.cons rfl (Wk.sub.cons rfl (Wk.sub.cons rfl (Wk.sub.cons rfl (Wk.sub.cons rfl (Wk.sub.cons rfl (Wk.sub.nil))))))) ?_)
    refine Wk.cw_seq ?_
    refine Wk.cw_cond_p rfl (fun hb => ?_) (fun hb => ?_)
    · replace H := H.1 hb
      refine Wk.cw_skip ?_
      refine Wk.nx_code (Wk.cw_sub (e' := [(0, (.slice A1 n1 c1)), (1, (.slice A2 n2 c2)), (2, (.slice A3 n3 c3)), (13, (.int .i64 (n3 : Int))), (14, (.int .i64 x3))]) (Wk.sub.cons rfl (Wk.sub.cons rfl (Wk.sub.cons rfl (Wk.sub.cons rfl (Wk.sub.cons rfl (Wk.sub.nil)))))) ?_)
      refine Wk.cw_seq ?_
      refine Wk.cw_block ?_
      refine Wk.cw_seq ?_
      refine Wk.cw_region ?_
      refine Wk.sl_v rfl rfl (Wk.wanted_none rfl) (fun a ha => Wk.x_move (ha.ev rfl)) ?_
      refine Wk.sl_v rfl rfl (Wk.wanted_none rfl) (fun a ha => Wk.x_assign (ha.ev rfl)) ?_
      refine Wk.sl_nil ?_
      refine Wk.nx_code (Wk.cw_sub (e' := [(0, (.slice A1 n1 c1)), (1, (.slice A2 n2 c2)), (2, (.slice A3 n3 c3)), (8, (.int .i64 x3)), (13, (.int .i64 (n3 : Int))), (14, (.int .i64 x3))]) (Wk.sub.cons rfl (Wk.sub.cons rfl (Wk.sub.cons rfl (Wk.sub.cons rfl (Wk.sub.cons rfl (Wk.sub.cons rfl (Wk.sub.nil))))))) ?_)
      refine Wk.cw_seq ?_
      refine Wk.cw_region ?_
      refine Wk.sl_v rfl rfl (Wk.wanted_none rfl) (fun a ha => Wk.x_move (ha.ev rfl)) ?_
      refine Wk.sl_v rfl rfl (Wk.wanted_none rfl) (fun a ha => Wk.x_move (ha.ev rfl)) ?_
      refine Wk.sl_v rfl rfl (Wk.wanted_none rfl) (fun a ha => Wk.x_move (ha.ev rfl)) ?_
      refine Wk.sl_v rfl rfl (Wk.wanted_none rfl) (fun a ha => Wk.x_move (ha.ev rfl)) ?_
      refine Wk.sl_call rfl rfl (Wk.wanted_none rfl) (fun a ha => Wk.x_call0 (ha.ev rfl) (ha.evs rfl) FF.callable_euf_follows) H ?_
      rintro _ w3 ⟨b2, rfl, H⟩
      refine Wk.sl_v rfl rfl (Wk.wanted_none rfl) (fun a ha => Wk.x_unOp (ha.ev rfl) Wk.u_not) ?_
      refine Wk.sl_nil ?_
      refine Wk.nx_code (Wk.cw_sub (e' := [(0, (.slice A1 n1 c1)), (1, (.slice A2 n2 c2)), (2, (.slice A3 n3 c3)), (8, (.int .i64 x3)), (13, (.int .i64 (n3 : Int))), (14, (.int .i64 x3)), (22, (.bool (!b2)))]) (Wk.sub.cons rfl (Wk.sub.cons rfl (Wk.sub.cons rfl (Wk.sub.cons rfl (Wk.sub.cons rfl (Wk.sub.cons rfl (Wk.sub.cons rfl (Wk.sub.nil)))))))) ?_)
      refine Wk.cw_cond rfl (fun hb => ?_) (fun hb => ?_)
      · replace H := H.1 hb
        refine Wk.cw_seq ?_
        refine Wk.cw_region ?_
        refine Wk.sl_v rfl rfl (Wk.wanted_none rfl) (fun a ha => Wk.x_move (ha.ev rfl)) ?_
        refine Wk.sl_v rfl rfl (Wk.wanted_none rfl) (fun a ha => Wk.x_assign (ha.ev rfl)) ?_
        refine Wk.sl_v rfl rfl (Wk.wanted_none rfl) (fun a ha => Wk.x_assign (ha.ev rfl)) ?_
        refine Wk.sl_nil ?_
        refine Wk.nx_code (Wk.cw_sub (e' := [(6, (.int .i64 x3)), (7, (.int .i64 0))]) (Wk.sub.cons rfl (Wk.sub.cons rfl (Wk.sub.nil))) ?_)
        refine Wk.cw_ret ?_
        refine Wk.nx_ret_block ?_
        refine Wk.nx_ret_then ?_
        refine Wk.nx_ret_then ?_
        refine Wk.nx_ret_block ?_
        refine Wk.nx_ret_then ?_
        exact Wk.nx_body_ret (Wk.res2 rfl rfl rfl) ⟨_, rfl, _, _, rfl, H⟩
      · replace H := H.2 hb
        refine Wk.cw_skip ?_
        refine Wk.nx_block ?_
        refine Wk.nx_code (Wk.cw_sub (e' := [(0, (.slice A1 n1 c1)), (1, (.slice A2 n2 c2)), (2, (.slice A3 n3 c3)), (13, (.int .i64 (n3 : Int))), (14, (.int .i64 x3))]) (Wk.sub.cons rfl (Wk.sub.cons rfl (Wk.sub.cons rfl (Wk.sub.cons rfl (Wk.sub.cons rfl (Wk.sub.nil)))))) ?_)
        refine Wk.cw_region ?_
        refine Wk.sl_v rfl rfl (Wk.wanted_none rfl) (fun a ha => Wk.x_binOp (ha.ev rfl) (ha.ev rfl) Wk.o_add) ?_
        refine Wk.sl_v rfl rfl (Wk.wanted_none rfl) (fun a ha => Wk.x_move (ha.ev rfl)) ?_
        refine Wk.sl_nil ?_
        obtain ⟨k2, hk, H⟩ := H
        exact Wk.nx_to fun a ha => ⟨k2, hk, IntKind.wrap .i64 (x3 + 1), ha.weaken (Wk.sub.cons rfl (Wk.sub.cons rfl (Wk.sub.cons rfl (Wk.sub.cons rfl (Wk.sub.cons rfl (Wk.sub.nil)))))), H⟩
    · replace H := H.2 hb
      refine Wk.cw_exit ?_
      refine Wk.nx_exit_then ?_
      refine Wk.nx_exit_then ?_
      refine Wk.nx_exit_hit ?_
      refine Wk.nx_code (Wk.cw_sub (e' := []) (Wk.sub.nil) ?_)
      refine Wk.cw_seq ?_
      refine Wk.cw_region ?_
      refine Wk.sl_v rfl rfl (Wk.wanted_none rfl) (fun a ha => Wk.x_assign (ha.ev rfl)) ?_
      refine Wk.sl_v rfl rfl (Wk.wanted_none rfl) (fun a ha => Wk.x_assign (ha.ev rfl)) ?_
      refine Wk.sl_nil ?_
      refine Wk.nx_code (Wk.cw_sub (e' := [(6, (.int .i64 (-1))), (7, (.int .i64 0))]) (Wk.sub.cons rfl (Wk.sub.cons rfl (Wk.sub.nil))) ?_)
      refine Wk.cw_ret ?_
      exact Wk.nx_body_ret (Wk.res2 rfl rfl rfl) ⟨_, rfl, _, _, rfl, H⟩
def vc_arbiterlaw13_worth_J1 (w3 : World) (A4 : Option Addr) (n4 : Nat) (c4 : Nat) (k1 : Nat) (I1 : Nat → Option Addr → Nat → Nat → Int → World → Prop) (x2 : Int) (x13 : Int) : Prop :=
  ∀ (p2 : Addr) (w4 : World), Wk.New w3 (.cells #[(.int .i64 x13)] T.int) p2 w4 → (∃ (A9 : Option Addr) (n9 c9 : Nat) (w5 : World), (Builtin.append_ #[T.sl_int, T.sl_int] T.sl_int #[(.slice A4 n4 c4), (.slice (some p2) 1 1)]).run P w4 = .ok (.slice A9 n9 c9) w5 ∧ (∃ k4, k4 < k1 ∧ I1 k4 A9 n9 c9 (IntKind.wrap .i64 (x2 + 1)) w5))
def vc_arbiterlaw13_worth_J2 (w3 : World) (A4 : Option Addr) (n4 : Nat) (c4 : Nat) (k1 : Nat) (I1 : Nat → Option Addr → Nat → Nat → Int → World → Prop) (x2 : Int) (x12 : Int) : Prop :=
  (x12 < 0 → ((vc_arbiterlaw13_worth_J1 w3 A4 n4 c4 k1 I1 x2) (IntKind.wrap .i64 (0 - x12)))) ∧ (¬ (x12 < 0) → ((vc_arbiterlaw13_worth_J1 w3 A4 n4 c4 k1 I1 x2) x12))
def vc_arbiterlaw13_worth_J3 (x1 : Int) (n2 : Nat) (A2 : Option Addr) (w3 : World) (A4 : Option Addr) (n4 : Nat) (c4 : Nat) (k1 : Nat) (I1 : Nat → Option Addr → Nat → Nat → Int → World → Prop) (x2 : Int) (x10 : Int) : Prop :=
  x1 ≠ 0 ∧ (0 < (n2 : Int) → ((n2 : Int) ≠ 0 ∧ 0 ≤ Int.tmod x10 (n2 : Int) ∧ Int.tmod x10 (n2 : Int) < (n2 : Int) ∧ ∃ a4, A2 = some a4 ∧ ∃ x11 : Int, w3.cell? (a4.add ((Int.tmod x10 (n2 : Int)).toNat * 1)) = some (.int .i64 x11) ∧ x1 ≠ 0 ∧ (vc_arbiterlaw13_worth_J2 w3 A4 n4 c4 k1 I1 x2) (Int.tmod x11 x1))) ∧ (¬ (0 < (n2 : Int)) → ((vc_arbiterlaw13_worth_J2 w3 A4 n4 c4 k1 I1 x2) (Int.tmod x10 x1)))
def vc_arbiterlaw13_worth (A1 : Option Addr) (n1 : Nat) (c1 : Nat) (A2 : Option Addr) (n2 : Nat) (c2 : Nat) (x1 : Int) (K : Option Addr → Nat → Nat → World → Prop) (w : World) : Prop :=
  ∃ I1 : Nat → Option Addr → Nat → Nat → Int → World → Prop, (∃ k1, I1 k1 none 0 0 0 w) ∧ ∀ k1 (A4 : Option Addr) (n4 : Nat) (c4 : Nat) (x2 : Int) (w1 : World), I1 k1 A4 n4 c4 x2 w1 → ((x2 < (n1 : Int) → (0 ≤ x2 ∧ x2 < (n1 : Int) ∧ ∃ a1, A1 = some a1 ∧ ∃ x3 : Int, ∃ A5 : Option Addr, ∃ n5 : Nat, ∃ c5 : Nat, Wk.CellsAt w1 (a1.add (x2.toNat * 2)) [(.int .i64 x3), (.slice A5 n5 c5)] ∧ ∀ (p1 : Addr) (w2 : World), Wk.New w1 (.cells #[(.int .i64 0), (.slice none 0 0)] T.api_Flat) p1 w2 → (Wk.Soft w2 p1 2 ∧ ∀ w3, w3 = Wk.setCellsAt w2 p1 [(.int .i64 x3), (.slice A5 n5 c5)] → (∃ x4 : Int, w3.cell? (p1.add 0) = some (.int .i64 x4) ∧ (0 ≤ x4 → (∃ x5 : Int, w3.cell? (p1.add 0) = some (.int .i64 x5) ∧ ∃ I2 : Nat → Int → Int → Prop, (∃ k2, I2 k2 (IntKind.wrap .i64 (3 + (Int.tmod x5 1000003))) 0) ∧ ∀ k2 (x6 : Int) (x7 : Int), I2 k2 x6 x7 → (∃ A6 : Option Addr, ∃ n6 : Nat, ∃ c6 : Nat, w3.cell? (p1.add 1) = some (.slice A6 n6 c6) ∧ (x7 < (n6 : Int) → (∃ A7 : Option Addr, ∃ n7 : Nat, ∃ c7 : Nat, w3.cell? (p1.add 1) = some (.slice A7 n7 c7) ∧ 0 ≤ x7 ∧ x7 < (n7 : Int) ∧ ∃ a2, A7 = some a2 ∧ ∃ x8 : Int, w3.cell? (a2.add (x7.toNat * 1)) = some (.int .i64 x8) ∧ 0 ≤ x8 ∧ x8 < (n4 : Int) ∧ ∃ a3, A4 = some a3 ∧ ∃ x9 : Int, w3.cell? (a3.add (x8.toNat * 1)) = some (.int .i64 x9) ∧ ∃ k3, k3 < k2 ∧ I2 k3 (Int.tmod (IntKind.wrap .i64 ((IntKind.wrap .i64 ((IntKind.wrap .i64 (x6 * 31)) + x9)) + (IntKind.wrap .i64 (5 * x7)))) 1000003) (IntKind.wrap .i64 (x7 + 1)))) ∧ (¬ (x7 < (n6 : Int)) → (∃ A8 : Option Addr, ∃ n8 : Nat, ∃ c8 : Nat, w3.cell? (p1.add 1) = some (.slice A8 n8 c8) ∧ (vc_arbiterlaw13_worth_J3 x1 n2 A2 w3 A4 n4 c4 k1 I1 x2) (IntKind.wrap .i64 (x6 + (n8 : Int)))))))) ∧ (¬ (0 ≤ x4) → ((vc_arbiterlaw13_worth_J3 x1 n2 A2 w3 A4 n4 c4 k1 I1 x2) (IntKind.wrap .i64 ((IntKind.wrap .i64 (7 * x2)) + 1)))))))) ∧ (¬ (x2 < (n1 : Int)) → (K A4 n4 c4 w1)))
set_option maxHeartbeats 2000000 in
set_option maxRecDepth 20000 in
theorem ok_arbiterlaw13_worth (A1 : Option Addr) (n1 : Nat) (c1 : Nat) (A2 : Option Addr) (n2 : Nat) (c2 : Nat) (x1 : Int) (K : Option Addr → Nat → Nat → World → Prop) (w : World) (H : vc_arbiterlaw13_worth A1 n1 c1 A2 n2 c2 x1 K w) : Calls P F.arbiterlaw13_worth #[(.slice A1 n1 c1), (.slice A2 n2 c2), (.int .i64 x1)] w (Wk.Ret fun v w' => ∃ A3 : Option Addr, ∃ n3 : Nat, ∃ c3 : Nat, v = (.slice A3 n3 c3) ∧ K A3 n3 c3 w') := by
  unfold vc_arbiterlaw13_worth at H
  refine Wk.calls_of (P := P) Try.func12 rfl [(0, (.slice A1 n1 c1)), (1, (.slice A2 n2 c2)), (2, (.int .i64 x1))] 84 rfl rfl (fun p hp => by simp only [List.mem_cons, List.not_mem_nil, or_false] at hp; rcases hp with rfl | rfl | rfl <;> rfl) ?_
  refine Wk.cw_seq ?_
  refine Wk.cw_region ?_
  refine Wk.sl_v rfl rfl (Wk.wanted_none rfl) (fun a ha => Wk.x_assign (ha.ev rfl)) ?_
  refine Wk.sl_nil ?_
  refine Wk.nx_code (Wk.cw_sub (e' := [(0, (.slice A1 n1 c1)), (1, (.slice A2 n2 c2)), (2, (.int .i64 x1))]) (Wk.sub.cons rfl (Wk.sub.cons rfl (Wk.sub.cons rfl (Wk.sub.nil)))) ?_)
  refine Wk.cw_seq ?_
  refine Wk.cw_region ?_
  refine Wk.sl_v rfl rfl (Wk.wanted_none rfl) (fun a ha => Wk.x_assign (ha.ev rfl)) ?_
  refine Wk.sl_nil ?_
  refine Wk.nx_code (Wk.cw_sub (e' := [(0, (.slice A1 n1 c1)), (1, (.slice A2 n2 c2)), (2, (.int .i64 x1)), (7, (.slice none 0 0))]) (Wk.sub.cons rfl (Wk.sub.cons rfl (Wk.sub.cons rfl (Wk.sub.cons rfl (Wk.sub.nil))))) ?_)
  refine Wk.cw_seq ?_
  refine Wk.cw_seq ?_
  refine Wk.cw_region ?_
  refine Wk.sl_v rfl rfl (Wk.wanted_none rfl) (fun a ha => Wk.x_assign (ha.ev rfl)) ?_
  refine Wk.sl_nil ?_
  refine Wk.nx_code (Wk.cw_sub (e' := [(0, (.slice A1 n1 c1)), (1, (.slice A2 n2 c2)), (2, (.int .i64 x1)), (7, (.slice none 0 0)), (8, (.int .i64 0))]) (Wk.sub.cons rfl (Wk.sub.cons rfl (Wk.sub.cons rfl (Wk.sub.cons rfl (Wk.sub.cons rfl (Wk.sub.nil)))))) ?_)
  refine Wk.cw_block ?_
  obtain ⟨I1, ⟨k1, hi⟩, H⟩ := H
  refine Wk.cw_loop (fun k1 a w' => ∃ A4 : Option Addr, ∃ n4 : Nat, ∃ c4 : Nat, ∃ x2 : Int, Wk.Ok 84 [(0, (.slice A1 n1 c1)), (1, (.slice A2 n2 c2)), (2, (.int .i64 x1)), (7, (.slice A4 n4 c4)), (8, (.int .i64 x2))] a ∧ I1 k1 A4 n4 c4 x2 w') (fun a ha => ⟨k1, none, 0, 0, 0, ha.weaken (Wk.sub.cons rfl (Wk.sub.cons rfl (Wk.sub.cons rfl (Wk.sub.cons rfl (Wk.sub.cons rfl (Wk.sub.nil)))))), hi⟩) ?_
  rintro k1 a w1 ⟨A4, n4, c4, x2, ha, hI⟩
  replace H := H k1 A4 n4 c4 x2 w1 hI
  refine (?_ : Wk.CW _ _ _ 84 [(0, (.slice A1 n1 c1)), (1, (.slice A2 n2 c2)), (2, (.int .i64 x1)), (7, (.slice A4 n4 c4)), (8, (.int .i64 x2))] _) a ha
  refine Wk.cw_seq ?_
  refine Wk.cw_seq ?_
  refine Wk.cw_region ?_
  refine Wk.sl_v rfl rfl (Wk.wanted_none rfl) (fun a ha => Wk.x_move (ha.ev rfl)) ?_
  refine Wk.sl_v rfl rfl (Wk.wanted_none rfl) (fun a ha => Wk.x_move (ha.ev rfl)) ?_
  refine Wk.sl_v rfl rfl (Wk.wanted_none rfl) (fun a ha => Wk.x_builtin (ha.evs rfl) (fun _ => Wk.l_slice TF.isslice_sl_api_Flat)) ?_
  refine Wk.sl_v rfl rfl (Wk.wanted_none rfl) (fun a ha => Wk.x_binOp (ha.ev rfl) (ha.ev rfl) Wk.o_lss) ?_
  refine Wk.sl_nil ?_
  refine Wk.nx_code (Wk.cw_sub (e' := [(0, (.slice A1 n1 c1)), (1, (.slice A2 n2 c2)), (2, (.int .i64 x1)), (7, (.slice A4 n4 c4)), (8, (.int .i64 x2)), (16, (.bool (decide (x2 < (n1 : Int)))))]) (Wk.sub.cons rfl (Wk.sub.cons rfl (Wk.sub.cons rfl (Wk.sub.cons rfl (Wk.sub.cons rfl (Wk.sub.cons rfl (Wk.sub.nil))))))) ?_)
  refine Wk.cw_cond_p rfl (fun hb => ?_) (fun hb => ?_)
  · replace H := H.1 hb
    refine Wk.cw_skip ?_
    refine Wk.nx_code (Wk.cw_sub (e' := [(0, (.slice A1 n1 c1)), (1, (.slice A2 n2 c2)), (2, (.int .i64 x1)), (7, (.slice A4 n4 c4)), (8, (.int .i64 x2))]) (Wk.sub.cons rfl (Wk.sub.cons rfl (Wk.sub.cons rfl (Wk.sub.cons rfl (Wk.sub.cons rfl (Wk.sub.nil)))))) ?_)
    refine Wk.cw_seq ?_
    refine Wk.cw_block ?_
    refine Wk.cw_seq ?_
    refine Wk.cw_region ?_
    refine Wk.sl_v rfl rfl (Wk.wanted_none rfl) (fun a ha => Wk.x_move (ha.ev rfl)) ?_
    refine Wk.sl_v rfl rfl (Wk.wanted_none rfl) (fun a ha => Wk.x_move (ha.ev rfl)) ?_
    obtain ⟨h1, h2, a1, e1, H⟩ := H
    refine Wk.sl_v rfl rfl (Wk.wanted_none rfl) (fun a ha => Wk.x_indexAddr (ha.ev rfl) (ha.ev rfl) (Wk.i_index TF.elem_sl_api_Flat TF.size_api_Flat e1 h1 h2)) ?_
    obtain ⟨x3, A5, n5, c5, h3, H⟩ := H
    refine Wk.sl_v rfl rfl (Wk.wanted_none rfl) (fun a ha => Wk.x_load (ha.ev rfl) (Wk.i_loadN (vs := [(.int .i64 x3), (.slice A5 n5 c5)]) TF.agg_api_Flat TF.size_api_Flat h3)) ?_
    refine Wk.sl_new (f := (fun p => .pointer (some p))) rfl rfl (Wk.wanted_none rfl) (fun a ha => Wk.x_alloc (Wk.i_alloc TF.zero_api_Flat)) ?_
    intro p1 w2 hN; replace H := H _ _ hN
    obtain ⟨h5, H⟩ := H
    refine Wk.sl_un rfl (Wk.wanted_none rfl) (fun a ha => Wk.x_store (ha.ev rfl) (ha.ev rfl) (Wk.i_storeN TF.size_api_Flat (by simp [Value.oneCell']) h5)) ?_
    intro w3 hw; replace H := H _ hw; clear hw
    refine Wk.sl_nil ?_
    refine Wk.nx_code (Wk.cw_sub (e' := [(0, (.slice A1 n1 c1)), (1, (.slice A2 n2 c2)), (2, (.int .i64 x1)), (7, (.slice A4 n4 c4)), (8, (.int .i64 x2)), (9, (.pointer (some p1)))]) (Wk.sub.cons rfl (Wk.sub.cons rfl (Wk.sub.cons rfl (Wk.sub.cons rfl (Wk.sub.cons rfl (Wk.sub.cons rfl (Wk.sub.nil))))))) ?_)
    refine Wk.cw_seq ?_
    refine Wk.cw_region ?_
    refine Wk.sl_v rfl rfl (Wk.wanted_none rfl) (fun a ha => Wk.x_move (ha.ev rfl)) ?_
    refine Wk.sl_v rfl rfl (Wk.wanted_none rfl) (fun a ha => Wk.x_binOp (ha.ev rfl) (ha.ev rfl) Wk.o_mul) ?_
    refine Wk.sl_v rfl rfl (Wk.wanted_none rfl) (fun a ha => Wk.x_binOp (ha.ev rfl) (ha.ev rfl) Wk.o_add) ?_
    refine Wk.sl_v rfl rfl (Wk.wanted_none rfl) (fun a ha => Wk.x_assign (ha.ev rfl)) ?_
    refine Wk.sl_nil ?_
    refine Wk.nx_code (Wk.cw_sub (e' := [(0, (.slice A1 n1 c1)), (1, (.slice A2 n2 c2)), (2, (.int .i64 x1)), (7, (.slice A4 n4 c4)), (8, (.int .i64 x2)), (9, (.pointer (some p1))), (10, (.int .i64 (IntKind.wrap .i64 ((IntKind.wrap .i64 (7 * x2)) + 1))))]) (Wk.sub.cons rfl (Wk.sub.cons rfl (Wk.sub.cons rfl (Wk.sub.cons rfl (Wk.sub.cons rfl (Wk.sub.cons rfl (Wk.sub.cons rfl (Wk.sub.nil)))))))) ?_)
    refine Wk.cw_join_still (fun a => ∃ x10 : Int, Wk.Ok 84 [(0, (.slice A1 n1 c1)), (1, (.slice A2 n2 c2)), (2, (.int .i64 x1)), (7, (.slice A4 n4 c4)), (8, (.int .i64 x2)), (10, (.int .i64 x10))] a ∧ vc_arbiterlaw13_worth_J3 x1 n2 A2 w3 A4 n4 c4 k1 I1 x2 x10) ?_ ?_
    · rintro a ⟨x10, ha, H⟩
      unfold vc_arbiterlaw13_worth_J3 at H
      refine (?_ : Wk.CW _ _ _ 84 [(0, (.slice A1 n1 c1)), (1, (.slice A2 n2 c2)), (2, (.int .i64 x1)), (7, (.slice A4 n4 c4)), (8, (.int .i64 x2)), (10, (.int .i64 x10))] _) a ha
      refine Wk.cw_seq ?_
      refine Wk.cw_region ?_
      refine Wk.sl_v rfl rfl (Wk.wanted_none rfl) (fun a ha => Wk.x_move (ha.ev rfl)) ?_
      refine Wk.sl_v rfl rfl (Wk.wanted_none rfl) (fun a ha => Wk.x_move (ha.ev rfl)) ?_
      obtain ⟨h17, H⟩ := H
      refine Wk.sl_v rfl rfl (Wk.wanted_none rfl) (fun a ha => Wk.x_binOp (ha.ev rfl) (ha.ev rfl) (Wk.o_rem h17)) ?_
      refine Wk.sl_v rfl rfl (Wk.wanted_none rfl) (fun a ha => Wk.x_assign (ha.ev rfl)) ?_
      refine Wk.sl_nil ?_
      refine Wk.nx_code (Wk.cw_sub (e' := [(0, (.slice A1 n1 c1)), (1, (.slice A2 n2 c2)), (2, (.int .i64 x1)), (7, (.slice A4 n4 c4)), (8, (.int .i64 x2)), (10, (.int .i64 x10)), (12, (.int .i64 (Int.tmod x10 x1)))]) (Wk.sub.cons rfl (Wk.sub.cons rfl (Wk.sub.cons rfl (Wk.sub.cons rfl (Wk.sub.cons rfl (Wk.sub.cons rfl (Wk.sub.cons rfl (Wk.sub.nil)))))))) ?_)
      refine Wk.cw_join_still (fun a => ∃ x12 : Int, Wk.Ok 84 [(0, (.slice A1 n1 c1)), (1, (.slice A2 n2 c2)), (2, (.int .i64 x1)), (7, (.slice A4 n4 c4)), (8, (.int .i64 x2)), (12, (.int .i64 x12))] a ∧ vc_arbiterlaw13_worth_J2 w3 A4 n4 c4 k1 I1 x2 x12) ?_ ?_
      · rintro a ⟨x12, ha, H⟩
        unfold vc_arbiterlaw13_worth_J2 at H
        refine (?_ : Wk.CW _ _ _ 84 [(0, (.slice A1 n1 c1)), (1, (.slice A2 n2 c2)), (2, (.int .i64 x1)), (7, (.slice A4 n4 c4)), (8, (.int .i64 x2)), (12, (.int .i64 x12))] _) a ha
        refine Wk.cw_join_still (fun a => ∃ x13 : Int, Wk.Ok 84 [(0, (.slice A1 n1 c1)), (1, (.slice A2 n2 c2)), (2, (.int .i64 x1)), (7, (.slice A4 n4 c4)), (8, (.int .i64 x2)), (12, (.int .i64 x13))] a ∧ vc_arbiterlaw13_worth_J1 w3 A4 n4 c4 k1 I1 x2 x13) ?_ ?_
        · rintro a ⟨x13, ha, H⟩
          unfold vc_arbiterlaw13_worth_J1 at H
          refine (?_ : Wk.CW _ _ _ 84 [(0, (.slice A1 n1 c1)), (1, (.slice A2 n2 c2)), (2, (.int .i64 x1)), (7, (.slice A4 n4 c4)), (8, (.int .i64 x2)), (12, (.int .i64 x13))] _) a ha
          refine Wk.cw_region ?_
          refine Wk.sl_v rfl rfl (Wk.wanted_none rfl) (fun a ha => Wk.x_move (ha.ev rfl)) ?_
          refine Wk.sl_v rfl rfl (Wk.wanted_none rfl) (fun a ha => Wk.x_move (ha.ev rfl)) ?_
          refine Wk.sl_new (f := (fun p => .slice (some p) 1 1)) rfl rfl (Wk.wanted_none rfl) (fun a ha => Wk.x_buildSlice (u := .slice (some ⟨_, 0, none⟩) 1 1) (w' := World.alloc _ (.cells #[(.int .i64 x13)] T.int)) (qs := [(0, (.int .i64 x13))]) (by simp only [List.map_cons, List.map_nil, ha.ev (x := (.tmp 80)) rfl]) (by kernel_rfl)) ?_
          intro p2 w4 hN; replace H := H _ _ hN
          obtain ⟨A9, n9, c9, w5, h23, H⟩ := H
          refine Wk.sl_v rfl rfl (Wk.wanted_none rfl) (fun a ha => Wk.x_builtin (ha.evs rfl) (fun _ => Wk.bi_append h23)) ?_
          refine Wk.sl_v rfl rfl (Wk.wanted_none rfl) (fun a ha => Wk.x_assign (ha.ev rfl)) ?_
          refine Wk.sl_nil ?_
          refine Wk.nx_block ?_
          refine Wk.nx_code (Wk.cw_sub (e' := [(0, (.slice A1 n1 c1)), (1, (.slice A2 n2 c2)), (2, (.int .i64 x1)), (7, (.slice A9 n9 c9)), (8, (.int .i64 x2))]) (Wk.sub.cons rfl (Wk.sub.cons rfl (Wk.sub.cons rfl (Wk.sub.cons rfl (Wk.sub.cons rfl (Wk.sub.nil)))))) ?_)
          refine Wk.cw_region ?_
          refine Wk.sl_v rfl rfl (Wk.wanted_none rfl) (fun a ha => Wk.x_move (ha.ev rfl)) ?_
          refine Wk.sl_v rfl rfl (Wk.wanted_none rfl) (fun a ha => Wk.x_binOp (ha.ev rfl) (ha.ev rfl) Wk.o_add) ?_
          refine Wk.sl_v rfl rfl (Wk.wanted_none rfl) (fun a ha => Wk.x_assign (ha.ev rfl)) ?_
          refine Wk.sl_nil ?_
          obtain ⟨k4, hk, H⟩ := H
          exact Wk.nx_to fun a ha => ⟨k4, hk, A9, n9, c9, IntKind.wrap .i64 (x2 + 1), ha.weaken (Wk.sub.cons rfl (Wk.sub.cons rfl (Wk.sub.cons rfl (Wk.sub.cons rfl (Wk.sub.cons rfl (Wk.sub.nil)))))), H⟩
        · refine Wk.cw_seq ?_
          refine Wk.cw_region ?_
          refine Wk.sl_v rfl rfl (Wk.wanted_none rfl) (fun a ha => Wk.x_move (ha.ev rfl)) ?_
          refine Wk.sl_v rfl rfl (Wk.wanted_none rfl) (fun a ha => Wk.x_binOp (ha.ev rfl) (ha.ev rfl) Wk.o_lss) ?_
          refine Wk.sl_nil ?_
          refine Wk.nx_code (Wk.cw_sub (e' := [(0, (.slice A1 n1 c1)), (1, (.slice A2 n2 c2)), (2, (.int .i64 x1)), (7, (.slice A4 n4 c4)), (8, (.int .i64 x2)), (12, (.int .i64 x12)), (76, (.bool (decide (x12 < 0))))]) (Wk.sub.cons rfl (Wk.sub.cons rfl (Wk.sub.cons rfl (Wk.sub.cons rfl (Wk.sub.cons rfl (Wk.sub.cons rfl (Wk.sub.cons rfl (Wk.sub.nil)))))))) ?_)
          refine Wk.cw_cond_p rfl (fun hb => ?_) (fun hb => ?_)
          · replace H := H.1 hb
            refine Wk.cw_region ?_
            refine Wk.sl_v rfl rfl (Wk.wanted_none rfl) (fun a ha => Wk.x_move (ha.ev rfl)) ?_
            refine Wk.sl_v rfl rfl (Wk.wanted_none rfl) (fun a ha => Wk.x_unOp (ha.ev rfl) Wk.u_neg) ?_
            refine Wk.sl_v rfl rfl (Wk.wanted_none rfl) (fun a ha => Wk.x_assign (ha.ev rfl)) ?_
            refine Wk.sl_nil ?_
            exact Wk.nx_to fun a ha => ⟨⟨IntKind.wrap .i64 (0 - x12), ha.weaken (Wk.sub.cons rfl (Wk.sub.cons rfl (Wk.sub.cons rfl (Wk.sub.cons rfl (Wk.sub.cons rfl (Wk.sub.cons rfl (Wk.sub.nil))))))), H⟩, rfl⟩
          · replace H := H.2 hb
            refine Wk.cw_skip ?_
            exact Wk.nx_to fun a ha => ⟨⟨x12, ha.weaken (Wk.sub.cons rfl (Wk.sub.cons rfl (Wk.sub.cons rfl (Wk.sub.cons rfl (Wk.sub.cons rfl (Wk.sub.cons rfl (Wk.sub.nil))))))), H⟩, rfl⟩
      · refine Wk.cw_seq ?_
        refine Wk.cw_region ?_
        refine Wk.sl_v rfl rfl (Wk.wanted_none rfl) (fun a ha => Wk.x_move (ha.ev rfl)) ?_
        refine Wk.sl_v rfl rfl (Wk.wanted_none rfl) (fun a ha => Wk.x_builtin (ha.evs rfl) (fun _ => Wk.l_slice TF.isslice_sl_int)) ?_
        refine Wk.sl_v rfl rfl (Wk.wanted_none rfl) (fun a ha => Wk.x_binOp (ha.ev rfl) (ha.ev rfl) Wk.o_gtr) ?_
        refine Wk.sl_nil ?_
        refine Wk.nx_code (Wk.cw_sub (e' := [(0, (.slice A1 n1 c1)), (1, (.slice A2 n2 c2)), (2, (.int .i64 x1)), (7, (.slice A4 n4 c4)), (8, (.int .i64 x2)), (10, (.int .i64 x10)), (12, (.int .i64 (Int.tmod x10 x1))), (65, (.bool (decide (0 < (n2 : Int)))))]) (Wk.sub.cons rfl (Wk.sub.cons rfl (Wk.sub.cons rfl (Wk.sub.cons rfl (Wk.sub.cons rfl (Wk.sub.cons rfl (Wk.sub.cons rfl (Wk.sub.cons rfl (Wk.sub.nil))))))))) ?_)
        refine Wk.cw_cond_p rfl (fun hb => ?_) (fun hb => ?_)
        · replace H := H.1 hb
          refine Wk.cw_region ?_
          refine Wk.sl_v rfl rfl (Wk.wanted_none rfl) (fun a ha => Wk.x_move (ha.ev rfl)) ?_
          refine Wk.sl_v rfl rfl (Wk.wanted_none rfl) (fun a ha => Wk.x_move (ha.ev rfl)) ?_
          refine Wk.sl_v rfl rfl (Wk.wanted_none rfl) (fun a ha => Wk.x_move (ha.ev rfl)) ?_
          refine Wk.sl_v rfl rfl (Wk.wanted_none rfl) (fun a ha => Wk.x_builtin (ha.evs rfl) (fun _ => Wk.l_slice TF.isslice_sl_int)) ?_
          obtain ⟨h18, H⟩ := H
          refine Wk.sl_v rfl rfl (Wk.wanted_none rfl) (fun a ha => Wk.x_binOp (ha.ev rfl) (ha.ev rfl) (Wk.o_rem h18)) ?_
          obtain ⟨h19, h20, a4, e4, H⟩ := H
          refine Wk.sl_v rfl rfl (Wk.wanted_none rfl) (fun a ha => Wk.x_indexAddr (ha.ev rfl) (ha.ev rfl) (Wk.i_index TF.elem_sl_int TF.size_int e4 h19 h20)) ?_
          obtain ⟨x11, h21, H⟩ := H
          refine Wk.sl_v rfl rfl (Wk.wanted_none rfl) (fun a ha => Wk.x_load (ha.ev rfl) (Wk.i_load1 TF.agg_int h21)) ?_
          refine Wk.sl_v rfl rfl (Wk.wanted_none rfl) (fun a ha => Wk.x_move (ha.ev rfl)) ?_
          obtain ⟨h22, H⟩ := H
          refine Wk.sl_v rfl rfl (Wk.wanted_none rfl) (fun a ha => Wk.x_binOp (ha.ev rfl) (ha.ev rfl) (Wk.o_rem h22)) ?_
          refine Wk.sl_v rfl rfl (Wk.wanted_none rfl) (fun a ha => Wk.x_assign (ha.ev rfl)) ?_
          refine Wk.sl_nil ?_
          exact Wk.nx_to fun a ha => ⟨⟨Int.tmod x11 x1, ha.weaken (Wk.sub.cons rfl (Wk.sub.cons rfl (Wk.sub.cons rfl (Wk.sub.cons rfl (Wk.sub.cons rfl (Wk.sub.cons rfl (Wk.sub.nil))))))), H⟩, rfl⟩
        · replace H := H.2 hb
          refine Wk.cw_skip ?_
          exact Wk.nx_to fun a ha => ⟨⟨Int.tmod x10 x1, ha.weaken (Wk.sub.cons rfl (Wk.sub.cons rfl (Wk.sub.cons rfl (Wk.sub.cons rfl (Wk.sub.cons rfl (Wk.sub.cons rfl (Wk.sub.nil))))))), H⟩, rfl⟩
    · refine Wk.cw_seq ?_
      refine Wk.cw_region ?_
      refine Wk.sl_v rfl rfl (Wk.wanted_none rfl) (fun a ha => Wk.x_fieldAddr (ha.ev rfl) (TF.fld_api_Flat_0 _ _)) ?_
      obtain ⟨x4, h6, H⟩ := H
      refine Wk.sl_v rfl rfl (Wk.wanted_none rfl) (fun a ha => Wk.x_load (ha.ev rfl) (Wk.i_load1 TF.agg_int h6)) ?_
      refine Wk.sl_v rfl rfl (Wk.wanted_none rfl) (fun a ha => Wk.x_binOp (ha.ev rfl) (ha.ev rfl) Wk.o_geq) ?_
      refine Wk.sl_nil ?_
      refine Wk.nx_code (Wk.cw_sub (e' := [(0, (.slice A1 n1 c1)), (1, (.slice A2 n2 c2)), (2, (.int .i64 x1)), (7, (.slice A4 n4 c4)), (8, (.int .i64 x2)), (9, (.pointer (some p1))), (10, (.int .i64 (IntKind.wrap .i64 ((IntKind.wrap .i64 (7 * x2)) + 1)))), (28, (.bool (decide (0 ≤ x4))))]) (Wk.sub.cons rfl (Wk.sub.cons rfl (Wk.sub.cons rfl (Wk.sub.cons rfl (Wk.sub.cons rfl (Wk.sub.cons rfl (Wk.sub.cons rfl (Wk.sub.cons rfl (Wk.sub.nil))))))))) ?_)
      refine Wk.cw_cond_p rfl (fun hb => ?_) (fun hb => ?_)
      · replace H := H.1 hb
        refine Wk.cw_seq ?_
        refine Wk.cw_region ?_
        refine Wk.sl_v rfl rfl (Wk.wanted_none rfl) (fun a ha => Wk.x_fieldAddr (ha.ev rfl) (TF.fld_api_Flat_0 _ _)) ?_
        obtain ⟨x5, h7, H⟩ := H
        refine Wk.sl_v rfl rfl (Wk.wanted_none rfl) (fun a ha => Wk.x_load (ha.ev rfl) (Wk.i_load1 TF.agg_int h7)) ?_
        refine Wk.sl_v rfl rfl (Wk.wanted_none rfl) (fun a ha => Wk.x_binOp (ha.ev rfl) (ha.ev rfl) (Wk.o_rem (by decide))) ?_
        refine Wk.sl_v rfl rfl (Wk.wanted_none rfl) (fun a ha => Wk.x_binOp (ha.ev rfl) (ha.ev rfl) Wk.o_add) ?_
        refine Wk.sl_v rfl rfl (Wk.wanted_none rfl) (fun a ha => Wk.x_assign (ha.ev rfl)) ?_
        refine Wk.sl_nil ?_
        refine Wk.nx_code (Wk.cw_sub (e' := [(0, (.slice A1 n1 c1)), (1, (.slice A2 n2 c2)), (2, (.int .i64 x1)), (7, (.slice A4 n4 c4)), (8, (.int .i64 x2)), (9, (.pointer (some p1))), (10, (.int .i64 (IntKind.wrap .i64 (3 + (Int.tmod x5 1000003)))))]) (Wk.sub.cons rfl (Wk.sub.cons rfl (Wk.sub.cons rfl (Wk.sub.cons rfl (Wk.sub.cons rfl (Wk.sub.cons rfl (Wk.sub.cons rfl (Wk.sub.nil)))))))) ?_)
        refine Wk.cw_seq ?_
        refine Wk.cw_seq ?_
        refine Wk.cw_region ?_
        refine Wk.sl_v rfl rfl (Wk.wanted_none rfl) (fun a ha => Wk.x_assign (ha.ev rfl)) ?_
        refine Wk.sl_nil ?_
        refine Wk.nx_code (Wk.cw_sub (e' := [(0, (.slice A1 n1 c1)), (1, (.slice A2 n2 c2)), (2, (.int .i64 x1)), (7, (.slice A4 n4 c4)), (8, (.int .i64 x2)), (9, (.pointer (some p1))), (10, (.int .i64 (IntKind.wrap .i64 (3 + (Int.tmod x5 1000003))))), (11, (.int .i64 0))]) (Wk.sub.cons rfl (Wk.sub.cons rfl (Wk.sub.cons rfl (Wk.sub.cons rfl (Wk.sub.cons rfl (Wk.sub.cons rfl (Wk.sub.cons rfl (Wk.sub.cons rfl (Wk.sub.nil))))))))) ?_)
        refine Wk.cw_block ?_
        obtain ⟨I2, ⟨k2, hi⟩, H⟩ := H
        refine Wk.cw_loop_still (fun k2 a => ∃ x6 : Int, ∃ x7 : Int, Wk.Ok 84 [(0, (.slice A1 n1 c1)), (1, (.slice A2 n2 c2)), (2, (.int .i64 x1)), (7, (.slice A4 n4 c4)), (8, (.int .i64 x2)), (9, (.pointer (some p1))), (10, (.int .i64 x6)), (11, (.int .i64 x7))] a ∧ I2 k2 x6 x7) (fun a ha => ⟨k2, IntKind.wrap .i64 (3 + (Int.tmod x5 1000003)), 0, ha.weaken (Wk.sub.cons rfl (Wk.sub.cons rfl (Wk.sub.cons rfl (Wk.sub.cons rfl (Wk.sub.cons rfl (Wk.sub.cons rfl (Wk.sub.cons rfl (Wk.sub.cons rfl (Wk.sub.nil))))))))), hi⟩) ?_
        rintro k2 a ⟨x6, x7, ha, hI⟩
        replace H := H k2 x6 x7 hI
        refine (?_ : Wk.CW _ _ _ 84 [(0, (.slice A1 n1 c1)), (1, (.slice A2 n2 c2)), (2, (.int .i64 x1)), (7, (.slice A4 n4 c4)), (8, (.int .i64 x2)), (9, (.pointer (some p1))), (10, (.int .i64 x6)), (11, (.int .i64 x7))] _) a ha
        refine Wk.cw_seq ?_
        refine Wk.cw_seq ?_
        refine Wk.cw_region ?_
        refine Wk.sl_v rfl rfl (Wk.wanted_none rfl) (fun a ha => Wk.x_move (ha.ev rfl)) ?_
        refine Wk.sl_v rfl rfl (Wk.wanted_none rfl) (fun a ha => Wk.x_fieldAddr (ha.ev rfl) (TF.fld_api_Flat_1 _ _)) ?_
        obtain ⟨A6, n6, c6, h8, H⟩ := H
        refine Wk.sl_v rfl rfl (Wk.wanted_none rfl) (fun a ha => Wk.x_load (ha.ev rfl) (Wk.i_load1 TF.agg_sl_int h8)) ?_
        refine Wk.sl_v rfl rfl (Wk.wanted_none rfl) (fun a ha => Wk.x_builtin (ha.evs rfl) (fun _ => Wk.l_slice TF.isslice_sl_int)) ?_
        refine Wk.sl_v rfl rfl (Wk.wanted_none rfl) (fun a ha => Wk.x_binOp (ha.ev rfl) (ha.ev rfl) Wk.o_lss) ?_
        refine Wk.sl_nil ?_
        refine Wk.nx_code (Wk.cw_sub (e' := [(0, (.slice A1 n1 c1)), (1, (.slice A2 n2 c2)), (2, (.int .i64 x1)), (7, (.slice A4 n4 c4)), (8, (.int .i64 x2)), (9, (.pointer (some p1))), (10, (.int .i64 x6)), (11, (.int .i64 x7)), (37, (.bool (decide (x7 < (n6 : Int)))))]) (Wk.sub.cons rfl (Wk.sub.cons rfl (Wk.sub.cons rfl (Wk.sub.cons rfl (Wk.sub.cons rfl (Wk.sub.cons rfl (Wk.sub.cons rfl (Wk.sub.cons rfl (Wk.sub.cons rfl (Wk.sub.nil)))))))))) ?_)
        refine Wk.cw_cond_p rfl (fun hb => ?_) (fun hb => ?_)
        · replace H := H.1 hb
          refine Wk.cw_skip ?_
          refine Wk.nx_code (Wk.cw_sub (e' := [(0, (.slice A1 n1 c1)), (1, (.slice A2 n2 c2)), (2, (.int .i64 x1)), (7, (.slice A4 n4 c4)), (8, (.int .i64 x2)), (9, (.pointer (some p1))), (10, (.int .i64 x6)), (11, (.int .i64 x7))]) (Wk.sub.cons rfl (Wk.sub.cons rfl (Wk.sub.cons rfl (Wk.sub.cons rfl (Wk.sub.cons rfl (Wk.sub.cons rfl (Wk.sub.cons rfl (Wk.sub.cons rfl (Wk.sub.nil))))))))) ?_)
          refine Wk.cw_seq ?_
          refine Wk.cw_block ?_
          refine Wk.cw_region ?_
          refine Wk.sl_v rfl rfl (Wk.wanted_none rfl) (fun a ha => Wk.x_move (ha.ev rfl)) ?_
          refine Wk.sl_v rfl rfl (Wk.wanted_none rfl) (fun a ha => Wk.x_binOp (ha.ev rfl) (ha.ev rfl) Wk.o_mul) ?_
          refine Wk.sl_v rfl rfl (Wk.wanted_none rfl) (fun a ha => Wk.x_move (ha.ev rfl)) ?_
          refine Wk.sl_v rfl rfl (Wk.wanted_none rfl) (fun a ha => Wk.x_fieldAddr (ha.ev rfl) (TF.fld_api_Flat_1 _ _)) ?_
          obtain ⟨A7, n7, c7, h9, H⟩ := H
          refine Wk.sl_v rfl rfl (Wk.wanted_none rfl) (fun a ha => Wk.x_load (ha.ev rfl) (Wk.i_load1 TF.agg_sl_int h9)) ?_
          refine Wk.sl_v rfl rfl (Wk.wanted_none rfl) (fun a ha => Wk.x_move (ha.ev rfl)) ?_
          obtain ⟨h10, h11, a2, e2, H⟩ := H
          refine Wk.sl_v rfl rfl (Wk.wanted_none rfl) (fun a ha => Wk.x_indexAddr (ha.ev rfl) (ha.ev rfl) (Wk.i_index TF.elem_sl_int TF.size_int e2 h10 h11)) ?_
          obtain ⟨x8, h12, H⟩ := H
          refine Wk.sl_v rfl rfl (Wk.wanted_none rfl) (fun a ha => Wk.x_load (ha.ev rfl) (Wk.i_load1 TF.agg_int h12)) ?_
          obtain ⟨h13, h14, a3, e3, H⟩ := H
          refine Wk.sl_v rfl rfl (Wk.wanted_none rfl) (fun a ha => Wk.x_indexAddr (ha.ev rfl) (ha.ev rfl) (Wk.i_index TF.elem_sl_int TF.size_int e3 h13 h14)) ?_
          obtain ⟨x9, h15, H⟩ := H
          refine Wk.sl_v rfl rfl (Wk.wanted_none rfl) (fun a ha => Wk.x_load (ha.ev rfl) (Wk.i_load1 TF.agg_int h15)) ?_
          refine Wk.sl_v rfl rfl (Wk.wanted_none rfl) (fun a ha => Wk.x_binOp (ha.ev rfl) (ha.ev rfl) Wk.o_add) ?_
          refine Wk.sl_v rfl rfl (Wk.wanted_none rfl) (fun a ha => Wk.x_move (ha.ev rfl)) ?_
          refine Wk.sl_v rfl rfl (Wk.wanted_none rfl) (fun a ha => Wk.x_binOp (ha.ev rfl) (ha.ev rfl) Wk.o_mul) ?_
          refine Wk.sl_v rfl rfl (Wk.wanted_none rfl) (fun a ha => Wk.x_binOp (ha.ev rfl) (ha.ev rfl) Wk.o_add) ?_
          refine Wk.sl_v rfl rfl (Wk.wanted_none rfl) (fun a ha => Wk.x_binOp (ha.ev rfl) (ha.ev rfl) (Wk.o_rem (by decide))) ?_
          refine Wk.sl_v rfl rfl (Wk.wanted_none rfl) (fun a ha => Wk.x_assign (ha.ev rfl)) ?_
          refine Wk.sl_nil ?_
          refine Wk.nx_block ?_
          refine Wk.nx_code (Wk.cw_sub (e' := [(0, (.slice A1 n1 c1)), (1, (.slice A2 n2 c2)), (2, (.int .i64 x1)), (7, (.slice A4 n4 c4)), (8, (.int .i64 x2)), (9, (.pointer (some p1))), (10, (.int .i64 (Int.tmod (IntKind.wrap .i64 ((IntKind.wrap .i64 ((IntKind.wrap .i64 (x6 * 31)) + x9)) + (IntKind.wrap .i64 (5 * x7)))) 1000003))), (11, (.int .i64 x7))]) (Wk.sub.cons rfl (Wk.sub.cons rfl (Wk.sub.cons rfl (Wk.sub.cons rfl (Wk.sub.cons rfl (Wk.sub.cons rfl (Wk.sub.cons rfl (Wk.sub.cons rfl (Wk.sub.nil))))))))) ?_)
          refine Wk.cw_region ?_
          refine Wk.sl_v rfl rfl (Wk.wanted_none rfl) (fun a ha => Wk.x_move (ha.ev rfl)) ?_
          refine Wk.sl_v rfl rfl (Wk.wanted_none rfl) (fun a ha => Wk.x_binOp (ha.ev rfl) (ha.ev rfl) Wk.o_add) ?_
          refine Wk.sl_v rfl rfl (Wk.wanted_none rfl) (fun a ha => Wk.x_assign (ha.ev rfl)) ?_
          refine Wk.sl_nil ?_
          obtain ⟨k3, hk, H⟩ := H
          exact Wk.nx_to fun a ha => ⟨k3, hk, ⟨Int.tmod (IntKind.wrap .i64 ((IntKind.wrap .i64 ((IntKind.wrap .i64 (x6 * 31)) + x9)) + (IntKind.wrap .i64 (5 * x7)))) 1000003, IntKind.wrap .i64 (x7 + 1), ha.weaken (Wk.sub.cons rfl (Wk.sub.cons rfl (Wk.sub.cons rfl (Wk.sub.cons rfl (Wk.sub.cons rfl (Wk.sub.cons rfl (Wk.sub.cons rfl (Wk.sub.cons rfl (Wk.sub.nil))))))))), H⟩, rfl⟩
        · replace H := H.2 hb
          refine Wk.cw_exit ?_
          refine Wk.nx_exit_then ?_
          refine Wk.nx_exit_then ?_
          refine Wk.nx_exit_hit ?_
          refine Wk.nx_code (Wk.cw_sub (e' := [(0, (.slice A1 n1 c1)), (1, (.slice A2 n2 c2)), (2, (.int .i64 x1)), (7, (.slice A4 n4 c4)), (8, (.int .i64 x2)), (9, (.pointer (some p1))), (10, (.int .i64 x6))]) (Wk.sub.cons rfl (Wk.sub.cons rfl (Wk.sub.cons rfl (Wk.sub.cons rfl (Wk.sub.cons rfl (Wk.sub.cons rfl (Wk.sub.cons rfl (Wk.sub.nil)))))))) ?_)
          refine Wk.cw_region ?_
          refine Wk.sl_v rfl rfl (Wk.wanted_none rfl) (fun a ha => Wk.x_move (ha.ev rfl)) ?_
          refine Wk.sl_v rfl rfl (Wk.wanted_none rfl) (fun a ha => Wk.x_fieldAddr (ha.ev rfl) (TF.fld_api_Flat_1 _ _)) ?_
          obtain ⟨A8, n8, c8, h16, H⟩ := H
          refine Wk.sl_v rfl rfl (Wk.wanted_none rfl) (fun a ha => Wk.x_load (ha.ev rfl) (Wk.i_load1 TF.agg_sl_int h16)) ?_
          refine Wk.sl_v rfl rfl (Wk.wanted_none rfl) (fun a ha => Wk.x_builtin (ha.evs rfl) (fun _ => Wk.l_slice TF.isslice_sl_int)) ?_
          refine Wk.sl_v rfl rfl (Wk.wanted_none rfl) (fun a ha => Wk.x_binOp (ha.ev rfl) (ha.ev rfl) Wk.o_add) ?_
          refine Wk.sl_v rfl rfl (Wk.wanted_none rfl) (fun a ha => Wk.x_assign (ha.ev rfl)) ?_
          refine Wk.sl_nil ?_
          exact Wk.nx_to fun a ha => ⟨⟨IntKind.wrap .i64 (x6 + (n8 : Int)), ha.weaken (Wk.sub.cons rfl (Wk.sub.cons rfl (Wk.sub.cons rfl (Wk.sub.cons rfl (Wk.sub.cons rfl (Wk.sub.cons rfl (Wk.sub.nil))))))), H⟩, rfl⟩
      · replace H := H.2 hb
        refine Wk.cw_skip ?_
        exact Wk.nx_to fun a ha => ⟨⟨IntKind.wrap .i64 ((IntKind.wrap .i64 (7 * x2)) + 1), ha.weaken (Wk.sub.cons rfl (Wk.sub.cons rfl (Wk.sub.cons rfl (Wk.sub.cons rfl (Wk.sub.cons rfl (Wk.sub.cons rfl (Wk.sub.nil))))))), H⟩, rfl⟩
  · replace H := H.2 hb
    refine Wk.cw_exit ?_
    refine Wk.nx_exit_then ?_
    refine Wk.nx_exit_then ?_
    refine Wk.nx_exit_hit ?_
    refine Wk.nx_code (Wk.cw_sub (e' := [(7, (.slice A4 n4 c4))]) (Wk.sub.cons rfl (Wk.sub.nil)) ?_)
    refine Wk.cw_seq ?_
    refine Wk.cw_region ?_
    refine Wk.sl_v rfl rfl (Wk.wanted_none rfl) (fun a ha => Wk.x_move (ha.ev rfl)) ?_
    refine Wk.sl_v rfl rfl (Wk.wanted_none rfl) (fun a ha => Wk.x_assign (ha.ev rfl)) ?_
    refine Wk.sl_nil ?_
    refine Wk.nx_code (Wk.cw_sub (e' := [(6, (.slice A4 n4 c4))]) (Wk.sub.cons rfl (Wk.sub.nil)) ?_)
    refine Wk.cw_ret ?_
    exact Wk.nx_body_ret (Wk.res1 rfl rfl) ⟨_, rfl, _, _, _, rfl, H⟩
end Go.Proofs.Ytnbakpoahcndpaa
