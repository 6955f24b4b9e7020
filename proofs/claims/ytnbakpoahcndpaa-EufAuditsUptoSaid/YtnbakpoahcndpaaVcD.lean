/- Printed by a program (vc.py): for each function a formula over the world, and the proof that it tells what the call comes to. -/
import Derived.Test.YtnbakpoahcndpaaNums
set_option linter.unusedVariables false
set_option linter.unusedSimpArgs false
namespace Go.Proofs.Ytnbakpoahcndpaa
def vc_arbiterlaw13_Hold_list (p1 : Addr) (A1 : Option Addr) (n1 : Nat) (c1 : Nat) (K : Option Addr → Nat → Nat → World → Prop) (w : World) : Prop :=
  ∀ (p2 : Addr) (w1 : World), Wk.New w (.cells #[] T.int) p2 w1 → (∃ I1 : Nat → Option Addr → Nat → Nat → Int → World → Prop, (∃ k1, I1 k1 (some p2) 0 0 0 w1) ∧ ∀ k1 (A3 : Option Addr) (n3 : Nat) (c3 : Nat) (x1 : Int) (w2 : World), I1 k1 A3 n3 c3 x1 w2 → ((x1 < (n1 : Int) → (0 ≤ x1 ∧ x1 < (n1 : Int) ∧ ∃ a1, A1 = some a1 ∧ ∃ x2 : Int, w2.cell? (a1.add (x1.toNat * 1)) = some (.int .i64 x2) ∧ ∀ (p3 : Addr) (w3 : World), Wk.New w2 (.cells #[(.int .i64 x2)] T.int) p3 w3 → (∃ (A4 : Option Addr) (n4 c4 : Nat) (w4 : World), (Builtin.append_ #[T.sl_int, T.sl_int] T.sl_int #[(.slice A3 n3 c3), (.slice (some p3) 1 1)]).run P w3 = .ok (.slice A4 n4 c4) w4 ∧ (∃ k2, k2 < k1 ∧ I1 k2 A4 n4 c4 (IntKind.wrap .i64 (x1 + 1)) w4)))) ∧ (¬ (x1 < (n1 : Int)) → (∀ (p4 : Addr) (w5 : World), Wk.New w2 (.cells #[(.int .i64 (-71)), (.int .i64 (-72))] T.int) p4 w5 → (∃ (A5 : Option Addr) (n5 c5 : Nat) (w6 : World), (Builtin.append_ #[T.sl_int, T.sl_int] T.sl_int #[(.slice A3 n3 c3), (.slice (some p4) 2 2)]).run P w5 = .ok (.slice A5 n5 c5) w6 ∧ (∃ A6 : Option Addr, ∃ n6 : Nat, ∃ c6 : Nat, w6.cell? (p1.add 0) = some (.slice A6 n6 c6) ∧ ∀ (p5 : Addr) (w7 : World), Wk.New w6 (.cells #[(.slice A5 n5 c5)] T.sl_int) p5 w7 → (∃ (A7 : Option Addr) (n7 c7 : Nat) (w8 : World), (Builtin.append_ #[T.sl_sl_int, T.sl_sl_int] T.sl_sl_int #[(.slice A6 n6 c6), (.slice (some p5) 1 1)]).run P w7 = .ok (.slice A7 n7 c7) w8 ∧ ((∃ u1, w8.cell? (p1.add 0) = some u1) ∧ w8.frozen? (p1.add 0) = false ∧ ∀ w9, w9 = w8.setCell (p1.add 0) (.slice A7 n7 c7) → (∃ A8 : Option Addr, ∃ n8 : Nat, ∃ c8 : Nat, w9.cell? (p1.add 1) = some (.slice A8 n8 c8) ∧ ∀ (p6 : Addr) (w10 : World), Wk.New w9 (.cells #[(.slice A1 n1 c1)] T.sl_int) p6 w10 → (∃ (A9 : Option Addr) (n9 c9 : Nat) (w11 : World), (Builtin.append_ #[T.sl_sl_int, T.sl_sl_int] T.sl_sl_int #[(.slice A8 n8 c8), (.slice (some p6) 1 1)]).run P w10 = .ok (.slice A9 n9 c9) w11 ∧ ((∃ u2, w11.cell? (p1.add 1) = some u2) ∧ w11.frozen? (p1.add 1) = false ∧ ∀ w12, w12 = w11.setCell (p1.add 1) (.slice A9 n9 c9) → (0 ≤ (n1 : Int) ∧ (n1 : Int) ≤ (c5 : Int) ∧ K A5 ((n1 : Int).toNat) c5 w12))))))))))))
set_option maxHeartbeats 2000000 in
set_option maxRecDepth 20000 in
theorem ok_arbiterlaw13_Hold_list (p1 : Addr) (A1 : Option Addr) (n1 : Nat) (c1 : Nat) (K : Option Addr → Nat → Nat → World → Prop) (w : World) (H : vc_arbiterlaw13_Hold_list p1 A1 n1 c1 K w) : Calls P F.arbiterlaw13_Hold_list #[(.pointer (some p1)), (.slice A1 n1 c1)] w (Wk.Ret fun v w' => ∃ A2 : Option Addr, ∃ n2 : Nat, ∃ c2 : Nat, v = (.slice A2 n2 c2) ∧ K A2 n2 c2 w') := by
  unfold vc_arbiterlaw13_Hold_list at H
  refine Wk.calls_of (P := P) Try.func15 rfl [(0, (.pointer (some p1))), (1, (.slice A1 n1 c1))] 48 rfl rfl (fun p hp => by simp only [List.mem_cons, List.not_mem_nil, or_false] at hp; rcases hp with rfl | rfl <;> rfl) ?_
  refine Wk.cw_seq ?_
  refine Wk.cw_region ?_
  refine Wk.sl_v rfl rfl (Wk.wanted_none rfl) (fun a ha => Wk.x_assign (ha.ev rfl)) ?_
  refine Wk.sl_nil ?_
  refine Wk.nx_code (Wk.cw_sub (e' := [(0, (.pointer (some p1))), (1, (.slice A1 n1 c1))]) (Wk.sub.cons rfl (Wk.sub.cons rfl (Wk.sub.nil))) ?_)
  refine Wk.cw_seq ?_
  refine Wk.cw_region ?_
  refine Wk.sl_new (f := (fun p => .slice (some p) 0 0)) rfl rfl (Wk.wanted_none rfl) (fun a ha => Wk.x_buildSlice (u := .slice (some ⟨_, 0, none⟩) 0 0) (w' := World.alloc _ (.cells #[] T.int)) (qs := []) (by simp only [List.map_cons, List.map_nil]) (by kernel_rfl)) ?_
  intro p2 w1 hN; replace H := H _ _ hN
  refine Wk.sl_v rfl rfl (Wk.wanted_none rfl) (fun a ha => Wk.x_assign (ha.ev rfl)) ?_
  refine Wk.sl_nil ?_
  refine Wk.nx_code (Wk.cw_sub (e' := [(0, (.pointer (some p1))), (1, (.slice A1 n1 c1)), (5, (.slice (some p2) 0 0))]) (Wk.sub.cons rfl (Wk.sub.cons rfl (Wk.sub.cons rfl (Wk.sub.nil)))) ?_)
  refine Wk.cw_seq ?_
  refine Wk.cw_seq ?_
  refine Wk.cw_region ?_
  refine Wk.sl_v rfl rfl (Wk.wanted_none rfl) (fun a ha => Wk.x_assign (ha.ev rfl)) ?_
  refine Wk.sl_nil ?_
  refine Wk.nx_code (Wk.cw_sub (e' := [(0, (.pointer (some p1))), (1, (.slice A1 n1 c1)), (5, (.slice (some p2) 0 0)), (6, (.int .i64 0))]) (Wk.sub.cons rfl (Wk.sub.cons rfl (Wk.sub.cons rfl (Wk.sub.cons rfl (Wk.sub.nil))))) ?_)
  refine Wk.cw_block ?_
  obtain ⟨I1, ⟨k1, hi⟩, H⟩ := H
  refine Wk.cw_loop (fun k1 a w' => ∃ A3 : Option Addr, ∃ n3 : Nat, ∃ c3 : Nat, ∃ x1 : Int, Wk.Ok 48 [(0, (.pointer (some p1))), (1, (.slice A1 n1 c1)), (5, (.slice A3 n3 c3)), (6, (.int .i64 x1))] a ∧ I1 k1 A3 n3 c3 x1 w') (fun a ha => ⟨k1, some p2, 0, 0, 0, ha.weaken (Wk.sub.cons rfl (Wk.sub.cons rfl (Wk.sub.cons rfl (Wk.sub.cons rfl (Wk.sub.nil))))), hi⟩) ?_
  rintro k1 a w2 ⟨A3, n3, c3, x1, ha, hI⟩
  replace H := H k1 A3 n3 c3 x1 w2 hI
  refine (?_ : Wk.CW _ _ _ 48 [(0, (.pointer (some p1))), (1, (.slice A1 n1 c1)), (5, (.slice A3 n3 c3)), (6, (.int .i64 x1))] _) a ha
  refine Wk.cw_seq ?_
  refine Wk.cw_seq ?_
  refine Wk.cw_region ?_
  refine Wk.sl_v rfl rfl (Wk.wanted_none rfl) (fun a ha => Wk.x_move (ha.ev rfl)) ?_
  refine Wk.sl_v rfl rfl (Wk.wanted_none rfl) (fun a ha => Wk.x_move (ha.ev rfl)) ?_
  refine Wk.sl_v rfl rfl (Wk.wanted_none rfl) (fun a ha => Wk.x_builtin (ha.evs rfl) (fun _ => Wk.l_slice TF.isslice_sl_int)) ?_
  refine Wk.sl_v rfl rfl (Wk.wanted_none rfl) (fun a ha => Wk.x_binOp (ha.ev rfl) (ha.ev rfl) Wk.o_lss) ?_
  refine Wk.sl_nil ?_
  refine Wk.nx_code (Wk.cw_sub (e' := [(0, (.pointer (some p1))), (1, (.slice A1 n1 c1)), (5, (.slice A3 n3 c3)), (6, (.int .i64 x1)), (11, (.bool (decide (x1 < (n1 : Int)))))]) (Wk.sub.cons rfl (Wk.sub.cons rfl (Wk.sub.cons rfl (Wk.sub.cons rfl (Wk.sub.cons rfl (Wk.sub.nil)))))) ?_)
  refine Wk.cw_cond_p rfl (fun hb => ?_) (fun hb => ?_)
  · replace H := H.1 hb
    refine Wk.cw_skip ?_
    refine Wk.nx_code (Wk.cw_sub (e' := [(0, (.pointer (some p1))), (1, (.slice A1 n1 c1)), (5, (.slice A3 n3 c3)), (6, (.int .i64 x1))]) (Wk.sub.cons rfl (Wk.sub.cons rfl (Wk.sub.cons rfl (Wk.sub.cons rfl (Wk.sub.nil))))) ?_)
    refine Wk.cw_seq ?_
    refine Wk.cw_block ?_
    refine Wk.cw_region ?_
    refine Wk.sl_v rfl rfl (Wk.wanted_none rfl) (fun a ha => Wk.x_move (ha.ev rfl)) ?_
    refine Wk.sl_v rfl rfl (Wk.wanted_none rfl) (fun a ha => Wk.x_move (ha.ev rfl)) ?_
    refine Wk.sl_v rfl rfl (Wk.wanted_none rfl) (fun a ha => Wk.x_move (ha.ev rfl)) ?_
    obtain ⟨h1, h2, a1, e1, H⟩ := H
    refine Wk.sl_v rfl rfl (Wk.wanted_none rfl) (fun a ha => Wk.x_indexAddr (ha.ev rfl) (ha.ev rfl) (Wk.i_index TF.elem_sl_int TF.size_int e1 h1 h2)) ?_
    obtain ⟨x2, h3, H⟩ := H
    refine Wk.sl_v rfl rfl (Wk.wanted_none rfl) (fun a ha => Wk.x_load (ha.ev rfl) (Wk.i_load1 TF.agg_int h3)) ?_
    refine Wk.sl_new (f := (fun p => .slice (some p) 1 1)) rfl rfl (Wk.wanted_none rfl) (fun a ha => Wk.x_buildSlice (u := .slice (some ⟨_, 0, none⟩) 1 1) (w' := World.alloc _ (.cells #[(.int .i64 x2)] T.int)) (qs := [(0, (.int .i64 x2))]) (by simp only [List.map_cons, List.map_nil, ha.ev (x := (.tmp 18)) rfl]) (by kernel_rfl)) ?_
    intro p3 w3 hN; replace H := H _ _ hN
    obtain ⟨A4, n4, c4, w4, h4, H⟩ := H
    refine Wk.sl_v rfl rfl (Wk.wanted_none rfl) (fun a ha => Wk.x_builtin (ha.evs rfl) (fun _ => Wk.bi_append h4)) ?_
    refine Wk.sl_v rfl rfl (Wk.wanted_none rfl) (fun a ha => Wk.x_assign (ha.ev rfl)) ?_
    refine Wk.sl_nil ?_
    refine Wk.nx_block ?_
    refine Wk.nx_code (Wk.cw_sub (e' := [(0, (.pointer (some p1))), (1, (.slice A1 n1 c1)), (5, (.slice A4 n4 c4)), (6, (.int .i64 x1))]) (Wk.sub.cons rfl (Wk.sub.cons rfl (Wk.sub.cons rfl (Wk.sub.cons rfl (Wk.sub.nil))))) ?_)
    refine Wk.cw_region ?_
    refine Wk.sl_v rfl rfl (Wk.wanted_none rfl) (fun a ha => Wk.x_move (ha.ev rfl)) ?_
    refine Wk.sl_v rfl rfl (Wk.wanted_none rfl) (fun a ha => Wk.x_binOp (ha.ev rfl) (ha.ev rfl) Wk.o_add) ?_
    refine Wk.sl_v rfl rfl (Wk.wanted_none rfl) (fun a ha => Wk.x_assign (ha.ev rfl)) ?_
    refine Wk.sl_nil ?_
    obtain ⟨k2, hk, H⟩ := H
    exact Wk.nx_to fun a ha => ⟨k2, hk, A4, n4, c4, IntKind.wrap .i64 (x1 + 1), ha.weaken (Wk.sub.cons rfl (Wk.sub.cons rfl (Wk.sub.cons rfl (Wk.sub.cons rfl (Wk.sub.nil))))), H⟩
  · replace H := H.2 hb
    refine Wk.cw_exit ?_
    refine Wk.nx_exit_then ?_
    refine Wk.nx_exit_then ?_
    refine Wk.nx_exit_hit ?_
    refine Wk.nx_code (Wk.cw_sub (e' := [(0, (.pointer (some p1))), (1, (.slice A1 n1 c1)), (5, (.slice A3 n3 c3))]) (Wk.sub.cons rfl (Wk.sub.cons rfl (Wk.sub.cons rfl (Wk.sub.nil)))) ?_)
    refine Wk.cw_seq ?_
    refine Wk.cw_region ?_
    refine Wk.sl_v rfl rfl (Wk.wanted_none rfl) (fun a ha => Wk.x_move (ha.ev rfl)) ?_
    refine Wk.sl_new (f := (fun p => .slice (some p) 2 2)) rfl rfl (Wk.wanted_none rfl) (fun a ha => Wk.x_buildSlice (u := .slice (some ⟨_, 0, none⟩) 2 2) (w' := World.alloc _ (.cells #[(.int .i64 (-71)), (.int .i64 (-72))] T.int)) (qs := [(0, (.int .i64 (-71))), (1, (.int .i64 (-72)))]) (by simp only [List.map_cons, List.map_nil, ha.ev (x := (.const (.int .i64 (-71)))) rfl, ha.ev (x := (.const (.int .i64 (-72)))) rfl]) (by kernel_rfl)) ?_
    intro p4 w5 hN; replace H := H _ _ hN
    obtain ⟨A5, n5, c5, w6, h5, H⟩ := H
    refine Wk.sl_v rfl rfl (Wk.wanted_none rfl) (fun a ha => Wk.x_builtin (ha.evs rfl) (fun _ => Wk.bi_append h5)) ?_
    refine Wk.sl_v rfl rfl (Wk.wanted_none rfl) (fun a ha => Wk.x_assign (ha.ev rfl)) ?_
    refine Wk.sl_nil ?_
    refine Wk.nx_code (Wk.cw_sub (e' := [(0, (.pointer (some p1))), (1, (.slice A1 n1 c1)), (5, (.slice A5 n5 c5))]) (Wk.sub.cons rfl (Wk.sub.cons rfl (Wk.sub.cons rfl (Wk.sub.nil)))) ?_)
    refine Wk.cw_seq ?_
    refine Wk.cw_region ?_
    refine Wk.sl_v rfl rfl (Wk.wanted_none rfl) (fun a ha => Wk.x_move (ha.ev rfl)) ?_
    refine Wk.sl_v rfl rfl (Wk.wanted_none rfl) (fun a ha => Wk.x_move (ha.ev rfl)) ?_
    refine Wk.sl_v rfl rfl (Wk.wanted_none rfl) (fun a ha => Wk.x_nilCheck_ptr (ha.ev rfl)) ?_
    refine Wk.sl_v rfl rfl (Wk.wanted_none rfl) (fun a ha => Wk.x_fieldAddr (ha.ev rfl) (TF.fld_arbiterlaw13_Hold_0 _ _)) ?_
    obtain ⟨A6, n6, c6, h6, H⟩ := H
    refine Wk.sl_v rfl rfl (Wk.wanted_none rfl) (fun a ha => Wk.x_load (ha.ev rfl) (Wk.i_load1 TF.agg_sl_sl_int h6)) ?_
    refine Wk.sl_v rfl rfl (Wk.wanted_none rfl) (fun a ha => Wk.x_move (ha.ev rfl)) ?_
    refine Wk.sl_new (f := (fun p => .slice (some p) 1 1)) rfl rfl (Wk.wanted_none rfl) (fun a ha => Wk.x_buildSlice (u := .slice (some ⟨_, 0, none⟩) 1 1) (w' := World.alloc _ (.cells #[(.slice A5 n5 c5)] T.sl_int)) (qs := [(0, (.slice A5 n5 c5))]) (by simp only [List.map_cons, List.map_nil, ha.ev (x := (.tmp 29)) rfl]) (by kernel_rfl)) ?_
    intro p5 w7 hN; replace H := H _ _ hN
    obtain ⟨A7, n7, c7, w8, h7, H⟩ := H
    refine Wk.sl_v rfl rfl (Wk.wanted_none rfl) (fun a ha => Wk.x_builtin (ha.evs rfl) (fun _ => Wk.bi_append h7)) ?_
    refine Wk.sl_v rfl rfl (Wk.wanted_none rfl) (fun a ha => Wk.x_nilCheck_ptr (ha.ev rfl)) ?_
    refine Wk.sl_v rfl rfl (Wk.wanted_none rfl) (fun a ha => Wk.x_fieldAddr (ha.ev rfl) (TF.fld_arbiterlaw13_Hold_0 _ _)) ?_
    obtain ⟨⟨u1, h8⟩, h9, H⟩ := H
    refine Wk.sl_un rfl (Wk.wanted_none rfl) (fun a ha => Wk.x_store (ha.ev rfl) (ha.ev rfl) (Wk.i_store1 TF.size_sl_sl_int rfl rfl h8 h9)) ?_
    intro w9 hw; replace H := H _ hw; clear hw
    refine Wk.sl_nil ?_
    refine Wk.nx_code (Wk.cw_sub (e' := [(0, (.pointer (some p1))), (1, (.slice A1 n1 c1)), (5, (.slice A5 n5 c5))]) (Wk.sub.cons rfl (Wk.sub.cons rfl (Wk.sub.cons rfl (Wk.sub.nil)))) ?_)
    refine Wk.cw_seq ?_
    refine Wk.cw_region ?_
    refine Wk.sl_v rfl rfl (Wk.wanted_none rfl) (fun a ha => Wk.x_move (ha.ev rfl)) ?_
    refine Wk.sl_v rfl rfl (Wk.wanted_none rfl) (fun a ha => Wk.x_move (ha.ev rfl)) ?_
    refine Wk.sl_v rfl rfl (Wk.wanted_none rfl) (fun a ha => Wk.x_nilCheck_ptr (ha.ev rfl)) ?_
    refine Wk.sl_v rfl rfl (Wk.wanted_none rfl) (fun a ha => Wk.x_fieldAddr (ha.ev rfl) (TF.fld_arbiterlaw13_Hold_1 _ _)) ?_
    obtain ⟨A8, n8, c8, h10, H⟩ := H
    refine Wk.sl_v rfl rfl (Wk.wanted_none rfl) (fun a ha => Wk.x_load (ha.ev rfl) (Wk.i_load1 TF.agg_sl_sl_int h10)) ?_
    refine Wk.sl_v rfl rfl (Wk.wanted_none rfl) (fun a ha => Wk.x_move (ha.ev rfl)) ?_
    refine Wk.sl_new (f := (fun p => .slice (some p) 1 1)) rfl rfl (Wk.wanted_none rfl) (fun a ha => Wk.x_buildSlice (u := .slice (some ⟨_, 0, none⟩) 1 1) (w' := World.alloc _ (.cells #[(.slice A1 n1 c1)] T.sl_int)) (qs := [(0, (.slice A1 n1 c1))]) (by simp only [List.map_cons, List.map_nil, ha.ev (x := (.tmp 39)) rfl]) (by kernel_rfl)) ?_
    intro p6 w10 hN; replace H := H _ _ hN
    obtain ⟨A9, n9, c9, w11, h11, H⟩ := H
    refine Wk.sl_v rfl rfl (Wk.wanted_none rfl) (fun a ha => Wk.x_builtin (ha.evs rfl) (fun _ => Wk.bi_append h11)) ?_
    refine Wk.sl_v rfl rfl (Wk.wanted_none rfl) (fun a ha => Wk.x_nilCheck_ptr (ha.ev rfl)) ?_
    refine Wk.sl_v rfl rfl (Wk.wanted_none rfl) (fun a ha => Wk.x_fieldAddr (ha.ev rfl) (TF.fld_arbiterlaw13_Hold_1 _ _)) ?_
    obtain ⟨⟨u2, h12⟩, h13, H⟩ := H
    refine Wk.sl_un rfl (Wk.wanted_none rfl) (fun a ha => Wk.x_store (ha.ev rfl) (ha.ev rfl) (Wk.i_store1 TF.size_sl_sl_int rfl rfl h12 h13)) ?_
    intro w12 hw; replace H := H _ hw; clear hw
    refine Wk.sl_nil ?_
    refine Wk.nx_code (Wk.cw_sub (e' := [(1, (.slice A1 n1 c1)), (5, (.slice A5 n5 c5))]) (Wk.sub.cons rfl (Wk.sub.cons rfl (Wk.sub.nil))) ?_)
    refine Wk.cw_seq ?_
    refine Wk.cw_region ?_
    refine Wk.sl_v rfl rfl (Wk.wanted_none rfl) (fun a ha => Wk.x_move (ha.ev rfl)) ?_
    refine Wk.sl_v rfl rfl (Wk.wanted_none rfl) (fun a ha => Wk.x_move (ha.ev rfl)) ?_
    refine Wk.sl_v rfl rfl (Wk.wanted_none rfl) (fun a ha => Wk.x_builtin (ha.evs rfl) (fun _ => Wk.l_slice TF.isslice_sl_int)) ?_
    obtain ⟨h14, h15, H⟩ := H
    refine Wk.sl_v rfl rfl (Wk.wanted_none rfl) (fun a ha => Wk.x_slice (ha.ev rfl) rfl (Wk.om_some (ha.ev rfl)) rfl (Wk.i_slice_h TF.elem_sl_int TF.size_int h14 h15)) ?_
    refine Wk.sl_v rfl rfl (Wk.wanted_none rfl) (fun a ha => Wk.x_assign (ha.ev rfl)) ?_
    refine Wk.sl_nil ?_
    refine Wk.nx_code (Wk.cw_sub (e' := [(4, (.slice A5 ((n1 : Int).toNat) c5))]) (Wk.sub.cons rfl (Wk.sub.nil)) ?_)
    refine Wk.cw_ret ?_
    exact Wk.nx_body_ret (Wk.res1 rfl rfl) ⟨_, rfl, _, _, _, rfl, H⟩
def vc_arbiterlaw13_Hold_nodes_J1 (k1 : Nat) (I1 : Nat → Option Addr → Nat → Nat → Int → World → Prop) (x1 : Int) (A7 : Option Addr) (n7 : Nat) (c7 : Nat) (w9 : World) : Prop :=
  ∃ k2, k2 < k1 ∧ I1 k2 A7 n7 c7 (IntKind.wrap .i64 (x1 + 1)) w9
def vc_arbiterlaw13_Hold_nodes (p1 : Addr) (A1 : Option Addr) (n1 : Nat) (c1 : Nat) (K : Option Addr → Nat → Nat → World → Prop) (w : World) : Prop :=
  ∀ (p2 : Addr) (w1 : World), Wk.New w (.cells #[] T.api_Flat) p2 w1 → (∃ I1 : Nat → Option Addr → Nat → Nat → Int → World → Prop, (∃ k1, I1 k1 (some p2) 0 0 0 w1) ∧ ∀ k1 (A3 : Option Addr) (n3 : Nat) (c3 : Nat) (x1 : Int) (w2 : World), I1 k1 A3 n3 c3 x1 w2 → ((x1 < (n1 : Int) → (∃ X1 : Nat → Prop, 0 ≤ x1 ∧ x1 < (n1 : Int) ∧ ∃ a1, A1 = some a1 ∧ ∃ x2 : Int, w2.cell? ((a1.add (x1.toNat * 2)).add 0) = some (.int .i64 x2) ∧ ¬ X1 ((a1.add (x1.toNat * 2)).add 0).block ∧ 0 ≤ x1 ∧ x1 < (n1 : Int) ∧ ∃ a2, A1 = some a2 ∧ ∃ A4 : Option Addr, ∃ n4 : Nat, ∃ c4 : Nat, w2.cell? ((a2.add (x1.toNat * 2)).add 1) = some (.slice A4 n4 c4) ∧ ¬ X1 ((a2.add (x1.toNat * 2)).add 1).block ∧ ∀ w4, Wk.Drawn w2 w4 → Calls P F.arbiterlaw13_Hold_list #[(.pointer (some p1)), (.slice A4 n4 c4)] w4 (Wk.Ret fun v1 w3 => ∃ A5 : Option Addr, ∃ n5 : Nat, ∃ c5 : Nat, v1 = (.slice A5 n5 c5) ∧ Wk.Keep X1 w2 w3 ∧ ∀ w11, Wk.Drawn w3 w11 → ∀ (p3 : Addr) (w6 : World), Wk.New w11 (.cells #[(.int .i64 x2), (.slice A5 n5 c5)] T.api_Flat) p3 w6 → (∀ w10, Wk.Drawn w6 w10 → ∃ (A6 : Option Addr) (n6 c6 : Nat) (w7 : World), (Builtin.append_ #[T.sl_api_Flat, T.sl_api_Flat] T.sl_api_Flat #[(.slice A3 n3 c3), (.slice (some p3) 1 1)]).run P w10 = .ok (.slice A6 n6 c6) w7 ∧ (∀ w8, Wk.Drawn w7 w8 → ((vc_arbiterlaw13_Hold_nodes_J1 k1 I1 x1) A6 n6 c6 w8)))))) ∧ (¬ (x1 < (n1 : Int)) → (∀ (p4 : Addr) (w12 : World), Wk.New w2 (.cells #[(.int .i64 73), (.slice none 0 0), (.int .i64 74), (.slice none 0 0)] T.api_Flat) p4 w12 → (∃ (A8 : Option Addr) (n8 c8 : Nat) (w13 : World), (Builtin.append_ #[T.sl_api_Flat, T.sl_api_Flat] T.sl_api_Flat #[(.slice A3 n3 c3), (.slice (some p4) 2 2)]).run P w12 = .ok (.slice A8 n8 c8) w13 ∧ (∃ A9 : Option Addr, ∃ n9 : Nat, ∃ c9 : Nat, w13.cell? (p1.add 2) = some (.slice A9 n9 c9) ∧ ∀ (p5 : Addr) (w14 : World), Wk.New w13 (.cells #[(.slice A8 n8 c8)] T.sl_api_Flat) p5 w14 → (∃ (A10 : Option Addr) (n10 c10 : Nat) (w15 : World), (Builtin.append_ #[T.sl_sl_api_Flat, T.sl_sl_api_Flat] T.sl_sl_api_Flat #[(.slice A9 n9 c9), (.slice (some p5) 1 1)]).run P w14 = .ok (.slice A10 n10 c10) w15 ∧ ((∃ u1, w15.cell? (p1.add 2) = some u1) ∧ w15.frozen? (p1.add 2) = false ∧ ∀ w16, w16 = w15.setCell (p1.add 2) (.slice A10 n10 c10) → (∃ A11 : Option Addr, ∃ n11 : Nat, ∃ c11 : Nat, w16.cell? (p1.add 3) = some (.slice A11 n11 c11) ∧ ∀ (p6 : Addr) (w17 : World), Wk.New w16 (.cells #[(.slice A1 n1 c1)] T.sl_api_Flat) p6 w17 → (∃ (A12 : Option Addr) (n12 c12 : Nat) (w18 : World), (Builtin.append_ #[T.sl_sl_api_Flat, T.sl_sl_api_Flat] T.sl_sl_api_Flat #[(.slice A11 n11 c11), (.slice (some p6) 1 1)]).run P w17 = .ok (.slice A12 n12 c12) w18 ∧ ((∃ u2, w18.cell? (p1.add 3) = some u2) ∧ w18.frozen? (p1.add 3) = false ∧ ∀ w19, w19 = w18.setCell (p1.add 3) (.slice A12 n12 c12) → (0 ≤ (n1 : Int) ∧ (n1 : Int) ≤ (c8 : Int) ∧ K A8 ((n1 : Int).toNat) c8 w19))))))))))))
set_option maxHeartbeats 2000000 in
set_option maxRecDepth 20000 in
theorem ok_arbiterlaw13_Hold_nodes (p1 : Addr) (A1 : Option Addr) (n1 : Nat) (c1 : Nat) (K : Option Addr → Nat → Nat → World → Prop) (w : World) (H : vc_arbiterlaw13_Hold_nodes p1 A1 n1 c1 K w) : Calls P F.arbiterlaw13_Hold_nodes #[(.pointer (some p1)), (.slice A1 n1 c1)] w (Wk.Ret fun v w' => ∃ A2 : Option Addr, ∃ n2 : Nat, ∃ c2 : Nat, v = (.slice A2 n2 c2) ∧ K A2 n2 c2 w') := by
  unfold vc_arbiterlaw13_Hold_nodes at H
  refine Wk.calls_of (P := P) Try.func6 rfl [(0, (.pointer (some p1))), (1, (.slice A1 n1 c1))] 59 rfl rfl (fun p hp => by simp only [List.mem_cons, List.not_mem_nil, or_false] at hp; rcases hp with rfl | rfl <;> rfl) ?_
  refine Wk.cw_seq ?_
  refine Wk.cw_region ?_
  refine Wk.sl_v rfl rfl (Wk.wanted_none rfl) (fun a ha => Wk.x_assign (ha.ev rfl)) ?_
  refine Wk.sl_nil ?_
  refine Wk.nx_code (Wk.cw_sub (e' := [(0, (.pointer (some p1))), (1, (.slice A1 n1 c1))]) (Wk.sub.cons rfl (Wk.sub.cons rfl (Wk.sub.nil))) ?_)
  refine Wk.cw_seq ?_
  refine Wk.cw_region ?_
  refine Wk.sl_new (f := (fun p => .slice (some p) 0 0)) rfl rfl (Wk.wanted_none rfl) (fun a ha => Wk.x_buildSlice (u := .slice (some ⟨_, 0, none⟩) 0 0) (w' := World.alloc _ (.cells #[] T.api_Flat)) (qs := []) (by simp only [List.map_cons, List.map_nil]) (by kernel_rfl)) ?_
  intro p2 w1 hN; replace H := H _ _ hN
  refine Wk.sl_v rfl rfl (Wk.wanted_none rfl) (fun a ha => Wk.x_assign (ha.ev rfl)) ?_
  refine Wk.sl_nil ?_
  refine Wk.nx_code (Wk.cw_sub (e' := [(0, (.pointer (some p1))), (1, (.slice A1 n1 c1)), (5, (.slice (some p2) 0 0))]) (Wk.sub.cons rfl (Wk.sub.cons rfl (Wk.sub.cons rfl (Wk.sub.nil)))) ?_)
  refine Wk.cw_seq ?_
  refine Wk.cw_seq ?_
  refine Wk.cw_region ?_
  refine Wk.sl_v rfl rfl (Wk.wanted_none rfl) (fun a ha => Wk.x_assign (ha.ev rfl)) ?_
  refine Wk.sl_nil ?_
  refine Wk.nx_code (Wk.cw_sub (e' := [(0, (.pointer (some p1))), (1, (.slice A1 n1 c1)), (5, (.slice (some p2) 0 0)), (6, (.int .i64 0))]) (Wk.sub.cons rfl (Wk.sub.cons rfl (Wk.sub.cons rfl (Wk.sub.cons rfl (Wk.sub.nil))))) ?_)
  refine Wk.cw_block ?_
  obtain ⟨I1, ⟨k1, hi⟩, H⟩ := H
  refine Wk.cw_loop (fun k1 a w' => ∃ A3 : Option Addr, ∃ n3 : Nat, ∃ c3 : Nat, ∃ x1 : Int, Wk.Ok 59 [(0, (.pointer (some p1))), (1, (.slice A1 n1 c1)), (5, (.slice A3 n3 c3)), (6, (.int .i64 x1))] a ∧ I1 k1 A3 n3 c3 x1 w') (fun a ha => ⟨k1, some p2, 0, 0, 0, ha.weaken (Wk.sub.cons rfl (Wk.sub.cons rfl (Wk.sub.cons rfl (Wk.sub.cons rfl (Wk.sub.nil))))), hi⟩) ?_
  rintro k1 a w2 ⟨A3, n3, c3, x1, ha, hI⟩
  replace H := H k1 A3 n3 c3 x1 w2 hI
  refine (?_ : Wk.CW _ _ _ 59 [(0, (.pointer (some p1))), (1, (.slice A1 n1 c1)), (5, (.slice A3 n3 c3)), (6, (.int .i64 x1))] _) a ha
  refine Wk.cw_seq ?_
  refine Wk.cw_seq ?_
  refine Wk.cw_region ?_
  refine Wk.sl_v rfl rfl (Wk.wanted_none rfl) (fun a ha => Wk.x_move (ha.ev rfl)) ?_
  refine Wk.sl_v rfl rfl (Wk.wanted_none rfl) (fun a ha => Wk.x_move (ha.ev rfl)) ?_
  refine Wk.sl_v rfl rfl (Wk.wanted_none rfl) (fun a ha => Wk.x_builtin (ha.evs rfl) (fun _ => Wk.l_slice TF.isslice_sl_api_Flat)) ?_
  refine Wk.sl_v rfl rfl (Wk.wanted_none rfl) (fun a ha => Wk.x_binOp (ha.ev rfl) (ha.ev rfl) Wk.o_lss) ?_
  refine Wk.sl_nil ?_
  refine Wk.nx_code (Wk.cw_sub (e' := [(0, (.pointer (some p1))), (1, (.slice A1 n1 c1)), (5, (.slice A3 n3 c3)), (6, (.int .i64 x1)), (11, (.bool (decide (x1 < (n1 : Int)))))]) (Wk.sub.cons rfl (Wk.sub.cons rfl (Wk.sub.cons rfl (Wk.sub.cons rfl (Wk.sub.cons rfl (Wk.sub.nil)))))) ?_)
  refine Wk.cw_cond_p rfl (fun hb => ?_) (fun hb => ?_)
  · replace H := H.1 hb
    refine Wk.cw_skip ?_
    refine Wk.nx_code (Wk.cw_sub (e' := [(0, (.pointer (some p1))), (1, (.slice A1 n1 c1)), (5, (.slice A3 n3 c3)), (6, (.int .i64 x1))]) (Wk.sub.cons rfl (Wk.sub.cons rfl (Wk.sub.cons rfl (Wk.sub.cons rfl (Wk.sub.nil))))) ?_)
    refine Wk.cw_join (fun a w => ∃ A7 : Option Addr, ∃ n7 : Nat, ∃ c7 : Nat, Wk.Ok 59 [(0, (.pointer (some p1))), (1, (.slice A1 n1 c1)), (5, (.slice A7 n7 c7)), (6, (.int .i64 x1))] a ∧ vc_arbiterlaw13_Hold_nodes_J1 k1 I1 x1 A7 n7 c7 w) ?_ ?_
    · rintro a w9 ⟨A7, n7, c7, ha, H⟩
      unfold vc_arbiterlaw13_Hold_nodes_J1 at H
      refine (?_ : Wk.CW _ _ _ 59 [(0, (.pointer (some p1))), (1, (.slice A1 n1 c1)), (5, (.slice A7 n7 c7)), (6, (.int .i64 x1))] _) a ha
      refine Wk.cw_region ?_
      refine Wk.sl_v rfl rfl (Wk.wanted_none rfl) (fun a ha => Wk.x_move (ha.ev rfl)) ?_
      refine Wk.sl_v rfl rfl (Wk.wanted_none rfl) (fun a ha => Wk.x_binOp (ha.ev rfl) (ha.ev rfl) Wk.o_add) ?_
      refine Wk.sl_v rfl rfl (Wk.wanted_none rfl) (fun a ha => Wk.x_assign (ha.ev rfl)) ?_
      refine Wk.sl_nil ?_
      obtain ⟨k2, hk, H⟩ := H
      exact Wk.nx_to fun a ha => ⟨k2, hk, A7, n7, c7, IntKind.wrap .i64 (x1 + 1), ha.weaken (Wk.sub.cons rfl (Wk.sub.cons rfl (Wk.sub.cons rfl (Wk.sub.cons rfl (Wk.sub.nil))))), H⟩
    · refine Wk.cw_block ?_
      obtain ⟨X1, H⟩ := H
      refine Wk.cw_any_keep follows X1 [0, 1, 2, 3, 4, 5, 6, 7, 8, 9, 10, 11, 13, 16] [5, 11] 17 rfl rfl (by kernel_rfl) (fun _ _ d _ _ h => by cases d <;> exact h) (fun cm hW hD => ?_)
      refine Wk.an_p (i := 0) cm rfl (by kernel_rfl) rfl rfl (Wk.wanted_none rfl) (fun w' a ha => Wk.x_move (ha.ev rfl)) rfl ?_
      intro _ hd; replace hD := hD.trans hd; replace hW := cm.held _ _ hW hd; clear hd
      refine Wk.an_p (i := 1) cm rfl (by kernel_rfl) rfl rfl (Wk.wanted_none rfl) (fun w' a ha => Wk.x_move (ha.ev rfl)) rfl ?_
      intro _ hd; replace hD := hD.trans hd; replace hW := cm.held _ _ hW hd; clear hd
      refine Wk.an_p (i := 2) cm rfl (by kernel_rfl) rfl rfl (Wk.wanted_none rfl) (fun w' a ha => Wk.x_move (ha.ev rfl)) rfl ?_
      intro _ hd; replace hD := hD.trans hd; replace hW := cm.held _ _ hW hd; clear hd
      obtain ⟨h1, h2, a1, e1, H⟩ := H
      refine Wk.an_p (i := 3) cm rfl (by kernel_rfl) rfl rfl (Wk.wanted_none rfl) (fun w' a ha => Wk.x_indexAddr (ha.ev rfl) (ha.ev rfl) (Wk.i_index TF.elem_sl_api_Flat TF.size_api_Flat e1 h1 h2)) rfl ?_
      intro _ hd; replace hD := hD.trans hd; replace hW := cm.held _ _ hW hd; clear hd
      refine Wk.an_p (i := 4) cm rfl (by kernel_rfl) rfl rfl (Wk.wanted_none rfl) (fun w' a ha => Wk.x_fieldAddr (ha.ev rfl) (TF.fld_api_Flat_0 _ _)) rfl ?_
      intro _ hd; replace hD := hD.trans hd; replace hW := cm.held _ _ hW hd; clear hd
      obtain ⟨x2, h3, hx', H⟩ := H; replace h3 := And.intro h3 hx'; clear hx'
      refine Wk.an_v (i := 5) cm rfl (by kernel_rfl) hW rfl rfl (Wk.wanted_none rfl) (fun w' hw a ha => Wk.x_load (ha.ev rfl) (Wk.i_load1 TF.agg_int (hw.cell h3))) rfl ?_
      intro _ hd hW; replace hD := hD.trans hd; clear hd
      refine Wk.an_p (i := 6) cm rfl (by kernel_rfl) rfl rfl (Wk.wanted_none rfl) (fun w' a ha => Wk.x_move (ha.ev rfl)) rfl ?_
      intro _ hd; replace hD := hD.trans hd; replace hW := cm.held _ _ hW hd; clear hd
      refine Wk.an_p (i := 7) cm rfl (by kernel_rfl) rfl rfl (Wk.wanted_none rfl) (fun w' a ha => Wk.x_move (ha.ev rfl)) rfl ?_
      intro _ hd; replace hD := hD.trans hd; replace hW := cm.held _ _ hW hd; clear hd
      refine Wk.an_p (i := 8) cm rfl (by kernel_rfl) rfl rfl (Wk.wanted_none rfl) (fun w' a ha => Wk.x_move (ha.ev rfl)) rfl ?_
      intro _ hd; replace hD := hD.trans hd; replace hW := cm.held _ _ hW hd; clear hd
      obtain ⟨h4, h5, a2, e2, H⟩ := H
      refine Wk.an_p (i := 9) cm rfl (by kernel_rfl) rfl rfl (Wk.wanted_none rfl) (fun w' a ha => Wk.x_indexAddr (ha.ev rfl) (ha.ev rfl) (Wk.i_index TF.elem_sl_api_Flat TF.size_api_Flat e2 h4 h5)) rfl ?_
      intro _ hd; replace hD := hD.trans hd; replace hW := cm.held _ _ hW hd; clear hd
      refine Wk.an_p (i := 10) cm rfl (by kernel_rfl) rfl rfl (Wk.wanted_none rfl) (fun w' a ha => Wk.x_fieldAddr (ha.ev rfl) (TF.fld_api_Flat_1 _ _)) rfl ?_
      intro _ hd; replace hD := hD.trans hd; replace hW := cm.held _ _ hW hd; clear hd
      obtain ⟨A4, n4, c4, h6, hx', H⟩ := H; replace h6 := And.intro h6 hx'; clear hx'
      refine Wk.an_v (i := 11) cm rfl (by kernel_rfl) hW rfl rfl (Wk.wanted_none rfl) (fun w' hw a ha => Wk.x_load (ha.ev rfl) (Wk.i_load1 TF.agg_sl_int (hw.cell h6))) rfl ?_
      intro _ hd hW; replace hD := hD.trans hd; clear hd
      refine Wk.an_ready (rs := [12]) (by kernel_rfl) rfl (Wk.aw_cons ?_ Wk.aw_nil)
      replace H := H _ hD
      refine Wk.aw_c rfl rfl rfl (Wk.wanted_none rfl) (fun a ha => Wk.x_call0 (ha.ev rfl) (ha.evs rfl) FF.callable_arbiterlaw13_Hold_list) rfl true (by kernel_rfl) H ?_
      rintro _ w3 ⟨A5, n5, c5, rfl, H⟩ _ hD
      have hW := H.1.drawn hD
      replace H := H.2
      refine ⟨fun _ => hW, ?_⟩
      refine Wk.an_p (i := 13) cm rfl (by kernel_rfl) rfl rfl (Wk.wanted_none rfl) (fun w' a ha => Wk.x_buildP (u := (.agg #[(.int .i64 x2), (.slice A5 n5 c5)])) (qs := [(0, (.int .i64 x2)), (1, (.slice A5 n5 c5))]) (by simp only [List.map_cons, List.map_nil, ha.ev (x := (.tmp 19)) rfl, ha.ev (x := (.tmp 26)) rfl]) (by kernel_rfl)) rfl ?_
      intro _ hd; replace hD := hD.trans hd; clear hd
      refine Wk.an_ready (rs := [14]) (by kernel_rfl) rfl (Wk.aw_cons ?_ Wk.aw_nil)
      replace H := H _ hD
      refine Wk.aw_new (f := (fun p => .slice (some p) 1 1)) rfl rfl rfl (Wk.wanted_none rfl) (fun a ha => Wk.x_buildSlice (u := .slice (some ⟨_, 0, none⟩) 1 1) (w' := World.alloc _ (.cells #[(.int .i64 x2), (.slice A5 n5 c5)] T.api_Flat)) (qs := [(0, (.agg #[(.int .i64 x2), (.slice A5 n5 c5)]))]) (by simp only [List.map_cons, List.map_nil, ha.ev (x := (.tmp 27)) rfl]) (by kernel_rfl)) rfl false (by kernel_rfl) ?_
      intro p3 w6 hN _ hD; replace H := H _ _ hN
      refine ⟨fun h => (by cases h), ?_⟩
      refine Wk.an_ready (rs := [15]) (by kernel_rfl) rfl (Wk.aw_cons ?_ Wk.aw_nil)
      replace H := H _ hD
      obtain ⟨A6, n6, c6, w7, h9, H⟩ := H
      refine Wk.aw_v rfl rfl rfl (Wk.wanted_none rfl) (fun a ha => Wk.x_builtin (ha.evs rfl) (fun _ => Wk.bi_append h9)) rfl false (by kernel_rfl) ?_
      intro _ hD
      refine ⟨fun h => (by cases h), ?_⟩
      refine Wk.an_p (i := 16) cm rfl (by kernel_rfl) rfl rfl (Wk.wanted_none rfl) (fun w' a ha => Wk.x_assign (ha.ev rfl)) rfl ?_
      intro _ hd; replace hD := hD.trans hd; clear hd
      refine Wk.an_end (by kernel_rfl) hD ?_
      intro w8 hD; replace H := H _ hD; clear hD cm
      refine Wk.nx_block ?_
      exact Wk.nx_to fun a ha => ⟨A6, n6, c6, ha.weaken (Wk.sub.cons rfl (Wk.sub.cons rfl (Wk.sub.cons rfl (Wk.sub.cons rfl (Wk.sub.nil))))), H⟩
  · replace H := H.2 hb
    refine Wk.cw_exit ?_
    refine Wk.nx_exit_then ?_
    refine Wk.nx_exit_then ?_
    refine Wk.nx_exit_hit ?_
    refine Wk.nx_code (Wk.cw_sub (e' := [(0, (.pointer (some p1))), (1, (.slice A1 n1 c1)), (5, (.slice A3 n3 c3))]) (Wk.sub.cons rfl (Wk.sub.cons rfl (Wk.sub.cons rfl (Wk.sub.nil)))) ?_)
    refine Wk.cw_seq ?_
    refine Wk.cw_region ?_
    refine Wk.sl_v rfl rfl (Wk.wanted_none rfl) (fun a ha => Wk.x_move (ha.ev rfl)) ?_
    refine Wk.sl_v rfl rfl (Wk.wanted_none rfl) (fun a ha => Wk.x_buildP (u := (.agg #[(.int .i64 73), (.slice none 0 0)])) (qs := [(0, (.int .i64 73))]) (by simp only [List.map_cons, List.map_nil, ha.ev (x := (.const (.int .i64 73))) rfl]) (by kernel_rfl)) ?_
    refine Wk.sl_v rfl rfl (Wk.wanted_none rfl) (fun a ha => Wk.x_buildP (u := (.agg #[(.int .i64 74), (.slice none 0 0)])) (qs := [(0, (.int .i64 74))]) (by simp only [List.map_cons, List.map_nil, ha.ev (x := (.const (.int .i64 74))) rfl]) (by kernel_rfl)) ?_
    refine Wk.sl_new (f := (fun p => .slice (some p) 2 2)) rfl rfl (Wk.wanted_none rfl) (fun a ha => Wk.x_buildSlice (u := .slice (some ⟨_, 0, none⟩) 2 2) (w' := World.alloc _ (.cells #[(.int .i64 73), (.slice none 0 0), (.int .i64 74), (.slice none 0 0)] T.api_Flat)) (qs := [(0, (.agg #[(.int .i64 73), (.slice none 0 0)])), (1, (.agg #[(.int .i64 74), (.slice none 0 0)]))]) (by simp only [List.map_cons, List.map_nil, ha.ev (x := (.tmp 31)) rfl, ha.ev (x := (.tmp 32)) rfl]) (by kernel_rfl)) ?_
    intro p4 w12 hN; replace H := H _ _ hN
    obtain ⟨A8, n8, c8, w13, h10, H⟩ := H
    refine Wk.sl_v rfl rfl (Wk.wanted_none rfl) (fun a ha => Wk.x_builtin (ha.evs rfl) (fun _ => Wk.bi_append h10)) ?_
    refine Wk.sl_v rfl rfl (Wk.wanted_none rfl) (fun a ha => Wk.x_assign (ha.ev rfl)) ?_
    refine Wk.sl_nil ?_
    refine Wk.nx_code (Wk.cw_sub (e' := [(0, (.pointer (some p1))), (1, (.slice A1 n1 c1)), (5, (.slice A8 n8 c8))]) (Wk.sub.cons rfl (Wk.sub.cons rfl (Wk.sub.cons rfl (Wk.sub.nil)))) ?_)
    refine Wk.cw_seq ?_
    refine Wk.cw_region ?_
    refine Wk.sl_v rfl rfl (Wk.wanted_none rfl) (fun a ha => Wk.x_move (ha.ev rfl)) ?_
    refine Wk.sl_v rfl rfl (Wk.wanted_none rfl) (fun a ha => Wk.x_move (ha.ev rfl)) ?_
    refine Wk.sl_v rfl rfl (Wk.wanted_none rfl) (fun a ha => Wk.x_nilCheck_ptr (ha.ev rfl)) ?_
    refine Wk.sl_v rfl rfl (Wk.wanted_none rfl) (fun a ha => Wk.x_fieldAddr (ha.ev rfl) (TF.fld_arbiterlaw13_Hold_2 _ _)) ?_
    obtain ⟨A9, n9, c9, h11, H⟩ := H
    refine Wk.sl_v rfl rfl (Wk.wanted_none rfl) (fun a ha => Wk.x_load (ha.ev rfl) (Wk.i_load1 TF.agg_sl_sl_api_Flat h11)) ?_
    refine Wk.sl_v rfl rfl (Wk.wanted_none rfl) (fun a ha => Wk.x_move (ha.ev rfl)) ?_
    refine Wk.sl_new (f := (fun p => .slice (some p) 1 1)) rfl rfl (Wk.wanted_none rfl) (fun a ha => Wk.x_buildSlice (u := .slice (some ⟨_, 0, none⟩) 1 1) (w' := World.alloc _ (.cells #[(.slice A8 n8 c8)] T.sl_api_Flat)) (qs := [(0, (.slice A8 n8 c8))]) (by simp only [List.map_cons, List.map_nil, ha.ev (x := (.tmp 40)) rfl]) (by kernel_rfl)) ?_
    intro p5 w14 hN; replace H := H _ _ hN
    obtain ⟨A10, n10, c10, w15, h12, H⟩ := H
    refine Wk.sl_v rfl rfl (Wk.wanted_none rfl) (fun a ha => Wk.x_builtin (ha.evs rfl) (fun _ => Wk.bi_append h12)) ?_
    refine Wk.sl_v rfl rfl (Wk.wanted_none rfl) (fun a ha => Wk.x_nilCheck_ptr (ha.ev rfl)) ?_
    refine Wk.sl_v rfl rfl (Wk.wanted_none rfl) (fun a ha => Wk.x_fieldAddr (ha.ev rfl) (TF.fld_arbiterlaw13_Hold_2 _ _)) ?_
    obtain ⟨⟨u1, h13⟩, h14, H⟩ := H
    refine Wk.sl_un rfl (Wk.wanted_none rfl) (fun a ha => Wk.x_store (ha.ev rfl) (ha.ev rfl) (Wk.i_store1 TF.size_sl_sl_api_Flat rfl rfl h13 h14)) ?_
    intro w16 hw; replace H := H _ hw; clear hw
    refine Wk.sl_nil ?_
    refine Wk.nx_code (Wk.cw_sub (e' := [(0, (.pointer (some p1))), (1, (.slice A1 n1 c1)), (5, (.slice A8 n8 c8))]) (Wk.sub.cons rfl (Wk.sub.cons rfl (Wk.sub.cons rfl (Wk.sub.nil)))) ?_)
    refine Wk.cw_seq ?_
    refine Wk.cw_region ?_
    refine Wk.sl_v rfl rfl (Wk.wanted_none rfl) (fun a ha => Wk.x_move (ha.ev rfl)) ?_
    refine Wk.sl_v rfl rfl (Wk.wanted_none rfl) (fun a ha => Wk.x_move (ha.ev rfl)) ?_
    refine Wk.sl_v rfl rfl (Wk.wanted_none rfl) (fun a ha => Wk.x_nilCheck_ptr (ha.ev rfl)) ?_
    refine Wk.sl_v rfl rfl (Wk.wanted_none rfl) (fun a ha => Wk.x_fieldAddr (ha.ev rfl) (TF.fld_arbiterlaw13_Hold_3 _ _)) ?_
    obtain ⟨A11, n11, c11, h15, H⟩ := H
    refine Wk.sl_v rfl rfl (Wk.wanted_none rfl) (fun a ha => Wk.x_load (ha.ev rfl) (Wk.i_load1 TF.agg_sl_sl_api_Flat h15)) ?_
    refine Wk.sl_v rfl rfl (Wk.wanted_none rfl) (fun a ha => Wk.x_move (ha.ev rfl)) ?_
    refine Wk.sl_new (f := (fun p => .slice (some p) 1 1)) rfl rfl (Wk.wanted_none rfl) (fun a ha => Wk.x_buildSlice (u := .slice (some ⟨_, 0, none⟩) 1 1) (w' := World.alloc _ (.cells #[(.slice A1 n1 c1)] T.sl_api_Flat)) (qs := [(0, (.slice A1 n1 c1))]) (by simp only [List.map_cons, List.map_nil, ha.ev (x := (.tmp 50)) rfl]) (by kernel_rfl)) ?_
    intro p6 w17 hN; replace H := H _ _ hN
    obtain ⟨A12, n12, c12, w18, h16, H⟩ := H
    refine Wk.sl_v rfl rfl (Wk.wanted_none rfl) (fun a ha => Wk.x_builtin (ha.evs rfl) (fun _ => Wk.bi_append h16)) ?_
    refine Wk.sl_v rfl rfl (Wk.wanted_none rfl) (fun a ha => Wk.x_nilCheck_ptr (ha.ev rfl)) ?_
    refine Wk.sl_v rfl rfl (Wk.wanted_none rfl) (fun a ha => Wk.x_fieldAddr (ha.ev rfl) (TF.fld_arbiterlaw13_Hold_3 _ _)) ?_
    obtain ⟨⟨u2, h17⟩, h18, H⟩ := H
    refine Wk.sl_un rfl (Wk.wanted_none rfl) (fun a ha => Wk.x_store (ha.ev rfl) (ha.ev rfl) (Wk.i_store1 TF.size_sl_sl_api_Flat rfl rfl h17 h18)) ?_
    intro w19 hw; replace H := H _ hw; clear hw
    refine Wk.sl_nil ?_
    refine Wk.nx_code (Wk.cw_sub (e' := [(1, (.slice A1 n1 c1)), (5, (.slice A8 n8 c8))]) (Wk.sub.cons rfl (Wk.sub.cons rfl (Wk.sub.nil))) ?_)
    refine Wk.cw_seq ?_
    refine Wk.cw_region ?_
    refine Wk.sl_v rfl rfl (Wk.wanted_none rfl) (fun a ha => Wk.x_move (ha.ev rfl)) ?_
    refine Wk.sl_v rfl rfl (Wk.wanted_none rfl) (fun a ha => Wk.x_move (ha.ev rfl)) ?_
    refine Wk.sl_v rfl rfl (Wk.wanted_none rfl) (fun a ha => Wk.x_builtin (ha.evs rfl) (fun _ => Wk.l_slice TF.isslice_sl_api_Flat)) ?_
    obtain ⟨h19, h20, H⟩ := H
    refine Wk.sl_v rfl rfl (Wk.wanted_none rfl) (fun a ha => Wk.x_slice (ha.ev rfl) rfl (Wk.om_some (ha.ev rfl)) rfl (Wk.i_slice_h TF.elem_sl_api_Flat TF.size_api_Flat h19 h20)) ?_
    refine Wk.sl_v rfl rfl (Wk.wanted_none rfl) (fun a ha => Wk.x_assign (ha.ev rfl)) ?_
    refine Wk.sl_nil ?_
    refine Wk.nx_code (Wk.cw_sub (e' := [(4, (.slice A8 ((n1 : Int).toNat) c8))]) (Wk.sub.cons rfl (Wk.sub.nil)) ?_)
    refine Wk.cw_ret ?_
    exact Wk.nx_body_ret (Wk.res1 rfl rfl) ⟨_, rfl, _, _, _, rfl, H⟩
def vc_arbiterlaw13_Hold_chain (p1 : Addr) (A1 : Option Addr) (n1 : Nat) (c1 : Nat) (K : Option Addr → Nat → Nat → World → Prop) (w : World) : Prop :=
  ∀ (p2 : Addr) (w1 : World), Wk.New w (.cells #[] T.api_Link) p2 w1 → (∃ I1 : Nat → Option Addr → Nat → Nat → Int → World → Prop, (∃ k1, I1 k1 (some p2) 0 0 0 w1) ∧ ∀ k1 (A3 : Option Addr) (n3 : Nat) (c3 : Nat) (x1 : Int) (w2 : World), I1 k1 A3 n3 c3 x1 w2 → ((x1 < (n1 : Int) → (0 ≤ x1 ∧ x1 < (n1 : Int) ∧ ∃ a1, A1 = some a1 ∧ ∃ x2 : Int, ∃ x3 : Int, ∃ x4 : Int, ∃ x5 : Int, ∃ A4 : Option Addr, ∃ n4 : Nat, ∃ c4 : Nat, Wk.CellsAt w2 (a1.add (x1.toNat * 5)) [(.int .i64 x2), (.int .i64 x3), (.int .i64 x4), (.int .i64 x5), (.slice A4 n4 c4)] ∧ ∀ (p3 : Addr) (w3 : World), Wk.New w2 (.cells #[(.int .i64 0), (.int .i64 0), (.int .i64 0), (.int .i64 0), (.slice none 0 0)] T.api_Link) p3 w3 → (Wk.Soft w3 p3 5 ∧ ∀ w4, w4 = Wk.setCellsAt w3 p3 [(.int .i64 x2), (.int .i64 x3), (.int .i64 x4), (.int .i64 x5), (.slice A4 n4 c4)] → (∃ A5 : Option Addr, ∃ n5 : Nat, ∃ c5 : Nat, w4.cell? (p3.add 4) = some (.slice A5 n5 c5) ∧ Calls P F.arbiterlaw13_Hold_list #[(.pointer (some p1)), (.slice A5 n5 c5)] w4 (Wk.Ret fun v1 w5 => ∃ A6 : Option Addr, ∃ n6 : Nat, ∃ c6 : Nat, v1 = (.slice A6 n6 c6) ∧ (∃ u1, w5.cell? (p3.add 4) = some u1) ∧ w5.frozen? (p3.add 4) = false ∧ ∀ w6, w6 = w5.setCell (p3.add 4) (.slice A6 n6 c6) → (∃ x6 : Int, ∃ x7 : Int, ∃ x8 : Int, ∃ x9 : Int, ∃ A7 : Option Addr, ∃ n7 : Nat, ∃ c7 : Nat, Wk.CellsAt w6 p3 [(.int .i64 x6), (.int .i64 x7), (.int .i64 x8), (.int .i64 x9), (.slice A7 n7 c7)] ∧ ∀ (p4 : Addr) (w7 : World), Wk.New w6 (.cells #[(.int .i64 x6), (.int .i64 x7), (.int .i64 x8), (.int .i64 x9), (.slice A7 n7 c7)] T.api_Link) p4 w7 → (∃ (A8 : Option Addr) (n8 c8 : Nat) (w8 : World), (Builtin.append_ #[T.sl_api_Link, T.sl_api_Link] T.sl_api_Link #[(.slice A3 n3 c3), (.slice (some p4) 1 1)]).run P w7 = .ok (.slice A8 n8 c8) w8 ∧ (∃ k2, k2 < k1 ∧ I1 k2 A8 n8 c8 (IntKind.wrap .i64 (x1 + 1)) w8)))))))) ∧ (¬ (x1 < (n1 : Int)) → (∀ (p5 : Addr) (w9 : World), Wk.New w2 (.cells #[(.int .i64 75), (.int .i64 0), (.int .i64 0), (.int .i64 0), (.slice none 0 0), (.int .i64 76), (.int .i64 0), (.int .i64 0), (.int .i64 0), (.slice none 0 0)] T.api_Link) p5 w9 → (∃ (A9 : Option Addr) (n9 c9 : Nat) (w10 : World), (Builtin.append_ #[T.sl_api_Link, T.sl_api_Link] T.sl_api_Link #[(.slice A3 n3 c3), (.slice (some p5) 2 2)]).run P w9 = .ok (.slice A9 n9 c9) w10 ∧ (∃ A10 : Option Addr, ∃ n10 : Nat, ∃ c10 : Nat, w10.cell? (p1.add 4) = some (.slice A10 n10 c10) ∧ ∀ (p6 : Addr) (w11 : World), Wk.New w10 (.cells #[(.slice A9 n9 c9)] T.sl_api_Link) p6 w11 → (∃ (A11 : Option Addr) (n11 c11 : Nat) (w12 : World), (Builtin.append_ #[T.sl_sl_api_Link, T.sl_sl_api_Link] T.sl_sl_api_Link #[(.slice A10 n10 c10), (.slice (some p6) 1 1)]).run P w11 = .ok (.slice A11 n11 c11) w12 ∧ ((∃ u2, w12.cell? (p1.add 4) = some u2) ∧ w12.frozen? (p1.add 4) = false ∧ ∀ w13, w13 = w12.setCell (p1.add 4) (.slice A11 n11 c11) → (∃ A12 : Option Addr, ∃ n12 : Nat, ∃ c12 : Nat, w13.cell? (p1.add 5) = some (.slice A12 n12 c12) ∧ ∀ (p7 : Addr) (w14 : World), Wk.New w13 (.cells #[(.slice A1 n1 c1)] T.sl_api_Link) p7 w14 → (∃ (A13 : Option Addr) (n13 c13 : Nat) (w15 : World), (Builtin.append_ #[T.sl_sl_api_Link, T.sl_sl_api_Link] T.sl_sl_api_Link #[(.slice A12 n12 c12), (.slice (some p7) 1 1)]).run P w14 = .ok (.slice A13 n13 c13) w15 ∧ ((∃ u3, w15.cell? (p1.add 5) = some u3) ∧ w15.frozen? (p1.add 5) = false ∧ ∀ w16, w16 = w15.setCell (p1.add 5) (.slice A13 n13 c13) → (0 ≤ (n1 : Int) ∧ (n1 : Int) ≤ (c9 : Int) ∧ K A9 ((n1 : Int).toNat) c9 w16))))))))))))
set_option maxHeartbeats 2000000 in
set_option maxRecDepth 20000 in
theorem ok_arbiterlaw13_Hold_chain (p1 : Addr) (A1 : Option Addr) (n1 : Nat) (c1 : Nat) (K : Option Addr → Nat → Nat → World → Prop) (w : World) (H : vc_arbiterlaw13_Hold_chain p1 A1 n1 c1 K w) : Calls P F.arbiterlaw13_Hold_chain #[(.pointer (some p1)), (.slice A1 n1 c1)] w (Wk.Ret fun v w' => ∃ A2 : Option Addr, ∃ n2 : Nat, ∃ c2 : Nat, v = (.slice A2 n2 c2) ∧ K A2 n2 c2 w') := by
  unfold vc_arbiterlaw13_Hold_chain at H
  refine Wk.calls_of (P := P) Try.func7 rfl [(0, (.pointer (some p1))), (1, (.slice A1 n1 c1))] 57 rfl rfl (fun p hp => by simp only [List.mem_cons, List.not_mem_nil, or_false] at hp; rcases hp with rfl | rfl <;> rfl) ?_
  refine Wk.cw_seq ?_
  refine Wk.cw_region ?_
  refine Wk.sl_v rfl rfl (Wk.wanted_none rfl) (fun a ha => Wk.x_assign (ha.ev rfl)) ?_
  refine Wk.sl_nil ?_
  refine Wk.nx_code (Wk.cw_sub (e' := [(0, (.pointer (some p1))), (1, (.slice A1 n1 c1))]) (Wk.sub.cons rfl (Wk.sub.cons rfl (Wk.sub.nil))) ?_)
  refine Wk.cw_seq ?_
  refine Wk.cw_region ?_
  refine Wk.sl_new (f := (fun p => .slice (some p) 0 0)) rfl rfl (Wk.wanted_none rfl) (fun a ha => Wk.x_buildSlice (u := .slice (some ⟨_, 0, none⟩) 0 0) (w' := World.alloc _ (.cells #[] T.api_Link)) (qs := []) (by simp only [List.map_cons, List.map_nil]) (by kernel_rfl)) ?_
  intro p2 w1 hN; replace H := H _ _ hN
  refine Wk.sl_v rfl rfl (Wk.wanted_none rfl) (fun a ha => Wk.x_assign (ha.ev rfl)) ?_
  refine Wk.sl_nil ?_
  refine Wk.nx_code (Wk.cw_sub (e' := [(0, (.pointer (some p1))), (1, (.slice A1 n1 c1)), (5, (.slice (some p2) 0 0))]) (Wk.sub.cons rfl (Wk.sub.cons rfl (Wk.sub.cons rfl (Wk.sub.nil)))) ?_)
  refine Wk.cw_seq ?_
  refine Wk.cw_seq ?_
  refine Wk.cw_region ?_
  refine Wk.sl_v rfl rfl (Wk.wanted_none rfl) (fun a ha => Wk.x_assign (ha.ev rfl)) ?_
  refine Wk.sl_nil ?_
  refine Wk.nx_code (Wk.cw_sub (e' := [(0, (.pointer (some p1))), (1, (.slice A1 n1 c1)), (5, (.slice (some p2) 0 0)), (6, (.int .i64 0))]) (Wk.sub.cons rfl (Wk.sub.cons rfl (Wk.sub.cons rfl (Wk.sub.cons rfl (Wk.sub.nil))))) ?_)
  refine Wk.cw_block ?_
  obtain ⟨I1, ⟨k1, hi⟩, H⟩ := H
  refine Wk.cw_loop (fun k1 a w' => ∃ A3 : Option Addr, ∃ n3 : Nat, ∃ c3 : Nat, ∃ x1 : Int, Wk.Ok 57 [(0, (.pointer (some p1))), (1, (.slice A1 n1 c1)), (5, (.slice A3 n3 c3)), (6, (.int .i64 x1))] a ∧ I1 k1 A3 n3 c3 x1 w') (fun a ha => ⟨k1, some p2, 0, 0, 0, ha.weaken (Wk.sub.cons rfl (Wk.sub.cons rfl (Wk.sub.cons rfl (Wk.sub.cons rfl (Wk.sub.nil))))), hi⟩) ?_
  rintro k1 a w2 ⟨A3, n3, c3, x1, ha, hI⟩
  replace H := H k1 A3 n3 c3 x1 w2 hI
  refine (?_ : Wk.CW _ _ _ 57 [(0, (.pointer (some p1))), (1, (.slice A1 n1 c1)), (5, (.slice A3 n3 c3)), (6, (.int .i64 x1))] _) a ha
  refine Wk.cw_seq ?_
  refine Wk.cw_seq ?_
  refine Wk.cw_region ?_
  refine Wk.sl_v rfl rfl (Wk.wanted_none rfl) (fun a ha => Wk.x_move (ha.ev rfl)) ?_
  refine Wk.sl_v rfl rfl (Wk.wanted_none rfl) (fun a ha => Wk.x_move (ha.ev rfl)) ?_
  refine Wk.sl_v rfl rfl (Wk.wanted_none rfl) (fun a ha => Wk.x_builtin (ha.evs rfl) (fun _ => Wk.l_slice TF.isslice_sl_api_Link)) ?_
  refine Wk.sl_v rfl rfl (Wk.wanted_none rfl) (fun a ha => Wk.x_binOp (ha.ev rfl) (ha.ev rfl) Wk.o_lss) ?_
  refine Wk.sl_nil ?_
  refine Wk.nx_code (Wk.cw_sub (e' := [(0, (.pointer (some p1))), (1, (.slice A1 n1 c1)), (5, (.slice A3 n3 c3)), (6, (.int .i64 x1)), (12, (.bool (decide (x1 < (n1 : Int)))))]) (Wk.sub.cons rfl (Wk.sub.cons rfl (Wk.sub.cons rfl (Wk.sub.cons rfl (Wk.sub.cons rfl (Wk.sub.nil)))))) ?_)
  refine Wk.cw_cond_p rfl (fun hb => ?_) (fun hb => ?_)
  · replace H := H.1 hb
    refine Wk.cw_skip ?_
    refine Wk.nx_code (Wk.cw_sub (e' := [(0, (.pointer (some p1))), (1, (.slice A1 n1 c1)), (5, (.slice A3 n3 c3)), (6, (.int .i64 x1))]) (Wk.sub.cons rfl (Wk.sub.cons rfl (Wk.sub.cons rfl (Wk.sub.cons rfl (Wk.sub.nil))))) ?_)
    refine Wk.cw_seq ?_
    refine Wk.cw_block ?_
    refine Wk.cw_seq ?_
    refine Wk.cw_region ?_
    refine Wk.sl_v rfl rfl (Wk.wanted_none rfl) (fun a ha => Wk.x_move (ha.ev rfl)) ?_
    refine Wk.sl_v rfl rfl (Wk.wanted_none rfl) (fun a ha => Wk.x_move (ha.ev rfl)) ?_
    obtain ⟨h1, h2, a1, e1, H⟩ := H
    refine Wk.sl_v rfl rfl (Wk.wanted_none rfl) (fun a ha => Wk.x_indexAddr (ha.ev rfl) (ha.ev rfl) (Wk.i_index TF.elem_sl_api_Link TF.size_api_Link e1 h1 h2)) ?_
    obtain ⟨x2, x3, x4, x5, A4, n4, c4, h3, H⟩ := H
    refine Wk.sl_v rfl rfl (Wk.wanted_none rfl) (fun a ha => Wk.x_load (ha.ev rfl) (Wk.i_loadN (vs := [(.int .i64 x2), (.int .i64 x3), (.int .i64 x4), (.int .i64 x5), (.slice A4 n4 c4)]) TF.agg_api_Link TF.size_api_Link h3)) ?_
    refine Wk.sl_new (f := (fun p => .pointer (some p))) rfl rfl (Wk.wanted_none rfl) (fun a ha => Wk.x_alloc (Wk.i_alloc TF.zero_api_Link)) ?_
    intro p3 w3 hN; replace H := H _ _ hN
    obtain ⟨h5, H⟩ := H
    refine Wk.sl_un rfl (Wk.wanted_none rfl) (fun a ha => Wk.x_store (ha.ev rfl) (ha.ev rfl) (Wk.i_storeN TF.size_api_Link (by simp [Value.oneCell']) h5)) ?_
    intro w4 hw; replace H := H _ hw; clear hw
    refine Wk.sl_nil ?_
    refine Wk.nx_code (Wk.cw_sub (e' := [(0, (.pointer (some p1))), (1, (.slice A1 n1 c1)), (5, (.slice A3 n3 c3)), (6, (.int .i64 x1)), (7, (.pointer (some p3)))]) (Wk.sub.cons rfl (Wk.sub.cons rfl (Wk.sub.cons rfl (Wk.sub.cons rfl (Wk.sub.cons rfl (Wk.sub.nil)))))) ?_)
    refine Wk.cw_seq ?_
    refine Wk.cw_region ?_
    refine Wk.sl_v rfl rfl (Wk.wanted_none rfl) (fun a ha => Wk.x_move (ha.ev rfl)) ?_
    refine Wk.sl_v rfl rfl (Wk.wanted_none rfl) (fun a ha => Wk.x_fieldAddr (ha.ev rfl) (TF.fld_api_Link_4 _ _)) ?_
    obtain ⟨A5, n5, c5, h6, H⟩ := H
    refine Wk.sl_v rfl rfl (Wk.wanted_none rfl) (fun a ha => Wk.x_load (ha.ev rfl) (Wk.i_load1 TF.agg_sl_int h6)) ?_
    refine Wk.sl_call rfl rfl (Wk.wanted_none rfl) (fun a ha => Wk.x_call0 (ha.ev rfl) (ha.evs rfl) FF.callable_arbiterlaw13_Hold_list) H ?_
    rintro _ w5 ⟨A6, n6, c6, rfl, H⟩
    refine Wk.sl_v rfl rfl (Wk.wanted_none rfl) (fun a ha => Wk.x_fieldAddr (ha.ev rfl) (TF.fld_api_Link_4 _ _)) ?_
    obtain ⟨⟨u1, h7⟩, h8, H⟩ := H
    refine Wk.sl_un rfl (Wk.wanted_none rfl) (fun a ha => Wk.x_store (ha.ev rfl) (ha.ev rfl) (Wk.i_store1 TF.size_sl_int rfl rfl h7 h8)) ?_
    intro w6 hw; replace H := H _ hw; clear hw
    refine Wk.sl_nil ?_
    refine Wk.nx_code (Wk.cw_sub (e' := [(0, (.pointer (some p1))), (1, (.slice A1 n1 c1)), (5, (.slice A3 n3 c3)), (6, (.int .i64 x1)), (7, (.pointer (some p3)))]) (Wk.sub.cons rfl (Wk.sub.cons rfl (Wk.sub.cons rfl (Wk.sub.cons rfl (Wk.sub.cons rfl (Wk.sub.nil)))))) ?_)
    refine Wk.cw_region ?_
    refine Wk.sl_v rfl rfl (Wk.wanted_none rfl) (fun a ha => Wk.x_move (ha.ev rfl)) ?_
    obtain ⟨x6, x7, x8, x9, A7, n7, c7, h9, H⟩ := H
    refine Wk.sl_v rfl rfl (Wk.wanted_none rfl) (fun a ha => Wk.x_load (ha.ev rfl) (Wk.i_loadN (vs := [(.int .i64 x6), (.int .i64 x7), (.int .i64 x8), (.int .i64 x9), (.slice A7 n7 c7)]) TF.agg_api_Link TF.size_api_Link h9)) ?_
    refine Wk.sl_new (f := (fun p => .slice (some p) 1 1)) rfl rfl (Wk.wanted_none rfl) (fun a ha => Wk.x_buildSlice (u := .slice (some ⟨_, 0, none⟩) 1 1) (w' := World.alloc _ (.cells #[(.int .i64 x6), (.int .i64 x7), (.int .i64 x8), (.int .i64 x9), (.slice A7 n7 c7)] T.api_Link)) (qs := [(0, (.agg #[(.int .i64 x6), (.int .i64 x7), (.int .i64 x8), (.int .i64 x9), (.slice A7 n7 c7)]))]) (by simp only [List.map_cons, List.map_nil, ha.ev (x := (.tmp 25)) rfl]) (by kernel_rfl)) ?_
    intro p4 w7 hN; replace H := H _ _ hN
    obtain ⟨A8, n8, c8, w8, h10, H⟩ := H
    refine Wk.sl_v rfl rfl (Wk.wanted_none rfl) (fun a ha => Wk.x_builtin (ha.evs rfl) (fun _ => Wk.bi_append h10)) ?_
    refine Wk.sl_v rfl rfl (Wk.wanted_none rfl) (fun a ha => Wk.x_assign (ha.ev rfl)) ?_
    refine Wk.sl_nil ?_
    refine Wk.nx_block ?_
    refine Wk.nx_code (Wk.cw_sub (e' := [(0, (.pointer (some p1))), (1, (.slice A1 n1 c1)), (5, (.slice A8 n8 c8)), (6, (.int .i64 x1))]) (Wk.sub.cons rfl (Wk.sub.cons rfl (Wk.sub.cons rfl (Wk.sub.cons rfl (Wk.sub.nil))))) ?_)
    refine Wk.cw_region ?_
    refine Wk.sl_v rfl rfl (Wk.wanted_none rfl) (fun a ha => Wk.x_move (ha.ev rfl)) ?_
    refine Wk.sl_v rfl rfl (Wk.wanted_none rfl) (fun a ha => Wk.x_binOp (ha.ev rfl) (ha.ev rfl) Wk.o_add) ?_
    refine Wk.sl_v rfl rfl (Wk.wanted_none rfl) (fun a ha => Wk.x_assign (ha.ev rfl)) ?_
    refine Wk.sl_nil ?_
    obtain ⟨k2, hk, H⟩ := H
    exact Wk.nx_to fun a ha => ⟨k2, hk, A8, n8, c8, IntKind.wrap .i64 (x1 + 1), ha.weaken (Wk.sub.cons rfl (Wk.sub.cons rfl (Wk.sub.cons rfl (Wk.sub.cons rfl (Wk.sub.nil))))), H⟩
  · replace H := H.2 hb
    refine Wk.cw_exit ?_
    refine Wk.nx_exit_then ?_
    refine Wk.nx_exit_then ?_
    refine Wk.nx_exit_hit ?_
    refine Wk.nx_code (Wk.cw_sub (e' := [(0, (.pointer (some p1))), (1, (.slice A1 n1 c1)), (5, (.slice A3 n3 c3))]) (Wk.sub.cons rfl (Wk.sub.cons rfl (Wk.sub.cons rfl (Wk.sub.nil)))) ?_)
    refine Wk.cw_seq ?_
    refine Wk.cw_region ?_
    refine Wk.sl_v rfl rfl (Wk.wanted_none rfl) (fun a ha => Wk.x_move (ha.ev rfl)) ?_
    refine Wk.sl_v rfl rfl (Wk.wanted_none rfl) (fun a ha => Wk.x_buildP (u := (.agg #[(.int .i64 75), (.int .i64 0), (.int .i64 0), (.int .i64 0), (.slice none 0 0)])) (qs := [(0, (.int .i64 75))]) (by simp only [List.map_cons, List.map_nil, ha.ev (x := (.const (.int .i64 75))) rfl]) (by kernel_rfl)) ?_
    refine Wk.sl_v rfl rfl (Wk.wanted_none rfl) (fun a ha => Wk.x_buildP (u := (.agg #[(.int .i64 76), (.int .i64 0), (.int .i64 0), (.int .i64 0), (.slice none 0 0)])) (qs := [(0, (.int .i64 76))]) (by simp only [List.map_cons, List.map_nil, ha.ev (x := (.const (.int .i64 76))) rfl]) (by kernel_rfl)) ?_
    refine Wk.sl_new (f := (fun p => .slice (some p) 2 2)) rfl rfl (Wk.wanted_none rfl) (fun a ha => Wk.x_buildSlice (u := .slice (some ⟨_, 0, none⟩) 2 2) (w' := World.alloc _ (.cells #[(.int .i64 75), (.int .i64 0), (.int .i64 0), (.int .i64 0), (.slice none 0 0), (.int .i64 76), (.int .i64 0), (.int .i64 0), (.int .i64 0), (.slice none 0 0)] T.api_Link)) (qs := [(0, (.agg #[(.int .i64 75), (.int .i64 0), (.int .i64 0), (.int .i64 0), (.slice none 0 0)])), (1, (.agg #[(.int .i64 76), (.int .i64 0), (.int .i64 0), (.int .i64 0), (.slice none 0 0)]))]) (by simp only [List.map_cons, List.map_nil, ha.ev (x := (.tmp 29)) rfl, ha.ev (x := (.tmp 30)) rfl]) (by kernel_rfl)) ?_
    intro p5 w9 hN; replace H := H _ _ hN
    obtain ⟨A9, n9, c9, w10, h11, H⟩ := H
    refine Wk.sl_v rfl rfl (Wk.wanted_none rfl) (fun a ha => Wk.x_builtin (ha.evs rfl) (fun _ => Wk.bi_append h11)) ?_
    refine Wk.sl_v rfl rfl (Wk.wanted_none rfl) (fun a ha => Wk.x_assign (ha.ev rfl)) ?_
    refine Wk.sl_nil ?_
    refine Wk.nx_code (Wk.cw_sub (e' := [(0, (.pointer (some p1))), (1, (.slice A1 n1 c1)), (5, (.slice A9 n9 c9))]) (Wk.sub.cons rfl (Wk.sub.cons rfl (Wk.sub.cons rfl (Wk.sub.nil)))) ?_)
    refine Wk.cw_seq ?_
    refine Wk.cw_region ?_
    refine Wk.sl_v rfl rfl (Wk.wanted_none rfl) (fun a ha => Wk.x_move (ha.ev rfl)) ?_
    refine Wk.sl_v rfl rfl (Wk.wanted_none rfl) (fun a ha => Wk.x_move (ha.ev rfl)) ?_
    refine Wk.sl_v rfl rfl (Wk.wanted_none rfl) (fun a ha => Wk.x_nilCheck_ptr (ha.ev rfl)) ?_
    refine Wk.sl_v rfl rfl (Wk.wanted_none rfl) (fun a ha => Wk.x_fieldAddr (ha.ev rfl) (TF.fld_arbiterlaw13_Hold_4 _ _)) ?_
    obtain ⟨A10, n10, c10, h12, H⟩ := H
    refine Wk.sl_v rfl rfl (Wk.wanted_none rfl) (fun a ha => Wk.x_load (ha.ev rfl) (Wk.i_load1 TF.agg_sl_sl_api_Link h12)) ?_
    refine Wk.sl_v rfl rfl (Wk.wanted_none rfl) (fun a ha => Wk.x_move (ha.ev rfl)) ?_
    refine Wk.sl_new (f := (fun p => .slice (some p) 1 1)) rfl rfl (Wk.wanted_none rfl) (fun a ha => Wk.x_buildSlice (u := .slice (some ⟨_, 0, none⟩) 1 1) (w' := World.alloc _ (.cells #[(.slice A9 n9 c9)] T.sl_api_Link)) (qs := [(0, (.slice A9 n9 c9))]) (by simp only [List.map_cons, List.map_nil, ha.ev (x := (.tmp 38)) rfl]) (by kernel_rfl)) ?_
    intro p6 w11 hN; replace H := H _ _ hN
    obtain ⟨A11, n11, c11, w12, h13, H⟩ := H
    refine Wk.sl_v rfl rfl (Wk.wanted_none rfl) (fun a ha => Wk.x_builtin (ha.evs rfl) (fun _ => Wk.bi_append h13)) ?_
    refine Wk.sl_v rfl rfl (Wk.wanted_none rfl) (fun a ha => Wk.x_nilCheck_ptr (ha.ev rfl)) ?_
    refine Wk.sl_v rfl rfl (Wk.wanted_none rfl) (fun a ha => Wk.x_fieldAddr (ha.ev rfl) (TF.fld_arbiterlaw13_Hold_4 _ _)) ?_
    obtain ⟨⟨u2, h14⟩, h15, H⟩ := H
    refine Wk.sl_un rfl (Wk.wanted_none rfl) (fun a ha => Wk.x_store (ha.ev rfl) (ha.ev rfl) (Wk.i_store1 TF.size_sl_sl_api_Link rfl rfl h14 h15)) ?_
    intro w13 hw; replace H := H _ hw; clear hw
    refine Wk.sl_nil ?_
    refine Wk.nx_code (Wk.cw_sub (e' := [(0, (.pointer (some p1))), (1, (.slice A1 n1 c1)), (5, (.slice A9 n9 c9))]) (Wk.sub.cons rfl (Wk.sub.cons rfl (Wk.sub.cons rfl (Wk.sub.nil)))) ?_)
    refine Wk.cw_seq ?_
    refine Wk.cw_region ?_
    refine Wk.sl_v rfl rfl (Wk.wanted_none rfl) (fun a ha => Wk.x_move (ha.ev rfl)) ?_
    refine Wk.sl_v rfl rfl (Wk.wanted_none rfl) (fun a ha => Wk.x_move (ha.ev rfl)) ?_
    refine Wk.sl_v rfl rfl (Wk.wanted_none rfl) (fun a ha => Wk.x_nilCheck_ptr (ha.ev rfl)) ?_
    refine Wk.sl_v rfl rfl (Wk.wanted_none rfl) (fun a ha => Wk.x_fieldAddr (ha.ev rfl) (TF.fld_arbiterlaw13_Hold_5 _ _)) ?_
    obtain ⟨A12, n12, c12, h16, H⟩ := H
    refine Wk.sl_v rfl rfl (Wk.wanted_none rfl) (fun a ha => Wk.x_load (ha.ev rfl) (Wk.i_load1 TF.agg_sl_sl_api_Link h16)) ?_
    refine Wk.sl_v rfl rfl (Wk.wanted_none rfl) (fun a ha => Wk.x_move (ha.ev rfl)) ?_
    refine Wk.sl_new (f := (fun p => .slice (some p) 1 1)) rfl rfl (Wk.wanted_none rfl) (fun a ha => Wk.x_buildSlice (u := .slice (some ⟨_, 0, none⟩) 1 1) (w' := World.alloc _ (.cells #[(.slice A1 n1 c1)] T.sl_api_Link)) (qs := [(0, (.slice A1 n1 c1))]) (by simp only [List.map_cons, List.map_nil, ha.ev (x := (.tmp 48)) rfl]) (by kernel_rfl)) ?_
    intro p7 w14 hN; replace H := H _ _ hN
    obtain ⟨A13, n13, c13, w15, h17, H⟩ := H
    refine Wk.sl_v rfl rfl (Wk.wanted_none rfl) (fun a ha => Wk.x_builtin (ha.evs rfl) (fun _ => Wk.bi_append h17)) ?_
    refine Wk.sl_v rfl rfl (Wk.wanted_none rfl) (fun a ha => Wk.x_nilCheck_ptr (ha.ev rfl)) ?_
    refine Wk.sl_v rfl rfl (Wk.wanted_none rfl) (fun a ha => Wk.x_fieldAddr (ha.ev rfl) (TF.fld_arbiterlaw13_Hold_5 _ _)) ?_
    obtain ⟨⟨u3, h18⟩, h19, H⟩ := H
    refine Wk.sl_un rfl (Wk.wanted_none rfl) (fun a ha => Wk.x_store (ha.ev rfl) (ha.ev rfl) (Wk.i_store1 TF.size_sl_sl_api_Link rfl rfl h18 h19)) ?_
    intro w16 hw; replace H := H _ hw; clear hw
    refine Wk.sl_nil ?_
    refine Wk.nx_code (Wk.cw_sub (e' := [(1, (.slice A1 n1 c1)), (5, (.slice A9 n9 c9))]) (Wk.sub.cons rfl (Wk.sub.cons rfl (Wk.sub.nil))) ?_)
    refine Wk.cw_seq ?_
    refine Wk.cw_region ?_
    refine Wk.sl_v rfl rfl (Wk.wanted_none rfl) (fun a ha => Wk.x_move (ha.ev rfl)) ?_
    refine Wk.sl_v rfl rfl (Wk.wanted_none rfl) (fun a ha => Wk.x_move (ha.ev rfl)) ?_
    refine Wk.sl_v rfl rfl (Wk.wanted_none rfl) (fun a ha => Wk.x_builtin (ha.evs rfl) (fun _ => Wk.l_slice TF.isslice_sl_api_Link)) ?_
    obtain ⟨h20, h21, H⟩ := H
    refine Wk.sl_v rfl rfl (Wk.wanted_none rfl) (fun a ha => Wk.x_slice (ha.ev rfl) rfl (Wk.om_some (ha.ev rfl)) rfl (Wk.i_slice_h TF.elem_sl_api_Link TF.size_api_Link h20 h21)) ?_
    refine Wk.sl_v rfl rfl (Wk.wanted_none rfl) (fun a ha => Wk.x_assign (ha.ev rfl)) ?_
    refine Wk.sl_nil ?_
    refine Wk.nx_code (Wk.cw_sub (e' := [(4, (.slice A9 ((n1 : Int).toNat) c9))]) (Wk.sub.cons rfl (Wk.sub.nil)) ?_)
    refine Wk.cw_ret ?_
    exact Wk.nx_body_ret (Wk.res1 rfl rfl) ⟨_, rfl, _, _, _, rfl, H⟩
def vc_arbiterlaw13_sameInts (A1 : Option Addr) (n1 : Nat) (c1 : Nat) (A2 : Option Addr) (n2 : Nat) (c2 : Nat) (K : Bool → World → Prop) (w : World) : Prop :=
  ((n1 : Int) ≠ (n2 : Int) → (K false w)) ∧ (¬ ((n1 : Int) ≠ (n2 : Int)) → (∃ I1 : Nat → Int → World → Prop, (∃ k1, I1 k1 0 w) ∧ ∀ k1 (x1 : Int) (w1 : World), I1 k1 x1 w1 → ((x1 < (n1 : Int) → (0 ≤ x1 ∧ x1 < (n1 : Int) ∧ ∃ a1, A1 = some a1 ∧ ∃ x2 : Int, w1.cell? (a1.add (x1.toNat * 1)) = some (.int .i64 x2) ∧ 0 ≤ x1 ∧ x1 < (n2 : Int) ∧ ∃ a2, A2 = some a2 ∧ ∃ x3 : Int, w1.cell? (a2.add (x1.toNat * 1)) = some (.int .i64 x3) ∧ ∀ w2, Wk.Drawn w1 w2 → ((x2 ≠ x3 → (K false w2)) ∧ (¬ (x2 ≠ x3) → (∃ k2, k2 < k1 ∧ I1 k2 (IntKind.wrap .i64 (x1 + 1)) w2))))) ∧ (¬ (x1 < (n1 : Int)) → (K true w1)))))
set_option maxHeartbeats 2000000 in
set_option maxRecDepth 20000 in
theorem ok_arbiterlaw13_sameInts (A1 : Option Addr) (n1 : Nat) (c1 : Nat) (A2 : Option Addr) (n2 : Nat) (c2 : Nat) (K : Bool → World → Prop) (w : World) (H : vc_arbiterlaw13_sameInts A1 n1 c1 A2 n2 c2 K w) : Calls P F.arbiterlaw13_sameInts #[(.slice A1 n1 c1), (.slice A2 n2 c2)] w (Wk.Ret fun v w' => ∃ b1 : Bool, v = (.bool b1) ∧ K b1 w') := by
  unfold vc_arbiterlaw13_sameInts at H
  refine Wk.calls_of (P := P) Try.func18 rfl [(0, (.slice A1 n1 c1)), (1, (.slice A2 n2 c2))] 26 rfl rfl (fun p hp => by simp only [List.mem_cons, List.not_mem_nil, or_false] at hp; rcases hp with rfl | rfl <;> rfl) ?_
  refine Wk.cw_seq ?_
  refine Wk.cw_region ?_
  refine Wk.sl_v rfl rfl (Wk.wanted_none rfl) (fun a ha => Wk.x_assign (ha.ev rfl)) ?_
  refine Wk.sl_nil ?_
  refine Wk.nx_code (Wk.cw_sub (e' := [(0, (.slice A1 n1 c1)), (1, (.slice A2 n2 c2))]) (Wk.sub.cons rfl (Wk.sub.cons rfl (Wk.sub.nil))) ?_)
  refine Wk.cw_seq ?_
  refine Wk.cw_seq ?_
  refine Wk.cw_region ?_
  refine Wk.sl_v rfl rfl (Wk.wanted_none rfl) (fun a ha => Wk.x_move (ha.ev rfl)) ?_
  refine Wk.sl_v rfl rfl (Wk.wanted_none rfl) (fun a ha => Wk.x_builtin (ha.evs rfl) (fun _ => Wk.l_slice TF.isslice_sl_int)) ?_
  refine Wk.sl_v rfl rfl (Wk.wanted_none rfl) (fun a ha => Wk.x_move (ha.ev rfl)) ?_
  refine Wk.sl_v rfl rfl (Wk.wanted_none rfl) (fun a ha => Wk.x_builtin (ha.evs rfl) (fun _ => Wk.l_slice TF.isslice_sl_int)) ?_
  refine Wk.sl_v rfl rfl (Wk.wanted_none rfl) (fun a ha => Wk.x_binOp (ha.ev rfl) (ha.ev rfl) Wk.o_neq) ?_
  refine Wk.sl_nil ?_
  refine Wk.nx_code (Wk.cw_sub (e' := [(0, (.slice A1 n1 c1)), (1, (.slice A2 n2 c2)), (10, (.bool (decide ((n1 : Int) ≠ (n2 : Int)))))]) (Wk.sub.cons rfl (Wk.sub.cons rfl (Wk.sub.cons rfl (Wk.sub.nil)))) ?_)
  refine Wk.cw_cond_p rfl (fun hb => ?_) (fun hb => ?_)
  · replace H := H.1 hb
    refine Wk.cw_seq ?_
    refine Wk.cw_region ?_
    refine Wk.sl_v rfl rfl (Wk.wanted_none rfl) (fun a ha => Wk.x_assign (ha.ev rfl)) ?_
    refine Wk.sl_nil ?_
    refine Wk.nx_code (Wk.cw_sub (e' := [(4, (.bool false))]) (Wk.sub.cons rfl (Wk.sub.nil)) ?_)
    refine Wk.cw_ret ?_
    refine Wk.nx_ret_then ?_
    exact Wk.nx_body_ret (Wk.res1 rfl rfl) ⟨_, rfl, _, rfl, H⟩
  · replace H := H.2 hb
    refine Wk.cw_skip ?_
    refine Wk.nx_code (Wk.cw_sub (e' := [(0, (.slice A1 n1 c1)), (1, (.slice A2 n2 c2))]) (Wk.sub.cons rfl (Wk.sub.cons rfl (Wk.sub.nil))) ?_)
    refine Wk.cw_seq ?_
    refine Wk.cw_seq ?_
    refine Wk.cw_region ?_
    refine Wk.sl_v rfl rfl (Wk.wanted_none rfl) (fun a ha => Wk.x_assign (ha.ev rfl)) ?_
    refine Wk.sl_nil ?_
    refine Wk.nx_code (Wk.cw_sub (e' := [(0, (.slice A1 n1 c1)), (1, (.slice A2 n2 c2)), (5, (.int .i64 0))]) (Wk.sub.cons rfl (Wk.sub.cons rfl (Wk.sub.cons rfl (Wk.sub.nil)))) ?_)
    refine Wk.cw_block ?_
    obtain ⟨I1, ⟨k1, hi⟩, H⟩ := H
    refine Wk.cw_loop (fun k1 a w' => ∃ x1 : Int, Wk.Ok 26 [(0, (.slice A1 n1 c1)), (1, (.slice A2 n2 c2)), (5, (.int .i64 x1))] a ∧ I1 k1 x1 w') (fun a ha => ⟨k1, 0, ha.weaken (Wk.sub.cons rfl (Wk.sub.cons rfl (Wk.sub.cons rfl (Wk.sub.nil)))), hi⟩) ?_
    rintro k1 a w1 ⟨x1, ha, hI⟩
    replace H := H k1 x1 w1 hI
    refine (?_ : Wk.CW _ _ _ 26 [(0, (.slice A1 n1 c1)), (1, (.slice A2 n2 c2)), (5, (.int .i64 x1))] _) a ha
    refine Wk.cw_seq ?_
    refine Wk.cw_seq ?_
    refine Wk.cw_region ?_
    refine Wk.sl_v rfl rfl (Wk.wanted_none rfl) (fun a ha => Wk.x_move (ha.ev rfl)) ?_
    refine Wk.sl_v rfl rfl (Wk.wanted_none rfl) (fun a ha => Wk.x_move (ha.ev rfl)) ?_
    refine Wk.sl_v rfl rfl (Wk.wanted_none rfl) (fun a ha => Wk.x_builtin (ha.evs rfl) (fun _ => Wk.l_slice TF.isslice_sl_int)) ?_
    refine Wk.sl_v rfl rfl (Wk.wanted_none rfl) (fun a ha => Wk.x_binOp (ha.ev rfl) (ha.ev rfl) Wk.o_lss) ?_
    refine Wk.sl_nil ?_
    refine Wk.nx_code (Wk.cw_sub (e' := [(0, (.slice A1 n1 c1)), (1, (.slice A2 n2 c2)), (5, (.int .i64 x1)), (14, (.bool (decide (x1 < (n1 : Int)))))]) (Wk.sub.cons rfl (Wk.sub.cons rfl (Wk.sub.cons rfl (Wk.sub.cons rfl (Wk.sub.nil))))) ?_)
    refine Wk.cw_cond_p rfl (fun hb => ?_) (fun hb => ?_)
    · replace H := H.1 hb
      refine Wk.cw_skip ?_
      refine Wk.nx_code (Wk.cw_sub (e' := [(0, (.slice A1 n1 c1)), (1, (.slice A2 n2 c2)), (5, (.int .i64 x1))]) (Wk.sub.cons rfl (Wk.sub.cons rfl (Wk.sub.cons rfl (Wk.sub.nil)))) ?_)
      refine Wk.cw_seq ?_
      refine Wk.cw_block ?_
      refine Wk.cw_seq ?_
      refine Wk.cw_any_drawn follows [0, 1, 2, 3, 4, 5, 6, 7, 8] [3, 7] 9 rfl rfl (by kernel_rfl) (fun _ _ d _ _ h => by cases d <;> exact h) (fun cm hW hD => ?_)
      refine Wk.an_p (i := 0) cm rfl (by kernel_rfl) rfl rfl (Wk.wanted_none rfl) (fun w' a ha => Wk.x_move (ha.ev rfl)) rfl ?_
      intro _ hd; replace hD := hD.trans hd; replace hW := cm.held _ _ hW hd; clear hd
      refine Wk.an_p (i := 1) cm rfl (by kernel_rfl) rfl rfl (Wk.wanted_none rfl) (fun w' a ha => Wk.x_move (ha.ev rfl)) rfl ?_
      intro _ hd; replace hD := hD.trans hd; replace hW := cm.held _ _ hW hd; clear hd
      obtain ⟨h1, h2, a1, e1, H⟩ := H
      refine Wk.an_p (i := 2) cm rfl (by kernel_rfl) rfl rfl (Wk.wanted_none rfl) (fun w' a ha => Wk.x_indexAddr (ha.ev rfl) (ha.ev rfl) (Wk.i_index TF.elem_sl_int TF.size_int e1 h1 h2)) rfl ?_
      intro _ hd; replace hD := hD.trans hd; replace hW := cm.held _ _ hW hd; clear hd
      obtain ⟨x2, h3, H⟩ := H
      refine Wk.an_v (i := 3) cm rfl (by kernel_rfl) hW rfl rfl (Wk.wanted_none rfl) (fun w' hw a ha => Wk.x_load (ha.ev rfl) (Wk.i_load1 TF.agg_int ((hw.cell _).trans h3))) rfl ?_
      intro _ hd hW; replace hD := hD.trans hd; clear hd
      refine Wk.an_p (i := 4) cm rfl (by kernel_rfl) rfl rfl (Wk.wanted_none rfl) (fun w' a ha => Wk.x_move (ha.ev rfl)) rfl ?_
      intro _ hd; replace hD := hD.trans hd; replace hW := cm.held _ _ hW hd; clear hd
      refine Wk.an_p (i := 5) cm rfl (by kernel_rfl) rfl rfl (Wk.wanted_none rfl) (fun w' a ha => Wk.x_move (ha.ev rfl)) rfl ?_
      intro _ hd; replace hD := hD.trans hd; replace hW := cm.held _ _ hW hd; clear hd
      obtain ⟨h4, h5, a2, e2, H⟩ := H
      refine Wk.an_p (i := 6) cm rfl (by kernel_rfl) rfl rfl (Wk.wanted_none rfl) (fun w' a ha => Wk.x_indexAddr (ha.ev rfl) (ha.ev rfl) (Wk.i_index TF.elem_sl_int TF.size_int e2 h4 h5)) rfl ?_
      intro _ hd; replace hD := hD.trans hd; replace hW := cm.held _ _ hW hd; clear hd
      obtain ⟨x3, h6, H⟩ := H
      refine Wk.an_v (i := 7) cm rfl (by kernel_rfl) hW rfl rfl (Wk.wanted_none rfl) (fun w' hw a ha => Wk.x_load (ha.ev rfl) (Wk.i_load1 TF.agg_int ((hw.cell _).trans h6))) rfl ?_
      intro _ hd hW; replace hD := hD.trans hd; clear hd
      refine Wk.an_p (i := 8) cm rfl (by kernel_rfl) rfl rfl (Wk.wanted_none rfl) (fun w' a ha => Wk.x_binOp (ha.ev rfl) (ha.ev rfl) Wk.o_neq) rfl ?_
      intro _ hd; replace hD := hD.trans hd; clear hd
      refine Wk.an_end (by kernel_rfl) hD ?_
      intro w2 hD; replace H := H _ hD; clear hD cm
      refine Wk.nx_code (Wk.cw_sub (e' := [(0, (.slice A1 n1 c1)), (1, (.slice A2 n2 c2)), (5, (.int .i64 x1)), (25, (.bool (decide (x2 ≠ x3))))]) (Wk.sub.cons rfl (Wk.sub.cons rfl (Wk.sub.cons rfl (Wk.sub.cons rfl (Wk.sub.nil))))) ?_)
      refine Wk.cw_cond_p rfl (fun hb => ?_) (fun hb => ?_)
      · replace H := H.1 hb
        refine Wk.cw_seq ?_
        refine Wk.cw_region ?_
        refine Wk.sl_v rfl rfl (Wk.wanted_none rfl) (fun a ha => Wk.x_assign (ha.ev rfl)) ?_
        refine Wk.sl_nil ?_
        refine Wk.nx_code (Wk.cw_sub (e' := [(4, (.bool false))]) (Wk.sub.cons rfl (Wk.sub.nil)) ?_)
        refine Wk.cw_ret ?_
        refine Wk.nx_ret_block ?_
        refine Wk.nx_ret_then ?_
        refine Wk.nx_ret_then ?_
        refine Wk.nx_ret_block ?_
        refine Wk.nx_ret_then ?_
        exact Wk.nx_body_ret (Wk.res1 rfl rfl) ⟨_, rfl, _, rfl, H⟩
      · replace H := H.2 hb
        refine Wk.cw_skip ?_
        refine Wk.nx_block ?_
        refine Wk.nx_code (Wk.cw_sub (e' := [(0, (.slice A1 n1 c1)), (1, (.slice A2 n2 c2)), (5, (.int .i64 x1))]) (Wk.sub.cons rfl (Wk.sub.cons rfl (Wk.sub.cons rfl (Wk.sub.nil)))) ?_)
        refine Wk.cw_region ?_
        refine Wk.sl_v rfl rfl (Wk.wanted_none rfl) (fun a ha => Wk.x_move (ha.ev rfl)) ?_
        refine Wk.sl_v rfl rfl (Wk.wanted_none rfl) (fun a ha => Wk.x_binOp (ha.ev rfl) (ha.ev rfl) Wk.o_add) ?_
        refine Wk.sl_v rfl rfl (Wk.wanted_none rfl) (fun a ha => Wk.x_assign (ha.ev rfl)) ?_
        refine Wk.sl_nil ?_
        obtain ⟨k2, hk, H⟩ := H
        exact Wk.nx_to fun a ha => ⟨k2, hk, IntKind.wrap .i64 (x1 + 1), ha.weaken (Wk.sub.cons rfl (Wk.sub.cons rfl (Wk.sub.cons rfl (Wk.sub.nil)))), H⟩
    · replace H := H.2 hb
      refine Wk.cw_exit ?_
      refine Wk.nx_exit_then ?_
      refine Wk.nx_exit_then ?_
      refine Wk.nx_exit_hit ?_
      refine Wk.nx_code (Wk.cw_sub (e' := []) (Wk.sub.nil) ?_)
      refine Wk.cw_seq ?_
      refine Wk.cw_region ?_
      refine Wk.sl_v rfl rfl (Wk.wanted_none rfl) (fun a ha => Wk.x_assign (ha.ev rfl)) ?_
      refine Wk.sl_nil ?_
      refine Wk.nx_code (Wk.cw_sub (e' := [(4, (.bool true))]) (Wk.sub.cons rfl (Wk.sub.nil)) ?_)
      refine Wk.cw_ret ?_
      exact Wk.nx_body_ret (Wk.res1 rfl rfl) ⟨_, rfl, _, rfl, H⟩
def vc_arbiterlaw13_Hold_kept_J1 (K : Bool → World → Prop) (k1 : Nat) (I1 : Nat → Int → World → Prop) (x1 : Int) (b3 : Bool) (w6 : World) : Prop :=
  (b3 = true → (K false w6)) ∧ (b3 = false → (∃ k2, k2 < k1 ∧ I1 k2 (IntKind.wrap .i64 (x1 + 1)) w6))
def vc_arbiterlaw13_Hold_kept_J2 (K : Bool → World → Prop) (k4 : Nat) (I3 : Nat → Int → World → Prop) (x5 : Int) (b4 : Bool) (w12 : World) : Prop :=
  (b4 = true → (K false w12)) ∧ (b4 = false → (∃ k5, k5 < k4 ∧ I3 k5 (IntKind.wrap .i64 (x5 + 1)) w12))
def vc_arbiterlaw13_Hold_kept_J3 (K : Bool → World → Prop) (w10 : World) (k3 : Nat) (I2 : Nat → Int → World → Prop) (x4 : Int) (b6 : Bool) : Prop :=
  (b6 = true → (K false w10)) ∧ (b6 = false → (∃ k6, k6 < k3 ∧ I2 k6 (IntKind.wrap .i64 (x4 + 1)) w10))
def vc_arbiterlaw13_Hold_kept_J4 (K : Bool → World → Prop) (k8 : Nat) (I5 : Nat → Int → World → Prop) (x11 : Int) (b7 : Bool) (w23 : World) : Prop :=
  (b7 = true → (K false w23)) ∧ (b7 = false → (∃ k9, k9 < k8 ∧ I5 k9 (IntKind.wrap .i64 (x11 + 1)) w23))
def vc_arbiterlaw13_Hold_kept_J5 (K : Bool → World → Prop) (w18 : World) (k7 : Nat) (I4 : Nat → Int → World → Prop) (x10 : Int) (b9 : Bool) : Prop :=
  (b9 = true → (K false w18)) ∧ (b9 = false → (∃ k10, k10 < k7 ∧ I4 k10 (IntKind.wrap .i64 (x10 + 1)) w18))
def vc_arbiterlaw13_Hold_kept (p1 : Addr) (K : Bool → World → Prop) (w : World) : Prop :=
  ∃ I1 : Nat → Int → World → Prop, (∃ k1, I1 k1 0 w) ∧ ∀ k1 (x1 : Int) (w1 : World), I1 k1 x1 w1 → (∃ A1 : Option Addr, ∃ n1 : Nat, ∃ c1 : Nat, w1.cell? (p1.add 0) = some (.slice A1 n1 c1) ∧ (x1 < (n1 : Int) → (∃ A2 : Option Addr, ∃ n2 : Nat, ∃ c2 : Nat, w1.cell? (p1.add 1) = some (.slice A2 n2 c2) ∧ 0 ≤ x1 ∧ x1 < (n2 : Int) ∧ ∃ a1, A2 = some a1 ∧ ∃ A3 : Option Addr, ∃ n3 : Nat, ∃ c3 : Nat, w1.cell? (a1.add (x1.toNat * 1)) = some (.slice A3 n3 c3) ∧ ∃ A4 : Option Addr, ∃ n4 : Nat, ∃ c4 : Nat, w1.cell? (p1.add 0) = some (.slice A4 n4 c4) ∧ 0 ≤ x1 ∧ x1 < (n4 : Int) ∧ ∃ a2, A4 = some a2 ∧ ∃ A5 : Option Addr, ∃ n5 : Nat, ∃ c5 : Nat, w1.cell? (a2.add (x1.toNat * 1)) = some (.slice A5 n5 c5) ∧ 0 ≤ (n3 : Int) ∧ (n3 : Int) ≤ (c5 : Int) ∧ ∃ A6 : Option Addr, ∃ n6 : Nat, ∃ c6 : Nat, w1.cell? (p1.add 1) = some (.slice A6 n6 c6) ∧ 0 ≤ x1 ∧ x1 < (n6 : Int) ∧ ∃ a3, A6 = some a3 ∧ ∃ A7 : Option Addr, ∃ n7 : Nat, ∃ c7 : Nat, w1.cell? (a3.add (x1.toNat * 1)) = some (.slice A7 n7 c7) ∧ ∀ w3, Wk.Drawn w1 w3 → Calls P F.arbiterlaw13_sameInts #[(.slice A5 ((n3 : Int).toNat) c5), (.slice A7 n7 c7)] w3 (Wk.Ret fun v1 w2 => ∃ b2 : Bool, v1 = (.bool b2) ∧ ((!b2) = true → (∀ w5, Wk.Drawn w2 w5 → ((vc_arbiterlaw13_Hold_kept_J1 K k1 I1 x1) true w5))) ∧ ((!b2) = false → (0 ≤ (n3 : Int) ∧ (n3 : Int) < (n5 : Int) ∧ ∃ a4, A5 = some a4 ∧ ∃ x2 : Int, w2.cell? (a4.add ((n3 : Int).toNat * 1)) = some (.int .i64 x2) ∧ (x2 ≠ (-71) → (∀ w7, Wk.Drawn w2 w7 → ((vc_arbiterlaw13_Hold_kept_J1 K k1 I1 x1) true w7))) ∧ (¬ (x2 ≠ (-71)) → (0 ≤ IntKind.wrap .i64 ((n3 : Int) + 1) ∧ IntKind.wrap .i64 ((n3 : Int) + 1) < (n5 : Int) ∧ ∃ a5, A5 = some a5 ∧ ∃ x3 : Int, w2.cell? (a5.add ((IntKind.wrap .i64 ((n3 : Int) + 1)).toNat * 1)) = some (.int .i64 x3) ∧ ∀ w8, Wk.Drawn w2 w8 → ((vc_arbiterlaw13_Hold_kept_J1 K k1 I1 x1) (decide (x3 ≠ (-72))) w8)))))))) ∧ (¬ (x1 < (n1 : Int)) → (∃ I2 : Nat → Int → World → Prop, (∃ k3, I2 k3 0 w1) ∧ ∀ k3 (x4 : Int) (w9 : World), I2 k3 x4 w9 → (∃ A8 : Option Addr, ∃ n8 : Nat, ∃ c8 : Nat, w9.cell? (p1.add 2) = some (.slice A8 n8 c8) ∧ (x4 < (n8 : Int) → (∃ A9 : Option Addr, ∃ n9 : Nat, ∃ c9 : Nat, w9.cell? (p1.add 3) = some (.slice A9 n9 c9) ∧ 0 ≤ x4 ∧ x4 < (n9 : Int) ∧ ∃ a6, A9 = some a6 ∧ ∃ A10 : Option Addr, ∃ n10 : Nat, ∃ c10 : Nat, w9.cell? (a6.add (x4.toNat * 1)) = some (.slice A10 n10 c10) ∧ ∃ A11 : Option Addr, ∃ n11 : Nat, ∃ c11 : Nat, w9.cell? (p1.add 2) = some (.slice A11 n11 c11) ∧ 0 ≤ x4 ∧ x4 < (n11 : Int) ∧ ∃ a7, A11 = some a7 ∧ ∃ A12 : Option Addr, ∃ n12 : Nat, ∃ c12 : Nat, w9.cell? (a7.add (x4.toNat * 1)) = some (.slice A12 n12 c12) ∧ ∃ I3 : Nat → Int → World → Prop, (∃ k4, I3 k4 0 w9) ∧ ∀ k4 (x5 : Int) (w10 : World), I3 k4 x5 w10 → ((x5 < (n10 : Int) → (0 ≤ x5 ∧ x5 < (n12 : Int) ∧ ∃ a8, A12 = some a8 ∧ ∃ x6 : Int, w10.cell? ((a8.add (x5.toNat * 2)).add 0) = some (.int .i64 x6) ∧ ∃ A13 : Option Addr, ∃ n13 : Nat, ∃ c13 : Nat, w10.cell? (p1.add 3) = some (.slice A13 n13 c13) ∧ 0 ≤ x4 ∧ x4 < (n13 : Int) ∧ ∃ a9, A13 = some a9 ∧ ∃ A14 : Option Addr, ∃ n14 : Nat, ∃ c14 : Nat, w10.cell? (a9.add (x4.toNat * 1)) = some (.slice A14 n14 c14) ∧ 0 ≤ x5 ∧ x5 < (n14 : Int) ∧ ∃ a10, A14 = some a10 ∧ ∃ x7 : Int, w10.cell? ((a10.add (x5.toNat * 2)).add 0) = some (.int .i64 x7) ∧ (x6 ≠ x7 → (∀ w11, Wk.Drawn w10 w11 → ((vc_arbiterlaw13_Hold_kept_J2 K k4 I3 x5) true w11))) ∧ (¬ (x6 ≠ x7) → (0 ≤ x5 ∧ x5 < (n12 : Int) ∧ ∃ a11, A12 = some a11 ∧ ∃ A15 : Option Addr, ∃ n15 : Nat, ∃ c15 : Nat, w10.cell? ((a11.add (x5.toNat * 2)).add 1) = some (.slice A15 n15 c15) ∧ ∃ A16 : Option Addr, ∃ n16 : Nat, ∃ c16 : Nat, w10.cell? (p1.add 3) = some (.slice A16 n16 c16) ∧ 0 ≤ x4 ∧ x4 < (n16 : Int) ∧ ∃ a12, A16 = some a12 ∧ ∃ A17 : Option Addr, ∃ n17 : Nat, ∃ c17 : Nat, w10.cell? (a12.add (x4.toNat * 1)) = some (.slice A17 n17 c17) ∧ 0 ≤ x5 ∧ x5 < (n17 : Int) ∧ ∃ a13, A17 = some a13 ∧ ∃ A18 : Option Addr, ∃ n18 : Nat, ∃ c18 : Nat, w10.cell? ((a13.add (x5.toNat * 2)).add 1) = some (.slice A18 n18 c18) ∧ ∀ w14, Wk.Drawn w10 w14 → Calls P F.arbiterlaw13_sameInts #[(.slice A15 n15 c15), (.slice A18 n18 c18)] w14 (Wk.Ret fun v2 w13 => ∃ b5 : Bool, v2 = (.bool b5) ∧ ∀ w16, Wk.Drawn w13 w16 → ((vc_arbiterlaw13_Hold_kept_J2 K k4 I3 x5) (!b5) w16)))))) ∧ (¬ (x5 < (n10 : Int)) → (0 ≤ (n10 : Int) ∧ (n10 : Int) < (n12 : Int) ∧ ∃ a14, A12 = some a14 ∧ ∃ x8 : Int, w10.cell? ((a14.add ((n10 : Int).toNat * 2)).add 0) = some (.int .i64 x8) ∧ (x8 ≠ 73 → ((vc_arbiterlaw13_Hold_kept_J3 K w10 k3 I2 x4) true)) ∧ (¬ (x8 ≠ 73) → (0 ≤ IntKind.wrap .i64 ((n10 : Int) + 1) ∧ IntKind.wrap .i64 ((n10 : Int) + 1) < (n12 : Int) ∧ ∃ a15, A12 = some a15 ∧ ∃ x9 : Int, w10.cell? ((a15.add ((IntKind.wrap .i64 ((n10 : Int) + 1)).toNat * 2)).add 0) = some (.int .i64 x9) ∧ (vc_arbiterlaw13_Hold_kept_J3 K w10 k3 I2 x4) (decide (x9 ≠ 74))))))))) ∧ (¬ (x4 < (n8 : Int)) → (∃ I4 : Nat → Int → World → Prop, (∃ k7, I4 k7 0 w9) ∧ ∀ k7 (x10 : Int) (w17 : World), I4 k7 x10 w17 → (∃ A19 : Option Addr, ∃ n19 : Nat, ∃ c19 : Nat, w17.cell? (p1.add 4) = some (.slice A19 n19 c19) ∧ (x10 < (n19 : Int) → (∃ A20 : Option Addr, ∃ n20 : Nat, ∃ c20 : Nat, w17.cell? (p1.add 5) = some (.slice A20 n20 c20) ∧ 0 ≤ x10 ∧ x10 < (n20 : Int) ∧ ∃ a16, A20 = some a16 ∧ ∃ A21 : Option Addr, ∃ n21 : Nat, ∃ c21 : Nat, w17.cell? (a16.add (x10.toNat * 1)) = some (.slice A21 n21 c21) ∧ ∃ A22 : Option Addr, ∃ n22 : Nat, ∃ c22 : Nat, w17.cell? (p1.add 4) = some (.slice A22 n22 c22) ∧ 0 ≤ x10 ∧ x10 < (n22 : Int) ∧ ∃ a17, A22 = some a17 ∧ ∃ A23 : Option Addr, ∃ n23 : Nat, ∃ c23 : Nat, w17.cell? (a17.add (x10.toNat * 1)) = some (.slice A23 n23 c23) ∧ ∃ I5 : Nat → Int → World → Prop, (∃ k8, I5 k8 0 w17) ∧ ∀ k8 (x11 : Int) (w18 : World), I5 k8 x11 w18 → ((x11 < (n21 : Int) → (0 ≤ x11 ∧ x11 < (n23 : Int) ∧ ∃ a18, A23 = some a18 ∧ ∃ x12 : Int, ∃ x13 : Int, ∃ x14 : Int, ∃ x15 : Int, ∃ A24 : Option Addr, ∃ n24 : Nat, ∃ c24 : Nat, Wk.CellsAt w18 (a18.add (x11.toNat * 5)) [(.int .i64 x12), (.int .i64 x13), (.int .i64 x14), (.int .i64 x15), (.slice A24 n24 c24)] ∧ ∀ (p2 : Addr) (w19 : World), Wk.New w18 (.cells #[(.int .i64 0), (.int .i64 0), (.int .i64 0), (.int .i64 0), (.slice none 0 0)] T.api_Link) p2 w19 → (Wk.Soft w19 p2 5 ∧ ∀ w20, w20 = Wk.setCellsAt w19 p2 [(.int .i64 x12), (.int .i64 x13), (.int .i64 x14), (.int .i64 x15), (.slice A24 n24 c24)] → (∃ A25 : Option Addr, ∃ n25 : Nat, ∃ c25 : Nat, w20.cell? (p1.add 5) = some (.slice A25 n25 c25) ∧ 0 ≤ x10 ∧ x10 < (n25 : Int) ∧ ∃ a19, A25 = some a19 ∧ ∃ A26 : Option Addr, ∃ n26 : Nat, ∃ c26 : Nat, w20.cell? (a19.add (x10.toNat * 1)) = some (.slice A26 n26 c26) ∧ 0 ≤ x11 ∧ x11 < (n26 : Int) ∧ ∃ a20, A26 = some a20 ∧ ∃ x16 : Int, ∃ x17 : Int, ∃ x18 : Int, ∃ x19 : Int, ∃ A27 : Option Addr, ∃ n27 : Nat, ∃ c27 : Nat, Wk.CellsAt w20 (a20.add (x11.toNat * 5)) [(.int .i64 x16), (.int .i64 x17), (.int .i64 x18), (.int .i64 x19), (.slice A27 n27 c27)] ∧ ∀ (p3 : Addr) (w21 : World), Wk.New w20 (.cells #[(.int .i64 0), (.int .i64 0), (.int .i64 0), (.int .i64 0), (.slice none 0 0)] T.api_Link) p3 w21 → (Wk.Soft w21 p3 5 ∧ ∀ w22, w22 = Wk.setCellsAt w21 p3 [(.int .i64 x16), (.int .i64 x17), (.int .i64 x18), (.int .i64 x19), (.slice A27 n27 c27)] → (∃ x20 : Int, w22.cell? (p2.add 0) = some (.int .i64 x20) ∧ ∃ x21 : Int, w22.cell? (p3.add 0) = some (.int .i64 x21) ∧ (x20 ≠ x21 → ((vc_arbiterlaw13_Hold_kept_J4 K k8 I5 x11) true w22)) ∧ (¬ (x20 ≠ x21) → (∃ x22 : Int, w22.cell? (p2.add 1) = some (.int .i64 x22) ∧ ∃ x23 : Int, w22.cell? (p3.add 1) = some (.int .i64 x23) ∧ (x22 ≠ x23 → ((vc_arbiterlaw13_Hold_kept_J4 K k8 I5 x11) true w22)) ∧ (¬ (x22 ≠ x23) → (∃ x24 : Int, w22.cell? (p2.add 2) = some (.int .i64 x24) ∧ ∃ x25 : Int, w22.cell? (p3.add 2) = some (.int .i64 x25) ∧ (x24 ≠ x25 → ((vc_arbiterlaw13_Hold_kept_J4 K k8 I5 x11) true w22)) ∧ (¬ (x24 ≠ x25) → (∃ x26 : Int, w22.cell? (p2.add 3) = some (.int .i64 x26) ∧ ∃ x27 : Int, w22.cell? (p3.add 3) = some (.int .i64 x27) ∧ (x26 ≠ x27 → ((vc_arbiterlaw13_Hold_kept_J4 K k8 I5 x11) true w22)) ∧ (¬ (x26 ≠ x27) → (∃ A28 : Option Addr, ∃ n28 : Nat, ∃ c28 : Nat, w22.cell? (p2.add 4) = some (.slice A28 n28 c28) ∧ ∃ A29 : Option Addr, ∃ n29 : Nat, ∃ c29 : Nat, w22.cell? (p3.add 4) = some (.slice A29 n29 c29) ∧ Calls P F.arbiterlaw13_sameInts #[(.slice A28 n28 c28), (.slice A29 n29 c29)] w22 (Wk.Ret fun v3 w24 => ∃ b8 : Bool, v3 = (.bool b8) ∧ (vc_arbiterlaw13_Hold_kept_J4 K k8 I5 x11) (!b8) w24))))))))))))))) ∧ (¬ (x11 < (n21 : Int)) → (0 ≤ (n21 : Int) ∧ (n21 : Int) < (n23 : Int) ∧ ∃ a21, A23 = some a21 ∧ ∃ x28 : Int, w18.cell? ((a21.add ((n21 : Int).toNat * 5)).add 0) = some (.int .i64 x28) ∧ (x28 ≠ 75 → ((vc_arbiterlaw13_Hold_kept_J5 K w18 k7 I4 x10) true)) ∧ (¬ (x28 ≠ 75) → (0 ≤ IntKind.wrap .i64 ((n21 : Int) + 1) ∧ IntKind.wrap .i64 ((n21 : Int) + 1) < (n23 : Int) ∧ ∃ a22, A23 = some a22 ∧ ∃ x29 : Int, w18.cell? ((a22.add ((IntKind.wrap .i64 ((n21 : Int) + 1)).toNat * 5)).add 0) = some (.int .i64 x29) ∧ (vc_arbiterlaw13_Hold_kept_J5 K w18 k7 I4 x10) (decide (x29 ≠ 76))))))))) ∧ (¬ (x10 < (n19 : Int)) → (K true w17)))))))))
set_option maxHeartbeats 2000000 in
set_option maxRecDepth 20000 in
theorem ok_arbiterlaw13_Hold_kept (p1 : Addr) (K : Bool → World → Prop) (w : World) (H : vc_arbiterlaw13_Hold_kept p1 K w) : Calls P F.arbiterlaw13_Hold_kept #[(.pointer (some p1))] w (Wk.Ret fun v w' => ∃ b1 : Bool, v = (.bool b1) ∧ K b1 w') := by
  unfold vc_arbiterlaw13_Hold_kept at H
  refine Wk.calls_of (P := P) Try.func10 rfl [(0, (.pointer (some p1)))] 240 rfl rfl (fun p hp => by rcases List.mem_singleton.1 hp with rfl; rfl) ?_
  refine Wk.cw_seq ?_
  refine Wk.cw_region ?_
  refine Wk.sl_v rfl rfl (Wk.wanted_none rfl) (fun a ha => Wk.x_assign (ha.ev rfl)) ?_
  refine Wk.sl_nil ?_
  refine Wk.nx_code (Wk.cw_sub (e' := [(0, (.pointer (some p1)))]) (Wk.sub.cons rfl (Wk.sub.nil)) ?_)
  refine Wk.cw_seq ?_
  refine Wk.cw_seq ?_
  refine Wk.cw_region ?_
  refine Wk.sl_v rfl rfl (Wk.wanted_none rfl) (fun a ha => Wk.x_assign (ha.ev rfl)) ?_
  refine Wk.sl_nil ?_
  refine Wk.nx_code (Wk.cw_sub (e' := [(0, (.pointer (some p1))), (3, (.int .i64 0))]) (Wk.sub.cons rfl (Wk.sub.cons rfl (Wk.sub.nil))) ?_)
  refine Wk.cw_block ?_
  obtain ⟨I1, ⟨k1, hi⟩, H⟩ := H
  refine Wk.cw_loop (fun k1 a w' => ∃ x1 : Int, Wk.Ok 240 [(0, (.pointer (some p1))), (3, (.int .i64 x1))] a ∧ I1 k1 x1 w') (fun a ha => ⟨k1, 0, ha.weaken (Wk.sub.cons rfl (Wk.sub.cons rfl (Wk.sub.nil))), hi⟩) ?_
  rintro k1 a w1 ⟨x1, ha, hI⟩
  replace H := H k1 x1 w1 hI
  refine (?_ : Wk.CW _ _ _ 240 [(0, (.pointer (some p1))), (3, (.int .i64 x1))] _) a ha
  refine Wk.cw_seq ?_
  refine Wk.cw_seq ?_
  refine Wk.cw_region ?_
  refine Wk.sl_v rfl rfl (Wk.wanted_none rfl) (fun a ha => Wk.x_move (ha.ev rfl)) ?_
  refine Wk.sl_v rfl rfl (Wk.wanted_none rfl) (fun a ha => Wk.x_move (ha.ev rfl)) ?_
  refine Wk.sl_v rfl rfl (Wk.wanted_none rfl) (fun a ha => Wk.x_nilCheck_ptr (ha.ev rfl)) ?_
  refine Wk.sl_v rfl rfl (Wk.wanted_none rfl) (fun a ha => Wk.x_fieldAddr (ha.ev rfl) (TF.fld_arbiterlaw13_Hold_0 _ _)) ?_
  obtain ⟨A1, n1, c1, h1, H⟩ := H
  refine Wk.sl_v rfl rfl (Wk.wanted_none rfl) (fun a ha => Wk.x_load (ha.ev rfl) (Wk.i_load1 TF.agg_sl_sl_int h1)) ?_
  refine Wk.sl_v rfl rfl (Wk.wanted_none rfl) (fun a ha => Wk.x_builtin (ha.evs rfl) (fun _ => Wk.l_slice TF.isslice_sl_sl_int)) ?_
  refine Wk.sl_v rfl rfl (Wk.wanted_none rfl) (fun a ha => Wk.x_binOp (ha.ev rfl) (ha.ev rfl) Wk.o_lss) ?_
  refine Wk.sl_nil ?_
  refine Wk.nx_code (Wk.cw_sub (e' := [(0, (.pointer (some p1))), (3, (.int .i64 x1)), (22, (.bool (decide (x1 < (n1 : Int)))))]) (Wk.sub.cons rfl (Wk.sub.cons rfl (Wk.sub.cons rfl (Wk.sub.nil)))) ?_)
  refine Wk.cw_cond_p rfl (fun hb => ?_) (fun hb => ?_)
  · replace H := H.1 hb
    refine Wk.cw_skip ?_
    refine Wk.nx_code (Wk.cw_sub (e' := [(0, (.pointer (some p1))), (3, (.int .i64 x1))]) (Wk.sub.cons rfl (Wk.sub.cons rfl (Wk.sub.nil))) ?_)
    refine Wk.cw_seq ?_
    refine Wk.cw_block ?_
    refine Wk.cw_seq ?_
    refine Wk.cw_region ?_
    refine Wk.sl_v rfl rfl (Wk.wanted_none rfl) (fun a ha => Wk.x_move (ha.ev rfl)) ?_
    refine Wk.sl_v rfl rfl (Wk.wanted_none rfl) (fun a ha => Wk.x_nilCheck_ptr (ha.ev rfl)) ?_
    refine Wk.sl_v rfl rfl (Wk.wanted_none rfl) (fun a ha => Wk.x_fieldAddr (ha.ev rfl) (TF.fld_arbiterlaw13_Hold_1 _ _)) ?_
    obtain ⟨A2, n2, c2, h2, H⟩ := H
    refine Wk.sl_v rfl rfl (Wk.wanted_none rfl) (fun a ha => Wk.x_load (ha.ev rfl) (Wk.i_load1 TF.agg_sl_sl_int h2)) ?_
    refine Wk.sl_v rfl rfl (Wk.wanted_none rfl) (fun a ha => Wk.x_move (ha.ev rfl)) ?_
    obtain ⟨h3, h4, a1, e1, H⟩ := H
    refine Wk.sl_v rfl rfl (Wk.wanted_none rfl) (fun a ha => Wk.x_indexAddr (ha.ev rfl) (ha.ev rfl) (Wk.i_index TF.elem_sl_sl_int TF.size_sl_int e1 h3 h4)) ?_
    obtain ⟨A3, n3, c3, h5, H⟩ := H
    refine Wk.sl_v rfl rfl (Wk.wanted_none rfl) (fun a ha => Wk.x_load (ha.ev rfl) (Wk.i_load1 TF.agg_sl_int h5)) ?_
    refine Wk.sl_v rfl rfl (Wk.wanted_none rfl) (fun a ha => Wk.x_builtin (ha.evs rfl) (fun _ => Wk.l_slice TF.isslice_sl_int)) ?_
    refine Wk.sl_v rfl rfl (Wk.wanted_none rfl) (fun a ha => Wk.x_assign (ha.ev rfl)) ?_
    refine Wk.sl_nil ?_
    refine Wk.nx_code (Wk.cw_sub (e' := [(0, (.pointer (some p1))), (3, (.int .i64 x1)), (4, (.int .i64 (n3 : Int)))]) (Wk.sub.cons rfl (Wk.sub.cons rfl (Wk.sub.cons rfl (Wk.sub.nil)))) ?_)
    refine Wk.cw_seq ?_
    refine Wk.cw_region ?_
    refine Wk.sl_v rfl rfl (Wk.wanted_none rfl) (fun a ha => Wk.x_move (ha.ev rfl)) ?_
    refine Wk.sl_v rfl rfl (Wk.wanted_none rfl) (fun a ha => Wk.x_nilCheck_ptr (ha.ev rfl)) ?_
    refine Wk.sl_v rfl rfl (Wk.wanted_none rfl) (fun a ha => Wk.x_fieldAddr (ha.ev rfl) (TF.fld_arbiterlaw13_Hold_0 _ _)) ?_
    obtain ⟨A4, n4, c4, h6, H⟩ := H
    refine Wk.sl_v rfl rfl (Wk.wanted_none rfl) (fun a ha => Wk.x_load (ha.ev rfl) (Wk.i_load1 TF.agg_sl_sl_int h6)) ?_
    refine Wk.sl_v rfl rfl (Wk.wanted_none rfl) (fun a ha => Wk.x_move (ha.ev rfl)) ?_
    obtain ⟨h7, h8, a2, e2, H⟩ := H
    refine Wk.sl_v rfl rfl (Wk.wanted_none rfl) (fun a ha => Wk.x_indexAddr (ha.ev rfl) (ha.ev rfl) (Wk.i_index TF.elem_sl_sl_int TF.size_sl_int e2 h7 h8)) ?_
    obtain ⟨A5, n5, c5, h9, H⟩ := H
    refine Wk.sl_v rfl rfl (Wk.wanted_none rfl) (fun a ha => Wk.x_load (ha.ev rfl) (Wk.i_load1 TF.agg_sl_int h9)) ?_
    refine Wk.sl_v rfl rfl (Wk.wanted_none rfl) (fun a ha => Wk.x_assign (ha.ev rfl)) ?_
    refine Wk.sl_nil ?_
    refine Wk.nx_code (Wk.cw_sub (e' := [(0, (.pointer (some p1))), (3, (.int .i64 x1)), (4, (.int .i64 (n3 : Int))), (5, (.slice A5 n5 c5))]) (Wk.sub.cons rfl (Wk.sub.cons rfl (Wk.sub.cons rfl (Wk.sub.cons rfl (Wk.sub.nil))))) ?_)
    refine Wk.cw_join (fun a w => ∃ b3 : Bool, Wk.Ok 240 [(0, (.pointer (some p1))), (3, (.int .i64 x1)), (66, (.bool b3))] a ∧ vc_arbiterlaw13_Hold_kept_J1 K k1 I1 x1 b3 w) ?_ ?_
    · rintro a w6 ⟨b3, ha, H⟩
      unfold vc_arbiterlaw13_Hold_kept_J1 at H
      refine (?_ : Wk.CW _ _ _ 240 [(0, (.pointer (some p1))), (3, (.int .i64 x1)), (66, (.bool b3))] _) a ha
      refine Wk.cw_cond rfl (fun hb => ?_) (fun hb => ?_)
      · replace H := H.1 hb
        refine Wk.cw_seq ?_
        refine Wk.cw_region ?_
        refine Wk.sl_v rfl rfl (Wk.wanted_none rfl) (fun a ha => Wk.x_assign (ha.ev rfl)) ?_
        refine Wk.sl_nil ?_
        refine Wk.nx_code (Wk.cw_sub (e' := [(2, (.bool false))]) (Wk.sub.cons rfl (Wk.sub.nil)) ?_)
        refine Wk.cw_ret ?_
        refine Wk.nx_ret_block ?_
        refine Wk.nx_ret_then ?_
        refine Wk.nx_ret_then ?_
        refine Wk.nx_ret_block ?_
        refine Wk.nx_ret_then ?_
        exact Wk.nx_body_ret (Wk.res1 rfl rfl) ⟨_, rfl, _, rfl, H⟩
      · replace H := H.2 hb
        refine Wk.cw_skip ?_
        refine Wk.nx_block ?_
        refine Wk.nx_code (Wk.cw_sub (e' := [(0, (.pointer (some p1))), (3, (.int .i64 x1))]) (Wk.sub.cons rfl (Wk.sub.cons rfl (Wk.sub.nil))) ?_)
        refine Wk.cw_region ?_
        refine Wk.sl_v rfl rfl (Wk.wanted_none rfl) (fun a ha => Wk.x_move (ha.ev rfl)) ?_
        refine Wk.sl_v rfl rfl (Wk.wanted_none rfl) (fun a ha => Wk.x_binOp (ha.ev rfl) (ha.ev rfl) Wk.o_add) ?_
        refine Wk.sl_v rfl rfl (Wk.wanted_none rfl) (fun a ha => Wk.x_assign (ha.ev rfl)) ?_
        refine Wk.sl_nil ?_
        obtain ⟨k2, hk, H⟩ := H
        exact Wk.nx_to fun a ha => ⟨k2, hk, IntKind.wrap .i64 (x1 + 1), ha.weaken (Wk.sub.cons rfl (Wk.sub.cons rfl (Wk.sub.nil))), H⟩
    · refine Wk.cw_any_drawn follows [0, 1, 2, 3, 4, 5, 6, 7, 8, 9, 11, 12, 13, 14, 15, 17, 18, 19, 20, 21, 22, 23, 25, 26] [6, 9] 27 rfl rfl (by kernel_rfl) (fun _ _ d _ _ h => by cases d <;> exact h) (fun cm hW hD => ?_)
      refine Wk.an_p (i := 0) cm rfl (by kernel_rfl) rfl rfl (Wk.wanted_none rfl) (fun w' a ha => Wk.x_move (ha.ev rfl)) rfl ?_
      intro _ hd; replace hD := hD.trans hd; replace hW := cm.held _ _ hW hd; clear hd
      refine Wk.an_p (i := 1) cm rfl (by kernel_rfl) rfl rfl (Wk.wanted_none rfl) (fun w' a ha => Wk.x_move (ha.ev rfl)) rfl ?_
      intro _ hd; replace hD := hD.trans hd; replace hW := cm.held _ _ hW hd; clear hd
      obtain ⟨h10, h11, H⟩ := H
      refine Wk.an_p (i := 2) cm rfl (by kernel_rfl) rfl rfl (Wk.wanted_none rfl) (fun w' a ha => Wk.x_slice (ha.ev rfl) rfl (Wk.om_some (ha.ev rfl)) rfl (Wk.i_slice_h TF.elem_sl_int TF.size_int h10 h11)) rfl ?_
      intro _ hd; replace hD := hD.trans hd; replace hW := cm.held _ _ hW hd; clear hd
      refine Wk.an_p (i := 3) cm rfl (by kernel_rfl) rfl rfl (Wk.wanted_none rfl) (fun w' a ha => Wk.x_move (ha.ev rfl)) rfl ?_
      intro _ hd; replace hD := hD.trans hd; replace hW := cm.held _ _ hW hd; clear hd
      refine Wk.an_p (i := 4) cm rfl (by kernel_rfl) rfl rfl (Wk.wanted_none rfl) (fun w' a ha => Wk.x_nilCheck_ptr (ha.ev rfl)) rfl ?_
      intro _ hd; replace hD := hD.trans hd; replace hW := cm.held _ _ hW hd; clear hd
      refine Wk.an_p (i := 5) cm rfl (by kernel_rfl) rfl rfl (Wk.wanted_none rfl) (fun w' a ha => Wk.x_fieldAddr (ha.ev rfl) (TF.fld_arbiterlaw13_Hold_1 _ _)) rfl ?_
      intro _ hd; replace hD := hD.trans hd; replace hW := cm.held _ _ hW hd; clear hd
      obtain ⟨A6, n6, c6, h14, H⟩ := H
      refine Wk.an_v (i := 6) cm rfl (by kernel_rfl) hW rfl rfl (Wk.wanted_none rfl) (fun w' hw a ha => Wk.x_load (ha.ev rfl) (Wk.i_load1 TF.agg_sl_sl_int ((hw.cell _).trans h14))) rfl ?_
      intro _ hd hW; replace hD := hD.trans hd; clear hd
      refine Wk.an_p (i := 7) cm rfl (by kernel_rfl) rfl rfl (Wk.wanted_none rfl) (fun w' a ha => Wk.x_move (ha.ev rfl)) rfl ?_
      intro _ hd; replace hD := hD.trans hd; replace hW := cm.held _ _ hW hd; clear hd
      obtain ⟨h15, h16, a3, e3, H⟩ := H
      refine Wk.an_p (i := 8) cm rfl (by kernel_rfl) rfl rfl (Wk.wanted_none rfl) (fun w' a ha => Wk.x_indexAddr (ha.ev rfl) (ha.ev rfl) (Wk.i_index TF.elem_sl_sl_int TF.size_sl_int e3 h15 h16)) rfl ?_
      intro _ hd; replace hD := hD.trans hd; replace hW := cm.held _ _ hW hd; clear hd
      obtain ⟨A7, n7, c7, h17, H⟩ := H
      refine Wk.an_v (i := 9) cm rfl (by kernel_rfl) hW rfl rfl (Wk.wanted_none rfl) (fun w' hw a ha => Wk.x_load (ha.ev rfl) (Wk.i_load1 TF.agg_sl_int ((hw.cell _).trans h17))) rfl ?_
      intro _ hd hW; replace hD := hD.trans hd; clear hd
      refine Wk.an_ready (rs := [10]) (by kernel_rfl) rfl (Wk.aw_cons ?_ Wk.aw_nil)
      replace H := H _ hD
      refine Wk.aw_c rfl rfl rfl (Wk.wanted_none rfl) (fun a ha => Wk.x_call0 (ha.ev rfl) (ha.evs rfl) FF.callable_arbiterlaw13_sameInts) rfl false (by kernel_rfl) H ?_
      rintro _ w2 ⟨b2, rfl, H⟩ _ hD
      refine ⟨fun h => (by cases h), ?_⟩
      refine Wk.an_p (i := 11) cm rfl (by kernel_rfl) rfl rfl (Wk.wanted_none rfl) (fun w' a ha => Wk.x_unOp (ha.ev rfl) Wk.u_not) rfl ?_
      intro _ hd; replace hD := hD.trans hd; clear hd
      rcases Wk.tf (!b2) with hb | hb
      · replace H := H.1 hb
        refine Wk.an_p (i := 12) cm rfl (by kernel_rfl) rfl rfl (Wk.wanted_none rfl) (fun w' a ha => Wk.o_bt (Wk.x_move (ha.ev rfl)) hb) rfl ?_
        intro _ hd; replace hD := hD.trans hd; clear hd
        refine Wk.an_pskip (i := 13) cm rfl (by kernel_rfl) rfl rfl (Wk.wanted_not rfl rfl rfl rfl) rfl ?_
        intro _ hd; replace hD := hD.trans hd; clear hd
        refine Wk.an_pskip (i := 14) cm rfl (by kernel_rfl) rfl rfl (Wk.wanted_not rfl rfl rfl rfl) rfl ?_
        intro _ hd; replace hD := hD.trans hd; clear hd
        refine Wk.an_pskip (i := 15) cm rfl (by kernel_rfl) rfl rfl (Wk.wanted_not rfl rfl rfl rfl) rfl ?_
        intro _ hd; replace hD := hD.trans hd; clear hd
        refine Wk.an_ready (rs := [16]) (by kernel_rfl) rfl (Wk.aw_cons ?_ Wk.aw_nil)
        refine Wk.aw_skip rfl rfl rfl (Wk.wanted_not rfl rfl rfl rfl) rfl false (by kernel_rfl) ?_
        intro _ hd; replace hD := hD.trans hd
        refine ⟨fun h => (by cases h), ?_⟩
        clear hd
        refine Wk.an_pskip (i := 17) cm rfl (by kernel_rfl) rfl rfl (Wk.wanted_not rfl rfl rfl rfl) rfl ?_
        intro _ hd; replace hD := hD.trans hd; clear hd
        refine Wk.an_p (i := 18) cm rfl (by kernel_rfl) rfl rfl (Wk.wanted_none rfl) (fun w' a ha => Wk.x_pick_t (ha.ev rfl) (ha.ev rfl)) rfl ?_
        intro _ hd; replace hD := hD.trans hd; clear hd
        refine Wk.an_p (i := 19) cm rfl (by kernel_rfl) rfl rfl (Wk.wanted_none rfl) (fun w' a ha => Wk.x_move (ha.ev rfl)) rfl ?_
        intro _ hd; replace hD := hD.trans hd; clear hd
        refine Wk.an_pskip (i := 20) cm rfl (by kernel_rfl) rfl rfl (Wk.wanted_not rfl rfl rfl rfl) rfl ?_
        intro _ hd; replace hD := hD.trans hd; clear hd
        refine Wk.an_pskip (i := 21) cm rfl (by kernel_rfl) rfl rfl (Wk.wanted_not rfl rfl rfl rfl) rfl ?_
        intro _ hd; replace hD := hD.trans hd; clear hd
        refine Wk.an_pskip (i := 22) cm rfl (by kernel_rfl) rfl rfl (Wk.wanted_not rfl rfl rfl rfl) rfl ?_
        intro _ hd; replace hD := hD.trans hd; clear hd
        refine Wk.an_pskip (i := 23) cm rfl (by kernel_rfl) rfl rfl (Wk.wanted_not rfl rfl rfl rfl) rfl ?_
        intro _ hd; replace hD := hD.trans hd; clear hd
        refine Wk.an_ready (rs := [24]) (by kernel_rfl) rfl (Wk.aw_cons ?_ Wk.aw_nil)
        refine Wk.aw_skip rfl rfl rfl (Wk.wanted_not rfl rfl rfl rfl) rfl false (by kernel_rfl) ?_
        intro _ hd; replace hD := hD.trans hd
        refine ⟨fun h => (by cases h), ?_⟩
        clear hd
        refine Wk.an_pskip (i := 25) cm rfl (by kernel_rfl) rfl rfl (Wk.wanted_not rfl rfl rfl rfl) rfl ?_
        intro _ hd; replace hD := hD.trans hd; clear hd
        refine Wk.an_p (i := 26) cm rfl (by kernel_rfl) rfl rfl (Wk.wanted_none rfl) (fun w' a ha => Wk.x_pick_t (ha.ev rfl) (ha.ev rfl)) rfl ?_
        intro _ hd; replace hD := hD.trans hd; clear hd
        refine Wk.an_end (by kernel_rfl) hD ?_
        intro w5 hD; replace H := H _ hD; clear hD cm
        exact Wk.nx_to fun a ha => ⟨true, ha.weaken (Wk.sub.cons rfl (Wk.sub.cons rfl (Wk.sub.cons rfl (Wk.sub.nil)))), H⟩
      · replace H := H.2 hb
        refine Wk.an_p (i := 12) cm rfl (by kernel_rfl) rfl rfl (Wk.wanted_none rfl) (fun w' a ha => Wk.o_bf (Wk.x_move (ha.ev rfl)) hb) rfl ?_
        intro _ hd; replace hD := hD.trans hd; clear hd
        refine Wk.an_p (i := 13) cm rfl (by kernel_rfl) rfl rfl (Wk.wanted_some rfl rfl rfl) (fun w' a ha => Wk.x_move (ha.ev rfl)) rfl ?_
        intro _ hd; replace hD := hD.trans hd; clear hd
        refine Wk.an_p (i := 14) cm rfl (by kernel_rfl) rfl rfl (Wk.wanted_some rfl rfl rfl) (fun w' a ha => Wk.x_move (ha.ev rfl)) rfl ?_
        intro _ hd; replace hD := hD.trans hd; clear hd
        obtain ⟨h20, h21, a4, e4, H⟩ := H
        refine Wk.an_p (i := 15) cm rfl (by kernel_rfl) rfl rfl (Wk.wanted_some rfl rfl rfl) (fun w' a ha => Wk.x_indexAddr (ha.ev rfl) (ha.ev rfl) (Wk.i_index TF.elem_sl_int TF.size_int e4 h20 h21)) rfl ?_
        intro _ hd; replace hD := hD.trans hd; clear hd
        refine Wk.an_ready (rs := [16]) (by kernel_rfl) rfl (Wk.aw_cons ?_ Wk.aw_nil)
        obtain ⟨x2, h22, H⟩ := H
        refine Wk.aw_v rfl rfl rfl (Wk.wanted_some rfl rfl rfl) (fun a ha => Wk.x_load (ha.ev rfl) (Wk.i_load1 TF.agg_int ((hD.cell _).trans h22))) rfl false (by kernel_rfl) ?_
        intro _ hd; replace hD := hD.trans hd
        refine ⟨fun h => (by cases h), ?_⟩
        clear hd
        refine Wk.an_p (i := 17) cm rfl (by kernel_rfl) rfl rfl (Wk.wanted_some rfl rfl rfl) (fun w' a ha => Wk.x_binOp (ha.ev rfl) (ha.ev rfl) Wk.o_neq) rfl ?_
        intro _ hd; replace hD := hD.trans hd; clear hd
        refine Wk.an_p (i := 18) cm rfl (by kernel_rfl) rfl rfl (Wk.wanted_none rfl) (fun w' a ha => Wk.x_pick_f (ha.ev rfl) (ha.ev rfl)) rfl ?_
        intro _ hd; replace hD := hD.trans hd; clear hd
        rcases Classical.em (x2 ≠ (-71)) with hb | hb
        · replace H := H.1 hb
          refine Wk.an_p (i := 19) cm rfl (by kernel_rfl) rfl rfl (Wk.wanted_none rfl) (fun w' a ha => Wk.o_t (Wk.x_move (ha.ev rfl)) hb) rfl ?_
          intro _ hd; replace hD := hD.trans hd; clear hd
          refine Wk.an_pskip (i := 20) cm rfl (by kernel_rfl) rfl rfl (Wk.wanted_not rfl rfl rfl rfl) rfl ?_
          intro _ hd; replace hD := hD.trans hd; clear hd
          refine Wk.an_pskip (i := 21) cm rfl (by kernel_rfl) rfl rfl (Wk.wanted_not rfl rfl rfl rfl) rfl ?_
          intro _ hd; replace hD := hD.trans hd; clear hd
          refine Wk.an_pskip (i := 22) cm rfl (by kernel_rfl) rfl rfl (Wk.wanted_not rfl rfl rfl rfl) rfl ?_
          intro _ hd; replace hD := hD.trans hd; clear hd
          refine Wk.an_pskip (i := 23) cm rfl (by kernel_rfl) rfl rfl (Wk.wanted_not rfl rfl rfl rfl) rfl ?_
          intro _ hd; replace hD := hD.trans hd; clear hd
          refine Wk.an_ready (rs := [24]) (by kernel_rfl) rfl (Wk.aw_cons ?_ Wk.aw_nil)
          refine Wk.aw_skip rfl rfl rfl (Wk.wanted_not rfl rfl rfl rfl) rfl false (by kernel_rfl) ?_
          intro _ hd; replace hD := hD.trans hd
          refine ⟨fun h => (by cases h), ?_⟩
          clear hd
          refine Wk.an_pskip (i := 25) cm rfl (by kernel_rfl) rfl rfl (Wk.wanted_not rfl rfl rfl rfl) rfl ?_
          intro _ hd; replace hD := hD.trans hd; clear hd
          refine Wk.an_p (i := 26) cm rfl (by kernel_rfl) rfl rfl (Wk.wanted_none rfl) (fun w' a ha => Wk.x_pick_t (ha.ev rfl) (ha.ev rfl)) rfl ?_
          intro _ hd; replace hD := hD.trans hd; clear hd
          refine Wk.an_end (by kernel_rfl) hD ?_
          intro w7 hD; replace H := H _ hD; clear hD cm
          exact Wk.nx_to fun a ha => ⟨true, ha.weaken (Wk.sub.cons rfl (Wk.sub.cons rfl (Wk.sub.cons rfl (Wk.sub.nil)))), H⟩
        · replace H := H.2 hb
          refine Wk.an_p (i := 19) cm rfl (by kernel_rfl) rfl rfl (Wk.wanted_none rfl) (fun w' a ha => Wk.o_f (Wk.x_move (ha.ev rfl)) hb) rfl ?_
          intro _ hd; replace hD := hD.trans hd; clear hd
          refine Wk.an_p (i := 20) cm rfl (by kernel_rfl) rfl rfl (Wk.wanted_some rfl rfl rfl) (fun w' a ha => Wk.x_move (ha.ev rfl)) rfl ?_
          intro _ hd; replace hD := hD.trans hd; clear hd
          refine Wk.an_p (i := 21) cm rfl (by kernel_rfl) rfl rfl (Wk.wanted_some rfl rfl rfl) (fun w' a ha => Wk.x_move (ha.ev rfl)) rfl ?_
          intro _ hd; replace hD := hD.trans hd; clear hd
          refine Wk.an_p (i := 22) cm rfl (by kernel_rfl) rfl rfl (Wk.wanted_some rfl rfl rfl) (fun w' a ha => Wk.x_binOp (ha.ev rfl) (ha.ev rfl) Wk.o_add) rfl ?_
          intro _ hd; replace hD := hD.trans hd; clear hd
          obtain ⟨h23, h24, a5, e5, H⟩ := H
          refine Wk.an_p (i := 23) cm rfl (by kernel_rfl) rfl rfl (Wk.wanted_some rfl rfl rfl) (fun w' a ha => Wk.x_indexAddr (ha.ev rfl) (ha.ev rfl) (Wk.i_index TF.elem_sl_int TF.size_int e5 h23 h24)) rfl ?_
          intro _ hd; replace hD := hD.trans hd; clear hd
          refine Wk.an_ready (rs := [24]) (by kernel_rfl) rfl (Wk.aw_cons ?_ Wk.aw_nil)
          obtain ⟨x3, h25, H⟩ := H
          refine Wk.aw_v rfl rfl rfl (Wk.wanted_some rfl rfl rfl) (fun a ha => Wk.x_load (ha.ev rfl) (Wk.i_load1 TF.agg_int ((hD.cell _).trans h25))) rfl false (by kernel_rfl) ?_
          intro _ hd; replace hD := hD.trans hd
          refine ⟨fun h => (by cases h), ?_⟩
          clear hd
          refine Wk.an_p (i := 25) cm rfl (by kernel_rfl) rfl rfl (Wk.wanted_some rfl rfl rfl) (fun w' a ha => Wk.x_binOp (ha.ev rfl) (ha.ev rfl) Wk.o_neq) rfl ?_
          intro _ hd; replace hD := hD.trans hd; clear hd
          refine Wk.an_p (i := 26) cm rfl (by kernel_rfl) rfl rfl (Wk.wanted_none rfl) (fun w' a ha => Wk.x_pick_f (ha.ev rfl) (ha.ev rfl)) rfl ?_
          intro _ hd; replace hD := hD.trans hd; clear hd
          refine Wk.an_end (by kernel_rfl) hD ?_
          intro w8 hD; replace H := H _ hD; clear hD cm
          exact Wk.nx_to fun a ha => ⟨(decide (x3 ≠ (-72))), ha.weaken (Wk.sub.cons rfl (Wk.sub.cons rfl (Wk.sub.cons rfl (Wk.sub.nil)))), H⟩
  · replace H := H.2 hb
    refine Wk.cw_exit ?_
    refine Wk.nx_exit_then ?_
    refine Wk.nx_exit_then ?_
    refine Wk.nx_exit_hit ?_
    refine Wk.nx_code (Wk.cw_sub (e' := [(0, (.pointer (some p1)))]) (Wk.sub.cons rfl (Wk.sub.nil)) ?_)
    refine Wk.cw_seq ?_
    refine Wk.cw_seq ?_
    refine Wk.cw_region ?_
    refine Wk.sl_v rfl rfl (Wk.wanted_none rfl) (fun a ha => Wk.x_assign (ha.ev rfl)) ?_
    refine Wk.sl_nil ?_
    refine Wk.nx_code (Wk.cw_sub (e' := [(0, (.pointer (some p1))), (6, (.int .i64 0))]) (Wk.sub.cons rfl (Wk.sub.cons rfl (Wk.sub.nil))) ?_)
    refine Wk.cw_block ?_
    obtain ⟨I2, ⟨k3, hi⟩, H⟩ := H
    refine Wk.cw_loop (fun k3 a w' => ∃ x4 : Int, Wk.Ok 240 [(0, (.pointer (some p1))), (6, (.int .i64 x4))] a ∧ I2 k3 x4 w') (fun a ha => ⟨k3, 0, ha.weaken (Wk.sub.cons rfl (Wk.sub.cons rfl (Wk.sub.nil))), hi⟩) ?_
    rintro k3 a w9 ⟨x4, ha, hI⟩
    replace H := H k3 x4 w9 hI
    refine (?_ : Wk.CW _ _ _ 240 [(0, (.pointer (some p1))), (6, (.int .i64 x4))] _) a ha
    refine Wk.cw_seq ?_
    refine Wk.cw_seq ?_
    refine Wk.cw_region ?_
    refine Wk.sl_v rfl rfl (Wk.wanted_none rfl) (fun a ha => Wk.x_move (ha.ev rfl)) ?_
    refine Wk.sl_v rfl rfl (Wk.wanted_none rfl) (fun a ha => Wk.x_move (ha.ev rfl)) ?_
    refine Wk.sl_v rfl rfl (Wk.wanted_none rfl) (fun a ha => Wk.x_nilCheck_ptr (ha.ev rfl)) ?_
    refine Wk.sl_v rfl rfl (Wk.wanted_none rfl) (fun a ha => Wk.x_fieldAddr (ha.ev rfl) (TF.fld_arbiterlaw13_Hold_2 _ _)) ?_
    obtain ⟨A8, n8, c8, h26, H⟩ := H
    refine Wk.sl_v rfl rfl (Wk.wanted_none rfl) (fun a ha => Wk.x_load (ha.ev rfl) (Wk.i_load1 TF.agg_sl_sl_api_Flat h26)) ?_
    refine Wk.sl_v rfl rfl (Wk.wanted_none rfl) (fun a ha => Wk.x_builtin (ha.evs rfl) (fun _ => Wk.l_slice TF.isslice_sl_sl_api_Flat)) ?_
    refine Wk.sl_v rfl rfl (Wk.wanted_none rfl) (fun a ha => Wk.x_binOp (ha.ev rfl) (ha.ev rfl) Wk.o_lss) ?_
    refine Wk.sl_nil ?_
    refine Wk.nx_code (Wk.cw_sub (e' := [(0, (.pointer (some p1))), (6, (.int .i64 x4)), (73, (.bool (decide (x4 < (n8 : Int)))))]) (Wk.sub.cons rfl (Wk.sub.cons rfl (Wk.sub.cons rfl (Wk.sub.nil)))) ?_)
    refine Wk.cw_cond_p rfl (fun hb => ?_) (fun hb => ?_)
    · replace H := H.1 hb
      refine Wk.cw_skip ?_
      refine Wk.nx_code (Wk.cw_sub (e' := [(0, (.pointer (some p1))), (6, (.int .i64 x4))]) (Wk.sub.cons rfl (Wk.sub.cons rfl (Wk.sub.nil))) ?_)
      refine Wk.cw_seq ?_
      refine Wk.cw_block ?_
      refine Wk.cw_seq ?_
      refine Wk.cw_region ?_
      refine Wk.sl_v rfl rfl (Wk.wanted_none rfl) (fun a ha => Wk.x_move (ha.ev rfl)) ?_
      refine Wk.sl_v rfl rfl (Wk.wanted_none rfl) (fun a ha => Wk.x_nilCheck_ptr (ha.ev rfl)) ?_
      refine Wk.sl_v rfl rfl (Wk.wanted_none rfl) (fun a ha => Wk.x_fieldAddr (ha.ev rfl) (TF.fld_arbiterlaw13_Hold_3 _ _)) ?_
      obtain ⟨A9, n9, c9, h27, H⟩ := H
      refine Wk.sl_v rfl rfl (Wk.wanted_none rfl) (fun a ha => Wk.x_load (ha.ev rfl) (Wk.i_load1 TF.agg_sl_sl_api_Flat h27)) ?_
      refine Wk.sl_v rfl rfl (Wk.wanted_none rfl) (fun a ha => Wk.x_move (ha.ev rfl)) ?_
      obtain ⟨h28, h29, a6, e6, H⟩ := H
      refine Wk.sl_v rfl rfl (Wk.wanted_none rfl) (fun a ha => Wk.x_indexAddr (ha.ev rfl) (ha.ev rfl) (Wk.i_index TF.elem_sl_sl_api_Flat TF.size_sl_api_Flat e6 h28 h29)) ?_
      obtain ⟨A10, n10, c10, h30, H⟩ := H
      refine Wk.sl_v rfl rfl (Wk.wanted_none rfl) (fun a ha => Wk.x_load (ha.ev rfl) (Wk.i_load1 TF.agg_sl_api_Flat h30)) ?_
      refine Wk.sl_v rfl rfl (Wk.wanted_none rfl) (fun a ha => Wk.x_builtin (ha.evs rfl) (fun _ => Wk.l_slice TF.isslice_sl_api_Flat)) ?_
      refine Wk.sl_v rfl rfl (Wk.wanted_none rfl) (fun a ha => Wk.x_assign (ha.ev rfl)) ?_
      refine Wk.sl_nil ?_
      refine Wk.nx_code (Wk.cw_sub (e' := [(0, (.pointer (some p1))), (6, (.int .i64 x4)), (7, (.int .i64 (n10 : Int)))]) (Wk.sub.cons rfl (Wk.sub.cons rfl (Wk.sub.cons rfl (Wk.sub.nil)))) ?_)
      refine Wk.cw_seq ?_
      refine Wk.cw_region ?_
      refine Wk.sl_v rfl rfl (Wk.wanted_none rfl) (fun a ha => Wk.x_move (ha.ev rfl)) ?_
      refine Wk.sl_v rfl rfl (Wk.wanted_none rfl) (fun a ha => Wk.x_nilCheck_ptr (ha.ev rfl)) ?_
      refine Wk.sl_v rfl rfl (Wk.wanted_none rfl) (fun a ha => Wk.x_fieldAddr (ha.ev rfl) (TF.fld_arbiterlaw13_Hold_2 _ _)) ?_
      obtain ⟨A11, n11, c11, h31, H⟩ := H
      refine Wk.sl_v rfl rfl (Wk.wanted_none rfl) (fun a ha => Wk.x_load (ha.ev rfl) (Wk.i_load1 TF.agg_sl_sl_api_Flat h31)) ?_
      refine Wk.sl_v rfl rfl (Wk.wanted_none rfl) (fun a ha => Wk.x_move (ha.ev rfl)) ?_
      obtain ⟨h32, h33, a7, e7, H⟩ := H
      refine Wk.sl_v rfl rfl (Wk.wanted_none rfl) (fun a ha => Wk.x_indexAddr (ha.ev rfl) (ha.ev rfl) (Wk.i_index TF.elem_sl_sl_api_Flat TF.size_sl_api_Flat e7 h32 h33)) ?_
      obtain ⟨A12, n12, c12, h34, H⟩ := H
      refine Wk.sl_v rfl rfl (Wk.wanted_none rfl) (fun a ha => Wk.x_load (ha.ev rfl) (Wk.i_load1 TF.agg_sl_api_Flat h34)) ?_
      refine Wk.sl_v rfl rfl (Wk.wanted_none rfl) (fun a ha => Wk.x_assign (ha.ev rfl)) ?_
      refine Wk.sl_nil ?_
      refine Wk.nx_code (Wk.cw_sub (e' := [(0, (.pointer (some p1))), (6, (.int .i64 x4)), (7, (.int .i64 (n10 : Int))), (8, (.slice A12 n12 c12))]) (Wk.sub.cons rfl (Wk.sub.cons rfl (Wk.sub.cons rfl (Wk.sub.cons rfl (Wk.sub.nil))))) ?_)
      refine Wk.cw_seq ?_
      refine Wk.cw_seq ?_
      refine Wk.cw_region ?_
      refine Wk.sl_v rfl rfl (Wk.wanted_none rfl) (fun a ha => Wk.x_assign (ha.ev rfl)) ?_
      refine Wk.sl_nil ?_
      refine Wk.nx_code (Wk.cw_sub (e' := [(0, (.pointer (some p1))), (6, (.int .i64 x4)), (7, (.int .i64 (n10 : Int))), (8, (.slice A12 n12 c12)), (9, (.int .i64 0))]) (Wk.sub.cons rfl (Wk.sub.cons rfl (Wk.sub.cons rfl (Wk.sub.cons rfl (Wk.sub.cons rfl (Wk.sub.nil)))))) ?_)
      refine Wk.cw_block ?_
      obtain ⟨I3, ⟨k4, hi⟩, H⟩ := H
      refine Wk.cw_loop (fun k4 a w' => ∃ x5 : Int, Wk.Ok 240 [(0, (.pointer (some p1))), (6, (.int .i64 x4)), (7, (.int .i64 (n10 : Int))), (8, (.slice A12 n12 c12)), (9, (.int .i64 x5))] a ∧ I3 k4 x5 w') (fun a ha => ⟨k4, 0, ha.weaken (Wk.sub.cons rfl (Wk.sub.cons rfl (Wk.sub.cons rfl (Wk.sub.cons rfl (Wk.sub.cons rfl (Wk.sub.nil)))))), hi⟩) ?_
      rintro k4 a w10 ⟨x5, ha, hI⟩
      replace H := H k4 x5 w10 hI
      refine (?_ : Wk.CW _ _ _ 240 [(0, (.pointer (some p1))), (6, (.int .i64 x4)), (7, (.int .i64 (n10 : Int))), (8, (.slice A12 n12 c12)), (9, (.int .i64 x5))] _) a ha
      refine Wk.cw_seq ?_
      refine Wk.cw_seq ?_
      refine Wk.cw_region ?_
      refine Wk.sl_v rfl rfl (Wk.wanted_none rfl) (fun a ha => Wk.x_move (ha.ev rfl)) ?_
      refine Wk.sl_v rfl rfl (Wk.wanted_none rfl) (fun a ha => Wk.x_move (ha.ev rfl)) ?_
      refine Wk.sl_v rfl rfl (Wk.wanted_none rfl) (fun a ha => Wk.x_binOp (ha.ev rfl) (ha.ev rfl) Wk.o_lss) ?_
      refine Wk.sl_nil ?_
      refine Wk.nx_code (Wk.cw_sub (e' := [(0, (.pointer (some p1))), (6, (.int .i64 x4)), (7, (.int .i64 (n10 : Int))), (8, (.slice A12 n12 c12)), (9, (.int .i64 x5)), (93, (.bool (decide (x5 < (n10 : Int)))))]) (Wk.sub.cons rfl (Wk.sub.cons rfl (Wk.sub.cons rfl (Wk.sub.cons rfl (Wk.sub.cons rfl (Wk.sub.cons rfl (Wk.sub.nil))))))) ?_)
      refine Wk.cw_cond_p rfl (fun hb => ?_) (fun hb => ?_)
      · replace H := H.1 hb
        refine Wk.cw_skip ?_
        refine Wk.nx_code (Wk.cw_sub (e' := [(0, (.pointer (some p1))), (6, (.int .i64 x4)), (7, (.int .i64 (n10 : Int))), (8, (.slice A12 n12 c12)), (9, (.int .i64 x5))]) (Wk.sub.cons rfl (Wk.sub.cons rfl (Wk.sub.cons rfl (Wk.sub.cons rfl (Wk.sub.cons rfl (Wk.sub.nil)))))) ?_)
        refine Wk.cw_seq ?_
        refine Wk.cw_block ?_
        refine Wk.cw_join (fun a w => ∃ b4 : Bool, Wk.Ok 240 [(0, (.pointer (some p1))), (6, (.int .i64 x4)), (7, (.int .i64 (n10 : Int))), (8, (.slice A12 n12 c12)), (9, (.int .i64 x5)), (132, (.bool b4))] a ∧ vc_arbiterlaw13_Hold_kept_J2 K k4 I3 x5 b4 w) ?_ ?_
        · rintro a w12 ⟨b4, ha, H⟩
          unfold vc_arbiterlaw13_Hold_kept_J2 at H
          refine (?_ : Wk.CW _ _ _ 240 [(0, (.pointer (some p1))), (6, (.int .i64 x4)), (7, (.int .i64 (n10 : Int))), (8, (.slice A12 n12 c12)), (9, (.int .i64 x5)), (132, (.bool b4))] _) a ha
          refine Wk.cw_cond rfl (fun hb => ?_) (fun hb => ?_)
          · replace H := H.1 hb
            refine Wk.cw_seq ?_
            refine Wk.cw_region ?_
            refine Wk.sl_v rfl rfl (Wk.wanted_none rfl) (fun a ha => Wk.x_assign (ha.ev rfl)) ?_
            refine Wk.sl_nil ?_
            refine Wk.nx_code (Wk.cw_sub (e' := [(2, (.bool false))]) (Wk.sub.cons rfl (Wk.sub.nil)) ?_)
            refine Wk.cw_ret ?_
            refine Wk.nx_ret_block ?_
            refine Wk.nx_ret_then ?_
            refine Wk.nx_ret_then ?_
            refine Wk.nx_ret_block ?_
            refine Wk.nx_ret_then ?_
            refine Wk.nx_ret_block ?_
            refine Wk.nx_ret_then ?_
            refine Wk.nx_ret_then ?_
            refine Wk.nx_ret_block ?_
            refine Wk.nx_ret_then ?_
            exact Wk.nx_body_ret (Wk.res1 rfl rfl) ⟨_, rfl, _, rfl, H⟩
          · replace H := H.2 hb
            refine Wk.cw_skip ?_
            refine Wk.nx_block ?_
            refine Wk.nx_code (Wk.cw_sub (e' := [(0, (.pointer (some p1))), (6, (.int .i64 x4)), (7, (.int .i64 (n10 : Int))), (8, (.slice A12 n12 c12)), (9, (.int .i64 x5))]) (Wk.sub.cons rfl (Wk.sub.cons rfl (Wk.sub.cons rfl (Wk.sub.cons rfl (Wk.sub.cons rfl (Wk.sub.nil)))))) ?_)
            refine Wk.cw_region ?_
            refine Wk.sl_v rfl rfl (Wk.wanted_none rfl) (fun a ha => Wk.x_move (ha.ev rfl)) ?_
            refine Wk.sl_v rfl rfl (Wk.wanted_none rfl) (fun a ha => Wk.x_binOp (ha.ev rfl) (ha.ev rfl) Wk.o_add) ?_
            refine Wk.sl_v rfl rfl (Wk.wanted_none rfl) (fun a ha => Wk.x_assign (ha.ev rfl)) ?_
            refine Wk.sl_nil ?_
            obtain ⟨k5, hk, H⟩ := H
            exact Wk.nx_to fun a ha => ⟨k5, hk, IntKind.wrap .i64 (x5 + 1), ha.weaken (Wk.sub.cons rfl (Wk.sub.cons rfl (Wk.sub.cons rfl (Wk.sub.cons rfl (Wk.sub.cons rfl (Wk.sub.nil)))))), H⟩
        · refine Wk.cw_any_drawn follows [0, 1, 2, 3, 4, 5, 6, 7, 8, 9, 10, 11, 12, 13, 14, 15, 16, 17, 18, 19, 20, 21, 22, 23, 24, 25, 26, 27, 28, 29, 30, 31, 32, 33, 35, 36] [4, 8, 11, 15, 22, 26, 29, 33] 37 rfl rfl (by kernel_rfl) (fun _ _ d _ _ h => by cases d <;> exact h) (fun cm hW hD => ?_)
          refine Wk.an_p (i := 0) cm rfl (by kernel_rfl) rfl rfl (Wk.wanted_none rfl) (fun w' a ha => Wk.x_move (ha.ev rfl)) rfl ?_
          intro _ hd; replace hD := hD.trans hd; replace hW := cm.held _ _ hW hd; clear hd
          refine Wk.an_p (i := 1) cm rfl (by kernel_rfl) rfl rfl (Wk.wanted_none rfl) (fun w' a ha => Wk.x_move (ha.ev rfl)) rfl ?_
          intro _ hd; replace hD := hD.trans hd; replace hW := cm.held _ _ hW hd; clear hd
          obtain ⟨h35, h36, a8, e8, H⟩ := H
          refine Wk.an_p (i := 2) cm rfl (by kernel_rfl) rfl rfl (Wk.wanted_none rfl) (fun w' a ha => Wk.x_indexAddr (ha.ev rfl) (ha.ev rfl) (Wk.i_index TF.elem_sl_api_Flat TF.size_api_Flat e8 h35 h36)) rfl ?_
          intro _ hd; replace hD := hD.trans hd; replace hW := cm.held _ _ hW hd; clear hd
          refine Wk.an_p (i := 3) cm rfl (by kernel_rfl) rfl rfl (Wk.wanted_none rfl) (fun w' a ha => Wk.x_fieldAddr (ha.ev rfl) (TF.fld_api_Flat_0 _ _)) rfl ?_
          intro _ hd; replace hD := hD.trans hd; replace hW := cm.held _ _ hW hd; clear hd
          obtain ⟨x6, h37, H⟩ := H
          refine Wk.an_v (i := 4) cm rfl (by kernel_rfl) hW rfl rfl (Wk.wanted_none rfl) (fun w' hw a ha => Wk.x_load (ha.ev rfl) (Wk.i_load1 TF.agg_int ((hw.cell _).trans h37))) rfl ?_
          intro _ hd hW; replace hD := hD.trans hd; clear hd
          refine Wk.an_p (i := 5) cm rfl (by kernel_rfl) rfl rfl (Wk.wanted_none rfl) (fun w' a ha => Wk.x_move (ha.ev rfl)) rfl ?_
          intro _ hd; replace hD := hD.trans hd; replace hW := cm.held _ _ hW hd; clear hd
          refine Wk.an_p (i := 6) cm rfl (by kernel_rfl) rfl rfl (Wk.wanted_none rfl) (fun w' a ha => Wk.x_nilCheck_ptr (ha.ev rfl)) rfl ?_
          intro _ hd; replace hD := hD.trans hd; replace hW := cm.held _ _ hW hd; clear hd
          refine Wk.an_p (i := 7) cm rfl (by kernel_rfl) rfl rfl (Wk.wanted_none rfl) (fun w' a ha => Wk.x_fieldAddr (ha.ev rfl) (TF.fld_arbiterlaw13_Hold_3 _ _)) rfl ?_
          intro _ hd; replace hD := hD.trans hd; replace hW := cm.held _ _ hW hd; clear hd
          obtain ⟨A13, n13, c13, h38, H⟩ := H
          refine Wk.an_v (i := 8) cm rfl (by kernel_rfl) hW rfl rfl (Wk.wanted_none rfl) (fun w' hw a ha => Wk.x_load (ha.ev rfl) (Wk.i_load1 TF.agg_sl_sl_api_Flat ((hw.cell _).trans h38))) rfl ?_
          intro _ hd hW; replace hD := hD.trans hd; clear hd
          refine Wk.an_p (i := 9) cm rfl (by kernel_rfl) rfl rfl (Wk.wanted_none rfl) (fun w' a ha => Wk.x_move (ha.ev rfl)) rfl ?_
          intro _ hd; replace hD := hD.trans hd; replace hW := cm.held _ _ hW hd; clear hd
          obtain ⟨h39, h40, a9, e9, H⟩ := H
          refine Wk.an_p (i := 10) cm rfl (by kernel_rfl) rfl rfl (Wk.wanted_none rfl) (fun w' a ha => Wk.x_indexAddr (ha.ev rfl) (ha.ev rfl) (Wk.i_index TF.elem_sl_sl_api_Flat TF.size_sl_api_Flat e9 h39 h40)) rfl ?_
          intro _ hd; replace hD := hD.trans hd; replace hW := cm.held _ _ hW hd; clear hd
          obtain ⟨A14, n14, c14, h41, H⟩ := H
          refine Wk.an_v (i := 11) cm rfl (by kernel_rfl) hW rfl rfl (Wk.wanted_none rfl) (fun w' hw a ha => Wk.x_load (ha.ev rfl) (Wk.i_load1 TF.agg_sl_api_Flat ((hw.cell _).trans h41))) rfl ?_
          intro _ hd hW; replace hD := hD.trans hd; clear hd
          refine Wk.an_p (i := 12) cm rfl (by kernel_rfl) rfl rfl (Wk.wanted_none rfl) (fun w' a ha => Wk.x_move (ha.ev rfl)) rfl ?_
          intro _ hd; replace hD := hD.trans hd; replace hW := cm.held _ _ hW hd; clear hd
          obtain ⟨h42, h43, a10, e10, H⟩ := H
          refine Wk.an_p (i := 13) cm rfl (by kernel_rfl) rfl rfl (Wk.wanted_none rfl) (fun w' a ha => Wk.x_indexAddr (ha.ev rfl) (ha.ev rfl) (Wk.i_index TF.elem_sl_api_Flat TF.size_api_Flat e10 h42 h43)) rfl ?_
          intro _ hd; replace hD := hD.trans hd; replace hW := cm.held _ _ hW hd; clear hd
          refine Wk.an_p (i := 14) cm rfl (by kernel_rfl) rfl rfl (Wk.wanted_none rfl) (fun w' a ha => Wk.x_fieldAddr (ha.ev rfl) (TF.fld_api_Flat_0 _ _)) rfl ?_
          intro _ hd; replace hD := hD.trans hd; replace hW := cm.held _ _ hW hd; clear hd
          obtain ⟨x7, h44, H⟩ := H
          refine Wk.an_v (i := 15) cm rfl (by kernel_rfl) hW rfl rfl (Wk.wanted_none rfl) (fun w' hw a ha => Wk.x_load (ha.ev rfl) (Wk.i_load1 TF.agg_int ((hw.cell _).trans h44))) rfl ?_
          intro _ hd hW; replace hD := hD.trans hd; clear hd
          refine Wk.an_p (i := 16) cm rfl (by kernel_rfl) rfl rfl (Wk.wanted_none rfl) (fun w' a ha => Wk.x_binOp (ha.ev rfl) (ha.ev rfl) Wk.o_neq) rfl ?_
          intro _ hd; replace hD := hD.trans hd; replace hW := cm.held _ _ hW hd; clear hd
          rcases Classical.em (x6 ≠ x7) with hb | hb
          · replace H := H.1 hb
            refine Wk.an_p (i := 17) cm rfl (by kernel_rfl) rfl rfl (Wk.wanted_none rfl) (fun w' a ha => Wk.o_t (Wk.x_move (ha.ev rfl)) hb) rfl ?_
            intro _ hd; replace hD := hD.trans hd; replace hW := cm.held _ _ hW hd; clear hd
            refine Wk.an_pskip (i := 18) cm rfl (by kernel_rfl) rfl rfl (Wk.wanted_not rfl rfl rfl rfl) rfl ?_
            intro _ hd; replace hD := hD.trans hd; replace hW := cm.held _ _ hW hd; clear hd
            refine Wk.an_pskip (i := 19) cm rfl (by kernel_rfl) rfl rfl (Wk.wanted_not rfl rfl rfl rfl) rfl ?_
            intro _ hd; replace hD := hD.trans hd; replace hW := cm.held _ _ hW hd; clear hd
            refine Wk.an_pskip (i := 20) cm rfl (by kernel_rfl) rfl rfl (Wk.wanted_not rfl rfl rfl rfl) rfl ?_
            intro _ hd; replace hD := hD.trans hd; replace hW := cm.held _ _ hW hd; clear hd
            refine Wk.an_pskip (i := 21) cm rfl (by kernel_rfl) rfl rfl (Wk.wanted_not rfl rfl rfl rfl) rfl ?_
            intro _ hd; replace hD := hD.trans hd; replace hW := cm.held _ _ hW hd; clear hd
            refine Wk.an_pskip (i := 22) cm rfl (by kernel_rfl) rfl rfl (Wk.wanted_not rfl rfl rfl rfl) rfl ?_
            intro _ hd; replace hD := hD.trans hd; replace hW := cm.held _ _ hW hd; clear hd
            refine Wk.an_pskip (i := 23) cm rfl (by kernel_rfl) rfl rfl (Wk.wanted_not rfl rfl rfl rfl) rfl ?_
            intro _ hd; replace hD := hD.trans hd; replace hW := cm.held _ _ hW hd; clear hd
            refine Wk.an_pskip (i := 24) cm rfl (by kernel_rfl) rfl rfl (Wk.wanted_not rfl rfl rfl rfl) rfl ?_
            intro _ hd; replace hD := hD.trans hd; replace hW := cm.held _ _ hW hd; clear hd
            refine Wk.an_pskip (i := 25) cm rfl (by kernel_rfl) rfl rfl (Wk.wanted_not rfl rfl rfl rfl) rfl ?_
            intro _ hd; replace hD := hD.trans hd; replace hW := cm.held _ _ hW hd; clear hd
            refine Wk.an_pskip (i := 26) cm rfl (by kernel_rfl) rfl rfl (Wk.wanted_not rfl rfl rfl rfl) rfl ?_
            intro _ hd; replace hD := hD.trans hd; replace hW := cm.held _ _ hW hd; clear hd
            refine Wk.an_pskip (i := 27) cm rfl (by kernel_rfl) rfl rfl (Wk.wanted_not rfl rfl rfl rfl) rfl ?_
            intro _ hd; replace hD := hD.trans hd; replace hW := cm.held _ _ hW hd; clear hd
            refine Wk.an_pskip (i := 28) cm rfl (by kernel_rfl) rfl rfl (Wk.wanted_not rfl rfl rfl rfl) rfl ?_
            intro _ hd; replace hD := hD.trans hd; replace hW := cm.held _ _ hW hd; clear hd
            refine Wk.an_pskip (i := 29) cm rfl (by kernel_rfl) rfl rfl (Wk.wanted_not rfl rfl rfl rfl) rfl ?_
            intro _ hd; replace hD := hD.trans hd; replace hW := cm.held _ _ hW hd; clear hd
            refine Wk.an_pskip (i := 30) cm rfl (by kernel_rfl) rfl rfl (Wk.wanted_not rfl rfl rfl rfl) rfl ?_
            intro _ hd; replace hD := hD.trans hd; replace hW := cm.held _ _ hW hd; clear hd
            refine Wk.an_pskip (i := 31) cm rfl (by kernel_rfl) rfl rfl (Wk.wanted_not rfl rfl rfl rfl) rfl ?_
            intro _ hd; replace hD := hD.trans hd; replace hW := cm.held _ _ hW hd; clear hd
            refine Wk.an_pskip (i := 32) cm rfl (by kernel_rfl) rfl rfl (Wk.wanted_not rfl rfl rfl rfl) rfl ?_
            intro _ hd; replace hD := hD.trans hd; replace hW := cm.held _ _ hW hd; clear hd
            refine Wk.an_pskip (i := 33) cm rfl (by kernel_rfl) rfl rfl (Wk.wanted_not rfl rfl rfl rfl) rfl ?_
            intro _ hd; replace hD := hD.trans hd; replace hW := cm.held _ _ hW hd; clear hd
            refine Wk.an_ready (rs := [34]) (by kernel_rfl) rfl (Wk.aw_cons ?_ Wk.aw_nil)
            refine Wk.aw_skip rfl rfl rfl (Wk.wanted_not rfl rfl rfl rfl) rfl false (by kernel_rfl) ?_
            intro _ hd; replace hD := hD.trans hd
            refine ⟨fun h => (by cases h), ?_⟩
            clear hd
            refine Wk.an_pskip (i := 35) cm rfl (by kernel_rfl) rfl rfl (Wk.wanted_not rfl rfl rfl rfl) rfl ?_
            intro _ hd; replace hD := hD.trans hd; clear hd
            refine Wk.an_p (i := 36) cm rfl (by kernel_rfl) rfl rfl (Wk.wanted_none rfl) (fun w' a ha => Wk.x_pick_t (ha.ev rfl) (ha.ev rfl)) rfl ?_
            intro _ hd; replace hD := hD.trans hd; clear hd
            refine Wk.an_end (by kernel_rfl) hD ?_
            intro w11 hD; replace H := H _ hD; clear hD cm
            exact Wk.nx_to fun a ha => ⟨true, ha.weaken (Wk.sub.cons rfl (Wk.sub.cons rfl (Wk.sub.cons rfl (Wk.sub.cons rfl (Wk.sub.cons rfl (Wk.sub.cons rfl (Wk.sub.nil))))))), H⟩
          · replace H := H.2 hb
            refine Wk.an_p (i := 17) cm rfl (by kernel_rfl) rfl rfl (Wk.wanted_none rfl) (fun w' a ha => Wk.o_f (Wk.x_move (ha.ev rfl)) hb) rfl ?_
            intro _ hd; replace hD := hD.trans hd; replace hW := cm.held _ _ hW hd; clear hd
            refine Wk.an_p (i := 18) cm rfl (by kernel_rfl) rfl rfl (Wk.wanted_some rfl rfl rfl) (fun w' a ha => Wk.x_move (ha.ev rfl)) rfl ?_
            intro _ hd; replace hD := hD.trans hd; replace hW := cm.held _ _ hW hd; clear hd
            refine Wk.an_p (i := 19) cm rfl (by kernel_rfl) rfl rfl (Wk.wanted_some rfl rfl rfl) (fun w' a ha => Wk.x_move (ha.ev rfl)) rfl ?_
            intro _ hd; replace hD := hD.trans hd; replace hW := cm.held _ _ hW hd; clear hd
            obtain ⟨h45, h46, a11, e11, H⟩ := H
            refine Wk.an_p (i := 20) cm rfl (by kernel_rfl) rfl rfl (Wk.wanted_some rfl rfl rfl) (fun w' a ha => Wk.x_indexAddr (ha.ev rfl) (ha.ev rfl) (Wk.i_index TF.elem_sl_api_Flat TF.size_api_Flat e11 h45 h46)) rfl ?_
            intro _ hd; replace hD := hD.trans hd; replace hW := cm.held _ _ hW hd; clear hd
            refine Wk.an_p (i := 21) cm rfl (by kernel_rfl) rfl rfl (Wk.wanted_some rfl rfl rfl) (fun w' a ha => Wk.x_fieldAddr (ha.ev rfl) (TF.fld_api_Flat_1 _ _)) rfl ?_
            intro _ hd; replace hD := hD.trans hd; replace hW := cm.held _ _ hW hd; clear hd
            obtain ⟨A15, n15, c15, h47, H⟩ := H
            refine Wk.an_v (i := 22) cm rfl (by kernel_rfl) hW rfl rfl (Wk.wanted_some rfl rfl rfl) (fun w' hw a ha => Wk.x_load (ha.ev rfl) (Wk.i_load1 TF.agg_sl_int ((hw.cell _).trans h47))) rfl ?_
            intro _ hd hW; replace hD := hD.trans hd; clear hd
            refine Wk.an_p (i := 23) cm rfl (by kernel_rfl) rfl rfl (Wk.wanted_some rfl rfl rfl) (fun w' a ha => Wk.x_move (ha.ev rfl)) rfl ?_
            intro _ hd; replace hD := hD.trans hd; replace hW := cm.held _ _ hW hd; clear hd
            refine Wk.an_p (i := 24) cm rfl (by kernel_rfl) rfl rfl (Wk.wanted_some rfl rfl rfl) (fun w' a ha => Wk.x_nilCheck_ptr (ha.ev rfl)) rfl ?_
            intro _ hd; replace hD := hD.trans hd; replace hW := cm.held _ _ hW hd; clear hd
            refine Wk.an_p (i := 25) cm rfl (by kernel_rfl) rfl rfl (Wk.wanted_some rfl rfl rfl) (fun w' a ha => Wk.x_fieldAddr (ha.ev rfl) (TF.fld_arbiterlaw13_Hold_3 _ _)) rfl ?_
            intro _ hd; replace hD := hD.trans hd; replace hW := cm.held _ _ hW hd; clear hd
            obtain ⟨A16, n16, c16, h48, H⟩ := H
            refine Wk.an_v (i := 26) cm rfl (by kernel_rfl) hW rfl rfl (Wk.wanted_some rfl rfl rfl) (fun w' hw a ha => Wk.x_load (ha.ev rfl) (Wk.i_load1 TF.agg_sl_sl_api_Flat ((hw.cell _).trans h48))) rfl ?_
            intro _ hd hW; replace hD := hD.trans hd; clear hd
            refine Wk.an_p (i := 27) cm rfl (by kernel_rfl) rfl rfl (Wk.wanted_some rfl rfl rfl) (fun w' a ha => Wk.x_move (ha.ev rfl)) rfl ?_
            intro _ hd; replace hD := hD.trans hd; replace hW := cm.held _ _ hW hd; clear hd
            obtain ⟨h49, h50, a12, e12, H⟩ := H
            refine Wk.an_p (i := 28) cm rfl (by kernel_rfl) rfl rfl (Wk.wanted_some rfl rfl rfl) (fun w' a ha => Wk.x_indexAddr (ha.ev rfl) (ha.ev rfl) (Wk.i_index TF.elem_sl_sl_api_Flat TF.size_sl_api_Flat e12 h49 h50)) rfl ?_
            intro _ hd; replace hD := hD.trans hd; replace hW := cm.held _ _ hW hd; clear hd
            obtain ⟨A17, n17, c17, h51, H⟩ := H
            refine Wk.an_v (i := 29) cm rfl (by kernel_rfl) hW rfl rfl (Wk.wanted_some rfl rfl rfl) (fun w' hw a ha => Wk.x_load (ha.ev rfl) (Wk.i_load1 TF.agg_sl_api_Flat ((hw.cell _).trans h51))) rfl ?_
            intro _ hd hW; replace hD := hD.trans hd; clear hd
            refine Wk.an_p (i := 30) cm rfl (by kernel_rfl) rfl rfl (Wk.wanted_some rfl rfl rfl) (fun w' a ha => Wk.x_move (ha.ev rfl)) rfl ?_
            intro _ hd; replace hD := hD.trans hd; replace hW := cm.held _ _ hW hd; clear hd
            obtain ⟨h52, h53, a13, e13, H⟩ := H
            refine Wk.an_p (i := 31) cm rfl (by kernel_rfl) rfl rfl (Wk.wanted_some rfl rfl rfl) (fun w' a ha => Wk.x_indexAddr (ha.ev rfl) (ha.ev rfl) (Wk.i_index TF.elem_sl_api_Flat TF.size_api_Flat e13 h52 h53)) rfl ?_
            intro _ hd; replace hD := hD.trans hd; replace hW := cm.held _ _ hW hd; clear hd
            refine Wk.an_p (i := 32) cm rfl (by kernel_rfl) rfl rfl (Wk.wanted_some rfl rfl rfl) (fun w' a ha => Wk.x_fieldAddr (ha.ev rfl) (TF.fld_api_Flat_1 _ _)) rfl ?_
            intro _ hd; replace hD := hD.trans hd; replace hW := cm.held _ _ hW hd; clear hd
            obtain ⟨A18, n18, c18, h54, H⟩ := H
            refine Wk.an_v (i := 33) cm rfl (by kernel_rfl) hW rfl rfl (Wk.wanted_some rfl rfl rfl) (fun w' hw a ha => Wk.x_load (ha.ev rfl) (Wk.i_load1 TF.agg_sl_int ((hw.cell _).trans h54))) rfl ?_
            intro _ hd hW; replace hD := hD.trans hd; clear hd
            refine Wk.an_ready (rs := [34]) (by kernel_rfl) rfl (Wk.aw_cons ?_ Wk.aw_nil)
            replace H := H _ hD
            refine Wk.aw_c rfl rfl rfl (Wk.wanted_some rfl rfl rfl) (fun a ha => Wk.x_call0 (ha.ev rfl) (ha.evs rfl) FF.callable_arbiterlaw13_sameInts) rfl false (by kernel_rfl) H ?_
            rintro _ w13 ⟨b5, rfl, H⟩ _ hD
            refine ⟨fun h => (by cases h), ?_⟩
            refine Wk.an_p (i := 35) cm rfl (by kernel_rfl) rfl rfl (Wk.wanted_some rfl rfl rfl) (fun w' a ha => Wk.x_unOp (ha.ev rfl) Wk.u_not) rfl ?_
            intro _ hd; replace hD := hD.trans hd; clear hd
            refine Wk.an_p (i := 36) cm rfl (by kernel_rfl) rfl rfl (Wk.wanted_none rfl) (fun w' a ha => Wk.x_pick_f (ha.ev rfl) (ha.ev rfl)) rfl ?_
            intro _ hd; replace hD := hD.trans hd; clear hd
            refine Wk.an_end (by kernel_rfl) hD ?_
            intro w16 hD; replace H := H _ hD; clear hD cm
            exact Wk.nx_to fun a ha => ⟨(!b5), ha.weaken (Wk.sub.cons rfl (Wk.sub.cons rfl (Wk.sub.cons rfl (Wk.sub.cons rfl (Wk.sub.cons rfl (Wk.sub.cons rfl (Wk.sub.nil))))))), H⟩
      · replace H := H.2 hb
        refine Wk.cw_exit ?_
        refine Wk.nx_exit_then ?_
        refine Wk.nx_exit_then ?_
        refine Wk.nx_exit_hit ?_
        refine Wk.nx_code (Wk.cw_sub (e' := [(0, (.pointer (some p1))), (6, (.int .i64 x4)), (7, (.int .i64 (n10 : Int))), (8, (.slice A12 n12 c12))]) (Wk.sub.cons rfl (Wk.sub.cons rfl (Wk.sub.cons rfl (Wk.sub.cons rfl (Wk.sub.nil))))) ?_)
        refine Wk.cw_join_still (fun a => ∃ b6 : Bool, Wk.Ok 240 [(0, (.pointer (some p1))), (6, (.int .i64 x4)), (147, (.bool b6))] a ∧ vc_arbiterlaw13_Hold_kept_J3 K w10 k3 I2 x4 b6) ?_ ?_
        · rintro a ⟨b6, ha, H⟩
          unfold vc_arbiterlaw13_Hold_kept_J3 at H
          refine (?_ : Wk.CW _ _ _ 240 [(0, (.pointer (some p1))), (6, (.int .i64 x4)), (147, (.bool b6))] _) a ha
          refine Wk.cw_cond rfl (fun hb => ?_) (fun hb => ?_)
          · replace H := H.1 hb
            refine Wk.cw_seq ?_
            refine Wk.cw_region ?_
            refine Wk.sl_v rfl rfl (Wk.wanted_none rfl) (fun a ha => Wk.x_assign (ha.ev rfl)) ?_
            refine Wk.sl_nil ?_
            refine Wk.nx_code (Wk.cw_sub (e' := [(2, (.bool false))]) (Wk.sub.cons rfl (Wk.sub.nil)) ?_)
            refine Wk.cw_ret ?_
            refine Wk.nx_ret_block ?_
            refine Wk.nx_ret_then ?_
            refine Wk.nx_ret_then ?_
            refine Wk.nx_ret_block ?_
            refine Wk.nx_ret_then ?_
            exact Wk.nx_body_ret (Wk.res1 rfl rfl) ⟨_, rfl, _, rfl, H⟩
          · replace H := H.2 hb
            refine Wk.cw_skip ?_
            refine Wk.nx_block ?_
            refine Wk.nx_code (Wk.cw_sub (e' := [(0, (.pointer (some p1))), (6, (.int .i64 x4))]) (Wk.sub.cons rfl (Wk.sub.cons rfl (Wk.sub.nil))) ?_)
            refine Wk.cw_region ?_
            refine Wk.sl_v rfl rfl (Wk.wanted_none rfl) (fun a ha => Wk.x_move (ha.ev rfl)) ?_
            refine Wk.sl_v rfl rfl (Wk.wanted_none rfl) (fun a ha => Wk.x_binOp (ha.ev rfl) (ha.ev rfl) Wk.o_add) ?_
            refine Wk.sl_v rfl rfl (Wk.wanted_none rfl) (fun a ha => Wk.x_assign (ha.ev rfl)) ?_
            refine Wk.sl_nil ?_
            obtain ⟨k6, hk, H⟩ := H
            exact Wk.nx_to fun a ha => ⟨k6, hk, IntKind.wrap .i64 (x4 + 1), ha.weaken (Wk.sub.cons rfl (Wk.sub.cons rfl (Wk.sub.nil))), H⟩
        · refine Wk.cw_region ?_
          refine Wk.sl_v rfl rfl (Wk.wanted_none rfl) (fun a ha => Wk.x_move (ha.ev rfl)) ?_
          refine Wk.sl_v rfl rfl (Wk.wanted_none rfl) (fun a ha => Wk.x_move (ha.ev rfl)) ?_
          obtain ⟨h57, h58, a14, e14, H⟩ := H
          refine Wk.sl_v rfl rfl (Wk.wanted_none rfl) (fun a ha => Wk.x_indexAddr (ha.ev rfl) (ha.ev rfl) (Wk.i_index TF.elem_sl_api_Flat TF.size_api_Flat e14 h57 h58)) ?_
          refine Wk.sl_v rfl rfl (Wk.wanted_none rfl) (fun a ha => Wk.x_fieldAddr (ha.ev rfl) (TF.fld_api_Flat_0 _ _)) ?_
          obtain ⟨x8, h59, H⟩ := H
          refine Wk.sl_v rfl rfl (Wk.wanted_none rfl) (fun a ha => Wk.x_load (ha.ev rfl) (Wk.i_load1 TF.agg_int h59)) ?_
          refine Wk.sl_v rfl rfl (Wk.wanted_none rfl) (fun a ha => Wk.x_binOp (ha.ev rfl) (ha.ev rfl) Wk.o_neq) ?_
          rcases Classical.em (x8 ≠ 73) with hb | hb
          · replace H := H.1 hb
            refine Wk.sl_v rfl rfl (Wk.wanted_none rfl) (fun a ha => Wk.o_t (Wk.x_move (ha.ev rfl)) hb) ?_
            refine Wk.sl_skip rfl rfl (Wk.wanted_not rfl rfl rfl rfl) ?_
            refine Wk.sl_skip rfl rfl (Wk.wanted_not rfl rfl rfl rfl) ?_
            refine Wk.sl_skip rfl rfl (Wk.wanted_not rfl rfl rfl rfl) ?_
            refine Wk.sl_skip rfl rfl (Wk.wanted_not rfl rfl rfl rfl) ?_
            refine Wk.sl_skip rfl rfl (Wk.wanted_not rfl rfl rfl rfl) ?_
            refine Wk.sl_skip rfl rfl (Wk.wanted_not rfl rfl rfl rfl) ?_
            refine Wk.sl_skip rfl rfl (Wk.wanted_not rfl rfl rfl rfl) ?_
            refine Wk.sl_v rfl rfl (Wk.wanted_none rfl) (fun a ha => Wk.x_pick_t (ha.ev rfl) (ha.ev rfl)) ?_
            refine Wk.sl_nil ?_
            exact Wk.nx_to fun a ha => ⟨⟨true, ha.weaken (Wk.sub.cons rfl (Wk.sub.cons rfl (Wk.sub.cons rfl (Wk.sub.nil)))), H⟩, rfl⟩
          · replace H := H.2 hb
            refine Wk.sl_v rfl rfl (Wk.wanted_none rfl) (fun a ha => Wk.o_f (Wk.x_move (ha.ev rfl)) hb) ?_
            refine Wk.sl_v rfl rfl (Wk.wanted_some rfl rfl rfl) (fun a ha => Wk.x_move (ha.ev rfl)) ?_
            refine Wk.sl_v rfl rfl (Wk.wanted_some rfl rfl rfl) (fun a ha => Wk.x_move (ha.ev rfl)) ?_
            refine Wk.sl_v rfl rfl (Wk.wanted_some rfl rfl rfl) (fun a ha => Wk.x_binOp (ha.ev rfl) (ha.ev rfl) Wk.o_add) ?_
            obtain ⟨h60, h61, a15, e15, H⟩ := H
            refine Wk.sl_v rfl rfl (Wk.wanted_some rfl rfl rfl) (fun a ha => Wk.x_indexAddr (ha.ev rfl) (ha.ev rfl) (Wk.i_index TF.elem_sl_api_Flat TF.size_api_Flat e15 h60 h61)) ?_
            refine Wk.sl_v rfl rfl (Wk.wanted_some rfl rfl rfl) (fun a ha => Wk.x_fieldAddr (ha.ev rfl) (TF.fld_api_Flat_0 _ _)) ?_
            obtain ⟨x9, h62, H⟩ := H
            refine Wk.sl_v rfl rfl (Wk.wanted_some rfl rfl rfl) (fun a ha => Wk.x_load (ha.ev rfl) (Wk.i_load1 TF.agg_int h62)) ?_
            refine Wk.sl_v rfl rfl (Wk.wanted_some rfl rfl rfl) (fun a ha => Wk.x_binOp (ha.ev rfl) (ha.ev rfl) Wk.o_neq) ?_
            refine Wk.sl_v rfl rfl (Wk.wanted_none rfl) (fun a ha => Wk.x_pick_f (ha.ev rfl) (ha.ev rfl)) ?_
            refine Wk.sl_nil ?_
            exact Wk.nx_to fun a ha => ⟨⟨(decide (x9 ≠ 74)), ha.weaken (Wk.sub.cons rfl (Wk.sub.cons rfl (Wk.sub.cons rfl (Wk.sub.nil)))), H⟩, rfl⟩
    · replace H := H.2 hb
      refine Wk.cw_exit ?_
      refine Wk.nx_exit_then ?_
      refine Wk.nx_exit_then ?_
      refine Wk.nx_exit_hit ?_
      refine Wk.nx_code (Wk.cw_sub (e' := [(0, (.pointer (some p1)))]) (Wk.sub.cons rfl (Wk.sub.nil)) ?_)
      refine Wk.cw_seq ?_
      refine Wk.cw_seq ?_
      refine Wk.cw_region ?_
      refine Wk.sl_v rfl rfl (Wk.wanted_none rfl) (fun a ha => Wk.x_assign (ha.ev rfl)) ?_
      refine Wk.sl_nil ?_
      refine Wk.nx_code (Wk.cw_sub (e' := [(0, (.pointer (some p1))), (10, (.int .i64 0))]) (Wk.sub.cons rfl (Wk.sub.cons rfl (Wk.sub.nil))) ?_)
      refine Wk.cw_block ?_
      obtain ⟨I4, ⟨k7, hi⟩, H⟩ := H
      refine Wk.cw_loop (fun k7 a w' => ∃ x10 : Int, Wk.Ok 240 [(0, (.pointer (some p1))), (10, (.int .i64 x10))] a ∧ I4 k7 x10 w') (fun a ha => ⟨k7, 0, ha.weaken (Wk.sub.cons rfl (Wk.sub.cons rfl (Wk.sub.nil))), hi⟩) ?_
      rintro k7 a w17 ⟨x10, ha, hI⟩
      replace H := H k7 x10 w17 hI
      refine (?_ : Wk.CW _ _ _ 240 [(0, (.pointer (some p1))), (10, (.int .i64 x10))] _) a ha
      refine Wk.cw_seq ?_
      refine Wk.cw_seq ?_
      refine Wk.cw_region ?_
      refine Wk.sl_v rfl rfl (Wk.wanted_none rfl) (fun a ha => Wk.x_move (ha.ev rfl)) ?_
      refine Wk.sl_v rfl rfl (Wk.wanted_none rfl) (fun a ha => Wk.x_move (ha.ev rfl)) ?_
      refine Wk.sl_v rfl rfl (Wk.wanted_none rfl) (fun a ha => Wk.x_nilCheck_ptr (ha.ev rfl)) ?_
      refine Wk.sl_v rfl rfl (Wk.wanted_none rfl) (fun a ha => Wk.x_fieldAddr (ha.ev rfl) (TF.fld_arbiterlaw13_Hold_4 _ _)) ?_
      obtain ⟨A19, n19, c19, h63, H⟩ := H
      refine Wk.sl_v rfl rfl (Wk.wanted_none rfl) (fun a ha => Wk.x_load (ha.ev rfl) (Wk.i_load1 TF.agg_sl_sl_api_Link h63)) ?_
      refine Wk.sl_v rfl rfl (Wk.wanted_none rfl) (fun a ha => Wk.x_builtin (ha.evs rfl) (fun _ => Wk.l_slice TF.isslice_sl_sl_api_Link)) ?_
      refine Wk.sl_v rfl rfl (Wk.wanted_none rfl) (fun a ha => Wk.x_binOp (ha.ev rfl) (ha.ev rfl) Wk.o_lss) ?_
      refine Wk.sl_nil ?_
      refine Wk.nx_code (Wk.cw_sub (e' := [(0, (.pointer (some p1))), (10, (.int .i64 x10)), (154, (.bool (decide (x10 < (n19 : Int)))))]) (Wk.sub.cons rfl (Wk.sub.cons rfl (Wk.sub.cons rfl (Wk.sub.nil)))) ?_)
      refine Wk.cw_cond_p rfl (fun hb => ?_) (fun hb => ?_)
      · replace H := H.1 hb
        refine Wk.cw_skip ?_
        refine Wk.nx_code (Wk.cw_sub (e' := [(0, (.pointer (some p1))), (10, (.int .i64 x10))]) (Wk.sub.cons rfl (Wk.sub.cons rfl (Wk.sub.nil))) ?_)
        refine Wk.cw_seq ?_
        refine Wk.cw_block ?_
        refine Wk.cw_seq ?_
        refine Wk.cw_region ?_
        refine Wk.sl_v rfl rfl (Wk.wanted_none rfl) (fun a ha => Wk.x_move (ha.ev rfl)) ?_
        refine Wk.sl_v rfl rfl (Wk.wanted_none rfl) (fun a ha => Wk.x_nilCheck_ptr (ha.ev rfl)) ?_
        refine Wk.sl_v rfl rfl (Wk.wanted_none rfl) (fun a ha => Wk.x_fieldAddr (ha.ev rfl) (TF.fld_arbiterlaw13_Hold_5 _ _)) ?_
        obtain ⟨A20, n20, c20, h64, H⟩ := H
        refine Wk.sl_v rfl rfl (Wk.wanted_none rfl) (fun a ha => Wk.x_load (ha.ev rfl) (Wk.i_load1 TF.agg_sl_sl_api_Link h64)) ?_
        refine Wk.sl_v rfl rfl (Wk.wanted_none rfl) (fun a ha => Wk.x_move (ha.ev rfl)) ?_
        obtain ⟨h65, h66, a16, e16, H⟩ := H
        refine Wk.sl_v rfl rfl (Wk.wanted_none rfl) (fun a ha => Wk.x_indexAddr (ha.ev rfl) (ha.ev rfl) (Wk.i_index TF.elem_sl_sl_api_Link TF.size_sl_api_Link e16 h65 h66)) ?_
        obtain ⟨A21, n21, c21, h67, H⟩ := H
        refine Wk.sl_v rfl rfl (Wk.wanted_none rfl) (fun a ha => Wk.x_load (ha.ev rfl) (Wk.i_load1 TF.agg_sl_api_Link h67)) ?_
        refine Wk.sl_v rfl rfl (Wk.wanted_none rfl) (fun a ha => Wk.x_builtin (ha.evs rfl) (fun _ => Wk.l_slice TF.isslice_sl_api_Link)) ?_
        refine Wk.sl_v rfl rfl (Wk.wanted_none rfl) (fun a ha => Wk.x_assign (ha.ev rfl)) ?_
        refine Wk.sl_nil ?_
        refine Wk.nx_code (Wk.cw_sub (e' := [(0, (.pointer (some p1))), (10, (.int .i64 x10)), (11, (.int .i64 (n21 : Int)))]) (Wk.sub.cons rfl (Wk.sub.cons rfl (Wk.sub.cons rfl (Wk.sub.nil)))) ?_)
        refine Wk.cw_seq ?_
        refine Wk.cw_region ?_
        refine Wk.sl_v rfl rfl (Wk.wanted_none rfl) (fun a ha => Wk.x_move (ha.ev rfl)) ?_
        refine Wk.sl_v rfl rfl (Wk.wanted_none rfl) (fun a ha => Wk.x_nilCheck_ptr (ha.ev rfl)) ?_
        refine Wk.sl_v rfl rfl (Wk.wanted_none rfl) (fun a ha => Wk.x_fieldAddr (ha.ev rfl) (TF.fld_arbiterlaw13_Hold_4 _ _)) ?_
        obtain ⟨A22, n22, c22, h68, H⟩ := H
        refine Wk.sl_v rfl rfl (Wk.wanted_none rfl) (fun a ha => Wk.x_load (ha.ev rfl) (Wk.i_load1 TF.agg_sl_sl_api_Link h68)) ?_
        refine Wk.sl_v rfl rfl (Wk.wanted_none rfl) (fun a ha => Wk.x_move (ha.ev rfl)) ?_
        obtain ⟨h69, h70, a17, e17, H⟩ := H
        refine Wk.sl_v rfl rfl (Wk.wanted_none rfl) (fun a ha => Wk.x_indexAddr (ha.ev rfl) (ha.ev rfl) (Wk.i_index TF.elem_sl_sl_api_Link TF.size_sl_api_Link e17 h69 h70)) ?_
        obtain ⟨A23, n23, c23, h71, H⟩ := H
        refine Wk.sl_v rfl rfl (Wk.wanted_none rfl) (fun a ha => Wk.x_load (ha.ev rfl) (Wk.i_load1 TF.agg_sl_api_Link h71)) ?_
        refine Wk.sl_v rfl rfl (Wk.wanted_none rfl) (fun a ha => Wk.x_assign (ha.ev rfl)) ?_
        refine Wk.sl_nil ?_
        refine Wk.nx_code (Wk.cw_sub (e' := [(0, (.pointer (some p1))), (10, (.int .i64 x10)), (11, (.int .i64 (n21 : Int))), (12, (.slice A23 n23 c23))]) (Wk.sub.cons rfl (Wk.sub.cons rfl (Wk.sub.cons rfl (Wk.sub.cons rfl (Wk.sub.nil))))) ?_)
        refine Wk.cw_seq ?_
        refine Wk.cw_seq ?_
        refine Wk.cw_region ?_
        refine Wk.sl_v rfl rfl (Wk.wanted_none rfl) (fun a ha => Wk.x_assign (ha.ev rfl)) ?_
        refine Wk.sl_nil ?_
        refine Wk.nx_code (Wk.cw_sub (e' := [(0, (.pointer (some p1))), (10, (.int .i64 x10)), (11, (.int .i64 (n21 : Int))), (12, (.slice A23 n23 c23)), (13, (.int .i64 0))]) (Wk.sub.cons rfl (Wk.sub.cons rfl (Wk.sub.cons rfl (Wk.sub.cons rfl (Wk.sub.cons rfl (Wk.sub.nil)))))) ?_)
        refine Wk.cw_block ?_
        obtain ⟨I5, ⟨k8, hi⟩, H⟩ := H
        refine Wk.cw_loop (fun k8 a w' => ∃ x11 : Int, Wk.Ok 240 [(0, (.pointer (some p1))), (10, (.int .i64 x10)), (11, (.int .i64 (n21 : Int))), (12, (.slice A23 n23 c23)), (13, (.int .i64 x11))] a ∧ I5 k8 x11 w') (fun a ha => ⟨k8, 0, ha.weaken (Wk.sub.cons rfl (Wk.sub.cons rfl (Wk.sub.cons rfl (Wk.sub.cons rfl (Wk.sub.cons rfl (Wk.sub.nil)))))), hi⟩) ?_
        rintro k8 a w18 ⟨x11, ha, hI⟩
        replace H := H k8 x11 w18 hI
        refine (?_ : Wk.CW _ _ _ 240 [(0, (.pointer (some p1))), (10, (.int .i64 x10)), (11, (.int .i64 (n21 : Int))), (12, (.slice A23 n23 c23)), (13, (.int .i64 x11))] _) a ha
        refine Wk.cw_seq ?_
        refine Wk.cw_seq ?_
        refine Wk.cw_region ?_
        refine Wk.sl_v rfl rfl (Wk.wanted_none rfl) (fun a ha => Wk.x_move (ha.ev rfl)) ?_
        refine Wk.sl_v rfl rfl (Wk.wanted_none rfl) (fun a ha => Wk.x_move (ha.ev rfl)) ?_
        refine Wk.sl_v rfl rfl (Wk.wanted_none rfl) (fun a ha => Wk.x_binOp (ha.ev rfl) (ha.ev rfl) Wk.o_lss) ?_
        refine Wk.sl_nil ?_
        refine Wk.nx_code (Wk.cw_sub (e' := [(0, (.pointer (some p1))), (10, (.int .i64 x10)), (11, (.int .i64 (n21 : Int))), (12, (.slice A23 n23 c23)), (13, (.int .i64 x11)), (174, (.bool (decide (x11 < (n21 : Int)))))]) (Wk.sub.cons rfl (Wk.sub.cons rfl (Wk.sub.cons rfl (Wk.sub.cons rfl (Wk.sub.cons rfl (Wk.sub.cons rfl (Wk.sub.nil))))))) ?_)
        refine Wk.cw_cond_p rfl (fun hb => ?_) (fun hb => ?_)
        · replace H := H.1 hb
          refine Wk.cw_skip ?_
          refine Wk.nx_code (Wk.cw_sub (e' := [(0, (.pointer (some p1))), (10, (.int .i64 x10)), (11, (.int .i64 (n21 : Int))), (12, (.slice A23 n23 c23)), (13, (.int .i64 x11))]) (Wk.sub.cons rfl (Wk.sub.cons rfl (Wk.sub.cons rfl (Wk.sub.cons rfl (Wk.sub.cons rfl (Wk.sub.nil)))))) ?_)
          refine Wk.cw_seq ?_
          refine Wk.cw_block ?_
          refine Wk.cw_seq ?_
          refine Wk.cw_region ?_
          refine Wk.sl_v rfl rfl (Wk.wanted_none rfl) (fun a ha => Wk.x_move (ha.ev rfl)) ?_
          refine Wk.sl_v rfl rfl (Wk.wanted_none rfl) (fun a ha => Wk.x_move (ha.ev rfl)) ?_
          obtain ⟨h72, h73, a18, e18, H⟩ := H
          refine Wk.sl_v rfl rfl (Wk.wanted_none rfl) (fun a ha => Wk.x_indexAddr (ha.ev rfl) (ha.ev rfl) (Wk.i_index TF.elem_sl_api_Link TF.size_api_Link e18 h72 h73)) ?_
          obtain ⟨x12, x13, x14, x15, A24, n24, c24, h74, H⟩ := H
          refine Wk.sl_v rfl rfl (Wk.wanted_none rfl) (fun a ha => Wk.x_load (ha.ev rfl) (Wk.i_loadN (vs := [(.int .i64 x12), (.int .i64 x13), (.int .i64 x14), (.int .i64 x15), (.slice A24 n24 c24)]) TF.agg_api_Link TF.size_api_Link h74)) ?_
          refine Wk.sl_new (f := (fun p => .pointer (some p))) rfl rfl (Wk.wanted_none rfl) (fun a ha => Wk.x_alloc (Wk.i_alloc TF.zero_api_Link)) ?_
          intro p2 w19 hN; replace H := H _ _ hN
          obtain ⟨h76, H⟩ := H
          refine Wk.sl_un rfl (Wk.wanted_none rfl) (fun a ha => Wk.x_store (ha.ev rfl) (ha.ev rfl) (Wk.i_storeN TF.size_api_Link (by simp [Value.oneCell']) h76)) ?_
          intro w20 hw; replace H := H _ hw; clear hw
          refine Wk.sl_nil ?_
          refine Wk.nx_code (Wk.cw_sub (e' := [(0, (.pointer (some p1))), (10, (.int .i64 x10)), (11, (.int .i64 (n21 : Int))), (12, (.slice A23 n23 c23)), (13, (.int .i64 x11)), (14, (.pointer (some p2)))]) (Wk.sub.cons rfl (Wk.sub.cons rfl (Wk.sub.cons rfl (Wk.sub.cons rfl (Wk.sub.cons rfl (Wk.sub.cons rfl (Wk.sub.nil))))))) ?_)
          refine Wk.cw_seq ?_
          refine Wk.cw_region ?_
          refine Wk.sl_v rfl rfl (Wk.wanted_none rfl) (fun a ha => Wk.x_move (ha.ev rfl)) ?_
          refine Wk.sl_v rfl rfl (Wk.wanted_none rfl) (fun a ha => Wk.x_nilCheck_ptr (ha.ev rfl)) ?_
          refine Wk.sl_v rfl rfl (Wk.wanted_none rfl) (fun a ha => Wk.x_fieldAddr (ha.ev rfl) (TF.fld_arbiterlaw13_Hold_5 _ _)) ?_
          obtain ⟨A25, n25, c25, h77, H⟩ := H
          refine Wk.sl_v rfl rfl (Wk.wanted_none rfl) (fun a ha => Wk.x_load (ha.ev rfl) (Wk.i_load1 TF.agg_sl_sl_api_Link h77)) ?_
          refine Wk.sl_v rfl rfl (Wk.wanted_none rfl) (fun a ha => Wk.x_move (ha.ev rfl)) ?_
          obtain ⟨h78, h79, a19, e19, H⟩ := H
          refine Wk.sl_v rfl rfl (Wk.wanted_none rfl) (fun a ha => Wk.x_indexAddr (ha.ev rfl) (ha.ev rfl) (Wk.i_index TF.elem_sl_sl_api_Link TF.size_sl_api_Link e19 h78 h79)) ?_
          obtain ⟨A26, n26, c26, h80, H⟩ := H
          refine Wk.sl_v rfl rfl (Wk.wanted_none rfl) (fun a ha => Wk.x_load (ha.ev rfl) (Wk.i_load1 TF.agg_sl_api_Link h80)) ?_
          refine Wk.sl_v rfl rfl (Wk.wanted_none rfl) (fun a ha => Wk.x_move (ha.ev rfl)) ?_
          obtain ⟨h81, h82, a20, e20, H⟩ := H
          refine Wk.sl_v rfl rfl (Wk.wanted_none rfl) (fun a ha => Wk.x_indexAddr (ha.ev rfl) (ha.ev rfl) (Wk.i_index TF.elem_sl_api_Link TF.size_api_Link e20 h81 h82)) ?_
          obtain ⟨x16, x17, x18, x19, A27, n27, c27, h83, H⟩ := H
          refine Wk.sl_v rfl rfl (Wk.wanted_none rfl) (fun a ha => Wk.x_load (ha.ev rfl) (Wk.i_loadN (vs := [(.int .i64 x16), (.int .i64 x17), (.int .i64 x18), (.int .i64 x19), (.slice A27 n27 c27)]) TF.agg_api_Link TF.size_api_Link h83)) ?_
          refine Wk.sl_new (f := (fun p => .pointer (some p))) rfl rfl (Wk.wanted_none rfl) (fun a ha => Wk.x_alloc (Wk.i_alloc TF.zero_api_Link)) ?_
          intro p3 w21 hN; replace H := H _ _ hN
          obtain ⟨h85, H⟩ := H
          refine Wk.sl_un rfl (Wk.wanted_none rfl) (fun a ha => Wk.x_store (ha.ev rfl) (ha.ev rfl) (Wk.i_storeN TF.size_api_Link (by simp [Value.oneCell']) h85)) ?_
          intro w22 hw; replace H := H _ hw; clear hw
          refine Wk.sl_nil ?_
          refine Wk.nx_code (Wk.cw_sub (e' := [(0, (.pointer (some p1))), (10, (.int .i64 x10)), (11, (.int .i64 (n21 : Int))), (12, (.slice A23 n23 c23)), (13, (.int .i64 x11)), (14, (.pointer (some p2))), (15, (.pointer (some p3)))]) (Wk.sub.cons rfl (Wk.sub.cons rfl (Wk.sub.cons rfl (Wk.sub.cons rfl (Wk.sub.cons rfl (Wk.sub.cons rfl (Wk.sub.cons rfl (Wk.sub.nil)))))))) ?_)
          refine Wk.cw_join (fun a w => ∃ b7 : Bool, Wk.Ok 240 [(0, (.pointer (some p1))), (10, (.int .i64 x10)), (11, (.int .i64 (n21 : Int))), (12, (.slice A23 n23 c23)), (13, (.int .i64 x11)), (224, (.bool b7))] a ∧ vc_arbiterlaw13_Hold_kept_J4 K k8 I5 x11 b7 w) ?_ ?_
          · rintro a w23 ⟨b7, ha, H⟩
            unfold vc_arbiterlaw13_Hold_kept_J4 at H
            refine (?_ : Wk.CW _ _ _ 240 [(0, (.pointer (some p1))), (10, (.int .i64 x10)), (11, (.int .i64 (n21 : Int))), (12, (.slice A23 n23 c23)), (13, (.int .i64 x11)), (224, (.bool b7))] _) a ha
            refine Wk.cw_cond rfl (fun hb => ?_) (fun hb => ?_)
            · replace H := H.1 hb
              refine Wk.cw_seq ?_
              refine Wk.cw_region ?_
              refine Wk.sl_v rfl rfl (Wk.wanted_none rfl) (fun a ha => Wk.x_assign (ha.ev rfl)) ?_
              refine Wk.sl_nil ?_
              refine Wk.nx_code (Wk.cw_sub (e' := [(2, (.bool false))]) (Wk.sub.cons rfl (Wk.sub.nil)) ?_)
              refine Wk.cw_ret ?_
              refine Wk.nx_ret_block ?_
              refine Wk.nx_ret_then ?_
              refine Wk.nx_ret_then ?_
              refine Wk.nx_ret_block ?_
              refine Wk.nx_ret_then ?_
              refine Wk.nx_ret_block ?_
              refine Wk.nx_ret_then ?_
              refine Wk.nx_ret_then ?_
              refine Wk.nx_ret_block ?_
              refine Wk.nx_ret_then ?_
              exact Wk.nx_body_ret (Wk.res1 rfl rfl) ⟨_, rfl, _, rfl, H⟩
            · replace H := H.2 hb
              refine Wk.cw_skip ?_
              refine Wk.nx_block ?_
              refine Wk.nx_code (Wk.cw_sub (e' := [(0, (.pointer (some p1))), (10, (.int .i64 x10)), (11, (.int .i64 (n21 : Int))), (12, (.slice A23 n23 c23)), (13, (.int .i64 x11))]) (Wk.sub.cons rfl (Wk.sub.cons rfl (Wk.sub.cons rfl (Wk.sub.cons rfl (Wk.sub.cons rfl (Wk.sub.nil)))))) ?_)
              refine Wk.cw_region ?_
              refine Wk.sl_v rfl rfl (Wk.wanted_none rfl) (fun a ha => Wk.x_move (ha.ev rfl)) ?_
              refine Wk.sl_v rfl rfl (Wk.wanted_none rfl) (fun a ha => Wk.x_binOp (ha.ev rfl) (ha.ev rfl) Wk.o_add) ?_
              refine Wk.sl_v rfl rfl (Wk.wanted_none rfl) (fun a ha => Wk.x_assign (ha.ev rfl)) ?_
              refine Wk.sl_nil ?_
              obtain ⟨k9, hk, H⟩ := H
              exact Wk.nx_to fun a ha => ⟨k9, hk, IntKind.wrap .i64 (x11 + 1), ha.weaken (Wk.sub.cons rfl (Wk.sub.cons rfl (Wk.sub.cons rfl (Wk.sub.cons rfl (Wk.sub.cons rfl (Wk.sub.nil)))))), H⟩
          · refine Wk.cw_region ?_
            refine Wk.sl_v rfl rfl (Wk.wanted_none rfl) (fun a ha => Wk.x_fieldAddr (ha.ev rfl) (TF.fld_api_Link_0 _ _)) ?_
            obtain ⟨x20, h86, H⟩ := H
            refine Wk.sl_v rfl rfl (Wk.wanted_none rfl) (fun a ha => Wk.x_load (ha.ev rfl) (Wk.i_load1 TF.agg_int h86)) ?_
            refine Wk.sl_v rfl rfl (Wk.wanted_none rfl) (fun a ha => Wk.x_fieldAddr (ha.ev rfl) (TF.fld_api_Link_0 _ _)) ?_
            obtain ⟨x21, h87, H⟩ := H
            refine Wk.sl_v rfl rfl (Wk.wanted_none rfl) (fun a ha => Wk.x_load (ha.ev rfl) (Wk.i_load1 TF.agg_int h87)) ?_
            refine Wk.sl_v rfl rfl (Wk.wanted_none rfl) (fun a ha => Wk.x_binOp (ha.ev rfl) (ha.ev rfl) Wk.o_neq) ?_
            rcases Classical.em (x20 ≠ x21) with hb | hb
            · replace H := H.1 hb
              refine Wk.sl_v rfl rfl (Wk.wanted_none rfl) (fun a ha => Wk.o_t (Wk.x_move (ha.ev rfl)) hb) ?_
              refine Wk.sl_skip rfl rfl (Wk.wanted_not rfl rfl rfl rfl) ?_
              refine Wk.sl_skip rfl rfl (Wk.wanted_not rfl rfl rfl rfl) ?_
              refine Wk.sl_skip rfl rfl (Wk.wanted_not rfl rfl rfl rfl) ?_
              refine Wk.sl_skip rfl rfl (Wk.wanted_not rfl rfl rfl rfl) ?_
              refine Wk.sl_skip rfl rfl (Wk.wanted_not rfl rfl rfl rfl) ?_
              refine Wk.sl_v rfl rfl (Wk.wanted_none rfl) (fun a ha => Wk.x_pick_t (ha.ev rfl) (ha.ev rfl)) ?_
              refine Wk.sl_v rfl rfl (Wk.wanted_none rfl) (fun a ha => Wk.x_move (ha.ev rfl)) ?_
              refine Wk.sl_skip rfl rfl (Wk.wanted_not rfl rfl rfl rfl) ?_
              refine Wk.sl_skip rfl rfl (Wk.wanted_not rfl rfl rfl rfl) ?_
              refine Wk.sl_skip rfl rfl (Wk.wanted_not rfl rfl rfl rfl) ?_
              refine Wk.sl_skip rfl rfl (Wk.wanted_not rfl rfl rfl rfl) ?_
              refine Wk.sl_skip rfl rfl (Wk.wanted_not rfl rfl rfl rfl) ?_
              refine Wk.sl_v rfl rfl (Wk.wanted_none rfl) (fun a ha => Wk.x_pick_t (ha.ev rfl) (ha.ev rfl)) ?_
              refine Wk.sl_v rfl rfl (Wk.wanted_none rfl) (fun a ha => Wk.x_move (ha.ev rfl)) ?_
              refine Wk.sl_skip rfl rfl (Wk.wanted_not rfl rfl rfl rfl) ?_
              refine Wk.sl_skip rfl rfl (Wk.wanted_not rfl rfl rfl rfl) ?_
              refine Wk.sl_skip rfl rfl (Wk.wanted_not rfl rfl rfl rfl) ?_
              refine Wk.sl_skip rfl rfl (Wk.wanted_not rfl rfl rfl rfl) ?_
              refine Wk.sl_skip rfl rfl (Wk.wanted_not rfl rfl rfl rfl) ?_
              refine Wk.sl_v rfl rfl (Wk.wanted_none rfl) (fun a ha => Wk.x_pick_t (ha.ev rfl) (ha.ev rfl)) ?_
              refine Wk.sl_v rfl rfl (Wk.wanted_none rfl) (fun a ha => Wk.x_move (ha.ev rfl)) ?_
              refine Wk.sl_skip rfl rfl (Wk.wanted_not rfl rfl rfl rfl) ?_
              refine Wk.sl_skip rfl rfl (Wk.wanted_not rfl rfl rfl rfl) ?_
              refine Wk.sl_skip rfl rfl (Wk.wanted_not rfl rfl rfl rfl) ?_
              refine Wk.sl_skip rfl rfl (Wk.wanted_not rfl rfl rfl rfl) ?_
              refine Wk.sl_skip rfl rfl (Wk.wanted_not rfl rfl rfl rfl) ?_
              refine Wk.sl_skip rfl rfl (Wk.wanted_not rfl rfl rfl rfl) ?_
              refine Wk.sl_v rfl rfl (Wk.wanted_none rfl) (fun a ha => Wk.x_pick_t (ha.ev rfl) (ha.ev rfl)) ?_
              refine Wk.sl_nil ?_
              exact Wk.nx_to fun a ha => ⟨true, ha.weaken (Wk.sub.cons rfl (Wk.sub.cons rfl (Wk.sub.cons rfl (Wk.sub.cons rfl (Wk.sub.cons rfl (Wk.sub.cons rfl (Wk.sub.nil))))))), H⟩
            · replace H := H.2 hb
              refine Wk.sl_v rfl rfl (Wk.wanted_none rfl) (fun a ha => Wk.o_f (Wk.x_move (ha.ev rfl)) hb) ?_
              refine Wk.sl_v rfl rfl (Wk.wanted_some rfl rfl rfl) (fun a ha => Wk.x_fieldAddr (ha.ev rfl) (TF.fld_api_Link_1 _ _)) ?_
              obtain ⟨x22, h88, H⟩ := H
              refine Wk.sl_v rfl rfl (Wk.wanted_some rfl rfl rfl) (fun a ha => Wk.x_load (ha.ev rfl) (Wk.i_load1 TF.agg_int h88)) ?_
              refine Wk.sl_v rfl rfl (Wk.wanted_some rfl rfl rfl) (fun a ha => Wk.x_fieldAddr (ha.ev rfl) (TF.fld_api_Link_1 _ _)) ?_
              obtain ⟨x23, h89, H⟩ := H
              refine Wk.sl_v rfl rfl (Wk.wanted_some rfl rfl rfl) (fun a ha => Wk.x_load (ha.ev rfl) (Wk.i_load1 TF.agg_int h89)) ?_
              refine Wk.sl_v rfl rfl (Wk.wanted_some rfl rfl rfl) (fun a ha => Wk.x_binOp (ha.ev rfl) (ha.ev rfl) Wk.o_neq) ?_
              refine Wk.sl_v rfl rfl (Wk.wanted_none rfl) (fun a ha => Wk.x_pick_f (ha.ev rfl) (ha.ev rfl)) ?_
              rcases Classical.em (x22 ≠ x23) with hb | hb
              · replace H := H.1 hb
                refine Wk.sl_v rfl rfl (Wk.wanted_none rfl) (fun a ha => Wk.o_t (Wk.x_move (ha.ev rfl)) hb) ?_
                refine Wk.sl_skip rfl rfl (Wk.wanted_not rfl rfl rfl rfl) ?_
                refine Wk.sl_skip rfl rfl (Wk.wanted_not rfl rfl rfl rfl) ?_
                refine Wk.sl_skip rfl rfl (Wk.wanted_not rfl rfl rfl rfl) ?_
                refine Wk.sl_skip rfl rfl (Wk.wanted_not rfl rfl rfl rfl) ?_
                refine Wk.sl_skip rfl rfl (Wk.wanted_not rfl rfl rfl rfl) ?_
                refine Wk.sl_v rfl rfl (Wk.wanted_none rfl) (fun a ha => Wk.x_pick_t (ha.ev rfl) (ha.ev rfl)) ?_
                refine Wk.sl_v rfl rfl (Wk.wanted_none rfl) (fun a ha => Wk.x_move (ha.ev rfl)) ?_
                refine Wk.sl_skip rfl rfl (Wk.wanted_not rfl rfl rfl rfl) ?_
                refine Wk.sl_skip rfl rfl (Wk.wanted_not rfl rfl rfl rfl) ?_
                refine Wk.sl_skip rfl rfl (Wk.wanted_not rfl rfl rfl rfl) ?_
                refine Wk.sl_skip rfl rfl (Wk.wanted_not rfl rfl rfl rfl) ?_
                refine Wk.sl_skip rfl rfl (Wk.wanted_not rfl rfl rfl rfl) ?_
                refine Wk.sl_v rfl rfl (Wk.wanted_none rfl) (fun a ha => Wk.x_pick_t (ha.ev rfl) (ha.ev rfl)) ?_
                refine Wk.sl_v rfl rfl (Wk.wanted_none rfl) (fun a ha => Wk.x_move (ha.ev rfl)) ?_
                refine Wk.sl_skip rfl rfl (Wk.wanted_not rfl rfl rfl rfl) ?_
                refine Wk.sl_skip rfl rfl (Wk.wanted_not rfl rfl rfl rfl) ?_
                refine Wk.sl_skip rfl rfl (Wk.wanted_not rfl rfl rfl rfl) ?_
                refine Wk.sl_skip rfl rfl (Wk.wanted_not rfl rfl rfl rfl) ?_
                refine Wk.sl_skip rfl rfl (Wk.wanted_not rfl rfl rfl rfl) ?_
                refine Wk.sl_skip rfl rfl (Wk.wanted_not rfl rfl rfl rfl) ?_
                refine Wk.sl_v rfl rfl (Wk.wanted_none rfl) (fun a ha => Wk.x_pick_t (ha.ev rfl) (ha.ev rfl)) ?_
                refine Wk.sl_nil ?_
                exact Wk.nx_to fun a ha => ⟨true, ha.weaken (Wk.sub.cons rfl (Wk.sub.cons rfl (Wk.sub.cons rfl (Wk.sub.cons rfl (Wk.sub.cons rfl (Wk.sub.cons rfl (Wk.sub.nil))))))), H⟩
              · replace H := H.2 hb
                refine Wk.sl_v rfl rfl (Wk.wanted_none rfl) (fun a ha => Wk.o_f (Wk.x_move (ha.ev rfl)) hb) ?_
                refine Wk.sl_v rfl rfl (Wk.wanted_some rfl rfl rfl) (fun a ha => Wk.x_fieldAddr (ha.ev rfl) (TF.fld_api_Link_2 _ _)) ?_
                obtain ⟨x24, h90, H⟩ := H
                refine Wk.sl_v rfl rfl (Wk.wanted_some rfl rfl rfl) (fun a ha => Wk.x_load (ha.ev rfl) (Wk.i_load1 TF.agg_int h90)) ?_
                refine Wk.sl_v rfl rfl (Wk.wanted_some rfl rfl rfl) (fun a ha => Wk.x_fieldAddr (ha.ev rfl) (TF.fld_api_Link_2 _ _)) ?_
                obtain ⟨x25, h91, H⟩ := H
                refine Wk.sl_v rfl rfl (Wk.wanted_some rfl rfl rfl) (fun a ha => Wk.x_load (ha.ev rfl) (Wk.i_load1 TF.agg_int h91)) ?_
                refine Wk.sl_v rfl rfl (Wk.wanted_some rfl rfl rfl) (fun a ha => Wk.x_binOp (ha.ev rfl) (ha.ev rfl) Wk.o_neq) ?_
                refine Wk.sl_v rfl rfl (Wk.wanted_none rfl) (fun a ha => Wk.x_pick_f (ha.ev rfl) (ha.ev rfl)) ?_
                rcases Classical.em (x24 ≠ x25) with hb | hb
                · replace H := H.1 hb
                  refine Wk.sl_v rfl rfl (Wk.wanted_none rfl) (fun a ha => Wk.o_t (Wk.x_move (ha.ev rfl)) hb) ?_
                  refine Wk.sl_skip rfl rfl (Wk.wanted_not rfl rfl rfl rfl) ?_
                  refine Wk.sl_skip rfl rfl (Wk.wanted_not rfl rfl rfl rfl) ?_
                  refine Wk.sl_skip rfl rfl (Wk.wanted_not rfl rfl rfl rfl) ?_
                  refine Wk.sl_skip rfl rfl (Wk.wanted_not rfl rfl rfl rfl) ?_
                  refine Wk.sl_skip rfl rfl (Wk.wanted_not rfl rfl rfl rfl) ?_
                  refine Wk.sl_v rfl rfl (Wk.wanted_none rfl) (fun a ha => Wk.x_pick_t (ha.ev rfl) (ha.ev rfl)) ?_
                  refine Wk.sl_v rfl rfl (Wk.wanted_none rfl) (fun a ha => Wk.x_move (ha.ev rfl)) ?_
                  refine Wk.sl_skip rfl rfl (Wk.wanted_not rfl rfl rfl rfl) ?_
                  refine Wk.sl_skip rfl rfl (Wk.wanted_not rfl rfl rfl rfl) ?_
                  refine Wk.sl_skip rfl rfl (Wk.wanted_not rfl rfl rfl rfl) ?_
                  refine Wk.sl_skip rfl rfl (Wk.wanted_not rfl rfl rfl rfl) ?_
                  refine Wk.sl_skip rfl rfl (Wk.wanted_not rfl rfl rfl rfl) ?_
                  refine Wk.sl_skip rfl rfl (Wk.wanted_not rfl rfl rfl rfl) ?_
                  refine Wk.sl_v rfl rfl (Wk.wanted_none rfl) (fun a ha => Wk.x_pick_t (ha.ev rfl) (ha.ev rfl)) ?_
                  refine Wk.sl_nil ?_
                  exact Wk.nx_to fun a ha => ⟨true, ha.weaken (Wk.sub.cons rfl (Wk.sub.cons rfl (Wk.sub.cons rfl (Wk.sub.cons rfl (Wk.sub.cons rfl (Wk.sub.cons rfl (Wk.sub.nil))))))), H⟩
                · replace H := H.2 hb
                  refine Wk.sl_v rfl rfl (Wk.wanted_none rfl) (fun a ha => Wk.o_f (Wk.x_move (ha.ev rfl)) hb) ?_
                  refine Wk.sl_v rfl rfl (Wk.wanted_some rfl rfl rfl) (fun a ha => Wk.x_fieldAddr (ha.ev rfl) (TF.fld_api_Link_3 _ _)) ?_
                  obtain ⟨x26, h92, H⟩ := H
                  refine Wk.sl_v rfl rfl (Wk.wanted_some rfl rfl rfl) (fun a ha => Wk.x_load (ha.ev rfl) (Wk.i_load1 TF.agg_int h92)) ?_
                  refine Wk.sl_v rfl rfl (Wk.wanted_some rfl rfl rfl) (fun a ha => Wk.x_fieldAddr (ha.ev rfl) (TF.fld_api_Link_3 _ _)) ?_
                  obtain ⟨x27, h93, H⟩ := H
                  refine Wk.sl_v rfl rfl (Wk.wanted_some rfl rfl rfl) (fun a ha => Wk.x_load (ha.ev rfl) (Wk.i_load1 TF.agg_int h93)) ?_
                  refine Wk.sl_v rfl rfl (Wk.wanted_some rfl rfl rfl) (fun a ha => Wk.x_binOp (ha.ev rfl) (ha.ev rfl) Wk.o_neq) ?_
                  refine Wk.sl_v rfl rfl (Wk.wanted_none rfl) (fun a ha => Wk.x_pick_f (ha.ev rfl) (ha.ev rfl)) ?_
                  rcases Classical.em (x26 ≠ x27) with hb | hb
                  · replace H := H.1 hb
                    refine Wk.sl_v rfl rfl (Wk.wanted_none rfl) (fun a ha => Wk.o_t (Wk.x_move (ha.ev rfl)) hb) ?_
                    refine Wk.sl_skip rfl rfl (Wk.wanted_not rfl rfl rfl rfl) ?_
                    refine Wk.sl_skip rfl rfl (Wk.wanted_not rfl rfl rfl rfl) ?_
                    refine Wk.sl_skip rfl rfl (Wk.wanted_not rfl rfl rfl rfl) ?_
                    refine Wk.sl_skip rfl rfl (Wk.wanted_not rfl rfl rfl rfl) ?_
                    refine Wk.sl_skip rfl rfl (Wk.wanted_not rfl rfl rfl rfl) ?_
                    refine Wk.sl_skip rfl rfl (Wk.wanted_not rfl rfl rfl rfl) ?_
                    refine Wk.sl_v rfl rfl (Wk.wanted_none rfl) (fun a ha => Wk.x_pick_t (ha.ev rfl) (ha.ev rfl)) ?_
                    refine Wk.sl_nil ?_
                    exact Wk.nx_to fun a ha => ⟨true, ha.weaken (Wk.sub.cons rfl (Wk.sub.cons rfl (Wk.sub.cons rfl (Wk.sub.cons rfl (Wk.sub.cons rfl (Wk.sub.cons rfl (Wk.sub.nil))))))), H⟩
                  · replace H := H.2 hb
                    refine Wk.sl_v rfl rfl (Wk.wanted_none rfl) (fun a ha => Wk.o_f (Wk.x_move (ha.ev rfl)) hb) ?_
                    refine Wk.sl_v rfl rfl (Wk.wanted_some rfl rfl rfl) (fun a ha => Wk.x_fieldAddr (ha.ev rfl) (TF.fld_api_Link_4 _ _)) ?_
                    obtain ⟨A28, n28, c28, h94, H⟩ := H
                    refine Wk.sl_v rfl rfl (Wk.wanted_some rfl rfl rfl) (fun a ha => Wk.x_load (ha.ev rfl) (Wk.i_load1 TF.agg_sl_int h94)) ?_
                    refine Wk.sl_v rfl rfl (Wk.wanted_some rfl rfl rfl) (fun a ha => Wk.x_fieldAddr (ha.ev rfl) (TF.fld_api_Link_4 _ _)) ?_
                    obtain ⟨A29, n29, c29, h95, H⟩ := H
                    refine Wk.sl_v rfl rfl (Wk.wanted_some rfl rfl rfl) (fun a ha => Wk.x_load (ha.ev rfl) (Wk.i_load1 TF.agg_sl_int h95)) ?_
                    refine Wk.sl_call rfl rfl (Wk.wanted_some rfl rfl rfl) (fun a ha => Wk.x_call0 (ha.ev rfl) (ha.evs rfl) FF.callable_arbiterlaw13_sameInts) H ?_
                    rintro _ w24 ⟨b8, rfl, H⟩
                    refine Wk.sl_v rfl rfl (Wk.wanted_some rfl rfl rfl) (fun a ha => Wk.x_unOp (ha.ev rfl) Wk.u_not) ?_
                    refine Wk.sl_v rfl rfl (Wk.wanted_none rfl) (fun a ha => Wk.x_pick_f (ha.ev rfl) (ha.ev rfl)) ?_
                    refine Wk.sl_nil ?_
                    exact Wk.nx_to fun a ha => ⟨(!b8), ha.weaken (Wk.sub.cons rfl (Wk.sub.cons rfl (Wk.sub.cons rfl (Wk.sub.cons rfl (Wk.sub.cons rfl (Wk.sub.cons rfl (Wk.sub.nil))))))), H⟩
        · replace H := H.2 hb
          refine Wk.cw_exit ?_
          refine Wk.nx_exit_then ?_
          refine Wk.nx_exit_then ?_
          refine Wk.nx_exit_hit ?_
          refine Wk.nx_code (Wk.cw_sub (e' := [(0, (.pointer (some p1))), (10, (.int .i64 x10)), (11, (.int .i64 (n21 : Int))), (12, (.slice A23 n23 c23))]) (Wk.sub.cons rfl (Wk.sub.cons rfl (Wk.sub.cons rfl (Wk.sub.cons rfl (Wk.sub.nil))))) ?_)
          refine Wk.cw_join_still (fun a => ∃ b9 : Bool, Wk.Ok 240 [(0, (.pointer (some p1))), (10, (.int .i64 x10)), (239, (.bool b9))] a ∧ vc_arbiterlaw13_Hold_kept_J5 K w18 k7 I4 x10 b9) ?_ ?_
          · rintro a ⟨b9, ha, H⟩
            unfold vc_arbiterlaw13_Hold_kept_J5 at H
            refine (?_ : Wk.CW _ _ _ 240 [(0, (.pointer (some p1))), (10, (.int .i64 x10)), (239, (.bool b9))] _) a ha
            refine Wk.cw_cond rfl (fun hb => ?_) (fun hb => ?_)
            · replace H := H.1 hb
              refine Wk.cw_seq ?_
              refine Wk.cw_region ?_
              refine Wk.sl_v rfl rfl (Wk.wanted_none rfl) (fun a ha => Wk.x_assign (ha.ev rfl)) ?_
              refine Wk.sl_nil ?_
              refine Wk.nx_code (Wk.cw_sub (e' := [(2, (.bool false))]) (Wk.sub.cons rfl (Wk.sub.nil)) ?_)
              refine Wk.cw_ret ?_
              refine Wk.nx_ret_block ?_
              refine Wk.nx_ret_then ?_
              refine Wk.nx_ret_then ?_
              refine Wk.nx_ret_block ?_
              refine Wk.nx_ret_then ?_
              exact Wk.nx_body_ret (Wk.res1 rfl rfl) ⟨_, rfl, _, rfl, H⟩
            · replace H := H.2 hb
              refine Wk.cw_skip ?_
              refine Wk.nx_block ?_
              refine Wk.nx_code (Wk.cw_sub (e' := [(0, (.pointer (some p1))), (10, (.int .i64 x10))]) (Wk.sub.cons rfl (Wk.sub.cons rfl (Wk.sub.nil))) ?_)
              refine Wk.cw_region ?_
              refine Wk.sl_v rfl rfl (Wk.wanted_none rfl) (fun a ha => Wk.x_move (ha.ev rfl)) ?_
              refine Wk.sl_v rfl rfl (Wk.wanted_none rfl) (fun a ha => Wk.x_binOp (ha.ev rfl) (ha.ev rfl) Wk.o_add) ?_
              refine Wk.sl_v rfl rfl (Wk.wanted_none rfl) (fun a ha => Wk.x_assign (ha.ev rfl)) ?_
              refine Wk.sl_nil ?_
              obtain ⟨k10, hk, H⟩ := H
              exact Wk.nx_to fun a ha => ⟨k10, hk, IntKind.wrap .i64 (x10 + 1), ha.weaken (Wk.sub.cons rfl (Wk.sub.cons rfl (Wk.sub.nil))), H⟩
          · refine Wk.cw_region ?_
            refine Wk.sl_v rfl rfl (Wk.wanted_none rfl) (fun a ha => Wk.x_move (ha.ev rfl)) ?_
            refine Wk.sl_v rfl rfl (Wk.wanted_none rfl) (fun a ha => Wk.x_move (ha.ev rfl)) ?_
            obtain ⟨h96, h97, a21, e21, H⟩ := H
            refine Wk.sl_v rfl rfl (Wk.wanted_none rfl) (fun a ha => Wk.x_indexAddr (ha.ev rfl) (ha.ev rfl) (Wk.i_index TF.elem_sl_api_Link TF.size_api_Link e21 h96 h97)) ?_
            refine Wk.sl_v rfl rfl (Wk.wanted_none rfl) (fun a ha => Wk.x_fieldAddr (ha.ev rfl) (TF.fld_api_Link_0 _ _)) ?_
            obtain ⟨x28, h98, H⟩ := H
            refine Wk.sl_v rfl rfl (Wk.wanted_none rfl) (fun a ha => Wk.x_load (ha.ev rfl) (Wk.i_load1 TF.agg_int h98)) ?_
            refine Wk.sl_v rfl rfl (Wk.wanted_none rfl) (fun a ha => Wk.x_binOp (ha.ev rfl) (ha.ev rfl) Wk.o_neq) ?_
            rcases Classical.em (x28 ≠ 75) with hb | hb
            · replace H := H.1 hb
              refine Wk.sl_v rfl rfl (Wk.wanted_none rfl) (fun a ha => Wk.o_t (Wk.x_move (ha.ev rfl)) hb) ?_
              refine Wk.sl_skip rfl rfl (Wk.wanted_not rfl rfl rfl rfl) ?_
              refine Wk.sl_skip rfl rfl (Wk.wanted_not rfl rfl rfl rfl) ?_
              refine Wk.sl_skip rfl rfl (Wk.wanted_not rfl rfl rfl rfl) ?_
              refine Wk.sl_skip rfl rfl (Wk.wanted_not rfl rfl rfl rfl) ?_
              refine Wk.sl_skip rfl rfl (Wk.wanted_not rfl rfl rfl rfl) ?_
              refine Wk.sl_skip rfl rfl (Wk.wanted_not rfl rfl rfl rfl) ?_
              refine Wk.sl_skip rfl rfl (Wk.wanted_not rfl rfl rfl rfl) ?_
              refine Wk.sl_v rfl rfl (Wk.wanted_none rfl) (fun a ha => Wk.x_pick_t (ha.ev rfl) (ha.ev rfl)) ?_
              refine Wk.sl_nil ?_
              exact Wk.nx_to fun a ha => ⟨⟨true, ha.weaken (Wk.sub.cons rfl (Wk.sub.cons rfl (Wk.sub.cons rfl (Wk.sub.nil)))), H⟩, rfl⟩
            · replace H := H.2 hb
              refine Wk.sl_v rfl rfl (Wk.wanted_none rfl) (fun a ha => Wk.o_f (Wk.x_move (ha.ev rfl)) hb) ?_
              refine Wk.sl_v rfl rfl (Wk.wanted_some rfl rfl rfl) (fun a ha => Wk.x_move (ha.ev rfl)) ?_
              refine Wk.sl_v rfl rfl (Wk.wanted_some rfl rfl rfl) (fun a ha => Wk.x_move (ha.ev rfl)) ?_
              refine Wk.sl_v rfl rfl (Wk.wanted_some rfl rfl rfl) (fun a ha => Wk.x_binOp (ha.ev rfl) (ha.ev rfl) Wk.o_add) ?_
              obtain ⟨h99, h100, a22, e22, H⟩ := H
              refine Wk.sl_v rfl rfl (Wk.wanted_some rfl rfl rfl) (fun a ha => Wk.x_indexAddr (ha.ev rfl) (ha.ev rfl) (Wk.i_index TF.elem_sl_api_Link TF.size_api_Link e22 h99 h100)) ?_
              refine Wk.sl_v rfl rfl (Wk.wanted_some rfl rfl rfl) (fun a ha => Wk.x_fieldAddr (ha.ev rfl) (TF.fld_api_Link_0 _ _)) ?_
              obtain ⟨x29, h101, H⟩ := H
              refine Wk.sl_v rfl rfl (Wk.wanted_some rfl rfl rfl) (fun a ha => Wk.x_load (ha.ev rfl) (Wk.i_load1 TF.agg_int h101)) ?_
              refine Wk.sl_v rfl rfl (Wk.wanted_some rfl rfl rfl) (fun a ha => Wk.x_binOp (ha.ev rfl) (ha.ev rfl) Wk.o_neq) ?_
              refine Wk.sl_v rfl rfl (Wk.wanted_none rfl) (fun a ha => Wk.x_pick_f (ha.ev rfl) (ha.ev rfl)) ?_
              refine Wk.sl_nil ?_
              exact Wk.nx_to fun a ha => ⟨⟨(decide (x29 ≠ 76)), ha.weaken (Wk.sub.cons rfl (Wk.sub.cons rfl (Wk.sub.cons rfl (Wk.sub.nil)))), H⟩, rfl⟩
      · replace H := H.2 hb
        refine Wk.cw_exit ?_
        refine Wk.nx_exit_then ?_
        refine Wk.nx_exit_then ?_
        refine Wk.nx_exit_hit ?_
        refine Wk.nx_code (Wk.cw_sub (e' := []) (Wk.sub.nil) ?_)
        refine Wk.cw_seq ?_
        refine Wk.cw_region ?_
        refine Wk.sl_v rfl rfl (Wk.wanted_none rfl) (fun a ha => Wk.x_assign (ha.ev rfl)) ?_
        refine Wk.sl_nil ?_
        refine Wk.nx_code (Wk.cw_sub (e' := [(2, (.bool true))]) (Wk.sub.cons rfl (Wk.sub.nil)) ?_)
        refine Wk.cw_ret ?_
        exact Wk.nx_body_ret (Wk.res1 rfl rfl) ⟨_, rfl, _, rfl, H⟩
def vc_arbiterlaw13_EufAudits_J1 (K : Bool → World → Prop) (b3 : Bool) (w9 : World) : Prop :=
  K b3 w9
def vc_arbiterlaw13_EufAudits (A1 : Option Addr) (n1 : Nat) (c1 : Nat) (A2 : Option Addr) (n2 : Nat) (c2 : Nat) (A3 : Option Addr) (n3 : Nat) (c3 : Nat) (K : Bool → World → Prop) (w : World) : Prop :=
  ∀ (p1 : Addr) (w1 : World), Wk.New w (.cells #[(.slice none 0 0), (.slice none 0 0), (.slice none 0 0), (.slice none 0 0), (.slice none 0 0), (.slice none 0 0)] T.arbiterlaw13_Hold) p1 w1 → (Calls P F.arbiterlaw13_Hold_nodes #[(.pointer (some p1)), (.slice A1 n1 c1)] w1 (Wk.Ret fun v1 w2 => ∃ A4 : Option Addr, ∃ n4 : Nat, ∃ c4 : Nat, v1 = (.slice A4 n4 c4) ∧ Calls P F.arbiterlaw13_Hold_chain #[(.pointer (some p1)), (.slice A2 n2 c2)] w2 (Wk.Ret fun v2 w3 => ∃ A5 : Option Addr, ∃ n5 : Nat, ∃ c5 : Nat, v2 = (.slice A5 n5 c5) ∧ Calls P F.arbiterlaw13_Hold_chain #[(.pointer (some p1)), (.slice A3 n3 c3)] w3 (Wk.Ret fun v3 w4 => ∃ A6 : Option Addr, ∃ n6 : Nat, ∃ c6 : Nat, v3 = (.slice A6 n6 c6) ∧ Calls P F.euf_Audit #[(.slice A4 n4 c4), (.slice A5 n5 c5), (.slice A6 n6 c6)] w4 (Wk.Ret fun v4 w5 => ∃ x1 : Int, ∃ x2 : Int, v4 = (.tuple #[(.int .i64 x1), (.int .i64 x2)]) ∧ Calls P F.arbiterref13_Audit #[(.slice A1 n1 c1), (.slice A2 n2 c2), (.slice A3 n3 c3)] w5 (Wk.Ret fun v5 w6 => ∃ x3 : Int, ∃ x4 : Int, v5 = (.tuple #[(.int .i64 x3), (.int .i64 x4)]) ∧ (x1 = x3 → (Calls P F.arbiterlaw13_no #[(.int .i64 x2)] w6 (Wk.Ret fun v6 w7 => ∃ x5 : Int, v6 = (.int .i64 x5) ∧ (x5 = x4 → (Calls P F.arbiterlaw13_Hold_kept #[(.pointer (some p1))] w7 (Wk.Ret fun v7 w8 => ∃ b2 : Bool, v7 = (.bool b2) ∧ (vc_arbiterlaw13_EufAudits_J1 K) b2 w8))) ∧ (¬ (x5 = x4) → ((vc_arbiterlaw13_EufAudits_J1 K) false w7))))) ∧ (¬ (x1 = x3) → ((vc_arbiterlaw13_EufAudits_J1 K) false w6))))))))
set_option maxHeartbeats 2000000 in
set_option maxRecDepth 20000 in
theorem ok_arbiterlaw13_EufAudits (A1 : Option Addr) (n1 : Nat) (c1 : Nat) (A2 : Option Addr) (n2 : Nat) (c2 : Nat) (A3 : Option Addr) (n3 : Nat) (c3 : Nat) (K : Bool → World → Prop) (w : World) (H : vc_arbiterlaw13_EufAudits A1 n1 c1 A2 n2 c2 A3 n3 c3 K w) : Calls P F.arbiterlaw13_EufAudits #[(.slice A1 n1 c1), (.slice A2 n2 c2), (.slice A3 n3 c3)] w (Wk.Ret fun v w' => ∃ b1 : Bool, v = (.bool b1) ∧ K b1 w') := by
  unfold vc_arbiterlaw13_EufAudits at H
  refine Wk.calls_of (P := P) Try.func3 rfl [(0, (.slice A1 n1 c1)), (1, (.slice A2 n2 c2)), (2, (.slice A3 n3 c3))] 47 rfl rfl (fun p hp => by simp only [List.mem_cons, List.not_mem_nil, or_false] at hp; rcases hp with rfl | rfl | rfl <;> rfl) ?_
  refine Wk.cw_seq ?_
  refine Wk.cw_region ?_
  refine Wk.sl_v rfl rfl (Wk.wanted_none rfl) (fun a ha => Wk.x_assign (ha.ev rfl)) ?_
  refine Wk.sl_nil ?_
  refine Wk.nx_code (Wk.cw_sub (e' := [(0, (.slice A1 n1 c1)), (1, (.slice A2 n2 c2)), (2, (.slice A3 n3 c3))]) (Wk.sub.cons rfl (Wk.sub.cons rfl (Wk.sub.cons rfl (Wk.sub.nil)))) ?_)
  refine Wk.cw_seq ?_
  refine Wk.cw_region ?_
  refine Wk.sl_v rfl rfl (Wk.wanted_none rfl) (fun a ha => Wk.x_buildP (u := (.agg #[(.slice none 0 0), (.slice none 0 0), (.slice none 0 0), (.slice none 0 0), (.slice none 0 0), (.slice none 0 0)])) (qs := []) (by simp only [List.map_cons, List.map_nil]) (by kernel_rfl)) ?_
  refine Wk.sl_new (f := (fun p => .pointer (some p))) rfl rfl (Wk.wanted_none rfl) (fun a ha => Wk.x_box (ha.ev rfl) Wk.i_box) ?_
  intro p1 w1 hN; replace H := H _ _ hN
  refine Wk.sl_v rfl rfl (Wk.wanted_none rfl) (fun a ha => Wk.x_assign (ha.ev rfl)) ?_
  refine Wk.sl_nil ?_
  refine Wk.nx_code (Wk.cw_sub (e' := [(0, (.slice A1 n1 c1)), (1, (.slice A2 n2 c2)), (2, (.slice A3 n3 c3)), (7, (.pointer (some p1)))]) (Wk.sub.cons rfl (Wk.sub.cons rfl (Wk.sub.cons rfl (Wk.sub.cons rfl (Wk.sub.nil))))) ?_)
  refine Wk.cw_seq ?_
  refine Wk.cw_region ?_
  refine Wk.sl_v rfl rfl (Wk.wanted_none rfl) (fun a ha => Wk.x_move (ha.ev rfl)) ?_
  refine Wk.sl_v rfl rfl (Wk.wanted_none rfl) (fun a ha => Wk.x_move (ha.ev rfl)) ?_
  refine Wk.sl_call rfl rfl (Wk.wanted_none rfl) (fun a ha => Wk.x_call0 (ha.ev rfl) (ha.evs rfl) FF.callable_arbiterlaw13_Hold_nodes) H ?_
  rintro _ w2 ⟨A4, n4, c4, rfl, H⟩
  refine Wk.sl_v rfl rfl (Wk.wanted_none rfl) (fun a ha => Wk.x_move (ha.ev rfl)) ?_
  refine Wk.sl_v rfl rfl (Wk.wanted_none rfl) (fun a ha => Wk.x_move (ha.ev rfl)) ?_
  refine Wk.sl_call rfl rfl (Wk.wanted_none rfl) (fun a ha => Wk.x_call0 (ha.ev rfl) (ha.evs rfl) FF.callable_arbiterlaw13_Hold_chain) H ?_
  rintro _ w3 ⟨A5, n5, c5, rfl, H⟩
  refine Wk.sl_v rfl rfl (Wk.wanted_none rfl) (fun a ha => Wk.x_move (ha.ev rfl)) ?_
  refine Wk.sl_v rfl rfl (Wk.wanted_none rfl) (fun a ha => Wk.x_move (ha.ev rfl)) ?_
  refine Wk.sl_call rfl rfl (Wk.wanted_none rfl) (fun a ha => Wk.x_call0 (ha.ev rfl) (ha.evs rfl) FF.callable_arbiterlaw13_Hold_chain) H ?_
  rintro _ w4 ⟨A6, n6, c6, rfl, H⟩
  refine Wk.sl_call rfl rfl (Wk.wanted_none rfl) (fun a ha => Wk.x_call0 (ha.ev rfl) (ha.evs rfl) FF.callable_euf_Audit) H ?_
  rintro _ w5 ⟨x1, x2, rfl, H⟩
  refine Wk.sl_v rfl rfl (Wk.wanted_none rfl) (fun a ha => Wk.x_move (ha.ev rfl)) ?_
  refine Wk.sl_v rfl rfl (Wk.wanted_none rfl) (fun a ha => Wk.x_extract (ha.ev rfl) rfl) ?_
  refine Wk.sl_v rfl rfl (Wk.wanted_none rfl) (fun a ha => Wk.x_extract (ha.ev rfl) rfl) ?_
  refine Wk.sl_v rfl rfl (Wk.wanted_none rfl) (fun a ha => Wk.x_assign (ha.ev rfl)) ?_
  refine Wk.sl_v rfl rfl (Wk.wanted_none rfl) (fun a ha => Wk.x_assign (ha.ev rfl)) ?_
  refine Wk.sl_nil ?_
  refine Wk.nx_code (Wk.cw_sub (e' := [(0, (.slice A1 n1 c1)), (1, (.slice A2 n2 c2)), (2, (.slice A3 n3 c3)), (7, (.pointer (some p1))), (8, (.int .i64 x1)), (9, (.int .i64 x2))]) (Wk.sub.cons rfl (Wk.sub.cons rfl (Wk.sub.cons rfl (Wk.sub.cons rfl (Wk.sub.cons rfl (Wk.sub.cons rfl (Wk.sub.nil))))))) ?_)
  refine Wk.cw_seq ?_
  refine Wk.cw_region ?_
  refine Wk.sl_v rfl rfl (Wk.wanted_none rfl) (fun a ha => Wk.x_move (ha.ev rfl)) ?_
  refine Wk.sl_v rfl rfl (Wk.wanted_none rfl) (fun a ha => Wk.x_move (ha.ev rfl)) ?_
  refine Wk.sl_v rfl rfl (Wk.wanted_none rfl) (fun a ha => Wk.x_move (ha.ev rfl)) ?_
  refine Wk.sl_call rfl rfl (Wk.wanted_none rfl) (fun a ha => Wk.x_call0 (ha.ev rfl) (ha.evs rfl) FF.callable_arbiterref13_Audit) H ?_
  rintro _ w6 ⟨x3, x4, rfl, H⟩
  refine Wk.sl_v rfl rfl (Wk.wanted_none rfl) (fun a ha => Wk.x_move (ha.ev rfl)) ?_
  refine Wk.sl_v rfl rfl (Wk.wanted_none rfl) (fun a ha => Wk.x_extract (ha.ev rfl) rfl) ?_
  refine Wk.sl_v rfl rfl (Wk.wanted_none rfl) (fun a ha => Wk.x_extract (ha.ev rfl) rfl) ?_
  refine Wk.sl_v rfl rfl (Wk.wanted_none rfl) (fun a ha => Wk.x_assign (ha.ev rfl)) ?_
  refine Wk.sl_v rfl rfl (Wk.wanted_none rfl) (fun a ha => Wk.x_assign (ha.ev rfl)) ?_
  refine Wk.sl_nil ?_
  refine Wk.nx_code (Wk.cw_sub (e' := [(7, (.pointer (some p1))), (8, (.int .i64 x1)), (9, (.int .i64 x2)), (10, (.int .i64 x3)), (11, (.int .i64 x4))]) (Wk.sub.cons rfl (Wk.sub.cons rfl (Wk.sub.cons rfl (Wk.sub.cons rfl (Wk.sub.cons rfl (Wk.sub.nil)))))) ?_)
  refine Wk.cw_join (fun a w => ∃ b3 : Bool, Wk.Ok 47 [(6, (.bool b3))] a ∧ vc_arbiterlaw13_EufAudits_J1 K b3 w) ?_ ?_
  · rintro a w9 ⟨b3, ha, H⟩
    unfold vc_arbiterlaw13_EufAudits_J1 at H
    refine (?_ : Wk.CW _ _ _ 47 [(6, (.bool b3))] _) a ha
    refine Wk.cw_ret ?_
    exact Wk.nx_body_ret (Wk.res1 rfl rfl) ⟨_, rfl, _, rfl, H⟩
  · refine Wk.cw_region ?_
    refine Wk.sl_v rfl rfl (Wk.wanted_none rfl) (fun a ha => Wk.x_move (ha.ev rfl)) ?_
    refine Wk.sl_v rfl rfl (Wk.wanted_none rfl) (fun a ha => Wk.x_move (ha.ev rfl)) ?_
    refine Wk.sl_v rfl rfl (Wk.wanted_none rfl) (fun a ha => Wk.x_binOp (ha.ev rfl) (ha.ev rfl) Wk.o_eql) ?_
    rcases Classical.em (x1 = x3) with hb | hb
    · replace H := H.1 hb
      refine Wk.sl_v rfl rfl (Wk.wanted_none rfl) (fun a ha => Wk.o_t (Wk.x_move (ha.ev rfl)) hb) ?_
      refine Wk.sl_v rfl rfl (Wk.wanted_some rfl rfl rfl) (fun a ha => Wk.x_move (ha.ev rfl)) ?_
      refine Wk.sl_call rfl rfl (Wk.wanted_some rfl rfl rfl) (fun a ha => Wk.x_call0 (ha.ev rfl) (ha.evs rfl) FF.callable_arbiterlaw13_no) H ?_
      rintro _ w7 ⟨x5, rfl, H⟩
      refine Wk.sl_v rfl rfl (Wk.wanted_some rfl rfl rfl) (fun a ha => Wk.x_move (ha.ev rfl)) ?_
      refine Wk.sl_v rfl rfl (Wk.wanted_some rfl rfl rfl) (fun a ha => Wk.x_binOp (ha.ev rfl) (ha.ev rfl) Wk.o_eql) ?_
      refine Wk.sl_v rfl rfl (Wk.wanted_none rfl) (fun a ha => Wk.x_pick_t (ha.ev rfl) (ha.ev rfl)) ?_
      rcases Classical.em (x5 = x4) with hb | hb
      · replace H := H.1 hb
        refine Wk.sl_v rfl rfl (Wk.wanted_none rfl) (fun a ha => Wk.o_t (Wk.x_move (ha.ev rfl)) hb) ?_
        refine Wk.sl_v rfl rfl (Wk.wanted_some rfl rfl rfl) (fun a ha => Wk.x_move (ha.ev rfl)) ?_
        refine Wk.sl_call rfl rfl (Wk.wanted_some rfl rfl rfl) (fun a ha => Wk.x_call0 (ha.ev rfl) (ha.evs rfl) FF.callable_arbiterlaw13_Hold_kept) H ?_
        rintro _ w8 ⟨b2, rfl, H⟩
        refine Wk.sl_v rfl rfl (Wk.wanted_none rfl) (fun a ha => Wk.x_pick_t (ha.ev rfl) (ha.ev rfl)) ?_
        refine Wk.sl_v rfl rfl (Wk.wanted_none rfl) (fun a ha => Wk.x_assign (ha.ev rfl)) ?_
        refine Wk.sl_nil ?_
        exact Wk.nx_to fun a ha => ⟨b2, ha.weaken (Wk.sub.cons rfl (Wk.sub.nil)), H⟩
      · replace H := H.2 hb
        refine Wk.sl_v rfl rfl (Wk.wanted_none rfl) (fun a ha => Wk.o_f (Wk.x_move (ha.ev rfl)) hb) ?_
        refine Wk.sl_skip rfl rfl (Wk.wanted_not rfl rfl rfl rfl) ?_
        refine Wk.sl_skip rfl rfl (Wk.wanted_not rfl rfl rfl rfl) ?_
        refine Wk.sl_v rfl rfl (Wk.wanted_none rfl) (fun a ha => Wk.x_pick_f (ha.ev rfl) (ha.ev rfl)) ?_
        refine Wk.sl_v rfl rfl (Wk.wanted_none rfl) (fun a ha => Wk.x_assign (ha.ev rfl)) ?_
        refine Wk.sl_nil ?_
        exact Wk.nx_to fun a ha => ⟨false, ha.weaken (Wk.sub.cons rfl (Wk.sub.nil)), H⟩
    · replace H := H.2 hb
      refine Wk.sl_v rfl rfl (Wk.wanted_none rfl) (fun a ha => Wk.o_f (Wk.x_move (ha.ev rfl)) hb) ?_
      refine Wk.sl_skip rfl rfl (Wk.wanted_not rfl rfl rfl rfl) ?_
      refine Wk.sl_skip rfl rfl (Wk.wanted_not rfl rfl rfl rfl) ?_
      refine Wk.sl_skip rfl rfl (Wk.wanted_not rfl rfl rfl rfl) ?_
      refine Wk.sl_skip rfl rfl (Wk.wanted_not rfl rfl rfl rfl) ?_
      refine Wk.sl_v rfl rfl (Wk.wanted_none rfl) (fun a ha => Wk.x_pick_f (ha.ev rfl) (ha.ev rfl)) ?_
      refine Wk.sl_v rfl rfl (Wk.wanted_none rfl) (fun a ha => Wk.x_move (ha.ev rfl)) ?_
      refine Wk.sl_skip rfl rfl (Wk.wanted_not rfl rfl rfl rfl) ?_
      refine Wk.sl_skip rfl rfl (Wk.wanted_not rfl rfl rfl rfl) ?_
      refine Wk.sl_v rfl rfl (Wk.wanted_none rfl) (fun a ha => Wk.x_pick_f (ha.ev rfl) (ha.ev rfl)) ?_
      refine Wk.sl_v rfl rfl (Wk.wanted_none rfl) (fun a ha => Wk.x_assign (ha.ev rfl)) ?_
      refine Wk.sl_nil ?_
      exact Wk.nx_to fun a ha => ⟨false, ha.weaken (Wk.sub.cons rfl (Wk.sub.nil)), H⟩
end Go.Proofs.Ytnbakpoahcndpaa
