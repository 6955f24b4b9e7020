/- Printed by a program (vc.py): for each function a formula over the world, and the proof that it tells what the call comes to. -/
import Derived.Test.YtnbakpoahcndpaaNums
set_option linter.unusedVariables false
set_option linter.unusedSimpArgs false
namespace Go.Proofs.Ytnbakpoahcndpaa
def vc_arbiterlaw13_EufSound_J1 (K : Bool → World → Prop) (b4 : Bool) (w13 : World) : Prop :=
  K b4 w13
def vc_arbiterlaw13_EufSound_J2 (K : Bool → World → Prop) (k1 : Nat) (I1 : Nat → Int → World → Prop) (x13 : Int) (b7 : Bool) (w19 : World) : Prop :=
  (b7 = true → (K true w19)) ∧ (b7 = false → (∃ k2, k2 < k1 ∧ I1 k2 (IntKind.wrap .i64 (x13 + 1)) w19))
def vc_arbiterlaw13_EufSound_J3 (x13 : Int) (n2 : Nat) (A2 : Option Addr) (w17 : World) (n5 : Nat) (A5 : Option Addr) (K : Bool → World → Prop) (k1 : Nat) (I1 : Nat → Int → World → Prop) (b6 : Bool) : Prop :=
  0 ≤ x13 ∧ x13 < (n2 : Int) ∧ ∃ a5, A2 = some a5 ∧ ∃ x18 : Int, w17.cell? ((a5.add (x13.toNat * 5)).add 0) = some (.int .i64 x18) ∧ (x18 = 1 → ((b6 = true → (0 ≤ x13 ∧ x13 < (n2 : Int) ∧ ∃ a6, A2 = some a6 ∧ ∃ x19 : Int, w17.cell? ((a6.add (x13.toNat * 5)).add 1) = some (.int .i64 x19) ∧ 0 ≤ x19 ∧ x19 < (n5 : Int) ∧ ∃ a7, A5 = some a7 ∧ ∃ x20 : Int, w17.cell? (a7.add (x19.toNat * 1)) = some (.int .i64 x20) ∧ 0 ≤ x13 ∧ x13 < (n2 : Int) ∧ ∃ a8, A2 = some a8 ∧ ∃ x21 : Int, w17.cell? ((a8.add (x13.toNat * 5)).add 2) = some (.int .i64 x21) ∧ 0 ≤ x21 ∧ x21 < (n5 : Int) ∧ ∃ a9, A5 = some a9 ∧ ∃ x22 : Int, w17.cell? (a9.add (x21.toNat * 1)) = some (.int .i64 x22) ∧ ∀ w18, Wk.Drawn w17 w18 → ((vc_arbiterlaw13_EufSound_J2 K k1 I1 x13) (decide (x20 ≠ x22)) w18))) ∧ (b6 = false → (∀ w20, Wk.Drawn w17 w20 → ((vc_arbiterlaw13_EufSound_J2 K k1 I1 x13) false w20))))) ∧ (¬ (x18 = 1) → (∀ w21, Wk.Drawn w17 w21 → ((vc_arbiterlaw13_EufSound_J2 K k1 I1 x13) false w21)))
def vc_arbiterlaw13_EufSound_J4 (K : Bool → World → Prop) (k3 : Nat) (I2 : Nat → Int → World → Prop) (x24 : Int) (b8 : Bool) (w26 : World) : Prop :=
  (b8 = true → (K false w26)) ∧ (b8 = false → (∃ k4, k4 < k3 ∧ I2 k4 (IntKind.wrap .i64 (x24 + 1)) w26))
def vc_arbiterlaw13_EufSound_J5 (K : Bool → World → Prop) (b9 : Bool) (w32 : World) : Prop :=
  K b9 w32
def vc_arbiterlaw13_EufSound_J6 (w17 : World) (n3 : Nat) (A3 : Option Addr) (K : Bool → World → Prop) (n1 : Nat) (n5 : Nat) (A5 : Option Addr) (x8 : Int) (x23 : Int) : Prop :=
  ∃ I2 : Nat → Int → World → Prop, (∃ k3, I2 k3 0 w17) ∧ ∀ k3 (x24 : Int) (w22 : World), I2 k3 x24 w22 → ((x24 < x23 → (0 ≤ x24 ∧ x24 < (n3 : Int) ∧ ∃ a10, A3 = some a10 ∧ ∃ x25 : Int, ∃ x26 : Int, ∃ x27 : Int, ∃ x28 : Int, ∃ A6 : Option Addr, ∃ n6 : Nat, ∃ c6 : Nat, Wk.CellsAt w22 (a10.add (x24.toNat * 5)) [(.int .i64 x25), (.int .i64 x26), (.int .i64 x27), (.int .i64 x28), (.slice A6 n6 c6)] ∧ ∀ (p5 : Addr) (w23 : World), Wk.New w22 (.cells #[(.int .i64 0), (.int .i64 0), (.int .i64 0), (.int .i64 0), (.slice none 0 0)] T.api_Link) p5 w23 → (Wk.Soft w23 p5 5 ∧ ∀ w24, w24 = Wk.setCellsAt w23 p5 [(.int .i64 x25), (.int .i64 x26), (.int .i64 x27), (.int .i64 x28), (.slice A6 n6 c6)] → (∃ x29 : Int, w24.cell? (p5.add 1) = some (.int .i64 x29) ∧ (x29 < 0 → (∀ w25, Wk.Drawn w24 w25 → ((vc_arbiterlaw13_EufSound_J4 K k3 I2 x24) true w25))) ∧ (¬ (x29 < 0) → (∃ x30 : Int, w24.cell? (p5.add 2) = some (.int .i64 x30) ∧ (x30 < 0 → (∀ w27, Wk.Drawn w24 w27 → ((vc_arbiterlaw13_EufSound_J4 K k3 I2 x24) true w27))) ∧ (¬ (x30 < 0) → (∃ x31 : Int, w24.cell? (p5.add 1) = some (.int .i64 x31) ∧ ((n1 : Int) ≤ x31 → (∀ w28, Wk.Drawn w24 w28 → ((vc_arbiterlaw13_EufSound_J4 K k3 I2 x24) true w28))) ∧ (¬ ((n1 : Int) ≤ x31) → (∃ x32 : Int, w24.cell? (p5.add 2) = some (.int .i64 x32) ∧ ((n1 : Int) ≤ x32 → (∀ w29, Wk.Drawn w24 w29 → ((vc_arbiterlaw13_EufSound_J4 K k3 I2 x24) true w29))) ∧ (¬ ((n1 : Int) ≤ x32) → (∃ x33 : Int, w24.cell? (p5.add 1) = some (.int .i64 x33) ∧ 0 ≤ x33 ∧ x33 < (n5 : Int) ∧ ∃ a11, A5 = some a11 ∧ ∃ x34 : Int, w24.cell? (a11.add (x33.toNat * 1)) = some (.int .i64 x34) ∧ ∃ x35 : Int, w24.cell? (p5.add 2) = some (.int .i64 x35) ∧ 0 ≤ x35 ∧ x35 < (n5 : Int) ∧ ∃ a12, A5 = some a12 ∧ ∃ x36 : Int, w24.cell? (a12.add (x35.toNat * 1)) = some (.int .i64 x36) ∧ ∀ w30, Wk.Drawn w24 w30 → ((vc_arbiterlaw13_EufSound_J4 K k3 I2 x24) (decide (x34 ≠ x36)) w30))))))))))))) ∧ (¬ (x24 < x23) → ((x8 = (-1) → (∀ w31, Wk.Drawn w22 w31 → ((vc_arbiterlaw13_EufSound_J5 K) true w31))) ∧ (¬ (x8 = (-1)) → (0 ≤ x8 ∧ x8 < (n3 : Int) ∧ ∃ a13, A3 = some a13 ∧ ∃ x37 : Int, w22.cell? ((a13.add (x8.toNat * 5)).add 0) = some (.int .i64 x37) ∧ (x37 ≠ 2 → (∀ w33, Wk.Drawn w22 w33 → ((vc_arbiterlaw13_EufSound_J5 K) true w33))) ∧ (¬ (x37 ≠ 2) → (0 ≤ x8 ∧ x8 < (n3 : Int) ∧ ∃ a14, A3 = some a14 ∧ ∃ x38 : Int, w22.cell? ((a14.add (x8.toNat * 5)).add 1) = some (.int .i64 x38) ∧ 0 ≤ x8 ∧ x8 < (n3 : Int) ∧ ∃ a15, A3 = some a15 ∧ ∃ x39 : Int, w22.cell? ((a15.add (x8.toNat * 5)).add 2) = some (.int .i64 x39) ∧ (x38 ≠ x39 → (∀ w34, Wk.Drawn w22 w34 → ((vc_arbiterlaw13_EufSound_J5 K) true w34))) ∧ (¬ (x38 ≠ x39) → (0 ≤ x8 ∧ x8 < (n3 : Int) ∧ ∃ a16, A3 = some a16 ∧ ∃ x40 : Int, w22.cell? ((a16.add (x8.toNat * 5)).add 1) = some (.int .i64 x40) ∧ (x40 < 0 → (∀ w35, Wk.Drawn w22 w35 → ((vc_arbiterlaw13_EufSound_J5 K) true w35))) ∧ (¬ (x40 < 0) → (0 ≤ x8 ∧ x8 < (n3 : Int) ∧ ∃ a17, A3 = some a17 ∧ ∃ x41 : Int, w22.cell? ((a17.add (x8.toNat * 5)).add 1) = some (.int .i64 x41) ∧ ((n1 : Int) ≤ x41 → (∀ w36, Wk.Drawn w22 w36 → ((vc_arbiterlaw13_EufSound_J5 K) true w36))) ∧ (¬ ((n1 : Int) ≤ x41) → (0 ≤ x8 ∧ x8 < (n3 : Int) ∧ ∃ a18, A3 = some a18 ∧ ∃ A7 : Option Addr, ∃ n7 : Nat, ∃ c7 : Nat, w22.cell? ((a18.add (x8.toNat * 5)).add 4) = some (.slice A7 n7 c7) ∧ (0 < (n7 : Int) → (∀ w37, Wk.Drawn w22 w37 → ((vc_arbiterlaw13_EufSound_J5 K) true w37))) ∧ (¬ (0 < (n7 : Int)) → (0 ≤ x8 ∧ x8 < (n3 : Int) ∧ ∃ a19, A3 = some a19 ∧ ∃ x42 : Int, w22.cell? ((a19.add (x8.toNat * 5)).add 3) = some (.int .i64 x42) ∧ ∀ w38, Wk.Drawn w22 w38 → ((vc_arbiterlaw13_EufSound_J5 K) (decide (x42 ≠ 0)) w38))))))))))))))))
def vc_arbiterlaw13_EufSound_J7 (A1 : Option Addr) (n1 : Nat) (c1 : Nat) (A4 : Option Addr) (n4 : Nat) (c4 : Nat) (w15 : World) (n2 : Nat) (A2 : Option Addr) (K : Bool → World → Prop) (x8 : Int) (n3 : Nat) (A3 : Option Addr) (x12 : Int) : Prop :=
  Calls P F.arbiterlaw13_worth #[(.slice A1 n1 c1), (.slice A4 n4 c4), (.int .i64 (IntKind.wrap .i64 (1 + (Int.tmod x12 8))))] w15 (Wk.Ret fun v9 w16 => ∃ A5 : Option Addr, ∃ n5 : Nat, ∃ c5 : Nat, v9 = (.slice A5 n5 c5) ∧ ∃ I1 : Nat → Int → World → Prop, (∃ k1, I1 k1 0 w16) ∧ ∀ k1 (x13 : Int) (w17 : World), I1 k1 x13 w17 → ((x13 < (n2 : Int) → (0 ≤ x13 ∧ x13 < (n2 : Int) ∧ ∃ a1, A2 = some a1 ∧ ∃ x14 : Int, w17.cell? ((a1.add (x13.toNat * 5)).add 1) = some (.int .i64 x14) ∧ (0 ≤ x14 → (0 ≤ x13 ∧ x13 < (n2 : Int) ∧ ∃ a2, A2 = some a2 ∧ ∃ x15 : Int, w17.cell? ((a2.add (x13.toNat * 5)).add 2) = some (.int .i64 x15) ∧ (0 ≤ x15 → (0 ≤ x13 ∧ x13 < (n2 : Int) ∧ ∃ a3, A2 = some a3 ∧ ∃ x16 : Int, w17.cell? ((a3.add (x13.toNat * 5)).add 1) = some (.int .i64 x16) ∧ (x16 < (n1 : Int) → (0 ≤ x13 ∧ x13 < (n2 : Int) ∧ ∃ a4, A2 = some a4 ∧ ∃ x17 : Int, w17.cell? ((a4.add (x13.toNat * 5)).add 2) = some (.int .i64 x17) ∧ (vc_arbiterlaw13_EufSound_J3 x13 n2 A2 w17 n5 A5 K k1 I1) (decide (x17 < (n1 : Int))))) ∧ (¬ (x16 < (n1 : Int)) → ((vc_arbiterlaw13_EufSound_J3 x13 n2 A2 w17 n5 A5 K k1 I1) false)))) ∧ (¬ (0 ≤ x15) → ((vc_arbiterlaw13_EufSound_J3 x13 n2 A2 w17 n5 A5 K k1 I1) false)))) ∧ (¬ (0 ≤ x14) → ((vc_arbiterlaw13_EufSound_J3 x13 n2 A2 w17 n5 A5 K k1 I1) false)))) ∧ (¬ (x13 < (n2 : Int)) → ((x8 = (-1) → ((vc_arbiterlaw13_EufSound_J6 w17 n3 A3 K n1 n5 A5 x8) (n3 : Int))) ∧ (¬ (x8 = (-1)) → ((vc_arbiterlaw13_EufSound_J6 w17 n3 A3 K n1 n5 A5 x8) x8))))))
def vc_arbiterlaw13_EufSound_J8 (K : Bool → World → Prop) (x1 : Int) (A1 : Option Addr) (n1 : Nat) (c1 : Nat) (A4 : Option Addr) (n4 : Nat) (c4 : Nat) (n2 : Nat) (A2 : Option Addr) (x8 : Int) (n3 : Nat) (A3 : Option Addr) (b5 : Bool) (w15 : World) : Prop :=
  (b5 = true → (K false w15)) ∧ (b5 = false → ((x1 < 1 → ((vc_arbiterlaw13_EufSound_J7 A1 n1 c1 A4 n4 c4 w15 n2 A2 K x8 n3 A3) 1)) ∧ (¬ (x1 < 1) → ((vc_arbiterlaw13_EufSound_J7 A1 n1 c1 A4 n4 c4 w15 n2 A2 K x8 n3 A3) x1))))
def vc_arbiterlaw13_EufSound_J9 (K : Bool → World → Prop) (A1 : Option Addr) (n1 : Nat) (c1 : Nat) (A2 : Option Addr) (n2 : Nat) (c2 : Nat) (A3 : Option Addr) (n3 : Nat) (c3 : Nat) (x1 : Int) (A4 : Option Addr) (n4 : Nat) (c4 : Nat) (b2 : Bool) (w7 : World) : Prop :=
  (b2 = true → (K false w7)) ∧ (b2 = false → (Calls P F.euf_Audit #[(.slice A1 n1 c1), (.slice A2 n2 c2), (.slice A3 n3 c3)] w7 (Wk.Ret fun v5 w10 => ∃ x8 : Int, ∃ x9 : Int, v5 = (.tuple #[(.int .i64 x8), (.int .i64 x9)]) ∧ Calls P F.arbiterlaw13_sound #[(.slice A1 n1 c1)] w10 (Wk.Ret fun v6 w11 => ∃ b3 : Bool, v6 = (.bool b3) ∧ ((!b3) = true → ((x8 = 0 → (Calls P F.arbiterlaw13_no #[(.int .i64 x9)] w11 (Wk.Ret fun v7 w12 => ∃ x10 : Int, v7 = (.int .i64 x10) ∧ (vc_arbiterlaw13_EufSound_J1 K) (decide (x10 = 80)) w12))) ∧ (¬ (x8 = 0) → ((vc_arbiterlaw13_EufSound_J1 K) false w11)))) ∧ ((!b3) = false → (Calls P F.arbiterlaw13_no #[(.int .i64 x9)] w11 (Wk.Ret fun v8 w14 => ∃ x11 : Int, v8 = (.int .i64 x11) ∧ (x11 ≠ 0 → ((vc_arbiterlaw13_EufSound_J8 K x1 A1 n1 c1 A4 n4 c4 n2 A2 x8 n3 A3) true w14)) ∧ (¬ (x11 ≠ 0) → ((x8 < (-1) → ((vc_arbiterlaw13_EufSound_J8 K x1 A1 n1 c1 A4 n4 c4 n2 A2 x8 n3 A3) true w14)) ∧ (¬ (x8 < (-1)) → ((vc_arbiterlaw13_EufSound_J8 K x1 A1 n1 c1 A4 n4 c4 n2 A2 x8 n3 A3) (decide ((n3 : Int) ≤ x8)) w14)))))))))))
def vc_arbiterlaw13_EufSound (A1 : Option Addr) (n1 : Nat) (c1 : Nat) (A2 : Option Addr) (n2 : Nat) (c2 : Nat) (A3 : Option Addr) (n3 : Nat) (c3 : Nat) (A4 : Option Addr) (n4 : Nat) (c4 : Nat) (x1 : Int) (K : Bool → World → Prop) (w : World) : Prop :=
  ∀ (p1 : Addr) (w1 : World), Wk.New w (.cells #[(.int .i64 2), (.int .i64 0), (.int .i64 0), (.int .i64 0), (.slice none 0 0)] T.api_Link) p1 w1 → (∀ (p2 : Addr) (w2 : World), Wk.New w1 (.cells #[(.int .i64 0), (.slice none 0 0)] T.api_Flat) p2 w2 → (Calls P F.euf_Audit #[(.slice (some p2) 1 1), (.slice none 0 0), (.slice (some p1) 1 1)] w2 (Wk.Ret fun v1 w3 => ∃ x2 : Int, ∃ x3 : Int, v1 = (.tuple #[(.int .i64 x2), (.int .i64 x3)]) ∧ ∀ (p3 : Addr) (w4 : World), Wk.New w3 (.cells #[(.int .i64 0), (.slice none 0 0)] T.api_Flat) p3 w4 → (∀ (p4 : Addr) (w5 : World), Wk.New w4 (.cells #[(.int .i64 1), (.int .i64 0), (.int .i64 0), (.int .i64 1), (.slice none 0 0)] T.api_Link) p4 w5 → (Calls P F.euf_Audit #[(.slice (some p3) 1 1), (.slice none 0 0), (.slice (some p4) 1 1)] w5 (Wk.Ret fun v2 w6 => ∃ x4 : Int, ∃ x5 : Int, v2 = (.tuple #[(.int .i64 x4), (.int .i64 x5)]) ∧ (x2 ≠ (-1) → ((vc_arbiterlaw13_EufSound_J9 K A1 n1 c1 A2 n2 c2 A3 n3 c3 x1 A4 n4 c4) true w6)) ∧ (¬ (x2 ≠ (-1)) → ((x4 ≠ 0 → ((vc_arbiterlaw13_EufSound_J9 K A1 n1 c1 A2 n2 c2 A3 n3 c3 x1 A4 n4 c4) true w6)) ∧ (¬ (x4 ≠ 0) → (Calls P F.arbiterlaw13_no #[(.int .i64 x3)] w6 (Wk.Ret fun v3 w8 => ∃ x6 : Int, v3 = (.int .i64 x6) ∧ (x6 ≠ 0 → ((vc_arbiterlaw13_EufSound_J9 K A1 n1 c1 A2 n2 c2 A3 n3 c3 x1 A4 n4 c4) true w8)) ∧ (¬ (x6 ≠ 0) → (Calls P F.arbiterlaw13_no #[(.int .i64 x5)] w8 (Wk.Ret fun v4 w9 => ∃ x7 : Int, v4 = (.int .i64 x7) ∧ (vc_arbiterlaw13_EufSound_J9 K A1 n1 c1 A2 n2 c2 A3 n3 c3 x1 A4 n4 c4) (decide (x7 ≠ 0)) w9))))))))))))))
set_option maxHeartbeats 2000000 in
set_option maxRecDepth 20000 in
theorem ok_arbiterlaw13_EufSound (A1 : Option Addr) (n1 : Nat) (c1 : Nat) (A2 : Option Addr) (n2 : Nat) (c2 : Nat) (A3 : Option Addr) (n3 : Nat) (c3 : Nat) (A4 : Option Addr) (n4 : Nat) (c4 : Nat) (x1 : Int) (K : Bool → World → Prop) (w : World) (H : vc_arbiterlaw13_EufSound A1 n1 c1 A2 n2 c2 A3 n3 c3 A4 n4 c4 x1 K w) : Calls P F.arbiterlaw13_EufSound #[(.slice A1 n1 c1), (.slice A2 n2 c2), (.slice A3 n3 c3), (.slice A4 n4 c4), (.int .i64 x1)] w (Wk.Ret fun v w' => ∃ b1 : Bool, v = (.bool b1) ∧ K b1 w') := by
  unfold vc_arbiterlaw13_EufSound at H
  refine Wk.calls_of (P := P) Try.func4 rfl [(0, (.slice A1 n1 c1)), (1, (.slice A2 n2 c2)), (2, (.slice A3 n3 c3)), (3, (.slice A4 n4 c4)), (4, (.int .i64 x1))] 271 rfl rfl (fun p hp => by simp only [List.mem_cons, List.not_mem_nil, or_false] at hp; rcases hp with rfl | rfl | rfl | rfl | rfl <;> rfl) ?_
  refine Wk.cw_seq ?_
  refine Wk.cw_region ?_
  refine Wk.sl_v rfl rfl (Wk.wanted_none rfl) (fun a ha => Wk.x_assign (ha.ev rfl)) ?_
  refine Wk.sl_nil ?_
  refine Wk.nx_code (Wk.cw_sub (e' := [(0, (.slice A1 n1 c1)), (1, (.slice A2 n2 c2)), (2, (.slice A3 n3 c3)), (3, (.slice A4 n4 c4)), (4, (.int .i64 x1))]) (Wk.sub.cons rfl (Wk.sub.cons rfl (Wk.sub.cons rfl (Wk.sub.cons rfl (Wk.sub.cons rfl (Wk.sub.nil)))))) ?_)
  refine Wk.cw_seq ?_
  refine Wk.cw_region ?_
  refine Wk.sl_v rfl rfl (Wk.wanted_none rfl) (fun a ha => Wk.x_buildP (u := (.agg #[(.int .i64 2), (.int .i64 0), (.int .i64 0), (.int .i64 0), (.slice none 0 0)])) (qs := [(0, (.int .i64 2)), (1, (.int .i64 0)), (2, (.int .i64 0))]) (by simp only [List.map_cons, List.map_nil, ha.ev (x := (.const (.int .i64 2))) rfl, ha.ev (x := (.const (.int .i64 0))) rfl, ha.ev (x := (.const (.int .i64 0))) rfl]) (by kernel_rfl)) ?_
  refine Wk.sl_new (f := (fun p => .slice (some p) 1 1)) rfl rfl (Wk.wanted_none rfl) (fun a ha => Wk.x_buildSlice (u := .slice (some ⟨_, 0, none⟩) 1 1) (w' := World.alloc _ (.cells #[(.int .i64 2), (.int .i64 0), (.int .i64 0), (.int .i64 0), (.slice none 0 0)] T.api_Link)) (qs := [(0, (.agg #[(.int .i64 2), (.int .i64 0), (.int .i64 0), (.int .i64 0), (.slice none 0 0)]))]) (by simp only [List.map_cons, List.map_nil, ha.ev (x := (.tmp 24)) rfl]) (by kernel_rfl)) ?_
  intro p1 w1 hN; replace H := H _ _ hN
  refine Wk.sl_v rfl rfl (Wk.wanted_none rfl) (fun a ha => Wk.x_assign (ha.ev rfl)) ?_
  refine Wk.sl_nil ?_
  refine Wk.nx_code (Wk.cw_sub (e' := [(0, (.slice A1 n1 c1)), (1, (.slice A2 n2 c2)), (2, (.slice A3 n3 c3)), (3, (.slice A4 n4 c4)), (4, (.int .i64 x1)), (11, (.slice (some p1) 1 1))]) (Wk.sub.cons rfl (Wk.sub.cons rfl (Wk.sub.cons rfl (Wk.sub.cons rfl (Wk.sub.cons rfl (Wk.sub.cons rfl (Wk.sub.nil))))))) ?_)
  refine Wk.cw_seq ?_
  refine Wk.cw_region ?_
  refine Wk.sl_v rfl rfl (Wk.wanted_none rfl) (fun a ha => Wk.x_buildP (u := (.agg #[(.int .i64 0), (.slice none 0 0)])) (qs := [(0, (.int .i64 0))]) (by simp only [List.map_cons, List.map_nil, ha.ev (x := (.const (.int .i64 0))) rfl]) (by kernel_rfl)) ?_
  refine Wk.sl_new (f := (fun p => .slice (some p) 1 1)) rfl rfl (Wk.wanted_none rfl) (fun a ha => Wk.x_buildSlice (u := .slice (some ⟨_, 0, none⟩) 1 1) (w' := World.alloc _ (.cells #[(.int .i64 0), (.slice none 0 0)] T.api_Flat)) (qs := [(0, (.agg #[(.int .i64 0), (.slice none 0 0)]))]) (by simp only [List.map_cons, List.map_nil, ha.ev (x := (.tmp 27)) rfl]) (by kernel_rfl)) ?_
  intro p2 w2 hN; replace H := H _ _ hN
  refine Wk.sl_v rfl rfl (Wk.wanted_none rfl) (fun a ha => Wk.x_move (ha.ev rfl)) ?_
  refine Wk.sl_call rfl rfl (Wk.wanted_none rfl) (fun a ha => Wk.x_call0 (ha.ev rfl) (ha.evs rfl) FF.callable_euf_Audit) H ?_
  rintro _ w3 ⟨x2, x3, rfl, H⟩
  refine Wk.sl_v rfl rfl (Wk.wanted_none rfl) (fun a ha => Wk.x_move (ha.ev rfl)) ?_
  refine Wk.sl_v rfl rfl (Wk.wanted_none rfl) (fun a ha => Wk.x_extract (ha.ev rfl) rfl) ?_
  refine Wk.sl_v rfl rfl (Wk.wanted_none rfl) (fun a ha => Wk.x_extract (ha.ev rfl) rfl) ?_
  refine Wk.sl_v rfl rfl (Wk.wanted_none rfl) (fun a ha => Wk.x_assign (ha.ev rfl)) ?_
  refine Wk.sl_v rfl rfl (Wk.wanted_none rfl) (fun a ha => Wk.x_assign (ha.ev rfl)) ?_
  refine Wk.sl_nil ?_
  refine Wk.nx_code (Wk.cw_sub (e' := [(0, (.slice A1 n1 c1)), (1, (.slice A2 n2 c2)), (2, (.slice A3 n3 c3)), (3, (.slice A4 n4 c4)), (4, (.int .i64 x1)), (12, (.int .i64 x2)), (13, (.int .i64 x3))]) (Wk.sub.cons rfl (Wk.sub.cons rfl (Wk.sub.cons rfl (Wk.sub.cons rfl (Wk.sub.cons rfl (Wk.sub.cons rfl (Wk.sub.cons rfl (Wk.sub.nil)))))))) ?_)
  refine Wk.cw_seq ?_
  refine Wk.cw_region ?_
  refine Wk.sl_v rfl rfl (Wk.wanted_none rfl) (fun a ha => Wk.x_buildP (u := (.agg #[(.int .i64 0), (.slice none 0 0)])) (qs := [(0, (.int .i64 0))]) (by simp only [List.map_cons, List.map_nil, ha.ev (x := (.const (.int .i64 0))) rfl]) (by kernel_rfl)) ?_
  refine Wk.sl_new (f := (fun p => .slice (some p) 1 1)) rfl rfl (Wk.wanted_none rfl) (fun a ha => Wk.x_buildSlice (u := .slice (some ⟨_, 0, none⟩) 1 1) (w' := World.alloc _ (.cells #[(.int .i64 0), (.slice none 0 0)] T.api_Flat)) (qs := [(0, (.agg #[(.int .i64 0), (.slice none 0 0)]))]) (by simp only [List.map_cons, List.map_nil, ha.ev (x := (.tmp 34)) rfl]) (by kernel_rfl)) ?_
  intro p3 w4 hN; replace H := H _ _ hN
  refine Wk.sl_v rfl rfl (Wk.wanted_none rfl) (fun a ha => Wk.x_buildP (u := (.agg #[(.int .i64 1), (.int .i64 0), (.int .i64 0), (.int .i64 1), (.slice none 0 0)])) (qs := [(0, (.int .i64 1)), (1, (.int .i64 0)), (2, (.int .i64 0)), (3, (.int .i64 1))]) (by simp only [List.map_cons, List.map_nil, ha.ev (x := (.const (.int .i64 1))) rfl, ha.ev (x := (.const (.int .i64 0))) rfl, ha.ev (x := (.const (.int .i64 0))) rfl, ha.ev (x := (.const (.int .i64 1))) rfl]) (by kernel_rfl)) ?_
  refine Wk.sl_new (f := (fun p => .slice (some p) 1 1)) rfl rfl (Wk.wanted_none rfl) (fun a ha => Wk.x_buildSlice (u := .slice (some ⟨_, 0, none⟩) 1 1) (w' := World.alloc _ (.cells #[(.int .i64 1), (.int .i64 0), (.int .i64 0), (.int .i64 1), (.slice none 0 0)] T.api_Link)) (qs := [(0, (.agg #[(.int .i64 1), (.int .i64 0), (.int .i64 0), (.int .i64 1), (.slice none 0 0)]))]) (by simp only [List.map_cons, List.map_nil, ha.ev (x := (.tmp 36)) rfl]) (by kernel_rfl)) ?_
  intro p4 w5 hN; replace H := H _ _ hN
  refine Wk.sl_call rfl rfl (Wk.wanted_none rfl) (fun a ha => Wk.x_call0 (ha.ev rfl) (ha.evs rfl) FF.callable_euf_Audit) H ?_
  rintro _ w6 ⟨x4, x5, rfl, H⟩
  refine Wk.sl_v rfl rfl (Wk.wanted_none rfl) (fun a ha => Wk.x_move (ha.ev rfl)) ?_
  refine Wk.sl_v rfl rfl (Wk.wanted_none rfl) (fun a ha => Wk.x_extract (ha.ev rfl) rfl) ?_
  refine Wk.sl_v rfl rfl (Wk.wanted_none rfl) (fun a ha => Wk.x_extract (ha.ev rfl) rfl) ?_
  refine Wk.sl_v rfl rfl (Wk.wanted_none rfl) (fun a ha => Wk.x_assign (ha.ev rfl)) ?_
  refine Wk.sl_v rfl rfl (Wk.wanted_none rfl) (fun a ha => Wk.x_assign (ha.ev rfl)) ?_
  refine Wk.sl_nil ?_
  refine Wk.nx_code (Wk.cw_sub (e' := [(0, (.slice A1 n1 c1)), (1, (.slice A2 n2 c2)), (2, (.slice A3 n3 c3)), (3, (.slice A4 n4 c4)), (4, (.int .i64 x1)), (12, (.int .i64 x2)), (13, (.int .i64 x3)), (14, (.int .i64 x4)), (15, (.int .i64 x5))]) (Wk.sub.cons rfl (Wk.sub.cons rfl (Wk.sub.cons rfl (Wk.sub.cons rfl (Wk.sub.cons rfl (Wk.sub.cons rfl (Wk.sub.cons rfl (Wk.sub.cons rfl (Wk.sub.cons rfl (Wk.sub.nil)))))))))) ?_)
  refine Wk.cw_seq ?_
  refine Wk.cw_join (fun a w => ∃ b2 : Bool, Wk.Ok 271 [(0, (.slice A1 n1 c1)), (1, (.slice A2 n2 c2)), (2, (.slice A3 n3 c3)), (3, (.slice A4 n4 c4)), (4, (.int .i64 x1)), (56, (.bool b2))] a ∧ vc_arbiterlaw13_EufSound_J9 K A1 n1 c1 A2 n2 c2 A3 n3 c3 x1 A4 n4 c4 b2 w) ?_ ?_
  · rintro a w7 ⟨b2, ha, H⟩
    unfold vc_arbiterlaw13_EufSound_J9 at H
    refine (?_ : Wk.CW _ _ _ 271 [(0, (.slice A1 n1 c1)), (1, (.slice A2 n2 c2)), (2, (.slice A3 n3 c3)), (3, (.slice A4 n4 c4)), (4, (.int .i64 x1)), (56, (.bool b2))] _) a ha
    refine Wk.cw_cond rfl (fun hb => ?_) (fun hb => ?_)
    · replace H := H.1 hb
      refine Wk.cw_seq ?_
      refine Wk.cw_region ?_
      refine Wk.sl_v rfl rfl (Wk.wanted_none rfl) (fun a ha => Wk.x_assign (ha.ev rfl)) ?_
      refine Wk.sl_nil ?_
      refine Wk.nx_code (Wk.cw_sub (e' := [(10, (.bool false))]) (Wk.sub.cons rfl (Wk.sub.nil)) ?_)
      refine Wk.cw_ret ?_
      refine Wk.nx_ret_then ?_
      exact Wk.nx_body_ret (Wk.res1 rfl rfl) ⟨_, rfl, _, rfl, H⟩
    · replace H := H.2 hb
      refine Wk.cw_skip ?_
      refine Wk.nx_code (Wk.cw_sub (e' := [(0, (.slice A1 n1 c1)), (1, (.slice A2 n2 c2)), (2, (.slice A3 n3 c3)), (3, (.slice A4 n4 c4)), (4, (.int .i64 x1))]) (Wk.sub.cons rfl (Wk.sub.cons rfl (Wk.sub.cons rfl (Wk.sub.cons rfl (Wk.sub.cons rfl (Wk.sub.nil)))))) ?_)
      refine Wk.cw_seq ?_
      refine Wk.cw_region ?_
      refine Wk.sl_v rfl rfl (Wk.wanted_none rfl) (fun a ha => Wk.x_move (ha.ev rfl)) ?_
      refine Wk.sl_v rfl rfl (Wk.wanted_none rfl) (fun a ha => Wk.x_move (ha.ev rfl)) ?_
      refine Wk.sl_v rfl rfl (Wk.wanted_none rfl) (fun a ha => Wk.x_move (ha.ev rfl)) ?_
      refine Wk.sl_call rfl rfl (Wk.wanted_none rfl) (fun a ha => Wk.x_call0 (ha.ev rfl) (ha.evs rfl) FF.callable_euf_Audit) H ?_
      rintro _ w10 ⟨x8, x9, rfl, H⟩
      refine Wk.sl_v rfl rfl (Wk.wanted_none rfl) (fun a ha => Wk.x_move (ha.ev rfl)) ?_
      refine Wk.sl_v rfl rfl (Wk.wanted_none rfl) (fun a ha => Wk.x_extract (ha.ev rfl) rfl) ?_
      refine Wk.sl_v rfl rfl (Wk.wanted_none rfl) (fun a ha => Wk.x_extract (ha.ev rfl) rfl) ?_
      refine Wk.sl_v rfl rfl (Wk.wanted_none rfl) (fun a ha => Wk.x_assign (ha.ev rfl)) ?_
      refine Wk.sl_v rfl rfl (Wk.wanted_none rfl) (fun a ha => Wk.x_assign (ha.ev rfl)) ?_
      refine Wk.sl_nil ?_
      refine Wk.nx_code (Wk.cw_sub (e' := [(0, (.slice A1 n1 c1)), (1, (.slice A2 n2 c2)), (2, (.slice A3 n3 c3)), (3, (.slice A4 n4 c4)), (4, (.int .i64 x1)), (16, (.int .i64 x8)), (17, (.int .i64 x9))]) (Wk.sub.cons rfl (Wk.sub.cons rfl (Wk.sub.cons rfl (Wk.sub.cons rfl (Wk.sub.cons rfl (Wk.sub.cons rfl (Wk.sub.cons rfl (Wk.sub.nil)))))))) ?_)
      refine Wk.cw_seq ?_
      refine Wk.cw_seq ?_
      refine Wk.cw_region ?_
      refine Wk.sl_v rfl rfl (Wk.wanted_none rfl) (fun a ha => Wk.x_move (ha.ev rfl)) ?_
      refine Wk.sl_call rfl rfl (Wk.wanted_none rfl) (fun a ha => Wk.x_call0 (ha.ev rfl) (ha.evs rfl) FF.callable_arbiterlaw13_sound) H ?_
      rintro _ w11 ⟨b3, rfl, H⟩
      refine Wk.sl_v rfl rfl (Wk.wanted_none rfl) (fun a ha => Wk.x_unOp (ha.ev rfl) Wk.u_not) ?_
      refine Wk.sl_nil ?_
      refine Wk.nx_code (Wk.cw_sub (e' := [(0, (.slice A1 n1 c1)), (1, (.slice A2 n2 c2)), (2, (.slice A3 n3 c3)), (3, (.slice A4 n4 c4)), (4, (.int .i64 x1)), (16, (.int .i64 x8)), (17, (.int .i64 x9)), (66, (.bool (!b3)))]) (Wk.sub.cons rfl (Wk.sub.cons rfl (Wk.sub.cons rfl (Wk.sub.cons rfl (Wk.sub.cons rfl (Wk.sub.cons rfl (Wk.sub.cons rfl (Wk.sub.cons rfl (Wk.sub.nil))))))))) ?_)
      refine Wk.cw_cond rfl (fun hb => ?_) (fun hb => ?_)
      · replace H := H.1 hb
        refine Wk.cw_join (fun a w => ∃ b4 : Bool, Wk.Ok 271 [(10, (.bool b4))] a ∧ vc_arbiterlaw13_EufSound_J1 K b4 w) ?_ ?_
        · rintro a w13 ⟨b4, ha, H⟩
          unfold vc_arbiterlaw13_EufSound_J1 at H
          refine (?_ : Wk.CW _ _ _ 271 [(10, (.bool b4))] _) a ha
          refine Wk.cw_ret ?_
          refine Wk.nx_ret_then ?_
          exact Wk.nx_body_ret (Wk.res1 rfl rfl) ⟨_, rfl, _, rfl, H⟩
        · refine Wk.cw_region ?_
          refine Wk.sl_v rfl rfl (Wk.wanted_none rfl) (fun a ha => Wk.x_move (ha.ev rfl)) ?_
          refine Wk.sl_v rfl rfl (Wk.wanted_none rfl) (fun a ha => Wk.x_binOp (ha.ev rfl) (ha.ev rfl) Wk.o_eql) ?_
          rcases Classical.em (x8 = 0) with hb | hb
          · replace H := H.1 hb
            refine Wk.sl_v rfl rfl (Wk.wanted_none rfl) (fun a ha => Wk.o_t (Wk.x_move (ha.ev rfl)) hb) ?_
            refine Wk.sl_v rfl rfl (Wk.wanted_some rfl rfl rfl) (fun a ha => Wk.x_move (ha.ev rfl)) ?_
            refine Wk.sl_call rfl rfl (Wk.wanted_some rfl rfl rfl) (fun a ha => Wk.x_call0 (ha.ev rfl) (ha.evs rfl) FF.callable_arbiterlaw13_no) H ?_
            rintro _ w12 ⟨x10, rfl, H⟩
            refine Wk.sl_v rfl rfl (Wk.wanted_some rfl rfl rfl) (fun a ha => Wk.x_binOp (ha.ev rfl) (ha.ev rfl) Wk.o_eql) ?_
            refine Wk.sl_v rfl rfl (Wk.wanted_none rfl) (fun a ha => Wk.x_pick_t (ha.ev rfl) (ha.ev rfl)) ?_
            refine Wk.sl_v rfl rfl (Wk.wanted_none rfl) (fun a ha => Wk.x_assign (ha.ev rfl)) ?_
            refine Wk.sl_nil ?_
            exact Wk.nx_to fun a ha => ⟨(decide (x10 = 80)), ha.weaken (Wk.sub.cons rfl (Wk.sub.nil)), H⟩
          · replace H := H.2 hb
            refine Wk.sl_v rfl rfl (Wk.wanted_none rfl) (fun a ha => Wk.o_f (Wk.x_move (ha.ev rfl)) hb) ?_
            refine Wk.sl_skip rfl rfl (Wk.wanted_not rfl rfl rfl rfl) ?_
            refine Wk.sl_skip rfl rfl (Wk.wanted_not rfl rfl rfl rfl) ?_
            refine Wk.sl_skip rfl rfl (Wk.wanted_not rfl rfl rfl rfl) ?_
            refine Wk.sl_v rfl rfl (Wk.wanted_none rfl) (fun a ha => Wk.x_pick_f (ha.ev rfl) (ha.ev rfl)) ?_
            refine Wk.sl_v rfl rfl (Wk.wanted_none rfl) (fun a ha => Wk.x_assign (ha.ev rfl)) ?_
            refine Wk.sl_nil ?_
            exact Wk.nx_to fun a ha => ⟨false, ha.weaken (Wk.sub.cons rfl (Wk.sub.nil)), H⟩
      · replace H := H.2 hb
        refine Wk.cw_skip ?_
        refine Wk.nx_code (Wk.cw_sub (e' := [(0, (.slice A1 n1 c1)), (1, (.slice A2 n2 c2)), (2, (.slice A3 n3 c3)), (3, (.slice A4 n4 c4)), (4, (.int .i64 x1)), (16, (.int .i64 x8)), (17, (.int .i64 x9))]) (Wk.sub.cons rfl (Wk.sub.cons rfl (Wk.sub.cons rfl (Wk.sub.cons rfl (Wk.sub.cons rfl (Wk.sub.cons rfl (Wk.sub.cons rfl (Wk.sub.nil)))))))) ?_)
        refine Wk.cw_seq ?_
        refine Wk.cw_join (fun a w => ∃ b5 : Bool, Wk.Ok 271 [(0, (.slice A1 n1 c1)), (1, (.slice A2 n2 c2)), (2, (.slice A3 n3 c3)), (3, (.slice A4 n4 c4)), (4, (.int .i64 x1)), (16, (.int .i64 x8)), (86, (.bool b5))] a ∧ vc_arbiterlaw13_EufSound_J8 K x1 A1 n1 c1 A4 n4 c4 n2 A2 x8 n3 A3 b5 w) ?_ ?_
        · rintro a w15 ⟨b5, ha, H⟩
          unfold vc_arbiterlaw13_EufSound_J8 at H
          refine (?_ : Wk.CW _ _ _ 271 [(0, (.slice A1 n1 c1)), (1, (.slice A2 n2 c2)), (2, (.slice A3 n3 c3)), (3, (.slice A4 n4 c4)), (4, (.int .i64 x1)), (16, (.int .i64 x8)), (86, (.bool b5))] _) a ha
          refine Wk.cw_cond rfl (fun hb => ?_) (fun hb => ?_)
          · replace H := H.1 hb
            refine Wk.cw_seq ?_
            refine Wk.cw_region ?_
            refine Wk.sl_v rfl rfl (Wk.wanted_none rfl) (fun a ha => Wk.x_assign (ha.ev rfl)) ?_
            refine Wk.sl_nil ?_
            refine Wk.nx_code (Wk.cw_sub (e' := [(10, (.bool false))]) (Wk.sub.cons rfl (Wk.sub.nil)) ?_)
            refine Wk.cw_ret ?_
            refine Wk.nx_ret_then ?_
            exact Wk.nx_body_ret (Wk.res1 rfl rfl) ⟨_, rfl, _, rfl, H⟩
          · replace H := H.2 hb
            refine Wk.cw_skip ?_
            refine Wk.nx_code (Wk.cw_sub (e' := [(0, (.slice A1 n1 c1)), (1, (.slice A2 n2 c2)), (2, (.slice A3 n3 c3)), (3, (.slice A4 n4 c4)), (4, (.int .i64 x1)), (16, (.int .i64 x8))]) (Wk.sub.cons rfl (Wk.sub.cons rfl (Wk.sub.cons rfl (Wk.sub.cons rfl (Wk.sub.cons rfl (Wk.sub.cons rfl (Wk.sub.nil))))))) ?_)
            refine Wk.cw_join_still (fun a => ∃ x12 : Int, Wk.Ok 271 [(0, (.slice A1 n1 c1)), (1, (.slice A2 n2 c2)), (2, (.slice A3 n3 c3)), (3, (.slice A4 n4 c4)), (4, (.int .i64 x12)), (16, (.int .i64 x8))] a ∧ vc_arbiterlaw13_EufSound_J7 A1 n1 c1 A4 n4 c4 w15 n2 A2 K x8 n3 A3 x12) ?_ ?_
            · rintro a ⟨x12, ha, H⟩
              unfold vc_arbiterlaw13_EufSound_J7 at H
              refine (?_ : Wk.CW _ _ _ 271 [(0, (.slice A1 n1 c1)), (1, (.slice A2 n2 c2)), (2, (.slice A3 n3 c3)), (3, (.slice A4 n4 c4)), (4, (.int .i64 x12)), (16, (.int .i64 x8))] _) a ha
              refine Wk.cw_seq ?_
              refine Wk.cw_region ?_
              refine Wk.sl_v rfl rfl (Wk.wanted_none rfl) (fun a ha => Wk.x_move (ha.ev rfl)) ?_
              refine Wk.sl_v rfl rfl (Wk.wanted_none rfl) (fun a ha => Wk.x_binOp (ha.ev rfl) (ha.ev rfl) (Wk.o_rem (by decide))) ?_
              refine Wk.sl_v rfl rfl (Wk.wanted_none rfl) (fun a ha => Wk.x_binOp (ha.ev rfl) (ha.ev rfl) Wk.o_add) ?_
              refine Wk.sl_v rfl rfl (Wk.wanted_none rfl) (fun a ha => Wk.x_assign (ha.ev rfl)) ?_
              refine Wk.sl_nil ?_
              refine Wk.nx_code (Wk.cw_sub (e' := [(0, (.slice A1 n1 c1)), (1, (.slice A2 n2 c2)), (2, (.slice A3 n3 c3)), (3, (.slice A4 n4 c4)), (4, (.int .i64 (IntKind.wrap .i64 (1 + (Int.tmod x12 8))))), (16, (.int .i64 x8))]) (Wk.sub.cons rfl (Wk.sub.cons rfl (Wk.sub.cons rfl (Wk.sub.cons rfl (Wk.sub.cons rfl (Wk.sub.cons rfl (Wk.sub.nil))))))) ?_)
              refine Wk.cw_seq ?_
              refine Wk.cw_region ?_
              refine Wk.sl_v rfl rfl (Wk.wanted_none rfl) (fun a ha => Wk.x_move (ha.ev rfl)) ?_
              refine Wk.sl_v rfl rfl (Wk.wanted_none rfl) (fun a ha => Wk.x_move (ha.ev rfl)) ?_
              refine Wk.sl_v rfl rfl (Wk.wanted_none rfl) (fun a ha => Wk.x_move (ha.ev rfl)) ?_
              refine Wk.sl_call rfl rfl (Wk.wanted_none rfl) (fun a ha => Wk.x_call0 (ha.ev rfl) (ha.evs rfl) FF.callable_arbiterlaw13_worth) H ?_
              rintro _ w16 ⟨A5, n5, c5, rfl, H⟩
              refine Wk.sl_v rfl rfl (Wk.wanted_none rfl) (fun a ha => Wk.x_assign (ha.ev rfl)) ?_
              refine Wk.sl_nil ?_
              refine Wk.nx_code (Wk.cw_sub (e' := [(0, (.slice A1 n1 c1)), (1, (.slice A2 n2 c2)), (2, (.slice A3 n3 c3)), (16, (.int .i64 x8)), (18, (.slice A5 n5 c5))]) (Wk.sub.cons rfl (Wk.sub.cons rfl (Wk.sub.cons rfl (Wk.sub.cons rfl (Wk.sub.cons rfl (Wk.sub.nil)))))) ?_)
              refine Wk.cw_seq ?_
              refine Wk.cw_seq ?_
              refine Wk.cw_region ?_
              refine Wk.sl_v rfl rfl (Wk.wanted_none rfl) (fun a ha => Wk.x_assign (ha.ev rfl)) ?_
              refine Wk.sl_nil ?_
              refine Wk.nx_code (Wk.cw_sub (e' := [(0, (.slice A1 n1 c1)), (1, (.slice A2 n2 c2)), (2, (.slice A3 n3 c3)), (16, (.int .i64 x8)), (18, (.slice A5 n5 c5)), (19, (.int .i64 0))]) (Wk.sub.cons rfl (Wk.sub.cons rfl (Wk.sub.cons rfl (Wk.sub.cons rfl (Wk.sub.cons rfl (Wk.sub.cons rfl (Wk.sub.nil))))))) ?_)
              refine Wk.cw_block ?_
              obtain ⟨I1, ⟨k1, hi⟩, H⟩ := H
              refine Wk.cw_loop (fun k1 a w' => ∃ x13 : Int, Wk.Ok 271 [(0, (.slice A1 n1 c1)), (1, (.slice A2 n2 c2)), (2, (.slice A3 n3 c3)), (16, (.int .i64 x8)), (18, (.slice A5 n5 c5)), (19, (.int .i64 x13))] a ∧ I1 k1 x13 w') (fun a ha => ⟨k1, 0, ha.weaken (Wk.sub.cons rfl (Wk.sub.cons rfl (Wk.sub.cons rfl (Wk.sub.cons rfl (Wk.sub.cons rfl (Wk.sub.cons rfl (Wk.sub.nil))))))), hi⟩) ?_
              rintro k1 a w17 ⟨x13, ha, hI⟩
              replace H := H k1 x13 w17 hI
              refine (?_ : Wk.CW _ _ _ 271 [(0, (.slice A1 n1 c1)), (1, (.slice A2 n2 c2)), (2, (.slice A3 n3 c3)), (16, (.int .i64 x8)), (18, (.slice A5 n5 c5)), (19, (.int .i64 x13))] _) a ha
              refine Wk.cw_seq ?_
              refine Wk.cw_seq ?_
              refine Wk.cw_region ?_
              refine Wk.sl_v rfl rfl (Wk.wanted_none rfl) (fun a ha => Wk.x_move (ha.ev rfl)) ?_
              refine Wk.sl_v rfl rfl (Wk.wanted_none rfl) (fun a ha => Wk.x_move (ha.ev rfl)) ?_
              refine Wk.sl_v rfl rfl (Wk.wanted_none rfl) (fun a ha => Wk.x_builtin (ha.evs rfl) (fun _ => Wk.l_slice TF.isslice_sl_api_Link)) ?_
              refine Wk.sl_v rfl rfl (Wk.wanted_none rfl) (fun a ha => Wk.x_binOp (ha.ev rfl) (ha.ev rfl) Wk.o_lss) ?_
              refine Wk.sl_nil ?_
              refine Wk.nx_code (Wk.cw_sub (e' := [(0, (.slice A1 n1 c1)), (1, (.slice A2 n2 c2)), (2, (.slice A3 n3 c3)), (16, (.int .i64 x8)), (18, (.slice A5 n5 c5)), (19, (.int .i64 x13)), (99, (.bool (decide (x13 < (n2 : Int)))))]) (Wk.sub.cons rfl (Wk.sub.cons rfl (Wk.sub.cons rfl (Wk.sub.cons rfl (Wk.sub.cons rfl (Wk.sub.cons rfl (Wk.sub.cons rfl (Wk.sub.nil)))))))) ?_)
              refine Wk.cw_cond_p rfl (fun hb => ?_) (fun hb => ?_)
              · replace H := H.1 hb
                refine Wk.cw_skip ?_
                refine Wk.nx_code (Wk.cw_sub (e' := [(0, (.slice A1 n1 c1)), (1, (.slice A2 n2 c2)), (2, (.slice A3 n3 c3)), (16, (.int .i64 x8)), (18, (.slice A5 n5 c5)), (19, (.int .i64 x13))]) (Wk.sub.cons rfl (Wk.sub.cons rfl (Wk.sub.cons rfl (Wk.sub.cons rfl (Wk.sub.cons rfl (Wk.sub.cons rfl (Wk.sub.nil))))))) ?_)
                refine Wk.cw_seq ?_
                refine Wk.cw_block ?_
                refine Wk.cw_join_still (fun a => ∃ b6 : Bool, Wk.Ok 271 [(0, (.slice A1 n1 c1)), (1, (.slice A2 n2 c2)), (2, (.slice A3 n3 c3)), (16, (.int .i64 x8)), (18, (.slice A5 n5 c5)), (19, (.int .i64 x13)), (20, (.bool b6))] a ∧ vc_arbiterlaw13_EufSound_J3 x13 n2 A2 w17 n5 A5 K k1 I1 b6) ?_ ?_
                · rintro a ⟨b6, ha, H⟩
                  unfold vc_arbiterlaw13_EufSound_J3 at H
                  refine (?_ : Wk.CW _ _ _ 271 [(0, (.slice A1 n1 c1)), (1, (.slice A2 n2 c2)), (2, (.slice A3 n3 c3)), (16, (.int .i64 x8)), (18, (.slice A5 n5 c5)), (19, (.int .i64 x13)), (20, (.bool b6))] _) a ha
                  refine Wk.cw_join (fun a w => ∃ b7 : Bool, Wk.Ok 271 [(0, (.slice A1 n1 c1)), (1, (.slice A2 n2 c2)), (2, (.slice A3 n3 c3)), (16, (.int .i64 x8)), (18, (.slice A5 n5 c5)), (19, (.int .i64 x13)), (163, (.bool b7))] a ∧ vc_arbiterlaw13_EufSound_J2 K k1 I1 x13 b7 w) ?_ ?_
                  · rintro a w19 ⟨b7, ha, H⟩
                    unfold vc_arbiterlaw13_EufSound_J2 at H
                    refine (?_ : Wk.CW _ _ _ 271 [(0, (.slice A1 n1 c1)), (1, (.slice A2 n2 c2)), (2, (.slice A3 n3 c3)), (16, (.int .i64 x8)), (18, (.slice A5 n5 c5)), (19, (.int .i64 x13)), (163, (.bool b7))] _) a ha
                    refine Wk.cw_cond rfl (fun hb => ?_) (fun hb => ?_)
                    · replace H := H.1 hb
                      refine Wk.cw_seq ?_
                      refine Wk.cw_region ?_
                      refine Wk.sl_v rfl rfl (Wk.wanted_none rfl) (fun a ha => Wk.x_assign (ha.ev rfl)) ?_
                      refine Wk.sl_nil ?_
                      refine Wk.nx_code (Wk.cw_sub (e' := [(10, (.bool true))]) (Wk.sub.cons rfl (Wk.sub.nil)) ?_)
                      refine Wk.cw_ret ?_
                      refine Wk.nx_ret_block ?_
                      refine Wk.nx_ret_then ?_
                      refine Wk.nx_ret_then ?_
                      refine Wk.nx_ret_block ?_
                      refine Wk.nx_ret_then ?_
                      exact Wk.nx_body_ret (Wk.res1 rfl rfl) ⟨_, rfl, _, rfl, H⟩
                    · replace H := H.2 hb
                      refine Wk.cw_skip ?_
                      refine Wk.nx_block ?_
                      refine Wk.nx_code (Wk.cw_sub (e' := [(0, (.slice A1 n1 c1)), (1, (.slice A2 n2 c2)), (2, (.slice A3 n3 c3)), (16, (.int .i64 x8)), (18, (.slice A5 n5 c5)), (19, (.int .i64 x13))]) (Wk.sub.cons rfl (Wk.sub.cons rfl (Wk.sub.cons rfl (Wk.sub.cons rfl (Wk.sub.cons rfl (Wk.sub.cons rfl (Wk.sub.nil))))))) ?_)
                      refine Wk.cw_region ?_
                      refine Wk.sl_v rfl rfl (Wk.wanted_none rfl) (fun a ha => Wk.x_move (ha.ev rfl)) ?_
                      refine Wk.sl_v rfl rfl (Wk.wanted_none rfl) (fun a ha => Wk.x_binOp (ha.ev rfl) (ha.ev rfl) Wk.o_add) ?_
                      refine Wk.sl_v rfl rfl (Wk.wanted_none rfl) (fun a ha => Wk.x_assign (ha.ev rfl)) ?_
                      refine Wk.sl_nil ?_
                      obtain ⟨k2, hk, H⟩ := H
                      exact Wk.nx_to fun a ha => ⟨k2, hk, IntKind.wrap .i64 (x13 + 1), ha.weaken (Wk.sub.cons rfl (Wk.sub.cons rfl (Wk.sub.cons rfl (Wk.sub.cons rfl (Wk.sub.cons rfl (Wk.sub.cons rfl (Wk.sub.nil))))))), H⟩
                  · refine Wk.cw_any_drawn follows [0, 1, 2, 3, 4, 5, 6, 7, 8, 9, 10, 11, 12, 13, 14, 15, 16, 17, 18, 19, 20, 21, 22, 23, 24, 25, 26, 27] [4, 15, 17, 23, 25] 28 rfl rfl (by kernel_rfl) (fun _ _ d _ _ h => by cases d <;> exact h) (fun cm hW hD => ?_)
                    refine Wk.an_p (i := 0) cm rfl (by kernel_rfl) rfl rfl (Wk.wanted_none rfl) (fun w' a ha => Wk.x_move (ha.ev rfl)) rfl ?_
                    intro _ hd; replace hD := hD.trans hd; replace hW := cm.held _ _ hW hd; clear hd
                    refine Wk.an_p (i := 1) cm rfl (by kernel_rfl) rfl rfl (Wk.wanted_none rfl) (fun w' a ha => Wk.x_move (ha.ev rfl)) rfl ?_
                    intro _ hd; replace hD := hD.trans hd; replace hW := cm.held _ _ hW hd; clear hd
                    obtain ⟨h13, h14, a5, e5, H⟩ := H
                    refine Wk.an_p (i := 2) cm rfl (by kernel_rfl) rfl rfl (Wk.wanted_none rfl) (fun w' a ha => Wk.x_indexAddr (ha.ev rfl) (ha.ev rfl) (Wk.i_index TF.elem_sl_api_Link TF.size_api_Link e5 h13 h14)) rfl ?_
                    intro _ hd; replace hD := hD.trans hd; replace hW := cm.held _ _ hW hd; clear hd
                    refine Wk.an_p (i := 3) cm rfl (by kernel_rfl) rfl rfl (Wk.wanted_none rfl) (fun w' a ha => Wk.x_fieldAddr (ha.ev rfl) (TF.fld_api_Link_0 _ _)) rfl ?_
                    intro _ hd; replace hD := hD.trans hd; replace hW := cm.held _ _ hW hd; clear hd
                    obtain ⟨x18, h15, H⟩ := H
                    refine Wk.an_v (i := 4) cm rfl (by kernel_rfl) hW rfl rfl (Wk.wanted_none rfl) (fun w' hw a ha => Wk.x_load (ha.ev rfl) (Wk.i_load1 TF.agg_int ((hw.cell _).trans h15))) rfl ?_
                    intro _ hd hW; replace hD := hD.trans hd; clear hd
                    refine Wk.an_p (i := 5) cm rfl (by kernel_rfl) rfl rfl (Wk.wanted_none rfl) (fun w' a ha => Wk.x_binOp (ha.ev rfl) (ha.ev rfl) Wk.o_eql) rfl ?_
                    intro _ hd; replace hD := hD.trans hd; replace hW := cm.held _ _ hW hd; clear hd
                    rcases Classical.em (x18 = 1) with hb | hb
                    · replace H := H.1 hb
                      refine Wk.an_p (i := 6) cm rfl (by kernel_rfl) rfl rfl (Wk.wanted_none rfl) (fun w' a ha => Wk.o_t (Wk.x_move (ha.ev rfl)) hb) rfl ?_
                      intro _ hd; replace hD := hD.trans hd; replace hW := cm.held _ _ hW hd; clear hd
                      refine Wk.an_p (i := 7) cm rfl (by kernel_rfl) rfl rfl (Wk.wanted_some rfl rfl rfl) (fun w' a ha => Wk.x_move (ha.ev rfl)) rfl ?_
                      intro _ hd; replace hD := hD.trans hd; replace hW := cm.held _ _ hW hd; clear hd
                      refine Wk.an_p (i := 8) cm rfl (by kernel_rfl) rfl rfl (Wk.wanted_none rfl) (fun w' a ha => Wk.x_pick_t (ha.ev rfl) (ha.ev rfl)) rfl ?_
                      intro _ hd; replace hD := hD.trans hd; replace hW := cm.held _ _ hW hd; clear hd
                      rcases Wk.tf b6 with hb | hb
                      · replace H := H.1 hb
                        refine Wk.an_p (i := 9) cm rfl (by kernel_rfl) rfl rfl (Wk.wanted_none rfl) (fun w' a ha => Wk.o_bt (Wk.x_move (ha.ev rfl)) hb) rfl ?_
                        intro _ hd; replace hD := hD.trans hd; replace hW := cm.held _ _ hW hd; clear hd
                        refine Wk.an_p (i := 10) cm rfl (by kernel_rfl) rfl rfl (Wk.wanted_some rfl rfl rfl) (fun w' a ha => Wk.x_move (ha.ev rfl)) rfl ?_
                        intro _ hd; replace hD := hD.trans hd; replace hW := cm.held _ _ hW hd; clear hd
                        refine Wk.an_p (i := 11) cm rfl (by kernel_rfl) rfl rfl (Wk.wanted_some rfl rfl rfl) (fun w' a ha => Wk.x_move (ha.ev rfl)) rfl ?_
                        intro _ hd; replace hD := hD.trans hd; replace hW := cm.held _ _ hW hd; clear hd
                        refine Wk.an_p (i := 12) cm rfl (by kernel_rfl) rfl rfl (Wk.wanted_some rfl rfl rfl) (fun w' a ha => Wk.x_move (ha.ev rfl)) rfl ?_
                        intro _ hd; replace hD := hD.trans hd; replace hW := cm.held _ _ hW hd; clear hd
                        obtain ⟨h16, h17, a6, e6, H⟩ := H
                        refine Wk.an_p (i := 13) cm rfl (by kernel_rfl) rfl rfl (Wk.wanted_some rfl rfl rfl) (fun w' a ha => Wk.x_indexAddr (ha.ev rfl) (ha.ev rfl) (Wk.i_index TF.elem_sl_api_Link TF.size_api_Link e6 h16 h17)) rfl ?_
                        intro _ hd; replace hD := hD.trans hd; replace hW := cm.held _ _ hW hd; clear hd
                        refine Wk.an_p (i := 14) cm rfl (by kernel_rfl) rfl rfl (Wk.wanted_some rfl rfl rfl) (fun w' a ha => Wk.x_fieldAddr (ha.ev rfl) (TF.fld_api_Link_1 _ _)) rfl ?_
                        intro _ hd; replace hD := hD.trans hd; replace hW := cm.held _ _ hW hd; clear hd
                        obtain ⟨x19, h18, H⟩ := H
                        refine Wk.an_v (i := 15) cm rfl (by kernel_rfl) hW rfl rfl (Wk.wanted_some rfl rfl rfl) (fun w' hw a ha => Wk.x_load (ha.ev rfl) (Wk.i_load1 TF.agg_int ((hw.cell _).trans h18))) rfl ?_
                        intro _ hd hW; replace hD := hD.trans hd; clear hd
                        obtain ⟨h19, h20, a7, e7, H⟩ := H
                        refine Wk.an_p (i := 16) cm rfl (by kernel_rfl) rfl rfl (Wk.wanted_some rfl rfl rfl) (fun w' a ha => Wk.x_indexAddr (ha.ev rfl) (ha.ev rfl) (Wk.i_index TF.elem_sl_int TF.size_int e7 h19 h20)) rfl ?_
                        intro _ hd; replace hD := hD.trans hd; replace hW := cm.held _ _ hW hd; clear hd
                        obtain ⟨x20, h21, H⟩ := H
                        refine Wk.an_v (i := 17) cm rfl (by kernel_rfl) hW rfl rfl (Wk.wanted_some rfl rfl rfl) (fun w' hw a ha => Wk.x_load (ha.ev rfl) (Wk.i_load1 TF.agg_int ((hw.cell _).trans h21))) rfl ?_
                        intro _ hd hW; replace hD := hD.trans hd; clear hd
                        refine Wk.an_p (i := 18) cm rfl (by kernel_rfl) rfl rfl (Wk.wanted_some rfl rfl rfl) (fun w' a ha => Wk.x_move (ha.ev rfl)) rfl ?_
                        intro _ hd; replace hD := hD.trans hd; replace hW := cm.held _ _ hW hd; clear hd
                        refine Wk.an_p (i := 19) cm rfl (by kernel_rfl) rfl rfl (Wk.wanted_some rfl rfl rfl) (fun w' a ha => Wk.x_move (ha.ev rfl)) rfl ?_
                        intro _ hd; replace hD := hD.trans hd; replace hW := cm.held _ _ hW hd; clear hd
                        refine Wk.an_p (i := 20) cm rfl (by kernel_rfl) rfl rfl (Wk.wanted_some rfl rfl rfl) (fun w' a ha => Wk.x_move (ha.ev rfl)) rfl ?_
                        intro _ hd; replace hD := hD.trans hd; replace hW := cm.held _ _ hW hd; clear hd
                        obtain ⟨h22, h23, a8, e8, H⟩ := H
                        refine Wk.an_p (i := 21) cm rfl (by kernel_rfl) rfl rfl (Wk.wanted_some rfl rfl rfl) (fun w' a ha => Wk.x_indexAddr (ha.ev rfl) (ha.ev rfl) (Wk.i_index TF.elem_sl_api_Link TF.size_api_Link e8 h22 h23)) rfl ?_
                        intro _ hd; replace hD := hD.trans hd; replace hW := cm.held _ _ hW hd; clear hd
                        refine Wk.an_p (i := 22) cm rfl (by kernel_rfl) rfl rfl (Wk.wanted_some rfl rfl rfl) (fun w' a ha => Wk.x_fieldAddr (ha.ev rfl) (TF.fld_api_Link_2 _ _)) rfl ?_
                        intro _ hd; replace hD := hD.trans hd; replace hW := cm.held _ _ hW hd; clear hd
                        obtain ⟨x21, h24, H⟩ := H
                        refine Wk.an_v (i := 23) cm rfl (by kernel_rfl) hW rfl rfl (Wk.wanted_some rfl rfl rfl) (fun w' hw a ha => Wk.x_load (ha.ev rfl) (Wk.i_load1 TF.agg_int ((hw.cell _).trans h24))) rfl ?_
                        intro _ hd hW; replace hD := hD.trans hd; clear hd
                        obtain ⟨h25, h26, a9, e9, H⟩ := H
                        refine Wk.an_p (i := 24) cm rfl (by kernel_rfl) rfl rfl (Wk.wanted_some rfl rfl rfl) (fun w' a ha => Wk.x_indexAddr (ha.ev rfl) (ha.ev rfl) (Wk.i_index TF.elem_sl_int TF.size_int e9 h25 h26)) rfl ?_
                        intro _ hd; replace hD := hD.trans hd; replace hW := cm.held _ _ hW hd; clear hd
                        obtain ⟨x22, h27, H⟩ := H
                        refine Wk.an_v (i := 25) cm rfl (by kernel_rfl) hW rfl rfl (Wk.wanted_some rfl rfl rfl) (fun w' hw a ha => Wk.x_load (ha.ev rfl) (Wk.i_load1 TF.agg_int ((hw.cell _).trans h27))) rfl ?_
                        intro _ hd hW; replace hD := hD.trans hd; clear hd
                        refine Wk.an_p (i := 26) cm rfl (by kernel_rfl) rfl rfl (Wk.wanted_some rfl rfl rfl) (fun w' a ha => Wk.x_binOp (ha.ev rfl) (ha.ev rfl) Wk.o_neq) rfl ?_
                        intro _ hd; replace hD := hD.trans hd; clear hd
                        refine Wk.an_p (i := 27) cm rfl (by kernel_rfl) rfl rfl (Wk.wanted_none rfl) (fun w' a ha => Wk.x_pick_t (ha.ev rfl) (ha.ev rfl)) rfl ?_
                        intro _ hd; replace hD := hD.trans hd; clear hd
                        refine Wk.an_end (by kernel_rfl) hD ?_
                        intro w18 hD; replace H := H _ hD; clear hD cm
                        exact Wk.nx_to fun a ha => ⟨(decide (x20 ≠ x22)), ha.weaken (Wk.sub.cons rfl (Wk.sub.cons rfl (Wk.sub.cons rfl (Wk.sub.cons rfl (Wk.sub.cons rfl (Wk.sub.cons rfl (Wk.sub.cons rfl (Wk.sub.nil)))))))), H⟩
                      · replace H := H.2 hb
                        refine Wk.an_p (i := 9) cm rfl (by kernel_rfl) rfl rfl (Wk.wanted_none rfl) (fun w' a ha => Wk.o_bf (Wk.x_move (ha.ev rfl)) hb) rfl ?_
                        intro _ hd; replace hD := hD.trans hd; replace hW := cm.held _ _ hW hd; clear hd
                        refine Wk.an_pskip (i := 10) cm rfl (by kernel_rfl) rfl rfl (Wk.wanted_not rfl rfl rfl rfl) rfl ?_
                        intro _ hd; replace hD := hD.trans hd; replace hW := cm.held _ _ hW hd; clear hd
                        refine Wk.an_pskip (i := 11) cm rfl (by kernel_rfl) rfl rfl (Wk.wanted_not rfl rfl rfl rfl) rfl ?_
                        intro _ hd; replace hD := hD.trans hd; replace hW := cm.held _ _ hW hd; clear hd
                        refine Wk.an_pskip (i := 12) cm rfl (by kernel_rfl) rfl rfl (Wk.wanted_not rfl rfl rfl rfl) rfl ?_
                        intro _ hd; replace hD := hD.trans hd; replace hW := cm.held _ _ hW hd; clear hd
                        refine Wk.an_pskip (i := 13) cm rfl (by kernel_rfl) rfl rfl (Wk.wanted_not rfl rfl rfl rfl) rfl ?_
                        intro _ hd; replace hD := hD.trans hd; replace hW := cm.held _ _ hW hd; clear hd
                        refine Wk.an_pskip (i := 14) cm rfl (by kernel_rfl) rfl rfl (Wk.wanted_not rfl rfl rfl rfl) rfl ?_
                        intro _ hd; replace hD := hD.trans hd; replace hW := cm.held _ _ hW hd; clear hd
                        refine Wk.an_pskip (i := 15) cm rfl (by kernel_rfl) rfl rfl (Wk.wanted_not rfl rfl rfl rfl) rfl ?_
                        intro _ hd; replace hD := hD.trans hd; replace hW := cm.held _ _ hW hd; clear hd
                        refine Wk.an_pskip (i := 16) cm rfl (by kernel_rfl) rfl rfl (Wk.wanted_not rfl rfl rfl rfl) rfl ?_
                        intro _ hd; replace hD := hD.trans hd; replace hW := cm.held _ _ hW hd; clear hd
                        refine Wk.an_pskip (i := 17) cm rfl (by kernel_rfl) rfl rfl (Wk.wanted_not rfl rfl rfl rfl) rfl ?_
                        intro _ hd; replace hD := hD.trans hd; replace hW := cm.held _ _ hW hd; clear hd
                        refine Wk.an_pskip (i := 18) cm rfl (by kernel_rfl) rfl rfl (Wk.wanted_not rfl rfl rfl rfl) rfl ?_
                        intro _ hd; replace hD := hD.trans hd; replace hW := cm.held _ _ hW hd; clear hd
                        refine Wk.an_pskip (i := 19) cm rfl (by kernel_rfl) rfl rfl (Wk.wanted_not rfl rfl rfl rfl) rfl ?_
                        intro _ hd; replace hD := hD.trans hd; replace hW := cm.held _ _ hW hd; clear hd
                        refine Wk.an_pskip (i := 20) cm rfl (by kernel_rfl) rfl rfl (Wk.wanted_not rfl rfl rfl rfl) rfl ?_
                        intro _ hd; replace hD := hD.trans hd; replace hW := cm.held _ _ hW hd; clear hd
                        refine Wk.an_pskip (i := 21) cm rfl (by kernel_rfl) rfl rfl (Wk.wanted_not rfl rfl rfl rfl) rfl ?_
                        intro _ hd; replace hD := hD.trans hd; replace hW := cm.held _ _ hW hd; clear hd
                        refine Wk.an_pskip (i := 22) cm rfl (by kernel_rfl) rfl rfl (Wk.wanted_not rfl rfl rfl rfl) rfl ?_
                        intro _ hd; replace hD := hD.trans hd; replace hW := cm.held _ _ hW hd; clear hd
                        refine Wk.an_pskip (i := 23) cm rfl (by kernel_rfl) rfl rfl (Wk.wanted_not rfl rfl rfl rfl) rfl ?_
                        intro _ hd; replace hD := hD.trans hd; replace hW := cm.held _ _ hW hd; clear hd
                        refine Wk.an_pskip (i := 24) cm rfl (by kernel_rfl) rfl rfl (Wk.wanted_not rfl rfl rfl rfl) rfl ?_
                        intro _ hd; replace hD := hD.trans hd; replace hW := cm.held _ _ hW hd; clear hd
                        refine Wk.an_pskip (i := 25) cm rfl (by kernel_rfl) rfl rfl (Wk.wanted_not rfl rfl rfl rfl) rfl ?_
                        intro _ hd; replace hD := hD.trans hd; replace hW := cm.held _ _ hW hd; clear hd
                        refine Wk.an_pskip (i := 26) cm rfl (by kernel_rfl) rfl rfl (Wk.wanted_not rfl rfl rfl rfl) rfl ?_
                        intro _ hd; replace hD := hD.trans hd; clear hd
                        refine Wk.an_p (i := 27) cm rfl (by kernel_rfl) rfl rfl (Wk.wanted_none rfl) (fun w' a ha => Wk.x_pick_f (ha.ev rfl) (ha.ev rfl)) rfl ?_
                        intro _ hd; replace hD := hD.trans hd; clear hd
                        refine Wk.an_end (by kernel_rfl) hD ?_
                        intro w20 hD; replace H := H _ hD; clear hD cm
                        exact Wk.nx_to fun a ha => ⟨false, ha.weaken (Wk.sub.cons rfl (Wk.sub.cons rfl (Wk.sub.cons rfl (Wk.sub.cons rfl (Wk.sub.cons rfl (Wk.sub.cons rfl (Wk.sub.cons rfl (Wk.sub.nil)))))))), H⟩
                    · replace H := H.2 hb
                      refine Wk.an_p (i := 6) cm rfl (by kernel_rfl) rfl rfl (Wk.wanted_none rfl) (fun w' a ha => Wk.o_f (Wk.x_move (ha.ev rfl)) hb) rfl ?_
                      intro _ hd; replace hD := hD.trans hd; replace hW := cm.held _ _ hW hd; clear hd
                      refine Wk.an_pskip (i := 7) cm rfl (by kernel_rfl) rfl rfl (Wk.wanted_not rfl rfl rfl rfl) rfl ?_
                      intro _ hd; replace hD := hD.trans hd; replace hW := cm.held _ _ hW hd; clear hd
                      refine Wk.an_p (i := 8) cm rfl (by kernel_rfl) rfl rfl (Wk.wanted_none rfl) (fun w' a ha => Wk.x_pick_f (ha.ev rfl) (ha.ev rfl)) rfl ?_
                      intro _ hd; replace hD := hD.trans hd; replace hW := cm.held _ _ hW hd; clear hd
                      refine Wk.an_p (i := 9) cm rfl (by kernel_rfl) rfl rfl (Wk.wanted_none rfl) (fun w' a ha => Wk.x_move (ha.ev rfl)) rfl ?_
                      intro _ hd; replace hD := hD.trans hd; replace hW := cm.held _ _ hW hd; clear hd
                      refine Wk.an_pskip (i := 10) cm rfl (by kernel_rfl) rfl rfl (Wk.wanted_not rfl rfl rfl rfl) rfl ?_
                      intro _ hd; replace hD := hD.trans hd; replace hW := cm.held _ _ hW hd; clear hd
                      refine Wk.an_pskip (i := 11) cm rfl (by kernel_rfl) rfl rfl (Wk.wanted_not rfl rfl rfl rfl) rfl ?_
                      intro _ hd; replace hD := hD.trans hd; replace hW := cm.held _ _ hW hd; clear hd
                      refine Wk.an_pskip (i := 12) cm rfl (by kernel_rfl) rfl rfl (Wk.wanted_not rfl rfl rfl rfl) rfl ?_
                      intro _ hd; replace hD := hD.trans hd; replace hW := cm.held _ _ hW hd; clear hd
                      refine Wk.an_pskip (i := 13) cm rfl (by kernel_rfl) rfl rfl (Wk.wanted_not rfl rfl rfl rfl) rfl ?_
                      intro _ hd; replace hD := hD.trans hd; replace hW := cm.held _ _ hW hd; clear hd
                      refine Wk.an_pskip (i := 14) cm rfl (by kernel_rfl) rfl rfl (Wk.wanted_not rfl rfl rfl rfl) rfl ?_
                      intro _ hd; replace hD := hD.trans hd; replace hW := cm.held _ _ hW hd; clear hd
                      refine Wk.an_pskip (i := 15) cm rfl (by kernel_rfl) rfl rfl (Wk.wanted_not rfl rfl rfl rfl) rfl ?_
                      intro _ hd; replace hD := hD.trans hd; replace hW := cm.held _ _ hW hd; clear hd
                      refine Wk.an_pskip (i := 16) cm rfl (by kernel_rfl) rfl rfl (Wk.wanted_not rfl rfl rfl rfl) rfl ?_
                      intro _ hd; replace hD := hD.trans hd; replace hW := cm.held _ _ hW hd; clear hd
                      refine Wk.an_pskip (i := 17) cm rfl (by kernel_rfl) rfl rfl (Wk.wanted_not rfl rfl rfl rfl) rfl ?_
                      intro _ hd; replace hD := hD.trans hd; replace hW := cm.held _ _ hW hd; clear hd
                      refine Wk.an_pskip (i := 18) cm rfl (by kernel_rfl) rfl rfl (Wk.wanted_not rfl rfl rfl rfl) rfl ?_
                      intro _ hd; replace hD := hD.trans hd; replace hW := cm.held _ _ hW hd; clear hd
                      refine Wk.an_pskip (i := 19) cm rfl (by kernel_rfl) rfl rfl (Wk.wanted_not rfl rfl rfl rfl) rfl ?_
                      intro _ hd; replace hD := hD.trans hd; replace hW := cm.held _ _ hW hd; clear hd
                      refine Wk.an_pskip (i := 20) cm rfl (by kernel_rfl) rfl rfl (Wk.wanted_not rfl rfl rfl rfl) rfl ?_
                      intro _ hd; replace hD := hD.trans hd; replace hW := cm.held _ _ hW hd; clear hd
                      refine Wk.an_pskip (i := 21) cm rfl (by kernel_rfl) rfl rfl (Wk.wanted_not rfl rfl rfl rfl) rfl ?_
                      intro _ hd; replace hD := hD.trans hd; replace hW := cm.held _ _ hW hd; clear hd
                      refine Wk.an_pskip (i := 22) cm rfl (by kernel_rfl) rfl rfl (Wk.wanted_not rfl rfl rfl rfl) rfl ?_
                      intro _ hd; replace hD := hD.trans hd; replace hW := cm.held _ _ hW hd; clear hd
                      refine Wk.an_pskip (i := 23) cm rfl (by kernel_rfl) rfl rfl (Wk.wanted_not rfl rfl rfl rfl) rfl ?_
                      intro _ hd; replace hD := hD.trans hd; replace hW := cm.held _ _ hW hd; clear hd
                      refine Wk.an_pskip (i := 24) cm rfl (by kernel_rfl) rfl rfl (Wk.wanted_not rfl rfl rfl rfl) rfl ?_
                      intro _ hd; replace hD := hD.trans hd; replace hW := cm.held _ _ hW hd; clear hd
                      refine Wk.an_pskip (i := 25) cm rfl (by kernel_rfl) rfl rfl (Wk.wanted_not rfl rfl rfl rfl) rfl ?_
                      intro _ hd; replace hD := hD.trans hd; replace hW := cm.held _ _ hW hd; clear hd
                      refine Wk.an_pskip (i := 26) cm rfl (by kernel_rfl) rfl rfl (Wk.wanted_not rfl rfl rfl rfl) rfl ?_
                      intro _ hd; replace hD := hD.trans hd; clear hd
                      refine Wk.an_p (i := 27) cm rfl (by kernel_rfl) rfl rfl (Wk.wanted_none rfl) (fun w' a ha => Wk.x_pick_f (ha.ev rfl) (ha.ev rfl)) rfl ?_
                      intro _ hd; replace hD := hD.trans hd; clear hd
                      refine Wk.an_end (by kernel_rfl) hD ?_
                      intro w21 hD; replace H := H _ hD; clear hD cm
                      exact Wk.nx_to fun a ha => ⟨false, ha.weaken (Wk.sub.cons rfl (Wk.sub.cons rfl (Wk.sub.cons rfl (Wk.sub.cons rfl (Wk.sub.cons rfl (Wk.sub.cons rfl (Wk.sub.cons rfl (Wk.sub.nil)))))))), H⟩
                · refine Wk.cw_region ?_
                  refine Wk.sl_v rfl rfl (Wk.wanted_none rfl) (fun a ha => Wk.x_move (ha.ev rfl)) ?_
                  refine Wk.sl_v rfl rfl (Wk.wanted_none rfl) (fun a ha => Wk.x_move (ha.ev rfl)) ?_
                  obtain ⟨h1, h2, a1, e1, H⟩ := H
                  refine Wk.sl_v rfl rfl (Wk.wanted_none rfl) (fun a ha => Wk.x_indexAddr (ha.ev rfl) (ha.ev rfl) (Wk.i_index TF.elem_sl_api_Link TF.size_api_Link e1 h1 h2)) ?_
                  refine Wk.sl_v rfl rfl (Wk.wanted_none rfl) (fun a ha => Wk.x_fieldAddr (ha.ev rfl) (TF.fld_api_Link_1 _ _)) ?_
                  obtain ⟨x14, h3, H⟩ := H
                  refine Wk.sl_v rfl rfl (Wk.wanted_none rfl) (fun a ha => Wk.x_load (ha.ev rfl) (Wk.i_load1 TF.agg_int h3)) ?_
                  refine Wk.sl_v rfl rfl (Wk.wanted_none rfl) (fun a ha => Wk.x_binOp (ha.ev rfl) (ha.ev rfl) Wk.o_geq) ?_
                  rcases Classical.em (0 ≤ x14) with hb | hb
                  · replace H := H.1 hb
                    refine Wk.sl_v rfl rfl (Wk.wanted_none rfl) (fun a ha => Wk.o_t (Wk.x_move (ha.ev rfl)) hb) ?_
                    refine Wk.sl_v rfl rfl (Wk.wanted_some rfl rfl rfl) (fun a ha => Wk.x_move (ha.ev rfl)) ?_
                    refine Wk.sl_v rfl rfl (Wk.wanted_some rfl rfl rfl) (fun a ha => Wk.x_move (ha.ev rfl)) ?_
                    obtain ⟨h4, h5, a2, e2, H⟩ := H
                    refine Wk.sl_v rfl rfl (Wk.wanted_some rfl rfl rfl) (fun a ha => Wk.x_indexAddr (ha.ev rfl) (ha.ev rfl) (Wk.i_index TF.elem_sl_api_Link TF.size_api_Link e2 h4 h5)) ?_
                    refine Wk.sl_v rfl rfl (Wk.wanted_some rfl rfl rfl) (fun a ha => Wk.x_fieldAddr (ha.ev rfl) (TF.fld_api_Link_2 _ _)) ?_
                    obtain ⟨x15, h6, H⟩ := H
                    refine Wk.sl_v rfl rfl (Wk.wanted_some rfl rfl rfl) (fun a ha => Wk.x_load (ha.ev rfl) (Wk.i_load1 TF.agg_int h6)) ?_
                    refine Wk.sl_v rfl rfl (Wk.wanted_some rfl rfl rfl) (fun a ha => Wk.x_binOp (ha.ev rfl) (ha.ev rfl) Wk.o_geq) ?_
                    refine Wk.sl_v rfl rfl (Wk.wanted_none rfl) (fun a ha => Wk.x_pick_t (ha.ev rfl) (ha.ev rfl)) ?_
                    rcases Classical.em (0 ≤ x15) with hb | hb
                    · replace H := H.1 hb
                      refine Wk.sl_v rfl rfl (Wk.wanted_none rfl) (fun a ha => Wk.o_t (Wk.x_move (ha.ev rfl)) hb) ?_
                      refine Wk.sl_v rfl rfl (Wk.wanted_some rfl rfl rfl) (fun a ha => Wk.x_move (ha.ev rfl)) ?_
                      refine Wk.sl_v rfl rfl (Wk.wanted_some rfl rfl rfl) (fun a ha => Wk.x_move (ha.ev rfl)) ?_
                      obtain ⟨h7, h8, a3, e3, H⟩ := H
                      refine Wk.sl_v rfl rfl (Wk.wanted_some rfl rfl rfl) (fun a ha => Wk.x_indexAddr (ha.ev rfl) (ha.ev rfl) (Wk.i_index TF.elem_sl_api_Link TF.size_api_Link e3 h7 h8)) ?_
                      refine Wk.sl_v rfl rfl (Wk.wanted_some rfl rfl rfl) (fun a ha => Wk.x_fieldAddr (ha.ev rfl) (TF.fld_api_Link_1 _ _)) ?_
                      obtain ⟨x16, h9, H⟩ := H
                      refine Wk.sl_v rfl rfl (Wk.wanted_some rfl rfl rfl) (fun a ha => Wk.x_load (ha.ev rfl) (Wk.i_load1 TF.agg_int h9)) ?_
                      refine Wk.sl_v rfl rfl (Wk.wanted_some rfl rfl rfl) (fun a ha => Wk.x_move (ha.ev rfl)) ?_
                      refine Wk.sl_v rfl rfl (Wk.wanted_some rfl rfl rfl) (fun a ha => Wk.x_builtin (ha.evs rfl) (fun _ => Wk.l_slice TF.isslice_sl_api_Flat)) ?_
                      refine Wk.sl_v rfl rfl (Wk.wanted_some rfl rfl rfl) (fun a ha => Wk.x_binOp (ha.ev rfl) (ha.ev rfl) Wk.o_lss) ?_
                      refine Wk.sl_v rfl rfl (Wk.wanted_none rfl) (fun a ha => Wk.x_pick_t (ha.ev rfl) (ha.ev rfl)) ?_
                      rcases Classical.em (x16 < (n1 : Int)) with hb | hb
                      · replace H := H.1 hb
                        refine Wk.sl_v rfl rfl (Wk.wanted_none rfl) (fun a ha => Wk.o_t (Wk.x_move (ha.ev rfl)) hb) ?_
                        refine Wk.sl_v rfl rfl (Wk.wanted_some rfl rfl rfl) (fun a ha => Wk.x_move (ha.ev rfl)) ?_
                        refine Wk.sl_v rfl rfl (Wk.wanted_some rfl rfl rfl) (fun a ha => Wk.x_move (ha.ev rfl)) ?_
                        obtain ⟨h10, h11, a4, e4, H⟩ := H
                        refine Wk.sl_v rfl rfl (Wk.wanted_some rfl rfl rfl) (fun a ha => Wk.x_indexAddr (ha.ev rfl) (ha.ev rfl) (Wk.i_index TF.elem_sl_api_Link TF.size_api_Link e4 h10 h11)) ?_
                        refine Wk.sl_v rfl rfl (Wk.wanted_some rfl rfl rfl) (fun a ha => Wk.x_fieldAddr (ha.ev rfl) (TF.fld_api_Link_2 _ _)) ?_
                        obtain ⟨x17, h12, H⟩ := H
                        refine Wk.sl_v rfl rfl (Wk.wanted_some rfl rfl rfl) (fun a ha => Wk.x_load (ha.ev rfl) (Wk.i_load1 TF.agg_int h12)) ?_
                        refine Wk.sl_v rfl rfl (Wk.wanted_some rfl rfl rfl) (fun a ha => Wk.x_move (ha.ev rfl)) ?_
                        refine Wk.sl_v rfl rfl (Wk.wanted_some rfl rfl rfl) (fun a ha => Wk.x_builtin (ha.evs rfl) (fun _ => Wk.l_slice TF.isslice_sl_api_Flat)) ?_
                        refine Wk.sl_v rfl rfl (Wk.wanted_some rfl rfl rfl) (fun a ha => Wk.x_binOp (ha.ev rfl) (ha.ev rfl) Wk.o_lss) ?_
                        refine Wk.sl_v rfl rfl (Wk.wanted_none rfl) (fun a ha => Wk.x_pick_t (ha.ev rfl) (ha.ev rfl)) ?_
                        refine Wk.sl_v rfl rfl (Wk.wanted_none rfl) (fun a ha => Wk.x_assign (ha.ev rfl)) ?_
                        refine Wk.sl_nil ?_
                        exact Wk.nx_to fun a ha => ⟨⟨(decide (x17 < (n1 : Int))), ha.weaken (Wk.sub.cons rfl (Wk.sub.cons rfl (Wk.sub.cons rfl (Wk.sub.cons rfl (Wk.sub.cons rfl (Wk.sub.cons rfl (Wk.sub.cons rfl (Wk.sub.nil)))))))), H⟩, rfl⟩
                      · replace H := H.2 hb
                        refine Wk.sl_v rfl rfl (Wk.wanted_none rfl) (fun a ha => Wk.o_f (Wk.x_move (ha.ev rfl)) hb) ?_
                        refine Wk.sl_skip rfl rfl (Wk.wanted_not rfl rfl rfl rfl) ?_
                        refine Wk.sl_skip rfl rfl (Wk.wanted_not rfl rfl rfl rfl) ?_
                        refine Wk.sl_skip rfl rfl (Wk.wanted_not rfl rfl rfl rfl) ?_
                        refine Wk.sl_skip rfl rfl (Wk.wanted_not rfl rfl rfl rfl) ?_
                        refine Wk.sl_skip rfl rfl (Wk.wanted_not rfl rfl rfl rfl) ?_
                        refine Wk.sl_skip rfl rfl (Wk.wanted_not rfl rfl rfl rfl) ?_
                        refine Wk.sl_skip rfl rfl (Wk.wanted_not rfl rfl rfl rfl) ?_
                        refine Wk.sl_skip rfl rfl (Wk.wanted_not rfl rfl rfl rfl) ?_
                        refine Wk.sl_v rfl rfl (Wk.wanted_none rfl) (fun a ha => Wk.x_pick_f (ha.ev rfl) (ha.ev rfl)) ?_
                        refine Wk.sl_v rfl rfl (Wk.wanted_none rfl) (fun a ha => Wk.x_assign (ha.ev rfl)) ?_
                        refine Wk.sl_nil ?_
                        exact Wk.nx_to fun a ha => ⟨⟨false, ha.weaken (Wk.sub.cons rfl (Wk.sub.cons rfl (Wk.sub.cons rfl (Wk.sub.cons rfl (Wk.sub.cons rfl (Wk.sub.cons rfl (Wk.sub.cons rfl (Wk.sub.nil)))))))), H⟩, rfl⟩
                    · replace H := H.2 hb
                      refine Wk.sl_v rfl rfl (Wk.wanted_none rfl) (fun a ha => Wk.o_f (Wk.x_move (ha.ev rfl)) hb) ?_
                      refine Wk.sl_skip rfl rfl (Wk.wanted_not rfl rfl rfl rfl) ?_
                      refine Wk.sl_skip rfl rfl (Wk.wanted_not rfl rfl rfl rfl) ?_
                      refine Wk.sl_skip rfl rfl (Wk.wanted_not rfl rfl rfl rfl) ?_
                      refine Wk.sl_skip rfl rfl (Wk.wanted_not rfl rfl rfl rfl) ?_
                      refine Wk.sl_skip rfl rfl (Wk.wanted_not rfl rfl rfl rfl) ?_
                      refine Wk.sl_skip rfl rfl (Wk.wanted_not rfl rfl rfl rfl) ?_
                      refine Wk.sl_skip rfl rfl (Wk.wanted_not rfl rfl rfl rfl) ?_
                      refine Wk.sl_skip rfl rfl (Wk.wanted_not rfl rfl rfl rfl) ?_
                      refine Wk.sl_v rfl rfl (Wk.wanted_none rfl) (fun a ha => Wk.x_pick_f (ha.ev rfl) (ha.ev rfl)) ?_
                      refine Wk.sl_v rfl rfl (Wk.wanted_none rfl) (fun a ha => Wk.x_move (ha.ev rfl)) ?_
                      refine Wk.sl_skip rfl rfl (Wk.wanted_not rfl rfl rfl rfl) ?_
                      refine Wk.sl_skip rfl rfl (Wk.wanted_not rfl rfl rfl rfl) ?_
                      refine Wk.sl_skip rfl rfl (Wk.wanted_not rfl rfl rfl rfl) ?_
                      refine Wk.sl_skip rfl rfl (Wk.wanted_not rfl rfl rfl rfl) ?_
                      refine Wk.sl_skip rfl rfl (Wk.wanted_not rfl rfl rfl rfl) ?_
                      refine Wk.sl_skip rfl rfl (Wk.wanted_not rfl rfl rfl rfl) ?_
                      refine Wk.sl_skip rfl rfl (Wk.wanted_not rfl rfl rfl rfl) ?_
                      refine Wk.sl_skip rfl rfl (Wk.wanted_not rfl rfl rfl rfl) ?_
                      refine Wk.sl_v rfl rfl (Wk.wanted_none rfl) (fun a ha => Wk.x_pick_f (ha.ev rfl) (ha.ev rfl)) ?_
                      refine Wk.sl_v rfl rfl (Wk.wanted_none rfl) (fun a ha => Wk.x_assign (ha.ev rfl)) ?_
                      refine Wk.sl_nil ?_
                      exact Wk.nx_to fun a ha => ⟨⟨false, ha.weaken (Wk.sub.cons rfl (Wk.sub.cons rfl (Wk.sub.cons rfl (Wk.sub.cons rfl (Wk.sub.cons rfl (Wk.sub.cons rfl (Wk.sub.cons rfl (Wk.sub.nil)))))))), H⟩, rfl⟩
                  · replace H := H.2 hb
                    refine Wk.sl_v rfl rfl (Wk.wanted_none rfl) (fun a ha => Wk.o_f (Wk.x_move (ha.ev rfl)) hb) ?_
                    refine Wk.sl_skip rfl rfl (Wk.wanted_not rfl rfl rfl rfl) ?_
                    refine Wk.sl_skip rfl rfl (Wk.wanted_not rfl rfl rfl rfl) ?_
                    refine Wk.sl_skip rfl rfl (Wk.wanted_not rfl rfl rfl rfl) ?_
                    refine Wk.sl_skip rfl rfl (Wk.wanted_not rfl rfl rfl rfl) ?_
                    refine Wk.sl_skip rfl rfl (Wk.wanted_not rfl rfl rfl rfl) ?_
                    refine Wk.sl_skip rfl rfl (Wk.wanted_not rfl rfl rfl rfl) ?_
                    refine Wk.sl_v rfl rfl (Wk.wanted_none rfl) (fun a ha => Wk.x_pick_f (ha.ev rfl) (ha.ev rfl)) ?_
                    refine Wk.sl_v rfl rfl (Wk.wanted_none rfl) (fun a ha => Wk.x_move (ha.ev rfl)) ?_
                    refine Wk.sl_skip rfl rfl (Wk.wanted_not rfl rfl rfl rfl) ?_
                    refine Wk.sl_skip rfl rfl (Wk.wanted_not rfl rfl rfl rfl) ?_
                    refine Wk.sl_skip rfl rfl (Wk.wanted_not rfl rfl rfl rfl) ?_
                    refine Wk.sl_skip rfl rfl (Wk.wanted_not rfl rfl rfl rfl) ?_
                    refine Wk.sl_skip rfl rfl (Wk.wanted_not rfl rfl rfl rfl) ?_
                    refine Wk.sl_skip rfl rfl (Wk.wanted_not rfl rfl rfl rfl) ?_
                    refine Wk.sl_skip rfl rfl (Wk.wanted_not rfl rfl rfl rfl) ?_
                    refine Wk.sl_skip rfl rfl (Wk.wanted_not rfl rfl rfl rfl) ?_
                    refine Wk.sl_v rfl rfl (Wk.wanted_none rfl) (fun a ha => Wk.x_pick_f (ha.ev rfl) (ha.ev rfl)) ?_
                    refine Wk.sl_v rfl rfl (Wk.wanted_none rfl) (fun a ha => Wk.x_move (ha.ev rfl)) ?_
                    refine Wk.sl_skip rfl rfl (Wk.wanted_not rfl rfl rfl rfl) ?_
                    refine Wk.sl_skip rfl rfl (Wk.wanted_not rfl rfl rfl rfl) ?_
                    refine Wk.sl_skip rfl rfl (Wk.wanted_not rfl rfl rfl rfl) ?_
                    refine Wk.sl_skip rfl rfl (Wk.wanted_not rfl rfl rfl rfl) ?_
                    refine Wk.sl_skip rfl rfl (Wk.wanted_not rfl rfl rfl rfl) ?_
                    refine Wk.sl_skip rfl rfl (Wk.wanted_not rfl rfl rfl rfl) ?_
                    refine Wk.sl_skip rfl rfl (Wk.wanted_not rfl rfl rfl rfl) ?_
                    refine Wk.sl_skip rfl rfl (Wk.wanted_not rfl rfl rfl rfl) ?_
                    refine Wk.sl_v rfl rfl (Wk.wanted_none rfl) (fun a ha => Wk.x_pick_f (ha.ev rfl) (ha.ev rfl)) ?_
                    refine Wk.sl_v rfl rfl (Wk.wanted_none rfl) (fun a ha => Wk.x_assign (ha.ev rfl)) ?_
                    refine Wk.sl_nil ?_
                    exact Wk.nx_to fun a ha => ⟨⟨false, ha.weaken (Wk.sub.cons rfl (Wk.sub.cons rfl (Wk.sub.cons rfl (Wk.sub.cons rfl (Wk.sub.cons rfl (Wk.sub.cons rfl (Wk.sub.cons rfl (Wk.sub.nil)))))))), H⟩, rfl⟩
              · replace H := H.2 hb
                refine Wk.cw_exit ?_
                refine Wk.nx_exit_then ?_
                refine Wk.nx_exit_then ?_
                refine Wk.nx_exit_hit ?_
                refine Wk.nx_code (Wk.cw_sub (e' := [(0, (.slice A1 n1 c1)), (2, (.slice A3 n3 c3)), (16, (.int .i64 x8)), (18, (.slice A5 n5 c5))]) (Wk.sub.cons rfl (Wk.sub.cons rfl (Wk.sub.cons rfl (Wk.sub.cons rfl (Wk.sub.nil))))) ?_)
                refine Wk.cw_seq ?_
                refine Wk.cw_region ?_
                refine Wk.sl_v rfl rfl (Wk.wanted_none rfl) (fun a ha => Wk.x_move (ha.ev rfl)) ?_
                refine Wk.sl_v rfl rfl (Wk.wanted_none rfl) (fun a ha => Wk.x_assign (ha.ev rfl)) ?_
                refine Wk.sl_nil ?_
                refine Wk.nx_code (Wk.cw_sub (e' := [(0, (.slice A1 n1 c1)), (2, (.slice A3 n3 c3)), (16, (.int .i64 x8)), (18, (.slice A5 n5 c5)), (21, (.int .i64 x8))]) (Wk.sub.cons rfl (Wk.sub.cons rfl (Wk.sub.cons rfl (Wk.sub.cons rfl (Wk.sub.cons rfl (Wk.sub.nil)))))) ?_)
                refine Wk.cw_join_still (fun a => ∃ x23 : Int, Wk.Ok 271 [(0, (.slice A1 n1 c1)), (2, (.slice A3 n3 c3)), (16, (.int .i64 x8)), (18, (.slice A5 n5 c5)), (21, (.int .i64 x23))] a ∧ vc_arbiterlaw13_EufSound_J6 w17 n3 A3 K n1 n5 A5 x8 x23) ?_ ?_
                · rintro a ⟨x23, ha, H⟩
                  unfold vc_arbiterlaw13_EufSound_J6 at H
                  refine (?_ : Wk.CW _ _ _ 271 [(0, (.slice A1 n1 c1)), (2, (.slice A3 n3 c3)), (16, (.int .i64 x8)), (18, (.slice A5 n5 c5)), (21, (.int .i64 x23))] _) a ha
                  refine Wk.cw_seq ?_
                  refine Wk.cw_seq ?_
                  refine Wk.cw_region ?_
                  refine Wk.sl_v rfl rfl (Wk.wanted_none rfl) (fun a ha => Wk.x_assign (ha.ev rfl)) ?_
                  refine Wk.sl_nil ?_
                  refine Wk.nx_code (Wk.cw_sub (e' := [(0, (.slice A1 n1 c1)), (2, (.slice A3 n3 c3)), (16, (.int .i64 x8)), (18, (.slice A5 n5 c5)), (21, (.int .i64 x23)), (22, (.int .i64 0))]) (Wk.sub.cons rfl (Wk.sub.cons rfl (Wk.sub.cons rfl (Wk.sub.cons rfl (Wk.sub.cons rfl (Wk.sub.cons rfl (Wk.sub.nil))))))) ?_)
                  refine Wk.cw_block ?_
                  obtain ⟨I2, ⟨k3, hi⟩, H⟩ := H
                  refine Wk.cw_loop (fun k3 a w' => ∃ x24 : Int, Wk.Ok 271 [(0, (.slice A1 n1 c1)), (2, (.slice A3 n3 c3)), (16, (.int .i64 x8)), (18, (.slice A5 n5 c5)), (21, (.int .i64 x23)), (22, (.int .i64 x24))] a ∧ I2 k3 x24 w') (fun a ha => ⟨k3, 0, ha.weaken (Wk.sub.cons rfl (Wk.sub.cons rfl (Wk.sub.cons rfl (Wk.sub.cons rfl (Wk.sub.cons rfl (Wk.sub.cons rfl (Wk.sub.nil))))))), hi⟩) ?_
                  rintro k3 a w22 ⟨x24, ha, hI⟩
                  replace H := H k3 x24 w22 hI
                  refine (?_ : Wk.CW _ _ _ 271 [(0, (.slice A1 n1 c1)), (2, (.slice A3 n3 c3)), (16, (.int .i64 x8)), (18, (.slice A5 n5 c5)), (21, (.int .i64 x23)), (22, (.int .i64 x24))] _) a ha
                  refine Wk.cw_seq ?_
                  refine Wk.cw_seq ?_
                  refine Wk.cw_region ?_
                  refine Wk.sl_v rfl rfl (Wk.wanted_none rfl) (fun a ha => Wk.x_move (ha.ev rfl)) ?_
                  refine Wk.sl_v rfl rfl (Wk.wanted_none rfl) (fun a ha => Wk.x_move (ha.ev rfl)) ?_
                  refine Wk.sl_v rfl rfl (Wk.wanted_none rfl) (fun a ha => Wk.x_binOp (ha.ev rfl) (ha.ev rfl) Wk.o_lss) ?_
                  refine Wk.sl_nil ?_
                  refine Wk.nx_code (Wk.cw_sub (e' := [(0, (.slice A1 n1 c1)), (2, (.slice A3 n3 c3)), (16, (.int .i64 x8)), (18, (.slice A5 n5 c5)), (21, (.int .i64 x23)), (22, (.int .i64 x24)), (171, (.bool (decide (x24 < x23))))]) (Wk.sub.cons rfl (Wk.sub.cons rfl (Wk.sub.cons rfl (Wk.sub.cons rfl (Wk.sub.cons rfl (Wk.sub.cons rfl (Wk.sub.cons rfl (Wk.sub.nil)))))))) ?_)
                  refine Wk.cw_cond_p rfl (fun hb => ?_) (fun hb => ?_)
                  · replace H := H.1 hb
                    refine Wk.cw_skip ?_
                    refine Wk.nx_code (Wk.cw_sub (e' := [(0, (.slice A1 n1 c1)), (2, (.slice A3 n3 c3)), (16, (.int .i64 x8)), (18, (.slice A5 n5 c5)), (21, (.int .i64 x23)), (22, (.int .i64 x24))]) (Wk.sub.cons rfl (Wk.sub.cons rfl (Wk.sub.cons rfl (Wk.sub.cons rfl (Wk.sub.cons rfl (Wk.sub.cons rfl (Wk.sub.nil))))))) ?_)
                    refine Wk.cw_seq ?_
                    refine Wk.cw_block ?_
                    refine Wk.cw_seq ?_
                    refine Wk.cw_region ?_
                    refine Wk.sl_v rfl rfl (Wk.wanted_none rfl) (fun a ha => Wk.x_move (ha.ev rfl)) ?_
                    refine Wk.sl_v rfl rfl (Wk.wanted_none rfl) (fun a ha => Wk.x_move (ha.ev rfl)) ?_
                    obtain ⟨h28, h29, a10, e10, H⟩ := H
                    refine Wk.sl_v rfl rfl (Wk.wanted_none rfl) (fun a ha => Wk.x_indexAddr (ha.ev rfl) (ha.ev rfl) (Wk.i_index TF.elem_sl_api_Link TF.size_api_Link e10 h28 h29)) ?_
                    obtain ⟨x25, x26, x27, x28, A6, n6, c6, h30, H⟩ := H
                    refine Wk.sl_v rfl rfl (Wk.wanted_none rfl) (fun a ha => Wk.x_load (ha.ev rfl) (Wk.i_loadN (vs := [(.int .i64 x25), (.int .i64 x26), (.int .i64 x27), (.int .i64 x28), (.slice A6 n6 c6)]) TF.agg_api_Link TF.size_api_Link h30)) ?_
                    refine Wk.sl_new (f := (fun p => .pointer (some p))) rfl rfl (Wk.wanted_none rfl) (fun a ha => Wk.x_alloc (Wk.i_alloc TF.zero_api_Link)) ?_
                    intro p5 w23 hN; replace H := H _ _ hN
                    obtain ⟨h32, H⟩ := H
                    refine Wk.sl_un rfl (Wk.wanted_none rfl) (fun a ha => Wk.x_store (ha.ev rfl) (ha.ev rfl) (Wk.i_storeN TF.size_api_Link (by simp [Value.oneCell']) h32)) ?_
                    intro w24 hw; replace H := H _ hw; clear hw
                    refine Wk.sl_nil ?_
                    refine Wk.nx_code (Wk.cw_sub (e' := [(0, (.slice A1 n1 c1)), (2, (.slice A3 n3 c3)), (16, (.int .i64 x8)), (18, (.slice A5 n5 c5)), (21, (.int .i64 x23)), (22, (.int .i64 x24)), (23, (.pointer (some p5)))]) (Wk.sub.cons rfl (Wk.sub.cons rfl (Wk.sub.cons rfl (Wk.sub.cons rfl (Wk.sub.cons rfl (Wk.sub.cons rfl (Wk.sub.cons rfl (Wk.sub.nil)))))))) ?_)
                    refine Wk.cw_join (fun a w => ∃ b8 : Bool, Wk.Ok 271 [(0, (.slice A1 n1 c1)), (2, (.slice A3 n3 c3)), (16, (.int .i64 x8)), (18, (.slice A5 n5 c5)), (21, (.int .i64 x23)), (22, (.int .i64 x24)), (212, (.bool b8))] a ∧ vc_arbiterlaw13_EufSound_J4 K k3 I2 x24 b8 w) ?_ ?_
                    · rintro a w26 ⟨b8, ha, H⟩
                      unfold vc_arbiterlaw13_EufSound_J4 at H
                      refine (?_ : Wk.CW _ _ _ 271 [(0, (.slice A1 n1 c1)), (2, (.slice A3 n3 c3)), (16, (.int .i64 x8)), (18, (.slice A5 n5 c5)), (21, (.int .i64 x23)), (22, (.int .i64 x24)), (212, (.bool b8))] _) a ha
                      refine Wk.cw_cond rfl (fun hb => ?_) (fun hb => ?_)
                      · replace H := H.1 hb
                        refine Wk.cw_seq ?_
                        refine Wk.cw_region ?_
                        refine Wk.sl_v rfl rfl (Wk.wanted_none rfl) (fun a ha => Wk.x_assign (ha.ev rfl)) ?_
                        refine Wk.sl_nil ?_
                        refine Wk.nx_code (Wk.cw_sub (e' := [(10, (.bool false))]) (Wk.sub.cons rfl (Wk.sub.nil)) ?_)
                        refine Wk.cw_ret ?_
                        refine Wk.nx_ret_block ?_
                        refine Wk.nx_ret_then ?_
                        refine Wk.nx_ret_then ?_
                        refine Wk.nx_ret_block ?_
                        refine Wk.nx_ret_then ?_
                        exact Wk.nx_body_ret (Wk.res1 rfl rfl) ⟨_, rfl, _, rfl, H⟩
                      · replace H := H.2 hb
                        refine Wk.cw_skip ?_
                        refine Wk.nx_block ?_
                        refine Wk.nx_code (Wk.cw_sub (e' := [(0, (.slice A1 n1 c1)), (2, (.slice A3 n3 c3)), (16, (.int .i64 x8)), (18, (.slice A5 n5 c5)), (21, (.int .i64 x23)), (22, (.int .i64 x24))]) (Wk.sub.cons rfl (Wk.sub.cons rfl (Wk.sub.cons rfl (Wk.sub.cons rfl (Wk.sub.cons rfl (Wk.sub.cons rfl (Wk.sub.nil))))))) ?_)
                        refine Wk.cw_region ?_
                        refine Wk.sl_v rfl rfl (Wk.wanted_none rfl) (fun a ha => Wk.x_move (ha.ev rfl)) ?_
                        refine Wk.sl_v rfl rfl (Wk.wanted_none rfl) (fun a ha => Wk.x_binOp (ha.ev rfl) (ha.ev rfl) Wk.o_add) ?_
                        refine Wk.sl_v rfl rfl (Wk.wanted_none rfl) (fun a ha => Wk.x_assign (ha.ev rfl)) ?_
                        refine Wk.sl_nil ?_
                        obtain ⟨k4, hk, H⟩ := H
                        exact Wk.nx_to fun a ha => ⟨k4, hk, IntKind.wrap .i64 (x24 + 1), ha.weaken (Wk.sub.cons rfl (Wk.sub.cons rfl (Wk.sub.cons rfl (Wk.sub.cons rfl (Wk.sub.cons rfl (Wk.sub.cons rfl (Wk.sub.nil))))))), H⟩
                    · refine Wk.cw_any_drawn follows [0, 1, 2, 3, 4, 5, 6, 7, 8, 9, 10, 11, 12, 13, 14, 15, 16, 17, 18, 19, 20, 21, 22, 23, 24, 25, 26, 27, 28, 29, 30, 31, 32, 33, 34] [1, 5, 10, 17, 25, 27, 30, 32] 35 rfl rfl (by kernel_rfl) (fun _ _ d _ _ h => by cases d <;> exact h) (fun cm hW hD => ?_)
                      refine Wk.an_p (i := 0) cm rfl (by kernel_rfl) rfl rfl (Wk.wanted_none rfl) (fun w' a ha => Wk.x_fieldAddr (ha.ev rfl) (TF.fld_api_Link_1 _ _)) rfl ?_
                      intro _ hd; replace hD := hD.trans hd; replace hW := cm.held _ _ hW hd; clear hd
                      obtain ⟨x29, h33, H⟩ := H
                      refine Wk.an_v (i := 1) cm rfl (by kernel_rfl) hW rfl rfl (Wk.wanted_none rfl) (fun w' hw a ha => Wk.x_load (ha.ev rfl) (Wk.i_load1 TF.agg_int ((hw.cell _).trans h33))) rfl ?_
                      intro _ hd hW; replace hD := hD.trans hd; clear hd
                      refine Wk.an_p (i := 2) cm rfl (by kernel_rfl) rfl rfl (Wk.wanted_none rfl) (fun w' a ha => Wk.x_binOp (ha.ev rfl) (ha.ev rfl) Wk.o_lss) rfl ?_
                      intro _ hd; replace hD := hD.trans hd; replace hW := cm.held _ _ hW hd; clear hd
                      rcases Classical.em (x29 < 0) with hb | hb
                      · replace H := H.1 hb
                        refine Wk.an_p (i := 3) cm rfl (by kernel_rfl) rfl rfl (Wk.wanted_none rfl) (fun w' a ha => Wk.o_t (Wk.x_move (ha.ev rfl)) hb) rfl ?_
                        intro _ hd; replace hD := hD.trans hd; replace hW := cm.held _ _ hW hd; clear hd
                        refine Wk.an_pskip (i := 4) cm rfl (by kernel_rfl) rfl rfl (Wk.wanted_not rfl rfl rfl rfl) rfl ?_
                        intro _ hd; replace hD := hD.trans hd; replace hW := cm.held _ _ hW hd; clear hd
                        refine Wk.an_pskip (i := 5) cm rfl (by kernel_rfl) rfl rfl (Wk.wanted_not rfl rfl rfl rfl) rfl ?_
                        intro _ hd; replace hD := hD.trans hd; replace hW := cm.held _ _ hW hd; clear hd
                        refine Wk.an_pskip (i := 6) cm rfl (by kernel_rfl) rfl rfl (Wk.wanted_not rfl rfl rfl rfl) rfl ?_
                        intro _ hd; replace hD := hD.trans hd; replace hW := cm.held _ _ hW hd; clear hd
                        refine Wk.an_p (i := 7) cm rfl (by kernel_rfl) rfl rfl (Wk.wanted_none rfl) (fun w' a ha => Wk.x_pick_t (ha.ev rfl) (ha.ev rfl)) rfl ?_
                        intro _ hd; replace hD := hD.trans hd; replace hW := cm.held _ _ hW hd; clear hd
                        refine Wk.an_p (i := 8) cm rfl (by kernel_rfl) rfl rfl (Wk.wanted_none rfl) (fun w' a ha => Wk.x_move (ha.ev rfl)) rfl ?_
                        intro _ hd; replace hD := hD.trans hd; replace hW := cm.held _ _ hW hd; clear hd
                        refine Wk.an_pskip (i := 9) cm rfl (by kernel_rfl) rfl rfl (Wk.wanted_not rfl rfl rfl rfl) rfl ?_
                        intro _ hd; replace hD := hD.trans hd; replace hW := cm.held _ _ hW hd; clear hd
                        refine Wk.an_pskip (i := 10) cm rfl (by kernel_rfl) rfl rfl (Wk.wanted_not rfl rfl rfl rfl) rfl ?_
                        intro _ hd; replace hD := hD.trans hd; replace hW := cm.held _ _ hW hd; clear hd
                        refine Wk.an_pskip (i := 11) cm rfl (by kernel_rfl) rfl rfl (Wk.wanted_not rfl rfl rfl rfl) rfl ?_
                        intro _ hd; replace hD := hD.trans hd; replace hW := cm.held _ _ hW hd; clear hd
                        refine Wk.an_pskip (i := 12) cm rfl (by kernel_rfl) rfl rfl (Wk.wanted_not rfl rfl rfl rfl) rfl ?_
                        intro _ hd; replace hD := hD.trans hd; replace hW := cm.held _ _ hW hd; clear hd
                        refine Wk.an_pskip (i := 13) cm rfl (by kernel_rfl) rfl rfl (Wk.wanted_not rfl rfl rfl rfl) rfl ?_
                        intro _ hd; replace hD := hD.trans hd; replace hW := cm.held _ _ hW hd; clear hd
                        refine Wk.an_p (i := 14) cm rfl (by kernel_rfl) rfl rfl (Wk.wanted_none rfl) (fun w' a ha => Wk.x_pick_t (ha.ev rfl) (ha.ev rfl)) rfl ?_
                        intro _ hd; replace hD := hD.trans hd; replace hW := cm.held _ _ hW hd; clear hd
                        refine Wk.an_p (i := 15) cm rfl (by kernel_rfl) rfl rfl (Wk.wanted_none rfl) (fun w' a ha => Wk.x_move (ha.ev rfl)) rfl ?_
                        intro _ hd; replace hD := hD.trans hd; replace hW := cm.held _ _ hW hd; clear hd
                        refine Wk.an_pskip (i := 16) cm rfl (by kernel_rfl) rfl rfl (Wk.wanted_not rfl rfl rfl rfl) rfl ?_
                        intro _ hd; replace hD := hD.trans hd; replace hW := cm.held _ _ hW hd; clear hd
                        refine Wk.an_pskip (i := 17) cm rfl (by kernel_rfl) rfl rfl (Wk.wanted_not rfl rfl rfl rfl) rfl ?_
                        intro _ hd; replace hD := hD.trans hd; replace hW := cm.held _ _ hW hd; clear hd
                        refine Wk.an_pskip (i := 18) cm rfl (by kernel_rfl) rfl rfl (Wk.wanted_not rfl rfl rfl rfl) rfl ?_
                        intro _ hd; replace hD := hD.trans hd; replace hW := cm.held _ _ hW hd; clear hd
                        refine Wk.an_pskip (i := 19) cm rfl (by kernel_rfl) rfl rfl (Wk.wanted_not rfl rfl rfl rfl) rfl ?_
                        intro _ hd; replace hD := hD.trans hd; replace hW := cm.held _ _ hW hd; clear hd
                        refine Wk.an_pskip (i := 20) cm rfl (by kernel_rfl) rfl rfl (Wk.wanted_not rfl rfl rfl rfl) rfl ?_
                        intro _ hd; replace hD := hD.trans hd; replace hW := cm.held _ _ hW hd; clear hd
                        refine Wk.an_p (i := 21) cm rfl (by kernel_rfl) rfl rfl (Wk.wanted_none rfl) (fun w' a ha => Wk.x_pick_t (ha.ev rfl) (ha.ev rfl)) rfl ?_
                        intro _ hd; replace hD := hD.trans hd; replace hW := cm.held _ _ hW hd; clear hd
                        refine Wk.an_p (i := 22) cm rfl (by kernel_rfl) rfl rfl (Wk.wanted_none rfl) (fun w' a ha => Wk.x_move (ha.ev rfl)) rfl ?_
                        intro _ hd; replace hD := hD.trans hd; replace hW := cm.held _ _ hW hd; clear hd
                        refine Wk.an_pskip (i := 23) cm rfl (by kernel_rfl) rfl rfl (Wk.wanted_not rfl rfl rfl rfl) rfl ?_
                        intro _ hd; replace hD := hD.trans hd; replace hW := cm.held _ _ hW hd; clear hd
                        refine Wk.an_pskip (i := 24) cm rfl (by kernel_rfl) rfl rfl (Wk.wanted_not rfl rfl rfl rfl) rfl ?_
                        intro _ hd; replace hD := hD.trans hd; replace hW := cm.held _ _ hW hd; clear hd
                        refine Wk.an_pskip (i := 25) cm rfl (by kernel_rfl) rfl rfl (Wk.wanted_not rfl rfl rfl rfl) rfl ?_
                        intro _ hd; replace hD := hD.trans hd; replace hW := cm.held _ _ hW hd; clear hd
                        refine Wk.an_pskip (i := 26) cm rfl (by kernel_rfl) rfl rfl (Wk.wanted_not rfl rfl rfl rfl) rfl ?_
                        intro _ hd; replace hD := hD.trans hd; replace hW := cm.held _ _ hW hd; clear hd
                        refine Wk.an_pskip (i := 27) cm rfl (by kernel_rfl) rfl rfl (Wk.wanted_not rfl rfl rfl rfl) rfl ?_
                        intro _ hd; replace hD := hD.trans hd; replace hW := cm.held _ _ hW hd; clear hd
                        refine Wk.an_pskip (i := 28) cm rfl (by kernel_rfl) rfl rfl (Wk.wanted_not rfl rfl rfl rfl) rfl ?_
                        intro _ hd; replace hD := hD.trans hd; replace hW := cm.held _ _ hW hd; clear hd
                        refine Wk.an_pskip (i := 29) cm rfl (by kernel_rfl) rfl rfl (Wk.wanted_not rfl rfl rfl rfl) rfl ?_
                        intro _ hd; replace hD := hD.trans hd; replace hW := cm.held _ _ hW hd; clear hd
                        refine Wk.an_pskip (i := 30) cm rfl (by kernel_rfl) rfl rfl (Wk.wanted_not rfl rfl rfl rfl) rfl ?_
                        intro _ hd; replace hD := hD.trans hd; replace hW := cm.held _ _ hW hd; clear hd
                        refine Wk.an_pskip (i := 31) cm rfl (by kernel_rfl) rfl rfl (Wk.wanted_not rfl rfl rfl rfl) rfl ?_
                        intro _ hd; replace hD := hD.trans hd; replace hW := cm.held _ _ hW hd; clear hd
                        refine Wk.an_pskip (i := 32) cm rfl (by kernel_rfl) rfl rfl (Wk.wanted_not rfl rfl rfl rfl) rfl ?_
                        intro _ hd; replace hD := hD.trans hd; replace hW := cm.held _ _ hW hd; clear hd
                        refine Wk.an_pskip (i := 33) cm rfl (by kernel_rfl) rfl rfl (Wk.wanted_not rfl rfl rfl rfl) rfl ?_
                        intro _ hd; replace hD := hD.trans hd; clear hd
                        refine Wk.an_p (i := 34) cm rfl (by kernel_rfl) rfl rfl (Wk.wanted_none rfl) (fun w' a ha => Wk.x_pick_t (ha.ev rfl) (ha.ev rfl)) rfl ?_
                        intro _ hd; replace hD := hD.trans hd; clear hd
                        refine Wk.an_end (by kernel_rfl) hD ?_
                        intro w25 hD; replace H := H _ hD; clear hD cm
                        exact Wk.nx_to fun a ha => ⟨true, ha.weaken (Wk.sub.cons rfl (Wk.sub.cons rfl (Wk.sub.cons rfl (Wk.sub.cons rfl (Wk.sub.cons rfl (Wk.sub.cons rfl (Wk.sub.cons rfl (Wk.sub.nil)))))))), H⟩
                      · replace H := H.2 hb
                        refine Wk.an_p (i := 3) cm rfl (by kernel_rfl) rfl rfl (Wk.wanted_none rfl) (fun w' a ha => Wk.o_f (Wk.x_move (ha.ev rfl)) hb) rfl ?_
                        intro _ hd; replace hD := hD.trans hd; replace hW := cm.held _ _ hW hd; clear hd
                        refine Wk.an_p (i := 4) cm rfl (by kernel_rfl) rfl rfl (Wk.wanted_some rfl rfl rfl) (fun w' a ha => Wk.x_fieldAddr (ha.ev rfl) (TF.fld_api_Link_2 _ _)) rfl ?_
                        intro _ hd; replace hD := hD.trans hd; replace hW := cm.held _ _ hW hd; clear hd
                        obtain ⟨x30, h34, H⟩ := H
                        refine Wk.an_v (i := 5) cm rfl (by kernel_rfl) hW rfl rfl (Wk.wanted_some rfl rfl rfl) (fun w' hw a ha => Wk.x_load (ha.ev rfl) (Wk.i_load1 TF.agg_int ((hw.cell _).trans h34))) rfl ?_
                        intro _ hd hW; replace hD := hD.trans hd; clear hd
                        refine Wk.an_p (i := 6) cm rfl (by kernel_rfl) rfl rfl (Wk.wanted_some rfl rfl rfl) (fun w' a ha => Wk.x_binOp (ha.ev rfl) (ha.ev rfl) Wk.o_lss) rfl ?_
                        intro _ hd; replace hD := hD.trans hd; replace hW := cm.held _ _ hW hd; clear hd
                        refine Wk.an_p (i := 7) cm rfl (by kernel_rfl) rfl rfl (Wk.wanted_none rfl) (fun w' a ha => Wk.x_pick_f (ha.ev rfl) (ha.ev rfl)) rfl ?_
                        intro _ hd; replace hD := hD.trans hd; replace hW := cm.held _ _ hW hd; clear hd
                        rcases Classical.em (x30 < 0) with hb | hb
                        · replace H := H.1 hb
                          refine Wk.an_p (i := 8) cm rfl (by kernel_rfl) rfl rfl (Wk.wanted_none rfl) (fun w' a ha => Wk.o_t (Wk.x_move (ha.ev rfl)) hb) rfl ?_
                          intro _ hd; replace hD := hD.trans hd; replace hW := cm.held _ _ hW hd; clear hd
                          refine Wk.an_pskip (i := 9) cm rfl (by kernel_rfl) rfl rfl (Wk.wanted_not rfl rfl rfl rfl) rfl ?_
                          intro _ hd; replace hD := hD.trans hd; replace hW := cm.held _ _ hW hd; clear hd
                          refine Wk.an_pskip (i := 10) cm rfl (by kernel_rfl) rfl rfl (Wk.wanted_not rfl rfl rfl rfl) rfl ?_
                          intro _ hd; replace hD := hD.trans hd; replace hW := cm.held _ _ hW hd; clear hd
                          refine Wk.an_pskip (i := 11) cm rfl (by kernel_rfl) rfl rfl (Wk.wanted_not rfl rfl rfl rfl) rfl ?_
                          intro _ hd; replace hD := hD.trans hd; replace hW := cm.held _ _ hW hd; clear hd
                          refine Wk.an_pskip (i := 12) cm rfl (by kernel_rfl) rfl rfl (Wk.wanted_not rfl rfl rfl rfl) rfl ?_
                          intro _ hd; replace hD := hD.trans hd; replace hW := cm.held _ _ hW hd; clear hd
                          refine Wk.an_pskip (i := 13) cm rfl (by kernel_rfl) rfl rfl (Wk.wanted_not rfl rfl rfl rfl) rfl ?_
                          intro _ hd; replace hD := hD.trans hd; replace hW := cm.held _ _ hW hd; clear hd
                          refine Wk.an_p (i := 14) cm rfl (by kernel_rfl) rfl rfl (Wk.wanted_none rfl) (fun w' a ha => Wk.x_pick_t (ha.ev rfl) (ha.ev rfl)) rfl ?_
                          intro _ hd; replace hD := hD.trans hd; replace hW := cm.held _ _ hW hd; clear hd
                          refine Wk.an_p (i := 15) cm rfl (by kernel_rfl) rfl rfl (Wk.wanted_none rfl) (fun w' a ha => Wk.x_move (ha.ev rfl)) rfl ?_
                          intro _ hd; replace hD := hD.trans hd; replace hW := cm.held _ _ hW hd; clear hd
                          refine Wk.an_pskip (i := 16) cm rfl (by kernel_rfl) rfl rfl (Wk.wanted_not rfl rfl rfl rfl) rfl ?_
                          intro _ hd; replace hD := hD.trans hd; replace hW := cm.held _ _ hW hd; clear hd
                          refine Wk.an_pskip (i := 17) cm rfl (by kernel_rfl) rfl rfl (Wk.wanted_not rfl rfl rfl rfl) rfl ?_
                          intro _ hd; replace hD := hD.trans hd; replace hW := cm.held _ _ hW hd; clear hd
                          refine Wk.an_pskip (i := 18) cm rfl (by kernel_rfl) rfl rfl (Wk.wanted_not rfl rfl rfl rfl) rfl ?_
                          intro _ hd; replace hD := hD.trans hd; replace hW := cm.held _ _ hW hd; clear hd
                          refine Wk.an_pskip (i := 19) cm rfl (by kernel_rfl) rfl rfl (Wk.wanted_not rfl rfl rfl rfl) rfl ?_
                          intro _ hd; replace hD := hD.trans hd; replace hW := cm.held _ _ hW hd; clear hd
                          refine Wk.an_pskip (i := 20) cm rfl (by kernel_rfl) rfl rfl (Wk.wanted_not rfl rfl rfl rfl) rfl ?_
                          intro _ hd; replace hD := hD.trans hd; replace hW := cm.held _ _ hW hd; clear hd
                          refine Wk.an_p (i := 21) cm rfl (by kernel_rfl) rfl rfl (Wk.wanted_none rfl) (fun w' a ha => Wk.x_pick_t (ha.ev rfl) (ha.ev rfl)) rfl ?_
                          intro _ hd; replace hD := hD.trans hd; replace hW := cm.held _ _ hW hd; clear hd
                          refine Wk.an_p (i := 22) cm rfl (by kernel_rfl) rfl rfl (Wk.wanted_none rfl) (fun w' a ha => Wk.x_move (ha.ev rfl)) rfl ?_
                          intro _ hd; replace hD := hD.trans hd; replace hW := cm.held _ _ hW hd; clear hd
                          refine Wk.an_pskip (i := 23) cm rfl (by kernel_rfl) rfl rfl (Wk.wanted_not rfl rfl rfl rfl) rfl ?_
                          intro _ hd; replace hD := hD.trans hd; replace hW := cm.held _ _ hW hd; clear hd
                          refine Wk.an_pskip (i := 24) cm rfl (by kernel_rfl) rfl rfl (Wk.wanted_not rfl rfl rfl rfl) rfl ?_
                          intro _ hd; replace hD := hD.trans hd; replace hW := cm.held _ _ hW hd; clear hd
                          refine Wk.an_pskip (i := 25) cm rfl (by kernel_rfl) rfl rfl (Wk.wanted_not rfl rfl rfl rfl) rfl ?_
                          intro _ hd; replace hD := hD.trans hd; replace hW := cm.held _ _ hW hd; clear hd
                          refine Wk.an_pskip (i := 26) cm rfl (by kernel_rfl) rfl rfl (Wk.wanted_not rfl rfl rfl rfl) rfl ?_
                          intro _ hd; replace hD := hD.trans hd; replace hW := cm.held _ _ hW hd; clear hd
                          refine Wk.an_pskip (i := 27) cm rfl (by kernel_rfl) rfl rfl (Wk.wanted_not rfl rfl rfl rfl) rfl ?_
                          intro _ hd; replace hD := hD.trans hd; replace hW := cm.held _ _ hW hd; clear hd
                          refine Wk.an_pskip (i := 28) cm rfl (by kernel_rfl) rfl rfl (Wk.wanted_not rfl rfl rfl rfl) rfl ?_
                          intro _ hd; replace hD := hD.trans hd; replace hW := cm.held _ _ hW hd; clear hd
                          refine Wk.an_pskip (i := 29) cm rfl (by kernel_rfl) rfl rfl (Wk.wanted_not rfl rfl rfl rfl) rfl ?_
                          intro _ hd; replace hD := hD.trans hd; replace hW := cm.held _ _ hW hd; clear hd
                          refine Wk.an_pskip (i := 30) cm rfl (by kernel_rfl) rfl rfl (Wk.wanted_not rfl rfl rfl rfl) rfl ?_
                          intro _ hd; replace hD := hD.trans hd; replace hW := cm.held _ _ hW hd; clear hd
                          refine Wk.an_pskip (i := 31) cm rfl (by kernel_rfl) rfl rfl (Wk.wanted_not rfl rfl rfl rfl) rfl ?_
                          intro _ hd; replace hD := hD.trans hd; replace hW := cm.held _ _ hW hd; clear hd
                          refine Wk.an_pskip (i := 32) cm rfl (by kernel_rfl) rfl rfl (Wk.wanted_not rfl rfl rfl rfl) rfl ?_
                          intro _ hd; replace hD := hD.trans hd; replace hW := cm.held _ _ hW hd; clear hd
                          refine Wk.an_pskip (i := 33) cm rfl (by kernel_rfl) rfl rfl (Wk.wanted_not rfl rfl rfl rfl) rfl ?_
                          intro _ hd; replace hD := hD.trans hd; clear hd
                          refine Wk.an_p (i := 34) cm rfl (by kernel_rfl) rfl rfl (Wk.wanted_none rfl) (fun w' a ha => Wk.x_pick_t (ha.ev rfl) (ha.ev rfl)) rfl ?_
                          intro _ hd; replace hD := hD.trans hd; clear hd
                          refine Wk.an_end (by kernel_rfl) hD ?_
                          intro w27 hD; replace H := H _ hD; clear hD cm
                          exact Wk.nx_to fun a ha => ⟨true, ha.weaken (Wk.sub.cons rfl (Wk.sub.cons rfl (Wk.sub.cons rfl (Wk.sub.cons rfl (Wk.sub.cons rfl (Wk.sub.cons rfl (Wk.sub.cons rfl (Wk.sub.nil)))))))), H⟩
                        · replace H := H.2 hb
                          refine Wk.an_p (i := 8) cm rfl (by kernel_rfl) rfl rfl (Wk.wanted_none rfl) (fun w' a ha => Wk.o_f (Wk.x_move (ha.ev rfl)) hb) rfl ?_
                          intro _ hd; replace hD := hD.trans hd; replace hW := cm.held _ _ hW hd; clear hd
                          refine Wk.an_p (i := 9) cm rfl (by kernel_rfl) rfl rfl (Wk.wanted_some rfl rfl rfl) (fun w' a ha => Wk.x_fieldAddr (ha.ev rfl) (TF.fld_api_Link_1 _ _)) rfl ?_
                          intro _ hd; replace hD := hD.trans hd; replace hW := cm.held _ _ hW hd; clear hd
                          obtain ⟨x31, h35, H⟩ := H
                          refine Wk.an_v (i := 10) cm rfl (by kernel_rfl) hW rfl rfl (Wk.wanted_some rfl rfl rfl) (fun w' hw a ha => Wk.x_load (ha.ev rfl) (Wk.i_load1 TF.agg_int ((hw.cell _).trans h35))) rfl ?_
                          intro _ hd hW; replace hD := hD.trans hd; clear hd
                          refine Wk.an_p (i := 11) cm rfl (by kernel_rfl) rfl rfl (Wk.wanted_some rfl rfl rfl) (fun w' a ha => Wk.x_move (ha.ev rfl)) rfl ?_
                          intro _ hd; replace hD := hD.trans hd; replace hW := cm.held _ _ hW hd; clear hd
                          refine Wk.an_p (i := 12) cm rfl (by kernel_rfl) rfl rfl (Wk.wanted_some rfl rfl rfl) (fun w' a ha => Wk.x_builtin (ha.evs rfl) (fun _ => Wk.l_slice TF.isslice_sl_api_Flat)) rfl ?_
                          intro _ hd; replace hD := hD.trans hd; replace hW := cm.held _ _ hW hd; clear hd
                          refine Wk.an_p (i := 13) cm rfl (by kernel_rfl) rfl rfl (Wk.wanted_some rfl rfl rfl) (fun w' a ha => Wk.x_binOp (ha.ev rfl) (ha.ev rfl) Wk.o_geq) rfl ?_
                          intro _ hd; replace hD := hD.trans hd; replace hW := cm.held _ _ hW hd; clear hd
                          refine Wk.an_p (i := 14) cm rfl (by kernel_rfl) rfl rfl (Wk.wanted_none rfl) (fun w' a ha => Wk.x_pick_f (ha.ev rfl) (ha.ev rfl)) rfl ?_
                          intro _ hd; replace hD := hD.trans hd; replace hW := cm.held _ _ hW hd; clear hd
                          rcases Classical.em ((n1 : Int) ≤ x31) with hb | hb
                          · replace H := H.1 hb
                            refine Wk.an_p (i := 15) cm rfl (by kernel_rfl) rfl rfl (Wk.wanted_none rfl) (fun w' a ha => Wk.o_t (Wk.x_move (ha.ev rfl)) hb) rfl ?_
                            intro _ hd; replace hD := hD.trans hd; replace hW := cm.held _ _ hW hd; clear hd
                            refine Wk.an_pskip (i := 16) cm rfl (by kernel_rfl) rfl rfl (Wk.wanted_not rfl rfl rfl rfl) rfl ?_
                            intro _ hd; replace hD := hD.trans hd; replace hW := cm.held _ _ hW hd; clear hd
                            refine Wk.an_pskip (i := 17) cm rfl (by kernel_rfl) rfl rfl (Wk.wanted_not rfl rfl rfl rfl) rfl ?_
                            intro _ hd; replace hD := hD.trans hd; replace hW := cm.held _ _ hW hd; clear hd
                            refine Wk.an_pskip (i := 18) cm rfl (by kernel_rfl) rfl rfl (Wk.wanted_not rfl rfl rfl rfl) rfl ?_
                            intro _ hd; replace hD := hD.trans hd; replace hW := cm.held _ _ hW hd; clear hd
                            refine Wk.an_pskip (i := 19) cm rfl (by kernel_rfl) rfl rfl (Wk.wanted_not rfl rfl rfl rfl) rfl ?_
                            intro _ hd; replace hD := hD.trans hd; replace hW := cm.held _ _ hW hd; clear hd
                            refine Wk.an_pskip (i := 20) cm rfl (by kernel_rfl) rfl rfl (Wk.wanted_not rfl rfl rfl rfl) rfl ?_
                            intro _ hd; replace hD := hD.trans hd; replace hW := cm.held _ _ hW hd; clear hd
                            refine Wk.an_p (i := 21) cm rfl (by kernel_rfl) rfl rfl (Wk.wanted_none rfl) (fun w' a ha => Wk.x_pick_t (ha.ev rfl) (ha.ev rfl)) rfl ?_
                            intro _ hd; replace hD := hD.trans hd; replace hW := cm.held _ _ hW hd; clear hd
                            refine Wk.an_p (i := 22) cm rfl (by kernel_rfl) rfl rfl (Wk.wanted_none rfl) (fun w' a ha => Wk.x_move (ha.ev rfl)) rfl ?_
                            intro _ hd; replace hD := hD.trans hd; replace hW := cm.held _ _ hW hd; clear hd
                            refine Wk.an_pskip (i := 23) cm rfl (by kernel_rfl) rfl rfl (Wk.wanted_not rfl rfl rfl rfl) rfl ?_
                            intro _ hd; replace hD := hD.trans hd; replace hW := cm.held _ _ hW hd; clear hd
                            refine Wk.an_pskip (i := 24) cm rfl (by kernel_rfl) rfl rfl (Wk.wanted_not rfl rfl rfl rfl) rfl ?_
                            intro _ hd; replace hD := hD.trans hd; replace hW := cm.held _ _ hW hd; clear hd
                            refine Wk.an_pskip (i := 25) cm rfl (by kernel_rfl) rfl rfl (Wk.wanted_not rfl rfl rfl rfl) rfl ?_
                            intro _ hd; replace hD := hD.trans hd; replace hW := cm.held _ _ hW hd; clear hd
                            refine Wk.an_pskip (i := 26) cm rfl (by kernel_rfl) rfl rfl (Wk.wanted_not rfl rfl rfl rfl) rfl ?_
                            intro _ hd; replace hD := hD.trans hd; replace hW := cm.held _ _ hW hd; clear hd
                            refine Wk.an_pskip (i := 27) cm rfl (by kernel_rfl) rfl rfl (Wk.wanted_not rfl rfl rfl rfl) rfl ?_
                            intro _ hd; replace hD := hD.trans hd; replace hW := cm.held _ _ hW hd; clear hd
                            refine Wk.an_pskip (i := 28) cm rfl (by kernel_rfl) rfl rfl (Wk.wanted_not rfl rfl rfl rfl) rfl ?_
                            intro _ hd; replace hD := hD.trans hd; replace hW := cm.held _ _ hW hd; clear hd
                            refine Wk.an_pskip (i := 29) cm rfl (by kernel_rfl) rfl rfl (Wk.wanted_not rfl rfl rfl rfl) rfl ?_
                            intro _ hd; replace hD := hD.trans hd; replace hW := cm.held _ _ hW hd; clear hd
                            refine Wk.an_pskip (i := 30) cm rfl (by kernel_rfl) rfl rfl (Wk.wanted_not rfl rfl rfl rfl) rfl ?_
                            intro _ hd; replace hD := hD.trans hd; replace hW := cm.held _ _ hW hd; clear hd
                            refine Wk.an_pskip (i := 31) cm rfl (by kernel_rfl) rfl rfl (Wk.wanted_not rfl rfl rfl rfl) rfl ?_
                            intro _ hd; replace hD := hD.trans hd; replace hW := cm.held _ _ hW hd; clear hd
                            refine Wk.an_pskip (i := 32) cm rfl (by kernel_rfl) rfl rfl (Wk.wanted_not rfl rfl rfl rfl) rfl ?_
                            intro _ hd; replace hD := hD.trans hd; replace hW := cm.held _ _ hW hd; clear hd
                            refine Wk.an_pskip (i := 33) cm rfl (by kernel_rfl) rfl rfl (Wk.wanted_not rfl rfl rfl rfl) rfl ?_
                            intro _ hd; replace hD := hD.trans hd; clear hd
                            refine Wk.an_p (i := 34) cm rfl (by kernel_rfl) rfl rfl (Wk.wanted_none rfl) (fun w' a ha => Wk.x_pick_t (ha.ev rfl) (ha.ev rfl)) rfl ?_
                            intro _ hd; replace hD := hD.trans hd; clear hd
                            refine Wk.an_end (by kernel_rfl) hD ?_
                            intro w28 hD; replace H := H _ hD; clear hD cm
                            exact Wk.nx_to fun a ha => ⟨true, ha.weaken (Wk.sub.cons rfl (Wk.sub.cons rfl (Wk.sub.cons rfl (Wk.sub.cons rfl (Wk.sub.cons rfl (Wk.sub.cons rfl (Wk.sub.cons rfl (Wk.sub.nil)))))))), H⟩
                          · replace H := H.2 hb
                            refine Wk.an_p (i := 15) cm rfl (by kernel_rfl) rfl rfl (Wk.wanted_none rfl) (fun w' a ha => Wk.o_f (Wk.x_move (ha.ev rfl)) hb) rfl ?_
                            intro _ hd; replace hD := hD.trans hd; replace hW := cm.held _ _ hW hd; clear hd
                            refine Wk.an_p (i := 16) cm rfl (by kernel_rfl) rfl rfl (Wk.wanted_some rfl rfl rfl) (fun w' a ha => Wk.x_fieldAddr (ha.ev rfl) (TF.fld_api_Link_2 _ _)) rfl ?_
                            intro _ hd; replace hD := hD.trans hd; replace hW := cm.held _ _ hW hd; clear hd
                            obtain ⟨x32, h36, H⟩ := H
                            refine Wk.an_v (i := 17) cm rfl (by kernel_rfl) hW rfl rfl (Wk.wanted_some rfl rfl rfl) (fun w' hw a ha => Wk.x_load (ha.ev rfl) (Wk.i_load1 TF.agg_int ((hw.cell _).trans h36))) rfl ?_
                            intro _ hd hW; replace hD := hD.trans hd; clear hd
                            refine Wk.an_p (i := 18) cm rfl (by kernel_rfl) rfl rfl (Wk.wanted_some rfl rfl rfl) (fun w' a ha => Wk.x_move (ha.ev rfl)) rfl ?_
                            intro _ hd; replace hD := hD.trans hd; replace hW := cm.held _ _ hW hd; clear hd
                            refine Wk.an_p (i := 19) cm rfl (by kernel_rfl) rfl rfl (Wk.wanted_some rfl rfl rfl) (fun w' a ha => Wk.x_builtin (ha.evs rfl) (fun _ => Wk.l_slice TF.isslice_sl_api_Flat)) rfl ?_
                            intro _ hd; replace hD := hD.trans hd; replace hW := cm.held _ _ hW hd; clear hd
                            refine Wk.an_p (i := 20) cm rfl (by kernel_rfl) rfl rfl (Wk.wanted_some rfl rfl rfl) (fun w' a ha => Wk.x_binOp (ha.ev rfl) (ha.ev rfl) Wk.o_geq) rfl ?_
                            intro _ hd; replace hD := hD.trans hd; replace hW := cm.held _ _ hW hd; clear hd
                            refine Wk.an_p (i := 21) cm rfl (by kernel_rfl) rfl rfl (Wk.wanted_none rfl) (fun w' a ha => Wk.x_pick_f (ha.ev rfl) (ha.ev rfl)) rfl ?_
                            intro _ hd; replace hD := hD.trans hd; replace hW := cm.held _ _ hW hd; clear hd
                            rcases Classical.em ((n1 : Int) ≤ x32) with hb | hb
                            · replace H := H.1 hb
                              refine Wk.an_p (i := 22) cm rfl (by kernel_rfl) rfl rfl (Wk.wanted_none rfl) (fun w' a ha => Wk.o_t (Wk.x_move (ha.ev rfl)) hb) rfl ?_
                              intro _ hd; replace hD := hD.trans hd; replace hW := cm.held _ _ hW hd; clear hd
                              refine Wk.an_pskip (i := 23) cm rfl (by kernel_rfl) rfl rfl (Wk.wanted_not rfl rfl rfl rfl) rfl ?_
                              intro _ hd; replace hD := hD.trans hd; replace hW := cm.held _ _ hW hd; clear hd
                              refine Wk.an_pskip (i := 24) cm rfl (by kernel_rfl) rfl rfl (Wk.wanted_not rfl rfl rfl rfl) rfl ?_
                              intro _ hd; replace hD := hD.trans hd; replace hW := cm.held _ _ hW hd; clear hd
                              refine Wk.an_pskip (i := 25) cm rfl (by kernel_rfl) rfl rfl (Wk.wanted_not rfl rfl rfl rfl) rfl ?_
                              intro _ hd; replace hD := hD.trans hd; replace hW := cm.held _ _ hW hd; clear hd
                              refine Wk.an_pskip (i := 26) cm rfl (by kernel_rfl) rfl rfl (Wk.wanted_not rfl rfl rfl rfl) rfl ?_
                              intro _ hd; replace hD := hD.trans hd; replace hW := cm.held _ _ hW hd; clear hd
                              refine Wk.an_pskip (i := 27) cm rfl (by kernel_rfl) rfl rfl (Wk.wanted_not rfl rfl rfl rfl) rfl ?_
                              intro _ hd; replace hD := hD.trans hd; replace hW := cm.held _ _ hW hd; clear hd
                              refine Wk.an_pskip (i := 28) cm rfl (by kernel_rfl) rfl rfl (Wk.wanted_not rfl rfl rfl rfl) rfl ?_
                              intro _ hd; replace hD := hD.trans hd; replace hW := cm.held _ _ hW hd; clear hd
                              refine Wk.an_pskip (i := 29) cm rfl (by kernel_rfl) rfl rfl (Wk.wanted_not rfl rfl rfl rfl) rfl ?_
                              intro _ hd; replace hD := hD.trans hd; replace hW := cm.held _ _ hW hd; clear hd
                              refine Wk.an_pskip (i := 30) cm rfl (by kernel_rfl) rfl rfl (Wk.wanted_not rfl rfl rfl rfl) rfl ?_
                              intro _ hd; replace hD := hD.trans hd; replace hW := cm.held _ _ hW hd; clear hd
                              refine Wk.an_pskip (i := 31) cm rfl (by kernel_rfl) rfl rfl (Wk.wanted_not rfl rfl rfl rfl) rfl ?_
                              intro _ hd; replace hD := hD.trans hd; replace hW := cm.held _ _ hW hd; clear hd
                              refine Wk.an_pskip (i := 32) cm rfl (by kernel_rfl) rfl rfl (Wk.wanted_not rfl rfl rfl rfl) rfl ?_
                              intro _ hd; replace hD := hD.trans hd; replace hW := cm.held _ _ hW hd; clear hd
                              refine Wk.an_pskip (i := 33) cm rfl (by kernel_rfl) rfl rfl (Wk.wanted_not rfl rfl rfl rfl) rfl ?_
                              intro _ hd; replace hD := hD.trans hd; clear hd
                              refine Wk.an_p (i := 34) cm rfl (by kernel_rfl) rfl rfl (Wk.wanted_none rfl) (fun w' a ha => Wk.x_pick_t (ha.ev rfl) (ha.ev rfl)) rfl ?_
                              intro _ hd; replace hD := hD.trans hd; clear hd
                              refine Wk.an_end (by kernel_rfl) hD ?_
                              intro w29 hD; replace H := H _ hD; clear hD cm
                              exact Wk.nx_to fun a ha => ⟨true, ha.weaken (Wk.sub.cons rfl (Wk.sub.cons rfl (Wk.sub.cons rfl (Wk.sub.cons rfl (Wk.sub.cons rfl (Wk.sub.cons rfl (Wk.sub.cons rfl (Wk.sub.nil)))))))), H⟩
                            · replace H := H.2 hb
                              refine Wk.an_p (i := 22) cm rfl (by kernel_rfl) rfl rfl (Wk.wanted_none rfl) (fun w' a ha => Wk.o_f (Wk.x_move (ha.ev rfl)) hb) rfl ?_
                              intro _ hd; replace hD := hD.trans hd; replace hW := cm.held _ _ hW hd; clear hd
                              refine Wk.an_p (i := 23) cm rfl (by kernel_rfl) rfl rfl (Wk.wanted_some rfl rfl rfl) (fun w' a ha => Wk.x_move (ha.ev rfl)) rfl ?_
                              intro _ hd; replace hD := hD.trans hd; replace hW := cm.held _ _ hW hd; clear hd
                              refine Wk.an_p (i := 24) cm rfl (by kernel_rfl) rfl rfl (Wk.wanted_some rfl rfl rfl) (fun w' a ha => Wk.x_fieldAddr (ha.ev rfl) (TF.fld_api_Link_1 _ _)) rfl ?_
                              intro _ hd; replace hD := hD.trans hd; replace hW := cm.held _ _ hW hd; clear hd
                              obtain ⟨x33, h37, H⟩ := H
                              refine Wk.an_v (i := 25) cm rfl (by kernel_rfl) hW rfl rfl (Wk.wanted_some rfl rfl rfl) (fun w' hw a ha => Wk.x_load (ha.ev rfl) (Wk.i_load1 TF.agg_int ((hw.cell _).trans h37))) rfl ?_
                              intro _ hd hW; replace hD := hD.trans hd; clear hd
                              obtain ⟨h38, h39, a11, e11, H⟩ := H
                              refine Wk.an_p (i := 26) cm rfl (by kernel_rfl) rfl rfl (Wk.wanted_some rfl rfl rfl) (fun w' a ha => Wk.x_indexAddr (ha.ev rfl) (ha.ev rfl) (Wk.i_index TF.elem_sl_int TF.size_int e11 h38 h39)) rfl ?_
                              intro _ hd; replace hD := hD.trans hd; replace hW := cm.held _ _ hW hd; clear hd
                              obtain ⟨x34, h40, H⟩ := H
                              refine Wk.an_v (i := 27) cm rfl (by kernel_rfl) hW rfl rfl (Wk.wanted_some rfl rfl rfl) (fun w' hw a ha => Wk.x_load (ha.ev rfl) (Wk.i_load1 TF.agg_int ((hw.cell _).trans h40))) rfl ?_
                              intro _ hd hW; replace hD := hD.trans hd; clear hd
                              refine Wk.an_p (i := 28) cm rfl (by kernel_rfl) rfl rfl (Wk.wanted_some rfl rfl rfl) (fun w' a ha => Wk.x_move (ha.ev rfl)) rfl ?_
                              intro _ hd; replace hD := hD.trans hd; replace hW := cm.held _ _ hW hd; clear hd
                              refine Wk.an_p (i := 29) cm rfl (by kernel_rfl) rfl rfl (Wk.wanted_some rfl rfl rfl) (fun w' a ha => Wk.x_fieldAddr (ha.ev rfl) (TF.fld_api_Link_2 _ _)) rfl ?_
                              intro _ hd; replace hD := hD.trans hd; replace hW := cm.held _ _ hW hd; clear hd
                              obtain ⟨x35, h41, H⟩ := H
                              refine Wk.an_v (i := 30) cm rfl (by kernel_rfl) hW rfl rfl (Wk.wanted_some rfl rfl rfl) (fun w' hw a ha => Wk.x_load (ha.ev rfl) (Wk.i_load1 TF.agg_int ((hw.cell _).trans h41))) rfl ?_
                              intro _ hd hW; replace hD := hD.trans hd; clear hd
                              obtain ⟨h42, h43, a12, e12, H⟩ := H
                              refine Wk.an_p (i := 31) cm rfl (by kernel_rfl) rfl rfl (Wk.wanted_some rfl rfl rfl) (fun w' a ha => Wk.x_indexAddr (ha.ev rfl) (ha.ev rfl) (Wk.i_index TF.elem_sl_int TF.size_int e12 h42 h43)) rfl ?_
                              intro _ hd; replace hD := hD.trans hd; replace hW := cm.held _ _ hW hd; clear hd
                              obtain ⟨x36, h44, H⟩ := H
                              refine Wk.an_v (i := 32) cm rfl (by kernel_rfl) hW rfl rfl (Wk.wanted_some rfl rfl rfl) (fun w' hw a ha => Wk.x_load (ha.ev rfl) (Wk.i_load1 TF.agg_int ((hw.cell _).trans h44))) rfl ?_
                              intro _ hd hW; replace hD := hD.trans hd; clear hd
                              refine Wk.an_p (i := 33) cm rfl (by kernel_rfl) rfl rfl (Wk.wanted_some rfl rfl rfl) (fun w' a ha => Wk.x_binOp (ha.ev rfl) (ha.ev rfl) Wk.o_neq) rfl ?_
                              intro _ hd; replace hD := hD.trans hd; clear hd
                              refine Wk.an_p (i := 34) cm rfl (by kernel_rfl) rfl rfl (Wk.wanted_none rfl) (fun w' a ha => Wk.x_pick_f (ha.ev rfl) (ha.ev rfl)) rfl ?_
                              intro _ hd; replace hD := hD.trans hd; clear hd
                              refine Wk.an_end (by kernel_rfl) hD ?_
                              intro w30 hD; replace H := H _ hD; clear hD cm
                              exact Wk.nx_to fun a ha => ⟨(decide (x34 ≠ x36)), ha.weaken (Wk.sub.cons rfl (Wk.sub.cons rfl (Wk.sub.cons rfl (Wk.sub.cons rfl (Wk.sub.cons rfl (Wk.sub.cons rfl (Wk.sub.cons rfl (Wk.sub.nil)))))))), H⟩
                  · replace H := H.2 hb
                    refine Wk.cw_exit ?_
                    refine Wk.nx_exit_then ?_
                    refine Wk.nx_exit_then ?_
                    refine Wk.nx_exit_hit ?_
                    refine Wk.nx_code (Wk.cw_sub (e' := [(0, (.slice A1 n1 c1)), (2, (.slice A3 n3 c3)), (16, (.int .i64 x8))]) (Wk.sub.cons rfl (Wk.sub.cons rfl (Wk.sub.cons rfl (Wk.sub.nil)))) ?_)
                    refine Wk.cw_join (fun a w => ∃ b9 : Bool, Wk.Ok 271 [(10, (.bool b9))] a ∧ vc_arbiterlaw13_EufSound_J5 K b9 w) ?_ ?_
                    · rintro a w32 ⟨b9, ha, H⟩
                      unfold vc_arbiterlaw13_EufSound_J5 at H
                      refine (?_ : Wk.CW _ _ _ 271 [(10, (.bool b9))] _) a ha
                      refine Wk.cw_ret ?_
                      exact Wk.nx_body_ret (Wk.res1 rfl rfl) ⟨_, rfl, _, rfl, H⟩
                    · refine Wk.cw_any_drawn follows [0, 1, 2, 3, 4, 5, 6, 7, 8, 9, 10, 11, 12, 13, 14, 15, 16, 17, 18, 19, 20, 21, 22, 23, 24, 25, 26, 27, 28, 29, 30, 31, 32, 33, 34, 35, 36, 37, 38, 39, 40, 41, 42, 43, 44, 45, 46, 47, 48, 49, 50, 51, 52, 53, 54, 55, 56, 57, 58] [7, 15, 20, 28, 36, 46, 55] 59 rfl rfl (by kernel_rfl) (fun _ _ d _ _ h => by cases d <;> exact h) (fun cm hW hD => ?_)
                      refine Wk.an_p (i := 0) cm rfl (by kernel_rfl) rfl rfl (Wk.wanted_none rfl) (fun w' a ha => Wk.x_move (ha.ev rfl)) rfl ?_
                      intro _ hd; replace hD := hD.trans hd; replace hW := cm.held _ _ hW hd; clear hd
                      refine Wk.an_p (i := 1) cm rfl (by kernel_rfl) rfl rfl (Wk.wanted_none rfl) (fun w' a ha => Wk.x_binOp (ha.ev rfl) (ha.ev rfl) Wk.o_eql) rfl ?_
                      intro _ hd; replace hD := hD.trans hd; replace hW := cm.held _ _ hW hd; clear hd
                      rcases Classical.em (x8 = (-1)) with hb | hb
                      · replace H := H.1 hb
                        refine Wk.an_p (i := 2) cm rfl (by kernel_rfl) rfl rfl (Wk.wanted_none rfl) (fun w' a ha => Wk.o_t (Wk.x_move (ha.ev rfl)) hb) rfl ?_
                        intro _ hd; replace hD := hD.trans hd; replace hW := cm.held _ _ hW hd; clear hd
                        refine Wk.an_pskip (i := 3) cm rfl (by kernel_rfl) rfl rfl (Wk.wanted_not rfl rfl rfl rfl) rfl ?_
                        intro _ hd; replace hD := hD.trans hd; replace hW := cm.held _ _ hW hd; clear hd
                        refine Wk.an_pskip (i := 4) cm rfl (by kernel_rfl) rfl rfl (Wk.wanted_not rfl rfl rfl rfl) rfl ?_
                        intro _ hd; replace hD := hD.trans hd; replace hW := cm.held _ _ hW hd; clear hd
                        refine Wk.an_pskip (i := 5) cm rfl (by kernel_rfl) rfl rfl (Wk.wanted_not rfl rfl rfl rfl) rfl ?_
                        intro _ hd; replace hD := hD.trans hd; replace hW := cm.held _ _ hW hd; clear hd
                        refine Wk.an_pskip (i := 6) cm rfl (by kernel_rfl) rfl rfl (Wk.wanted_not rfl rfl rfl rfl) rfl ?_
                        intro _ hd; replace hD := hD.trans hd; replace hW := cm.held _ _ hW hd; clear hd
                        refine Wk.an_pskip (i := 7) cm rfl (by kernel_rfl) rfl rfl (Wk.wanted_not rfl rfl rfl rfl) rfl ?_
                        intro _ hd; replace hD := hD.trans hd; replace hW := cm.held _ _ hW hd; clear hd
                        refine Wk.an_pskip (i := 8) cm rfl (by kernel_rfl) rfl rfl (Wk.wanted_not rfl rfl rfl rfl) rfl ?_
                        intro _ hd; replace hD := hD.trans hd; replace hW := cm.held _ _ hW hd; clear hd
                        refine Wk.an_p (i := 9) cm rfl (by kernel_rfl) rfl rfl (Wk.wanted_none rfl) (fun w' a ha => Wk.x_pick_t (ha.ev rfl) (ha.ev rfl)) rfl ?_
                        intro _ hd; replace hD := hD.trans hd; replace hW := cm.held _ _ hW hd; clear hd
                        refine Wk.an_p (i := 10) cm rfl (by kernel_rfl) rfl rfl (Wk.wanted_none rfl) (fun w' a ha => Wk.x_move (ha.ev rfl)) rfl ?_
                        intro _ hd; replace hD := hD.trans hd; replace hW := cm.held _ _ hW hd; clear hd
                        refine Wk.an_pskip (i := 11) cm rfl (by kernel_rfl) rfl rfl (Wk.wanted_not rfl rfl rfl rfl) rfl ?_
                        intro _ hd; replace hD := hD.trans hd; replace hW := cm.held _ _ hW hd; clear hd
                        refine Wk.an_pskip (i := 12) cm rfl (by kernel_rfl) rfl rfl (Wk.wanted_not rfl rfl rfl rfl) rfl ?_
                        intro _ hd; replace hD := hD.trans hd; replace hW := cm.held _ _ hW hd; clear hd
                        refine Wk.an_pskip (i := 13) cm rfl (by kernel_rfl) rfl rfl (Wk.wanted_not rfl rfl rfl rfl) rfl ?_
                        intro _ hd; replace hD := hD.trans hd; replace hW := cm.held _ _ hW hd; clear hd
                        refine Wk.an_pskip (i := 14) cm rfl (by kernel_rfl) rfl rfl (Wk.wanted_not rfl rfl rfl rfl) rfl ?_
                        intro _ hd; replace hD := hD.trans hd; replace hW := cm.held _ _ hW hd; clear hd
                        refine Wk.an_pskip (i := 15) cm rfl (by kernel_rfl) rfl rfl (Wk.wanted_not rfl rfl rfl rfl) rfl ?_
                        intro _ hd; replace hD := hD.trans hd; replace hW := cm.held _ _ hW hd; clear hd
                        refine Wk.an_pskip (i := 16) cm rfl (by kernel_rfl) rfl rfl (Wk.wanted_not rfl rfl rfl rfl) rfl ?_
                        intro _ hd; replace hD := hD.trans hd; replace hW := cm.held _ _ hW hd; clear hd
                        refine Wk.an_pskip (i := 17) cm rfl (by kernel_rfl) rfl rfl (Wk.wanted_not rfl rfl rfl rfl) rfl ?_
                        intro _ hd; replace hD := hD.trans hd; replace hW := cm.held _ _ hW hd; clear hd
                        refine Wk.an_pskip (i := 18) cm rfl (by kernel_rfl) rfl rfl (Wk.wanted_not rfl rfl rfl rfl) rfl ?_
                        intro _ hd; replace hD := hD.trans hd; replace hW := cm.held _ _ hW hd; clear hd
                        refine Wk.an_pskip (i := 19) cm rfl (by kernel_rfl) rfl rfl (Wk.wanted_not rfl rfl rfl rfl) rfl ?_
                        intro _ hd; replace hD := hD.trans hd; replace hW := cm.held _ _ hW hd; clear hd
                        refine Wk.an_pskip (i := 20) cm rfl (by kernel_rfl) rfl rfl (Wk.wanted_not rfl rfl rfl rfl) rfl ?_
                        intro _ hd; replace hD := hD.trans hd; replace hW := cm.held _ _ hW hd; clear hd
                        refine Wk.an_pskip (i := 21) cm rfl (by kernel_rfl) rfl rfl (Wk.wanted_not rfl rfl rfl rfl) rfl ?_
                        intro _ hd; replace hD := hD.trans hd; replace hW := cm.held _ _ hW hd; clear hd
                        refine Wk.an_p (i := 22) cm rfl (by kernel_rfl) rfl rfl (Wk.wanted_none rfl) (fun w' a ha => Wk.x_pick_t (ha.ev rfl) (ha.ev rfl)) rfl ?_
                        intro _ hd; replace hD := hD.trans hd; replace hW := cm.held _ _ hW hd; clear hd
                        refine Wk.an_p (i := 23) cm rfl (by kernel_rfl) rfl rfl (Wk.wanted_none rfl) (fun w' a ha => Wk.x_move (ha.ev rfl)) rfl ?_
                        intro _ hd; replace hD := hD.trans hd; replace hW := cm.held _ _ hW hd; clear hd
                        refine Wk.an_pskip (i := 24) cm rfl (by kernel_rfl) rfl rfl (Wk.wanted_not rfl rfl rfl rfl) rfl ?_
                        intro _ hd; replace hD := hD.trans hd; replace hW := cm.held _ _ hW hd; clear hd
                        refine Wk.an_pskip (i := 25) cm rfl (by kernel_rfl) rfl rfl (Wk.wanted_not rfl rfl rfl rfl) rfl ?_
                        intro _ hd; replace hD := hD.trans hd; replace hW := cm.held _ _ hW hd; clear hd
                        refine Wk.an_pskip (i := 26) cm rfl (by kernel_rfl) rfl rfl (Wk.wanted_not rfl rfl rfl rfl) rfl ?_
                        intro _ hd; replace hD := hD.trans hd; replace hW := cm.held _ _ hW hd; clear hd
                        refine Wk.an_pskip (i := 27) cm rfl (by kernel_rfl) rfl rfl (Wk.wanted_not rfl rfl rfl rfl) rfl ?_
                        intro _ hd; replace hD := hD.trans hd; replace hW := cm.held _ _ hW hd; clear hd
                        refine Wk.an_pskip (i := 28) cm rfl (by kernel_rfl) rfl rfl (Wk.wanted_not rfl rfl rfl rfl) rfl ?_
                        intro _ hd; replace hD := hD.trans hd; replace hW := cm.held _ _ hW hd; clear hd
                        refine Wk.an_pskip (i := 29) cm rfl (by kernel_rfl) rfl rfl (Wk.wanted_not rfl rfl rfl rfl) rfl ?_
                        intro _ hd; replace hD := hD.trans hd; replace hW := cm.held _ _ hW hd; clear hd
                        refine Wk.an_p (i := 30) cm rfl (by kernel_rfl) rfl rfl (Wk.wanted_none rfl) (fun w' a ha => Wk.x_pick_t (ha.ev rfl) (ha.ev rfl)) rfl ?_
                        intro _ hd; replace hD := hD.trans hd; replace hW := cm.held _ _ hW hd; clear hd
                        refine Wk.an_p (i := 31) cm rfl (by kernel_rfl) rfl rfl (Wk.wanted_none rfl) (fun w' a ha => Wk.x_move (ha.ev rfl)) rfl ?_
                        intro _ hd; replace hD := hD.trans hd; replace hW := cm.held _ _ hW hd; clear hd
                        refine Wk.an_pskip (i := 32) cm rfl (by kernel_rfl) rfl rfl (Wk.wanted_not rfl rfl rfl rfl) rfl ?_
                        intro _ hd; replace hD := hD.trans hd; replace hW := cm.held _ _ hW hd; clear hd
                        refine Wk.an_pskip (i := 33) cm rfl (by kernel_rfl) rfl rfl (Wk.wanted_not rfl rfl rfl rfl) rfl ?_
                        intro _ hd; replace hD := hD.trans hd; replace hW := cm.held _ _ hW hd; clear hd
                        refine Wk.an_pskip (i := 34) cm rfl (by kernel_rfl) rfl rfl (Wk.wanted_not rfl rfl rfl rfl) rfl ?_
                        intro _ hd; replace hD := hD.trans hd; replace hW := cm.held _ _ hW hd; clear hd
                        refine Wk.an_pskip (i := 35) cm rfl (by kernel_rfl) rfl rfl (Wk.wanted_not rfl rfl rfl rfl) rfl ?_
                        intro _ hd; replace hD := hD.trans hd; replace hW := cm.held _ _ hW hd; clear hd
                        refine Wk.an_pskip (i := 36) cm rfl (by kernel_rfl) rfl rfl (Wk.wanted_not rfl rfl rfl rfl) rfl ?_
                        intro _ hd; replace hD := hD.trans hd; replace hW := cm.held _ _ hW hd; clear hd
                        refine Wk.an_pskip (i := 37) cm rfl (by kernel_rfl) rfl rfl (Wk.wanted_not rfl rfl rfl rfl) rfl ?_
                        intro _ hd; replace hD := hD.trans hd; replace hW := cm.held _ _ hW hd; clear hd
                        refine Wk.an_pskip (i := 38) cm rfl (by kernel_rfl) rfl rfl (Wk.wanted_not rfl rfl rfl rfl) rfl ?_
                        intro _ hd; replace hD := hD.trans hd; replace hW := cm.held _ _ hW hd; clear hd
                        refine Wk.an_pskip (i := 39) cm rfl (by kernel_rfl) rfl rfl (Wk.wanted_not rfl rfl rfl rfl) rfl ?_
                        intro _ hd; replace hD := hD.trans hd; replace hW := cm.held _ _ hW hd; clear hd
                        refine Wk.an_p (i := 40) cm rfl (by kernel_rfl) rfl rfl (Wk.wanted_none rfl) (fun w' a ha => Wk.x_pick_t (ha.ev rfl) (ha.ev rfl)) rfl ?_
                        intro _ hd; replace hD := hD.trans hd; replace hW := cm.held _ _ hW hd; clear hd
                        refine Wk.an_p (i := 41) cm rfl (by kernel_rfl) rfl rfl (Wk.wanted_none rfl) (fun w' a ha => Wk.x_move (ha.ev rfl)) rfl ?_
                        intro _ hd; replace hD := hD.trans hd; replace hW := cm.held _ _ hW hd; clear hd
                        refine Wk.an_pskip (i := 42) cm rfl (by kernel_rfl) rfl rfl (Wk.wanted_not rfl rfl rfl rfl) rfl ?_
                        intro _ hd; replace hD := hD.trans hd; replace hW := cm.held _ _ hW hd; clear hd
                        refine Wk.an_pskip (i := 43) cm rfl (by kernel_rfl) rfl rfl (Wk.wanted_not rfl rfl rfl rfl) rfl ?_
                        intro _ hd; replace hD := hD.trans hd; replace hW := cm.held _ _ hW hd; clear hd
                        refine Wk.an_pskip (i := 44) cm rfl (by kernel_rfl) rfl rfl (Wk.wanted_not rfl rfl rfl rfl) rfl ?_
                        intro _ hd; replace hD := hD.trans hd; replace hW := cm.held _ _ hW hd; clear hd
                        refine Wk.an_pskip (i := 45) cm rfl (by kernel_rfl) rfl rfl (Wk.wanted_not rfl rfl rfl rfl) rfl ?_
                        intro _ hd; replace hD := hD.trans hd; replace hW := cm.held _ _ hW hd; clear hd
                        refine Wk.an_pskip (i := 46) cm rfl (by kernel_rfl) rfl rfl (Wk.wanted_not rfl rfl rfl rfl) rfl ?_
                        intro _ hd; replace hD := hD.trans hd; replace hW := cm.held _ _ hW hd; clear hd
                        refine Wk.an_pskip (i := 47) cm rfl (by kernel_rfl) rfl rfl (Wk.wanted_not rfl rfl rfl rfl) rfl ?_
                        intro _ hd; replace hD := hD.trans hd; replace hW := cm.held _ _ hW hd; clear hd
                        refine Wk.an_pskip (i := 48) cm rfl (by kernel_rfl) rfl rfl (Wk.wanted_not rfl rfl rfl rfl) rfl ?_
                        intro _ hd; replace hD := hD.trans hd; replace hW := cm.held _ _ hW hd; clear hd
                        refine Wk.an_p (i := 49) cm rfl (by kernel_rfl) rfl rfl (Wk.wanted_none rfl) (fun w' a ha => Wk.x_pick_t (ha.ev rfl) (ha.ev rfl)) rfl ?_
                        intro _ hd; replace hD := hD.trans hd; replace hW := cm.held _ _ hW hd; clear hd
                        refine Wk.an_p (i := 50) cm rfl (by kernel_rfl) rfl rfl (Wk.wanted_none rfl) (fun w' a ha => Wk.x_move (ha.ev rfl)) rfl ?_
                        intro _ hd; replace hD := hD.trans hd; replace hW := cm.held _ _ hW hd; clear hd
                        refine Wk.an_pskip (i := 51) cm rfl (by kernel_rfl) rfl rfl (Wk.wanted_not rfl rfl rfl rfl) rfl ?_
                        intro _ hd; replace hD := hD.trans hd; replace hW := cm.held _ _ hW hd; clear hd
                        refine Wk.an_pskip (i := 52) cm rfl (by kernel_rfl) rfl rfl (Wk.wanted_not rfl rfl rfl rfl) rfl ?_
                        intro _ hd; replace hD := hD.trans hd; replace hW := cm.held _ _ hW hd; clear hd
                        refine Wk.an_pskip (i := 53) cm rfl (by kernel_rfl) rfl rfl (Wk.wanted_not rfl rfl rfl rfl) rfl ?_
                        intro _ hd; replace hD := hD.trans hd; replace hW := cm.held _ _ hW hd; clear hd
                        refine Wk.an_pskip (i := 54) cm rfl (by kernel_rfl) rfl rfl (Wk.wanted_not rfl rfl rfl rfl) rfl ?_
                        intro _ hd; replace hD := hD.trans hd; replace hW := cm.held _ _ hW hd; clear hd
                        refine Wk.an_pskip (i := 55) cm rfl (by kernel_rfl) rfl rfl (Wk.wanted_not rfl rfl rfl rfl) rfl ?_
                        intro _ hd; replace hD := hD.trans hd; replace hW := cm.held _ _ hW hd; clear hd
                        refine Wk.an_pskip (i := 56) cm rfl (by kernel_rfl) rfl rfl (Wk.wanted_not rfl rfl rfl rfl) rfl ?_
                        intro _ hd; replace hD := hD.trans hd; clear hd
                        refine Wk.an_p (i := 57) cm rfl (by kernel_rfl) rfl rfl (Wk.wanted_none rfl) (fun w' a ha => Wk.x_pick_t (ha.ev rfl) (ha.ev rfl)) rfl ?_
                        intro _ hd; replace hD := hD.trans hd; clear hd
                        refine Wk.an_p (i := 58) cm rfl (by kernel_rfl) rfl rfl (Wk.wanted_none rfl) (fun w' a ha => Wk.x_assign (ha.ev rfl)) rfl ?_
                        intro _ hd; replace hD := hD.trans hd; clear hd
                        refine Wk.an_end (by kernel_rfl) hD ?_
                        intro w31 hD; replace H := H _ hD; clear hD cm
                        exact Wk.nx_to fun a ha => ⟨true, ha.weaken (Wk.sub.cons rfl (Wk.sub.nil)), H⟩
                      · replace H := H.2 hb
                        refine Wk.an_p (i := 2) cm rfl (by kernel_rfl) rfl rfl (Wk.wanted_none rfl) (fun w' a ha => Wk.o_f (Wk.x_move (ha.ev rfl)) hb) rfl ?_
                        intro _ hd; replace hD := hD.trans hd; replace hW := cm.held _ _ hW hd; clear hd
                        refine Wk.an_p (i := 3) cm rfl (by kernel_rfl) rfl rfl (Wk.wanted_some rfl rfl rfl) (fun w' a ha => Wk.x_move (ha.ev rfl)) rfl ?_
                        intro _ hd; replace hD := hD.trans hd; replace hW := cm.held _ _ hW hd; clear hd
                        refine Wk.an_p (i := 4) cm rfl (by kernel_rfl) rfl rfl (Wk.wanted_some rfl rfl rfl) (fun w' a ha => Wk.x_move (ha.ev rfl)) rfl ?_
                        intro _ hd; replace hD := hD.trans hd; replace hW := cm.held _ _ hW hd; clear hd
                        obtain ⟨h45, h46, a13, e13, H⟩ := H
                        refine Wk.an_p (i := 5) cm rfl (by kernel_rfl) rfl rfl (Wk.wanted_some rfl rfl rfl) (fun w' a ha => Wk.x_indexAddr (ha.ev rfl) (ha.ev rfl) (Wk.i_index TF.elem_sl_api_Link TF.size_api_Link e13 h45 h46)) rfl ?_
                        intro _ hd; replace hD := hD.trans hd; replace hW := cm.held _ _ hW hd; clear hd
                        refine Wk.an_p (i := 6) cm rfl (by kernel_rfl) rfl rfl (Wk.wanted_some rfl rfl rfl) (fun w' a ha => Wk.x_fieldAddr (ha.ev rfl) (TF.fld_api_Link_0 _ _)) rfl ?_
                        intro _ hd; replace hD := hD.trans hd; replace hW := cm.held _ _ hW hd; clear hd
                        obtain ⟨x37, h47, H⟩ := H
                        refine Wk.an_v (i := 7) cm rfl (by kernel_rfl) hW rfl rfl (Wk.wanted_some rfl rfl rfl) (fun w' hw a ha => Wk.x_load (ha.ev rfl) (Wk.i_load1 TF.agg_int ((hw.cell _).trans h47))) rfl ?_
                        intro _ hd hW; replace hD := hD.trans hd; clear hd
                        refine Wk.an_p (i := 8) cm rfl (by kernel_rfl) rfl rfl (Wk.wanted_some rfl rfl rfl) (fun w' a ha => Wk.x_binOp (ha.ev rfl) (ha.ev rfl) Wk.o_neq) rfl ?_
                        intro _ hd; replace hD := hD.trans hd; replace hW := cm.held _ _ hW hd; clear hd
                        refine Wk.an_p (i := 9) cm rfl (by kernel_rfl) rfl rfl (Wk.wanted_none rfl) (fun w' a ha => Wk.x_pick_f (ha.ev rfl) (ha.ev rfl)) rfl ?_
                        intro _ hd; replace hD := hD.trans hd; replace hW := cm.held _ _ hW hd; clear hd
                        rcases Classical.em (x37 ≠ 2) with hb | hb
                        · replace H := H.1 hb
                          refine Wk.an_p (i := 10) cm rfl (by kernel_rfl) rfl rfl (Wk.wanted_none rfl) (fun w' a ha => Wk.o_t (Wk.x_move (ha.ev rfl)) hb) rfl ?_
                          intro _ hd; replace hD := hD.trans hd; replace hW := cm.held _ _ hW hd; clear hd
                          refine Wk.an_pskip (i := 11) cm rfl (by kernel_rfl) rfl rfl (Wk.wanted_not rfl rfl rfl rfl) rfl ?_
                          intro _ hd; replace hD := hD.trans hd; replace hW := cm.held _ _ hW hd; clear hd
                          refine Wk.an_pskip (i := 12) cm rfl (by kernel_rfl) rfl rfl (Wk.wanted_not rfl rfl rfl rfl) rfl ?_
                          intro _ hd; replace hD := hD.trans hd; replace hW := cm.held _ _ hW hd; clear hd
                          refine Wk.an_pskip (i := 13) cm rfl (by kernel_rfl) rfl rfl (Wk.wanted_not rfl rfl rfl rfl) rfl ?_
                          intro _ hd; replace hD := hD.trans hd; replace hW := cm.held _ _ hW hd; clear hd
                          refine Wk.an_pskip (i := 14) cm rfl (by kernel_rfl) rfl rfl (Wk.wanted_not rfl rfl rfl rfl) rfl ?_
                          intro _ hd; replace hD := hD.trans hd; replace hW := cm.held _ _ hW hd; clear hd
                          refine Wk.an_pskip (i := 15) cm rfl (by kernel_rfl) rfl rfl (Wk.wanted_not rfl rfl rfl rfl) rfl ?_
                          intro _ hd; replace hD := hD.trans hd; replace hW := cm.held _ _ hW hd; clear hd
                          refine Wk.an_pskip (i := 16) cm rfl (by kernel_rfl) rfl rfl (Wk.wanted_not rfl rfl rfl rfl) rfl ?_
                          intro _ hd; replace hD := hD.trans hd; replace hW := cm.held _ _ hW hd; clear hd
                          refine Wk.an_pskip (i := 17) cm rfl (by kernel_rfl) rfl rfl (Wk.wanted_not rfl rfl rfl rfl) rfl ?_
                          intro _ hd; replace hD := hD.trans hd; replace hW := cm.held _ _ hW hd; clear hd
                          refine Wk.an_pskip (i := 18) cm rfl (by kernel_rfl) rfl rfl (Wk.wanted_not rfl rfl rfl rfl) rfl ?_
                          intro _ hd; replace hD := hD.trans hd; replace hW := cm.held _ _ hW hd; clear hd
                          refine Wk.an_pskip (i := 19) cm rfl (by kernel_rfl) rfl rfl (Wk.wanted_not rfl rfl rfl rfl) rfl ?_
                          intro _ hd; replace hD := hD.trans hd; replace hW := cm.held _ _ hW hd; clear hd
                          refine Wk.an_pskip (i := 20) cm rfl (by kernel_rfl) rfl rfl (Wk.wanted_not rfl rfl rfl rfl) rfl ?_
                          intro _ hd; replace hD := hD.trans hd; replace hW := cm.held _ _ hW hd; clear hd
                          refine Wk.an_pskip (i := 21) cm rfl (by kernel_rfl) rfl rfl (Wk.wanted_not rfl rfl rfl rfl) rfl ?_
                          intro _ hd; replace hD := hD.trans hd; replace hW := cm.held _ _ hW hd; clear hd
                          refine Wk.an_p (i := 22) cm rfl (by kernel_rfl) rfl rfl (Wk.wanted_none rfl) (fun w' a ha => Wk.x_pick_t (ha.ev rfl) (ha.ev rfl)) rfl ?_
                          intro _ hd; replace hD := hD.trans hd; replace hW := cm.held _ _ hW hd; clear hd
                          refine Wk.an_p (i := 23) cm rfl (by kernel_rfl) rfl rfl (Wk.wanted_none rfl) (fun w' a ha => Wk.x_move (ha.ev rfl)) rfl ?_
                          intro _ hd; replace hD := hD.trans hd; replace hW := cm.held _ _ hW hd; clear hd
                          refine Wk.an_pskip (i := 24) cm rfl (by kernel_rfl) rfl rfl (Wk.wanted_not rfl rfl rfl rfl) rfl ?_
                          intro _ hd; replace hD := hD.trans hd; replace hW := cm.held _ _ hW hd; clear hd
                          refine Wk.an_pskip (i := 25) cm rfl (by kernel_rfl) rfl rfl (Wk.wanted_not rfl rfl rfl rfl) rfl ?_
                          intro _ hd; replace hD := hD.trans hd; replace hW := cm.held _ _ hW hd; clear hd
                          refine Wk.an_pskip (i := 26) cm rfl (by kernel_rfl) rfl rfl (Wk.wanted_not rfl rfl rfl rfl) rfl ?_
                          intro _ hd; replace hD := hD.trans hd; replace hW := cm.held _ _ hW hd; clear hd
                          refine Wk.an_pskip (i := 27) cm rfl (by kernel_rfl) rfl rfl (Wk.wanted_not rfl rfl rfl rfl) rfl ?_
                          intro _ hd; replace hD := hD.trans hd; replace hW := cm.held _ _ hW hd; clear hd
                          refine Wk.an_pskip (i := 28) cm rfl (by kernel_rfl) rfl rfl (Wk.wanted_not rfl rfl rfl rfl) rfl ?_
                          intro _ hd; replace hD := hD.trans hd; replace hW := cm.held _ _ hW hd; clear hd
                          refine Wk.an_pskip (i := 29) cm rfl (by kernel_rfl) rfl rfl (Wk.wanted_not rfl rfl rfl rfl) rfl ?_
                          intro _ hd; replace hD := hD.trans hd; replace hW := cm.held _ _ hW hd; clear hd
                          refine Wk.an_p (i := 30) cm rfl (by kernel_rfl) rfl rfl (Wk.wanted_none rfl) (fun w' a ha => Wk.x_pick_t (ha.ev rfl) (ha.ev rfl)) rfl ?_
                          intro _ hd; replace hD := hD.trans hd; replace hW := cm.held _ _ hW hd; clear hd
                          refine Wk.an_p (i := 31) cm rfl (by kernel_rfl) rfl rfl (Wk.wanted_none rfl) (fun w' a ha => Wk.x_move (ha.ev rfl)) rfl ?_
                          intro _ hd; replace hD := hD.trans hd; replace hW := cm.held _ _ hW hd; clear hd
                          refine Wk.an_pskip (i := 32) cm rfl (by kernel_rfl) rfl rfl (Wk.wanted_not rfl rfl rfl rfl) rfl ?_
                          intro _ hd; replace hD := hD.trans hd; replace hW := cm.held _ _ hW hd; clear hd
                          refine Wk.an_pskip (i := 33) cm rfl (by kernel_rfl) rfl rfl (Wk.wanted_not rfl rfl rfl rfl) rfl ?_
                          intro _ hd; replace hD := hD.trans hd; replace hW := cm.held _ _ hW hd; clear hd
                          refine Wk.an_pskip (i := 34) cm rfl (by kernel_rfl) rfl rfl (Wk.wanted_not rfl rfl rfl rfl) rfl ?_
                          intro _ hd; replace hD := hD.trans hd; replace hW := cm.held _ _ hW hd; clear hd
                          refine Wk.an_pskip (i := 35) cm rfl (by kernel_rfl) rfl rfl (Wk.wanted_not rfl rfl rfl rfl) rfl ?_
                          intro _ hd; replace hD := hD.trans hd; replace hW := cm.held _ _ hW hd; clear hd
                          refine Wk.an_pskip (i := 36) cm rfl (by kernel_rfl) rfl rfl (Wk.wanted_not rfl rfl rfl rfl) rfl ?_
                          intro _ hd; replace hD := hD.trans hd; replace hW := cm.held _ _ hW hd; clear hd
                          refine Wk.an_pskip (i := 37) cm rfl (by kernel_rfl) rfl rfl (Wk.wanted_not rfl rfl rfl rfl) rfl ?_
                          intro _ hd; replace hD := hD.trans hd; replace hW := cm.held _ _ hW hd; clear hd
                          refine Wk.an_pskip (i := 38) cm rfl (by kernel_rfl) rfl rfl (Wk.wanted_not rfl rfl rfl rfl) rfl ?_
                          intro _ hd; replace hD := hD.trans hd; replace hW := cm.held _ _ hW hd; clear hd
                          refine Wk.an_pskip (i := 39) cm rfl (by kernel_rfl) rfl rfl (Wk.wanted_not rfl rfl rfl rfl) rfl ?_
                          intro _ hd; replace hD := hD.trans hd; replace hW := cm.held _ _ hW hd; clear hd
                          refine Wk.an_p (i := 40) cm rfl (by kernel_rfl) rfl rfl (Wk.wanted_none rfl) (fun w' a ha => Wk.x_pick_t (ha.ev rfl) (ha.ev rfl)) rfl ?_
                          intro _ hd; replace hD := hD.trans hd; replace hW := cm.held _ _ hW hd; clear hd
                          refine Wk.an_p (i := 41) cm rfl (by kernel_rfl) rfl rfl (Wk.wanted_none rfl) (fun w' a ha => Wk.x_move (ha.ev rfl)) rfl ?_
                          intro _ hd; replace hD := hD.trans hd; replace hW := cm.held _ _ hW hd; clear hd
                          refine Wk.an_pskip (i := 42) cm rfl (by kernel_rfl) rfl rfl (Wk.wanted_not rfl rfl rfl rfl) rfl ?_
                          intro _ hd; replace hD := hD.trans hd; replace hW := cm.held _ _ hW hd; clear hd
                          refine Wk.an_pskip (i := 43) cm rfl (by kernel_rfl) rfl rfl (Wk.wanted_not rfl rfl rfl rfl) rfl ?_
                          intro _ hd; replace hD := hD.trans hd; replace hW := cm.held _ _ hW hd; clear hd
                          refine Wk.an_pskip (i := 44) cm rfl (by kernel_rfl) rfl rfl (Wk.wanted_not rfl rfl rfl rfl) rfl ?_
                          intro _ hd; replace hD := hD.trans hd; replace hW := cm.held _ _ hW hd; clear hd
                          refine Wk.an_pskip (i := 45) cm rfl (by kernel_rfl) rfl rfl (Wk.wanted_not rfl rfl rfl rfl) rfl ?_
                          intro _ hd; replace hD := hD.trans hd; replace hW := cm.held _ _ hW hd; clear hd
                          refine Wk.an_pskip (i := 46) cm rfl (by kernel_rfl) rfl rfl (Wk.wanted_not rfl rfl rfl rfl) rfl ?_
                          intro _ hd; replace hD := hD.trans hd; replace hW := cm.held _ _ hW hd; clear hd
                          refine Wk.an_pskip (i := 47) cm rfl (by kernel_rfl) rfl rfl (Wk.wanted_not rfl rfl rfl rfl) rfl ?_
                          intro _ hd; replace hD := hD.trans hd; replace hW := cm.held _ _ hW hd; clear hd
                          refine Wk.an_pskip (i := 48) cm rfl (by kernel_rfl) rfl rfl (Wk.wanted_not rfl rfl rfl rfl) rfl ?_
                          intro _ hd; replace hD := hD.trans hd; replace hW := cm.held _ _ hW hd; clear hd
                          refine Wk.an_p (i := 49) cm rfl (by kernel_rfl) rfl rfl (Wk.wanted_none rfl) (fun w' a ha => Wk.x_pick_t (ha.ev rfl) (ha.ev rfl)) rfl ?_
                          intro _ hd; replace hD := hD.trans hd; replace hW := cm.held _ _ hW hd; clear hd
                          refine Wk.an_p (i := 50) cm rfl (by kernel_rfl) rfl rfl (Wk.wanted_none rfl) (fun w' a ha => Wk.x_move (ha.ev rfl)) rfl ?_
                          intro _ hd; replace hD := hD.trans hd; replace hW := cm.held _ _ hW hd; clear hd
                          refine Wk.an_pskip (i := 51) cm rfl (by kernel_rfl) rfl rfl (Wk.wanted_not rfl rfl rfl rfl) rfl ?_
                          intro _ hd; replace hD := hD.trans hd; replace hW := cm.held _ _ hW hd; clear hd
                          refine Wk.an_pskip (i := 52) cm rfl (by kernel_rfl) rfl rfl (Wk.wanted_not rfl rfl rfl rfl) rfl ?_
                          intro _ hd; replace hD := hD.trans hd; replace hW := cm.held _ _ hW hd; clear hd
                          refine Wk.an_pskip (i := 53) cm rfl (by kernel_rfl) rfl rfl (Wk.wanted_not rfl rfl rfl rfl) rfl ?_
                          intro _ hd; replace hD := hD.trans hd; replace hW := cm.held _ _ hW hd; clear hd
                          refine Wk.an_pskip (i := 54) cm rfl (by kernel_rfl) rfl rfl (Wk.wanted_not rfl rfl rfl rfl) rfl ?_
                          intro _ hd; replace hD := hD.trans hd; replace hW := cm.held _ _ hW hd; clear hd
                          refine Wk.an_pskip (i := 55) cm rfl (by kernel_rfl) rfl rfl (Wk.wanted_not rfl rfl rfl rfl) rfl ?_
                          intro _ hd; replace hD := hD.trans hd; replace hW := cm.held _ _ hW hd; clear hd
                          refine Wk.an_pskip (i := 56) cm rfl (by kernel_rfl) rfl rfl (Wk.wanted_not rfl rfl rfl rfl) rfl ?_
                          intro _ hd; replace hD := hD.trans hd; clear hd
                          refine Wk.an_p (i := 57) cm rfl (by kernel_rfl) rfl rfl (Wk.wanted_none rfl) (fun w' a ha => Wk.x_pick_t (ha.ev rfl) (ha.ev rfl)) rfl ?_
                          intro _ hd; replace hD := hD.trans hd; clear hd
                          refine Wk.an_p (i := 58) cm rfl (by kernel_rfl) rfl rfl (Wk.wanted_none rfl) (fun w' a ha => Wk.x_assign (ha.ev rfl)) rfl ?_
                          intro _ hd; replace hD := hD.trans hd; clear hd
                          refine Wk.an_end (by kernel_rfl) hD ?_
                          intro w33 hD; replace H := H _ hD; clear hD cm
                          exact Wk.nx_to fun a ha => ⟨true, ha.weaken (Wk.sub.cons rfl (Wk.sub.nil)), H⟩
                        · replace H := H.2 hb
                          refine Wk.an_p (i := 10) cm rfl (by kernel_rfl) rfl rfl (Wk.wanted_none rfl) (fun w' a ha => Wk.o_f (Wk.x_move (ha.ev rfl)) hb) rfl ?_
                          intro _ hd; replace hD := hD.trans hd; replace hW := cm.held _ _ hW hd; clear hd
                          refine Wk.an_p (i := 11) cm rfl (by kernel_rfl) rfl rfl (Wk.wanted_some rfl rfl rfl) (fun w' a ha => Wk.x_move (ha.ev rfl)) rfl ?_
                          intro _ hd; replace hD := hD.trans hd; replace hW := cm.held _ _ hW hd; clear hd
                          refine Wk.an_p (i := 12) cm rfl (by kernel_rfl) rfl rfl (Wk.wanted_some rfl rfl rfl) (fun w' a ha => Wk.x_move (ha.ev rfl)) rfl ?_
                          intro _ hd; replace hD := hD.trans hd; replace hW := cm.held _ _ hW hd; clear hd
                          obtain ⟨h48, h49, a14, e14, H⟩ := H
                          refine Wk.an_p (i := 13) cm rfl (by kernel_rfl) rfl rfl (Wk.wanted_some rfl rfl rfl) (fun w' a ha => Wk.x_indexAddr (ha.ev rfl) (ha.ev rfl) (Wk.i_index TF.elem_sl_api_Link TF.size_api_Link e14 h48 h49)) rfl ?_
                          intro _ hd; replace hD := hD.trans hd; replace hW := cm.held _ _ hW hd; clear hd
                          refine Wk.an_p (i := 14) cm rfl (by kernel_rfl) rfl rfl (Wk.wanted_some rfl rfl rfl) (fun w' a ha => Wk.x_fieldAddr (ha.ev rfl) (TF.fld_api_Link_1 _ _)) rfl ?_
                          intro _ hd; replace hD := hD.trans hd; replace hW := cm.held _ _ hW hd; clear hd
                          obtain ⟨x38, h50, H⟩ := H
                          refine Wk.an_v (i := 15) cm rfl (by kernel_rfl) hW rfl rfl (Wk.wanted_some rfl rfl rfl) (fun w' hw a ha => Wk.x_load (ha.ev rfl) (Wk.i_load1 TF.agg_int ((hw.cell _).trans h50))) rfl ?_
                          intro _ hd hW; replace hD := hD.trans hd; clear hd
                          refine Wk.an_p (i := 16) cm rfl (by kernel_rfl) rfl rfl (Wk.wanted_some rfl rfl rfl) (fun w' a ha => Wk.x_move (ha.ev rfl)) rfl ?_
                          intro _ hd; replace hD := hD.trans hd; replace hW := cm.held _ _ hW hd; clear hd
                          refine Wk.an_p (i := 17) cm rfl (by kernel_rfl) rfl rfl (Wk.wanted_some rfl rfl rfl) (fun w' a ha => Wk.x_move (ha.ev rfl)) rfl ?_
                          intro _ hd; replace hD := hD.trans hd; replace hW := cm.held _ _ hW hd; clear hd
                          obtain ⟨h51, h52, a15, e15, H⟩ := H
                          refine Wk.an_p (i := 18) cm rfl (by kernel_rfl) rfl rfl (Wk.wanted_some rfl rfl rfl) (fun w' a ha => Wk.x_indexAddr (ha.ev rfl) (ha.ev rfl) (Wk.i_index TF.elem_sl_api_Link TF.size_api_Link e15 h51 h52)) rfl ?_
                          intro _ hd; replace hD := hD.trans hd; replace hW := cm.held _ _ hW hd; clear hd
                          refine Wk.an_p (i := 19) cm rfl (by kernel_rfl) rfl rfl (Wk.wanted_some rfl rfl rfl) (fun w' a ha => Wk.x_fieldAddr (ha.ev rfl) (TF.fld_api_Link_2 _ _)) rfl ?_
                          intro _ hd; replace hD := hD.trans hd; replace hW := cm.held _ _ hW hd; clear hd
                          obtain ⟨x39, h53, H⟩ := H
                          refine Wk.an_v (i := 20) cm rfl (by kernel_rfl) hW rfl rfl (Wk.wanted_some rfl rfl rfl) (fun w' hw a ha => Wk.x_load (ha.ev rfl) (Wk.i_load1 TF.agg_int ((hw.cell _).trans h53))) rfl ?_
                          intro _ hd hW; replace hD := hD.trans hd; clear hd
                          refine Wk.an_p (i := 21) cm rfl (by kernel_rfl) rfl rfl (Wk.wanted_some rfl rfl rfl) (fun w' a ha => Wk.x_binOp (ha.ev rfl) (ha.ev rfl) Wk.o_neq) rfl ?_
                          intro _ hd; replace hD := hD.trans hd; replace hW := cm.held _ _ hW hd; clear hd
                          refine Wk.an_p (i := 22) cm rfl (by kernel_rfl) rfl rfl (Wk.wanted_none rfl) (fun w' a ha => Wk.x_pick_f (ha.ev rfl) (ha.ev rfl)) rfl ?_
                          intro _ hd; replace hD := hD.trans hd; replace hW := cm.held _ _ hW hd; clear hd
                          rcases Classical.em (x38 ≠ x39) with hb | hb
                          · replace H := H.1 hb
                            refine Wk.an_p (i := 23) cm rfl (by kernel_rfl) rfl rfl (Wk.wanted_none rfl) (fun w' a ha => Wk.o_t (Wk.x_move (ha.ev rfl)) hb) rfl ?_
                            intro _ hd; replace hD := hD.trans hd; replace hW := cm.held _ _ hW hd; clear hd
                            refine Wk.an_pskip (i := 24) cm rfl (by kernel_rfl) rfl rfl (Wk.wanted_not rfl rfl rfl rfl) rfl ?_
                            intro _ hd; replace hD := hD.trans hd; replace hW := cm.held _ _ hW hd; clear hd
                            refine Wk.an_pskip (i := 25) cm rfl (by kernel_rfl) rfl rfl (Wk.wanted_not rfl rfl rfl rfl) rfl ?_
                            intro _ hd; replace hD := hD.trans hd; replace hW := cm.held _ _ hW hd; clear hd
                            refine Wk.an_pskip (i := 26) cm rfl (by kernel_rfl) rfl rfl (Wk.wanted_not rfl rfl rfl rfl) rfl ?_
                            intro _ hd; replace hD := hD.trans hd; replace hW := cm.held _ _ hW hd; clear hd
                            refine Wk.an_pskip (i := 27) cm rfl (by kernel_rfl) rfl rfl (Wk.wanted_not rfl rfl rfl rfl) rfl ?_
                            intro _ hd; replace hD := hD.trans hd; replace hW := cm.held _ _ hW hd; clear hd
                            refine Wk.an_pskip (i := 28) cm rfl (by kernel_rfl) rfl rfl (Wk.wanted_not rfl rfl rfl rfl) rfl ?_
                            intro _ hd; replace hD := hD.trans hd; replace hW := cm.held _ _ hW hd; clear hd
                            refine Wk.an_pskip (i := 29) cm rfl (by kernel_rfl) rfl rfl (Wk.wanted_not rfl rfl rfl rfl) rfl ?_
                            intro _ hd; replace hD := hD.trans hd; replace hW := cm.held _ _ hW hd; clear hd
                            refine Wk.an_p (i := 30) cm rfl (by kernel_rfl) rfl rfl (Wk.wanted_none rfl) (fun w' a ha => Wk.x_pick_t (ha.ev rfl) (ha.ev rfl)) rfl ?_
                            intro _ hd; replace hD := hD.trans hd; replace hW := cm.held _ _ hW hd; clear hd
                            refine Wk.an_p (i := 31) cm rfl (by kernel_rfl) rfl rfl (Wk.wanted_none rfl) (fun w' a ha => Wk.x_move (ha.ev rfl)) rfl ?_
                            intro _ hd; replace hD := hD.trans hd; replace hW := cm.held _ _ hW hd; clear hd
                            refine Wk.an_pskip (i := 32) cm rfl (by kernel_rfl) rfl rfl (Wk.wanted_not rfl rfl rfl rfl) rfl ?_
                            intro _ hd; replace hD := hD.trans hd; replace hW := cm.held _ _ hW hd; clear hd
                            refine Wk.an_pskip (i := 33) cm rfl (by kernel_rfl) rfl rfl (Wk.wanted_not rfl rfl rfl rfl) rfl ?_
                            intro _ hd; replace hD := hD.trans hd; replace hW := cm.held _ _ hW hd; clear hd
                            refine Wk.an_pskip (i := 34) cm rfl (by kernel_rfl) rfl rfl (Wk.wanted_not rfl rfl rfl rfl) rfl ?_
                            intro _ hd; replace hD := hD.trans hd; replace hW := cm.held _ _ hW hd; clear hd
                            refine Wk.an_pskip (i := 35) cm rfl (by kernel_rfl) rfl rfl (Wk.wanted_not rfl rfl rfl rfl) rfl ?_
                            intro _ hd; replace hD := hD.trans hd; replace hW := cm.held _ _ hW hd; clear hd
                            refine Wk.an_pskip (i := 36) cm rfl (by kernel_rfl) rfl rfl (Wk.wanted_not rfl rfl rfl rfl) rfl ?_
                            intro _ hd; replace hD := hD.trans hd; replace hW := cm.held _ _ hW hd; clear hd
                            refine Wk.an_pskip (i := 37) cm rfl (by kernel_rfl) rfl rfl (Wk.wanted_not rfl rfl rfl rfl) rfl ?_
                            intro _ hd; replace hD := hD.trans hd; replace hW := cm.held _ _ hW hd; clear hd
                            refine Wk.an_pskip (i := 38) cm rfl (by kernel_rfl) rfl rfl (Wk.wanted_not rfl rfl rfl rfl) rfl ?_
                            intro _ hd; replace hD := hD.trans hd; replace hW := cm.held _ _ hW hd; clear hd
                            refine Wk.an_pskip (i := 39) cm rfl (by kernel_rfl) rfl rfl (Wk.wanted_not rfl rfl rfl rfl) rfl ?_
                            intro _ hd; replace hD := hD.trans hd; replace hW := cm.held _ _ hW hd; clear hd
                            refine Wk.an_p (i := 40) cm rfl (by kernel_rfl) rfl rfl (Wk.wanted_none rfl) (fun w' a ha => Wk.x_pick_t (ha.ev rfl) (ha.ev rfl)) rfl ?_
                            intro _ hd; replace hD := hD.trans hd; replace hW := cm.held _ _ hW hd; clear hd
                            refine Wk.an_p (i := 41) cm rfl (by kernel_rfl) rfl rfl (Wk.wanted_none rfl) (fun w' a ha => Wk.x_move (ha.ev rfl)) rfl ?_
                            intro _ hd; replace hD := hD.trans hd; replace hW := cm.held _ _ hW hd; clear hd
                            refine Wk.an_pskip (i := 42) cm rfl (by kernel_rfl) rfl rfl (Wk.wanted_not rfl rfl rfl rfl) rfl ?_
                            intro _ hd; replace hD := hD.trans hd; replace hW := cm.held _ _ hW hd; clear hd
                            refine Wk.an_pskip (i := 43) cm rfl (by kernel_rfl) rfl rfl (Wk.wanted_not rfl rfl rfl rfl) rfl ?_
                            intro _ hd; replace hD := hD.trans hd; replace hW := cm.held _ _ hW hd; clear hd
                            refine Wk.an_pskip (i := 44) cm rfl (by kernel_rfl) rfl rfl (Wk.wanted_not rfl rfl rfl rfl) rfl ?_
                            intro _ hd; replace hD := hD.trans hd; replace hW := cm.held _ _ hW hd; clear hd
                            refine Wk.an_pskip (i := 45) cm rfl (by kernel_rfl) rfl rfl (Wk.wanted_not rfl rfl rfl rfl) rfl ?_
                            intro _ hd; replace hD := hD.trans hd; replace hW := cm.held _ _ hW hd; clear hd
                            refine Wk.an_pskip (i := 46) cm rfl (by kernel_rfl) rfl rfl (Wk.wanted_not rfl rfl rfl rfl) rfl ?_
                            intro _ hd; replace hD := hD.trans hd; replace hW := cm.held _ _ hW hd; clear hd
                            refine Wk.an_pskip (i := 47) cm rfl (by kernel_rfl) rfl rfl (Wk.wanted_not rfl rfl rfl rfl) rfl ?_
                            intro _ hd; replace hD := hD.trans hd; replace hW := cm.held _ _ hW hd; clear hd
                            refine Wk.an_pskip (i := 48) cm rfl (by kernel_rfl) rfl rfl (Wk.wanted_not rfl rfl rfl rfl) rfl ?_
                            intro _ hd; replace hD := hD.trans hd; replace hW := cm.held _ _ hW hd; clear hd
                            refine Wk.an_p (i := 49) cm rfl (by kernel_rfl) rfl rfl (Wk.wanted_none rfl) (fun w' a ha => Wk.x_pick_t (ha.ev rfl) (ha.ev rfl)) rfl ?_
                            intro _ hd; replace hD := hD.trans hd; replace hW := cm.held _ _ hW hd; clear hd
                            refine Wk.an_p (i := 50) cm rfl (by kernel_rfl) rfl rfl (Wk.wanted_none rfl) (fun w' a ha => Wk.x_move (ha.ev rfl)) rfl ?_
                            intro _ hd; replace hD := hD.trans hd; replace hW := cm.held _ _ hW hd; clear hd
                            refine Wk.an_pskip (i := 51) cm rfl (by kernel_rfl) rfl rfl (Wk.wanted_not rfl rfl rfl rfl) rfl ?_
                            intro _ hd; replace hD := hD.trans hd; replace hW := cm.held _ _ hW hd; clear hd
                            refine Wk.an_pskip (i := 52) cm rfl (by kernel_rfl) rfl rfl (Wk.wanted_not rfl rfl rfl rfl) rfl ?_
                            intro _ hd; replace hD := hD.trans hd; replace hW := cm.held _ _ hW hd; clear hd
                            refine Wk.an_pskip (i := 53) cm rfl (by kernel_rfl) rfl rfl (Wk.wanted_not rfl rfl rfl rfl) rfl ?_
                            intro _ hd; replace hD := hD.trans hd; replace hW := cm.held _ _ hW hd; clear hd
                            refine Wk.an_pskip (i := 54) cm rfl (by kernel_rfl) rfl rfl (Wk.wanted_not rfl rfl rfl rfl) rfl ?_
                            intro _ hd; replace hD := hD.trans hd; replace hW := cm.held _ _ hW hd; clear hd
                            refine Wk.an_pskip (i := 55) cm rfl (by kernel_rfl) rfl rfl (Wk.wanted_not rfl rfl rfl rfl) rfl ?_
                            intro _ hd; replace hD := hD.trans hd; replace hW := cm.held _ _ hW hd; clear hd
                            refine Wk.an_pskip (i := 56) cm rfl (by kernel_rfl) rfl rfl (Wk.wanted_not rfl rfl rfl rfl) rfl ?_
                            intro _ hd; replace hD := hD.trans hd; clear hd
                            refine Wk.an_p (i := 57) cm rfl (by kernel_rfl) rfl rfl (Wk.wanted_none rfl) (fun w' a ha => Wk.x_pick_t (ha.ev rfl) (ha.ev rfl)) rfl ?_
                            intro _ hd; replace hD := hD.trans hd; clear hd
                            refine Wk.an_p (i := 58) cm rfl (by kernel_rfl) rfl rfl (Wk.wanted_none rfl) (fun w' a ha => Wk.x_assign (ha.ev rfl)) rfl ?_
                            intro _ hd; replace hD := hD.trans hd; clear hd
                            refine Wk.an_end (by kernel_rfl) hD ?_
                            intro w34 hD; replace H := H _ hD; clear hD cm
                            exact Wk.nx_to fun a ha => ⟨true, ha.weaken (Wk.sub.cons rfl (Wk.sub.nil)), H⟩
                          · replace H := H.2 hb
                            refine Wk.an_p (i := 23) cm rfl (by kernel_rfl) rfl rfl (Wk.wanted_none rfl) (fun w' a ha => Wk.o_f (Wk.x_move (ha.ev rfl)) hb) rfl ?_
                            intro _ hd; replace hD := hD.trans hd; replace hW := cm.held _ _ hW hd; clear hd
                            refine Wk.an_p (i := 24) cm rfl (by kernel_rfl) rfl rfl (Wk.wanted_some rfl rfl rfl) (fun w' a ha => Wk.x_move (ha.ev rfl)) rfl ?_
                            intro _ hd; replace hD := hD.trans hd; replace hW := cm.held _ _ hW hd; clear hd
                            refine Wk.an_p (i := 25) cm rfl (by kernel_rfl) rfl rfl (Wk.wanted_some rfl rfl rfl) (fun w' a ha => Wk.x_move (ha.ev rfl)) rfl ?_
                            intro _ hd; replace hD := hD.trans hd; replace hW := cm.held _ _ hW hd; clear hd
                            obtain ⟨h54, h55, a16, e16, H⟩ := H
                            refine Wk.an_p (i := 26) cm rfl (by kernel_rfl) rfl rfl (Wk.wanted_some rfl rfl rfl) (fun w' a ha => Wk.x_indexAddr (ha.ev rfl) (ha.ev rfl) (Wk.i_index TF.elem_sl_api_Link TF.size_api_Link e16 h54 h55)) rfl ?_
                            intro _ hd; replace hD := hD.trans hd; replace hW := cm.held _ _ hW hd; clear hd
                            refine Wk.an_p (i := 27) cm rfl (by kernel_rfl) rfl rfl (Wk.wanted_some rfl rfl rfl) (fun w' a ha => Wk.x_fieldAddr (ha.ev rfl) (TF.fld_api_Link_1 _ _)) rfl ?_
                            intro _ hd; replace hD := hD.trans hd; replace hW := cm.held _ _ hW hd; clear hd
                            obtain ⟨x40, h56, H⟩ := H
                            refine Wk.an_v (i := 28) cm rfl (by kernel_rfl) hW rfl rfl (Wk.wanted_some rfl rfl rfl) (fun w' hw a ha => Wk.x_load (ha.ev rfl) (Wk.i_load1 TF.agg_int ((hw.cell _).trans h56))) rfl ?_
                            intro _ hd hW; replace hD := hD.trans hd; clear hd
                            refine Wk.an_p (i := 29) cm rfl (by kernel_rfl) rfl rfl (Wk.wanted_some rfl rfl rfl) (fun w' a ha => Wk.x_binOp (ha.ev rfl) (ha.ev rfl) Wk.o_lss) rfl ?_
                            intro _ hd; replace hD := hD.trans hd; replace hW := cm.held _ _ hW hd; clear hd
                            refine Wk.an_p (i := 30) cm rfl (by kernel_rfl) rfl rfl (Wk.wanted_none rfl) (fun w' a ha => Wk.x_pick_f (ha.ev rfl) (ha.ev rfl)) rfl ?_
                            intro _ hd; replace hD := hD.trans hd; replace hW := cm.held _ _ hW hd; clear hd
                            rcases Classical.em (x40 < 0) with hb | hb
                            · replace H := H.1 hb
                              refine Wk.an_p (i := 31) cm rfl (by kernel_rfl) rfl rfl (Wk.wanted_none rfl) (fun w' a ha => Wk.o_t (Wk.x_move (ha.ev rfl)) hb) rfl ?_
                              intro _ hd; replace hD := hD.trans hd; replace hW := cm.held _ _ hW hd; clear hd
                              refine Wk.an_pskip (i := 32) cm rfl (by kernel_rfl) rfl rfl (Wk.wanted_not rfl rfl rfl rfl) rfl ?_
                              intro _ hd; replace hD := hD.trans hd; replace hW := cm.held _ _ hW hd; clear hd
                              refine Wk.an_pskip (i := 33) cm rfl (by kernel_rfl) rfl rfl (Wk.wanted_not rfl rfl rfl rfl) rfl ?_
                              intro _ hd; replace hD := hD.trans hd; replace hW := cm.held _ _ hW hd; clear hd
                              refine Wk.an_pskip (i := 34) cm rfl (by kernel_rfl) rfl rfl (Wk.wanted_not rfl rfl rfl rfl) rfl ?_
                              intro _ hd; replace hD := hD.trans hd; replace hW := cm.held _ _ hW hd; clear hd
                              refine Wk.an_pskip (i := 35) cm rfl (by kernel_rfl) rfl rfl (Wk.wanted_not rfl rfl rfl rfl) rfl ?_
                              intro _ hd; replace hD := hD.trans hd; replace hW := cm.held _ _ hW hd; clear hd
                              refine Wk.an_pskip (i := 36) cm rfl (by kernel_rfl) rfl rfl (Wk.wanted_not rfl rfl rfl rfl) rfl ?_
                              intro _ hd; replace hD := hD.trans hd; replace hW := cm.held _ _ hW hd; clear hd
                              refine Wk.an_pskip (i := 37) cm rfl (by kernel_rfl) rfl rfl (Wk.wanted_not rfl rfl rfl rfl) rfl ?_
                              intro _ hd; replace hD := hD.trans hd; replace hW := cm.held _ _ hW hd; clear hd
                              refine Wk.an_pskip (i := 38) cm rfl (by kernel_rfl) rfl rfl (Wk.wanted_not rfl rfl rfl rfl) rfl ?_
                              intro _ hd; replace hD := hD.trans hd; replace hW := cm.held _ _ hW hd; clear hd
                              refine Wk.an_pskip (i := 39) cm rfl (by kernel_rfl) rfl rfl (Wk.wanted_not rfl rfl rfl rfl) rfl ?_
                              intro _ hd; replace hD := hD.trans hd; replace hW := cm.held _ _ hW hd; clear hd
                              refine Wk.an_p (i := 40) cm rfl (by kernel_rfl) rfl rfl (Wk.wanted_none rfl) (fun w' a ha => Wk.x_pick_t (ha.ev rfl) (ha.ev rfl)) rfl ?_
                              intro _ hd; replace hD := hD.trans hd; replace hW := cm.held _ _ hW hd; clear hd
                              refine Wk.an_p (i := 41) cm rfl (by kernel_rfl) rfl rfl (Wk.wanted_none rfl) (fun w' a ha => Wk.x_move (ha.ev rfl)) rfl ?_
                              intro _ hd; replace hD := hD.trans hd; replace hW := cm.held _ _ hW hd; clear hd
                              refine Wk.an_pskip (i := 42) cm rfl (by kernel_rfl) rfl rfl (Wk.wanted_not rfl rfl rfl rfl) rfl ?_
                              intro _ hd; replace hD := hD.trans hd; replace hW := cm.held _ _ hW hd; clear hd
                              refine Wk.an_pskip (i := 43) cm rfl (by kernel_rfl) rfl rfl (Wk.wanted_not rfl rfl rfl rfl) rfl ?_
                              intro _ hd; replace hD := hD.trans hd; replace hW := cm.held _ _ hW hd; clear hd
                              refine Wk.an_pskip (i := 44) cm rfl (by kernel_rfl) rfl rfl (Wk.wanted_not rfl rfl rfl rfl) rfl ?_
                              intro _ hd; replace hD := hD.trans hd; replace hW := cm.held _ _ hW hd; clear hd
                              refine Wk.an_pskip (i := 45) cm rfl (by kernel_rfl) rfl rfl (Wk.wanted_not rfl rfl rfl rfl) rfl ?_
                              intro _ hd; replace hD := hD.trans hd; replace hW := cm.held _ _ hW hd; clear hd
                              refine Wk.an_pskip (i := 46) cm rfl (by kernel_rfl) rfl rfl (Wk.wanted_not rfl rfl rfl rfl) rfl ?_
                              intro _ hd; replace hD := hD.trans hd; replace hW := cm.held _ _ hW hd; clear hd
                              refine Wk.an_pskip (i := 47) cm rfl (by kernel_rfl) rfl rfl (Wk.wanted_not rfl rfl rfl rfl) rfl ?_
                              intro _ hd; replace hD := hD.trans hd; replace hW := cm.held _ _ hW hd; clear hd
                              refine Wk.an_pskip (i := 48) cm rfl (by kernel_rfl) rfl rfl (Wk.wanted_not rfl rfl rfl rfl) rfl ?_
                              intro _ hd; replace hD := hD.trans hd; replace hW := cm.held _ _ hW hd; clear hd
                              refine Wk.an_p (i := 49) cm rfl (by kernel_rfl) rfl rfl (Wk.wanted_none rfl) (fun w' a ha => Wk.x_pick_t (ha.ev rfl) (ha.ev rfl)) rfl ?_
                              intro _ hd; replace hD := hD.trans hd; replace hW := cm.held _ _ hW hd; clear hd
                              refine Wk.an_p (i := 50) cm rfl (by kernel_rfl) rfl rfl (Wk.wanted_none rfl) (fun w' a ha => Wk.x_move (ha.ev rfl)) rfl ?_
                              intro _ hd; replace hD := hD.trans hd; replace hW := cm.held _ _ hW hd; clear hd
                              refine Wk.an_pskip (i := 51) cm rfl (by kernel_rfl) rfl rfl (Wk.wanted_not rfl rfl rfl rfl) rfl ?_
                              intro _ hd; replace hD := hD.trans hd; replace hW := cm.held _ _ hW hd; clear hd
                              refine Wk.an_pskip (i := 52) cm rfl (by kernel_rfl) rfl rfl (Wk.wanted_not rfl rfl rfl rfl) rfl ?_
                              intro _ hd; replace hD := hD.trans hd; replace hW := cm.held _ _ hW hd; clear hd
                              refine Wk.an_pskip (i := 53) cm rfl (by kernel_rfl) rfl rfl (Wk.wanted_not rfl rfl rfl rfl) rfl ?_
                              intro _ hd; replace hD := hD.trans hd; replace hW := cm.held _ _ hW hd; clear hd
                              refine Wk.an_pskip (i := 54) cm rfl (by kernel_rfl) rfl rfl (Wk.wanted_not rfl rfl rfl rfl) rfl ?_
                              intro _ hd; replace hD := hD.trans hd; replace hW := cm.held _ _ hW hd; clear hd
                              refine Wk.an_pskip (i := 55) cm rfl (by kernel_rfl) rfl rfl (Wk.wanted_not rfl rfl rfl rfl) rfl ?_
                              intro _ hd; replace hD := hD.trans hd; replace hW := cm.held _ _ hW hd; clear hd
                              refine Wk.an_pskip (i := 56) cm rfl (by kernel_rfl) rfl rfl (Wk.wanted_not rfl rfl rfl rfl) rfl ?_
                              intro _ hd; replace hD := hD.trans hd; clear hd
                              refine Wk.an_p (i := 57) cm rfl (by kernel_rfl) rfl rfl (Wk.wanted_none rfl) (fun w' a ha => Wk.x_pick_t (ha.ev rfl) (ha.ev rfl)) rfl ?_
                              intro _ hd; replace hD := hD.trans hd; clear hd
                              refine Wk.an_p (i := 58) cm rfl (by kernel_rfl) rfl rfl (Wk.wanted_none rfl) (fun w' a ha => Wk.x_assign (ha.ev rfl)) rfl ?_
                              intro _ hd; replace hD := hD.trans hd; clear hd
                              refine Wk.an_end (by kernel_rfl) hD ?_
                              intro w35 hD; replace H := H _ hD; clear hD cm
                              exact Wk.nx_to fun a ha => ⟨true, ha.weaken (Wk.sub.cons rfl (Wk.sub.nil)), H⟩
                            · replace H := H.2 hb
                              refine Wk.an_p (i := 31) cm rfl (by kernel_rfl) rfl rfl (Wk.wanted_none rfl) (fun w' a ha => Wk.o_f (Wk.x_move (ha.ev rfl)) hb) rfl ?_
                              intro _ hd; replace hD := hD.trans hd; replace hW := cm.held _ _ hW hd; clear hd
                              refine Wk.an_p (i := 32) cm rfl (by kernel_rfl) rfl rfl (Wk.wanted_some rfl rfl rfl) (fun w' a ha => Wk.x_move (ha.ev rfl)) rfl ?_
                              intro _ hd; replace hD := hD.trans hd; replace hW := cm.held _ _ hW hd; clear hd
                              refine Wk.an_p (i := 33) cm rfl (by kernel_rfl) rfl rfl (Wk.wanted_some rfl rfl rfl) (fun w' a ha => Wk.x_move (ha.ev rfl)) rfl ?_
                              intro _ hd; replace hD := hD.trans hd; replace hW := cm.held _ _ hW hd; clear hd
                              obtain ⟨h57, h58, a17, e17, H⟩ := H
                              refine Wk.an_p (i := 34) cm rfl (by kernel_rfl) rfl rfl (Wk.wanted_some rfl rfl rfl) (fun w' a ha => Wk.x_indexAddr (ha.ev rfl) (ha.ev rfl) (Wk.i_index TF.elem_sl_api_Link TF.size_api_Link e17 h57 h58)) rfl ?_
                              intro _ hd; replace hD := hD.trans hd; replace hW := cm.held _ _ hW hd; clear hd
                              refine Wk.an_p (i := 35) cm rfl (by kernel_rfl) rfl rfl (Wk.wanted_some rfl rfl rfl) (fun w' a ha => Wk.x_fieldAddr (ha.ev rfl) (TF.fld_api_Link_1 _ _)) rfl ?_
                              intro _ hd; replace hD := hD.trans hd; replace hW := cm.held _ _ hW hd; clear hd
                              obtain ⟨x41, h59, H⟩ := H
                              refine Wk.an_v (i := 36) cm rfl (by kernel_rfl) hW rfl rfl (Wk.wanted_some rfl rfl rfl) (fun w' hw a ha => Wk.x_load (ha.ev rfl) (Wk.i_load1 TF.agg_int ((hw.cell _).trans h59))) rfl ?_
                              intro _ hd hW; replace hD := hD.trans hd; clear hd
                              refine Wk.an_p (i := 37) cm rfl (by kernel_rfl) rfl rfl (Wk.wanted_some rfl rfl rfl) (fun w' a ha => Wk.x_move (ha.ev rfl)) rfl ?_
                              intro _ hd; replace hD := hD.trans hd; replace hW := cm.held _ _ hW hd; clear hd
                              refine Wk.an_p (i := 38) cm rfl (by kernel_rfl) rfl rfl (Wk.wanted_some rfl rfl rfl) (fun w' a ha => Wk.x_builtin (ha.evs rfl) (fun _ => Wk.l_slice TF.isslice_sl_api_Flat)) rfl ?_
                              intro _ hd; replace hD := hD.trans hd; replace hW := cm.held _ _ hW hd; clear hd
                              refine Wk.an_p (i := 39) cm rfl (by kernel_rfl) rfl rfl (Wk.wanted_some rfl rfl rfl) (fun w' a ha => Wk.x_binOp (ha.ev rfl) (ha.ev rfl) Wk.o_geq) rfl ?_
                              intro _ hd; replace hD := hD.trans hd; replace hW := cm.held _ _ hW hd; clear hd
                              refine Wk.an_p (i := 40) cm rfl (by kernel_rfl) rfl rfl (Wk.wanted_none rfl) (fun w' a ha => Wk.x_pick_f (ha.ev rfl) (ha.ev rfl)) rfl ?_
                              intro _ hd; replace hD := hD.trans hd; replace hW := cm.held _ _ hW hd; clear hd
                              rcases Classical.em ((n1 : Int) ≤ x41) with hb | hb
                              · replace H := H.1 hb
                                refine Wk.an_p (i := 41) cm rfl (by kernel_rfl) rfl rfl (Wk.wanted_none rfl) (fun w' a ha => Wk.o_t (Wk.x_move (ha.ev rfl)) hb) rfl ?_
                                intro _ hd; replace hD := hD.trans hd; replace hW := cm.held _ _ hW hd; clear hd
                                refine Wk.an_pskip (i := 42) cm rfl (by kernel_rfl) rfl rfl (Wk.wanted_not rfl rfl rfl rfl) rfl ?_
                                intro _ hd; replace hD := hD.trans hd; replace hW := cm.held _ _ hW hd; clear hd
                                refine Wk.an_pskip (i := 43) cm rfl (by kernel_rfl) rfl rfl (Wk.wanted_not rfl rfl rfl rfl) rfl ?_
                                intro _ hd; replace hD := hD.trans hd; replace hW := cm.held _ _ hW hd; clear hd
                                refine Wk.an_pskip (i := 44) cm rfl (by kernel_rfl) rfl rfl (Wk.wanted_not rfl rfl rfl rfl) rfl ?_
                                intro _ hd; replace hD := hD.trans hd; replace hW := cm.held _ _ hW hd; clear hd
                                refine Wk.an_pskip (i := 45) cm rfl (by kernel_rfl) rfl rfl (Wk.wanted_not rfl rfl rfl rfl) rfl ?_
                                intro _ hd; replace hD := hD.trans hd; replace hW := cm.held _ _ hW hd; clear hd
                                refine Wk.an_pskip (i := 46) cm rfl (by kernel_rfl) rfl rfl (Wk.wanted_not rfl rfl rfl rfl) rfl ?_
                                intro _ hd; replace hD := hD.trans hd; replace hW := cm.held _ _ hW hd; clear hd
                                refine Wk.an_pskip (i := 47) cm rfl (by kernel_rfl) rfl rfl (Wk.wanted_not rfl rfl rfl rfl) rfl ?_
                                intro _ hd; replace hD := hD.trans hd; replace hW := cm.held _ _ hW hd; clear hd
                                refine Wk.an_pskip (i := 48) cm rfl (by kernel_rfl) rfl rfl (Wk.wanted_not rfl rfl rfl rfl) rfl ?_
                                intro _ hd; replace hD := hD.trans hd; replace hW := cm.held _ _ hW hd; clear hd
                                refine Wk.an_p (i := 49) cm rfl (by kernel_rfl) rfl rfl (Wk.wanted_none rfl) (fun w' a ha => Wk.x_pick_t (ha.ev rfl) (ha.ev rfl)) rfl ?_
                                intro _ hd; replace hD := hD.trans hd; replace hW := cm.held _ _ hW hd; clear hd
                                refine Wk.an_p (i := 50) cm rfl (by kernel_rfl) rfl rfl (Wk.wanted_none rfl) (fun w' a ha => Wk.x_move (ha.ev rfl)) rfl ?_
                                intro _ hd; replace hD := hD.trans hd; replace hW := cm.held _ _ hW hd; clear hd
                                refine Wk.an_pskip (i := 51) cm rfl (by kernel_rfl) rfl rfl (Wk.wanted_not rfl rfl rfl rfl) rfl ?_
                                intro _ hd; replace hD := hD.trans hd; replace hW := cm.held _ _ hW hd; clear hd
                                refine Wk.an_pskip (i := 52) cm rfl (by kernel_rfl) rfl rfl (Wk.wanted_not rfl rfl rfl rfl) rfl ?_
                                intro _ hd; replace hD := hD.trans hd; replace hW := cm.held _ _ hW hd; clear hd
                                refine Wk.an_pskip (i := 53) cm rfl (by kernel_rfl) rfl rfl (Wk.wanted_not rfl rfl rfl rfl) rfl ?_
                                intro _ hd; replace hD := hD.trans hd; replace hW := cm.held _ _ hW hd; clear hd
                                refine Wk.an_pskip (i := 54) cm rfl (by kernel_rfl) rfl rfl (Wk.wanted_not rfl rfl rfl rfl) rfl ?_
                                intro _ hd; replace hD := hD.trans hd; replace hW := cm.held _ _ hW hd; clear hd
                                refine Wk.an_pskip (i := 55) cm rfl (by kernel_rfl) rfl rfl (Wk.wanted_not rfl rfl rfl rfl) rfl ?_
                                intro _ hd; replace hD := hD.trans hd; replace hW := cm.held _ _ hW hd; clear hd
                                refine Wk.an_pskip (i := 56) cm rfl (by kernel_rfl) rfl rfl (Wk.wanted_not rfl rfl rfl rfl) rfl ?_
                                intro _ hd; replace hD := hD.trans hd; clear hd
                                refine Wk.an_p (i := 57) cm rfl (by kernel_rfl) rfl rfl (Wk.wanted_none rfl) (fun w' a ha => Wk.x_pick_t (ha.ev rfl) (ha.ev rfl)) rfl ?_
                                intro _ hd; replace hD := hD.trans hd; clear hd
                                refine Wk.an_p (i := 58) cm rfl (by kernel_rfl) rfl rfl (Wk.wanted_none rfl) (fun w' a ha => Wk.x_assign (ha.ev rfl)) rfl ?_
                                intro _ hd; replace hD := hD.trans hd; clear hd
                                refine Wk.an_end (by kernel_rfl) hD ?_
                                intro w36 hD; replace H := H _ hD; clear hD cm
                                exact Wk.nx_to fun a ha => ⟨true, ha.weaken (Wk.sub.cons rfl (Wk.sub.nil)), H⟩
                              · replace H := H.2 hb
                                refine Wk.an_p (i := 41) cm rfl (by kernel_rfl) rfl rfl (Wk.wanted_none rfl) (fun w' a ha => Wk.o_f (Wk.x_move (ha.ev rfl)) hb) rfl ?_
                                intro _ hd; replace hD := hD.trans hd; replace hW := cm.held _ _ hW hd; clear hd
                                refine Wk.an_p (i := 42) cm rfl (by kernel_rfl) rfl rfl (Wk.wanted_some rfl rfl rfl) (fun w' a ha => Wk.x_move (ha.ev rfl)) rfl ?_
                                intro _ hd; replace hD := hD.trans hd; replace hW := cm.held _ _ hW hd; clear hd
                                refine Wk.an_p (i := 43) cm rfl (by kernel_rfl) rfl rfl (Wk.wanted_some rfl rfl rfl) (fun w' a ha => Wk.x_move (ha.ev rfl)) rfl ?_
                                intro _ hd; replace hD := hD.trans hd; replace hW := cm.held _ _ hW hd; clear hd
                                obtain ⟨h60, h61, a18, e18, H⟩ := H
                                refine Wk.an_p (i := 44) cm rfl (by kernel_rfl) rfl rfl (Wk.wanted_some rfl rfl rfl) (fun w' a ha => Wk.x_indexAddr (ha.ev rfl) (ha.ev rfl) (Wk.i_index TF.elem_sl_api_Link TF.size_api_Link e18 h60 h61)) rfl ?_
                                intro _ hd; replace hD := hD.trans hd; replace hW := cm.held _ _ hW hd; clear hd
                                refine Wk.an_p (i := 45) cm rfl (by kernel_rfl) rfl rfl (Wk.wanted_some rfl rfl rfl) (fun w' a ha => Wk.x_fieldAddr (ha.ev rfl) (TF.fld_api_Link_4 _ _)) rfl ?_
                                intro _ hd; replace hD := hD.trans hd; replace hW := cm.held _ _ hW hd; clear hd
                                obtain ⟨A7, n7, c7, h62, H⟩ := H
                                refine Wk.an_v (i := 46) cm rfl (by kernel_rfl) hW rfl rfl (Wk.wanted_some rfl rfl rfl) (fun w' hw a ha => Wk.x_load (ha.ev rfl) (Wk.i_load1 TF.agg_sl_int ((hw.cell _).trans h62))) rfl ?_
                                intro _ hd hW; replace hD := hD.trans hd; clear hd
                                refine Wk.an_p (i := 47) cm rfl (by kernel_rfl) rfl rfl (Wk.wanted_some rfl rfl rfl) (fun w' a ha => Wk.x_builtin (ha.evs rfl) (fun _ => Wk.l_slice TF.isslice_sl_int)) rfl ?_
                                intro _ hd; replace hD := hD.trans hd; replace hW := cm.held _ _ hW hd; clear hd
                                refine Wk.an_p (i := 48) cm rfl (by kernel_rfl) rfl rfl (Wk.wanted_some rfl rfl rfl) (fun w' a ha => Wk.x_binOp (ha.ev rfl) (ha.ev rfl) Wk.o_gtr) rfl ?_
                                intro _ hd; replace hD := hD.trans hd; replace hW := cm.held _ _ hW hd; clear hd
                                refine Wk.an_p (i := 49) cm rfl (by kernel_rfl) rfl rfl (Wk.wanted_none rfl) (fun w' a ha => Wk.x_pick_f (ha.ev rfl) (ha.ev rfl)) rfl ?_
                                intro _ hd; replace hD := hD.trans hd; replace hW := cm.held _ _ hW hd; clear hd
                                rcases Classical.em (0 < (n7 : Int)) with hb | hb
                                · replace H := H.1 hb
                                  refine Wk.an_p (i := 50) cm rfl (by kernel_rfl) rfl rfl (Wk.wanted_none rfl) (fun w' a ha => Wk.o_t (Wk.x_move (ha.ev rfl)) hb) rfl ?_
                                  intro _ hd; replace hD := hD.trans hd; replace hW := cm.held _ _ hW hd; clear hd
                                  refine Wk.an_pskip (i := 51) cm rfl (by kernel_rfl) rfl rfl (Wk.wanted_not rfl rfl rfl rfl) rfl ?_
                                  intro _ hd; replace hD := hD.trans hd; replace hW := cm.held _ _ hW hd; clear hd
                                  refine Wk.an_pskip (i := 52) cm rfl (by kernel_rfl) rfl rfl (Wk.wanted_not rfl rfl rfl rfl) rfl ?_
                                  intro _ hd; replace hD := hD.trans hd; replace hW := cm.held _ _ hW hd; clear hd
                                  refine Wk.an_pskip (i := 53) cm rfl (by kernel_rfl) rfl rfl (Wk.wanted_not rfl rfl rfl rfl) rfl ?_
                                  intro _ hd; replace hD := hD.trans hd; replace hW := cm.held _ _ hW hd; clear hd
                                  refine Wk.an_pskip (i := 54) cm rfl (by kernel_rfl) rfl rfl (Wk.wanted_not rfl rfl rfl rfl) rfl ?_
                                  intro _ hd; replace hD := hD.trans hd; replace hW := cm.held _ _ hW hd; clear hd
                                  refine Wk.an_pskip (i := 55) cm rfl (by kernel_rfl) rfl rfl (Wk.wanted_not rfl rfl rfl rfl) rfl ?_
                                  intro _ hd; replace hD := hD.trans hd; replace hW := cm.held _ _ hW hd; clear hd
                                  refine Wk.an_pskip (i := 56) cm rfl (by kernel_rfl) rfl rfl (Wk.wanted_not rfl rfl rfl rfl) rfl ?_
                                  intro _ hd; replace hD := hD.trans hd; clear hd
                                  refine Wk.an_p (i := 57) cm rfl (by kernel_rfl) rfl rfl (Wk.wanted_none rfl) (fun w' a ha => Wk.x_pick_t (ha.ev rfl) (ha.ev rfl)) rfl ?_
                                  intro _ hd; replace hD := hD.trans hd; clear hd
                                  refine Wk.an_p (i := 58) cm rfl (by kernel_rfl) rfl rfl (Wk.wanted_none rfl) (fun w' a ha => Wk.x_assign (ha.ev rfl)) rfl ?_
                                  intro _ hd; replace hD := hD.trans hd; clear hd
                                  refine Wk.an_end (by kernel_rfl) hD ?_
                                  intro w37 hD; replace H := H _ hD; clear hD cm
                                  exact Wk.nx_to fun a ha => ⟨true, ha.weaken (Wk.sub.cons rfl (Wk.sub.nil)), H⟩
                                · replace H := H.2 hb
                                  refine Wk.an_p (i := 50) cm rfl (by kernel_rfl) rfl rfl (Wk.wanted_none rfl) (fun w' a ha => Wk.o_f (Wk.x_move (ha.ev rfl)) hb) rfl ?_
                                  intro _ hd; replace hD := hD.trans hd; replace hW := cm.held _ _ hW hd; clear hd
                                  refine Wk.an_p (i := 51) cm rfl (by kernel_rfl) rfl rfl (Wk.wanted_some rfl rfl rfl) (fun w' a ha => Wk.x_move (ha.ev rfl)) rfl ?_
                                  intro _ hd; replace hD := hD.trans hd; replace hW := cm.held _ _ hW hd; clear hd
                                  refine Wk.an_p (i := 52) cm rfl (by kernel_rfl) rfl rfl (Wk.wanted_some rfl rfl rfl) (fun w' a ha => Wk.x_move (ha.ev rfl)) rfl ?_
                                  intro _ hd; replace hD := hD.trans hd; replace hW := cm.held _ _ hW hd; clear hd
                                  obtain ⟨h63, h64, a19, e19, H⟩ := H
                                  refine Wk.an_p (i := 53) cm rfl (by kernel_rfl) rfl rfl (Wk.wanted_some rfl rfl rfl) (fun w' a ha => Wk.x_indexAddr (ha.ev rfl) (ha.ev rfl) (Wk.i_index TF.elem_sl_api_Link TF.size_api_Link e19 h63 h64)) rfl ?_
                                  intro _ hd; replace hD := hD.trans hd; replace hW := cm.held _ _ hW hd; clear hd
                                  refine Wk.an_p (i := 54) cm rfl (by kernel_rfl) rfl rfl (Wk.wanted_some rfl rfl rfl) (fun w' a ha => Wk.x_fieldAddr (ha.ev rfl) (TF.fld_api_Link_3 _ _)) rfl ?_
                                  intro _ hd; replace hD := hD.trans hd; replace hW := cm.held _ _ hW hd; clear hd
                                  obtain ⟨x42, h65, H⟩ := H
                                  refine Wk.an_v (i := 55) cm rfl (by kernel_rfl) hW rfl rfl (Wk.wanted_some rfl rfl rfl) (fun w' hw a ha => Wk.x_load (ha.ev rfl) (Wk.i_load1 TF.agg_int ((hw.cell _).trans h65))) rfl ?_
                                  intro _ hd hW; replace hD := hD.trans hd; clear hd
                                  refine Wk.an_p (i := 56) cm rfl (by kernel_rfl) rfl rfl (Wk.wanted_some rfl rfl rfl) (fun w' a ha => Wk.x_binOp (ha.ev rfl) (ha.ev rfl) Wk.o_neq) rfl ?_
                                  intro _ hd; replace hD := hD.trans hd; clear hd
                                  refine Wk.an_p (i := 57) cm rfl (by kernel_rfl) rfl rfl (Wk.wanted_none rfl) (fun w' a ha => Wk.x_pick_f (ha.ev rfl) (ha.ev rfl)) rfl ?_
                                  intro _ hd; replace hD := hD.trans hd; clear hd
                                  refine Wk.an_p (i := 58) cm rfl (by kernel_rfl) rfl rfl (Wk.wanted_none rfl) (fun w' a ha => Wk.x_assign (ha.ev rfl)) rfl ?_
                                  intro _ hd; replace hD := hD.trans hd; clear hd
                                  refine Wk.an_end (by kernel_rfl) hD ?_
                                  intro w38 hD; replace H := H _ hD; clear hD cm
                                  exact Wk.nx_to fun a ha => ⟨(decide (x42 ≠ 0)), ha.weaken (Wk.sub.cons rfl (Wk.sub.nil)), H⟩
                · refine Wk.cw_seq ?_
                  refine Wk.cw_region ?_
                  refine Wk.sl_v rfl rfl (Wk.wanted_none rfl) (fun a ha => Wk.x_move (ha.ev rfl)) ?_
                  refine Wk.sl_v rfl rfl (Wk.wanted_none rfl) (fun a ha => Wk.x_binOp (ha.ev rfl) (ha.ev rfl) Wk.o_eql) ?_
                  refine Wk.sl_nil ?_
                  refine Wk.nx_code (Wk.cw_sub (e' := [(0, (.slice A1 n1 c1)), (2, (.slice A3 n3 c3)), (16, (.int .i64 x8)), (18, (.slice A5 n5 c5)), (21, (.int .i64 x8)), (166, (.bool (decide (x8 = (-1)))))]) (Wk.sub.cons rfl (Wk.sub.cons rfl (Wk.sub.cons rfl (Wk.sub.cons rfl (Wk.sub.cons rfl (Wk.sub.cons rfl (Wk.sub.nil))))))) ?_)
                  refine Wk.cw_cond_p rfl (fun hb => ?_) (fun hb => ?_)
                  · replace H := H.1 hb
                    refine Wk.cw_region ?_
                    refine Wk.sl_v rfl rfl (Wk.wanted_none rfl) (fun a ha => Wk.x_move (ha.ev rfl)) ?_
                    refine Wk.sl_v rfl rfl (Wk.wanted_none rfl) (fun a ha => Wk.x_builtin (ha.evs rfl) (fun _ => Wk.l_slice TF.isslice_sl_api_Link)) ?_
                    refine Wk.sl_v rfl rfl (Wk.wanted_none rfl) (fun a ha => Wk.x_assign (ha.ev rfl)) ?_
                    refine Wk.sl_nil ?_
                    exact Wk.nx_to fun a ha => ⟨⟨(n3 : Int), ha.weaken (Wk.sub.cons rfl (Wk.sub.cons rfl (Wk.sub.cons rfl (Wk.sub.cons rfl (Wk.sub.cons rfl (Wk.sub.nil)))))), H⟩, rfl⟩
                  · replace H := H.2 hb
                    refine Wk.cw_skip ?_
                    exact Wk.nx_to fun a ha => ⟨⟨x8, ha.weaken (Wk.sub.cons rfl (Wk.sub.cons rfl (Wk.sub.cons rfl (Wk.sub.cons rfl (Wk.sub.cons rfl (Wk.sub.nil)))))), H⟩, rfl⟩
            · refine Wk.cw_seq ?_
              refine Wk.cw_region ?_
              refine Wk.sl_v rfl rfl (Wk.wanted_none rfl) (fun a ha => Wk.x_move (ha.ev rfl)) ?_
              refine Wk.sl_v rfl rfl (Wk.wanted_none rfl) (fun a ha => Wk.x_binOp (ha.ev rfl) (ha.ev rfl) Wk.o_lss) ?_
              refine Wk.sl_nil ?_
              refine Wk.nx_code (Wk.cw_sub (e' := [(0, (.slice A1 n1 c1)), (1, (.slice A2 n2 c2)), (2, (.slice A3 n3 c3)), (3, (.slice A4 n4 c4)), (4, (.int .i64 x1)), (16, (.int .i64 x8)), (88, (.bool (decide (x1 < 1))))]) (Wk.sub.cons rfl (Wk.sub.cons rfl (Wk.sub.cons rfl (Wk.sub.cons rfl (Wk.sub.cons rfl (Wk.sub.cons rfl (Wk.sub.cons rfl (Wk.sub.nil)))))))) ?_)
              refine Wk.cw_cond_p rfl (fun hb => ?_) (fun hb => ?_)
              · replace H := H.1 hb
                refine Wk.cw_region ?_
                refine Wk.sl_v rfl rfl (Wk.wanted_none rfl) (fun a ha => Wk.x_assign (ha.ev rfl)) ?_
                refine Wk.sl_nil ?_
                exact Wk.nx_to fun a ha => ⟨⟨1, ha.weaken (Wk.sub.cons rfl (Wk.sub.cons rfl (Wk.sub.cons rfl (Wk.sub.cons rfl (Wk.sub.cons rfl (Wk.sub.cons rfl (Wk.sub.nil))))))), H⟩, rfl⟩
              · replace H := H.2 hb
                refine Wk.cw_skip ?_
                exact Wk.nx_to fun a ha => ⟨⟨x1, ha.weaken (Wk.sub.cons rfl (Wk.sub.cons rfl (Wk.sub.cons rfl (Wk.sub.cons rfl (Wk.sub.cons rfl (Wk.sub.cons rfl (Wk.sub.nil))))))), H⟩, rfl⟩
        · refine Wk.cw_region ?_
          refine Wk.sl_v rfl rfl (Wk.wanted_none rfl) (fun a ha => Wk.x_move (ha.ev rfl)) ?_
          refine Wk.sl_call rfl rfl (Wk.wanted_none rfl) (fun a ha => Wk.x_call0 (ha.ev rfl) (ha.evs rfl) FF.callable_arbiterlaw13_no) H ?_
          rintro _ w14 ⟨x11, rfl, H⟩
          refine Wk.sl_v rfl rfl (Wk.wanted_none rfl) (fun a ha => Wk.x_binOp (ha.ev rfl) (ha.ev rfl) Wk.o_neq) ?_
          rcases Classical.em (x11 ≠ 0) with hb | hb
          · replace H := H.1 hb
            refine Wk.sl_v rfl rfl (Wk.wanted_none rfl) (fun a ha => Wk.o_t (Wk.x_move (ha.ev rfl)) hb) ?_
            refine Wk.sl_skip rfl rfl (Wk.wanted_not rfl rfl rfl rfl) ?_
            refine Wk.sl_skip rfl rfl (Wk.wanted_not rfl rfl rfl rfl) ?_
            refine Wk.sl_v rfl rfl (Wk.wanted_none rfl) (fun a ha => Wk.x_pick_t (ha.ev rfl) (ha.ev rfl)) ?_
            refine Wk.sl_v rfl rfl (Wk.wanted_none rfl) (fun a ha => Wk.x_move (ha.ev rfl)) ?_
            refine Wk.sl_skip rfl rfl (Wk.wanted_not rfl rfl rfl rfl) ?_
            refine Wk.sl_skip rfl rfl (Wk.wanted_not rfl rfl rfl rfl) ?_
            refine Wk.sl_skip rfl rfl (Wk.wanted_not rfl rfl rfl rfl) ?_
            refine Wk.sl_skip rfl rfl (Wk.wanted_not rfl rfl rfl rfl) ?_
            refine Wk.sl_v rfl rfl (Wk.wanted_none rfl) (fun a ha => Wk.x_pick_t (ha.ev rfl) (ha.ev rfl)) ?_
            refine Wk.sl_nil ?_
            exact Wk.nx_to fun a ha => ⟨true, ha.weaken (Wk.sub.cons rfl (Wk.sub.cons rfl (Wk.sub.cons rfl (Wk.sub.cons rfl (Wk.sub.cons rfl (Wk.sub.cons rfl (Wk.sub.cons rfl (Wk.sub.nil)))))))), H⟩
          · replace H := H.2 hb
            refine Wk.sl_v rfl rfl (Wk.wanted_none rfl) (fun a ha => Wk.o_f (Wk.x_move (ha.ev rfl)) hb) ?_
            refine Wk.sl_v rfl rfl (Wk.wanted_some rfl rfl rfl) (fun a ha => Wk.x_move (ha.ev rfl)) ?_
            refine Wk.sl_v rfl rfl (Wk.wanted_some rfl rfl rfl) (fun a ha => Wk.x_binOp (ha.ev rfl) (ha.ev rfl) Wk.o_lss) ?_
            refine Wk.sl_v rfl rfl (Wk.wanted_none rfl) (fun a ha => Wk.x_pick_f (ha.ev rfl) (ha.ev rfl)) ?_
            rcases Classical.em (x8 < (-1)) with hb | hb
            · replace H := H.1 hb
              refine Wk.sl_v rfl rfl (Wk.wanted_none rfl) (fun a ha => Wk.o_t (Wk.x_move (ha.ev rfl)) hb) ?_
              refine Wk.sl_skip rfl rfl (Wk.wanted_not rfl rfl rfl rfl) ?_
              refine Wk.sl_skip rfl rfl (Wk.wanted_not rfl rfl rfl rfl) ?_
              refine Wk.sl_skip rfl rfl (Wk.wanted_not rfl rfl rfl rfl) ?_
              refine Wk.sl_skip rfl rfl (Wk.wanted_not rfl rfl rfl rfl) ?_
              refine Wk.sl_v rfl rfl (Wk.wanted_none rfl) (fun a ha => Wk.x_pick_t (ha.ev rfl) (ha.ev rfl)) ?_
              refine Wk.sl_nil ?_
              exact Wk.nx_to fun a ha => ⟨true, ha.weaken (Wk.sub.cons rfl (Wk.sub.cons rfl (Wk.sub.cons rfl (Wk.sub.cons rfl (Wk.sub.cons rfl (Wk.sub.cons rfl (Wk.sub.cons rfl (Wk.sub.nil)))))))), H⟩
            · replace H := H.2 hb
              refine Wk.sl_v rfl rfl (Wk.wanted_none rfl) (fun a ha => Wk.o_f (Wk.x_move (ha.ev rfl)) hb) ?_
              refine Wk.sl_v rfl rfl (Wk.wanted_some rfl rfl rfl) (fun a ha => Wk.x_move (ha.ev rfl)) ?_
              refine Wk.sl_v rfl rfl (Wk.wanted_some rfl rfl rfl) (fun a ha => Wk.x_move (ha.ev rfl)) ?_
              refine Wk.sl_v rfl rfl (Wk.wanted_some rfl rfl rfl) (fun a ha => Wk.x_builtin (ha.evs rfl) (fun _ => Wk.l_slice TF.isslice_sl_api_Link)) ?_
              refine Wk.sl_v rfl rfl (Wk.wanted_some rfl rfl rfl) (fun a ha => Wk.x_binOp (ha.ev rfl) (ha.ev rfl) Wk.o_geq) ?_
              refine Wk.sl_v rfl rfl (Wk.wanted_none rfl) (fun a ha => Wk.x_pick_f (ha.ev rfl) (ha.ev rfl)) ?_
              refine Wk.sl_nil ?_
              exact Wk.nx_to fun a ha => ⟨(decide ((n3 : Int) ≤ x8)), ha.weaken (Wk.sub.cons rfl (Wk.sub.cons rfl (Wk.sub.cons rfl (Wk.sub.cons rfl (Wk.sub.cons rfl (Wk.sub.cons rfl (Wk.sub.cons rfl (Wk.sub.nil)))))))), H⟩
  · refine Wk.cw_region ?_
    refine Wk.sl_v rfl rfl (Wk.wanted_none rfl) (fun a ha => Wk.x_move (ha.ev rfl)) ?_
    refine Wk.sl_v rfl rfl (Wk.wanted_none rfl) (fun a ha => Wk.x_binOp (ha.ev rfl) (ha.ev rfl) Wk.o_neq) ?_
    rcases Classical.em (x2 ≠ (-1)) with hb | hb
    · replace H := H.1 hb
      refine Wk.sl_v rfl rfl (Wk.wanted_none rfl) (fun a ha => Wk.o_t (Wk.x_move (ha.ev rfl)) hb) ?_
      refine Wk.sl_skip rfl rfl (Wk.wanted_not rfl rfl rfl rfl) ?_
      refine Wk.sl_skip rfl rfl (Wk.wanted_not rfl rfl rfl rfl) ?_
      refine Wk.sl_v rfl rfl (Wk.wanted_none rfl) (fun a ha => Wk.x_pick_t (ha.ev rfl) (ha.ev rfl)) ?_
      refine Wk.sl_v rfl rfl (Wk.wanted_none rfl) (fun a ha => Wk.x_move (ha.ev rfl)) ?_
      refine Wk.sl_skip rfl rfl (Wk.wanted_not rfl rfl rfl rfl) ?_
      refine Wk.sl_skip rfl rfl (Wk.wanted_not rfl rfl rfl rfl) ?_
      refine Wk.sl_skip rfl rfl (Wk.wanted_not rfl rfl rfl rfl) ?_
      refine Wk.sl_v rfl rfl (Wk.wanted_none rfl) (fun a ha => Wk.x_pick_t (ha.ev rfl) (ha.ev rfl)) ?_
      refine Wk.sl_v rfl rfl (Wk.wanted_none rfl) (fun a ha => Wk.x_move (ha.ev rfl)) ?_
      refine Wk.sl_skip rfl rfl (Wk.wanted_not rfl rfl rfl rfl) ?_
      refine Wk.sl_skip rfl rfl (Wk.wanted_not rfl rfl rfl rfl) ?_
      refine Wk.sl_skip rfl rfl (Wk.wanted_not rfl rfl rfl rfl) ?_
      refine Wk.sl_v rfl rfl (Wk.wanted_none rfl) (fun a ha => Wk.x_pick_t (ha.ev rfl) (ha.ev rfl)) ?_
      refine Wk.sl_nil ?_
      exact Wk.nx_to fun a ha => ⟨true, ha.weaken (Wk.sub.cons rfl (Wk.sub.cons rfl (Wk.sub.cons rfl (Wk.sub.cons rfl (Wk.sub.cons rfl (Wk.sub.cons rfl (Wk.sub.nil))))))), H⟩
    · replace H := H.2 hb
      refine Wk.sl_v rfl rfl (Wk.wanted_none rfl) (fun a ha => Wk.o_f (Wk.x_move (ha.ev rfl)) hb) ?_
      refine Wk.sl_v rfl rfl (Wk.wanted_some rfl rfl rfl) (fun a ha => Wk.x_move (ha.ev rfl)) ?_
      refine Wk.sl_v rfl rfl (Wk.wanted_some rfl rfl rfl) (fun a ha => Wk.x_binOp (ha.ev rfl) (ha.ev rfl) Wk.o_neq) ?_
      refine Wk.sl_v rfl rfl (Wk.wanted_none rfl) (fun a ha => Wk.x_pick_f (ha.ev rfl) (ha.ev rfl)) ?_
      rcases Classical.em (x4 ≠ 0) with hb | hb
      · replace H := H.1 hb
        refine Wk.sl_v rfl rfl (Wk.wanted_none rfl) (fun a ha => Wk.o_t (Wk.x_move (ha.ev rfl)) hb) ?_
        refine Wk.sl_skip rfl rfl (Wk.wanted_not rfl rfl rfl rfl) ?_
        refine Wk.sl_skip rfl rfl (Wk.wanted_not rfl rfl rfl rfl) ?_
        refine Wk.sl_skip rfl rfl (Wk.wanted_not rfl rfl rfl rfl) ?_
        refine Wk.sl_v rfl rfl (Wk.wanted_none rfl) (fun a ha => Wk.x_pick_t (ha.ev rfl) (ha.ev rfl)) ?_
        refine Wk.sl_v rfl rfl (Wk.wanted_none rfl) (fun a ha => Wk.x_move (ha.ev rfl)) ?_
        refine Wk.sl_skip rfl rfl (Wk.wanted_not rfl rfl rfl rfl) ?_
        refine Wk.sl_skip rfl rfl (Wk.wanted_not rfl rfl rfl rfl) ?_
        refine Wk.sl_skip rfl rfl (Wk.wanted_not rfl rfl rfl rfl) ?_
        refine Wk.sl_v rfl rfl (Wk.wanted_none rfl) (fun a ha => Wk.x_pick_t (ha.ev rfl) (ha.ev rfl)) ?_
        refine Wk.sl_nil ?_
        exact Wk.nx_to fun a ha => ⟨true, ha.weaken (Wk.sub.cons rfl (Wk.sub.cons rfl (Wk.sub.cons rfl (Wk.sub.cons rfl (Wk.sub.cons rfl (Wk.sub.cons rfl (Wk.sub.nil))))))), H⟩
      · replace H := H.2 hb
        refine Wk.sl_v rfl rfl (Wk.wanted_none rfl) (fun a ha => Wk.o_f (Wk.x_move (ha.ev rfl)) hb) ?_
        refine Wk.sl_v rfl rfl (Wk.wanted_some rfl rfl rfl) (fun a ha => Wk.x_move (ha.ev rfl)) ?_
        refine Wk.sl_call rfl rfl (Wk.wanted_some rfl rfl rfl) (fun a ha => Wk.x_call0 (ha.ev rfl) (ha.evs rfl) FF.callable_arbiterlaw13_no) H ?_
        rintro _ w8 ⟨x6, rfl, H⟩
        refine Wk.sl_v rfl rfl (Wk.wanted_some rfl rfl rfl) (fun a ha => Wk.x_binOp (ha.ev rfl) (ha.ev rfl) Wk.o_neq) ?_
        refine Wk.sl_v rfl rfl (Wk.wanted_none rfl) (fun a ha => Wk.x_pick_f (ha.ev rfl) (ha.ev rfl)) ?_
        rcases Classical.em (x6 ≠ 0) with hb | hb
        · replace H := H.1 hb
          refine Wk.sl_v rfl rfl (Wk.wanted_none rfl) (fun a ha => Wk.o_t (Wk.x_move (ha.ev rfl)) hb) ?_
          refine Wk.sl_skip rfl rfl (Wk.wanted_not rfl rfl rfl rfl) ?_
          refine Wk.sl_skip rfl rfl (Wk.wanted_not rfl rfl rfl rfl) ?_
          refine Wk.sl_skip rfl rfl (Wk.wanted_not rfl rfl rfl rfl) ?_
          refine Wk.sl_v rfl rfl (Wk.wanted_none rfl) (fun a ha => Wk.x_pick_t (ha.ev rfl) (ha.ev rfl)) ?_
          refine Wk.sl_nil ?_
          exact Wk.nx_to fun a ha => ⟨true, ha.weaken (Wk.sub.cons rfl (Wk.sub.cons rfl (Wk.sub.cons rfl (Wk.sub.cons rfl (Wk.sub.cons rfl (Wk.sub.cons rfl (Wk.sub.nil))))))), H⟩
        · replace H := H.2 hb
          refine Wk.sl_v rfl rfl (Wk.wanted_none rfl) (fun a ha => Wk.o_f (Wk.x_move (ha.ev rfl)) hb) ?_
          refine Wk.sl_v rfl rfl (Wk.wanted_some rfl rfl rfl) (fun a ha => Wk.x_move (ha.ev rfl)) ?_
          refine Wk.sl_call rfl rfl (Wk.wanted_some rfl rfl rfl) (fun a ha => Wk.x_call0 (ha.ev rfl) (ha.evs rfl) FF.callable_arbiterlaw13_no) H ?_
          rintro _ w9 ⟨x7, rfl, H⟩
          refine Wk.sl_v rfl rfl (Wk.wanted_some rfl rfl rfl) (fun a ha => Wk.x_binOp (ha.ev rfl) (ha.ev rfl) Wk.o_neq) ?_
          refine Wk.sl_v rfl rfl (Wk.wanted_none rfl) (fun a ha => Wk.x_pick_f (ha.ev rfl) (ha.ev rfl)) ?_
          refine Wk.sl_nil ?_
          exact Wk.nx_to fun a ha => ⟨(decide (x7 ≠ 0)), ha.weaken (Wk.sub.cons rfl (Wk.sub.cons rfl (Wk.sub.cons rfl (Wk.sub.cons rfl (Wk.sub.cons rfl (Wk.sub.cons rfl (Wk.sub.nil))))))), H⟩
end Go.Proofs.Ytnbakpoahcndpaa
