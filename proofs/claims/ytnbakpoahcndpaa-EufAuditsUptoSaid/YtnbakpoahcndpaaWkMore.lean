/- Further lemmas of the program logic. -/
import Derived.Test.YtnbakpoahcndpaaWkOps
import Derived.Test.YtnbakpoahcndpaaWkAny
set_option linter.unusedVariables false
set_option linter.unusedSimpArgs false
namespace Go.Proofs.Ytnbakpoahcndpaa
namespace Wk
/-- A new block. -/
structure New (w : World) (o : Obj) (p : Addr) (w' : World) : Prop where
  at_ : p = ⟨w.heap.size, 0, none⟩
  is : w' = w.alloc o
/-- A new map. -/
structure NewM (w : World) (m : Nat) (w' : World) : Prop where
  at_ : m = w.heap.size
  is : w' = w.alloc (.map #[] 0)
theorem Drawn.cells {w w' : World} (h : Drawn w w') {p : Addr} {vs : List Value} (k : CellsAt w p vs) : CellsAt w' p vs := fun j v hv => (h.cell _).trans (k j v hv)
/-- The blocks that stand in w are as they were, but those of X. -/
structure Keep (X : Nat → Prop) (w w' : World) : Prop where
  size : w.heap.size ≤ w'.heap.size
  os : w'.os = w.os
  tape : w'.tape = w.tape
  output : w'.output = w.output
  block : ∀ b, b < w.heap.size → ¬ X b → w'.heap[b]? = w.heap[b]?
theorem Keep.refl (X : Nat → Prop) (w : World) : Keep X w w := ⟨Nat.le_refl _, rfl, rfl, rfl, fun _ _ _ => rfl⟩
theorem Keep.trans {X : Nat → Prop} {a b c : World} (h : Keep X a b) (k : Keep X b c) : Keep X a c :=
  ⟨Nat.le_trans h.size k.size, k.os.trans h.os, k.tape.trans h.tape, k.output.trans h.output, fun i hi hx => (k.block i (Nat.lt_of_lt_of_le hi h.size) hx).trans (h.block i hi hx)⟩
theorem Keep.drawn {X : Nat → Prop} {a b c : World} (h : Keep X a b) (k : Drawn b c) : Keep X a c :=
  ⟨by rw [k.heap]; exact h.size, k.os.trans h.os, k.tape.trans h.tape, k.output.trans h.output, fun i hi hx => by rw [k.heap]; exact h.block i hi hx⟩
theorem Keep.mono {X Y : Nat → Prop} {a b : World} (h : Keep X a b) (k : ∀ i, i < a.heap.size → X i → Y i) : Keep Y a b :=
  ⟨h.size, h.os, h.tape, h.output, fun i hi hy => h.block i hi fun hx => hy (k i hi hx)⟩
theorem Keep.cell {X : Nat → Prop} {w w' : World} (h : Keep X w w') {p : Addr} {v : Value} (k : w.cell? p = some v ∧ ¬ X p.block) : w'.cell? p = some v :=
  (World.cell?_of_block (h.block p.block (World.block_lt_of_cell? w p k.1) k.2)).trans k.1
theorem Keep.cells {X : Nat → Prop} {w w' : World} (h : Keep X w w') {p : Addr} {vs : List Value} (k : CellsAt w p vs ∧ ¬ X p.block) : CellsAt w' p vs := fun j v hv =>
  h.cell ⟨k.1 j v hv, by have : (p.add j).block = p.block := by (unfold Addr.add; split <;> rfl)
                         rw [this]; exact k.2⟩
theorem Keep.alloc {X : Nat → Prop} {a b : World} (h : Keep X a b) (o : Obj) : Keep X a (b.alloc o) :=
  h.trans ⟨by simp, rfl, rfl, rfl, fun i hi _ => heap_alloc_old b o i hi⟩
theorem Keep.new {X : Nat → Prop} {a b c : World} {o : Obj} {p : Addr} (h : Keep X a b) (k : New b o p c) : Keep X a c := by rw [k.is]; exact h.alloc o
theorem Keep.newm {X : Nat → Prop} {a b c : World} {m : Nat} (h : Keep X a b) (k : NewM b m c) : Keep X a c := by rw [k.is]; exact h.alloc _
theorem Keep.of_drawn {X : Nat → Prop} {a b : World} (h : Drawn a b) : Keep X a b := Keep.drawn (Keep.refl X a) h
theorem tf (b : Bool) : b = true ∨ b = false := by cases b <;> simp
section
variable {P : Program} {w w' : World} {ρ : Operand → Value} {d : Option Tmp} {ty : TypeId} {pos : String} {af : Array Edge} {g : Option (Nat × Bool)} {u v : Value} {x y z : Operand} {o : Oper}
theorem o_t {p : Prop} [Decidable p] (hr : (execOp ρ o).run P w = .ok (.value (.bool (decide p))) w') (h : p) : (execOp ρ o).run P w = .ok (.value (.bool true)) w' := by rw [hr, decide_eq_true h]
theorem o_f {p : Prop} [Decidable p] (hr : (execOp ρ o).run P w = .ok (.value (.bool (decide p))) w') (h : ¬ p) : (execOp ρ o).run P w = .ok (.value (.bool false)) w' := by rw [hr, decide_eq_false h]
theorem o_bt {b : Bool} (hr : (execOp ρ o).run P w = .ok (.value (.bool b)) w') (h : b = true) : (execOp ρ o).run P w = .ok (.value (.bool true)) w' := by rw [hr, h]
theorem o_bf {b : Bool} (hr : (execOp ρ o).run P w = .ok (.value (.bool b)) w') (h : b = false) : (execOp ρ o).run P w = .ok (.value (.bool false)) w' := by rw [hr, h]
theorem u_not_p {p : Prop} [Decidable p] : (Op.unary .not (.bool (decide p))).run P w = .ok (.bool (decide (¬ p))) w := by simp [Op.unary]
theorem x_call0 {f : FuncId} {xs : List Operand} {ts : Array TypeId} {vs : List Value} (hf : ρ x = .func (.func f) #[] #[]) (ha : xs.map ρ = vs) (hc : callable P f = true) :
    (execOp ρ ⟨d, .call ⟨.value x, xs.toArray, ts⟩, ty, pos, af, g⟩).run P w = .ok (.enter f vs.toArray) w := by
  have := x_call (P := P) (w := w) (d := d) (ty := ty) (pos := pos) (af := af) (g := g) (ts := ts) hf ha hc
  simpa using this
theorem x_callc {f : FuncId} {xs : List Operand} {ts : Array TypeId} {vs cs xs' : List Value} (hf : ρ x = .func (.func f) #[] cs.toArray) (ha : xs.map ρ = vs) (he : vs ++ cs = xs') (hc : callable P f = true) :
    (execOp ρ ⟨d, .call ⟨.value x, xs.toArray, ts⟩, ty, pos, af, g⟩).run P w = .ok (.enter f xs'.toArray) w := by
  have := x_call (P := P) (w := w) (d := d) (ty := ty) (pos := pos) (af := af) (g := g) (ts := ts) hf ha hc
  rw [this, ← he]
  simp
theorem x_callv {f : FuncId} {xs : List Operand} {ts : Array TypeId} {vs cs : List Value} (hf : ρ x = .func (.func f) #[] cs.toArray) (ha : xs.map ρ = vs) (hc : callable P f = true) :
    (execOp ρ ⟨d, .call ⟨.value x, xs.toArray, ts⟩, ty, pos, af, g⟩).run P w = .ok (.enter f (vs ++ cs).toArray) w := x_callc hf ha rfl hc
theorem x_buildP {t : TypeId} {ps : List (Nat × Operand)} {qs : List (Nat × Value)} (hx : ps.map (fun p => (p.1, ρ p.2)) = qs) (hs : (Instr.build t qs.toArray).run P w = .ok u w) : (execOp ρ ⟨d, .build t ps.toArray, ty, pos, af, g⟩).run P w = .ok (.value u) w := x_build hx hs
theorem x_fieldP {t : TypeId} {f : Nat} (hx : ρ x = v) (hs : (Instr.field t v f).run P w = .ok u w) : (execOp ρ ⟨d, .field t x f, ty, pos, af, g⟩).run P w = .ok (.value u) w := x_field hx hs
theorem om_some {a : Operand} {v : Value} (h : ρ a = v) : Option.map ρ (some a) = some v := by simp [h]
theorem bi_append {ts : Array TypeId} {vs : Array Value} {cs : Array Bool} (h : (Builtin.append_ ts ty vs).run P w = .ok u w') : (builtin .append ts ty cs vs).run P w = .ok (.value u) w' := by simp [builtin, h]
theorem bi_delete {ts : Array TypeId} {vs : Array Value} {cs : Array Bool} (h : (Builtin.delete_ ts ty vs).run P w = .ok u w') : (builtin .delete ts ty cs vs).run P w = .ok (.value u) w' := by simp [builtin, h]
theorem bi_copy {ts : Array TypeId} {vs : Array Value} {cs : Array Bool} (h : (Builtin.copy_ ts ty vs).run P w = .ok u w') : (builtin .copy ts ty cs vs).run P w = .ok (.value u) w' := by simp [builtin, h]
theorem bi_clear {ts : Array TypeId} {vs : Array Value} {cs : Array Bool} (h : (Builtin.clear_ ts ty vs).run P w = .ok u w') : (builtin .clear ts ty cs vs).run P w = .ok (.value u) w' := by simp [builtin, h]
theorem i_makeMap {t : TypeId} : (Instr.makeMap t none).run P w = .ok (.map (some w.heap.size)) (w.alloc (.map #[] 0)) := by simp [Instr.makeMap]
variable {A : Option Addr} {n c s : Nat} {t e : TypeId} {i j : Int} {k k' : IntKind}
theorem i_slice_all (ht : elemT P t = some e) (hs : sizeN P e = some s) : (Instr.sliceAt t (.slice A n c) none none none).run P w = .ok (.slice A n c) w := by
  have := i_slice (P := P) (w := w) (A := A) ht hs (b_all (P := P) (w := w) (n := n) (c := c))
  have e1 : subA A c 0 s = A := by unfold subA; split <;> simp [Addr.add]
  simpa [e1] using this
theorem i_slice_h (ht : elemT P t = some e) (hs : sizeN P e = some s) (h0 : 0 ≤ i) (h1 : i ≤ c) : (Instr.sliceAt t (.slice A n c) none (some (.int k i)) none).run P w = .ok (.slice A i.toNat c) w := by
  have := i_slice (P := P) (w := w) (A := A) ht hs (b_hi (P := P) (w := w) (n := n) (k := k) h0 h1)
  have e1 : subA A c 0 s = A := by unfold subA; split <;> simp [Addr.add]
  simpa [e1] using this
theorem i_slice_l (ht : elemT P t = some e) (hs : sizeN P e = some s) (h0 : 0 ≤ i) (h1 : i ≤ n) : (Instr.sliceAt t (.slice A n c) (some (.int k i)) none none).run P w = .ok (.slice (subA A c i.toNat s) (n - i.toNat) (c - i.toNat)) w :=
  i_slice ht hs (b_lo h0 h1)
theorem i_slice_lh (ht : elemT P t = some e) (hs : sizeN P e = some s) (h0 : 0 ≤ i) (h1 : i ≤ j) (h2 : j ≤ c) : (Instr.sliceAt t (.slice A n c) (some (.int k i)) (some (.int k' j)) none).run P w = .ok (.slice (subA A c i.toNat s) (j.toNat - i.toNat) (c - i.toNat)) w :=
  i_slice ht hs (b_lohi h0 h1 h2)
theorem i_slice3 {m : Int} {k'' : IntKind} (ht : elemT P t = some e) (hs : sizeN P e = some s) (h0 : 0 ≤ i) (h1 : i ≤ m) (h2 : m ≤ c) : (Instr.sliceAt t (.slice A n c) none (some (.int k i)) (some (.int k'' m))).run P w = .ok (.slice (subA A m.toNat 0 s) i.toNat m.toNat) w := by
  have hb : (Instr.sliceBounds true n c none (some (.int k i)) (some (.int k'' m))).run P w = .ok (0, i.toNat, m.toNat) w := by
    simp [Instr.sliceBounds, b_bound (P := P) (w := w) (show 0 ≤ m by omega) h2, b_bound (P := P) (w := w) h0 (show i ≤ (m.toNat : Int) by omega)]
  simp [Instr.sliceAt, Instr.slice, underlying, elem_under ht, size_run hs, hb, subA]
theorem i_slice3l {m l : Int} {k'' : IntKind} (ht : elemT P t = some e) (hs : sizeN P e = some s) (hl : 0 ≤ l) (h0 : l ≤ i) (h1 : i ≤ m) (h2 : m ≤ c) : (Instr.sliceAt t (.slice A n c) (some (.int k' l)) (some (.int k i)) (some (.int k'' m))).run P w = .ok (.slice (subA A m.toNat l.toNat s) (i.toNat - l.toNat) (m.toNat - l.toNat)) w := by
  have hb : (Instr.sliceBounds true n c (some (.int k' l)) (some (.int k i)) (some (.int k'' m))).run P w = .ok (l.toNat, i.toNat, m.toNat) w := by
    simp [Instr.sliceBounds, b_bound (P := P) (w := w) (show 0 ≤ m by omega) h2, b_bound (P := P) (w := w) (show 0 ≤ i by omega) (show i ≤ (m.toNat : Int) by omega), b_bound (P := P) (w := w) hl (show l ≤ (i.toNat : Int) by omega)]
  simp [Instr.sliceAt, Instr.slice, underlying, elem_under ht, size_run hs, hb, subA]
theorem l_min {ts : Array TypeId} {cs : Array Bool} : (builtin .min ts ty cs #[.int k i, .int k j]).run P w = .ok (.value (.int k (if j < i then j else i))) w := by
  simp [builtin, Builtin.min_, Builtin.min2]
theorem l_max {ts : Array TypeId} {cs : Array Bool} : (builtin .max ts ty cs #[.int k i, .int k j]).run P w = .ok (.value (.int k (if i < j then j else i))) w := by
  simp [builtin, Builtin.max_, Builtin.max2]
theorem cv_int {a b : TypeId} (ha : P.underlying a = some (.int k)) (hb : P.underlying b = some (.int k')) : (convert a b (.int k i)).run P w = .ok (.int k' (k'.wrap i)) w := by
  simp [convert, underlying, ha, hb, Conv.intToInt]
theorem eqIn_bool {a b : Bool} (m : Nat) (ht : P.underlying t = some .bool) : (Op.equalIn (m + 1) t (.bool a) (.bool b)).run P w = .ok (a == b) w := by simp [Op.equalIn, underlying, ht]
theorem eqIn_nil {p : Option Addr} (m : Nat) (ht : ∃ e, P.underlying t = some (.pointer e)) : (Op.equalIn (m + 1) t (.pointer p) (.pointer none)).run P w = .ok p.isNone w := by
  obtain ⟨e, ht⟩ := ht
  cases p <;> simp [Op.equalIn, underlying, ht]
theorem eqIn_slnil (m : Nat) (ht : elemT P t = some e) : (Op.equalIn (m + 1) t (.slice A n c) (.slice none 0 0)).run P w = .ok A.isNone w := by
  cases A <;> simp [Op.equalIn, underlying, elem_under ht]
theorem eq_run {a b : Value} {r : Bool} (hb : binOp .eql t a b = do pure (.bool (← Op.equal t a b))) (h : ∀ m, (Op.equalIn (m + 1) t a b).run P w = .ok r w) (hg : (eqGuard .eql t x y a b).run P w = .ok () w) :
    (do eqGuard .eql t x y a b; binOp .eql t a b : Sem Value).run P w = .ok (.bool r) w := eqg hg (by
  rw [hb, Sem.run_bind]
  show ((Op.equalIn (9999 + 1) t a b).run P w).andThen _ = _
  rw [h]; rfl)
theorem ne_run {a b : Value} {r : Bool} (hb : binOp .neq t a b = do pure (.bool (!(← Op.equal t a b)))) (h : ∀ m, (Op.equalIn (m + 1) t a b).run P w = .ok r w) (hg : (eqGuard .neq t x y a b).run P w = .ok () w) :
    (do eqGuard .neq t x y a b; binOp .neq t a b : Sem Value).run P w = .ok (.bool (!r)) w := eqg hg (by
  rw [hb, Sem.run_bind]
  show ((Op.equalIn (9999 + 1) t a b).run P w).andThen _ = _
  rw [h]; rfl)
theorem o_eql_bool {a b : Bool} (ht : P.underlying t = some .bool) : (do eqGuard .eql t x y (.bool a) (.bool b); binOp .eql t (.bool a) (.bool b) : Sem Value).run P w = .ok (.bool (decide (a = b))) w := by
  rw [eq_run rfl (fun m => eqIn_bool m ht) g_bool]; cases a <;> cases b <;> rfl
theorem o_neq_bool {a b : Bool} (ht : P.underlying t = some .bool) : (do eqGuard .neq t x y (.bool a) (.bool b); binOp .neq t (.bool a) (.bool b) : Sem Value).run P w = .ok (.bool (decide (a ≠ b))) w := by
  rw [ne_run rfl (fun m => eqIn_bool m ht) g_bool]; cases a <;> cases b <;> rfl
theorem o_eql_nil {p : Option Addr} (ht : ∃ e, P.underlying t = some (.pointer e)) : (do eqGuard .eql t x y (.pointer p) (.pointer none); binOp .eql t (.pointer p) (.pointer none) : Sem Value).run P w = .ok (.bool (decide (p = none))) w := by
  rw [eq_run rfl (fun m => eqIn_nil m ht) g_ptr]; cases p <;> rfl
theorem o_neq_nil {p : Option Addr} (ht : ∃ e, P.underlying t = some (.pointer e)) : (do eqGuard .neq t x y (.pointer p) (.pointer none); binOp .neq t (.pointer p) (.pointer none) : Sem Value).run P w = .ok (.bool (decide (p ≠ none))) w := by
  rw [ne_run rfl (fun m => eqIn_nil m ht) g_ptr]; cases p <;> rfl
theorem o_eql_slnil (ht : elemT P t = some e) : (do eqGuard .eql t x y (.slice A n c) (.slice none 0 0); binOp .eql t (.slice A n c) (.slice none 0 0) : Sem Value).run P w = .ok (.bool (decide (A = none))) w := by
  rw [eq_run rfl (fun m => eqIn_slnil m ht) g_slice]; cases A <;> rfl
theorem o_neq_slnil (ht : elemT P t = some e) : (do eqGuard .neq t x y (.slice A n c) (.slice none 0 0); binOp .neq t (.slice A n c) (.slice none 0 0) : Sem Value).run P w = .ok (.bool (decide (A ≠ none))) w := by
  rw [ne_run rfl (fun m => eqIn_slnil m ht) g_slice]; cases A <;> rfl
theorem o_eql_some {p : Addr} (ht : ∃ e, P.underlying t = some (.pointer e)) : (do eqGuard .eql t x y (.pointer (some p)) (.pointer none); binOp .eql t (.pointer (some p)) (.pointer none) : Sem Value).run P w = .ok (.bool false) w := by
  simpa using o_eql_nil (x := x) (y := y) (w := w) (p := some p) ht
theorem o_neq_some {p : Addr} (ht : ∃ e, P.underlying t = some (.pointer e)) : (do eqGuard .neq t x y (.pointer (some p)) (.pointer none); binOp .neq t (.pointer (some p)) (.pointer none) : Sem Value).run P w = .ok (.bool true) w := by
  simpa using o_neq_nil (x := x) (y := y) (w := w) (p := some p) ht
theorem l_str {s : ByteArray} {cs : Array Bool} (ht : P.underlying t = some .string) : (builtin .len #[t] ty cs #[.string s]).run P w = .ok (.value (.int .i64 s.size)) w := by
  simp [builtin, Builtin.len_, underlying, ht, goInt]
end
section
variable {P : Program} {ops : Array Oper} {Q : Exit → Act → World → Prop} {n : Nat} {e : Env} {w : World}
theorem wanted_undef {o : Oper} {j s : Nat} {b : Bool} (hg : o.guard = some (j, b)) (hs : (ops[j]?).bind (·.dst) = some s) (hb : look e s = some undef) : ∀ a, Ok n e a → Region.wanted o (yielded ops a.tmps) = false := fun a ha => by
  have := ha.look s _ hb
  simp [Region.wanted, hg, yielded, hs, this, undef]
theorem sl_un {rest : List Oper} {o : Oper} {w' : World} (hd : o.dst = none) (hw : ∀ a, Ok n e a → Region.wanted o (yielded ops a.tmps) = true)
    (hr : ∀ a, Ok n e a → (execOp a.eval o).run P w = .ok .skip w') (h : ∀ w2, w2 = w' → SL P ops Q rest n e w2) : SL P ops Q (o :: rest) n e w := sl_u hd hw hr (h _ rfl)
theorem aw_un {pu rd : List Nat} {H : World → Prop} {D : World → World → Prop} {fu : Nat} {l l' : Array Bool} {i : Nat} {oi : Oper} {w1 : World} (hi : ops[i]? = some oi) (hd : oi.dst = none) (hw : ∀ a, Ok n e a → Region.wanted oi (yielded ops a.tmps) = true)
    (hy : ∀ a, Ok n e a → (execOp a.eval oi).run P w = .ok .skip w1) (hl : l.setIfInBounds i true = l') (b : Bool) (hn : awB ops pu rd i b = true)
    (h : ∀ w2, w2 = w1 → ∀ w', D w2 w' → (b = true → H w') ∧ AN P ops Q pu rd H D fu l' n e w') : AW P ops Q pu rd H D fu l n e w i := aw_u hi hd hw hy hl b hn (h _ rfl)
theorem an_end {pu rd : List Nat} {H : World → Prop} {D : World → World → Prop} {fu : Nat} {l : Array Bool} {w0 : World} (hr : Region.ready .any ops l = []) (hW : Drawn w0 w) (h : ∀ w2, Drawn w0 w2 → NX Q .normal n e w2) : AN P ops Q pu rd H D fu l n e w := an_done hr (h _ hW)
theorem cw_join_still {x y : Code} (R : Act → Prop) (hy : ∀ a, R a → y.wp P Q a w) (h : CW P x (Exit.then (fun a w' => R a ∧ w' = w) Q) n e w) : CW P (Code.seq x y) Q n e w :=
  cw_join (fun a w' => R a ∧ w' = w) (fun a w' ⟨hR, hw⟩ => by subst hw; exact hy a hR) h
/-- A new block; its address is known by what it is alone. -/
theorem sl_new {rest : List Oper} {o : Oper} {d : Nat} {f : Addr → Value} {ob : Obj} (hd : o.dst = some d) (hlt : Nat.blt d n = true) (hw : ∀ a, Ok n e a → Region.wanted o (yielded ops a.tmps) = true)
    (hr : ∀ a, Ok n e a → (execOp a.eval o).run P w = .ok (.value (f ⟨w.heap.size, 0, none⟩)) (w.alloc ob)) (h : ∀ p w', New w ob p w' → SL P ops Q rest n ((d, f p) :: e) w') : SL P ops Q (o :: rest) n e w :=
  sl_v hd hlt hw hr (h _ _ ⟨rfl, rfl⟩)
theorem sl_newm {rest : List Oper} {o : Oper} {d : Nat} (hd : o.dst = some d) (hlt : Nat.blt d n = true) (hw : ∀ a, Ok n e a → Region.wanted o (yielded ops a.tmps) = true)
    (hr : ∀ a, Ok n e a → (execOp a.eval o).run P w = .ok (.value (.map (some w.heap.size))) (w.alloc (.map #[] 0))) (h : ∀ p w', NewM w p w' → SL P ops Q rest n ((d, .map (some p)) :: e) w') : SL P ops Q (o :: rest) n e w :=
  sl_v hd hlt hw hr (h _ _ ⟨rfl, rfl⟩)
theorem aw_new {pu rd : List Nat} {H : World → Prop} {D : World → World → Prop} {fu : Nat} {l l' : Array Bool} {i d : Nat} {oi : Oper} {f : Addr → Value} {ob : Obj} (hi : ops[i]? = some oi) (hd : oi.dst = some d) (hlt : Nat.blt d n = true) (hw : ∀ a, Ok n e a → Region.wanted oi (yielded ops a.tmps) = true)
    (hy : ∀ a, Ok n e a → (execOp a.eval oi).run P w = .ok (.value (f ⟨w.heap.size, 0, none⟩)) (w.alloc ob)) (hl : l.setIfInBounds i true = l') (b : Bool) (hn : awB ops pu rd i b = true)
    (h : ∀ p w1, New w ob p w1 → ∀ w', D w1 w' → (b = true → H w') ∧ AN P ops Q pu rd H D fu l' n ((d, f p) :: e) w') : AW P ops Q pu rd H D fu l n e w i :=
  aw_v hi hd hlt hw hy hl b hn (h _ _ ⟨rfl, rfl⟩)
theorem aw_newm {pu rd : List Nat} {H : World → Prop} {D : World → World → Prop} {fu : Nat} {l l' : Array Bool} {i d : Nat} {oi : Oper} (hi : ops[i]? = some oi) (hd : oi.dst = some d) (hlt : Nat.blt d n = true) (hw : ∀ a, Ok n e a → Region.wanted oi (yielded ops a.tmps) = true)
    (hy : ∀ a, Ok n e a → (execOp a.eval oi).run P w = .ok (.value (.map (some w.heap.size))) (w.alloc (.map #[] 0))) (hl : l.setIfInBounds i true = l') (b : Bool) (hn : awB ops pu rd i b = true)
    (h : ∀ p w1, NewM w p w1 → ∀ w', D w1 w' → (b = true → H w') ∧ AN P ops Q pu rd H D fu l' n ((d, .map (some p)) :: e) w') : AW P ops Q pu rd H D fu l n e w i :=
  aw_v hi hd hlt hw hy hl b hn (h _ _ ⟨rfl, rfl⟩)
/-- A loop that leaves the world alone. -/
theorem cw_loop_still {c : Code} (I : Nat → Act → Prop) (h0 : ∀ a, Ok n e a → ∃ m, I m a)
    (round : ∀ m a, I m a → c.wp P (Exit.then (fun a' w' => ∃ m', m' < m ∧ I m' a' ∧ w' = w) Q) a w) : CW P (Code.loop c) Q n e w :=
  cw_loop (fun m a w' => I m a ∧ w' = w) (fun a ha => let ⟨m, hm⟩ := h0 a ha; ⟨m, hm, rfl⟩) fun m a w' ⟨hI, hw⟩ => by
    subst hw
    exact round m a hI
theorem nx_to_still {I : Nat → Act → Prop} {w0 : World} {m : Nat} (h : ∀ a, Ok n e a → ∃ m', m' < m ∧ I m' a) : NX (Exit.then (fun a' w' => ∃ m', m' < m ∧ I m' a' ∧ w' = w0) Q) .normal n e w0 := fun a ha =>
  let ⟨m', h1, h2⟩ := h a ha
  ⟨m', h1, h2, rfl⟩
/-- The begin of a drawn region in which no write may come ahead of a read. -/
theorem cw_any_drawn {id : Nat} {l : Array Bool} (hm : P.follows .mixedOrders = true) (pu rd : List Nat) (sz : Nat) (hs : ops.size = sz) (hl : Array.replicate sz false = l) (hsel : Region.noSelect ops = true)
    (hQ : ∀ c a d v w, Q (.panic c) (Act.put a d v) w → Q (.panic c) a w)
    (h : Calm P ops Q (Drawn w) Drawn → Drawn w w.drew → Drawn w w.drew → AN P ops Q pu rd (Drawn w) Drawn sz l n e w.drew) : CW P (Code.region id ops true) Q n e w :=
  cw_any hm pu rd (Drawn w) Drawn Drawn.refl sz hs hl (h ⟨hsel, hQ, Drawn.refl, fun _ _ _ => Drawn.trans, fun _ _ => Drawn.trans⟩ (Drawn.drew w) (Drawn.drew w))
/-- The same where a write may come ahead of a read: the blocks of X alone are written meanwhile. -/
theorem cw_any_keep {id : Nat} {l : Array Bool} (hm : P.follows .mixedOrders = true) (X : Nat → Prop) (pu rd : List Nat) (sz : Nat) (hs : ops.size = sz) (hl : Array.replicate sz false = l) (hsel : Region.noSelect ops = true)
    (hQ : ∀ c a d v w, Q (.panic c) (Act.put a d v) w → Q (.panic c) a w)
    (h : Calm P ops Q (Keep X w) Drawn → Keep X w w.drew → Drawn w w.drew → AN P ops Q pu rd (Keep X w) Drawn sz l n e w.drew) : CW P (Code.region id ops true) Q n e w :=
  cw_any hm pu rd (Keep X w) Drawn Drawn.refl sz hs hl (h ⟨hsel, hQ, Drawn.refl, fun _ _ _ => Drawn.trans, fun _ _ => Keep.drawn⟩ (Keep.drawn (Keep.refl X w) (Drawn.drew w)) (Drawn.drew w))
end
end Wk
end Go.Proofs.Ytnbakpoahcndpaa
