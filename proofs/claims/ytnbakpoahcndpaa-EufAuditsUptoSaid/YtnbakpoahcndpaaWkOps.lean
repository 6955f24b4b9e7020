/- One lemma for each kind of operation: what it yields, out of what its operands are. -/
import Derived.Test.YtnbakpoahcndpaaWk
set_option linter.unusedVariables false
set_option linter.unusedSimpArgs false
namespace Go.Proofs.Ytnbakpoahcndpaa
namespace Wk
/-! ### Memory -/
/-- These values lie in a row from p on. -/
def CellsAt (w : World) (p : Addr) (vs : List Value) : Prop := ∀ j v, vs[j]? = some v → w.cell? (p.add j) = some v
/-- May be written. -/
def Soft (w : World) (p : Addr) (k : Nat) : Prop := ∀ j, j < k → (w.cell? (p.add j)).isSome = true ∧ w.frozen? (p.add j) = false
def setCellsFrom (w : World) (p : Addr) : Nat → List Value → World
  | _, [] => w
  | i, v :: vs => setCellsFrom (w.setCell (p.add i) v) p (i + 1) vs
def setCellsAt (w : World) (p : Addr) (vs : List Value) : World := setCellsFrom w p 0 vs
/-- Whether a type is a struct or an array. -/
def aggB (P : Program) (t : TypeId) : Option Bool := (P.underlying t).map fun | .struct _ | .array _ _ => true | _ => false
def sizeN (P : Program) (t : TypeId) : Option Nat := (P.info? t).map (·.size)
def callable (P : Program) (f : FuncId) : Bool := match P.funcs[f]? with | some fn => fn.name != "runtime.NumGoroutine" && fn.body.isSome | none => false
def evs (e : Env) : List Operand → Option (List Value)
  | [] => some []
  | x :: xs => match ev e x, evs e xs with | some v, some vs => some (v :: vs) | _, _ => none
theorem Ok.evs {n : Nat} {e : Env} {a : Act} (h : Ok n e a) : ∀ {xs : List Operand} {vs : List Value}, evs e xs = some vs → xs.map a.eval = vs
  | [], vs, hx => by simp only [Wk.evs, Option.some.injEq] at hx; subst hx; rfl
  | x :: xs, vs, hx => by
    simp only [Wk.evs] at hx
    split at hx
    · rename_i v us h1 h2
      simp only [Option.some.injEq] at hx
      subst hx
      simp [h.ev h1, h.evs h2]
    · cases hx

section
variable {P : Program} {w w' : World} {ρ : Operand → Value} {d : Option Tmp} {ty : TypeId} {pos : String} {af : Array Edge} {g : Option (Nat × Bool)} {u v : Value} {x y z : Operand}
theorem x_move (hx : ρ x = v) : (execOp ρ ⟨d, .move x, ty, pos, af, g⟩).run P w = .ok (.value v) w := by simp [execOp, hx]
theorem x_assign (hx : ρ x = v) : (execOp ρ ⟨d, .assign x, ty, pos, af, g⟩).run P w = .ok (.value v) w := by simp [execOp, hx]
theorem x_pick {b : Bool} (hc : ρ x = .bool b) (hv : (if b then ρ y else ρ z) = v) : (execOp ρ ⟨d, .pick x y z, ty, pos, af, g⟩).run P w = .ok (.value v) w := by
  simp only [execOp, hc, asBool]
  simp only [Sem.run_bind, Sem.run_pure, Result.andThen_ok, hv]
theorem x_pick_t (hc : ρ x = .bool true) (hv : ρ y = v) : (execOp ρ ⟨d, .pick x y z, ty, pos, af, g⟩).run P w = .ok (.value v) w := x_pick hc (by simpa using hv)
theorem x_pick_f (hc : ρ x = .bool false) (hv : ρ z = v) : (execOp ρ ⟨d, .pick x y z, ty, pos, af, g⟩).run P w = .ok (.value v) w := x_pick hc (by simpa using hv)
theorem x_alloc {t : TypeId} (hs : (Instr.alloc t true (.tuple #[])).run P w = .ok u w') : (execOp ρ ⟨d, .alloc t, ty, pos, af, g⟩).run P w = .ok (.value u) w' := by simp [execOp, hs]
theorem x_box {t : TypeId} (hx : ρ x = v) (hs : (Instr.box t v).run P w = .ok u w') : (execOp ρ ⟨d, .box t x, ty, pos, af, g⟩).run P w = .ok (.value u) w' := by simp [execOp, hx, hs]
theorem x_build {t : TypeId} {ps : List (Nat × Operand)} {qs : List (Nat × Value)} (hx : ps.map (fun p => (p.1, ρ p.2)) = qs) (hs : (Instr.build t qs.toArray).run P w = .ok u w') : (execOp ρ ⟨d, .build t ps.toArray, ty, pos, af, g⟩).run P w = .ok (.value u) w' := by
  have : (ps.toArray.map fun x => (x.fst, ρ x.snd)) = qs.toArray := by rw [← hx]; simp
  simp [execOp, this, hs]
theorem x_buildSlice {t : TypeId} {l : Nat} {ps : List (Nat × Operand)} {qs : List (Nat × Value)} (hx : ps.map (fun p => (p.1, ρ p.2)) = qs) (hs : (Instr.buildSlice t l qs.toArray).run P w = .ok u w') : (execOp ρ ⟨d, .buildSlice t l ps.toArray, ty, pos, af, g⟩).run P w = .ok (.value u) w' := by
  have : (ps.toArray.map fun x => (x.fst, ρ x.snd)) = qs.toArray := by rw [← hx]; simp
  simp [execOp, this, hs]
theorem x_load {t : TypeId} (hx : ρ x = v) (hs : (Instr.loadAt t v).run P w = .ok u w') : (execOp ρ ⟨d, .load t x, ty, pos, af, g⟩).run P w = .ok (.value u) w' := by simp [execOp, hx, hs]
theorem x_store {t : TypeId} (hx : ρ x = v) (hy : ρ y = u) (hs : (Instr.storeAt t v u).run P w = .ok () w') : (execOp ρ ⟨d, .store t x y, ty, pos, af, g⟩).run P w = .ok .skip w' := by simp [execOp, hx, hy, hs]
theorem x_nilCheck_ptr {p : Addr} (hx : ρ x = .pointer (some p)) : (execOp ρ ⟨d, .nilCheck x, ty, pos, af, g⟩).run P w = .ok (.value (.pointer (some p))) w := by simp [execOp, hx]
theorem x_nilCheck_fn {f : FuncId} {fs cs : Array Value} (hx : ρ x = .func (.func f) fs cs) : (execOp ρ ⟨d, .nilCheck x, ty, pos, af, g⟩).run P w = .ok (.value (.func (.func f) fs cs)) w := by simp [execOp, hx]
theorem x_binOp {op : BinOp} {t t' : TypeId} {a b : Value} (hx : ρ x = a) (hy : ρ y = b) (hs : (do eqGuard op t x y a b; binOp op t a b : Sem Value).run P w = .ok u w') : (execOp ρ ⟨d, .binOp op t x y t', ty, pos, af, g⟩).run P w = .ok (.value u) w' := by
  simp only [execOp, hx, hy, Sem.run_bind] at *
  rw [hs]
  simp
theorem x_unOp {op : UnOp} {t : TypeId} (hx : ρ x = v) (hs : (Op.unary op v).run P w = .ok u w') : (execOp ρ ⟨d, .unOp op t x, ty, pos, af, g⟩).run P w = .ok (.value u) w' := by simp [execOp, hx, hs]
theorem x_convert {s t : TypeId} (hx : ρ x = v) (hs : (convert s t v).run P w = .ok u w') : (execOp ρ ⟨d, .convert s t x, ty, pos, af, g⟩).run P w = .ok (.value u) w' := by simp [execOp, hx, hs]
theorem x_makeFunc {fn : Fn} {fs cs : List Operand} {us vs : List Value} (hf : fs.map ρ = us) (hc : cs.map ρ = vs) : (execOp ρ ⟨d, .makeFunc fn fs.toArray cs.toArray, ty, pos, af, g⟩).run P w = .ok (.value (.func fn us.toArray vs.toArray)) w := by
  subst hf; subst hc
  simp [execOp, Instr.makeFunc]
theorem x_makeMap {t : TypeId} (hs : (Instr.makeMap t none).run P w = .ok u w') : (execOp ρ ⟨d, .makeMap t none, ty, pos, af, g⟩).run P w = .ok (.value u) w' := by simp [execOp, hs]
theorem x_makeMap_n {t : TypeId} (hx : ρ x = v) (hs : (Instr.makeMap t (some v)).run P w = .ok u w') : (execOp ρ ⟨d, .makeMap t (some x), ty, pos, af, g⟩).run P w = .ok (.value u) w' := by simp [execOp, hs, hx]
theorem x_makeSlice {t : TypeId} {a b : Value} (hx : ρ x = a) (hy : ρ y = b) (hs : (Instr.makeSlice t a b).run P w = .ok u w') : (execOp ρ ⟨d, .makeSlice t x y, ty, pos, af, g⟩).run P w = .ok (.value u) w' := by simp [execOp, hx, hy, hs]
theorem x_slice {t : TypeId} {lo hi mx : Option Operand} {l h m : Option Value} (hx : ρ x = v) (hl : lo.map ρ = l) (hh : hi.map ρ = h) (hm : mx.map ρ = m) (hs : (Instr.sliceAt t v l h m).run P w = .ok u w') :
    (execOp ρ ⟨d, .slice t x lo hi mx, ty, pos, af, g⟩).run P w = .ok (.value u) w' := by subst hl; subst hh; subst hm; simp [execOp, hx, hs]
theorem x_fieldAddr {t : TypeId} {f : Nat} (hx : ρ x = v) (hs : (Instr.fieldAt t v f).run P w = .ok u w') : (execOp ρ ⟨d, .fieldAddr t x f, ty, pos, af, g⟩).run P w = .ok (.value u) w' := by simp [execOp, hx, hs]
theorem x_field {t : TypeId} {f : Nat} (hx : ρ x = v) (hs : (Instr.field t v f).run P w = .ok u w') : (execOp ρ ⟨d, .field t x f, ty, pos, af, g⟩).run P w = .ok (.value u) w' := by simp [execOp, hx, hs]
theorem x_indexAddr {t : TypeId} {a b : Value} (hx : ρ x = a) (hy : ρ y = b) (hs : (Instr.indexAt t a b).run P w = .ok u w') : (execOp ρ ⟨d, .indexAddr t x y, ty, pos, af, g⟩).run P w = .ok (.value u) w' := by simp [execOp, hx, hy, hs]
theorem x_index {t : TypeId} {a b : Value} (hx : ρ x = a) (hy : ρ y = b) (hs : (Instr.index t a b).run P w = .ok u w') : (execOp ρ ⟨d, .index t x y, ty, pos, af, g⟩).run P w = .ok (.value u) w' := by simp [execOp, hx, hy, hs]
theorem x_lookup {t : TypeId} {a b : Value} {ok : Bool} (hx : ρ x = a) (hy : ρ y = b) (hs : (Instr.lookup t a b ok).run P w = .ok u w') : (execOp ρ ⟨d, .lookup t x y ok, ty, pos, af, g⟩).run P w = .ok (.value u) w' := by simp [execOp, hx, hy, hs]
theorem x_mapUpdate {t : TypeId} {a b c : Value} (hx : ρ x = a) (hy : ρ y = b) (hz : ρ z = c) (hs : (Instr.mapUpdate t a b c).run P w = .ok () w') : (execOp ρ ⟨d, .mapUpdate t x y z, ty, pos, af, g⟩).run P w = .ok .skip w' := by simp [execOp, hx, hy, hz, hs]
theorem x_insert {t : TypeId} {a b c : Value} (hx : ρ x = a) (hy : ρ y = b) (hz : ρ z = c) (hs : (Instr.mapUpdate t a b c).run P w = .ok () w') : (execOp ρ ⟨d, .insert t x y z, ty, pos, af, g⟩).run P w = .ok .skip w' := by simp [execOp, hx, hy, hz, hs]
theorem x_mapEntry {t : TypeId} {a b : Value} (hx : ρ x = a) (hy : ρ y = b) (hs : (Instr.mapEntry t a b).run P w = .ok u w') : (execOp ρ ⟨d, .mapEntry t x y, ty, pos, af, g⟩).run P w = .ok (.value u) w' := by simp [execOp, hx, hy, hs]
theorem x_entryStore {t : TypeId} {a b c : Value} (hx : ρ x = a) (hy : ρ y = b) (hz : ρ z = c) (hs : (Instr.entryStore t a b c).run P w = .ok () w') : (execOp ρ ⟨d, .entryStore t x y z, ty, pos, af, g⟩).run P w = .ok .skip w' := by simp [execOp, hx, hy, hz, hs]
theorem x_range {t : TypeId} (hx : ρ x = v) (hs : (Instr.range t v).run P w = .ok u w') : (execOp ρ ⟨d, .range t x, ty, pos, af, g⟩).run P w = .ok (.value u) w' := by simp [execOp, hx, hs]
theorem x_next {b : Bool} (hx : ρ x = v) (hs : (Instr.next v b ty).run P w = .ok u w') : (execOp ρ ⟨d, .next x b, ty, pos, af, g⟩).run P w = .ok (.value u) w' := by simp [execOp, hx, hs]
theorem x_entry (hx : ρ x = v) (hs : (Instr.entry v).run P w = .ok u w') : (execOp ρ ⟨d, .entry x, ty, pos, af, g⟩).run P w = .ok (.value u) w' := by simp [execOp, hx, hs]
theorem x_extract {i : Nat} {vs : List Value} (hx : ρ x = .tuple vs.toArray) (hi : vs[i]? = some u) : (execOp ρ ⟨d, .extract x i, ty, pos, af, g⟩).run P w = .ok (.value u) w := by
  simp [execOp, hx, Instr.extract, hi]
/-- A call of a Go function with a body, through a known function value. -/
theorem x_call {f : FuncId} {xs : List Operand} {ts : Array TypeId} {vs : List Value} {fs cs : Array Value} (hf : ρ x = .func (.func f) fs cs) (ha : xs.map ρ = vs) (hc : callable P f = true) :
    (execOp ρ ⟨d, .call ⟨.value x, xs.toArray, ts⟩, ty, pos, af, g⟩).run P w = .ok (.enter f (fs ++ vs.toArray ++ cs)) w := by
  have hm : xs.toArray.map ρ = vs.toArray := by rw [← ha]; simp
  unfold callable at hc
  split at hc
  · rename_i fn hfn
    simp only [Bool.and_eq_true, bne_iff_ne, ne_eq] at hc
    obtain ⟨b, hb⟩ := Option.isSome_iff_exists.1 hc.2
    simp [execOp, resolve, hf, Deferred.ofValue, invoke, callFunc, hfn, hc.1, hb, hm]
  · cases hc
theorem x_builtin {b : Builtin} {xs : List Operand} {ts : Array TypeId} {vs : List Value} (ha : xs.map ρ = vs) (hs : ∀ cs, (builtin b ts ty cs vs.toArray).run P w = .ok (.value u) w') :
    (execOp ρ ⟨d, .call ⟨.builtin b, xs.toArray, ts⟩, ty, pos, af, g⟩).run P w = .ok (.value u) w' := by
  have hm : xs.toArray.map ρ = vs.toArray := by rw [← ha]; simp
  simp [execOp, resolve, invoke, hm, hs]

/-! ### What the operations come to -/
theorem agg_no {t : TypeId} (h : aggB P t = some false) : (isAgg t).run P w = .ok false w := by
  unfold aggB at h
  cases hu : P.underlying t with
  | none => simp [hu] at h
  | some k => cases k <;> simp_all [isAgg, underlying]
theorem agg_yes {t : TypeId} (h : aggB P t = some true) : (isAgg t).run P w = .ok true w := by
  unfold aggB at h
  cases hu : P.underlying t with
  | none => simp [hu] at h
  | some k => cases k <;> simp_all [isAgg, underlying]
theorem size_run {t : TypeId} {k : Nat} (h : sizeN P t = some k) : (sizeOf t).run P w = .ok k w := by
  unfold sizeN at h
  cases hi : P.info? t with
  | none => simp [hi] at h
  | some i =>
    simp [hi] at h
    simp [sizeOf, typeInfo, hi, h]
theorem i_load1 {t : TypeId} {p : Addr} (ht : aggB P t = some false) (hc : w.cell? p = some v) : (Instr.loadAt t (.pointer (some p))).run P w = .ok v w := by
  simp [Instr.loadAt, Instr.sureAddr, loadVar, agg_no ht, hc]
theorem loadCellsFrom_ok (p : Addr) : ∀ (vs : List Value) (i : Nat) (acc : Array Value), (∀ j v, vs[j]? = some v → w.cell? (p.add (i + j)) = some v) → (loadCellsFrom p i vs.length acc).run P w = .ok (acc ++ vs.toArray) w
  | [], i, acc, _ => by simp [loadCellsFrom]
  | v :: vs, i, acc, h => by
    have h0 := h 0 v (by simp)
    have ih := loadCellsFrom_ok p vs (i + 1) (acc.push v) fun j u hu => by
      have := h (j + 1) u (by simpa using hu)
      rwa [show i + 1 + j = i + (j + 1) by omega]
    simp only [Nat.add_zero] at h0
    simp [loadCellsFrom, h0, ih]
theorem i_loadN {t : TypeId} {p : Addr} {vs : List Value} (ht : aggB P t = some true) (hn : sizeN P t = some vs.length) (hc : CellsAt w p vs) : (Instr.loadAt t (.pointer (some p))).run P w = .ok (.agg vs.toArray) w := by
  have := loadCellsFrom_ok (P := P) (w := w) p vs 0 #[] (fun j v h => by simpa using hc j v h)
  simp [Instr.loadAt, Instr.sureAddr, loadVar, agg_yes ht, size_run hn, loadCells, this]
theorem storeCells_ok (p : Addr) : ∀ (vs : List Value) (i : Nat) (w : World), (∀ j, j < vs.length → (w.cell? (p.add (i + j))).isSome = true ∧ w.frozen? (p.add (i + j)) = false) → (∀ v ∈ vs, v.oneCell' = true) →
    (storeCells p vs i).run P w = .ok () (setCellsFrom w p i vs)
  | [], i, w, _, _ => by simp [storeCells, setCellsFrom]
  | v :: vs, i, w, h, h1 => by
    have h0 := h 0 (by simp)
    simp only [Nat.add_zero] at h0
    obtain ⟨u, hu⟩ := Option.isSome_iff_exists.1 h0.1
    have hs : (store (p.add i) v .plain).run P w = .ok () (w.setCell (p.add i) v) := by
      rw [run_store P w _ v .plain (h1 v (by simp)), hu]
      simp [h0.2]
    have ih := storeCells_ok p vs (i + 1) (w.setCell (p.add i) v) (fun j hj => by
      have := h (j + 1) (by simp; omega)
      rw [show i + 1 + j = i + (j + 1) by omega]
      refine ⟨?_, by simpa [World.frozen?_setCell] using this.2⟩
      obtain ⟨u', hu'⟩ := Option.isSome_iff_exists.1 this.1
      by_cases he : p.add i = p.add (i + (j + 1))
      · rw [← he, World.cell?_setCell_same w _ v hu]; rfl
      · rw [World.cell?_setCell_other w _ _ v he, hu']; rfl) (fun v hv => h1 v (by simp [hv]))
    simp [storeCells, setCellsFrom, hs, ih]
theorem i_store1 {t : TypeId} {p : Addr} (hn : sizeN P t = some 1) (h1 : v.oneCell' = true) (hv : v.cells = #[v]) (hc : w.cell? p = some u) (hf : w.frozen? p = false) : (Instr.storeAt t (.pointer (some p)) v).run P w = .ok () (w.setCell p v) := by
  have hs : (store p v .plain).run P w = .ok () (w.setCell p v) := by
    rw [run_store P w _ v .plain h1, hc]
    simp [hf]
  simp [Instr.storeAt, Instr.sureAddr, storeVar, size_run hn, hv, storeCells, Addr.add, hs]
theorem i_storeN {t : TypeId} {p : Addr} {vs : List Value} (hn : sizeN P t = some vs.length) (h1 : ∀ v ∈ vs, v.oneCell' = true) (hc : Soft w p vs.length) : (Instr.storeAt t (.pointer (some p)) (.agg vs.toArray)).run P w = .ok () (setCellsAt w p vs) := by
  have := storeCells_ok (P := P) p vs 0 w (fun j hj => by simpa using hc j hj) h1
  simp [Instr.storeAt, Instr.sureAddr, storeVar, size_run hn, Value.cells, this, setCellsAt]
theorem i_box {t : TypeId} : (Instr.box t v).run P w = .ok (.pointer (some ⟨w.heap.size, 0, none⟩)) (w.alloc (.cells v.cells t)) := by
  simp [Instr.box, newVar, newRow]
def zeroOf (P : Program) (t : TypeId) : Option Value := (P.info? t).bind (·.zero)
theorem zero_run {t : TypeId} (h : zeroOf P t = some v) : (zeroValue t).run P w = .ok v w := by
  unfold zeroOf at h
  cases hi : P.info? t with
  | none => simp [hi] at h
  | some i =>
    simp [hi] at h
    simp [zeroValue, typeInfo, hi, h]
theorem i_alloc {t : TypeId} (h : zeroOf P t = some v) : (Instr.alloc t true (.tuple #[])).run P w = .ok (.pointer (some ⟨w.heap.size, 0, none⟩)) (w.alloc (.cells v.cells t)) := by
  simp [Instr.alloc, zero_run h, newVar, newRow]
theorem i_field {t : TypeId} {p : Addr} {f : Nat} {k : Nat} (h : ∀ (p : Addr) (w : World), (Instr.fieldAt t (.pointer (some p)) f).run P w = .ok (.pointer (some (p.add k))) w) : (Instr.fieldAt t (.pointer (some p)) f).run P w = .ok (.pointer (some (p.add k))) w := h p w
def elemT (P : Program) (t : TypeId) : Option TypeId := match P.underlying t with | some (.slice e) => some e | _ => none
theorem elem_under {t e : TypeId} (h : elemT P t = some e) : P.underlying t = some (.slice e) := by
  unfold elemT at h
  split at h
  · rename_i e' he; simp at h; subst h; exact he
  · cases h
theorem i_index {t e : TypeId} {k : IntKind} {i : Int} {n c s : Nat} {ad : Addr} {A : Option Addr} (ht : elemT P t = some e) (hs : sizeN P e = some s) (hA : A = some ad) (h0 : 0 ≤ i) (h1 : i < n) :
    (Instr.indexAt t (.slice A n c) (.int k i)).run P w = .ok (.pointer (some (ad.add (i.toNat * s)))) w := by
  subst hA
  simp [Instr.indexAt, asIntOf, underlying, elem_under ht, size_run hs, h0, h1]
/-- Where a part of a slice begins. -/
def subA (A : Option Addr) (cap l s : Nat) : Option Addr := if cap = l then A else A.map (·.add (l * s))
theorem i_slice {t e : TypeId} {A : Option Addr} {n c s : Nat} {lo hi : Option Value} {l h : Nat} (ht : elemT P t = some e) (hs : sizeN P e = some s)
    (hb : (Instr.sliceBounds true n c lo hi none).run P w = .ok (l, h, c) w) : (Instr.sliceAt t (.slice A n c) lo hi none).run P w = .ok (.slice (subA A c l s) (h - l) (c - l)) w := by
  simp [Instr.sliceAt, Instr.slice, underlying, elem_under ht, size_run hs, hb, subA]
theorem b_bound {k : IntKind} {i : Int} {y : Nat} {code : BoundsCode} (h0 : 0 ≤ i) (h1 : i ≤ y) : (Instr.sliceBound (.int k i) y code).run P w = .ok i.toNat w := by
  simp [Instr.sliceBound, asIntOf, h0, h1]
theorem b_hi {n c : Nat} {k : IntKind} {h : Int} (h0 : 0 ≤ h) (h1 : h ≤ c) : (Instr.sliceBounds true n c none (some (.int k h)) none).run P w = .ok (0, h.toNat, c) w := by
  simp [Instr.sliceBounds, b_bound (P := P) (w := w) h0 h1]
theorem b_lo {n c : Nat} {k : IntKind} {l : Int} (h0 : 0 ≤ l) (h1 : l ≤ n) : (Instr.sliceBounds true n c (some (.int k l)) none none).run P w = .ok (l.toNat, n, c) w := by
  simp [Instr.sliceBounds, b_bound (P := P) (w := w) h0 h1]
theorem b_lohi {n c : Nat} {k k' : IntKind} {l h : Int} (h0 : 0 ≤ l) (h1 : l ≤ h) (h2 : h ≤ c) : (Instr.sliceBounds true n c (some (.int k l)) (some (.int k' h)) none).run P w = .ok (l.toNat, h.toNat, c) w := by
  have h3 : (l : Int) ≤ (h.toNat : Int) := by omega
  simp [Instr.sliceBounds, b_bound (P := P) (w := w) (show 0 ≤ h by omega) h2, b_bound (P := P) (w := w) h0 h3]
theorem b_all {n c : Nat} : (Instr.sliceBounds true n c none none none).run P w = .ok (0, n, c) w := by simp [Instr.sliceBounds]

/-! ### Numbers, Bools, strings -/
theorem eqg {op : BinOp} {t : TypeId} {a b : Value} {s : Sem Value} (h : (eqGuard op t x y a b).run P w = .ok () w) (hs : s.run P w = .ok u w') : (do eqGuard op t x y a b; s : Sem Value).run P w = .ok u w' := by
  simp [h, hs]
theorem g_int {op : BinOp} {t : TypeId} {k k' : IntKind} {a b : Int} : (eqGuard op t x y (.int k a) (.int k' b)).run P w = .ok () w := by
  unfold eqGuard; cases op <;> simp
theorem g_str {op : BinOp} {t : TypeId} {a b : ByteArray} : (eqGuard op t x y (.string a) (.string b)).run P w = .ok () w := by
  unfold eqGuard; cases op <;> simp
theorem g_bool {op : BinOp} {t : TypeId} {a b : Bool} : (eqGuard op t x y (.bool a) (.bool b)).run P w = .ok () w := by
  unfold eqGuard; cases op <;> simp
theorem g_ptr {op : BinOp} {t : TypeId} {a b : Option Addr} : (eqGuard op t x y (.pointer a) (.pointer b)).run P w = .ok () w := by
  unfold eqGuard; cases op <;> simp
theorem g_slice {op : BinOp} {t : TypeId} {a b : Option Addr} {n c m f : Nat} : (eqGuard op t x y (.slice a n c) (.slice b m f)).run P w = .ok () w := by
  unfold eqGuard; cases op <;> simp
variable {k : IntKind} {i j : Int} {t : TypeId}
theorem o_add : (do eqGuard .add t x y (.int k i) (.int k j); binOp .add t (.int k i) (.int k j) : Sem Value).run P w = .ok (.int k (k.wrap (i + j))) w := eqg g_int (by simp [binOp, Op.intArith])
theorem o_sub : (do eqGuard .sub t x y (.int k i) (.int k j); binOp .sub t (.int k i) (.int k j) : Sem Value).run P w = .ok (.int k (k.wrap (i - j))) w := eqg g_int (by simp [binOp, Op.intArith])
theorem o_mul : (do eqGuard .mul t x y (.int k i) (.int k j); binOp .mul t (.int k i) (.int k j) : Sem Value).run P w = .ok (.int k (k.wrap (i * j))) w := eqg g_int (by simp [binOp, Op.intArith])
theorem o_quo (h : j ≠ 0) : (do eqGuard .quo t x y (.int k i) (.int k j); binOp .quo t (.int k i) (.int k j) : Sem Value).run P w = .ok (.int k (k.wrap (i.tdiv j))) w := eqg g_int (by simp [binOp, Op.intDiv, h])
theorem o_rem (h : j ≠ 0) : (do eqGuard .rem t x y (.int k i) (.int k j); binOp .rem t (.int k i) (.int k j) : Sem Value).run P w = .ok (.int k (i.tmod j)) w := eqg g_int (by simp [binOp, Op.intDiv, h])
theorem o_eql : (do eqGuard .eql t x y (.int k i) (.int k j); binOp .eql t (.int k i) (.int k j) : Sem Value).run P w = .ok (.bool (decide (i = j))) w := eqg g_int (by simp [binOp, Op.intCmp]; rfl)
theorem o_neq : (do eqGuard .neq t x y (.int k i) (.int k j); binOp .neq t (.int k i) (.int k j) : Sem Value).run P w = .ok (.bool (decide (i ≠ j))) w := eqg g_int (by simp [binOp, Op.intCmp, bne, Bool.beq_eq_decide_eq])
theorem o_lss : (do eqGuard .lss t x y (.int k i) (.int k j); binOp .lss t (.int k i) (.int k j) : Sem Value).run P w = .ok (.bool (decide (i < j))) w := eqg g_int (by simp [binOp, Op.intCmp])
theorem o_leq : (do eqGuard .leq t x y (.int k i) (.int k j); binOp .leq t (.int k i) (.int k j) : Sem Value).run P w = .ok (.bool (decide (i ≤ j))) w := eqg g_int (by simp [binOp, Op.intCmp])
theorem o_gtr : (do eqGuard .gtr t x y (.int k i) (.int k j); binOp .gtr t (.int k i) (.int k j) : Sem Value).run P w = .ok (.bool (decide (j < i))) w := eqg g_int (by simp [binOp, Op.intCmp])
theorem o_geq : (do eqGuard .geq t x y (.int k i) (.int k j); binOp .geq t (.int k i) (.int k j) : Sem Value).run P w = .ok (.bool (decide (j ≤ i))) w := eqg g_int (by simp [binOp, Op.intCmp])
theorem u_not {b : Bool} : (Op.unary .not (.bool b)).run P w = .ok (.bool (!b)) w := by simp [Op.unary]
theorem u_neg : (Op.unary .neg (.int k i)).run P w = .ok (.int k (k.wrap (0 - i))) w := by simp [Op.unary, Op.intArith]
theorem l_slice {A : Option Addr} {n c : Nat} {cs : Array Bool} (ht : (elemT P t).isSome = true) : (builtin .len #[t] ty cs #[.slice A n c]).run P w = .ok (.value (.int .i64 n)) w := by
  obtain ⟨e, he⟩ := Option.isSome_iff_exists.1 ht
  simp [builtin, Builtin.len_, underlying, elem_under he, goInt]
end
end Wk
end Go.Proofs.Ytnbakpoahcndpaa
