/- The law EufModel answers true at every input whose reading is of bulk at most 1048576, and the input reads as it did; the tables that it reads are tied to the program's text. Gathered by a program (pack.py) out of smaller texts. -/
import Derived.Test.YtnbakpoahcndpaaDoorModel6
import Derived.Test.YtnbakpoahcndpaaDoorRows
import Derived.WalkKit
import Derived.ProofKit
import Derived.OpenShut
import Derived.JoinedCond
import Derived.Deep.Slices
import Derived.Below
import Derived.Carry
import Derived.Lib.LaidTab
import Derived.LaidSub
import Derived.Test.YtnbakpoahcndpaaDoorCards
import Derived.Test.YtnbakpoahcndpaaDoorTie
import Derived.Deep.DeepHandedRow
set_option linter.unusedSectionVars false
namespace Go.Proofs.YtnbakpoahcndpaaDoor
set_option linter.unusedVariables false
set_option linter.unusedSimpArgs false
open Wk Go.ChangeShapes Go.WideShapes Go.Deep Go.RowKit
namespace Opn
theorem one_le {H : Type} (d : DataW H) : 1 ≤ Rows.uptoBulk d := by
 cases d with
 | lit l => cases l <;> simp [Rows.uptoBulk]
 | nil => simp [Rows.uptoBulk]
 | ptr d => simp [Rows.uptoBulk]
 | slice elems spare => simp [Rows.uptoBulk]
 | agg parts => simp [Rows.uptoBulk]
 | iface t d => simp [Rows.uptoBulk]
 | map entries => simp [Rows.uptoBulk]
 | held h => simp [Rows.uptoBulk]
theorem part_le {H : Type} {d : DataW H} {l : List (DataW H)} (h : d ∈ l) : Rows.uptoBulk d ≤ Rows.uptoBulkAll l := by
 induction l with
 | nil => cases h
 | cons x r ih =>
  simp only [Rows.uptoBulkAll]
  cases List.mem_cons.1 h with
  | inl e => subst e; omega
  | inr e => have := ih e; omega
theorem length_le {H : Type} (l : List (DataW H)) : l.length ≤ Rows.uptoBulkAll l := by
 induction l with
 | nil => simp [Rows.uptoBulkAll]
 | cons x r ih => have := one_le x; simp only [Rows.uptoBulkAll, List.length_cons]; omega
abbrev Few {H : Type} (d : DataW H) : Prop := Rows.uptoBulk d ≤ 1048576
theorem few_slice {H : Type} {es sp : List (DataW H)} (h : Few (.slice es sp)) : es.length ≤ 1048576 ∧ ∀ d ∈ es, Few d := by
 unfold Few at h
 simp only [Rows.uptoBulk] at h
 have h1 := length_le es
 refine ⟨by omega, fun d hd => ?_⟩
 have := part_le hd
 unfold Few
 omega
theorem few_agg {H : Type} {es : List (DataW H)} (h : Few (.agg es)) : ∀ d ∈ es, Few d := by
 unfold Few at h
 simp only [Rows.uptoBulk] at h
 intro d hd
 have := part_le hd
 unfold Few
 omega
theorem few_of {H : Type} {l : List (DataW H)} (h : Rows.uptoSmall H l = true) : ∀ d ∈ l, Few d := by
 have h := of_decide_eq_true h
 intro d hd
 have := part_le hd
 unfold Few
 omega
theorem mapM_spec {α β : Type} {f : α → Option β} : ∀ {l : List α} {r : List β}, l.mapM f = some r → r.length = l.length ∧ ∀ (i : Nat) x, l[i]? = some x → f x = r[i]?
 | [], r, h => by simp at h; subst h; simp
 | a :: l, r, h => by
  rw [List.mapM_cons] at h
  cases hf : f a with
  | none => rw [hf] at h; cases h
  | some b =>
   cases hm : l.mapM f with
   | none => rw [hf, hm] at h; cases h
   | some s =>
    rw [hf, hm] at h
    cases h
    obtain ⟨h1, h2⟩ := mapM_spec hm
    refine ⟨by simp [h1], fun i x hx => ?_⟩
    cases i with
    | zero => simp at hx; subst hx; simpa using hf
    | succ i => simpa using h2 i x (by simpa using hx)
theorem cells_spec {w : World} {base : Nat} {a : Addr} {n : Nat} {cs : List Value} (h : w.cells? base a n = some cs) : cs.length = n ∧ CellsAt w a cs := by
 unfold World.cells? at h
 split at h
 ·obtain ⟨h1, h2⟩ := mapM_spec h
  rw [List.length_range] at h1
  refine ⟨h1, fun j v hv => ?_⟩
  have hj := (List.getElem?_eq_some_iff.1 hv).1
  rw [h2 j j (by rw [List.getElem?_range (by omega)]), hv]
 ·cases h
section
variable {P : Program}
def cAnd {α : Type} (c : Cod α) (Q : α → Prop) : Cod α := ⟨c.size, fun w vs x => c.rd w vs x ∧ Q x, fun k h => ⟨c.keep k h.1, h.2⟩⟩
theorem sl_and {α : Type} {c : Cod α} {Q : α → Prop} {w : World} {A : Option Addr} {n : Nat} {xs : List α} (h : Sl (cAnd c Q) w A n xs) : Sl c w A n xs ∧ ∀ x ∈ xs, Q x :=
 ⟨⟨h.1, fun i x hx => let ⟨ad, vs, h1, h2, h3, h4⟩ := h.2 i x hx; ⟨ad, vs, h1, h2, h3, h4.1⟩⟩, fun x hx => by
  obtain ⟨i, hi⟩ := List.mem_iff_getElem?.1 hx
  obtain ⟨_, _, _, _, _, h4⟩ := h.2 i x hi
  exact h4.2⟩
theorem i64_of_wf {n : Int} (h : (Lit.int .i64 n).wf = true) : -9223372036854775808 ≤ n ∧ n ≤ 9223372036854775807 := by
 simpa [Lit.wf, IntKind.min, IntKind.max, IntKind.signed, IntKind.bits] using h
def fieldsOf (P : Program) (t : TypeId) : Option (List (TypeId × Nat × Nat)) := match P.underlying t with
 | some (.struct fs) => some (fs.toList.map fun f => (f.type, f.offset, P.cellsOf f.type))
 | _ => none
end
theorem below {W W' : World} (h : Ext W W') : Below W.heap.size W W' := ⟨h.os, h.tape, h.output, h.size, fun k hk => h.block k hk fun h => h⟩
end Opn
end Go.Proofs.YtnbakpoahcndpaaDoor
namespace Go.Proofs.YtnbakpoahcndpaaDoor
set_option linter.unusedVariables false
set_option linter.unusedSimpArgs false
open Wk Go.ChangeShapes Go.WideShapes Go.Deep Go.RowKit
namespace Opn
theorem sum_le_bulk {α H : Type} {m : α → Nat} : ∀ {xs : List α} {ds : List (DataW H)}, xs.length = ds.length → (∀ (i : Nat) x d, xs[i]? = some x → ds[i]? = some d → m x ≤ Rows.uptoBulk d) → (xs.map m).sum ≤ Rows.uptoBulkAll ds
 | [], [], _, _ => by simp
 | x :: xs, d :: ds, hl, h => by
  have h0 := h 0 x d rfl rfl
  have := sum_le_bulk (m := m) (xs := xs) (ds := ds) (by simpa using hl) fun i x d hx hd => h (i + 1) x d (by simpa using hx) (by simpa using hd)
  simp only [List.map_cons, List.sum_cons, Rows.uptoBulkAll]
  omega
 | [], _ :: _, hl, _ => by simp at hl
 | _ :: _, [], hl, _ => by simp at hl
section
variable {P : Program}
def OpensM (P : Program) {α : Type} (c : Cod α) (m : α → Nat) (t : TypeId) : Prop :=
 ∀ {H : Type} {enc : TypeId × Value → H} {w : World} {base : Nat} {spare : Nat → Bool} {held : Bool} {fuel : Nat} {cs : List Value} {x : DataW H × List MemPlace}, DataW.trod enc P w base spare held fuel t cs = some x → Few x.1 → cs.length = c.size ∧ ∃ a, c.rd w cs a ∧ m a ≤ Rows.uptoBulk x.1
theorem opensM_int {k : IntKind} {t : TypeId} (ht : P.underlying t = some (.int k)) : OpensM P (cInt k) (fun _ => 1) t := by
 intro H enc w base spare held fuel cs x h _
 obtain ⟨n, rfl, _, _⟩ := DataW.trod_int ht h
 exact ⟨rfl, n, rfl, one_le _⟩
theorem opensM_sl {α : Type} {c : Cod α} {m : α → Nat} {t e : TypeId} (ht : elemT P t = some e) (hc : P.cellsOf e = c.size) (ho : OpensM P c m e) {H : Type} {enc : TypeId × Value → H} {w : World} {base : Nat} {spare : Nat → Bool} {held : Bool} {fuel : Nat} {cs : List Value} {x : DataW H × List MemPlace}
  (h : DataW.trod enc P w base spare held fuel t cs = some x) (hf : Few x.1) : ∃ A n cp xs, cs = [.slice A n cp] ∧ n ≤ 1048576 ∧ n ≤ cp ∧ Sl c w A n xs ∧ (xs.map m).sum + 1 ≤ Rows.uptoBulk x.1 := by
 rcases open_slice (elem_under ht) h with ⟨rfl, rfl⟩ | ⟨a, len, cap, m', n, D, Pl, rfl, hb, hl, hm, hmm, rfl, hx⟩
 ·exact ⟨none, 0, 0, [], rfl, by omega, by omega, Sl.nil _ _ _, by simp [Rows.uptoBulk]⟩
 ·obtain ⟨h1, h2⟩ := few_slice hf
  simp only [List.length_map, List.length_range] at h1
  have key : ∀ i : Fin len, ∃ y, (∃ vs, vs.length = c.size ∧ CellsAt w (a.add (i.1 * c.size)) vs ∧ c.rd w vs y) ∧ m y ≤ Rows.uptoBulk (D i.1) := by
   intro i
   have hi := i.2
   obtain ⟨cs', hcs, ht'⟩ := hx i.1 (by rw [hmm]; split <;> omega)
   obtain ⟨g1, g2⟩ := cells_spec hcs
   obtain ⟨g3, y, g4, g5⟩ := ho ht' (h2 _ (List.mem_map.2 ⟨i.1, by simp [hi], rfl⟩))
   exact ⟨y, ⟨cs', g3, by rw [← hc]; exact g2, g4⟩, g5⟩
  refine ⟨some a, len, cap, List.ofFn fun i => (key i).choose, rfl, h1, hl, ⟨by simp, fun i y hy => ?_⟩, ?_⟩
  ·rw [List.getElem?_ofFn] at hy
   split at hy
   ·rename_i hi
    cases hy
    obtain ⟨vs, k1, k2, k3⟩ := (key ⟨i, hi⟩).choose_spec.1
    exact ⟨a, vs, rfl, k1, k2, k3⟩
   ·cases hy
  ·have := sum_le_bulk (m := m) (xs := List.ofFn fun i => (key i).choose) (ds := (List.range len).map D) (by simp) fun i x d hx hd => by
    rw [List.getElem?_ofFn] at hx
    split at hx
    ·rename_i hi
     cases hx
     rw [List.getElem?_map, List.getElem?_range hi] at hd
     cases hd
     exact (key ⟨i, hi⟩).choose_spec.2
    ·cases hx
   simp only [Rows.uptoBulk]
   omega
theorem trod_fieldsM {t : TypeId} {L : List (TypeId × Nat × Nat)} (ht : fieldsOf P t = some L) {H : Type} {enc : TypeId × Value → H} {w : World} {base : Nat} {spare : Nat → Bool} {held : Bool} {fuel : Nat} {cs : List Value} {x : DataW H × List MemPlace}
  (h : DataW.trod enc P w base spare held fuel t cs = some x) (hf : Few x.1) :
  cs.length = P.cellsOf t ∧ ∃ (n : Nat) (ys : List (DataW H)), Rows.uptoBulk x.1 = Rows.uptoBulkAll ys + 1 ∧ ys.length = L.length ∧ ∀ (i : Nat) ty off sz, L[i]? = some (ty, off, sz) → ∃ y, DataW.trod enc P w base spare held n ty ((cs.drop off).take sz) = some y ∧ Few y.1 ∧ ys[i]? = some y.1 := by
 unfold fieldsOf at ht
 split at ht
 ·rename_i fs hfs
  cases ht
  obtain ⟨xs, n, rfl, rfl, hl, hlen, hff⟩ := DataW.trod_struct hfs h
  refine ⟨hl, n, xs.map (·.1), by simp only [Rows.uptoBulk], by simp [hlen], fun i ty off sz hi => ?_⟩
  rw [List.getElem?_map] at hi
  cases hq : fs.toList[i]? with
  | none => rw [hq] at hi; cases hi
  | some f =>
   rw [hq] at hi
   simp only [Option.map_some, Option.some.injEq, Prod.mk.injEq] at hi
   obtain ⟨rfl, rfl, rfl⟩ := hi
   have hi' := (List.getElem?_eq_some_iff.1 hq).1
   rw [Array.length_toList] at hi'
   have h1 := hff i f (by rw [← hq, Array.getElem?_toList])
   have hxi : i < xs.length := by omega
   rw [List.getElem?_eq_getElem hxi] at h1
   exact ⟨_, h1, few_agg hf _ (List.mem_map.2 ⟨_, List.getElem_mem hxi, rfl⟩), by rw [List.getElem?_map, List.getElem?_eq_getElem hxi]; rfl⟩
 ·cases ht
theorem val_slM {α : Type} {c : Cod α} {m : α → Nat} {t e : TypeId} (ht : elemT P t = some e) (hc : P.cellsOf e = c.size) (ho : OpensM P c m e) {H : Type} {enc : TypeId × Value → H} {w : World} {base b0 : Nat} {r : Reach} {spare : Nat → Bool} {held : Bool} {v : Value} {d : DataW H} {ps : List MemPlace}
  (hv : Value.okWide P w r b0 t v) (h : DataW.Trod enc P w base spare held t v d ps) (hf : Few d) : ∃ A n cp xs, v = .slice A n cp ∧ n ≤ 1048576 ∧ n ≤ cp ∧ Sl c w A n xs ∧ (xs.map m).sum + 1 ≤ Rows.uptoBulk d := by
 obtain ⟨A, n, cp, rfl⟩ := okWide_slice (elem_under ht) hv
 obtain ⟨fuel, h⟩ := h
 obtain ⟨A', n', cp', xs, hcs, hn, hle, hs, hm⟩ := opensM_sl ht hc ho h hf
 simp only [Value.cells, List.cons.injEq, Value.slice.injEq, and_true] at hcs
 obtain ⟨rfl, rfl, rfl⟩ := hcs
 exact ⟨_, _, _, xs, rfl, hn, hle, hs, hm⟩
end
theorem one_sum {α : Type} : ∀ (l : List α), (l.map fun _ => 1).sum = l.length
 | [] => rfl
 | x :: l => by simp only [List.map_cons, List.sum_cons, one_sum l, List.length_cons]; omega
theorem own : ownKnob Tryd.prog.godebug = none := by kernel_rfl
theorem laidOut : laidOutB Tryd.prog = true := by kernel_rfl
theorem two {α : Type} {cs : List α} (h : cs.length = 2) : ∃ a b, cs = [a, b] := by
 match cs, h with
 | [a, b], _ => exact ⟨a, b, rfl⟩
theorem five {α : Type} {cs : List α} (h : cs.length = 5) : ∃ a b c d e, cs = [a, b, c, d, e] := by
 match cs, h with
 | [a, b, c, d, e], _ => exact ⟨a, b, c, d, e, rfl⟩
theorem uInt : P.underlying T.int = some (.int .i64) := by kernel_rfl
theorem uBool : P.underlying T.bool = some .bool := by kernel_rfl
theorem eInts : elemT P T.sl_int = some T.int := by kernel_rfl
theorem cInt1 : P.cellsOf T.int = 1 := by kernel_rfl
theorem fFlat : fieldsOf P T.api_Flat = some [(T.int, 0, 1), (T.sl_int, 1, 1)] := by kernel_rfl
theorem fOp : fieldsOf P T.arbiterlaw13_Op = some [(T.int, 0, 1), (T.bool, 1, 1), (T.int, 2, 1), (T.int, 3, 1), (T.int, 4, 1)] := by kernel_rfl
theorem cFlat2 : P.cellsOf T.api_Flat = 2 := by kernel_rfl
theorem cOp5 : P.cellsOf T.arbiterlaw13_Op = 5 := by kernel_rfl
theorem eFlats : elemT P T.sl_api_Flat = some T.api_Flat := by kernel_rfl
theorem eOps : elemT P T.sl_arbiterlaw13_Op = some T.arbiterlaw13_Op := by kernel_rfl
abbrev cFlat64 : Cod Flat := cAnd cFlat fun x => I64 x.fn
theorem opensM_flat : OpensM P cFlat64 (fun x => x.args.length + 3) T.api_Flat := by
 intro H enc w base spare held fuel cs x h hf
 obtain ⟨hl, n, ys, hb, hyl, hfs⟩ := trod_fieldsM fFlat h hf
 rw [cFlat2] at hl
 obtain ⟨a, b, rfl⟩ := two hl
 obtain ⟨z0, z1, rfl⟩ := two hyl
 obtain ⟨y0, h0, f0, g0⟩ := hfs 0 _ _ _ rfl
 obtain ⟨y1, h1, f1, g1⟩ := hfs 1 _ _ _ rfl
 cases g0
 cases g1
 obtain ⟨k0, e0, _, w0⟩ := DataW.trod_int uInt h0
 obtain ⟨A, m, c, xs, e1, hm, _, hs, hsum⟩ := opensM_sl eInts (c := cInt .i64) cInt1 (opensM_int uInt) h1 f1
 simp at e0 e1
 subst e0
 subst e1
 refine ⟨rfl, ⟨k0, xs⟩, ⟨⟨A, m, c, rfl, by unfold Sm; omega, hs⟩, i64_of_wf w0⟩, ?_⟩
 have o1 := one_le y0.1
 rw [one_sum] at hsum
 rw [hb]
 simp only [Rows.uptoBulkAll]
 omega
theorem opensM_op : OpensM P cOp (fun _ => 6) T.arbiterlaw13_Op := by
 intro H enc w base spare held fuel cs x h hf
 obtain ⟨hl, n, ys, hb, hyl, hfs⟩ := trod_fieldsM fOp h hf
 rw [cOp5] at hl
 obtain ⟨a, b, c, d, e, rfl⟩ := five hl
 obtain ⟨z0, z1, z2, z3, z4, rfl⟩ := five hyl
 obtain ⟨y0, h0, f0, g0⟩ := hfs 0 _ _ _ rfl
 obtain ⟨y1, h1, f1, g1⟩ := hfs 1 _ _ _ rfl
 obtain ⟨y2, h2, f2, g2⟩ := hfs 2 _ _ _ rfl
 obtain ⟨y3, h3, f3, g3⟩ := hfs 3 _ _ _ rfl
 obtain ⟨y4, h4, f4, g4⟩ := hfs 4 _ _ _ rfl
 obtain ⟨k0, e0, _, _⟩ := DataW.trod_int uInt h0
 obtain ⟨k1, e1, _⟩ := DataW.trod_bool uBool h1
 obtain ⟨k2, e2, _, w2⟩ := DataW.trod_int uInt h2
 obtain ⟨k3, e3, _, _⟩ := DataW.trod_int uInt h3
 obtain ⟨k4, e4, _, _⟩ := DataW.trod_int uInt h4
 simp at e0 e1 e2 e3 e4
 subst e0 e1 e2 e3 e4
 refine ⟨rfl, ⟨k0, k1, k2, k3, k4⟩, ⟨rfl, i64_of_wf w2⟩, ?_⟩
 rw [hb]
 have o0 := one_le z0
 have o1 := one_le z1
 have o2 := one_le z2
 have o3 := one_le z3
 have o4 := one_le z4
 simp only [Rows.uptoBulkAll]
 omega
theorem flat_sum : ∀ (l : List Flat), (l.map fun x => x.args.length + 3).sum = (l.map fun x => x.args.length).sum + 3 * l.length
 | [] => rfl
 | x :: l => by simp only [List.map_cons, List.sum_cons, flat_sum l, List.length_cons]; omega
theorem six_sum {α : Type} : ∀ (l : List α), (l.map fun _ => 6).sum = 6 * l.length
 | [] => rfl
 | x :: l => by simp only [List.map_cons, List.sum_cons, six_sum l, List.length_cons]; omega
theorem nodesOk {fs : List Flat} (h : (fs.map fun x => x.args.length + 3).sum ≤ 1048576) (h64 : ∀ x ∈ fs, I64 x.fn) : NodesOk (wsum fs fs.length) fs := by
 rw [flat_sum] at h
 have e : wsum fs fs.length = (fs.map fun x => x.args.length).sum := by unfold wsum; rw [List.take_length]
 rw [← e] at h
 refine ⟨by omega, h64, Nat.le_refl _, by omega, ?_⟩
 rcases Nat.lt_or_ge fs.length 262145 with hc | hc
 ·have := Nat.mul_le_mul (show fs.length ≤ 262144 by omega) (show wsum fs fs.length + 2 ≤ 1048578 by omega)
  omega
 ·have := Nat.mul_le_mul (show fs.length ≤ 349526 by omega) (show wsum fs fs.length + 2 ≤ 786434 by omega)
  omega
theorem gPow : Tryd.prog.globalNamed "internal/strconv.uint64pow10" = some 0 := by kernel_rfl
theorem gPowType : (Tryd.prog.globals[0]?).map (·.type) = some T.t_20_uint64 := by kernel_rfl
theorem uPow : P.underlying T.t_20_uint64 = some (.array 20 T.uint64) := by kernel_rfl
theorem uU64 : P.underlying T.uint64 = some (.int .u64) := by kernel_rfl
theorem cPow : P.cellsOf T.t_20_uint64 = 20 := by kernel_rfl
theorem cU64 : P.cellsOf T.uint64 = 1 := by kernel_rfl
theorem table {W : World} {l : List (String × DataW Unit)} (he : (l.filter fun x => x.1 == "internal/strconv.uint64pow10") = [("internal/strconv.uint64pow10", Lib.tabData .u64 Lib.pow10Tab)]) (h : laidMetH P l W) : Tab10 W.heap.size W := by
 have h1 := laidMetH.filter (fun x => x.1 == "internal/strconv.uint64pow10") h
 rw [he] at h1
 exact Lib.tabBelow_of_tabIs (Lib.tabIs_of_head (rest := []) gPow gPowType uPow uU64 cU64 cPow h1)
end Opn
end Go.Proofs.YtnbakpoahcndpaaDoor
namespace Go.Proofs.YtnbakpoahcndpaaDoor.eufModel
set_option linter.unusedVariables false
set_option linter.unusedSimpArgs false
open Go.ChangeShapes Go.WideShapes Go.ChangeAt Go.RowKit Wk Opn
set_option maxRecDepth 100000 in
theorem pow (H : Type) {W : World} (hL : laidMetH Tryd.prog Rows.eufModelUptoRow.laid W) : Tab10 W.heap.size W := table (l := Rows.eufModelUptoRow.laid) (by kernel_rfl) hL
set_option maxRecDepth 100000 in
theorem contract (H : Type) (enc : TypeId × Value → H) (W : World) (base : Nat) (args : Array Value) (ds gs : List (DataW H)) (before : List MemPlace)
  (hval : ∀ (j : Nat) t v, Tryd.f3.params[j]? = some t → args[j]? = some v → Value.okWide Tryd.prog W .any base t v)
  (hW : DataW.Whole enc Tryd.prog Tryd.f3.params.toList Rows.eufModelSpec.vars false W args.toList ds gs before) (hk : Rows.uptoSmall H (ds ++ gs) = true) (hL : laidMetH Tryd.prog Rows.eufModelUptoRow.laid W) :
  Calls Tryd.prog 3 args W fun e W' => ∃ v, e = .returned v ∧ Rows.eufModelSpec.post enc Tryd.prog Tryd.f3 false true false false W args v W' := by
 have hW' := hW
 obtain ⟨p, q, hA0, hV, rfl, hfz, hnd⟩ := hW
 have hA : DataW.TrodAll enc Tryd.prog W 0 (fun _ => true) true Tryd.f3.params.toList args.toList ds p := hA0
 rw [Tryd.params3] at hA hval
 obtain ⟨v0, vs0, d0, ds0, p0, q0, hargs, rfl, rfl, h0, r0⟩ := trodAll_cons hA
 obtain ⟨v1, vs1, d1, ds1, p1, q1, rfl, rfl, rfl, h1, r1⟩ := trodAll_cons r0
 obtain ⟨v2, vs2, d2, ds2, p2, q2, rfl, rfl, rfl, h2, r2⟩ := trodAll_cons r1
 obtain ⟨v3, vs3, d3, ds3, p3, q3, rfl, rfl, rfl, h3, r3⟩ := trodAll_cons r2
 obtain ⟨rfl, rfl, rfl⟩ := trodAll_nil r3
 obtain rfl : args = #[v0, v1, v2, v3] := by cases args; simp_all
 obtain ⟨rfl, rfl⟩ := trodVars_none hV
 have few := few_of hk
 have all : Rows.uptoBulkAll ([d0, d1, d2, d3] ++ ([] : List (DataW H))) ≤ 1048576 := of_decide_eq_true hk
 obtain ⟨A0, n0, c0, nodes, rfl, s0, _, z0, m0⟩ := val_slM eFlats (c := cFlat64) cFlat2 opensM_flat (hval 0 _ v0 rfl rfl) h0 (few _ (by simp))
 obtain ⟨A1, n1, c1, ops, rfl, s1, _, z1, m1⟩ := val_slM eOps cOp5 opensM_op (hval 1 _ v1 rfl rfl) h1 (few _ (by simp))
 obtain ⟨A2, n2, c2, tab, rfl, s2, _, z2, m2⟩ := val_slM eInts (c := cInt .i64) cInt1 (opensM_int uInt) (hval 2 _ v2 rfl rfl) h2 (few _ (by simp))
 obtain ⟨size, rfl, rfl, rfl, w3⟩ := open_int uInt (hval 3 _ v3 rfl rfl) h3
 have k0 := h0
 have k1 := h1
 have k2 := h2
 have lt0 : ∀ x ∈ p0, x.block < W.heap.size := by obtain ⟨m, hm⟩ := k0; exact DataW.trod_lt m _ _ _ hm
 have lt1 : ∀ x ∈ p1, x.block < W.heap.size := by obtain ⟨m, hm⟩ := k1; exact DataW.trod_lt m _ _ _ hm
 have lt2 : ∀ x ∈ p2, x.block < W.heap.size := by obtain ⟨m, hm⟩ := k2; exact DataW.trod_lt m _ _ _ hm
 simp only [List.cons_append, List.nil_append, Rows.uptoBulkAll] at all
 rw [six_sum] at m1
 obtain ⟨y0, y64⟩ := sl_and z0
 have e0 := z0.1
 have e1 := z1.1
 clear hA0
 subst e0
 refine (EufModel_is (x1 := size) y0 z1 z2 (Nat.le_refl _) (pow H hL) (nodesOk (by omega) y64) (by omega) s2).mono fun e W' h => ?_
 obtain ⟨v, rfl, rfl, hE⟩ := h
 have bel := below hE
 exact ⟨_, rfl, _, _, _, [], _, [], hW', trodAll_mk1 (shut_bool (by kernel_rfl) _),
  (trodAll_cons_mk (Below.trod laidOut (by kernel_rfl) (of_decide_eq_true (by kernel_rfl)) k0 bel lt0) (trodAll_cons_mk (Below.trod laidOut (by kernel_rfl) (of_decide_eq_true (by kernel_rfl)) k1 bel lt1)
   (trodAll_cons_mk (Below.trod laidOut (by kernel_rfl) (of_decide_eq_true (by kernel_rfl)) k2 bel lt2) (trodAll_cons_mk (shut_int uInt w3) trodAll_mk0)))), rfl, bel.frame _, fun h => (by cases h)⟩
def cellsIn : DataW Unit → Array Value
 | .agg l => (l.map fun | .lit (.int k n) => Value.int k n | _ => .bool false).toArray
 | _ => #[]
def put (cs : Array Value) : Obj → Obj
 | .cells _ t frozen => .cells cs t frozen
 | o => o
noncomputable def laidWorld (os : Os) : World :=
 { World.holding Tryd.prog os ⟨#[], #[], []⟩ with heap := (((World.holding Tryd.prog os ⟨#[], #[], []⟩).heap.modify 0 (put (cellsIn Rows.laid_internal_strconv_uint64pow10))).modify 1 (put (cellsIn Rows.laid_math_bits_deBruijn32tab))).modify 2 (put (cellsIn Rows.laid_math_bits_deBruijn64tab)) }
abbrev args0 : Array Value := #[.slice none 0 0, .slice none 0 0, .slice none 0 0, .int .i64 0]
theorem laid_met (os : Os) : laidMet Tryd.prog Rows.eufModelUptoRow.laid ((laidWorld os).forCall (fun _ _ => 0) ⟨#[], args0, []⟩).memory :=
 laidMet_of_run' 8 (by kernel_rfl) (by kernel_rfl)
theorem reads (os : Os) {H : Type} (enc : TypeId × Value → H) : ∃ places, DataW.whole enc Tryd.prog ((laidWorld os).forCall (fun _ _ => 0) ⟨#[], args0, []⟩).memory Tryd.f3.params.toList Rows.eufModelSpec.vars false args0.toList 8 = some ([.nil, .nil, .nil, .lit (.int .i64 0)], [], places) :=
 ⟨[], by kernel_rfl⟩
set_option maxRecDepth 100000 in
theorem lifted (os : Os) (started : os.Started) (H : Type) (enc : TypeId × Value → H) (F : Stop.Interp) :
  ReturnsInHanded {} Tryd.checked os 3 .any ((Rows.OpenSpec.upto Rows.eufModelSpec).preRow enc Tryd.prog Tryd.f3 Rows.eufModelUptoRow.domain false Rows.eufModelUptoRow.laid) (((Rows.OpenSpec.upto Rows.eufModelSpec).at F).post enc Tryd.prog Tryd.f3 false true false false) := by
 obtain ⟨places, hx⟩ := reads os enc
 refine returnsInHanded_of_row (C := Tryd.checked) (s := Rows.OpenSpec.upto Rows.eufModelSpec) own started (by kernel_rfl) Tryd.func3
  (witness_row_at (enc := enc) (C := Tryd.checked) false (laidWorld os) args0 rfl (by kernel_rfl) (by kernel_rfl) (by kernel_rfl)
   (OpenSpec.preRow_of_cond 8 hx (by kernel_rfl) (fun k hk => by cases hk; kernel_rfl) (by kernel_rfl) (laid_met os))) ?_
 intro W base args ds gs before hval hW _ hcond _ hL _ _
 exact contract H enc W base args ds gs before hval hW (hcond _ rfl) hL
theorem said : Rows.EufModelUptoSaid :=
 OpenClaim.holds_of_cond 3 Tryd.f3 rfl rfl rfl rfl rfl rfl rfl ⟨rfl, rfl, rfl, rfl, rfl⟩ rfl rfl rfl rfl rfl (by kernel_rfl) Tryd.func3 (by kernel_rfl)
  (of_decide_eq_true (by kernel_rfl)) (by unfold Func.isWrapper; first | (rw [if_pos (by decide +kernel)]; kernel_rfl) | (rw [if_neg (by decide +kernel)]; exact ⟨rfl, rfl⟩))
  (fun os started H enc _ F => by rw [OpenClaim.pre_eq_preRow]; exact lifted os started H enc F)
theorem plain (f : FuncId) (fn : Func) (hf : Tryd.pinned.checked.prog.funcNamed "arbiter/arbiterlaw13.EufModel" = some f) (hfn : Tryd.pinned.checked.prog.funcs[f]? = some fn) :
  false = Tryd.pinned.checked.prog.looks [] ∧ ∀ (j : Nat) t, fn.params[j]? = some t → Tryd.pinned.checked.prog.wantsStandIn t = false := by
 obtain rfl : f = 3 := Option.some.inj ((show Tryd.prog.funcNamed "arbiter/arbiterlaw13.EufModel" = some 3 by kernel_rfl).symm.trans hf) |>.symm
 obtain rfl : fn = Tryd.f3 := (Option.some.inj (Tryd.func3.symm.trans hfn)).symm
 refine ⟨by kernel_rfl, fun j t ht => ?_⟩
 rw [Tryd.params3] at ht
 have hm := Array.mem_of_getElem? ht
 have w0 : Tryd.prog.wantsStandIn T.sl_api_Flat = false := by kernel_rfl
 have w1 : Tryd.prog.wantsStandIn T.sl_arbiterlaw13_Op = false := by kernel_rfl
 have w2 : Tryd.prog.wantsStandIn T.sl_int = false := by kernel_rfl
 have w3 : Tryd.prog.wantsStandIn T.int = false := by kernel_rfl
 simp only [List.mem_toArray, List.mem_cons, List.not_mem_nil, or_false] at hm
 rcases hm with rfl | rfl | rfl | rfl
 ·exact w0
 ·exact w1
 ·exact w2
 ·exact w3
theorem proved : Rows.EufModelUptoCardSaid :=
 Claim7.holds_tied_plain_at .later [] _ _ _ _ said (fun _ h => by cases h) (by kernel_rfl) (fun _ h => by cases h) eufModelUpto_row_tie rfl ⟨rfl, rfl⟩ (by kernel_rfl) rfl plain (by kernel_rfl)
end Go.Proofs.YtnbakpoahcndpaaDoor.eufModel
