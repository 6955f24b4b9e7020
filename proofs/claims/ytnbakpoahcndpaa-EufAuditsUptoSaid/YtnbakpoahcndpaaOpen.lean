/- What the statement's reading says, in the words of our codecs. -/
import Derived.Test.YtnbakpoahcndpaaCod
import Derived.Test.YtnbakpoahcndpaaRows
import Derived.WalkKit
import Derived.ProofKit
import Derived.OpenShut
import Derived.JoinedCond
import Derived.Deep.Slices
import Derived.Below
import Derived.Carry
set_option linter.unusedVariables false
set_option linter.unusedSimpArgs false
namespace Go.Proofs.Ytnbakpoahcndpaa
open Wk Go.ChangeShapes Go.WideShapes Go.Deep Go.RowKit
namespace Opn
theorem one_le {H : Type} (d : DataW H) : 1 ≤ Rows.uptoBulk d := by
  cases d with
  | lit l => cases l <;> simp [Rows.uptoBulk]
  | nil => simp [Rows.uptoBulk]
  | ptr d => simp [Rows.uptoBulk]
  | slice elems spare => simp [Rows.uptoBulk]
  | agg parts => simp [Rows.uptoBulk]
  | iface t d => simp [Rows.uptoBulk]
  | map entries => simp [Rows.uptoBulk]
  | held h => simp [Rows.uptoBulk]
theorem part_le {H : Type} {d : DataW H} {l : List (DataW H)} (h : d ∈ l) : Rows.uptoBulk d ≤ Rows.uptoBulkAll l := by
  induction l with
  | nil => cases h
  | cons x r ih =>
    simp only [Rows.uptoBulkAll]
    cases List.mem_cons.1 h with
    | inl e => subst e; omega
    | inr e => have := ih e; omega
theorem length_le {H : Type} (l : List (DataW H)) : l.length ≤ Rows.uptoBulkAll l := by
  induction l with
  | nil => simp [Rows.uptoBulkAll]
  | cons x r ih => have := one_le x; simp only [Rows.uptoBulkAll, List.length_cons]; omega
abbrev Few {H : Type} (d : DataW H) : Prop := Rows.uptoBulk d ≤ 1048576
theorem few_slice {H : Type} {es sp : List (DataW H)} (h : Few (.slice es sp)) : es.length ≤ 1048576 ∧ ∀ d ∈ es, Few d := by
  unfold Few at h
  simp only [Rows.uptoBulk] at h
  have h1 := length_le es
  refine ⟨by omega, fun d hd => ?_⟩
  have := part_le hd
  unfold Few
  omega
theorem few_agg {H : Type} {es : List (DataW H)} (h : Few (.agg es)) : ∀ d ∈ es, Few d := by
  unfold Few at h
  simp only [Rows.uptoBulk] at h
  intro d hd
  have := part_le hd
  unfold Few
  omega
theorem few_of {H : Type} {l : List (DataW H)} (h : Rows.uptoSmall H l = true) : ∀ d ∈ l, Few d := by
  have h := of_decide_eq_true h
  intro d hd
  have := part_le hd
  unfold Few
  omega
theorem mapM_spec {α β : Type} {f : α → Option β} : ∀ {l : List α} {r : List β}, l.mapM f = some r → r.length = l.length ∧ ∀ (i : Nat) x, l[i]? = some x → f x = r[i]?
  | [], r, h => by simp at h; subst h; simp
  | a :: l, r, h => by
    rw [List.mapM_cons] at h
    cases hf : f a with
    | none => rw [hf] at h; cases h
    | some b =>
      cases hm : l.mapM f with
      | none => rw [hf, hm] at h; cases h
      | some s =>
        rw [hf, hm] at h
        cases h
        obtain ⟨h1, h2⟩ := mapM_spec hm
        refine ⟨by simp [h1], fun i x hx => ?_⟩
        cases i with
        | zero => simp at hx; subst hx; simpa using hf
        | succ i => simpa using h2 i x (by simpa using hx)
theorem cells_spec {w : World} {base : Nat} {a : Addr} {n : Nat} {cs : List Value} (h : w.cells? base a n = some cs) : cs.length = n ∧ CellsAt w a cs := by
  unfold World.cells? at h
  split at h
  · obtain ⟨h1, h2⟩ := mapM_spec h
    rw [List.length_range] at h1
    refine ⟨h1, fun j v hv => ?_⟩
    have hj := (List.getElem?_eq_some_iff.1 hv).1
    rw [h2 j j (by rw [List.getElem?_range (by omega)]), hv]
  · cases h
section
variable {P : Program}
/-- What reads at the type t, and is small, reads by the codec. -/
def Opens (P : Program) {α : Type} (c : Cod α) (t : TypeId) : Prop :=
  ∀ {H : Type} {enc : TypeId × Value → H} {w : World} {base : Nat} {spare : Nat → Bool} {held : Bool} {fuel : Nat} {cs : List Value} {x : DataW H × List MemPlace}, DataW.trod enc P w base spare held fuel t cs = some x → Few x.1 → cs.length = c.size ∧ ∃ a, c.rd w cs a
theorem opens_int {k : IntKind} {t : TypeId} (ht : P.underlying t = some (.int k)) : Opens P (cInt k) t := by
  intro H enc w base spare held fuel cs x h _
  obtain ⟨n, rfl, _, _⟩ := DataW.trod_int ht h
  exact ⟨rfl, n, rfl⟩
theorem opens_bool {t : TypeId} (ht : P.underlying t = some .bool) : Opens P cBool t := by
  intro H enc w base spare held fuel cs x h _
  obtain ⟨n, rfl, _⟩ := DataW.trod_bool ht h
  exact ⟨rfl, n, rfl⟩
theorem opens_sl {α : Type} {c : Cod α} {t e : TypeId} (ht : elemT P t = some e) (hc : P.cellsOf e = c.size) (ho : Opens P c e) {H : Type} {enc : TypeId × Value → H} {w : World} {base : Nat} {spare : Nat → Bool} {held : Bool} {fuel : Nat} {cs : List Value} {x : DataW H × List MemPlace}
    (h : DataW.trod enc P w base spare held fuel t cs = some x) (hf : Few x.1) : ∃ A n cp xs, cs = [.slice A n cp] ∧ n ≤ 1048576 ∧ n ≤ cp ∧ Sl c w A n xs := by
  rcases open_slice (elem_under ht) h with ⟨rfl, rfl⟩ | ⟨a, len, cap, m, n, D, Pl, rfl, hb, hl, hm, hmm, rfl, hx⟩
  · exact ⟨none, 0, 0, [], rfl, by omega, by omega, Sl.nil _ _ _⟩
  · obtain ⟨h1, h2⟩ := few_slice hf
    simp only [List.length_map, List.length_range] at h1
    have key : ∀ i : Fin len, ∃ y, ∃ vs, vs.length = c.size ∧ CellsAt w (a.add (i.1 * c.size)) vs ∧ c.rd w vs y := by
      intro i
      have hi := i.2
      obtain ⟨cs', hcs, ht'⟩ := hx i.1 (by rw [hmm]; split <;> omega)
      obtain ⟨g1, g2⟩ := cells_spec hcs
      obtain ⟨g3, y, g4⟩ := ho ht' (h2 _ (List.mem_map.2 ⟨i.1, by simp [hi], rfl⟩))
      exact ⟨y, cs', g3, by rw [← hc]; exact g2, g4⟩
    refine ⟨some a, len, cap, List.ofFn fun i => (key i).choose, rfl, h1, hl, by simp, fun i y hy => ?_⟩
    rw [List.getElem?_ofFn] at hy
    split at hy
    · rename_i hi
      cases hy
      obtain ⟨vs, k1, k2, k3⟩ := (key ⟨i, hi⟩).choose_spec
      exact ⟨a, vs, rfl, k1, k2, k3⟩
    · cases hy
def fieldsOf (P : Program) (t : TypeId) : Option (List (TypeId × Nat × Nat)) := match P.underlying t with
  | some (.struct fs) => some (fs.toList.map fun f => (f.type, f.offset, P.cellsOf f.type))
  | _ => none
theorem trod_fields {t : TypeId} {L : List (TypeId × Nat × Nat)} (ht : fieldsOf P t = some L) {H : Type} {enc : TypeId × Value → H} {w : World} {base : Nat} {spare : Nat → Bool} {held : Bool} {fuel : Nat} {cs : List Value} {x : DataW H × List MemPlace}
    (h : DataW.trod enc P w base spare held fuel t cs = some x) (hf : Few x.1) :
    cs.length = P.cellsOf t ∧ ∃ n, ∀ (i : Nat) ty off sz, L[i]? = some (ty, off, sz) → ∃ y, DataW.trod enc P w base spare held n ty ((cs.drop off).take sz) = some y ∧ Few y.1 := by
  unfold fieldsOf at ht
  split at ht
  · rename_i fs hfs
    cases ht
    obtain ⟨xs, n, rfl, rfl, hl, hlen, hff⟩ := DataW.trod_struct hfs h
    refine ⟨hl, n, fun i ty off sz hi => ?_⟩
    rw [List.getElem?_map] at hi
    cases hq : fs.toList[i]? with
    | none => rw [hq] at hi; cases hi
    | some f =>
      rw [hq] at hi
      simp only [Option.map_some, Option.some.injEq, Prod.mk.injEq] at hi
      obtain ⟨rfl, rfl, rfl⟩ := hi
      have hi' := (List.getElem?_eq_some_iff.1 hq).1
      rw [Array.length_toList] at hi'
      have h1 := hff i f (by rw [← hq, Array.getElem?_toList])
      have hxi : i < xs.length := by omega
      rw [List.getElem?_eq_getElem hxi] at h1
      exact ⟨_, h1, few_agg hf _ (List.mem_map.2 ⟨_, List.getElem_mem hxi, rfl⟩)⟩
  · cases ht
theorem val_sl {α : Type} {c : Cod α} {t e : TypeId} (ht : elemT P t = some e) (hc : P.cellsOf e = c.size) (ho : Opens P c e) {H : Type} {enc : TypeId × Value → H} {w : World} {base b0 : Nat} {r : Reach} {spare : Nat → Bool} {held : Bool} {v : Value} {d : DataW H} {ps : List MemPlace}
    (hv : Value.okWide P w r b0 t v) (h : DataW.Trod enc P w base spare held t v d ps) (hf : Few d) : ∃ A n cp xs, v = .slice A n cp ∧ n ≤ 1048576 ∧ n ≤ cp ∧ Sl c w A n xs := by
  obtain ⟨A, n, cp, rfl⟩ := okWide_slice (elem_under ht) hv
  obtain ⟨fuel, h⟩ := h
  obtain ⟨A', n', cp', xs, hcs, hn, hle, hs⟩ := opens_sl ht hc ho h hf
  simp only [Value.cells, List.cons.injEq, Value.slice.injEq, and_true] at hcs
  obtain ⟨rfl, rfl, rfl⟩ := hcs
  exact ⟨_, _, _, xs, rfl, hn, hle, hs⟩
end
theorem below {W W' : World} (h : Ext W W') : Below W.heap.size W W' := ⟨h.os, h.tape, h.output, h.size, fun k hk => h.block k hk fun h => h⟩
end Opn
end Go.Proofs.Ytnbakpoahcndpaa
