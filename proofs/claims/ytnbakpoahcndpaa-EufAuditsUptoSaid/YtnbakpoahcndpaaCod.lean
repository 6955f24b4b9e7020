/- What memory reads as: slices, structs, numbers, texts as Lean's own lists and numbers; and how a reading lives on. -/
import Derived.Test.YtnbakpoahcndpaaWkMore
import Derived.Laws.AppendOwn
set_option linter.unusedVariables false
set_option linter.unusedSimpArgs false
namespace Go.Proofs.Ytnbakpoahcndpaa
open Wk
/-! ### Worlds that only grow -/
abbrev Ext (w w' : World) : Prop := Keep (fun _ => False) w w'
theorem Ext.refl (w : World) : Ext w w := Keep.refl _ w
theorem Ext.cell {w w' : World} (h : Ext w w') {p : Addr} {v : Value} (k : w.cell? p = some v) : w'.cell? p = some v := Keep.cell h ⟨k, fun h => h⟩
theorem Ext.cells {w w' : World} (h : Ext w w') {p : Addr} {vs : List Value} (k : CellsAt w p vs) : CellsAt w' p vs := Keep.cells h ⟨k, fun h => h⟩
theorem Ext.of_drawn {w w' : World} (h : Drawn w w') : Ext w w' := Keep.of_drawn h
theorem Ext.of_new {w w' : World} {o : Obj} {p : Addr} (h : New w o p w') : Ext w w' := (Keep.refl _ w).new h
theorem Wk.CellsAt.at {w : World} {p : Addr} {vs : List Value} (h : CellsAt w p vs) (j : Nat) {v : Value} (hv : vs[j]? = some v) : w.cell? (p.add j) = some v := h j v hv
theorem Addr.add_add (a : Addr) (i j : Nat) : (a.add i).add j = a.add (i + j) := by
  unfold Addr.add
  by_cases hi : i = 0 <;> by_cases hj : j = 0 <;> simp [hi, hj, Nat.add_assoc]
theorem Addr.add_zero (a : Addr) : a.add 0 = a := by simp [Addr.add]
theorem Addr.add_block (a : Addr) (i : Nat) : (a.add i).block = a.block := by unfold Addr.add; split <;> rfl
theorem Wk.CellsAt.nil {w : World} {p : Addr} : CellsAt w p [] := fun j v h => by simp at h
/-! ### A new block -/
section
variable {w w' w'' : World} {p : Addr} {cs : Array Value} {T : TypeId}
theorem Wk.New.heap (h : New w (.cells cs T) p w') : w'.heap[p.block]? = some (.cells cs T (0, 0)) := by
  rw [h.is, h.at_]; exact heap_alloc_new w _
theorem Wk.New.block (h : New w (.cells cs T) p w') : p.block = w.heap.size := by rw [h.at_]
theorem Wk.New.spot (h : New w (.cells cs T) p w') : p = ⟨p.block, 0, none⟩ := by rw [h.at_]
theorem Wk.New.size (h : New w (.cells cs T) p w') : w'.heap.size = w.heap.size + 1 := by rw [h.is]; simp
theorem Wk.New.lt (h : New w (.cells cs T) p w') : p.block < w'.heap.size := by rw [h.size, h.block]; omega
theorem Wk.New.cells (h : New w (.cells cs T) p w') {vs : List Value} (hv : cs.toList = vs) : CellsAt w' p vs := fun j v hj => by
  have e : p.add j = ⟨p.block, j, none⟩ := by rw [h.at_]; unfold Addr.add; split <;> simp_all
  rw [e]
  simp only [World.cell?, h.heap]
  subst hv
  simpa using hj
theorem Wk.New.soft (h : New w (.cells cs T) p w') {k : Nat} (hk : cs.size = k) : Soft w' p k := fun j hj => by
  have e : p.add j = ⟨p.block, j, none⟩ := by rw [h.at_]; unfold Addr.add; split <;> simp_all
  rw [e]
  refine ⟨?_, ?_⟩
  · simp only [World.cell?, h.heap]
    have : j < cs.size := by omega
    simp [this]
  · simp [World.frozen?, h.heap]
theorem setCellsFrom_heap (b : Nat) (T : TypeId) (fz : Nat × Nat) : ∀ (vs : List Value) (i : Nat) (w : World) (cs : Array Value), w.heap[b]? = some (.cells cs T fz) → i + vs.length ≤ cs.size →
    (setCellsFrom w ⟨b, 0, none⟩ i vs).heap[b]? = some (.cells ((cs.toList.take i ++ vs ++ cs.toList.drop (i + vs.length)).toArray) T fz) ∧
    ∀ k, k ≠ b → (setCellsFrom w ⟨b, 0, none⟩ i vs).heap[k]? = w.heap[k]?
  | [], i, w, cs, h, hl => by simp [setCellsFrom, h]
  | v :: vs, i, w, cs, h, hl => by
    have e : (⟨b, 0, none⟩ : Addr).add i = ⟨b, i, none⟩ := by unfold Addr.add; split <;> simp_all
    have hi : i < cs.size := by simp at hl; omega
    have h1 : (w.setCell ⟨b, i, none⟩ v).heap[b]? = some (.cells (cs.setIfInBounds i v) T fz) := by
      simp [World.setCell, Array.getElem?_modify, h]
    obtain ⟨h2, h3⟩ := setCellsFrom_heap b T fz vs (i + 1) (w.setCell ⟨b, i, none⟩ v) (cs.setIfInBounds i v) h1 (by simp at hl ⊢; omega)
    refine ⟨?_, fun k hk => ?_⟩
    · simp only [setCellsFrom, e, h2]
      refine congrArg (fun l => some (Obj.cells (List.toArray l) T fz)) ?_
      apply List.ext_getElem?
      intro j
      simp only [Array.toList_setIfInBounds, List.getElem?_append, List.length_append, List.length_take, List.length_set, List.getElem?_take, List.getElem?_drop, List.length_cons, List.getElem?_set, List.getElem?_cons, Array.length_toList]
      rcases Nat.lt_trichotomy j i with h4 | h4 | h4
      · simp [show j < min (i + 1) cs.size + vs.length by omega, show j < min (i + 1) cs.size by omega, show j < i + 1 by omega, show i ≠ j by omega, show j < min i cs.size + (vs.length + 1) by omega, show j < min i cs.size by omega, h4]
      · subst h4
        simp [show j < min (j + 1) cs.size + vs.length by omega, show j < min (j + 1) cs.size by omega, show j < min j cs.size + (vs.length + 1) by omega, show ¬ j < min j cs.size by omega, show j - min j cs.size = 0 by omega, hi]
      · rcases Nat.lt_or_ge j (i + 1 + vs.length) with h5 | h5
        · simp [show j < min (i + 1) cs.size + vs.length by omega, show ¬ j < min (i + 1) cs.size by omega, show j < min i cs.size + (vs.length + 1) by omega, show ¬ j < min i cs.size by omega, show j - min i cs.size ≠ 0 by omega, show j - min (i + 1) cs.size = j - min i cs.size - 1 by omega]
        · simp [show ¬ j < min (i + 1) cs.size + vs.length by omega, show ¬ j < min i cs.size + (vs.length + 1) by omega, show i ≠ i + 1 + vs.length + (j - (min (i + 1) cs.size + vs.length)) by omega, show i + 1 + vs.length + (j - (min (i + 1) cs.size + vs.length)) = i + (vs.length + 1) + (j - (min i cs.size + (vs.length + 1))) by omega]
          intro h6; omega
    · simp only [setCellsFrom, e]
      rw [h3 k hk]
      simp only [World.setCell, Array.getElem?_modify]
      rw [if_neg (by simpa using fun h => hk h.symm)]
theorem setCellsFrom_rest (p : Addr) : ∀ (vs : List Value) (i : Nat) (w : World), (setCellsFrom w p i vs).os = w.os ∧ (setCellsFrom w p i vs).tape = w.tape ∧ (setCellsFrom w p i vs).output = w.output ∧ (setCellsFrom w p i vs).drawn = w.drawn ∧ (setCellsFrom w p i vs).heap.size = w.heap.size
  | [], i, w => ⟨rfl, rfl, rfl, rfl, rfl⟩
  | v :: vs, i, w => by
    obtain ⟨h1, h2, h3, h4, h5⟩ := setCellsFrom_rest p vs (i + 1) (w.setCell (p.add i) v)
    exact ⟨h1, h2, h3, h4, by simp only [setCellsFrom]; rw [h5]; simp [World.setCell]⟩
/-- Made, and written full at once. -/
theorem Wk.New.store (h : New w (.cells cs T) p w') {vs : List Value} (hw : w'' = setCellsAt w' p vs) (hl : cs.size = vs.length) : New w (.cells vs.toArray T) p w'' := by
  refine ⟨h.at_, ?_⟩
  subst hw
  have hp := h.spot
  obtain ⟨h1, h2⟩ := setCellsFrom_heap p.block T (0, 0) vs 0 w' cs h.heap (by omega)
  obtain ⟨r1, r2, r3, r4, r5⟩ := setCellsFrom_rest p vs 0 w'
  have hb := h.block
  have e : setCellsAt w' p vs = setCellsFrom w' ⟨p.block, 0, none⟩ 0 vs := by unfold setCellsAt; rw [← hp]
  have hh : (setCellsAt w' p vs).heap = (w.alloc (.cells vs.toArray T)).heap := by
    apply Array.ext_getElem?
    intro k
    rw [e]
    by_cases hk : k = p.block
    · subst hk
      rw [h1, hb, heap_alloc_new]
      simp [hl, show ∀ (l : List Value), l.length = vs.length → l.drop vs.length = [] from fun l hl => List.drop_eq_nil_of_le (by omega)]
    · rw [h2 k hk, h.is]
      simp only [World.alloc, Array.getElem?_push]
      rw [if_neg (by omega), if_neg (by omega)]
  have e1 : (setCellsAt w' p vs).os = w.os := by show (setCellsFrom w' p 0 vs).os = _; rw [r1, h.is]; rfl
  have e2 : (setCellsAt w' p vs).tape = w.tape := by show (setCellsFrom w' p 0 vs).tape = _; rw [r2, h.is]; rfl
  have e3 : (setCellsAt w' p vs).output = w.output := by show (setCellsFrom w' p 0 vs).output = _; rw [r3, h.is]; rfl
  have e4 : (setCellsAt w' p vs).drawn = w.drawn := by show (setCellsFrom w' p 0 vs).drawn = _; rw [r4, h.is]; rfl
  generalize setCellsAt w' p vs = z at *
  cases z; cases w
  simp only [World.alloc] at *
  simp_all
end
/-! ### Stores -/
theorem setCellsAt_keep {w w' : World} {p : Addr} {vs : List Value} (hw : w' = setCellsAt w p vs) : Keep (fun b => b = p.block) w w' := by
  subst hw
  obtain ⟨r1, r2, r3, r4, r5⟩ := setCellsFrom_rest p vs 0 w
  refine ⟨Nat.le_of_eq r5.symm, r1, r2, r3, fun b hb hne => ?_⟩
  have : ∀ (vs : List Value) (i : Nat) (w : World), (setCellsFrom w p i vs).heap[b]? = w.heap[b]? := by
    intro vs
    induction vs with
    | nil => intro i w; rfl
    | cons v vs ih =>
      intro i w
      simp only [setCellsFrom]
      rw [ih]
      simp only [World.setCell, Array.getElem?_modify]
      rw [if_neg (by rw [Addr.add_block]; exact fun h => hne h.symm)]
  exact this vs 0 w
theorem Wk.Keep.set {X : Nat → Prop} {a b c : World} {p : Addr} {vs : List Value} (h : Keep X a b) (hw : c = setCellsAt b p vs) (hp : a.heap.size ≤ p.block ∨ X p.block) : Keep X a c := by
  have k := setCellsAt_keep hw
  refine ⟨Nat.le_trans h.size k.size, k.os.trans h.os, k.tape.trans h.tape, k.output.trans h.output, fun i hi hx => ?_⟩
  refine (k.block i (Nat.lt_of_lt_of_le hi h.size) fun e => ?_).trans (h.block i hi hx)
  subst e
  rcases hp with hp | hp
  · omega
  · exact hx hp
theorem setCell_keep {w w' : World} {p : Addr} {v : Value} (hw : w' = w.setCell p v) : Keep (fun b => b = p.block) w w' := by
  subst hw
  refine ⟨by simp [World.setCell], rfl, rfl, rfl, fun b hb hne => ?_⟩
  simp only [World.setCell, Array.getElem?_modify]
  rw [if_neg (fun h => hne h.symm)]
theorem Wk.Keep.set1 {X : Nat → Prop} {a b c : World} {p : Addr} {v : Value} (h : Keep X a b) (hw : c = b.setCell p v) (hp : a.heap.size ≤ p.block ∨ X p.block) : Keep X a c := by
  have k := setCell_keep hw
  refine ⟨Nat.le_trans h.size k.size, k.os.trans h.os, k.tape.trans h.tape, k.output.trans h.output, fun i hi hx => ?_⟩
  refine (k.block i (Nat.lt_of_lt_of_le hi h.size) fun e => ?_).trans (h.block i hi hx)
  subst e
  rcases hp with hp | hp
  · omega
  · exact hx hp
theorem soft_lt {w : World} {p : Addr} {k : Nat} (h : Soft w p k) (hk : 0 < k) : p.block < w.heap.size := by
  obtain ⟨u, hu⟩ := Option.isSome_iff_exists.1 (h 0 hk).1
  rw [Addr.add_zero] at hu
  exact World.block_lt_of_cell? w p hu
/-- Written: so it reads. -/
theorem set_cells {w w' : World} {p : Addr} {vs : List Value} (hw : w' = setCellsAt w p vs) (hs : Soft w p vs.length) : CellsAt w' p vs := by
  subst hw
  have key : ∀ (vs : List Value) (i : Nat) (w : World), (∀ j, j < vs.length → (w.cell? (p.add (i + j))).isSome = true) →
      (∀ j v, vs[j]? = some v → (setCellsFrom w p i vs).cell? (p.add (i + j)) = some v) ∧ ∀ q, (∀ j, j < vs.length → p.add (i + j) ≠ q) → (setCellsFrom w p i vs).cell? q = w.cell? q := by
    intro vs
    induction vs with
    | nil => intro i w _; exact ⟨fun j v h => by simp at h, fun q _ => rfl⟩
    | cons v vs ih =>
      intro i w hs
      have h0 := hs 0 (by simp)
      simp only [Nat.add_zero] at h0
      obtain ⟨u, hu⟩ := Option.isSome_iff_exists.1 h0
      have inj : ∀ j k, j < (v :: vs).length → k < (v :: vs).length → p.add (i + j) = p.add (i + k) → j = k := by
        intro j k hj hk he
        obtain ⟨x, hx⟩ := Option.isSome_iff_exists.1 (hs j hj)
        obtain ⟨y, hy⟩ := Option.isSome_iff_exists.1 (hs k hk)
        have off : ∀ n, (p.add n).off = p.off + n := fun n => by
          unfold Addr.add
          split
          · rename_i h0; rw [h0, Nat.add_zero]
          · rfl
        have hpx : (p.add (i + j)).off = (p.add (i + k)).off := by rw [he]
        rw [off, off] at hpx
        omega
      obtain ⟨h1, h2⟩ := ih (i + 1) (w.setCell (p.add i) v) (fun j hj => by
        have h3 := hs (j + 1) (by simp; omega)
        rw [show i + 1 + j = i + (j + 1) by omega]
        by_cases he : p.add i = p.add (i + (j + 1))
        · rw [← he, World.cell?_setCell_same w _ v hu]; rfl
        · rw [World.cell?_setCell_other w _ _ v he]; exact h3)
      refine ⟨fun j x hx => ?_, fun q hq => ?_⟩
      · cases j with
        | zero =>
          simp at hx; subst hx
          simp only [setCellsFrom, Nat.add_zero]
          rw [h2 (p.add i) (fun j hj he => by have := inj (j + 1) 0 (by simp; omega) (by simp) (by rw [show i + (j + 1) = i + 1 + j by omega]; simpa using he); omega)]
          exact World.cell?_setCell_same w _ v hu
        | succ j =>
          have := h1 j x (by simpa using hx)
          rwa [show i + 1 + j = i + (j + 1) by omega] at this
      · simp only [setCellsFrom]
        rw [h2 q (fun j hj => by have := hq (j + 1) (by simp; omega); rwa [show i + (j + 1) = i + 1 + j by omega] at this)]
        exact World.cell?_setCell_other w _ _ v (by have := hq 0 (by simp); simpa using this)
  intro j v hv
  have := (key vs 0 w (fun j hj => by simpa using (hs j hj).1)).1 j v hv
  simpa [setCellsAt] using this
theorem Wk.Keep.soft {X : Nat → Prop} {w w' : World} (h : Keep X w w') {p : Addr} {k : Nat} (hs : Soft w p k) (hp : ¬ X p.block) : Soft w' p k := fun j hj => by
  obtain ⟨h1, h2⟩ := hs j hj
  obtain ⟨u, hu⟩ := Option.isSome_iff_exists.1 h1
  have hb := h.block (p.add j).block (World.block_lt_of_cell? w _ hu) (by rw [Addr.add_block]; exact hp)
  exact ⟨by rw [World.cell?_of_block hb]; exact h1, (World.frozen?_of_block hb).trans h2⟩
theorem Wk.Keep.own {X : Nat → Prop} {w w' : World} (h : Keep X w w') {p : Addr} {vs : List Value} (k : CellsAt w p vs) (hp : ¬ X p.block) : CellsAt w' p vs := h.cells ⟨k, hp⟩
/-- Two new blocks that are written one behind the other. -/
theorem two_new {wa wb wc wd we wf : World} {T S : TypeId} {cs ds : Array Value} {p q : Addr} (h1 : Drawn wa wb) (h2 : New wb (.cells cs T) p wc) (h3 : Drawn wc wd) (h4 : New wd (.cells ds S) q we) (h5 : Drawn we wf) :
    Ext wa wf ∧ Soft wf p cs.size ∧ Soft wf q ds.size ∧ p.block ≠ q.block ∧ wa.heap.size ≤ p.block ∧ wa.heap.size ≤ q.block := by
  have e1 := h2.block
  have e2 := h4.block
  have e3 := h2.lt
  have e4 : wd.heap.size = wc.heap.size := by rw [h3.heap]
  have e5 : wb.heap.size = wa.heap.size := by rw [h1.heap]
  refine ⟨((((Ext.of_drawn h1).new h2).drawn h3).new h4).drawn h5, ?_, ?_, by omega, by omega, by omega⟩
  · exact (((Ext.of_drawn h3).new h4).drawn h5).soft (h2.soft rfl) (fun h => h)
  · exact (Ext.of_drawn h5).soft (h4.soft rfl) (fun h => h)
theorem two_set {wa wf wg wh : World} {p q : Addr} {us vs : List Value} (hE : Ext wa wf) (hp : Soft wf p us.length) (hq : Soft wf q vs.length) (hne : p.block ≠ q.block) (p0 : wa.heap.size ≤ p.block) (q0 : wa.heap.size ≤ q.block)
    (h1 : wg = setCellsAt wf p us) (h2 : Drawn wg wh) : Ext wa wg ∧ Soft wh q vs.length ∧ ∀ wi, wi = setCellsAt wh q vs → ∀ wj, Drawn wi wj → Ext wa wj ∧ CellsAt wj p us ∧ CellsAt wj q vs := by
  have k1 := setCellsAt_keep h1
  have E1 : Ext wa wg := hE.set h1 (.inl p0)
  have s1 : Soft wh q vs.length := (k1.drawn h2).soft hq (fun h => hne h.symm)
  refine ⟨E1, s1, fun wi h3 wj h4 => ?_⟩
  have k2 := setCellsAt_keep h3
  refine ⟨((E1.drawn h2).set h3 (.inl q0)).drawn h4, ?_, ?_⟩
  · exact (Ext.of_drawn h4).cells (k2.own ((Ext.of_drawn h2).cells (set_cells h1 hp)) hne)
  · exact (Ext.of_drawn h4).cells (set_cells h3 s1)
/-! ### Bools of propositions; calls that only read -/
noncomputable def dec (p : Prop) : Bool := @decide p (Classical.propDecidable p)
theorem dec_iff {p : Prop} : dec p = true ↔ p := by unfold dec; exact @decide_eq_true_iff p (Classical.propDecidable p)
theorem eq_dec {b : Bool} {p : Prop} (h : b = true ↔ p) : b = dec p := by
  cases hb : dec p with
  | true => exact h.2 (dec_iff.1 hb)
  | false => cases b with
    | false => rfl
    | true => rw [dec_iff.2 (h.1 rfl)] at hb; cases hb
/-- It answers v and only reads. -/
def Quiet (P : Program) (f : FuncId) (args : Array Value) (w : World) (v : Value) : Prop := Calls P f args w fun x w' => x = .returned v ∧ Drawn w w'
theorem Quiet.of {P : Program} {f : FuncId} {args : Array Value} {w : World} {v : Value} (h : Calls P f args w (Ret fun u w' => u = v ∧ Drawn w w')) : Quiet P f args w v :=
  h.mono fun x w' ⟨u, hx, hu, hd⟩ => ⟨by rw [hx, hu], hd⟩
theorem Quiet.use {P : Program} {f : FuncId} {args : Array Value} {w : World} {v : Value} {K : Value → World → Prop} (h : Quiet P f args w v) (k : ∀ w', Drawn w w' → K v w') : Calls P f args w (Ret K) :=
  h.mono fun x w' ⟨hx, hd⟩ => ⟨v, hx, k w' hd⟩
/-! ### Codecs -/
structure Cod (α : Type) where
  size : Nat
  rd : World → List Value → α → Prop
  keep : ∀ {w w' : World} {vs : List Value} {x : α}, (∀ p v, w.cell? p = some v → w'.cell? p = some v) → rd w vs x → rd w' vs x
/-- The slice with the base A and the length n reads as these. -/
def Sl {α : Type} (c : Cod α) (w : World) (A : Option Addr) (n : Nat) (xs : List α) : Prop :=
  xs.length = n ∧ ∀ i x, xs[i]? = some x → ∃ ad vs, A = some ad ∧ vs.length = c.size ∧ CellsAt w (ad.add (i * c.size)) vs ∧ c.rd w vs x
theorem Sl.keep {α : Type} {c : Cod α} {w w' : World} {A : Option Addr} {n : Nat} {xs : List α} (h : Sl c w A n xs) (k : ∀ p v, w.cell? p = some v → w'.cell? p = some v) : Sl c w' A n xs :=
  ⟨h.1, fun i x hx => let ⟨ad, vs, h1, h2, h3, h4⟩ := h.2 i x hx; ⟨ad, vs, h1, h2, fun j v hv => k _ _ (h3 j v hv), c.keep k h4⟩⟩
theorem Sl.ext {α : Type} {c : Cod α} {w w' : World} {A : Option Addr} {n : Nat} {xs : List α} (h : Sl c w A n xs) (k : Ext w w') : Sl c w' A n xs := h.keep fun _ _ => k.cell
theorem Sl.at {α : Type} {c : Cod α} {w : World} {A : Option Addr} {n : Nat} {xs : List α} (h : Sl c w A n xs) {i : Int} (h0 : 0 ≤ i) (h1 : i < n) :
    ∃ x ad vs, xs[i.toNat]? = some x ∧ A = some ad ∧ vs.length = c.size ∧ CellsAt w (ad.add (i.toNat * c.size)) vs ∧ c.rd w vs x := by
  have hi : i.toNat < xs.length := by rw [h.1]; omega
  obtain ⟨ad, vs, h2⟩ := h.2 i.toNat xs[i.toNat] (List.getElem?_eq_getElem hi)
  exact ⟨_, ad, vs, List.getElem?_eq_getElem hi, h2⟩
theorem Sl.nil {α : Type} (c : Cod α) (w : World) (A : Option Addr) : Sl c w A 0 [] := ⟨rfl, fun i x hx => by simp at hx⟩
/-- The first of them. -/
theorem Sl.take {α : Type} {c : Cod α} {w : World} {A : Option Addr} {n : Nat} {xs : List α} (h : Sl c w A n xs) {k : Nat} (hk : k ≤ n) : Sl c w A k (xs.take k) :=
  ⟨by rw [List.length_take, h.1]; omega, fun i x hx => h.2 i x (by rw [List.getElem?_take] at hx; split at hx; exact hx; cases hx)⟩
def cInt (k : IntKind) : Cod Int := ⟨1, fun _ vs x => vs = [.int k x], fun _ h => h⟩
def cBool : Cod Bool := ⟨1, fun _ vs x => vs = [.bool x], fun _ h => h⟩
def cStr : Cod ByteArray := ⟨1, fun _ vs x => vs = [.string x], fun _ h => h⟩
def cSl {α : Type} (c : Cod α) : Cod (List α) := ⟨1, fun w vs xs => ∃ A n cp, vs = [.slice A n cp] ∧ Sl c w A n xs, fun k ⟨A, n, cp, hv, h⟩ => ⟨A, n, cp, hv, h.keep k⟩⟩
abbrev Ints := Sl (cInt .i64)
theorem Sl.int {k : IntKind} {w : World} {A : Option Addr} {n : Nat} {xs : List Int} (h : Sl (cInt k) w A n xs) {i : Int} (h0 : 0 ≤ i) (h1 : i < n) :
    ∃ x ad, xs[i.toNat]? = some x ∧ A = some ad ∧ w.cell? (ad.add (i.toNat * 1)) = some (.int k x) := by
  obtain ⟨x, ad, vs, hx, hA, hl, hc, hr⟩ := h.at h0 h1
  have : vs = [.int k x] := hr
  subst this
  exact ⟨x, ad, hx, hA, by simpa [cInt, Addr.add_zero] using hc 0 _ rfl⟩
theorem wrap_small {i : Int} (h0 : -9223372036854775808 ≤ i) (h1 : i ≤ 9223372036854775807) : IntKind.wrap .i64 i = i := by
  simp only [IntKind.wrap, IntKind.bits, IntKind.signed]
  simp
  omega
/-! ### Rows of our own, appended to -/
theorem Wk.Keep.over {X Y : Nat → Prop} {a b c : World} (h : Keep X a b) (k : Keep Y b c) (hY : ∀ i, i < a.heap.size → Y i → X i) : Keep X a c :=
  ⟨Nat.le_trans h.size k.size, k.os.trans h.os, k.tape.trans h.tape, k.output.trans h.output, fun i hi hx => (k.block i (Nat.lt_of_lt_of_le hi h.size) (fun hy => hx (hY i hi hy))).trans (h.block i hi hx)⟩
def infoN (P : Program) (t : TypeId) : Option (Nat × Nat × Nat) := (P.info? t).bind fun i => i.zero.map fun z => (i.size, i.bytes, z.cells.size)
/-- The slice with this base, length and room is ours: it holds these values, and nobody else's block. -/
def Own (w : World) (base : Nat) (e : TypeId) (s : Nat) (A : Option Addr) (n c : Nat) (vs : List Value) : Prop := w.ownsRow base e s (.slice A n c) n vs
def At (A : Option Addr) (b : Nat) : Prop := ∃ a, A = some a ∧ a.block = b
theorem Own.nil (w : World) (base : Nat) (e : TypeId) (s : Nat) : Own w base e s none 0 0 [] := World.ownsRow_nil w base e s
theorem Own.at {w : World} {base : Nat} {e : TypeId} {s : Nat} {A : Option Addr} {n c : Nat} {vs : List Value} (h : Own w base e s A n c vs) {b : Nat} (hb : At A b) : base ≤ b ∧ b < w.heap.size := by
  obtain ⟨a, rfl, rfl⟩ := hb
  exact World.ownsRow.lt h _ rfl
theorem Own.keep {X : Nat → Prop} {w w' : World} {base : Nat} {e : TypeId} {s : Nat} {A : Option Addr} {n c : Nat} {vs : List Value} (h : Own w base e s A n c vs) (k : Keep X w w') (hx : ∀ b, At A b → ¬ X b) : Own w' base e s A n c vs := by
  refine ⟨h.1, ?_⟩
  rcases h.2 with hn | ⟨g, cap, cur, hv, hb, hg, hr⟩
  · exact .inl hn
  · refine .inr ⟨g, cap, cur, hv, hb, ?_, hr⟩
    have hA : At A g := by
      injection hv with h1 _ _
      exact ⟨_, h1, rfl⟩
    rw [k.block g (Own.at h hA).2 (hx g hA), hg]
theorem Own.cells {w : World} {base : Nat} {e : TypeId} {s : Nat} {A : Option Addr} {n c : Nat} {vs : List Value} (h : Own w base e s A n c vs) : vs = [] ∨ ∃ a, A = some a ∧ CellsAt w a vs := by
  rcases h.2 with hn | ⟨g, cap, cur, hv, hb, hg, hr⟩
  · left
    have := h.1
    rw [hn.2] at this
    exact List.length_eq_zero_iff.1 (by simpa using this)
  · right
    injection hv with h1 _ _
    subst h1
    exact ⟨_, rfl, fun j v hj => World.ownsRow.cells h rfl j v hj⟩
theorem Own.append {P : Program} {w : World} {base : Nat} {t ty e : TypeId} {s by_ : Nat} {A : Option Addr} {n c m c2 : Nat} {vs news : List Value} {a : Addr} (h : Own w base e s A n c vs) (ht : elemT P t = some e) (hi : infoN P e = some (s, by_, s)) (hs : 0 < s) (hs2 : s ≤ 64) (hb2 : by_ ≤ 64)
    (hl : news.length = m * s) (hc : CellsAt w a news) (h1 : ∀ u ∈ news, u.oneCell' = true) (hn : n + m ≤ 2199023255552) (hb : base ≤ w.heap.size) :
    ∃ A' c' w', (Builtin.append_ #[t, t] ty #[.slice A n c, .slice (some a) m c2]).run P w = .ok (.slice A' (n + m) c') w' ∧ Own w' base e s A' (n + m) c' (vs ++ news) ∧ Keep (At A) w w' ∧ ∀ b, At A' b → At A b ∨ w.heap.size ≤ b := by
  unfold infoN at hi
  obtain ⟨i, hi1, hi2⟩ := Option.bind_eq_some_iff.1 hi
  obtain ⟨z, hz, hq⟩ := Option.map_eq_some_iff.1 hi2
  injection hq with q1 q2
  injection q2 with q2 q3
  have hby : (n + m) * by_ ≤ 140737488355328 := Nat.le_trans (Nat.mul_le_mul hn hb2) (by decide)
  obtain ⟨v', w', hr, ho, hg, _⟩ := run_append_own (P := P) w base t ty e i z s by_ (elem_under ht) hi1 hz q1 q2 q3 hs (.slice A n c) n vs h a m c2 news hl hc h1 (by simp only [maxLen]; omega) hby hb
  have hv : ∃ A' c', v' = .slice A' (n + m) c' := by
    rcases ho.2 with ⟨rfl, h0⟩ | ⟨g, cap, cur, rfl, _⟩
    · exact ⟨none, 0, by rw [h0]⟩
    · exact ⟨_, _, rfl⟩
  obtain ⟨A', c', rfl⟩ := hv
  refine ⟨A', c', w', hr, ho, ⟨hg.size, hg.os, hg.tape, hg.output, fun b hb hx => hg.block b hb fun he => hx ?_⟩, ?_⟩
  · cases A with
    | none => simp [Value.ownBlock] at he
    | some a => simp [Value.ownBlock] at he; exact ⟨a, rfl, he.symm⟩
  · rintro b ⟨a', rfl, rfl⟩
    have eqn : ∀ {x : Addr} {k l : Nat} {w2 : World}, (Builtin.append_ #[t, t] ty #[.slice A n c, .slice (some a) m c2]).run P w = .ok (.slice (some x) k l) w2 → a' = x := fun {x k l w2} hh => by
      rw [hr] at hh
      injection hh with hh _
      injection hh with hh _ _
      injection hh
    rcases h.2 with ⟨hn0, h0⟩ | ⟨g, cap, cur, hv, hbg, hgg, hnc, hcm, hcs, htk⟩
    · injection hn0 with e1 e2 e3
      subst e1 e2 e3
      rcases Nat.eq_zero_or_pos m with hm | hm
      · exfalso
        rcases ho.2 with ⟨hq, _⟩ | ⟨g, cap, cur, hq, hbg, hgg, _⟩
        · cases hq
        · subst hm
          have hn' : news = [] := List.eq_nil_of_length_eq_zero (by simpa using hl)
          subst hn'
          have : (Builtin.append_ #[t, t] ty #[.slice none 0 0, .slice (some a) 0 c2]).run P w = .ok (.slice none 0 0) w := by
            simp [Builtin.append_, run_underlying (elem_under ht), sizeOf, typeInfo, hi1, Builtin.lenOf, Builtin.firstCells, loadCells, loadCellsFrom]
          rw [hr] at this
          injection this with this _
          injection this with this _ _
          cases this
      · have := eqn (run_append_nil (P := P) w t ty e i z (elem_under ht) hi1 hz a m c2 news (by rw [q1]; exact hl) hc hm (by omega) (by rw [q2]; simp only [Nat.zero_add] at hby; omega))
        subst this
        exact .inr (Nat.le_refl _)
    · injection hv with e1 e2 e3
      subst e1 e3
      by_cases hroom : n + m ≤ c
      · have := eqn (run_append_room (P := P) w t ty e i (elem_under ht) hi1 g n c cur hgg a m c2 news (by rw [q1]; exact hl) hc h1 hroom (by rw [q1, hl, hcs, ← Nat.add_mul]; exact Nat.mul_le_mul_right _ hroom))
        subst this
        exact .inl ⟨_, rfl, rfl⟩
      · have := eqn (run_append_grow (P := P) w t ty e i z (elem_under ht) hi1 hz ⟨g, 0, none⟩ n c vs (by rw [q1]; exact h.1) (World.ownsRow.cells h rfl) a m c2 news (by rw [q1]; exact hl) hc (by omega) (by omega) (growslice_fits (by omega) (by rw [q2]; exact hby)))
        subst this
        exact .inr (Nat.le_refl _)
theorem Own.ints {w : World} {base : Nat} {e : TypeId} {A : Option Addr} {n c : Nat} {xs : List Int} (h : Own w base e 1 A n c (xs.map (.int .i64))) : Ints w A n xs := by
  refine ⟨by have := h.1; simpa using this, fun i x hx => ?_⟩
  rcases h.cells with h0 | ⟨a, ha, hc⟩
  · simp at h0; subst h0; simp at hx
  · refine ⟨a, [.int .i64 x], ha, rfl, fun j v hj => ?_, rfl⟩
    cases j with
    | zero =>
      simp at hj
      subst hj
      rw [Addr.add_zero]
      have := hc i (.int .i64 x) (by simp [hx])
      simpa [cInt] using this
    | succ j => simp at hj
end Go.Proofs.Ytnbakpoahcndpaa
