/- What lives on while some blocks are written; and a struct of rows of our own that grow. -/
import Derived.Test.YtnbakpoahcndpaaCod
set_option linter.unusedVariables false
set_option linter.unusedSimpArgs false
namespace Go.Proofs.Ytnbakpoahcndpaa
open Wk
/-- It holds whatever is written into the blocks of H. -/
def St (H : Nat → Prop) (w : World) (φ : World → Prop) : Prop := ∀ w', Keep H w w' → φ w'
/-- From w to w' the blocks of H alone were written; what H' has beyond H is new. -/
structure Adv (H : Nat → Prop) (w : World) (H' : Nat → Prop) (w' : World) : Prop where
  keep : Keep H w w'
  grow : ∀ i, i < w.heap.size → H' i → H i
section
variable {H H' H'' : Nat → Prop} {w w' w'' : World} {φ ψ : World → Prop}
theorem Adv.refl (H : Nat → Prop) (w : World) : Adv H w H w := ⟨Keep.refl H w, fun _ _ h => h⟩
theorem Adv.trans (h : Adv H w H' w') (k : Adv H' w' H'' w'') : Adv H w H'' w'' :=
  ⟨h.keep.over k.keep h.grow, fun i hi h2 => h.grow i hi (k.grow i (Nat.lt_of_lt_of_le hi h.keep.size) h2)⟩
theorem Adv.of_ext (h : Ext w w') : Adv H w H w' := ⟨h.mono (fun _ _ k => k.elim), fun _ _ h => h⟩
theorem Adv.less (h : ∀ i, i < w.heap.size → H' i → H i) : Adv H w H' w := ⟨Keep.refl H w, h⟩
/-- A set that holds more may go along. -/
theorem Adv.wide {Z : Nat → Prop} (h : Adv H w H' w') (hz : ∀ i, i < w.heap.size → H i → Z i) : Adv Z w (fun i => Z i ∨ H' i) w' := ⟨h.keep.mono hz, fun i hi k => k.elim id fun k => hz i hi (h.grow i hi k)⟩
theorem Adv.of_keep {X : Nat → Prop} (h : Keep X w w') (hx : ∀ i, i < w.heap.size → X i → H i) : Adv H w H w' := ⟨h.mono hx, fun _ _ k => k⟩
theorem Adv.of_new {o : Obj} {p : Addr} (h : New w o p w') : Adv H w H w' := Adv.of_ext (Ext.of_new h)
theorem Adv.of_drawn (h : Drawn w w') : Adv H w H w' := Adv.of_ext (Ext.of_drawn h)
theorem St.now (h : St H w φ) : φ w := h w (Keep.refl H w)
theorem St.adv (h : St H w φ) (k : Adv H w H' w') : St H' w' φ := fun w2 h2 => h w2 (k.keep.over h2 k.grow)
theorem St.imp (h : St H w φ) (k : ∀ w', φ w' → ψ w') : St H w ψ := fun w' hw => k w' (h w' hw)
theorem St.and (h : St H w φ) (k : St H w ψ) : St H w fun w => φ w ∧ ψ w := fun w' hw => ⟨h w' hw, k w' hw⟩
theorem St.of (h : ∀ w', Ext w w' → φ w') (hH : ∀ i, i < w.heap.size → ¬ H i) : St H w φ := fun w' hw => h w' (hw.mono fun i hi hx => hH i hi hx)
theorem St.cells {p : Addr} {vs : List Value} (h : CellsAt w p vs) (hp : ¬ H p.block) : St H w fun w => CellsAt w p vs := fun w' hw => hw.own h hp
theorem St.cell {p : Addr} {v : Value} (h : w.cell? p = some v) (hp : ¬ H p.block) : St H w fun w => w.cell? p = some v := fun w' hw => hw.cell ⟨h, hp⟩
theorem St.forall {ι : Sort _} {φ : ι → World → Prop} (h : ∀ i, St H w (φ i)) : St H w fun w => ∀ i, φ i w := fun w' hw i => h i w' hw
theorem Own.adv {base : Nat} {e : TypeId} {s : Nat} {A : Option Addr} {n c : Nat} {vs : List Value} (h : Own w base e s A n c vs) (hA : ∀ b, At A b → ¬ H b) (k : Adv H w H' w') : Own w' base e s A n c vs ∧ ∀ b, At A b → ¬ H' b :=
  ⟨h.keep k.keep hA, fun b hb h' => hA b hb (k.grow b (h.at hb).2 h')⟩
theorem Adv.lt {b : Nat} (k : Adv H w H' w') (hb : b < w.heap.size) (h : ¬ H b) : b < w'.heap.size ∧ ¬ H' b := ⟨Nat.lt_of_lt_of_le hb k.keep.size, fun h' => h (k.grow b hb h')⟩
theorem New.notH {o : Obj} {p : Addr} (h : New w o p w') (hH : ∀ i, H i → i < w.heap.size) : ¬ H p.block := fun k => by
  have := hH _ k
  rw [h.at_] at this
  simp at this
end
/-! ### Rows -/
/-- The blocks of the struct at p and of its rows. -/
def HX (R : Nat) (p : Addr) (A : Nat → Option Addr) (b : Nat) : Prop := b = p.block ∨ ∃ k, k < R ∧ At (A k) b
structure Rws (R : Nat) (ty : Nat → TypeId) (W0 w : World) (p : Addr) (A : Nat → Option Addr) (n c : Nat → Nat) (vs : Nat → List Value) : Prop where
  cell : ∀ k, k < R → w.cell? (p.add k) = some (.slice (A k) (n k) (c k))
  soft : Soft w p R
  own : ∀ k, k < R → Own w W0.heap.size (ty k) 1 (A k) (n k) (c k) (vs k)
  sep : ∀ j k, j < R → k < R → j ≠ k → ∀ b, At (A j) b → ¬ At (A k) b
  sepp : ∀ k, k < R → ¬ At (A k) p.block
  pnew : W0.heap.size ≤ p.block
  ext : Ext W0 w
section
variable {R : Nat} {ty : Nat → TypeId} {W0 w w' : World} {p : Addr} {A : Nat → Option Addr} {n c : Nat → Nat} {vs : Nat → List Value}
theorem Keep.of_new {X : Nat → Prop} {o : Obj} {p : Addr} {w w' : World} (h : New w o p w') : Keep X w w' := (Keep.refl X w).new h
theorem Rws.plt (h : Rws R ty W0 w p A n c vs) (hR : 0 < R) : p.block < w.heap.size := soft_lt h.soft hR
theorem Rws.hx (h : Rws R ty W0 w p A n c vs) (hR : 0 < R) : ∀ i, HX R p A i → W0.heap.size ≤ i ∧ i < w.heap.size := by
  rintro i (rfl | ⟨k, hk, hA⟩)
  · exact ⟨h.pnew, h.plt hR⟩
  · exact (h.own k hk).at hA
/-- The input still reads. -/
theorem Rws.old (h : Rws R ty W0 w p A n c vs) (hR : 0 < R) {φ : World → Prop} (hφ : ∀ w', Ext W0 w' → φ w') : St (HX R p A) w φ := fun w' hw =>
  hφ w' (h.ext.over hw fun i hi hx => by have := (h.hx hR i hx).1; omega)
theorem Rws.stay (h : Rws R ty W0 w p A n c vs) (hR : 0 < R) (k : Ext w w') : Rws R ty W0 w' p A n c vs :=
  ⟨fun j hj => k.cell (h.cell j hj), k.soft h.soft (fun h => h), fun j hj => (h.own j hj).keep k (fun _ _ h => h), h.sep, h.sepp, h.pnew, h.ext.trans k⟩
/-- Other blocks than the rows' own may be written. -/
theorem Rws.keep {X : Nat → Prop} (h : Rws R ty W0 w p A n c vs) (hR : 0 < R) (k : Keep X w w') (hX : ∀ i, HX R p A i → ¬ X i) (h0 : ∀ i, i < W0.heap.size → ¬ X i) : Rws R ty W0 w' p A n c vs :=
  ⟨fun j hj => k.cell ⟨h.cell j hj, by rw [Addr.add_block]; exact hX _ (.inl rfl)⟩, k.soft h.soft (hX _ (.inl rfl)), fun j hj => (h.own j hj).keep k fun b hb => hX b (.inr ⟨j, hj, hb⟩), h.sep, h.sepp, h.pnew, h.ext.over k fun i hi hx => absurd hx (h0 i hi)⟩
def upd {α : Type} (f : Nat → α) (k : Nat) (x : α) : Nat → α := fun j => if j = k then x else f j
theorem upd_same {α : Type} (f : Nat → α) (k : Nat) (x : α) : upd f k x k = x := by simp [upd]
theorem upd_ne {α : Type} (f : Nat → α) {j k : Nat} (x : α) (h : j ≠ k) : upd f k x j = f j := by simp [upd, h]
theorem add_inj {a : Addr} {i j : Nat} (h : a.add i = a.add j) : i = j := by
  have off : ∀ n, (a.add n).off = a.off + n := fun n => by
    unfold Addr.add
    split
    · rename_i h0; rw [h0, Nat.add_zero]
    · rfl
  have : (a.add i).off = (a.add j).off := by rw [h]
  rw [off, off] at this
  omega
/-- One of the rows grows by one value. -/
theorem Rws.push {P : Program} (h : Rws R ty W0 w p A n c vs) {k : Nat} (hk : k < R) {t : TypeId} (ht : elemT P t = some (ty k)) {by_ : Nat} (hinf : infoN P (ty k) = some (1, by_, 1)) (hb64 : by_ ≤ 64) {v : Value} (hv : v.oneCell' = true) (hn : n k ≤ 1099511627776)
    {T : TypeId} {p5 : Addr} {w7 : World} (hN : New w (.cells #[v] T) p5 w7) {c2 : Nat} :
    ∃ A' c' w8, (Builtin.append_ #[t, t] t #[.slice (A k) (n k) (c k), .slice (some p5) 1 c2]).run P w7 = .ok (.slice A' (n k + 1) c') w8 ∧ (∃ u, w8.cell? (p.add k) = some u) ∧ w8.frozen? (p.add k) = false ∧
      ∀ w9, w9 = w8.setCell (p.add k) (.slice A' (n k + 1) c') → Rws R ty W0 w9 p (upd A k A') (upd n k (n k + 1)) (upd c k c') (upd vs k (vs k ++ [v])) ∧ Adv (HX R p A) w (HX R p (upd A k A')) w9 := by
  have hR : 0 < R := by omega
  have h7 := h.stay hR (Ext.of_new hN)
  obtain ⟨A', c', w8, hr, hO, hK, hA'⟩ := (h7.own k hk).append (m := 1) (c2 := c2) (ty := t) ht hinf (by decide) (by decide) hb64 (news := [v]) rfl (hN.cells rfl) (by intro u hu; simp at hu; subst hu; exact hv) (by omega) h7.ext.size
  have e7 : w7.heap.size = w.heap.size + 1 := hN.size
  have pk : ¬ At (A k) p.block := h.sepp k hk
  have hp := h.plt hR
  have hc8 : w8.cell? (p.add k) = some (.slice (A k) (n k) (c k)) := hK.cell ⟨h7.cell k hk, by rw [Addr.add_block]; exact pk⟩
  have hs8 : Soft w8 p R := hK.soft h7.soft pk
  have pA' : ¬ At A' p.block := fun k => by
    rcases hA' _ k with k | k
    · exact pk k
    · omega
  refine ⟨A', c', w8, hr, ⟨_, hc8⟩, (hs8 k hk).2, ?_⟩
  intro w9 hw9
  have hK9 := setCell_keep hw9
  rw [Addr.add_block] at hK9
  have hK79 : Keep (HX R p A) w7 w9 := (hK.mono (fun i _ hi => .inr ⟨k, hk, hi⟩)).over hK9 fun i _ hi => .inl hi
  have hadv : Adv (HX R p A) w (HX R p (upd A k A')) w9 := by
    refine ⟨(Keep.of_new hN).over hK79 (fun i _ hi => hi), ?_⟩
    rintro i hi (rfl | ⟨j, hj, hj2⟩)
    · exact .inl rfl
    · by_cases hjk : j = k
      · subst hjk
        rw [upd_same] at hj2
        rcases hA' i hj2 with q | q
        · exact .inr ⟨j, hj, q⟩
        · omega
      · rw [upd_ne _ _ hjk] at hj2
        exact .inr ⟨j, hj, hj2⟩
  have alen : ∀ j, (p.add j).block = p.block := fun j => Addr.add_block p j
  refine ⟨⟨fun j hj => ?_, ?_, fun j hj => ?_, fun i j hi hj hij b hb => ?_, fun j hj => ?_, h.pnew, ?_⟩, hadv⟩
  · by_cases hjk : j = k
    · subst hjk
      rw [hw9, upd_same, upd_same, upd_same, World.cell?_setCell_same w8 _ _ hc8]
    · rw [hw9, upd_ne _ _ hjk, upd_ne _ _ hjk, upd_ne _ _ hjk, World.cell?_setCell_other w8 _ _ _ (fun q => hjk (add_inj q).symm)]
      exact hK.cell ⟨h7.cell j hj, by rw [alen]; exact pk⟩
  · intro j hj
    obtain ⟨g1, g2⟩ := hs8 j hj
    rw [hw9]
    refine ⟨?_, ?_⟩
    · by_cases hjk : p.add k = p.add j
      · rw [← hjk, World.cell?_setCell_same w8 _ _ hc8]; rfl
      · rw [World.cell?_setCell_other w8 _ _ _ hjk]; exact g1
    · rw [World.frozen?_setCell]; exact g2
  · by_cases hjk : j = k
    · subst hjk
      rw [upd_same, upd_same, upd_same, upd_same]
      exact hO.keep hK9 fun b hb hb2 => by subst hb2; exact pA' hb
    · rw [upd_ne _ _ hjk, upd_ne _ _ hjk, upd_ne _ _ hjk, upd_ne _ _ hjk]
      exact ((h7.own j hj).keep hK fun b hb => h.sep j k hj hk hjk b hb).keep hK9 fun b hb hb2 => by subst hb2; exact h.sepp j hj hb
  · have key : ∀ j, j < R → j ≠ k → ∀ b, At (A j) b → ¬ At A' b := by
      intro j hj hjk b hb hb2
      rcases hA' b hb2 with q | q
      · exact h.sep j k hj hk hjk b hb q
      · have := (h.own j hj).at hb; omega
    by_cases hik : i = k
    · subst hik
      rw [upd_same] at hb
      rw [upd_ne _ _ (fun q => hij q.symm)]
      exact fun q => key j hj (fun q => hij q.symm) b q hb
    · rw [upd_ne _ _ hik] at hb
      by_cases hjk : j = k
      · subst hjk
        rw [upd_same]
        exact key i hi hik b hb
      · rw [upd_ne _ _ hjk]
        exact h.sep i j hi hj hij b hb
  · by_cases hjk : j = k
    · subst hjk; rw [upd_same]; exact pA'
    · rw [upd_ne _ _ hjk]; exact h.sepp j hj
  · exact h.ext.over hadv.keep fun i hi hx => by have := (h.hx hR i hx).1; omega
end
/-! ### Values that read by a codec -/
def SlV {α : Type} (c : Cod α) (w : World) (vs : List Value) (xs : List α) : Prop := vs.length = xs.length * c.size ∧ ∀ i x, xs[i]? = some x → c.rd w ((vs.drop (i * c.size)).take c.size) x
theorem SlV.nil {α : Type} (c : Cod α) (w : World) : SlV c w [] [] := ⟨by simp, fun i x h => by simp at h⟩
theorem SlV.keep {α : Type} {c : Cod α} {w w' : World} {vs : List Value} {xs : List α} (h : SlV c w vs xs) (k : ∀ p v, w.cell? p = some v → w'.cell? p = some v) : SlV c w' vs xs := ⟨h.1, fun i x hx => c.keep k (h.2 i x hx)⟩
theorem SlV.snoc {α : Type} {c : Cod α} {w : World} {vs us : List Value} {xs : List α} {x : α} (h : SlV c w vs xs) (hu : us.length = c.size) (hr : c.rd w us x) : SlV c w (vs ++ us) (xs ++ [x]) := by
  refine ⟨by simp [h.1, hu, Nat.add_mul], fun i y hy => ?_⟩
  rcases Nat.lt_or_ge i xs.length with hi | hi
  · rw [List.getElem?_append_left hi] at hy
    have hle : i * c.size + c.size ≤ vs.length := by rw [h.1, ← Nat.succ_mul]; exact Nat.mul_le_mul_right _ hi
    rw [List.drop_append_of_le_length (by omega), List.take_append_of_le_length (by rw [List.length_drop]; omega)]
    exact h.2 i y hy
  · rw [List.getElem?_append_right hi] at hy
    have h0 : i - xs.length = 0 := by
      rcases Nat.eq_zero_or_pos (i - xs.length) with k | k
      · exact k
      · rw [List.getElem?_eq_none_iff.2 (by simp; omega)] at hy; cases hy
    rw [h0] at hy
    simp at hy
    subst hy
    have hi' : i = xs.length := by omega
    subst hi'
    rw [← h.1, List.drop_left, List.take_of_length_le (by omega)]
    exact hr
theorem SlV.app {α : Type} {c : Cod α} {w : World} {xs : List α} {vs : List Value} (h : SlV c w vs xs) : ∀ {ys : List α} {us : List Value}, SlV c w us ys → SlV c w (vs ++ us) (xs ++ ys) := by
  intro ys us k
  refine ⟨by simp [h.1, k.1, Nat.add_mul], fun i y hy => ?_⟩
  rcases Nat.lt_or_ge i xs.length with hi | hi
  · rw [List.getElem?_append_left hi] at hy
    have hle : i * c.size + c.size ≤ vs.length := by rw [h.1, ← Nat.succ_mul]; exact Nat.mul_le_mul_right _ hi
    rw [List.drop_append_of_le_length (by omega), List.take_append_of_le_length (by rw [List.length_drop]; omega)]
    exact h.2 i y hy
  · rw [List.getElem?_append_right hi] at hy
    have := k.2 _ y hy
    rwa [show i * c.size = vs.length + (i - xs.length) * c.size by rw [h.1, ← Nat.add_mul]; congr 1; omega, ← List.drop_drop, List.drop_left]
theorem Own.sl {α : Type} {c : Cod α} {w : World} {base : Nat} {e : TypeId} {A : Option Addr} {n cp : Nat} {vs : List Value} {xs : List α} (h : Own w base e c.size A n cp vs) (k : SlV c w vs xs) (hs : 0 < c.size) : Sl c w A n xs := by
  have hlen : xs.length = n := by
    have h1 := h.1
    have h2 := k.1
    rw [h1] at h2
    exact (Nat.eq_of_mul_eq_mul_right hs h2).symm
  refine ⟨hlen, fun i x hx => ?_⟩
  have hi := (List.getElem?_eq_some_iff.1 hx).1
  have hle : i * c.size + c.size ≤ vs.length := by rw [k.1, ← Nat.succ_mul]; exact Nat.mul_le_mul_right _ hi
  rcases h.cells with h0 | ⟨a, ha, hc⟩
  · rw [h0] at hle
    simp at hle
    omega
  · refine ⟨a, _, ha, by rw [List.length_take, List.length_drop]; omega, fun j v hj => ?_, k.2 i x hx⟩
    rw [List.getElem?_take] at hj
    split at hj
    · rw [List.getElem?_drop] at hj
      rw [Addr.add_add]
      exact hc _ v hj
    · cases hj
theorem Own.st {α : Type} {c : Cod α} {w : World} {H : Nat → Prop} {base : Nat} {e : TypeId} {A : Option Addr} {n cp : Nat} {vs : List Value} {xs : List α} (h : Own w base e c.size A n cp vs) (hA : ∀ b, At A b → ¬ H b) (k : St H w fun w => SlV c w vs xs) (hs : 0 < c.size) : St H w fun w => Sl c w A n xs := fun w' hw =>
  (h.keep hw hA).sl (k w' hw) hs
theorem slv_ints {k : IntKind} (w : World) (xs : List Int) : SlV (cInt k) w (xs.map (.int k)) xs := by
  refine ⟨by simp [cInt], fun i x hx => ?_⟩
  show _ = [Value.int k x]
  have hi := (List.getElem?_eq_some_iff.1 hx).1
  simp only [cInt, Nat.mul_one]
  apply List.ext_getElem?
  intro j
  rw [List.getElem?_take, List.getElem?_drop]
  cases j with
  | zero => simp [hx]
  | succ j => simp
theorem Own.cap {w : World} {base : Nat} {e : TypeId} {s : Nat} {A : Option Addr} {n c : Nat} {vs : List Value} (h : Own w base e s A n c vs) : n ≤ c := by
  rcases h.2 with ⟨h0, _⟩ | ⟨g, cap, cur, hv, _, _, hl, _⟩
  · injection h0; omega
  · injection hv; omega
theorem Own.len {w : World} {base : Nat} {e : TypeId} {s : Nat} {A : Option Addr} {n c : Nat} {vs : List Value} (h : Own w base e s A n c vs) : vs.length = n * s := h.1
/-- A new row with nothing in it yet. -/
theorem Own.new {w w' : World} {p : Addr} {e : TypeId} {s : Nat} (h : New w (.cells #[] e) p w') : Own w' w.heap.size e s (some p) 0 0 [] := by
  have := h.at_
  subst this
  rw [h.is]
  exact World.ownsRow_made w #[] 0 (Nat.le_refl _) (by decide) (by simp)
theorem Own.rebase {w : World} {b b' : Nat} {e : TypeId} {s : Nat} {A : Option Addr} {n c : Nat} {vs : List Value} (h : Own w b e s A n c vs) (hb : b' ≤ b) : Own w b' e s A n c vs := by
  refine ⟨h.1, ?_⟩
  rcases h.2 with h0 | ⟨g, cap, cur, hv, hg, hr⟩
  · exact .inl h0
  · exact .inr ⟨g, cap, cur, hv, by omega, hr⟩
end Go.Proofs.Ytnbakpoahcndpaa
