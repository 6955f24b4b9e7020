/- Towards: The law EufBack answers true at every input whose reading is of bulk at most 1048576, and the input reads as it did; the tables that it reads are tied to the program's text. Gathered by a program (pack.py) out of smaller texts. -/
import Derived.Test.YtnbakpoahcndpaaDoorBack3
set_option linter.unusedSectionVars false
namespace Go.Proofs.YtnbakpoahcndpaaDoor
set_option linter.unusedVariables false
set_option linter.unusedSimpArgs false
open Wk
def withWhy (g : GS) (y : List Edge) (t : List SaidR) (k : List Mk) : GS := { g with why := y, stand := t, marks := k }
def CoreEq (g g' : GS) : Prop := g = withWhy g' g.why g.stand g.marks
theorem CoreEq.of {g g' : GS} (h1 : g.nodes = g'.nodes) (h2 : g.nvals = g'.nvals) (h3 : g.first = g'.first) (h4 : g.ring = g'.ring) (h5 : g.size = g'.size) (h6 : g.least = g'.least) (h7 : g.uses = g'.uses) (h8 : g.sigs = g'.sigs) (h9 : g.changes = g'.changes) : CoreEq g g' := by
 cases g; cases g'
 simp only at h1 h2 h3 h4 h5 h6 h7 h8 h9
 subst h1 h2 h3 h4 h5 h6 h7 h8 h9
 rfl
theorem CoreEq.refl (g : GS) : CoreEq g g := rfl
theorem CoreEq.trans {g g' g'' : GS} (h : CoreEq g g') (h' : CoreEq g' g'') : CoreEq g g'' := by
 unfold CoreEq at *
 rw [h, h']
 rfl
theorem CoreEq.symm {g g' : GS} (h : CoreEq g g') : CoreEq g' g := by
 unfold CoreEq at *
 rw [h]
 rfl
def swapRing (g : GS) (s b : Int) : GS := { g with ring := (g.ring.set s.toNat (ringAt g b)).set b.toNat (ringAt g s) }
def dropChg (g : GS) : GS := { g with changes := g.changes.take (g.changes.length - 1) }
def undoneG (g : GS) (c : Chg) : GS :=
 if c.united = true then
  let g1 := setUses (dropChg g) c.b.toNat ((usesAt g c.b).take c.uses.toNat)
  let g2 := partG g1 c.s c.b (cycOf (swapRing g c.s c.b) c.s) (ringAt g c.s) (ringAt g c.b) (sizeAt g c.s) (sizeAt g c.b) c.least
  cutG g2 c.from_ c.to (edgeAt g.why c.from_) (edgeAt g.why c.to)
 else { dropChg g with sigs := adel g.sigs c.sig }
structure UndoOk (g : GS) (c : Chg) : Prop where
 vs : Vn g.nodes.length c.s
 vb : Vn g.nodes.length c.b
 ne : c.s ≠ c.b
 vf : Vn g.nodes.length c.from_
 vt : Vn g.nodes.length c.to
 u0 : 0 ≤ c.uses
 u1 : c.uses ≤ (usesAt g c.b).length
 cyc : CycIs (swapRing g c.s c.b) c.s (cycOf (swapRing g c.s c.b) c.s)
 z0 : 0 ≤ sizeAt g c.s
 z1 : 0 ≤ sizeAt g c.b
 z2 : sizeAt g c.s ≤ 1099511627776
 z3 : sizeAt g c.b ≤ 1099511627776
 lring : g.ring.length = g.nodes.length
 lsize : g.size.length = g.nodes.length
 lleast : g.least.length = g.nodes.length
 luses : g.uses.length = g.nodes.length
 lwhy : g.why.length = g.nodes.length
inductive Un : GS → GS → Prop
 | refl (g : GS) : Un g g
 | step {g g0 : GS} {cs : List Chg} {c : Chg} : g.changes = cs ++ [c] → (c.united = true → UndoOk g c) → Un (undoneG g c) g0 → Un g g0
theorem Un.trans {g g1 g2 : GS} (h : Un g g1) (h' : Un g1 g2) : Un g g2 := by
 induction h with
 | refl => exact h'
 | step h1 h2 _ ih => exact .step h1 h2 (ih h')
theorem undone_same (g : GS) (c : Chg) : (undoneG g c).nodes = g.nodes ∧ (undoneG g c).nvals = g.nvals ∧ (undoneG g c).stand = g.stand ∧ (undoneG g c).marks = g.marks ∧ (undoneG g c).changes = g.changes.take (g.changes.length - 1) := by
 unfold undoneG
 split
 ·simp only
  unfold cutG
  split <;> exact ⟨rfl, rfl, rfl, rfl, rfl⟩
 ·exact ⟨rfl, rfl, rfl, rfl, rfl⟩
theorem Un.same {g g0 : GS} (h : Un g g0) : g0.nodes = g.nodes ∧ g0.nvals = g.nvals ∧ g0.stand = g.stand ∧ g0.marks = g.marks := by
 induction h with
 | refl => exact ⟨rfl, rfl, rfl, rfl⟩
 | @step g g0 cs c _ _ _ ih =>
  obtain ⟨e1, e2, e3, e4, _⟩ := undone_same g c
  exact ⟨ih.1.trans e1, ih.2.1.trans e2, ih.2.2.1.trans e3, ih.2.2.2.trans e4⟩
theorem Un.le {g g0 : GS} (h : Un g g0) : g0.changes.length ≤ g.changes.length := by
 induction h with
 | refl => exact Nat.le_refl _
 | @step g g0 cs c _ _ _ ih =>
  have e5 := (undone_same g c).2.2.2.2
  rw [e5, List.length_take] at ih
  omega
def Rest (g : GS) (us : List Edge) (g0 : GS) (us0 : List Edge) : Prop :=
 ∀ g1, CoreEq g1 g → Forest g.nodes.length (fd g) g1.why us → ∃ g2, Un g1 g2 ∧ CoreEq g2 g0 ∧ Forest g0.nodes.length (fd g0) g2.why us0
theorem Rest.refl (g : GS) (us : List Edge) : Rest g us g us := fun g1 h1 h2 => ⟨g1, .refl g1, h1, h2⟩
theorem Rest.trans {g g' g'' : GS} {us us' us'' : List Edge} (h : Rest g us g' us') (h' : Rest g' us' g'' us'') : Rest g us g'' us'' := by
 intro g1 h1 h2
 obtain ⟨g2, k1, k2, k3⟩ := h g1 h1 h2
 obtain ⟨g3, m1, m2, m3⟩ := h' g2 k2 k3
 exact ⟨g3, k1.trans m1, m2, m3⟩
theorem Rest.core {g g' g0 g0' : GS} {us us0 : List Edge} (h : Rest g us g0 us0) (e : CoreEq g' g) (e0 : CoreEq g0 g0') : Rest g' us g0' us0 := by
 intro g1 h1 h2
 have en : g'.nodes = g.nodes := by rw [e]; rfl
 have ef : fd g' = fd g := by rw [e]; rfl
 have en0 : g0.nodes = g0'.nodes := by rw [e0]; rfl
 have ef0 : fd g0 = fd g0' := by rw [e0]; rfl
 rw [en, ef] at h2
 obtain ⟨g2, k1, k2, k3⟩ := h g1 (h1.trans e) h2
 rw [en0, ef0] at k3
 exact ⟨g2, k1, k2.trans e0, k3⟩
theorem adel_aset {α β : Type} [DecidableEq α] (l : List (α × β)) (k : α) (v : β) (h : aget l k = none) : adel (aset l k v) k = l := by
 induction l with
 | nil => simp [aset, adel]
 | cons x l ih =>
  have hx : ¬ x.1 = k := by
   intro q
   simp [aget, q] at h
  have h' : aget l k = none := by simpa [aget, hx] using h
  simp [aset, adel, hx, ih h']
theorem take_snoc {α : Type} (l : List α) (x : α) : (l ++ [x]).take ((l ++ [x]).length - 1) = l := by simp
theorem rest_enter (g : GS) (us : List Edge) (s : ByteArray) (p : Int) : Rest (enterG g s p) us g us := by
 unfold enterG
 split
 ·exact Rest.refl g us
 ·rename_i hn
  intro g1 h1 h2
  have hc : g1.changes = g.changes ++ [sigChg s] := by rw [h1]; rfl
  refine ⟨undoneG g1 (sigChg s), .step hc (fun q => (by cases q)) (.refl _), ?_, ?_⟩
  ·unfold undoneG
   rw [if_neg (by simp [sigChg])]
   refine CoreEq.of ?_ ?_ ?_ ?_ ?_ ?_ ?_ ?_ ?_
   ·show g1.nodes = _; rw [h1]; rfl
   ·show g1.nvals = _; rw [h1]; rfl
   ·show g1.first = _; rw [h1]; rfl
   ·show g1.ring = _; rw [h1]; rfl
   ·show g1.size = _; rw [h1]; rfl
   ·show g1.least = _; rw [h1]; rfl
   ·show g1.uses = _; rw [h1]; rfl
   ·show adel g1.sigs s = _
    rw [h1]
    exact adel_aset g.sigs s p hn
   ·show g1.changes.take (g1.changes.length - 1) = _
    rw [hc, take_snoc]
  ·have : (undoneG g1 (sigChg s)).why = g1.why := by unfold undoneG; rw [if_neg (by simp [sigChg])]; rfl
   rw [this]
   exact h2
theorem rest_enterAll : ∀ (ps : List Int) (g : GS) (us : List Edge), Rest (enterAll g ps).1 us g us
 | [], g, us => Rest.refl g us
 | p :: ps, g, us => by
  have h1 := (rest_enterAll ps (enterG g (sigOf g p) p) us).trans (rest_enter g us (sigOf g p) p)
  unfold enterAll
  simp only
  split <;> exact h1
theorem enterAll_uses : ∀ (ps : List Int) (g : GS) (r : Nat) (l : List Int), (enterAll (setUses g r l) ps).1 = setUses (enterAll g ps).1 r l
 | [], g, r, l => rfl
 | p :: ps, g, r, l => by
  have e1 : enterG (setUses g r l) (sigOf g p) p = setUses (enterG g (sigOf g p) p) r l := by
   unfold enterG setUses
   simp only
   split <;> rfl
  have ih := enterAll_uses ps (enterG g (sigOf g p) p) r l
  have e2 : sigOf (setUses g r l) p = sigOf g p := rfl
  have e3 : (setUses g r l).sigs = g.sigs := rfl
  unfold enterAll
  simp only [e2, e1, e3]
  split
  ·exact ih
  ·exact ih
theorem rest_unite {W m : Nat} {g : GS} {us l : List Edge} {e : Edge} (h : GInv W m g us (e :: l)) (hne : fd g e.a ≠ fd g e.b) {a b : Int} (he : Ends e a b) (hW : W ≤ 1048576) :
  Rest (setUses (unitedG (linkG g a b e) (fd g a) (fd g b)) (fd g b).toNat (usesAt g (fd g b) ++ usesAt g (fd g a))) (us ++ [e]) g us := by
 obtain ⟨va', vb', _⟩ := h.pend e (by simp)
 obtain ⟨va, vb⟩ := he.val ⟨va', vb'⟩
 have hab : fd g a ≠ fd g b := by
  rcases he with ⟨rfl, rfl⟩ | ⟨rfl, rfl⟩
  ·exact hne
  ·exact fun q => hne q.symm
 obtain ⟨vs, es⟩ := h.cls.root a va
 obtain ⟨vr, er⟩ := h.cls.root b vb
 obtain ⟨s1, s2, s3, _⟩ := h.cls.cyOf vs es
 obtain ⟨r1, r2, r3, _⟩ := h.cls.cyOf vr er
 have cl : Cls (linkG g a b e) := h.cls.congr rfl rfl rfl rfl rfl
 have c3 : Cls (unitedG (linkG g a b e) (fd g a) (fd g b)) := cl.united vs es vr er hab
 have hfd3 : ∀ x, Vn g.nodes.length x → fd (unitedG (linkG g a b e) (fd g a) (fd g b)) x = if fd g x = fd g a then fd g b else fd g x := fun x hx => united_fd cl vs es hx
 have few := h.few
 have p1 := vs.1
 have p2 := vs.2
 have p3 := vr.1
 have p4 := vr.2
 have l1 := nodup_len g.nodes.length _ (by obtain ⟨t, _, h2, _⟩ := s1; exact h2) fun x hx => ((s2 x).1 hx).1
 have l2 := nodup_len g.nodes.length _ (by obtain ⟨t, _, h2, _⟩ := r1; exact h2) fun x hx => ((r2 x).1 hx).1
 intro g1 h1 h2
 generalize hc : (⟨.empty, true, fd g a, fd g b, a, b, leastAt g (fd g b), (usesAt g (fd g b)).length⟩ : Chg) = c
 have cs : c.s = fd g a := by rw [← hc]
 have cb : c.b = fd g b := by rw [← hc]
 have cf : c.from_ = a := by rw [← hc]
 have ct : c.to = b := by rw [← hc]
 have cle : c.least = leastAt g (fd g b) := by rw [← hc]
 have cu : c.uses = (usesAt g (fd g b)).length := by rw [← hc]
 have cun : c.united = true := by rw [← hc]
 have k1 : g1.nodes = g.nodes := by rw [h1]; rfl
 have k2 : g1.nvals = g.nvals := by rw [h1]; rfl
 have k3 : g1.first = setAll g.first (cycOf g (fd g a)) (fd g b) := by
  rw [h1]
  show setAll g.first (cycOf (linkG g a b e) (fd g a)) (fd g b) = _
  rw [linkG_cyc]
 have k4 : g1.ring = (g.ring.set (fd g a).toNat (ringAt g (fd g b))).set (fd g b).toNat (ringAt g (fd g a)) := by rw [h1]; rfl
 have k5 : g1.size = g.size.set (fd g b).toNat (sizeAt g (fd g b) + sizeAt g (fd g a)) := by rw [h1]; rfl
 have k6 : g1.least = g.least.set (fd g b).toNat (if leastAt g (fd g a) < leastAt g (fd g b) then leastAt g (fd g a) else leastAt g (fd g b)) := by rw [h1]; rfl
 have k7 : g1.uses = g.uses.set (fd g b).toNat (usesAt g (fd g b) ++ usesAt g (fd g a)) := by rw [h1]; rfl
 have k8 : g1.sigs = g.sigs := by rw [h1]; rfl
 have k9 : g1.changes = g.changes ++ [c] := by rw [h1, ← hc]; rfl
 have lr := h.cls.lring
 have ls := h.cls.lsize
 have ll := h.cls.lleast
 have lu := h.luses
 have rs : ringAt g1 (fd g a) = ringAt g (fd g b) := by
  unfold ringAt
  rw [k4, getD_set_ne (by omega), getD_set_self (by omega)]
  rfl
 have rb : ringAt g1 (fd g b) = ringAt g (fd g a) := by
  unfold ringAt
  rw [k4, getD_set_self (by rw [List.length_set]; omega)]
  rfl
 have ring0 : (swapRing g1 (fd g a) (fd g b)).ring = g.ring := by
  show (g1.ring.set (fd g a).toNat (ringAt g1 (fd g b))).set (fd g b).toNat (ringAt g1 (fd g a)) = _
  rw [rs, rb, k4]
  refine List.ext_getElem? fun i => ?_
  by_cases q1 : (fd g b).toNat = i
  ·subst q1
   rw [List.getElem?_set_self (by simp; omega)]
   exact (getD_some (by omega)).symm
  ·rw [List.getElem?_set_ne q1]
   by_cases q2 : (fd g a).toNat = i
   ·subst q2
    rw [List.getElem?_set_self (by simp; omega)]
    exact (getD_some (by omega)).symm
   ·rw [List.getElem?_set_ne q2, List.getElem?_set_ne q1, List.getElem?_set_ne q2]
 have cyc0 : cycOf (swapRing g1 (fd g a) (fd g b)) (fd g a) = cycOf g (fd g a) := cycOf_congr (g := g) (g' := swapRing g1 (fd g a) (fd g b)) ring0 k1 _
 have cyc1 : CycIs (swapRing g1 (fd g a) (fd g b)) (fd g a) (cycOf g (fd g a)) := by
  have eq : ringAt (swapRing g1 (fd g a) (fd g b)) = ringAt g := funext fun x => by unfold ringAt; rw [ring0]
  have lf : (swapRing g1 (fd g a) (fd g b)).first.length = (swapRing g1 (fd g a) (fd g b)).nodes.length := by
   show g1.first.length = g1.nodes.length
   rw [k3, k1, setAll_len, h.cls.lfirst]
  refine Cyc.is_ (by rw [eq]; exact s1) (fun x hx => ?_) (by rw [ring0]; show _ = g1.nodes.length; rw [k1, lr]) lf
  show Vn g1.nodes.length x
  rw [k1]
  exact ((s2 x).1 hx).1
 have sa : sizeAt g1 (fd g a) = sizeAt g (fd g a) := by unfold sizeAt; rw [k5, getD_set_ne (by omega)]
 have sb : sizeAt g1 (fd g b) = sizeAt g (fd g b) + sizeAt g (fd g a) := by unfold sizeAt; rw [k5, getD_set_self (by omega)]; rfl
 have ub : usesAt g1 (fd g b) = usesAt g (fd g b) ++ usesAt g (fd g a) := by unfold usesAt; rw [k7, getD_set_self (by omega)]; rfl
 have nn : g1.nodes.length = g.nodes.length := by rw [k1]
 have ok : UndoOk g1 c := by
  refine ⟨by rw [cs, nn]; exact vs, by rw [cb, nn]; exact vr, by rw [cs, cb]; exact hab, by rw [cf, nn]; exact va, by rw [ct, nn]; exact vb, by rw [cu]; omega, by rw [cu, cb, ub, List.length_append]; omega, by rw [cs, cb, cyc0]; exact cyc1, by rw [cs, sa, s3]; omega, by rw [cb, sb, s3, r3]; omega, by rw [cs, sa, s3]; omega, by rw [cb, sb, s3, r3]; omega, ?_, ?_, ?_, ?_, ?_⟩
  ·rw [k4, nn]; simp [lr]
  ·rw [k5, nn]; simp [ls]
  ·rw [k6, nn]; simp [ll]
  ·rw [k7, nn]; simp [lu]
  ·rw [h2.len, nn]; rfl
 refine ⟨undoneG g1 c, .step k9 (fun _ => ok) (.refl _), ?_, ?_⟩
 ·have un := undone_same g1 c
  have shape : ∃ y, undoneG g1 c = { (partG (setUses (dropChg g1) c.b.toNat ((usesAt g1 c.b).take c.uses.toNat)) c.s c.b (cycOf (swapRing g1 c.s c.b) c.s) (ringAt g1 c.s) (ringAt g1 c.b) (sizeAt g1 c.s) (sizeAt g1 c.b) c.least) with why := y } := by
   unfold undoneG
   rw [if_pos cun]
   simp only
   unfold cutG
   split <;> exact ⟨_, rfl⟩
  obtain ⟨y, hy⟩ := shape
  rw [cs, cb, cyc0] at hy
  rw [hy]
  refine CoreEq.of k1 k2 ?_ ?_ ?_ ?_ ?_ k8 ?_
  ·show setAll g1.first (cycOf g (fd g a)) (fd g a) = _
   rw [k3]
   refine List.ext_getElem? fun i => ?_
   have hp : ∀ x ∈ cycOf g (fd g a), 0 ≤ x := fun x hx => ((s2 x).1 hx).1.1
   rw [setAll_get _ _ _ _ hp, setAll_get _ _ _ _ hp, setAll_len]
   split
   ·rename_i q
    obtain ⟨q1, q2⟩ := q
    obtain ⟨_, q3⟩ := (s2 _).1 q1
    have : g.first[i]? = some (fd g (i : Int)) := by
     unfold fd
     rw [Int.toNat_natCast]
     exact getD_some q2
    rw [this, q3]
   ·rfl
  ·exact ring0
  ·show g1.size.set (fd g b).toNat (sizeAt g1 (fd g b) - sizeAt g1 (fd g a)) = _
   rw [sa, sb, k5]
   refine List.ext_getElem? fun i => ?_
   by_cases q1 : (fd g b).toNat = i
   ·subst q1
    rw [List.getElem?_set_self (by simp; omega), getD_some (d := 0) (by omega)]
    show some (_ : Int) = some (sizeAt g (fd g b))
    congr 1
    omega
   ·rw [List.getElem?_set_ne q1, List.getElem?_set_ne q1]
  ·show g1.least.set (fd g b).toNat c.least = _
   rw [k6, cle]
   refine List.ext_getElem? fun i => ?_
   by_cases q1 : (fd g b).toNat = i
   ·subst q1
    rw [List.getElem?_set_self (by simp; omega), getD_some (d := 0) (by omega)]
    rfl
   ·rw [List.getElem?_set_ne q1, List.getElem?_set_ne q1]
  ·show g1.uses.set (fd g b).toNat ((usesAt g1 (fd g b)).take c.uses.toNat) = _
   rw [ub, cu, Int.toNat_natCast, List.take_left, k7]
   refine List.ext_getElem? fun i => ?_
   by_cases q1 : (fd g b).toNat = i
   ·subst q1
    rw [List.getElem?_set_self (by simp; omega)]
    exact (getD_some (by omega)).symm
   ·rw [List.getElem?_set_ne q1, List.getElem?_set_ne q1]
  ·show g1.changes.take (g1.changes.length - 1) = _
   rw [k9, take_snoc]
 ·have hF : Forest g.nodes.length (fd (unitedG (linkG g a b e) (fd g a) (fd g b))) g1.why (us ++ [e]) := h2
  have mono : ∀ x y, Vn g.nodes.length x → Vn g.nodes.length y → fd g x = fd g y → fd (unitedG (linkG g a b e) (fd g a) (fd g b)) x = fd (unitedG (linkG g a b e) (fd g a) (fd g b)) y := fun x y hx hy q => by rw [hfd3 x hx, hfd3 y hy, q]
  -- which way the edge points now
  obtain ⟨x, y, hxy, hout⟩ := hF.has e (by simp)
  have hto := out_to hout
  have hw : (undoneG g1 c).why = if (edgeAt g1.why a).to ≠ b then g1.why.set b.toNat { edgeAt g1.why b with to := -1 } else g1.why.set a.toNat { edgeAt g1.why a with to := -1 } := by
   unfold undoneG
   rw [if_pos cun, cf, ct]
   simp only
   unfold cutG
   split <;> rfl
  rw [hw]
  have hba : (edgeAt g1.why a).to ≠ b → (edgeAt g1.why b).to = a := by
   intro q
   rcases hxy with ⟨rfl, rfl⟩ | ⟨rfl, rfl⟩ <;> rcases he with ⟨rfl, rfl⟩ | ⟨rfl, rfl⟩
   ·exact absurd hto q
   ·exact hto
   ·exact hto
   ·exact absurd hto q
  split
  ·rename_i q
   exact hF.cut hne h.conn2 mono he.symm (hba q) rfl
  ·rename_i q
   exact hF.cut hne h.conn2 mono he (Decidable.not_not.1 q) rfl
theorem rest_stepAB {W m : Nat} {g : GS} {us l : List Edge} {e : Edge} (h : GInv W m g us (e :: l)) (hne : fd g e.a ≠ fd g e.b) {a b : Int} (he : Ends e a b) (hW : W ≤ 1048576) :
  Rest (afterG (linkG g a b e) (fd g a) (fd g b)).1 (us ++ [e]) g us := by
 have h1 := rest_unite h hne he hW
 have h2 := rest_enterAll (usesAt g (fd g a)) (setUses (unitedG (linkG g a b e) (fd g a) (fd g b)) (fd g b).toNat (usesAt g (fd g b) ++ usesAt g (fd g a))) (us ++ [e])
 rw [enterAll_uses] at h2
 have e1 : (afterG (linkG g a b e) (fd g a) (fd g b)).1 = setUses (enterAll (unitedG (linkG g a b e) (fd g a) (fd g b)) (usesAt g (fd g a))).1 (fd g b).toNat (usesAt g (fd g b) ++ usesAt g (fd g a)) := rfl
 rw [e1]
 exact h2.trans h1
theorem GInv.core {W m : Nat} {g g' : GS} {us l : List Edge} (h : GInv W m g us l) (e : CoreEq g' g) (F : Forest g.nodes.length (fd g) g'.why us) : GInv W m g' us l := by
 have lk : ∀ x y, Lk g l x y → Lk g' l x y := fun x y k => k.mono (fun x y hx hy q => .same (by rw [e]; exact hx) (by rw [e]; exact hy) (by rw [e]; exact q)) fun f hf => .link hf
 have hc : Cls g' := h.cls.congr (by rw [e]; rfl) (by rw [e]; rfl) (by rw [e]; rfl) (by rw [e]; rfl) (by rw [e]; rfl)
 have ht : ∀ p, Vn g.nodes.length p → p < m → 0 ≤ (nodeAt g p).fn → ∃ q, aget g.sigs (sigOf g p) = some q ∧ Lk g' l p q := fun p h1 h2 h3 => by
  obtain ⟨q, k1, k2⟩ := h.table p h1 h2 h3
  exact ⟨q, k1, lk _ _ k2⟩
 rw [e] at hc ht ⊢
 have F' : Forest g.nodes.length (fd g) (withWhy g g'.why g'.stand g'.marks).why us := F
 exact ⟨h.few, h.luses, h.sound, h.fn64, hc, F', h.conn1, h.conn2, h.uses0, h.uses1, h.wt, h.cnt, h.sigs, ht, h.just, h.pend⟩
end Go.Proofs.YtnbakpoahcndpaaDoor
namespace Go.Proofs.YtnbakpoahcndpaaDoor
set_option linter.unusedVariables false
set_option linter.unusedSimpArgs false
open Wk
section
variable {B0 : Nat} {w w' w0 : World} {p U : Addr} {M N : Nat} {A : Nat → Option Addr} {n c : Nat → Nat} {H : Nat → Prop} {g : GS}
theorem subA_zero (A : Option Addr) (d s : Nat) : subA A d 0 s = A := by
 unfold subA
 split
 ·rfl
 ·cases A <;> simp [Addr.add_zero]
theorem Loc.new (h : GRep B0 w p U M N A n c H g) {cs : Array Value} {ty : TypeId} {q : Addr} (hN : New w (.cells cs ty) q w') {us : List Value} (hu : cs.toList = us) : GRep B0 w' p U M N A n c (fun b => H b ∨ b = q.block) g ∧ Adv H w (fun b => H b ∨ b = q.block) w' ∧ Loc w' p U M N A (fun b => H b ∨ b = q.block) q us := by
 obtain ⟨g1, adv1, no1, noM1⟩ := h.own_new hN
 refine ⟨g1, adv1, ⟨hN.cells hu, hN.soft (by rw [← hu]; simp), by rw [hN.block, hN.size]; omega, .inr rfl, fun hh => hh.elim no1 noM1⟩⟩
theorem Loc.drawn {q : Addr} {us : List Value} (h : Loc w p U M N A H q us) (hw : Drawn w w') : Loc w' p U M N A H q us := h.adv (X := fun _ => False) (Ext.of_drawn hw) (fun h => h) (fun _ h => h) (fun _ _ h => h)
theorem vn_some' {l : List Edge} {k : Nat} (hl : l.length = k) {x : Int} (hx : Vn k x) : l[x.toNat]? = some (edgeAt l x) := getD_some (by have := hx.1; have := hx.2; omega)
theorem undo_is {cs : List Chg} {t : Chg} (h : GRep B0 w p U M N A n c H g) (hN : g.nodes.length = N) (hc : g.changes = cs ++ [t]) (ok : t.united = true → UndoOk g t) (hs : g.changes.length ≤ 1099511627776) :
  Calls P F.euf_Graph_undo #[.pointer (some p)] w (Ret fun v w' => v = .tuple #[] ∧ ∃ A' n' c' H', GRep B0 w' p U M N A' n' c' H' (undoneG g t) ∧ Adv H w H' w' ∧ (∀ b, H b → H' b) ∧ ∀ b, b < w.heap.size → FX (gLay p U N) A' b → FX (gLay p U N) A b) := by
 refine Ret.mono (ok_euf_Graph_undo p (fun w' => ∃ A' n' c' H', GRep B0 w' p U M N A' n' c' H' (undoneG g t) ∧ Adv H w H' w' ∧ (∀ b, H b → H' b) ∧ ∀ b, b < w.heap.size → FX (gLay p U N) A' b → FX (gLay p U N) A b) w ?_) (by rintro v w' ⟨rfl, hk⟩; exact ⟨rfl, hk⟩)
 have e7 := h.n7
 have hl : g.changes.length = cs.length + 1 := by rw [hc]; simp
 have hw1 : IntKind.wrap .i64 ((n 7 : Int) - 1) = (cs.length : Int) := by rw [wrap_small (by omega) (by omega)]; omega
 unfold vc_euf_Graph_undo
 have hrow := h.row (show 7 < 9 by omega)
 have hel := hrow.elem (i := (cs.length : Int)) (by omega) (by omega) (by decide)
 obtain ⟨a1, vs, hA1, hvs, _, hc1, _⟩ := hel
 have hvs' : vs = t.vals := by
  rw [hvs]
  refine flat_elem (s := 8) chg_len g.changes _ t ?_
  rw [hc, Int.toNat_natCast, List.getElem?_append_right (Nat.le_refl _), Nat.sub_self]
  rfl
 subst hvs'
 refine ⟨A 7, n 7, c 7, h.cell (show 7 < 9 by omega), A 7, n 7, c 7, h.cell (show 7 < 9 by omega), ?_⟩
 rw [hw1]
 refine ⟨by omega, by omega, a1, hA1, _, _, _, _, _, _, _, _, hc1, fun p2 w1 hN1 => ?_⟩
 obtain ⟨g1, adv1, q1⟩ := Loc.new h hN1 (us := [.string .empty, .bool false, .int .i64 0, .int .i64 0, .int .i64 0, .int .i64 0, .int .i64 0, .int .i64 0]) rfl
 refine ⟨q1.soft, fun w2 hw2 => ?_⟩
 obtain ⟨g2, adv2, q2, _⟩ := q1.set g1 (vs := t.vals) rfl hw2
 have cell9 := g2.cell (show 7 < 9 by omega)
 have cle := (g2.row (show 7 < 9 by omega)).le
 refine ⟨A 7, n 7, c 7, cell9, by omega, by omega, ⟨_, cell9⟩, g2.fam.froz 7 (show 7 < 9 + N by omega), fun w3 hw3 => ?_⟩
 obtain ⟨H3, g3, adv3, sub3⟩ := g2.min.cut (k := 7) (show 7 < 9 + N by omega) (m := cs.length) (d := c 7) (by omega) (by omega) (Nat.le_refl _) hw3 (g' := dropChg g) (fun i _ => vals_changes g _ _ (by rw [show gsz 7 = 8 from rfl]; show (g.changes.flatMap Chg.vals).take _ = _; rw [flat_take chg_len, hl]; rfl) i) ⟨rfl, rfl, rfl⟩
 obtain ⟨g4, adv4, kp4, gr4⟩ := g2.lift g3 adv3 ⟨rfl, rfl⟩
 have q4 := q2.adv (H' := fun b => (H b ∨ b = p2.block) ∨ H3 b) kp4 q2.out (fun b hb => .inl hb) gr4
 refine ⟨t.united, q4.cells 1 _ rfl, fun hun => ?_, fun hun => ?_⟩
 ·have hun' : t.united = false := by simpa using hun
  refine ⟨some M, g4.mcell, t.sig, by have := q4.cells 0 _ rfl; exact this, fun w6 hw6 => ?_⟩
  have g6 := g4.stay (Ext.of_drawn hw6)
  obtain ⟨w7, hrun, hm7, hk7⟩ := g6.map.delete (ty := T.t) kMap uMap t.sig
  obtain ⟨g7, adv7⟩ := g6.sigs_ hm7 hk7
  refine ⟨w7, hrun, fun w5 hw5 => ⟨A, upd n 7 cs.length, upd c 7 (c 7), _, ?_, adv1.trans (adv2.trans (adv4.trans ((Adv.of_drawn hw6).trans (adv7.trans (Adv.of_drawn hw5))))), fun b hb => .inl (.inl hb), fun b hb hh => gr4 b (Nat.lt_of_lt_of_le hb (adv1.trans adv2).keep.size) hh⟩⟩
  have := g7.stay (Ext.of_drawn hw5)
  unfold undoneG
  rw [if_neg (by rw [hun']; simp)]
  exact this
 ·have hun' : t.united = true := by simpa using hun
  have K := ok hun'
  have v1 := K.vs
  have v2 := K.vb
  have s0 := v1.1
  have s1 := v1.2
  have b0 := v2.1
  have b1 := v2.2
  have u0 := K.u0
  have u1 := K.u1
  have hbN : t.b.toNat < N := by omega
  obtain ⟨cU, hcU⟩ := g4.ucell
  have hur := g4.useRow hbN
  have hul : (usesAt g t.b).length = upd n 7 cs.length (9 + t.b.toNat) := by
   have := hur.1
   rw [List.length_map, Nat.mul_one] at this
   exact this
  have cle := hur.le
  refine ⟨some U, N, cU, hcU, t.b, q4.cells 3 _ rfl, some U, N, cU, hcU, t.b, q4.cells 3 _ rfl, b0, by omega, U, rfl, _, _, _, g4.ucellN hbN, t.uses, q4.cells 7 _ rfl, t.uses, q4.cells 7 _ rfl, u0, by omega, by omega, b0, by omega, U, rfl, fun w14 hw14 => ?_⟩
  have g14 := g4.stay (Ext.of_drawn hw14)
  have q14 := q4.drawn hw14
  have hdr : (gLay p U N).hdr (9 + t.b.toNat) = U.add (t.b.toNat * 1) := by rw [g14.hdrU, Nat.mul_one]
  have hfr := g14.fam.froz (9 + t.b.toNat) (show 9 + t.b.toNat < 9 + N by omega)
  rw [hdr] at hfr
  refine ⟨⟨_, g14.ucellN hbN⟩, hfr, fun w7 hw7 w8 hw8 => ?_⟩
  rw [subA_zero] at hw7
  have hlu := K.luses
  obtain ⟨H7, g7, adv7, sub7⟩ := g14.min.cut (w' := w7) (k := 9 + t.b.toNat) (show 9 + t.b.toNat < 9 + N by omega) (m := t.uses.toNat) (d := t.uses.toNat) (by omega) (Nat.le_refl _) (by omega) (by rw [hdr]; exact hw7) (g' := setUses (dropChg g) t.b.toNat ((usesAt g t.b).take t.uses.toNat)) (fun i _ => vals_uses (dropChg g) t.b.toNat (show t.b.toNat < g.uses.length by omega) _ _ (by rw [vals9, gsz9, Nat.mul_one, ← List.map_take]; rfl) i) ⟨rfl, rfl, rfl⟩
  obtain ⟨g8, adv8, kp8, gr8⟩ := g14.lift g7 adv7 ⟨rfl, rfl⟩
  have q8 := q14.adv (H' := fun b => ((H b ∨ b = p2.block) ∨ H3 b) ∨ H7 b) kp8 q14.out (fun b hb => .inl hb) gr8
  have g9 := g8.stay (Ext.of_drawn hw8)
  have q9 := q8.drawn hw8
  refine ⟨t.s, q9.cells 2 _ rfl, t.b, q9.cells 3 _ rfl, t.least, q9.cells 6 _ rfl, fun w10 hw10 => ?_⟩
  have g10 := g9.stay (Ext.of_drawn hw10)
  have q10 := q9.drawn hw10
  have ncells : ∀ (l : List Int), l.length = g.nodes.length → ∀ x, Vn g.nodes.length x → ∀ d, l[x.toNat]? = some (l.getD x.toNat d) := fun l hl x hx d => vn_some hl hx
  rw [add0]
  refine (part_is g10.min (rs := ringAt g t.s) (rb := ringAt g t.b) (ss := sizeAt g t.s) (sb := sizeAt g t.b) (lb := leastAt g t.b) s0 b0 (ncells g.ring K.lring _ v1 _) (ncells g.ring K.lring _ v2 _) (cyc := cycOf (swapRing g t.s t.b) t.s) ?_ (ncells g.size K.lsize _ v1 _) (ncells g.size K.lsize _ v2 _) (ncells g.least K.lleast _ v2 _) K.z0 K.z1 K.z2 K.z3).mono ?_
  ·have := K.cyc
   exact ⟨this.head, this.nd, this.pos, this.ring, this.first⟩
  ·rintro _ w11 ⟨_, rfl, rfl, H11, g11, adv11, sub11⟩
   obtain ⟨g12, adv12, kp12, gr12⟩ := g10.lift g11 adv11 ⟨rfl, rfl⟩
   have q12 := q10.adv (H' := fun b => (((H b ∨ b = p2.block) ∨ H3 b) ∨ H7 b) ∨ H11 b) kp12 q10.out (fun b hb => .inl hb) gr12
   refine ⟨_, rfl, rfl, fun w12 hw12 => ⟨t.from_, (q12.drawn hw12).cells 4 _ rfl, t.to, (q12.drawn hw12).cells 5 _ rfl, ?_⟩⟩
   have g13 := g12.stay (Ext.of_drawn hw12)
   have vf := K.vf
   have vt := K.vt
   have we : ∀ x, Vn g.nodes.length x → g.why[x.toNat]? = some (edgeAt g.why x) := fun x hx => vn_some' K.lwhy hx
   refine (cut_is g13.min (e := edgeAt g.why t.from_) (f := edgeAt g.why t.to) vf.1 vt.1 (we _ vf) (we _ vt)).mono ?_
   rintro _ w15 ⟨_, rfl, rfl, H15, g15, adv15, sub15⟩
   have same : ∀ (g' : GS) a b e f, (cutG g' a b e f).nvals = g'.nvals ∧ (cutG g' a b e f).nodes = g'.nodes := fun g' a b e f => by
    unfold cutG
    split <;> exact ⟨rfl, rfl⟩
   obtain ⟨g16, adv16, kp16, gr16⟩ := g13.lift g15 adv15 (same _ _ _ _ _)
   have advA : Adv H w _ w15 := adv1.trans (adv2.trans (adv4.trans ((Adv.of_drawn hw14).trans (adv8.trans ((Adv.of_drawn hw8).trans ((Adv.of_drawn hw10).trans (adv12.trans ((Adv.of_drawn hw12).trans adv16))))))))
   refine ⟨_, rfl, rfl, A, upd (upd n 7 cs.length) (9 + t.b.toNat) t.uses.toNat, upd (upd c 7 (c 7)) (9 + t.b.toNat) t.uses.toNat, _, ?_, advA, fun b hb => .inl (.inl (.inl (.inl (.inl hb)))), fun b hb hh => ?_⟩
   ·unfold undoneG
    rw [if_pos hun']
    exact g16
   ·have z2 := (adv1.trans adv2).keep.size
    have z14 := ((adv1.trans adv2).trans (adv4.trans (Adv.of_drawn hw14))).keep.size
    exact gr4 b (Nat.lt_of_lt_of_le hb z2) (gr8 b (Nat.lt_of_lt_of_le hb z14) hh)
end
end Go.Proofs.YtnbakpoahcndpaaDoor
namespace Go.Proofs.YtnbakpoahcndpaaDoor
set_option linter.unusedVariables false
set_option linter.unusedSimpArgs false
open Wk
structure Sem (g : GS) (us : List Edge) (st : List SaidR) : Prop where
 val : ∀ s ∈ st, Vn g.nodes.length s.a ∧ Vn g.nodes.length s.b
 eqs : ∀ s ∈ st, s.not = false → fd g s.a = fd g s.b
 src : ∀ u ∈ us, u.cong = false → ∃ s ∈ st, s.not = false ∧ s.a = u.a ∧ s.b = u.b ∧ s.tag = u.tag
theorem Sem.core {g g' : GS} {us : List Edge} {st : List SaidR} (h : Sem g us st) (e : CoreEq g' g) : Sem g' us st := by
 rw [e]
 exact ⟨h.val, h.eqs, h.src⟩
theorem Bd.core {C W : Nat} {g g' : GS} {us l : List Edge} (h : Bd C W g us l) (e : CoreEq g' g) : Bd C W g' us l := by
 rw [e]
 exact ⟨h.chg, h.work, h.few, h.wfew⟩
inductive Chain (C W : Nat) : GS → List Edge → List SaidR → List Mk → Prop
 | base (g : GS) (us : List Edge) (st : List SaidR) : Chain C W g us st []
 | push {g g0 : GS} {us us0 : List Edge} {st st0 : List SaidR} {ms : List Mk} : Rest g us g0 us0 → st0 = st.take st0.length → GInv W g0.nodes.length g0 us0 [] → Bd C W g0 us0 [] → Sem g0 us0 st0 → Chain C W g0 us0 st0 ms → Chain C W g us st (ms ++ [⟨st0.length, g0.changes.length⟩])
theorem Chain.lift {C W : Nat} {g g' : GS} {us us' : List Edge} {st st' : List SaidR} {ms : List Mk} (h : Chain C W g' us' st' ms) (r : Rest g us g' us') (hs : st' = st.take st'.length) : Chain C W g us st ms := by
 cases h with
 | base => exact .base _ _ _
 | @push _ g0 _ us0 _ st0 ms r0 h1 h2 h3 h4 h5 =>
  refine .push (r.trans r0) ?_ h2 h3 h4 h5
  have hl : st0.length ≤ st'.length := by
   have := congrArg List.length h1
   rw [List.length_take] at this
   omega
  calc st0 = st'.take st0.length := h1
   _ = (st.take st'.length).take st0.length := by rw [← hs]
   _ = st.take st0.length := by rw [List.take_take, Nat.min_eq_left hl]
theorem Chain.core {C W : Nat} {g g' : GS} {us : List Edge} {st : List SaidR} {ms : List Mk} (h : Chain C W g us st ms) (e : CoreEq g' g) : Chain C W g' us st ms :=
 h.lift ((Rest.refl g us).core e (CoreEq.refl g)) (by simp)
theorem Chain.pop {C W : Nat} {g : GS} {us : List Edge} {st : List SaidR} {ms : List Mk} (h : Chain C W g us st ms) : ∀ {n : Nat}, 1 ≤ n → n ≤ ms.length →
  ∃ g0 us0 st0, ms[ms.length - n]? = some ⟨st0.length, g0.changes.length⟩ ∧ Rest g us g0 us0 ∧ st0 = st.take st0.length ∧ GInv W g0.nodes.length g0 us0 [] ∧ Bd C W g0 us0 [] ∧ Sem g0 us0 st0 ∧ Chain C W g0 us0 st0 (ms.take (ms.length - n)) := by
 induction h with
 | base => intro n h1 h2; simp at h2; omega
 | @push g g0 us us0 st st0 ms r h1 h2 h3 h4 h5 ih =>
  intro n hn hm
  by_cases h1n : n = 1
  ·subst h1n
   refine ⟨g0, us0, st0, ?_, r, h1, h2, h3, h4, ?_⟩
   ·simp
   ·simpa using h5
  ·obtain ⟨g1, us1, st1, k1, k2, k3, k4, k5, k6, k7⟩ := ih (n := n - 1) (by omega) (by simp at hm; omega)
   have hl : st1.length ≤ st0.length := by
    have := congrArg List.length k3
    rw [List.length_take] at this
    omega
   have e1 : (ms ++ [(⟨st0.length, g0.changes.length⟩ : Mk)]).length - n = ms.length - (n - 1) := by rw [List.length_append, List.length_singleton]; omega
   refine ⟨g1, us1, st1, ?_, r.trans k2, ?_, k4, k5, k6, ?_⟩
   ·rw [e1, List.getElem?_append_left (by simp at hm; omega)]
    exact k1
   ·calc st1 = st0.take st1.length := k3
     _ = (st.take st0.length).take st1.length := by rw [← h1]
     _ = st.take st1.length := by rw [List.take_take, Nat.min_eq_left hl]
   ·rw [e1, List.take_append_of_le_length (by omega)]
    exact k7
structure GLive (C W : Nat) (g : GS) (us : List Edge) : Prop where
 inv : GInv W g.nodes.length g us []
 bd : Bd C W g us []
 sem : Sem g us g.stand
 chain : Chain C W g us g.stand g.marks
 room : g.nodes.length * (W + 1) + 1 ≤ C
theorem Lk.skip {g : GS} {e : Edge} {l : List Edge} (va : Vn g.nodes.length e.a) (vb : Vn g.nodes.length e.b) (he : fd g e.a = fd g e.b) {x y : Int} (h : Lk g (e :: l) x y) : Lk g l x y :=
 h.mono (fun x y hx hy q => .same hx hy q) fun f hf => by
  rcases List.mem_cons.1 hf with rfl | hf
  ·exact .same va vb he
  ·exact .link hf
theorem after_alike (g : GS) (a b : Int) (e : Edge) : (afterG (linkG g a b e) (fd g a) (fd g b)).1.stand = g.stand ∧ (afterG (linkG g a b e) (fd g a) (fd g b)).1.marks = g.marks ∧ (afterG (linkG g a b e) (fd g a) (fd g b)).1.nodes = g.nodes ∧ (afterG (linkG g a b e) (fd g a) (fd g b)).1.first = (unitedG (linkG g a b e) (fd g a) (fd g b)).first := by
 have A := enterAll_alike (usesAt g (fd g a)) (unitedG (linkG g a b e) (fd g a) (fd g b))
 exact ⟨A.stand, A.marks, A.nodes, A.first⟩
theorem Lk.stepAB {W m : Nat} {g : GS} {us l : List Edge} {e : Edge} (h : GInv W m g us (e :: l)) (hne : fd g e.a ≠ fd g e.b) {a b : Int} (he : Ends e a b) {x y : Int} (k : Lk g (e :: l) x y) : Lk (afterG (linkG g a b e) (fd g a) (fd g b)).1 (l ++ (afterG (linkG g a b e) (fd g a) (fd g b)).2) x y := by
 obtain ⟨va', vb', _⟩ := h.pend e (by simp)
 obtain ⟨va, vb⟩ := he.val ⟨va', vb'⟩
 have hab : fd g a ≠ fd g b := by
  rcases he with ⟨rfl, rfl⟩ | ⟨rfl, rfl⟩
  ·exact hne
  ·exact fun q => hne q.symm
 obtain ⟨vs, es⟩ := h.cls.root a va
 obtain ⟨_, _, en, ef⟩ := after_alike g a b e
 have cl : Cls (linkG g a b e) := h.cls.congr rfl rfl rfl rfl rfl
 have F : ∀ x, Vn g.nodes.length x → fd (afterG (linkG g a b e) (fd g a) (fd g b)).1 x = if fd g x = fd g a then fd g b else fd g x := fun x hx => (fd_same ef x).trans (united_fd cl vs es hx)
 refine k.mono (fun x y hx hy q => .same (by rw [en]; exact hx) (by rw [en]; exact hy) (by rw [F x hx, F y hy, q])) fun f hf => ?_
 rcases List.mem_cons.1 hf with rfl | hf
 ·refine .same (by rw [en]; exact va') (by rw [en]; exact vb') ?_
  rw [F _ va', F _ vb']
  rcases he with ⟨rfl, rfl⟩ | ⟨rfl, rfl⟩
  ·rw [if_pos rfl, if_neg (fun q => hab q.symm)]
  ·rw [if_pos rfl, if_neg (fun q => hab q.symm)]
 ·exact .link (by simp [hf])
theorem step_cong {W m : Nat} {g : GS} {us l : List Edge} {e : Edge} (h : GInv W m g us (e :: l)) (hne : fd g e.a ≠ fd g e.b) {a b : Int} (he : Ends e a b) : ∀ u ∈ (afterG (linkG g a b e) (fd g a) (fd g b)).2, u.cong = true := by
 have key : ∀ (ps : List Int) (g : GS), ∀ u ∈ (enterAll g ps).2, u.cong = true := by
  intro ps
  induction ps with
  | nil => intro g u hu; simp [enterAll] at hu
  | cons p ps ih =>
   intro g u hu
   unfold enterAll at hu
   simp only at hu
   split at hu
   ·rcases List.mem_append.1 hu with hu | hu
    ·split at hu
     ·simp at hu; rw [hu]
     ·simp at hu
    ·exact ih _ u hu
   ·exact ih _ u hu
 exact key _ _
structure EqQ (g0 : GS) (us0 : List Edge) (e0 : Edge) (g : GS) (us l : List Edge) : Prop where
 rest : Rest g us g0 us0
 src : ∀ u ∈ us ++ l, u.cong = false → u ∈ us0 ∨ u = e0
 lk : ∀ x y, Lk g0 [e0] x y → Lk g l x y
 stand : g.stand = g0.stand
 marks : g.marks = g0.marks
theorem EqQ.start (g0 : GS) (us0 : List Edge) (e0 : Edge) : EqQ g0 us0 e0 g0 us0 [e0] :=
 ⟨Rest.refl _ _, fun u hu _ => (List.mem_append.1 hu).imp id fun h => by simpa using h, fun _ _ h => h, rfl, rfl⟩
theorem EqQ.skip {W m : Nat} {g0 : GS} {us0 : List Edge} {e0 : Edge} {g : GS} {us l : List Edge} {e : Edge} (h : GInv W m g us (e :: l)) (q : EqQ g0 us0 e0 g us (e :: l)) (he : fd g e.a = fd g e.b) : EqQ g0 us0 e0 g us l := by
 obtain ⟨va, vb, _⟩ := h.pend e (by simp)
 exact ⟨q.rest, fun u hu hc => q.src u ((List.mem_append.1 hu).elim (fun hu => by simp [hu]) fun hu => by simp [hu]) hc, fun x y k => (q.lk x y k).skip va vb he, q.stand, q.marks⟩
theorem EqQ.stepAB {W m : Nat} {g0 : GS} {us0 : List Edge} {e0 : Edge} {g : GS} {us l : List Edge} {e : Edge} (h : GInv W m g us (e :: l)) (q : EqQ g0 us0 e0 g us (e :: l)) (hne : fd g e.a ≠ fd g e.b) (hW : W ≤ 1048576) {a b : Int} (he : Ends e a b) :
  EqQ g0 us0 e0 (afterG (linkG g a b e) (fd g a) (fd g b)).1 (us ++ [e]) (l ++ (afterG (linkG g a b e) (fd g a) (fd g b)).2) := by
 obtain ⟨e1, e2, _, _⟩ := after_alike g a b e
 refine ⟨(rest_stepAB h hne he hW).trans q.rest, fun u hu hc => ?_, fun x y k => (q.lk x y k).stepAB h hne he, e1.trans q.stand, e2.trans q.marks⟩
 rcases List.mem_append.1 hu with hu | hu
 ·refine q.src u ?_ hc
  rcases List.mem_append.1 hu with hu | hu
  ·simp [hu]
  ·simp at hu; simp [hu]
 ·rcases List.mem_append.1 hu with hu | hu
  ·exact q.src u (by simp [hu]) hc
  ·have := step_cong h hne he u hu
   rw [hc] at this
   cases this
theorem EqQ.step {W m : Nat} {g0 : GS} {us0 : List Edge} {e0 : Edge} {g : GS} {us l : List Edge} {e : Edge} (h : GInv W m g us (e :: l)) (q : EqQ g0 us0 e0 g us (e :: l)) (hne : fd g e.a ≠ fd g e.b) (hW : W ≤ 1048576) : EqQ g0 us0 e0 (mergeStep g e).1 (us ++ [e]) (l ++ (mergeStep g e).2) := by
 unfold mergeStep
 split
 ·exact q.stepAB h hne hW (.inr ⟨rfl, rfl⟩)
 ·exact q.stepAB h hne hW (.inl ⟨rfl, rfl⟩)
theorem GInv.pend1 {W m : Nat} {g : GS} {us : List Edge} (h : GInv W m g us []) {e : Edge} (va : Vn g.nodes.length e.a) (vb : Vn g.nodes.length e.b) (hc : e.cong = true → CongOk g.nodes (fun x y => fd g x = fd g y) e.a e.b) : GInv W m g us [e] := by
 refine { h with table := fun p h1 h2 h3 => ?_, pend := fun f hf => ?_ }
 ·obtain ⟨q, k1, k2⟩ := h.table p h1 h2 h3
  exact ⟨q, k1, k2.mono (fun x y hx hy q => .same hx hy q) fun f hf => by simp at hf⟩
 ·simp at hf
  subst hf
  exact ⟨va, vb, hc⟩
theorem Bd.pend1 {C W : Nat} {g : GS} {us : List Edge} (h : Bd C W g us []) (hr : g.nodes.length * (W + 1) + 1 ≤ C) (e : Edge) : Bd C W g us [e] := by
 refine ⟨h.chg, ?_, h.few, h.wfew⟩
 have : (g.nodes.length - us.length) * (W + 1) ≤ g.nodes.length * (W + 1) := Nat.mul_le_mul_right _ (by omega)
 simp only [List.length_singleton]
 omega
theorem GLive.equal {C W : Nat} {g g1 g' : GS} {us us' : List Edge} {a b t : Int} (h : GLive C W g us) (va : Vn g.nodes.length a) (vb : Vn g.nodes.length b) (h1 : g1 = { g with stand := g.stand ++ [⟨a, b, t, false⟩] }) (hi : GInv W g.nodes.length g' us' []) (hb : Bd C W g' us' []) (hn : g'.nodes = g.nodes) (q : EqQ g1 us ⟨0, false, a, b, t⟩ g' us' []) : GLive C W g' us' ∧ g'.stand = g.stand ++ [⟨a, b, t, false⟩] ∧ g'.marks = g.marks := by
 have hst : g'.stand = g.stand ++ [⟨a, b, t, false⟩] := by rw [q.stand, h1]
 have hmk : g'.marks = g.marks := by rw [q.marks, h1]
 have hcore : CoreEq g g1 := by rw [h1]; rfl
 have f1 : fd g1 = fd g := by rw [h1]; rfl
 have n1 : g1.nodes = g.nodes := by rw [h1]
 refine ⟨⟨by rw [hn]; exact hi, hb, ?_, ?_, by rw [hn]; exact h.room⟩, hst, hmk⟩
 ·rw [hst]
  refine ⟨fun s hs => ?_, fun s hs hno => ?_, fun u hu hc => ?_⟩
  ·rw [hn]
   rcases List.mem_append.1 hs with hs | hs
   ·exact h.sem.val s hs
   ·simp at hs; subst hs; exact ⟨va, vb⟩
  ·rcases List.mem_append.1 hs with hs | hs
   ·obtain ⟨k1, k2⟩ := h.sem.val s hs
    exact (q.lk s.a s.b (.same (by rw [n1]; exact k1) (by rw [n1]; exact k2) (by rw [f1]; exact h.sem.eqs s hs hno))).done
   ·simp at hs; subst hs
    exact (q.lk a b (.link (e := ⟨0, false, a, b, t⟩) (by simp))).done
  ·rcases q.src u (by simp [hu]) hc with k | k
   ·obtain ⟨s, m1, m2⟩ := h.sem.src u k hc
    exact ⟨s, by simp [m1], m2⟩
   ·subst k
    exact ⟨⟨a, b, t, false⟩, by simp, rfl, rfl, rfl, rfl⟩
 ·rw [hst, hmk]
  exact h.chain.lift (q.rest.core (CoreEq.refl _) hcore.symm) (by simp)
theorem GLive.differ {C W : Nat} {g : GS} {us : List Edge} {a b t : Int} (h : GLive C W g us) (va : Vn g.nodes.length a) (vb : Vn g.nodes.length b) : GLive C W { g with stand := g.stand ++ [⟨a, b, t, true⟩] } us := by
 have hcore : CoreEq ({ g with stand := g.stand ++ [⟨a, b, t, true⟩] } : GS) g := rfl
 refine ⟨h.inv.core hcore h.inv.forest, h.bd.core hcore, ⟨fun s hs => ?_, fun s hs hno => ?_, fun u hu hc => ?_⟩, (h.chain.lift (Rest.refl _ _) (by simp)).core hcore, h.room⟩
 ·rcases List.mem_append.1 hs with hs | hs
  ·exact h.sem.val s hs
  ·simp at hs; subst hs; exact ⟨va, vb⟩
 ·rcases List.mem_append.1 hs with hs | hs
  ·exact h.sem.eqs s hs hno
  ·simp at hs; subst hs; cases hno
 ·obtain ⟨s, m1, m2⟩ := h.sem.src u hu hc
  exact ⟨s, List.mem_append.2 (.inl m1), m2⟩
theorem GLive.push {C W : Nat} {g : GS} {us : List Edge} (h : GLive C W g us) : GLive C W { g with marks := g.marks ++ [⟨g.stand.length, g.changes.length⟩] } us := by
 have hcore : CoreEq ({ g with marks := g.marks ++ [⟨g.stand.length, g.changes.length⟩] } : GS) g := rfl
 refine ⟨h.inv.core hcore h.inv.forest, h.bd.core hcore, ⟨h.sem.val, h.sem.eqs, h.sem.src⟩, ?_, h.room⟩
 exact Chain.push ((Rest.refl g us).core hcore (CoreEq.refl _)) (by simp) h.inv h.bd h.sem h.chain
theorem GLive.pop {C W : Nat} {g g0 g2 : GS} {us us0 : List Edge} {st0 : List SaidR} {k : Nat} (h : GLive C W g us) (k2 : CoreEq g2 g0) (hn : g0.nodes = g.nodes) (hst : g2.stand = st0) (hmk : g2.marks = g.marks.take k) (hF : Forest g0.nodes.length (fd g0) g2.why us0) (h1 : GInv W g0.nodes.length g0 us0 []) (h2 : Bd C W g0 us0 []) (h3 : Sem g0 us0 st0) (h4 : Chain C W g0 us0 st0 (g.marks.take k)) : GLive C W g2 us0 := by
 have hn2 : g2.nodes = g0.nodes := by rw [k2]; rfl
 refine ⟨by rw [hn2]; exact h1.core k2 hF, h2.core k2, by rw [hst]; exact h3.core k2, by rw [hst, hmk]; exact h4.core k2, by rw [hn2, hn]; exact h.room⟩
end Go.Proofs.YtnbakpoahcndpaaDoor
namespace Go.Proofs.YtnbakpoahcndpaaDoor
set_option linter.unusedVariables false
set_option linter.unusedSimpArgs false
open Wk
section
variable {B0 : Nat} {w w' w0 : World} {p U : Addr} {M N : Nat} {A : Nat → Option Addr} {n c : Nat → Nat} {H : Nat → Prop} {g : GS}
structure Gr (C W B0 : Nat) (w : World) (p U : Addr) (M N : Nat) (H : Nat → Prop) (g : GS) (us : List Edge) : Prop where
 rep : ∃ A n c, GRep B0 w p U M N A n c H g
 live : GLive C W g us
 hN : g.nodes.length = N
theorem mergeStep_nvals (g : GS) (e : Edge) : (mergeStep g e).1.nvals = g.nvals := by
 unfold mergeStep
 split <;> exact (after_chg _ _ _ _).2.2.2
theorem equal_is {C W : Nat} {us : List Edge} {a b t : Int} (h : Gr C W B0 w p U M N H g us) (hs : g.stand.length + 1 ≤ 1099511627776) :
  Calls P F.euf_Graph_Equal #[.pointer (some p), .int .i64 a, .int .i64 b, .int .i64 t] w (Ret fun v w' => ∃ e : Int, v = .int .i64 e ∧ ∃ H' g' us', Gr C W B0 w' p U M N H' g' us' ∧ Adv H w H' w' ∧ (∀ b, H b → H' b) ∧ g'.marks = g.marks ∧ g'.nodes = g.nodes ∧ g'.nvals = g.nvals ∧
   ((¬ There g a b ∧ e = 80 ∧ g' = g ∧ us' = us) ∨ (There g a b ∧ e = 0 ∧ g'.stand = g.stand ++ [⟨a, b, t, false⟩]))) := by
 obtain ⟨⟨A, n, c, hr⟩, hl, hN⟩ := h
 refine ok_euf_Graph_Equal p a b t (fun e w' => ∃ H' g' us', Gr C W B0 w' p U M N H' g' us' ∧ Adv H w H' w' ∧ (∀ b, H b → H' b) ∧ g'.marks = g.marks ∧ g'.nodes = g.nodes ∧ g'.nvals = g.nvals ∧
   ((¬ There g a b ∧ e = 80 ∧ g' = g ∧ us' = us) ∨ (There g a b ∧ e = 0 ∧ g'.stand = g.stand ++ [⟨a, b, t, false⟩]))) w ?_
 unfold vc_euf_Graph_Equal
 refine (there_is hr a b).mono ?_
 rintro _ w1 ⟨_, rfl, r, rfl, hr', rfl⟩
 refine ⟨_, rfl, r, rfl, fun hn => ⟨H, g, us, ⟨⟨A, n, c, hr⟩, hl, hN⟩, Adv.refl _ _, fun _ h => h, rfl, rfl, rfl, .inl ⟨fun ht => ?_, rfl, rfl, rfl⟩⟩, fun hn' => ?_⟩
 ·rw [hr'.2 ht] at hn; cases hn
 ·have ht := hr'.1 (by cases r <;> simp at hn' ⊢)
  refine ⟨A 6, n 6, c 6, hr.cell (show 6 < 9 by omega), fun p2 w2 hN2 => ?_⟩
  have E2 := Ext.of_new hN2
  obtain ⟨A', c', w3, _, hrun, hh⟩ := (hr.stay E2).pushSaid (t := ⟨a, b, t, false⟩) (hN2.cells rfl) hs (c2 := 1)
  obtain ⟨k1, k2, k3⟩ := hh w3 (Ext.refl w3)
  refine ⟨A', n 6 + 1, c', w3, hrun, k1, k2, fun w4 hw4 => ?_⟩
  obtain ⟨H4, g4, adv4, sub4, _⟩ := k3 w4 hw4
  have va : Vn g.nodes.length a := ⟨ht.1, ht.2.2.1⟩
  have vb : Vn g.nodes.length b := ⟨ht.2.1, ht.2.2.2⟩
  have hcore : CoreEq ({ g with stand := g.stand ++ [⟨a, b, t, false⟩] } : GS) g := rfl
  have inv1 : GInv W g.nodes.length ({ g with stand := g.stand ++ [⟨a, b, t, false⟩] } : GS) us [] := hl.inv.core hcore hl.inv.forest
  have bd1 : Bd C W ({ g with stand := g.stand ++ [⟨a, b, t, false⟩] } : GS) us [] := hl.bd.core hcore
  refine (merge_is (e := ⟨0, false, a, b, t⟩) (C := C) (W := W) (mm := g.nodes.length) (us := us) (Q := fun g' us' l' => EqQ { g with stand := g.stand ++ [⟨a, b, t, false⟩] } us ⟨0, false, a, b, t⟩ g' us' l' ∧ g'.nvals = g.nvals) g4 hN (inv1.pend1 va vb (fun q => (by cases q))) (bd1.pend1 hl.room _) ⟨EqQ.start _ _ _, rfl⟩ (fun g us e l i q he => ⟨q.1.skip i he, q.2⟩) (fun g us e l i q hne => ⟨q.1.step i hne hl.bd.wfew, (mergeStep_nvals _ _).trans q.2⟩)).mono ?_
  rintro _ w5 ⟨_, rfl, rfl, A5, n5, c5, H5, g5, us5, r5, i5, b5, ⟨q5, v5⟩, n5', adv5, sub5, _⟩
  obtain ⟨l5, s5, m5⟩ := hl.equal va vb rfl i5 b5 n5' q5
  have hn5 : g5.nodes = g.nodes := n5'
  exact ⟨_, rfl, rfl, H5, g5, us5, ⟨⟨A5, n5, c5, r5⟩, l5, by rw [hn5]; exact hN⟩, ((Adv.of_ext E2).trans adv4).trans adv5, fun b hb => sub5 b (sub4 b hb), m5, hn5, v5, .inr ⟨ht, rfl, s5⟩⟩
theorem Un.inv {g gE : GS} (h : Un g gE) : g = gE ∨ ∃ cs t, g.changes = cs ++ [t] ∧ (t.united = true → UndoOk g t) ∧ Un (undoneG g t) gE := by
 cases h with
 | refl => exact .inl rfl
 | step h1 h2 h3 => exact .inr ⟨_, _, h1, h2, h3⟩
theorem undone_len {g : GS} {cs : List Chg} {t : Chg} (h : g.changes = cs ++ [t]) : (undoneG g t).changes.length + 1 = g.changes.length := by
 rw [(undone_same g t).2.2.2.2, h]
 simp
theorem mk_elem (h : GRep B0 w p U M N A n c H g) {i : Nat} {m : Mk} (hm : g.marks[i]? = some m) : i < n 8 ∧ ∃ a, A 8 = some a ∧ CellsAt w (a.add (i * 2)) m.vals := by
 have hr := h.row (show 8 < 9 by omega)
 have e8 := h.n8
 have hi := (List.getElem?_eq_some_iff.1 hm).1
 obtain ⟨a, us, hA, hu, _, hcell, hs⟩ := hr.elem (s := 2) (i := (i : Int)) (by omega) (show (i : Int) < n 8 by omega) (by decide)
 rw [Int.toNat_natCast] at hu hcell
 have : us = m.vals := hu.trans (flat_elem mk_len _ _ _ hm)
 subst this
 exact ⟨by omega, a, hA, hcell⟩
theorem pop_is {C W : Nat} {us : List Edge} {k : Int} (h : Gr C W B0 w p U M N H g us) (hs : g.stand.length ≤ 1099511627776) (hm : g.marks.length ≤ 1099511627776) (hk : I64 k) :
  Calls P F.euf_Graph_Pop #[.pointer (some p), .int .i64 k] w (Ret fun v w' => ∃ e : Int, v = .int .i64 e ∧ ∃ H' g' us', Gr C W B0 w' p U M N H' g' us' ∧ Adv H w H' w' ∧ (∀ b, H b → H' b) ∧ g'.nodes = g.nodes ∧ g'.nvals = g.nvals ∧
   (((k < 0 ∨ g.marks.length < k) ∧ e = 81 ∧ g' = g ∧ us' = us) ∨ (k = 0 ∧ e = 0 ∧ g' = g ∧ us' = us) ∨ (0 < k ∧ k ≤ g.marks.length ∧ e = 0 ∧ g'.marks = g.marks.take (g.marks.length - k.toNat) ∧ ∃ m, g.marks[g.marks.length - k.toNat]? = some m ∧ g'.stand = g.stand.take m.said.toNat))) := by
 have hG := h
 obtain ⟨⟨A, n, c, hr⟩, hl, hN⟩ := h
 refine ok_euf_Graph_Pop p k (fun e w' => ∃ H' g' us', Gr C W B0 w' p U M N H' g' us' ∧ Adv H w H' w' ∧ (∀ b, H b → H' b) ∧ g'.nodes = g.nodes ∧ g'.nvals = g.nvals ∧
   (((k < 0 ∨ g.marks.length < k) ∧ e = 81 ∧ g' = g ∧ us' = us) ∨ (k = 0 ∧ e = 0 ∧ g' = g ∧ us' = us) ∨ (0 < k ∧ k ≤ g.marks.length ∧ e = 0 ∧ g'.marks = g.marks.take (g.marks.length - k.toNat) ∧ ∃ m, g.marks[g.marks.length - k.toNat]? = some m ∧ g'.stand = g.stand.take m.said.toNat))) w ?_
 have e8 := hr.n8
 have e6 := hr.n6
 have e7 := hr.n7
 unfold vc_euf_Graph_Pop
 have big : ∀ b : Bool, (b = true ↔ (k < 0 ∨ g.marks.length < k)) → vc_euf_Graph_Pop_J2 (fun e w' => ∃ H' g' us', Gr C W B0 w' p U M N H' g' us' ∧ Adv H w H' w' ∧ (∀ b, H b → H' b) ∧ g'.nodes = g.nodes ∧ g'.nvals = g.nvals ∧
   (((k < 0 ∨ g.marks.length < k) ∧ e = 81 ∧ g' = g ∧ us' = us) ∨ (k = 0 ∧ e = 0 ∧ g' = g ∧ us' = us) ∨ (0 < k ∧ k ≤ g.marks.length ∧ e = 0 ∧ g'.marks = g.marks.take (g.marks.length - k.toNat) ∧ ∃ m, g.marks[g.marks.length - k.toNat]? = some m ∧ g'.stand = g.stand.take m.said.toNat))) w k p b := by
  intro b hb
  unfold vc_euf_Graph_Pop_J2
  refine ⟨fun q => ⟨H, g, us, hG, Adv.refl _ _, fun _ h => h, rfl, rfl, .inl ⟨hb.1 q, rfl, rfl, rfl⟩⟩, fun q => ⟨fun k0 => ⟨H, g, us, hG, Adv.refl _ _, fun _ h => h, rfl, rfl, .inr (.inl ⟨k0, rfl, rfl, rfl⟩)⟩, fun k0 => ?_⟩⟩
  have hb' : ¬ (k < 0 ∨ g.marks.length < k) := fun hh => by rw [hb.2 hh] at q; cases q
  have kpos : 0 < k := by omega
  have kle : k ≤ g.marks.length := by omega
  have hw1 : IntKind.wrap .i64 ((n 8 : Int) - k) = ((g.marks.length - k.toNat : Nat) : Int) := by rw [wrap_small (by omega) (by omega)]; omega
  obtain ⟨g0, us0, st0, p1, p2, p3, p4, p5, p6, p7⟩ := hl.chain.pop (n := k.toNat) (by omega) (by omega)
  obtain ⟨i8, a1, hA1, hc1⟩ := mk_elem hr p1
  refine ⟨A 8, n 8, c 8, hr.cell (show 8 < 9 by omega), A 8, n 8, c 8, hr.cell (show 8 < 9 by omega), ?_⟩
  rw [hw1]
  rw [Int.toNat_natCast]
  refine ⟨by omega, by omega, a1, hA1, _, _, hc1, fun w6 hw6 p2' w1 hN1 w5 hw5 => ?_⟩
  have g6 := hr.stay (Ext.of_drawn hw6)
  obtain ⟨g1, adv1, q1⟩ := Loc.new g6 hN1 (us := [.int .i64 0, .int .i64 0]) rfl
  have g5 := g1.stay (Ext.of_drawn hw5)
  have q5 := q1.drawn hw5
  refine ⟨q5.soft, fun w2 hw2 w3 hw3 => ?_⟩
  obtain ⟨g2, adv2, q2, _⟩ := q5.set g5 (vs := Mk.vals ⟨st0.length, g0.changes.length⟩) rfl hw2
  have g3 := g2.stay (Ext.of_drawn hw3)
  have q3 := q2.drawn hw3
  have hst0 : st0.length ≤ g.stand.length := by
   have := congrArg List.length p3
   rw [List.length_take] at this
   omega
  unfold vc_euf_Graph_Pop_J1
  have cell10 := g3.cell (show 8 < 9 by omega)
  have cle := (g3.row (show 8 < 9 by omega)).le
  refine ⟨A 8, n 8, c 8, cell10, A 8, n 8, c 8, cell10, ?_⟩
  rw [hw1, Int.toNat_natCast]
  refine ⟨by omega, by omega, fun w15 hw15 => ⟨⟨_, (hw15.cell _).trans cell10⟩, (hw15.frozen _).trans (g3.fam.froz 8 (show 8 < 9 + N by omega)), fun w7 hw7 w8 hw8 => ?_⟩⟩
  have g15 := g3.stay (Ext.of_drawn hw15)
  have q15 := q3.drawn hw15
  obtain ⟨H7, g7, adv7, sub7⟩ := g15.min.cut (w' := w7) (k := 8) (show 8 < 9 + N by omega) (m := g.marks.length - k.toNat) (d := c 8) (by omega) (by omega) (Nat.le_refl _) hw7 (g' := { g with marks := g.marks.take (g.marks.length - k.toNat) }) (fun i _ => vals_marks g _ _ (by rw [show gsz 8 = 2 from rfl]; show (g.marks.flatMap Mk.vals).take _ = _; rw [flat_take mk_len]) i) ⟨rfl, rfl, rfl⟩
  obtain ⟨g7', adv7', kp7, gr7⟩ := g15.lift g7 adv7 ⟨rfl, rfl⟩
  have q7 := q15.adv (H' := fun b => (H b ∨ b = p2'.block) ∨ H7 b) kp7 q15.out (fun b hb => .inl hb) gr7
  have g8 := g7'.stay (Ext.of_drawn hw8)
  have q8 := q7.drawn hw8
  have cell8 := g8.cell (show 6 < 9 by omega)
  have cle6 := (g8.row (show 6 < 9 by omega)).le
  rw [upd_ne _ _ (by omega), upd_ne _ _ (by omega)] at cell8 cle6
  refine ⟨A 6, n 6, c 6, cell8, (st0.length : Int), q8.cells 0 _ rfl, by omega, by omega, fun w14 hw14 => ⟨⟨_, (hw14.cell _).trans cell8⟩, (hw14.frozen _).trans (g8.fam.froz 6 (show 6 < 9 + N by omega)), fun w9 hw9 w10 hw10 => ?_⟩⟩
  have g14 := g8.stay (Ext.of_drawn hw14)
  have q14 := q8.drawn hw14
  obtain ⟨H9, g9, adv9, sub9⟩ := g14.min.cut (w' := w9) (k := 6) (show 6 < 9 + N by omega) (m := st0.length) (d := c 6) (by rw [upd_ne _ _ (by omega)]; omega) (by omega) (by rw [upd_ne _ _ (by omega)]; exact Nat.le_refl _) hw9 (g' := { g with marks := g.marks.take (g.marks.length - k.toNat), stand := g.stand.take st0.length }) (fun i _ => vals_stand { g with marks := g.marks.take (g.marks.length - k.toNat) } _ _ (by rw [show gsz 6 = 4 from rfl]; show (g.stand.flatMap SaidR.vals).take _ = _; rw [flat_take said_len]) i) ⟨rfl, rfl, rfl⟩
  obtain ⟨g9', adv9', kp9, gr9⟩ := g14.lift g9 adv9 ⟨rfl, rfl⟩
  have q9 := q14.adv (H' := fun b => ((H b ∨ b = p2'.block) ∨ H7 b) ∨ H9 b) kp9 q14.out (fun b hb => .inl hb) gr9
  have g10 := g9'.stay (Ext.of_drawn hw10)
  have q10 := q9.drawn hw10
  have adv10 : Adv H w (fun b => ((H b ∨ b = p2'.block) ∨ H7 b) ∨ H9 b) w10 := (Adv.of_drawn hw6).trans (adv1.trans ((Adv.of_drawn hw5).trans (adv2.trans ((Adv.of_drawn hw3).trans ((Adv.of_drawn hw15).trans (adv7'.trans ((Adv.of_drawn hw8).trans ((Adv.of_drawn hw14).trans (adv9'.trans (Adv.of_drawn hw10))))))))))
  obtain ⟨gE, hun, hcE, hFE⟩ := p2 { g with marks := g.marks.take (g.marks.length - k.toNat), stand := g.stand.take st0.length } rfl hl.inv.forest
  have hb := hl.bd.chg
  have hb2 := hl.bd.few
  refine ⟨fun k' w' => ∃ A' n' c' H' g', k' = g'.changes.length ∧ GRep B0 w' p U M N A' n' c' H' g' ∧ Un g' gE ∧ Loc w' p U M N A' H' p2' (Mk.vals ⟨st0.length, g0.changes.length⟩) ∧ Adv H w H' w' ∧ (∀ b, H b → H' b) ∧ g'.nodes = g.nodes ∧ g'.nvals = g.nvals ∧ g'.changes.length ≤ g.changes.length,
   ⟨_, _, _, _, _, _, rfl, g10, hun, q10, adv10, fun b hb => .inl (.inl (.inl hb)), rfl, rfl, Nat.le_refl _⟩, ?_⟩
  rintro k1 w11 ⟨A', n', c', H', g', rfl, r', un', l', adv', sub', nd', nv', le'⟩
  have e7' := r'.n7
  have hE : gE.changes.length = g0.changes.length := by rw [hcE]; rfl
  refine ⟨_, _, _, r'.cell (show 7 < 9 by omega), (g0.changes.length : Int), l'.cells 1 _ rfl, fun w12 hw12 => ⟨fun hlt => ?_, fun hge => ?_⟩⟩
  ·rcases un'.inv with rfl | ⟨cs, t, u1, u2, u3⟩
   ·omega
   ·have g12 := r'.stay (Ext.of_drawn hw12)
    have l12 := l'.drawn hw12
    refine (undo_is g12.min (by rw [nd']; exact hN) u1 u2 (by omega)).mono ?_
    rintro _ w13 ⟨_, rfl, rfl, A13, n13, c13, H13, g13, adv13, sub13, gr13⟩
    obtain ⟨un1, un2, _⟩ := undone_same g' t
    obtain ⟨g13', adv13', kp13, gr13'⟩ := g12.lift g13 adv13 ⟨un2, un1⟩
    have ul := undone_len u1
    exact ⟨_, rfl, rfl, (undoneG g' t).changes.length, by omega, A13, n13, c13, _, _, rfl, g13', u3, l12.adv kp13 l12.out (fun b hb => .inl hb) gr13', adv'.trans ((Adv.of_drawn hw12).trans adv13'), fun b hb => .inl (sub' b hb), un1.trans nd', un2.trans nv', by omega⟩
  ·have hend : g' = gE := by
    rcases un'.inv with e | ⟨cs, t, u1, u2, u3⟩
    ·exact e
    ·have := u3.le
     have := undone_len u1
     omega
   subst hend
   obtain ⟨_, _, s3, s4⟩ := hun.same
   have hn0 : g0.nodes = g.nodes := by
    have : g'.nodes = g0.nodes := by rw [hcE]; rfl
    rw [← this]; exact nd'
   have live := hl.pop (k := g.marks.length - k.toNat) hcE hn0 (s3.trans p3.symm) s4 hFE p4 p5 p6 p7
   refine ⟨H', g', us0, ⟨⟨A', n', c', r'.stay (Ext.of_drawn hw12)⟩, live, by rw [nd']; exact hN⟩, adv'.trans (Adv.of_drawn hw12), sub', nd', nv', .inr (.inr ⟨kpos, kle, rfl, s4, _, p1, ?_⟩)⟩
   rw [s3]
   simp
 refine ⟨fun hneg => big true ⟨fun _ => .inl hneg, fun _ => rfl⟩, fun hpos => ⟨A 8, n 8, c 8, hr.cell (show 8 < 9 by omega), big _ ?_⟩⟩
 rw [decide_eq_true_iff]
 omega
end
end Go.Proofs.YtnbakpoahcndpaaDoor
namespace Go.Proofs.YtnbakpoahcndpaaDoor
set_option linter.unusedVariables false
set_option linter.unusedSimpArgs false
open Wk
structure FamH (L : Lay) (B0 : Nat) (w : World) (hA : Nat → Option Addr) (hn hc : Nat → Nat) (A : Nat → Option Addr) (n c : Nat → Nat) (vs : Nat → List Value) : Prop where
 cell : ∀ k, k < L.K → w.cell? (L.hdr k) = some (.slice (hA k) (hn k) (hc k))
 froz : ∀ k, k < L.K → w.frozen? (L.hdr k) = false
 row : ∀ k, k < L.K → Row w B0 (L.ty k) (L.sz k) (A k) (n k) (c k) (vs k)
 sep : ∀ j k, j < L.K → k < L.K → j ≠ k → ∀ b, At (A j) b → ¬ At (A k) b
 seph : ∀ k, k < L.K → ∀ b, At (A k) b → ¬ L.HB b
 inj : ∀ j k, j < L.K → k < L.K → L.hdr j = L.hdr k → j = k
 hb : ∀ k, k < L.K → L.HB (L.hdr k).block
 hlt : ∀ b, L.HB b → B0 ≤ b ∧ b < w.heap.size
section
variable {L : Lay} {B0 : Nat} {w w' : World} {hA A : Nat → Option Addr} {hn hc n c : Nat → Nat} {vs : Nat → List Value}
theorem FamH.fx (h : FamH L B0 w hA hn hc A n c vs) {b : Nat} (hb : FX L A b) : B0 ≤ b ∧ b < w.heap.size := by
 rcases hb with hb | ⟨k, hk, hb⟩
 ·exact h.hlt b hb
 ·exact (h.row k hk).at hb
theorem FamH.keep {X : Nat → Prop} (h : FamH L B0 w hA hn hc A n c vs) (k : Keep X w w') (hX : ∀ b, FX L A b → ¬ X b) : FamH L B0 w' hA hn hc A n c vs :=
 ⟨fun j hj => k.cell ⟨h.cell j hj, hX _ (.inl (h.hb j hj))⟩, fun j hj => by
  have hlt := (h.hlt _ (h.hb j hj)).2
  exact (World.frozen?_of_block (k.block _ hlt (hX _ (.inl (h.hb j hj))))).trans (h.froz j hj), fun j hj => (h.row j hj).keep k fun b hb => hX b (.inr ⟨j, hj, hb⟩), h.sep, h.seph, h.inj, h.hb, fun b hb => ⟨(h.hlt b hb).1, Nat.lt_of_lt_of_le (h.hlt b hb).2 k.size⟩⟩
theorem FamH.congr {vs' : Nat → List Value} (h : FamH L B0 w hA hn hc A n c vs) (k : ∀ j, j < L.K → vs j = vs' j) : FamH L B0 w hA hn hc A n c vs' :=
 ⟨h.cell, h.froz, fun j hj => by rw [← k j hj]; exact h.row j hj, h.sep, h.seph, h.inj, h.hb, h.hlt⟩
theorem FamH.of (h : Fam L B0 w A n c vs) : FamH L B0 w A n c A n c vs := ⟨h.cell, h.froz, h.row, h.sep, h.seph, h.inj, h.hb, h.hlt⟩
theorem FamH.fam (h : FamH L B0 w A n c A n c vs) : Fam L B0 w A n c vs := ⟨h.cell, h.froz, h.row, h.sep, h.seph, h.inj, h.hb, h.hlt⟩
theorem FamH.append {P : Program} (h : FamH L B0 w hA hn hc A n c vs) {k : Nat} (hk : k < L.K) {t : TypeId} {by_ m c2 : Nat} {news : List Value} {a : Addr} (ht : elemT P t = some (L.ty k)) (hinf : infoN P (L.ty k) = some (L.sz k, by_, L.sz k)) (hs : 0 < L.sz k)
  (hl : news.length = m * L.sz k) (hcs : CellsAt w a news) (h1 : ∀ u ∈ news, u.oneCell' = true) (hby : (n k + m) * by_ ≤ 140737488355328) (hnm : n k + m ≤ 140737488355328) (hB : B0 ≤ w.heap.size) :
  ∃ A' c' w', (Builtin.append_ #[t, t] t #[.slice (A k) (n k) (c k), .slice (some a) m c2]).run P w = .ok (.slice A' (n k + m) c') w' ∧ Keep (At (A k)) w w' ∧ FamH L B0 w' hA hn hc (upd A k A') (upd n k (n k + m)) (upd c k c') (upd vs k (vs k ++ news)) ∧ (∀ b, b < w.heap.size → FX L (upd A k A') b → FX L A b) := by
 obtain ⟨A', c', w', hr, hR, hK, hA'⟩ := (h.row k hk).append (c2 := c2) (ty := t) ht hinf hs hl hcs h1 hby hnm hB
 have nohk : ∀ i, i < L.K → ¬ At (A k) (L.hdr i).block := fun i hi hh => h.seph k hk _ hh (h.hb i hi)
 have nohb' : ∀ b, At A' b → ¬ L.HB b := fun b hb hh => by
  rcases hA' b hb with q | q
  ·exact h.seph k hk b q hh
  ·have := (h.hlt b hh).2
   omega
 refine ⟨A', c', w', hr, hK, ⟨fun i hi => hK.cell ⟨h.cell i hi, nohk i hi⟩, fun i hi => (World.frozen?_of_block (hK.block _ (h.hlt _ (h.hb i hi)).2 (nohk i hi))).trans (h.froz i hi), fun i hi => ?_, fun i j hi hj hij b hb => ?_, fun i hi b hb => ?_, h.inj, h.hb, fun b hb => ⟨(h.hlt b hb).1, Nat.lt_of_lt_of_le (h.hlt b hb).2 hK.size⟩⟩, ?_⟩
 ·by_cases hik : i = k
  ·subst hik
   rw [upd_same, upd_same, upd_same, upd_same]
   exact hR
  ·rw [upd_ne _ _ hik, upd_ne _ _ hik, upd_ne _ _ hik, upd_ne _ _ hik]
   exact (h.row i hi).keep hK fun b hb => h.sep i k hi hk hik b hb
 ·have key : ∀ i, i < L.K → i ≠ k → ∀ b, At (A i) b → ¬ At A' b := fun i hi hik b hb hb2 => by
   rcases hA' b hb2 with q | q
   ·exact h.sep i k hi hk hik b hb q
   ·have := ((h.row i hi).at hb).2
    omega
  by_cases hik : i = k
  ·subst hik
   rw [upd_same] at hb
   rw [upd_ne _ _ (fun q => hij q.symm)]
   exact fun q => key j hj (fun q => hij q.symm) b q hb
  ·rw [upd_ne _ _ hik] at hb
   by_cases hjk : j = k
   ·subst hjk; rw [upd_same]; exact key i hi hik b hb
   ·rw [upd_ne _ _ hjk]; exact h.sep i j hi hj hij b hb
 ·by_cases hik : i = k
  ·subst hik; rw [upd_same] at hb; exact nohb' b hb
  ·rw [upd_ne _ _ hik] at hb; exact h.seph i hi b hb
 ·intro b hb hh
  rcases hh with hh | ⟨i, hi, hh⟩
  ·exact .inl hh
  ·by_cases hik : i = k
   ·subst hik
    rw [upd_same] at hh
    rcases hA' b hh with q | q
    ·exact .inr ⟨i, hi, q⟩
    ·omega
   ·rw [upd_ne _ _ hik] at hh
    exact .inr ⟨i, hi, hh⟩
theorem FamH.set (h : FamH L B0 w hA hn hc A n c vs) {k : Nat} (hk : k < L.K) (hw : w' = w.setCell (L.hdr k) (.slice (A k) (n k) (c k))) : FamH L B0 w' (upd hA k (A k)) (upd hn k (n k)) (upd hc k (c k)) A n c vs ∧ Keep (fun b => b = (L.hdr k).block) w w' := by
 have hK := setCell_keep hw
 have nohb : ∀ i, i < L.K → ∀ b, At (A i) b → ¬ b = (L.hdr k).block := fun i hi b hb hh => h.seph i hi b hb (by rw [hh]; exact h.hb k hk)
 refine ⟨⟨fun i hi => ?_, fun i hi => by rw [hw, World.frozen?_setCell]; exact h.froz i hi, fun i hi => (h.row i hi).keep hK (nohb i hi), h.sep, h.seph, h.inj, h.hb, fun b hb => ⟨(h.hlt b hb).1, Nat.lt_of_lt_of_le (h.hlt b hb).2 hK.size⟩⟩, hK⟩
 by_cases hik : i = k
 ·subst hik
  rw [upd_same, upd_same, upd_same, hw]
  exact World.cell?_setCell_same w _ _ (h.cell i hi)
 ·rw [upd_ne _ _ hik, upd_ne _ _ hik, upd_ne _ _ hik, hw, World.cell?_setCell_other w _ _ _ (fun q => hik (h.inj i k hi hk q.symm))]
  exact h.cell i hi
end
structure NRep (B0 : Nat) (w : World) (p U : Addr) (M N : Nat) (hA : Nat → Option Addr) (hn hc : Nat → Nat) (A : Nat → Option Addr) (n c : Nat → Nat) (H : Nat → Prop) (g : GS) : Prop where
 fam : FamH (gLay p U N) B0 w hA hn hc A n c g.vals
 ucell : ∃ cU, w.cell? (p.add 5) = some (.slice (some U) N cU)
 mcell : w.cell? (p.add 6) = some (.map (some M))
 map : MapIs Value.string iv w M g.sigs
 mno : ¬ FX (gLay p U N) A M
 nd : St (fun b => b < B0 ∨ H b) w fun w => SlV cFlat w g.nvals.vals g.nodes
 sub : ∀ b, FX (gLay p U N) A b → H b
 subM : H M
 lo : ∀ b, H b → B0 ≤ b ∧ b < w.heap.size
 pU : p.block ≠ U.block
 tab : Tab10 B0 w
section
variable {B0 : Nat} {w w' : World} {p U : Addr} {M N : Nat} {hA A : Nat → Option Addr} {hn hc n c : Nat → Nat} {H : Nat → Prop} {g : GS}
theorem NRep.of (h : GRep B0 w p U M N A n c H g) : NRep B0 w p U M N A n c A n c H g := ⟨FamH.of h.fam, h.ucell, h.mcell, h.map, h.mno, h.nd, h.sub, h.subM, h.lo, h.pU, h.tab⟩
theorem NRep.rep (h : NRep B0 w p U M N A n c A n c H g) (nad : A 4 = g.nvals.adr) : GRep B0 w p U M N A n c H g := ⟨h.fam.fam, h.ucell, h.mcell, h.map, h.mno, nad, h.nd, h.sub, h.subM, h.lo, h.pU, h.tab⟩
theorem NRep.le (h : NRep B0 w p U M N hA hn hc A n c H g) : B0 ≤ w.heap.size := by have := h.lo _ h.subM; omega
theorem NRep.stay (h : NRep B0 w p U M N hA hn hc A n c H g) (k : Ext w w') : NRep B0 w' p U M N hA hn hc A n c H g :=
 ⟨h.fam.keep k (fun _ _ h => h), h.ucell.imp fun _ => k.cell, k.cell h.mcell, h.map.keep k (fun h => h), h.mno, h.nd.adv (Adv.of_ext k), h.sub, h.subM, fun b hb => ⟨(h.lo b hb).1, Nat.lt_of_lt_of_le (h.lo b hb).2 k.size⟩, h.pU, tab_keep h.tab k h.le (fun _ _ h => h.elim)⟩
theorem ghdr_ne (hpU : p.block ≠ U.block) (k : Nat) {o : Nat} (ho : o = 5 ∨ o = 6) : (gLay p U N).hdr k ≠ p.add o := by
 intro q
 show False
 have q' : (if k < 9 then p.add (goff k) else U.add (k - 9)) = p.add o := q
 split at q'
 ·have := add_inj q'
  unfold goff at this
  split at this <;> omega
 ·have hb : (U.add (k - 9)).block = (p.add o).block := by rw [q']
  rw [Addr.add_block, Addr.add_block] at hb
  exact hpU hb.symm
theorem NRep.hcell (h : NRep B0 w p U M N hA hn hc A n c H g) {k : Nat} (hk : k < 9) : w.cell? (p.add (goff k)) = some (.slice (hA k) (hn k) (hc k)) ∧ w.frozen? (p.add (goff k)) = false := by
 have h1 := h.fam.cell k (show k < 9 + N by omega)
 have h2 := h.fam.froz k (show k < 9 + N by omega)
 have e : (gLay p U N).hdr k = p.add (goff k) := by
  show (if k < 9 then _ else _) = _
  rw [if_pos hk]
 rw [e] at h1 h2
 exact ⟨h1, h2⟩
theorem NRep.append {P : Program} (h : NRep B0 w p U M N hA hn hc A n c H g) {k : Nat} (hk : k < 9 + N) {t : TypeId} {by_ m c2 : Nat} {news : List Value} {a : Addr} (ht : elemT P t = some (gty k)) (hinf : infoN P (gty k) = some (gsz k, by_, gsz k)) (hs : 0 < gsz k)
  (hl : news.length = m * gsz k) (hcs : CellsAt w a news) (h1 : ∀ u ∈ news, u.oneCell' = true) (hby : (n k + m) * by_ ≤ 140737488355328) (hnm : n k + m ≤ 140737488355328) {g' : GS} (hv : ∀ i, i < 9 + N → upd g.vals k (g.vals k ++ news) i = g'.vals i) (hg : g'.sigs = g.sigs) (hnd : St (fun b => b < B0 ∨ H b) w fun w => SlV cFlat w g'.nvals.vals g'.nodes) :
  ∃ A' c' w', (Builtin.append_ #[t, t] t #[.slice (A k) (n k) (c k), .slice (some a) m c2]).run P w = .ok (.slice A' (n k + m) c') w' ∧ Keep (At (A k)) w w' ∧ ∃ H', NRep B0 w' p U M N hA hn hc (upd A k A') (upd n k (n k + m)) (upd c k c') H' g' ∧ Adv H w H' w' ∧ (∀ b, H b → H' b) := by
 obtain ⟨A', c', w', hrun, hK, hf, hgrow⟩ := h.fam.append (c2 := c2) (k := k) hk ht hinf hs hl hcs h1 hby hnm h.le
 have hX : ∀ b, b < w.heap.size → At (A k) b → FX (gLay p U N) A b := fun b _ hb => .inr ⟨k, hk, hb⟩
 have hM := h.map.lt
 have adv : Adv H w (fun b => H b ∨ FX (gLay p U N) (upd A k A') b) w' := ⟨hK.mono fun i hi hx => h.sub i (hX i hi hx), fun i hi hh => hh.elim id fun hh => h.sub i (hgrow i hi hh)⟩
 have hp : ¬ At (A k) p.block := fun hb => h.fam.seph k hk _ hb (.inl rfl)
 refine ⟨A', c', w', hrun, hK, _, ⟨hf.congr fun j hj => hv j hj, h.ucell.imp fun _ hc => hK.cell ⟨hc, by rw [Addr.add_block]; exact hp⟩, hK.cell ⟨h.mcell, by rw [Addr.add_block]; exact hp⟩, ?_, fun hh => h.mno (hgrow M hM hh), hnd.adv adv.low, fun b hb => .inr hb, .inl h.subM, ?_, h.pU, tab_keep h.tab hK h.le (fun b hb hx => (h.lo b (h.sub b (hX b hb hx))).1)⟩, adv, fun b hb => .inl hb⟩
 ·rw [hg]; exact h.map.keep hK fun hx => h.mno (hX M hM hx)
 ·rintro b (hb | hb)
  ·exact ⟨(h.lo b hb).1, Nat.lt_of_lt_of_le (h.lo b hb).2 hK.size⟩
  ·exact hf.fx hb
theorem NRep.set (h : NRep B0 w p U M N hA hn hc A n c H g) {k : Nat} (hk : k < 9 + N) (hw : w' = w.setCell ((gLay p U N).hdr k) (.slice (A k) (n k) (c k))) : NRep B0 w' p U M N (upd hA k (A k)) (upd hn k (n k)) (upd hc k (c k)) A n c H g ∧ Adv H w H w' := by
 obtain ⟨hf, hK⟩ := h.fam.set hk hw
 have hX : ∀ b, b < w.heap.size → b = ((gLay p U N).hdr k).block → FX (gLay p U N) A b := fun b _ hb => by rw [hb]; exact .inl (h.fam.hb k hk)
 have adv : Adv H w H w' := ⟨hK.mono fun i hi hx => h.sub i (hX i hi hx), fun _ _ h => h⟩
 have hM := h.map.lt
 have other : ∀ o, o = 5 ∨ o = 6 → w'.cell? (p.add o) = w.cell? (p.add o) := fun o ho => by rw [hw]; exact World.cell?_setCell_other _ _ _ _ (ghdr_ne h.pU k ho)
 exact ⟨⟨hf, h.ucell.imp fun _ hc => (other 5 (.inl rfl)).trans hc, (other 6 (.inr rfl)).trans h.mcell, h.map.keep hK fun hx => h.mno (hX M hM hx), h.mno, h.nd.adv adv.low, h.sub, h.subM, fun b hb => ⟨(h.lo b hb).1, Nat.lt_of_lt_of_le (h.lo b hb).2 hK.size⟩, h.pU, tab_keep h.tab hK h.le (fun b hb hx => (h.lo b (h.sub b (hX b hb hx))).1)⟩, adv⟩
theorem NRep.re (h : NRep B0 w p U M N hA hn hc A n c H g) {g' : GS} (hv : ∀ k, g.vals k = g'.vals k) (hs : g'.sigs = g.sigs) (hn' : g'.nvals.vals = g.nvals.vals) (hno : g'.nodes = g.nodes) : NRep B0 w p U M N hA hn hc A n c H g' :=
 ⟨h.fam.congr fun k _ => hv k, h.ucell, h.mcell, by rw [hs]; exact h.map, h.mno, by rw [hn', hno]; exact h.nd, h.sub, h.subM, h.lo, h.pU, h.tab⟩
end
end Go.Proofs.YtnbakpoahcndpaaDoor
namespace Go.Proofs.YtnbakpoahcndpaaDoor
set_option linter.unusedVariables false
set_option linter.unusedSimpArgs false
set_option maxHeartbeats 2000000
set_option maxRecDepth 20000
open Wk
def vc_euf_New_J1 (p2 : Addr) (x2 : Int) (k1 : Nat) (I1 : Nat → Int → World → Prop) (w110 : World) : Prop :=
 ∃ A33 n33 c33, w110.cell? (p2.add 7) = some (.slice A33 n33 c33) ∧ 0 ≤ x2 ∧ x2 < (n33 : Int) ∧ ∃ a2, A33 = some a2 ∧ (∃ u14, w110.cell? ((a2.add (x2.toNat * 5)).add 0) = some u14) ∧ w110.frozen? ((a2.add (x2.toNat * 5)).add 0) = false ∧ ∀ w141, w141 = w110.setCell ((a2.add (x2.toNat * 5)).add 0) (.int .i64 (-1)) → (∃ k2, k2 < k1 ∧ I1 k2 (IntKind.wrap .i64 (x2 + 1)) w141)
def vc_euf_New_J2 (p2 : Addr) (x2 : Int) (k1 : Nat) (I1 : Nat → Int → World → Prop) (w72 : World) : Prop :=
 ∃ X3 : Nat → Prop, ∃ A25 n25 c25, w72.cell? ((p2.add 0).add 2) = some (.slice A25 n25 c25) ∧ ¬ X3 ((p2.add 0).add 2).block ∧ ∃ A26 n26 c26, w72.cell? ((p2.add 0).add 3) = some (.slice A26 n26 c26) ∧ ¬ X3 ((p2.add 0).add 3).block ∧ (∀ w127, Drawn w72 w127 → ∀ (p15 : Addr) (w103 : World), New w127 (.cells #[(.int .i64 1)] T.int) p15 w103 → ((∀ w115, Drawn w103 w115 → ∃ (A27 : Option Addr) (n27 c27 : Nat) (w104 : World), (Builtin.append_ #[T.sl_int, T.sl_int] T.sl_int #[(.slice A25 n25 c25), (.slice (some p15) 1 1)]).run P w115 = .ok (.slice A27 n27 c27) w104 ∧ (Keep X3 w72 w104 ∧ (∀ w114, Drawn w104 w114 → ∀ (p16 : Addr) (w105 : World), New w114 (.cells #[(.int .i64 x2)] T.int) p16 w105 → (∀ w113, Drawn w105 w113 → ∃ (A28 : Option Addr) (n28 c28 : Nat) (w106 : World), (Builtin.append_ #[T.sl_int, T.sl_int] T.sl_int #[(.slice A26 n26 c26), (.slice (some p16) 1 1)]).run P w113 = .ok (.slice A28 n28 c28) w106 ∧ (∀ w112, Drawn w106 w112 → (∃ u8, w112.cell? ((p2.add 0).add 2) = some u8) ∧ w112.frozen? ((p2.add 0).add 2) = false ∧ ∀ w107, w107 = w112.setCell ((p2.add 0).add 2) (.slice A27 n27 c27) → (∀ w111, Drawn w107 w111 → (∃ u9, w111.cell? ((p2.add 0).add 3) = some u9) ∧ w111.frozen? ((p2.add 0).add 3) = false ∧ ∀ w108, w108 = w111.setCell ((p2.add 0).add 3) (.slice A28 n28 c28) → (∀ w109, Drawn w108 w109 → ((vc_euf_New_J1 p2 x2 k1 I1) w109)))))))) ∧ (∀ w126, Drawn w103 w126 → ∀ (p17 : Addr) (w116 : World), New w126 (.cells #[(.int .i64 x2)] T.int) p17 w116 → (∀ w125, Drawn w116 w125 → ∃ (A29 : Option Addr) (n29 c29 : Nat) (w117 : World), (Builtin.append_ #[T.sl_int, T.sl_int] T.sl_int #[(.slice A25 n25 c25), (.slice (some p15) 1 1)]).run P w125 = .ok (.slice A29 n29 c29) w117 ∧ (Keep X3 w72 w117 ∧ (∀ w124, Drawn w117 w124 → ∃ (A30 : Option Addr) (n30 c30 : Nat) (w118 : World), (Builtin.append_ #[T.sl_int, T.sl_int] T.sl_int #[(.slice A26 n26 c26), (.slice (some p17) 1 1)]).run P w124 = .ok (.slice A30 n30 c30) w118 ∧ (∀ w123, Drawn w118 w123 → (∃ u10, w123.cell? ((p2.add 0).add 2) = some u10) ∧ w123.frozen? ((p2.add 0).add 2) = false ∧ ∀ w119, w119 = w123.setCell ((p2.add 0).add 2) (.slice A29 n29 c29) → (∀ w122, Drawn w119 w122 → (∃ u11, w122.cell? ((p2.add 0).add 3) = some u11) ∧ w122.frozen? ((p2.add 0).add 3) = false ∧ ∀ w120, w120 = w122.setCell ((p2.add 0).add 3) (.slice A30 n30 c30) → (∀ w121, Drawn w120 w121 → ((vc_euf_New_J1 p2 x2 k1 I1) w121)))))))))) ∧ (∀ w140, Drawn w72 w140 → ∀ (p18 : Addr) (w128 : World), New w140 (.cells #[(.int .i64 x2)] T.int) p18 w128 → (∀ w139, Drawn w128 w139 → ∀ (p19 : Addr) (w129 : World), New w139 (.cells #[(.int .i64 1)] T.int) p19 w129 → (∀ w138, Drawn w129 w138 → ∃ (A31 : Option Addr) (n31 c31 : Nat) (w130 : World), (Builtin.append_ #[T.sl_int, T.sl_int] T.sl_int #[(.slice A25 n25 c25), (.slice (some p19) 1 1)]).run P w138 = .ok (.slice A31 n31 c31) w130 ∧ (Keep X3 w72 w130 ∧ (∀ w137, Drawn w130 w137 → ∃ (A32 : Option Addr) (n32 c32 : Nat) (w131 : World), (Builtin.append_ #[T.sl_int, T.sl_int] T.sl_int #[(.slice A26 n26 c26), (.slice (some p18) 1 1)]).run P w137 = .ok (.slice A32 n32 c32) w131 ∧ (∀ w136, Drawn w131 w136 → (∃ u12, w136.cell? ((p2.add 0).add 2) = some u12) ∧ w136.frozen? ((p2.add 0).add 2) = false ∧ ∀ w132, w132 = w136.setCell ((p2.add 0).add 2) (.slice A31 n31 c31) → (∀ w135, Drawn w132 w135 → (∃ u13, w135.cell? ((p2.add 0).add 3) = some u13) ∧ w135.frozen? ((p2.add 0).add 3) = false ∧ ∀ w133, w133 = w135.setCell ((p2.add 0).add 3) (.slice A32 n32 c32) → (∀ w134, Drawn w133 w134 → ((vc_euf_New_J1 p2 x2 k1 I1) w134)))))))))
def vc_euf_New_J3 (p2 : Addr) (x2 : Int) (k1 : Nat) (I1 : Nat → Int → World → Prop) (w61 : World) : Prop :=
 ∃ X2 : Nat → Prop, ∃ A17 n17 c17, w61.cell? ((p2.add 0).add 0) = some (.slice A17 n17 c17) ∧ ¬ X2 ((p2.add 0).add 0).block ∧ ∃ A18 n18 c18, w61.cell? ((p2.add 0).add 1) = some (.slice A18 n18 c18) ∧ ¬ X2 ((p2.add 0).add 1).block ∧ (∀ w89, Drawn w61 w89 → ∀ (p10 : Addr) (w65 : World), New w89 (.cells #[(.int .i64 x2)] T.int) p10 w65 → ((∀ w77, Drawn w65 w77 → ∃ (A19 : Option Addr) (n19 c19 : Nat) (w66 : World), (Builtin.append_ #[T.sl_int, T.sl_int] T.sl_int #[(.slice A17 n17 c17), (.slice (some p10) 1 1)]).run P w77 = .ok (.slice A19 n19 c19) w66 ∧ (Keep X2 w61 w66 ∧ (∀ w76, Drawn w66 w76 → ∀ (p11 : Addr) (w67 : World), New w76 (.cells #[(.int .i64 x2)] T.int) p11 w67 → (∀ w75, Drawn w67 w75 → ∃ (A20 : Option Addr) (n20 c20 : Nat) (w68 : World), (Builtin.append_ #[T.sl_int, T.sl_int] T.sl_int #[(.slice A18 n18 c18), (.slice (some p11) 1 1)]).run P w75 = .ok (.slice A20 n20 c20) w68 ∧ (∀ w74, Drawn w68 w74 → (∃ u2, w74.cell? ((p2.add 0).add 0) = some u2) ∧ w74.frozen? ((p2.add 0).add 0) = false ∧ ∀ w69, w69 = w74.setCell ((p2.add 0).add 0) (.slice A19 n19 c19) → (∀ w73, Drawn w69 w73 → (∃ u3, w73.cell? ((p2.add 0).add 1) = some u3) ∧ w73.frozen? ((p2.add 0).add 1) = false ∧ ∀ w70, w70 = w73.setCell ((p2.add 0).add 1) (.slice A20 n20 c20) → (∀ w71, Drawn w70 w71 → ((vc_euf_New_J2 p2 x2 k1 I1) w71)))))))) ∧ (∀ w88, Drawn w65 w88 → ∀ (p12 : Addr) (w78 : World), New w88 (.cells #[(.int .i64 x2)] T.int) p12 w78 → (∀ w87, Drawn w78 w87 → ∃ (A21 : Option Addr) (n21 c21 : Nat) (w79 : World), (Builtin.append_ #[T.sl_int, T.sl_int] T.sl_int #[(.slice A17 n17 c17), (.slice (some p10) 1 1)]).run P w87 = .ok (.slice A21 n21 c21) w79 ∧ (Keep X2 w61 w79 ∧ (∀ w86, Drawn w79 w86 → ∃ (A22 : Option Addr) (n22 c22 : Nat) (w80 : World), (Builtin.append_ #[T.sl_int, T.sl_int] T.sl_int #[(.slice A18 n18 c18), (.slice (some p12) 1 1)]).run P w86 = .ok (.slice A22 n22 c22) w80 ∧ (∀ w85, Drawn w80 w85 → (∃ u4, w85.cell? ((p2.add 0).add 0) = some u4) ∧ w85.frozen? ((p2.add 0).add 0) = false ∧ ∀ w81, w81 = w85.setCell ((p2.add 0).add 0) (.slice A21 n21 c21) → (∀ w84, Drawn w81 w84 → (∃ u5, w84.cell? ((p2.add 0).add 1) = some u5) ∧ w84.frozen? ((p2.add 0).add 1) = false ∧ ∀ w82, w82 = w84.setCell ((p2.add 0).add 1) (.slice A22 n22 c22) → (∀ w83, Drawn w82 w83 → ((vc_euf_New_J2 p2 x2 k1 I1) w83)))))))))) ∧ (∀ w102, Drawn w61 w102 → ∀ (p13 : Addr) (w90 : World), New w102 (.cells #[(.int .i64 x2)] T.int) p13 w90 → (∀ w101, Drawn w90 w101 → ∀ (p14 : Addr) (w91 : World), New w101 (.cells #[(.int .i64 x2)] T.int) p14 w91 → (∀ w100, Drawn w91 w100 → ∃ (A23 : Option Addr) (n23 c23 : Nat) (w92 : World), (Builtin.append_ #[T.sl_int, T.sl_int] T.sl_int #[(.slice A17 n17 c17), (.slice (some p14) 1 1)]).run P w100 = .ok (.slice A23 n23 c23) w92 ∧ (Keep X2 w61 w92 ∧ (∀ w99, Drawn w92 w99 → ∃ (A24 : Option Addr) (n24 c24 : Nat) (w93 : World), (Builtin.append_ #[T.sl_int, T.sl_int] T.sl_int #[(.slice A18 n18 c18), (.slice (some p13) 1 1)]).run P w99 = .ok (.slice A24 n24 c24) w93 ∧ (∀ w98, Drawn w93 w98 → (∃ u6, w98.cell? ((p2.add 0).add 0) = some u6) ∧ w98.frozen? ((p2.add 0).add 0) = false ∧ ∀ w94, w94 = w98.setCell ((p2.add 0).add 0) (.slice A23 n23 c23) → (∀ w97, Drawn w94 w97 → (∃ u7, w97.cell? ((p2.add 0).add 1) = some u7) ∧ w97.frozen? ((p2.add 0).add 1) = false ∧ ∀ w95, w95 = w97.setCell ((p2.add 0).add 1) (.slice A24 n24 c24) → (∀ w96, Drawn w95 w96 → ((vc_euf_New_J2 p2 x2 k1 I1) w96)))))))))
def vc_euf_New_J4 (k4 : Nat) (I3 : Nat → Int → World → Prop) (x8 : Int) (w152 : World) : Prop :=
 ∃ k5, k5 < k4 ∧ I3 k5 (IntKind.wrap .i64 (x8 + 1)) w152
def vc_euf_New_J5 (k3 : Nat) (I2 : Nat → Int → World → Prop) (x5 : Int) (w145 : World) : Prop :=
 ∃ k6, k6 < k3 ∧ I2 k6 (IntKind.wrap .i64 (x5 + 1)) w145
def vc_euf_New_J6 (n1 : Nat) (A1 : Option Addr) (K : Option Addr → Int → World → Prop) (p2 : Addr) (w7 : World) : Prop :=
 ∃ I1 : Nat → Int → World → Prop, (∃ k1, I1 k1 0 w7) ∧ ∀ k1 (x2 : Int) (w51 : World), I1 k1 x2 w51 → ((x2 < (n1 : Int) → (0 ≤ x2 ∧ x2 < (n1 : Int) ∧ ∃ a1, A1 = some a1 ∧ ∃ x3, ∃ A12 n12 c12, CellsAt w51 (a1.add (x2.toNat * 2)) [(.int .i64 x3), (.slice A12 n12 c12)] ∧ ∀ (p8 : Addr) (w52 : World), New w51 (.cells #[(.int .i64 0), (.slice none 0 0)] T.api_Flat) p8 w52 → (Soft w52 p8 2 ∧ ∀ w53, w53 = setCellsAt w52 p8 [(.int .i64 x3), (.slice A12 n12 c12)] → (∃ X1 : Nat → Prop, ∃ A13 n13 c13, w53.cell? (p2.add 4) = some (.slice A13 n13 c13) ∧ ¬ X1 (p2.add 4).block ∧ ∃ x4, w53.cell? (p8.add 0) = some (.int .i64 x4) ∧ ¬ X1 (p8.add 0).block ∧ ∃ A14 n14 c14, w53.cell? (p8.add 1) = some (.slice A14 n14 c14) ∧ ∀ w55, Drawn w53 w55 → Calls P F.slices_Clone_sl_int_int #[(.slice A14 n14 c14)] w55 (Ret fun v2 w54 => ∃ A15 n15 c15, v2 = (.slice A15 n15 c15) ∧ Keep X1 w53 w54 ∧ ∀ w64, Drawn w54 w64 → ∀ (p9 : Addr) (w57 : World), New w64 (.cells #[(.int .i64 x4), (.slice A15 n15 c15)] T.api_Flat) p9 w57 → (∀ w63, Drawn w57 w63 → ∃ (A16 : Option Addr) (n16 c16 : Nat) (w58 : World), (Builtin.append_ #[T.sl_api_Flat, T.sl_api_Flat] T.sl_api_Flat #[(.slice A13 n13 c13), (.slice (some p9) 1 1)]).run P w63 = .ok (.slice A16 n16 c16) w58 ∧ (∀ w62, Drawn w58 w62 → (∃ u1, w62.cell? (p2.add 4) = some u1) ∧ w62.frozen? (p2.add 4) = false ∧ ∀ w59, w59 = w62.setCell (p2.add 4) (.slice A16 n16 c16) → (∀ w60, Drawn w59 w60 → ((vc_euf_New_J3 p2 x2 k1 I1) w60))))))))) ∧ (¬ (x2 < (n1 : Int)) → (∃ A34 n34 c34, w51.cell? (p2.add 4) = some (.slice A34 n34 c34) ∧ ∃ I2 : Nat → Int → World → Prop, (∃ k3, I2 k3 0 w51) ∧ ∀ k3 (x5 : Int) (w142 : World), I2 k3 x5 w142 → ((x5 < (n34 : Int) → (0 ≤ x5 ∧ x5 < (n34 : Int) ∧ ∃ a3, A34 = some a3 ∧ ∃ x6, ∃ A35 n35 c35, CellsAt w142 (a3.add (x5.toNat * 2)) [(.int .i64 x6), (.slice A35 n35 c35)] ∧ ∀ (p20 : Addr) (w143 : World), New w142 (.cells #[(.int .i64 0), (.slice none 0 0)] T.api_Flat) p20 w143 → (Soft w143 p20 2 ∧ ∀ w144, w144 = setCellsAt w143 p20 [(.int .i64 x6), (.slice A35 n35 c35)] → (∃ x7, w144.cell? (p20.add 0) = some (.int .i64 x7) ∧ (x7 < 0 → ((vc_euf_New_J5 k3 I2 x5) w144)) ∧ (¬ (x7 < 0) → (∃ A36 n36 c36, w144.cell? (p20.add 1) = some (.slice A36 n36 c36) ∧ ∃ I3 : Nat → Int → World → Prop, (∃ k4, I3 k4 0 w144) ∧ ∀ k4 (x8 : Int) (w146 : World), I3 k4 x8 w146 → ((x8 < (n36 : Int) → (0 ≤ x8 ∧ x8 < (n36 : Int) ∧ ∃ a4, A36 = some a4 ∧ ∃ x9, w146.cell? (a4.add (x8.toNat * 1)) = some (.int .i64 x9) ∧ Calls P F.euf_classes_find #[(.pointer (some (p2.add 0))), (.int .i64 x9)] w146 (Ret fun v3 w147 => ∃ x10, v3 = (.int .i64 x10) ∧ ∃ X4 : Nat → Prop, ∃ A37 n37 c37, w147.cell? (p2.add 5) = some (.slice A37 n37 c37) ∧ ¬ X4 (p2.add 5).block ∧ ∃ A38 n38 c38, w147.cell? (p2.add 5) = some (.slice A38 n38 c38) ∧ ¬ X4 (p2.add 5).block ∧ 0 ≤ x10 ∧ x10 < (n38 : Int) ∧ ∃ a5, A38 = some a5 ∧ ∃ A39 n39 c39, w147.cell? (a5.add (x10.toNat * 1)) = some (.slice A39 n39 c39) ∧ ¬ X4 (a5.add (x10.toNat * 1)).block ∧ ∀ w155, Drawn w147 w155 → ∀ (p21 : Addr) (w148 : World), New w155 (.cells #[(.int .i64 x5)] T.int) p21 w148 → (∀ w154, Drawn w148 w154 → ∃ (A40 : Option Addr) (n40 c40 : Nat) (w149 : World), (Builtin.append_ #[T.sl_int, T.sl_int] T.sl_int #[(.slice A39 n39 c39), (.slice (some p21) 1 1)]).run P w154 = .ok (.slice A40 n40 c40) w149 ∧ (Keep X4 w147 w149 ∧ (0 ≤ x10 ∧ x10 < (n37 : Int) ∧ ∃ a6, A37 = some a6 ∧ ∀ w153, Drawn w149 w153 → (∃ u15, w153.cell? (a6.add (x10.toNat * 1)) = some u15) ∧ w153.frozen? (a6.add (x10.toNat * 1)) = false ∧ ∀ w150, w150 = w153.setCell (a6.add (x10.toNat * 1)) (.slice A40 n40 c40) → (∀ w151, Drawn w150 w151 → ((vc_euf_New_J4 k4 I3 x8) w151)))))))) ∧ (¬ (x8 < (n36 : Int)) → (Calls P F.euf_Graph_enter #[(.pointer (some p2)), (.int .i64 x5)] w146 (Ret fun v4 w156 => ∃ x11, ∃ b2, v4 = (.tuple #[(.int .i64 x11), (.bool b2)]) ∧ ((!b2) = true → (Calls P F.euf_Graph_merge #[(.pointer (some p2)), (.agg #[(.int .i64 0), (.bool true), (.int .i64 x5), (.int .i64 x11), (.int .i64 0)])] w156 (Ret fun v5 w157 => v5 = (.tuple #[]) ∧ (vc_euf_New_J5 k3 I2 x5) w157))) ∧ ((!b2) = false → ((vc_euf_New_J5 k3 I2 x5) w156)))))))))))) ∧ (¬ (x5 < (n34 : Int)) → ((∃ u16, w142.cell? (p2.add 9) = some u16) ∧ w142.frozen? (p2.add 9) = false ∧ ∀ w158, w158 = w142.setCell (p2.add 9) (.slice none 0 0) → (K (some p2) 0 w158)))))))
def vc_euf_New (A1 : Option Addr) (n1 c1 : Nat) (K : Option Addr → Int → World → Prop) (w : World) : Prop :=
 Calls P F.euf_sound #[(.slice A1 n1 c1)] w (Ret fun v1 w1 => ∃ b1, v1 = (.bool b1) ∧ ((!b1) = true → (K none 80 w1)) ∧ ((!b1) = false → ((∀ w18, Drawn w1 w18 → ∀ (m1 : Nat) (w2 : World), NewM w18 m1 w2 → ((∀ w10, Drawn w2 w10 → ∃ (A2 : Option Addr) (n2 c2 : Nat) (w3 : World), (Instr.makeSlice T.sl_sl_int (.int .i64 (n1 : Int)) (.int .i64 (n1 : Int))).run P w10 = .ok (.slice A2 n2 c2) w3 ∧ (∀ w9, Drawn w3 w9 → ∃ (A3 : Option Addr) (n3 c3 : Nat) (w4 : World), (Instr.makeSlice T.sl_euf_edge (.int .i64 (n1 : Int)) (.int .i64 (n1 : Int))).run P w9 = .ok (.slice A3 n3 c3) w4 ∧ (∀ w8, Drawn w4 w8 → ∀ (p1 : Addr) (w5 : World), New w8 (.cells #[(.slice none 0 0), (.slice none 0 0), (.slice none 0 0), (.slice none 0 0), (.slice none 0 0), (.slice A2 n2 c2), (.map (some m1)), (.slice A3 n3 c3), (.slice none 0 0), (.slice none 0 0), (.slice none 0 0)] T.euf_Graph) p1 w5 → (∀ w6, Drawn w5 w6 → ((vc_euf_New_J6 n1 A1 K) p1 w6))))) ∧ (∀ w17, Drawn w2 w17 → ∃ (A4 : Option Addr) (n4 c4 : Nat) (w11 : World), (Instr.makeSlice T.sl_euf_edge (.int .i64 (n1 : Int)) (.int .i64 (n1 : Int))).run P w17 = .ok (.slice A4 n4 c4) w11 ∧ (∀ w16, Drawn w11 w16 → ∃ (A5 : Option Addr) (n5 c5 : Nat) (w12 : World), (Instr.makeSlice T.sl_sl_int (.int .i64 (n1 : Int)) (.int .i64 (n1 : Int))).run P w16 = .ok (.slice A5 n5 c5) w12 ∧ (∀ w15, Drawn w12 w15 → ∀ (p3 : Addr) (w13 : World), New w15 (.cells #[(.slice none 0 0), (.slice none 0 0), (.slice none 0 0), (.slice none 0 0), (.slice none 0 0), (.slice A5 n5 c5), (.map (some m1)), (.slice A4 n4 c4), (.slice none 0 0), (.slice none 0 0), (.slice none 0 0)] T.euf_Graph) p3 w13 → (∀ w14, Drawn w13 w14 → ((vc_euf_New_J6 n1 A1 K) p3 w14))))))) ∧ (∀ w34, Drawn w1 w34 → ∃ (A6 : Option Addr) (n6 c6 : Nat) (w19 : World), (Instr.makeSlice T.sl_sl_int (.int .i64 (n1 : Int)) (.int .i64 (n1 : Int))).run P w34 = .ok (.slice A6 n6 c6) w19 ∧ ((∀ w26, Drawn w19 w26 → ∀ (m2 : Nat) (w20 : World), NewM w26 m2 w20 → (∀ w25, Drawn w20 w25 → ∃ (A7 : Option Addr) (n7 c7 : Nat) (w21 : World), (Instr.makeSlice T.sl_euf_edge (.int .i64 (n1 : Int)) (.int .i64 (n1 : Int))).run P w25 = .ok (.slice A7 n7 c7) w21 ∧ (∀ w24, Drawn w21 w24 → ∀ (p4 : Addr) (w22 : World), New w24 (.cells #[(.slice none 0 0), (.slice none 0 0), (.slice none 0 0), (.slice none 0 0), (.slice none 0 0), (.slice A6 n6 c6), (.map (some m2)), (.slice A7 n7 c7), (.slice none 0 0), (.slice none 0 0), (.slice none 0 0)] T.euf_Graph) p4 w22 → (∀ w23, Drawn w22 w23 → ((vc_euf_New_J6 n1 A1 K) p4 w23))))) ∧ (∀ w33, Drawn w19 w33 → ∃ (A8 : Option Addr) (n8 c8 : Nat) (w27 : World), (Instr.makeSlice T.sl_euf_edge (.int .i64 (n1 : Int)) (.int .i64 (n1 : Int))).run P w33 = .ok (.slice A8 n8 c8) w27 ∧ (∀ w32, Drawn w27 w32 → ∀ (m3 : Nat) (w28 : World), NewM w32 m3 w28 → (∀ w31, Drawn w28 w31 → ∀ (p5 : Addr) (w29 : World), New w31 (.cells #[(.slice none 0 0), (.slice none 0 0), (.slice none 0 0), (.slice none 0 0), (.slice none 0 0), (.slice A6 n6 c6), (.map (some m3)), (.slice A8 n8 c8), (.slice none 0 0), (.slice none 0 0), (.slice none 0 0)] T.euf_Graph) p5 w29 → (∀ w30, Drawn w29 w30 → ((vc_euf_New_J6 n1 A1 K) p5 w30))))))) ∧ (∀ w50, Drawn w1 w50 → ∃ (A9 : Option Addr) (n9 c9 : Nat) (w35 : World), (Instr.makeSlice T.sl_euf_edge (.int .i64 (n1 : Int)) (.int .i64 (n1 : Int))).run P w50 = .ok (.slice A9 n9 c9) w35 ∧ ((∀ w42, Drawn w35 w42 → ∀ (m4 : Nat) (w36 : World), NewM w42 m4 w36 → (∀ w41, Drawn w36 w41 → ∃ (A10 : Option Addr) (n10 c10 : Nat) (w37 : World), (Instr.makeSlice T.sl_sl_int (.int .i64 (n1 : Int)) (.int .i64 (n1 : Int))).run P w41 = .ok (.slice A10 n10 c10) w37 ∧ (∀ w40, Drawn w37 w40 → ∀ (p6 : Addr) (w38 : World), New w40 (.cells #[(.slice none 0 0), (.slice none 0 0), (.slice none 0 0), (.slice none 0 0), (.slice none 0 0), (.slice A10 n10 c10), (.map (some m4)), (.slice A9 n9 c9), (.slice none 0 0), (.slice none 0 0), (.slice none 0 0)] T.euf_Graph) p6 w38 → (∀ w39, Drawn w38 w39 → ((vc_euf_New_J6 n1 A1 K) p6 w39))))) ∧ (∀ w49, Drawn w35 w49 → ∃ (A11 : Option Addr) (n11 c11 : Nat) (w43 : World), (Instr.makeSlice T.sl_sl_int (.int .i64 (n1 : Int)) (.int .i64 (n1 : Int))).run P w49 = .ok (.slice A11 n11 c11) w43 ∧ (∀ w48, Drawn w43 w48 → ∀ (m5 : Nat) (w44 : World), NewM w48 m5 w44 → (∀ w47, Drawn w44 w47 → ∀ (p7 : Addr) (w45 : World), New w47 (.cells #[(.slice none 0 0), (.slice none 0 0), (.slice none 0 0), (.slice none 0 0), (.slice none 0 0), (.slice A11 n11 c11), (.map (some m5)), (.slice A9 n9 c9), (.slice none 0 0), (.slice none 0 0), (.slice none 0 0)] T.euf_Graph) p7 w45 → (∀ w46, Drawn w45 w46 → ((vc_euf_New_J6 n1 A1 K) p7 w46))))))))))
theorem ok_euf_New (A1 : Option Addr) (n1 c1 : Nat) (K : Option Addr → Int → World → Prop) (w : World) (H : vc_euf_New A1 n1 c1 K w) : Calls P F.euf_New #[(.slice A1 n1 c1)] w (Ret fun v w' => ∃ q1, ∃ x1, v = (.tuple #[(.pointer q1), (.int .i64 x1)]) ∧ K q1 x1 w') := by
 unfold vc_euf_New at H; refine calls_of (P := P) Tryd.func19 rfl [(0, (.slice A1 n1 c1))] 163 rfl rfl (fun p hp => by rcases List.mem_singleton.1 hp with rfl; rfl) (cw_seq (cw_region (ag rfl (ag rfl (sl_nil (nc (kp 0 rfl zz) (cw_seq (cw_seq (cw_region (mv rfl (sl_call rfl rfl (wanted_none rfl) (fun a ha => x_call0 (ha.ev rfl) (ha.evs rfl) FF.callable_euf_sound) H ?_))))))))))); rintro _ w1 ⟨b1, rfl, H⟩; refine sv rfl rfl (fun a ha => x_unOp (ha.ev rfl) u_not) (sl_nil (nc (kp 0 rfl (kp 16 rfl zz)) ?_)); refine cw_cond rfl (fun hb => ?_) (fun hb => ?_)
 ·replace H := H.1 hb; exact cw_seq (cw_region (ag rfl (ag rfl (sl_nil (nc (kp 2 rfl (kp 3 rfl zz)) (cw_ret (nx_ret_then (nx_body_ret (res2 rfl rfl rfl) ⟨_, rfl, _, _, rfl, H⟩))))))))
 ·replace H := H.2 hb; refine cw_skip (nc (kp 0 rfl zz) ?_); refine cw_join (fun a w => ∃ p2 : Addr, Ok 163 [(0, (.slice A1 n1 c1)), (4, (.pointer (some p2)))] a ∧ vc_euf_New_J6 n1 A1 K p2 w) ?_ ?_
  ·rintro a w7 ⟨p2, ha, H⟩; unfold vc_euf_New_J6 at H; refine (?_ : CW _ _ _ 163 [(0, (.slice A1 n1 c1)), (4, (.pointer (some p2)))] _) a ha; refine cw_seq (cw_seq (cw_region (mv rfl (sv rfl rfl (fun a ha => x_builtin (ha.evs rfl) (fun _ => l_slice TF.isslice_sl_api_Flat)) (mv rfl (sl_nil (nc (kp 4 rfl (kp 26 rfl (kp 27 rfl (kp 28 rfl zz)))) (cw_block ?_)))))))); obtain ⟨I1, ⟨k1, hi⟩, H⟩ := H; refine cw_loop (fun k1 a w' => ∃ x2, Ok 163 [(4, (.pointer (some p2))), (26, (.slice A1 n1 c1)), (27, (.int .i64 (n1 : Int))), (28, (.int .i64 x2))] a ∧ I1 k1 x2 w') (fun a ha => ⟨k1, 0, ha.weaken (sub.cons rfl (sub.cons rfl (sub.cons rfl (sub.cons rfl (sub.nil))))), hi⟩) ?_; rintro k1 a w51 ⟨x2, ha, hI⟩; replace H := H k1 x2 w51 hI; refine (?_ : CW _ _ _ 163 [(4, (.pointer (some p2))), (26, (.slice A1 n1 c1)), (27, (.int .i64 (n1 : Int))), (28, (.int .i64 x2))] _) a ha; refine cw_seq (cw_region (bo rfl rfl o_lss (sl_nil (nc (kp 4 rfl (kp 26 rfl (kp 27 rfl (kp 28 rfl (kp 29 rfl zz))))) (cw_seq ?_))))); refine cw_cond_p rfl (fun hb => ?_) (fun hb => ?_)
   ·replace H := H.1 hb; refine cw_skip (nc (kp 4 rfl (kp 26 rfl (kp 27 rfl (kp 28 rfl zz)))) (cw_seq (cw_block (cw_seq (cw_region (mv rfl ?_)))))); obtain ⟨h17, h18, a1, e1, H⟩ := H; refine ix rfl rfl (i_index TF.elem_sl_api_Flat TF.size_api_Flat e1 h17 h18) ?_; obtain ⟨x3, A12, n12, c12, h19, H⟩ := H; refine ld rfl (i_loadN (vs := [(.int .i64 x3), (.slice A12 n12 c12)]) TF.agg_api_Flat TF.size_api_Flat h19) (sl_new (f := (fun p => .pointer (some p))) rfl rfl (wanted_none rfl) (fun a ha => x_alloc (i_alloc TF.zero_api_Flat)) ?_); intro p8 w52 hN; replace H := H _ _ hN; refine ag rfl ?_; obtain ⟨h21, H⟩ := H; refine sl_un rfl (wanted_none rfl) (fun a ha => x_store (ha.ev rfl) (ha.ev rfl) (i_storeN TF.size_api_Flat (by simp [Value.oneCell']) h21)) ?_; intro w53 hw; replace H := H _ hw; clear hw; refine sl_nil (nc (kp 4 rfl (kp 5 rfl (kp 6 rfl (kp 26 rfl (kp 27 rfl (kp 28 rfl zz)))))) ?_); refine cw_join (fun a w => Ok 163 [(4, (.pointer (some p2))), (5, (.int .i64 x2)), (26, (.slice A1 n1 c1)), (27, (.int .i64 (n1 : Int))), (28, (.int .i64 x2))] a ∧ vc_euf_New_J3 p2 x2 k1 I1  w) ?_ ?_
    ·rintro a w61 ⟨ha, H⟩; unfold vc_euf_New_J3 at H; refine (?_ : CW _ _ _ 163 [(4, (.pointer (some p2))), (5, (.int .i64 x2)), (26, (.slice A1 n1 c1)), (27, (.int .i64 (n1 : Int))), (28, (.int .i64 x2))] _) a ha; refine cw_join (fun a w => Ok 163 [(4, (.pointer (some p2))), (5, (.int .i64 x2)), (26, (.slice A1 n1 c1)), (27, (.int .i64 (n1 : Int))), (28, (.int .i64 x2))] a ∧ vc_euf_New_J2 p2 x2 k1 I1  w) ?_ ?_
     ·rintro a w72 ⟨ha, H⟩; unfold vc_euf_New_J2 at H; refine (?_ : CW _ _ _ 163 [(4, (.pointer (some p2))), (5, (.int .i64 x2)), (26, (.slice A1 n1 c1)), (27, (.int .i64 (n1 : Int))), (28, (.int .i64 x2))] _) a ha; refine cw_join (fun a w => Ok 163 [(4, (.pointer (some p2))), (5, (.int .i64 x2)), (26, (.slice A1 n1 c1)), (27, (.int .i64 (n1 : Int))), (28, (.int .i64 x2))] a ∧ vc_euf_New_J1 p2 x2 k1 I1  w) ?_ ?_
      ·rintro a w110 ⟨ha, H⟩; unfold vc_euf_New_J1 at H; refine (?_ : CW _ _ _ 163 [(4, (.pointer (some p2))), (5, (.int .i64 x2)), (26, (.slice A1 n1 c1)), (27, (.int .i64 (n1 : Int))), (28, (.int .i64 x2))] _) a ha; refine cw_region (mv rfl (nk rfl (fa rfl (TF.fld_euf_Graph_4 _ _) ?_))); obtain ⟨A33, n33, c33, h70, H⟩ := H; refine ld rfl (i_load1 TF.agg_sl_euf_edge h70) (mv rfl ?_); obtain ⟨h71, h72, a2, e2, H⟩ := H; refine ix rfl rfl (i_index TF.elem_sl_euf_edge TF.size_euf_edge e2 h71 h72) (fa rfl (TF.fld_euf_edge_0 _ _) ?_); obtain ⟨⟨u14, h73⟩, h74, H⟩ := H; refine sl_un rfl (wanted_none rfl) (fun a ha => x_store (ha.ev rfl) (ha.ev rfl) (i_store1 TF.size_int rfl rfl h73 h74)) ?_; intro w141 hw; replace H := H _ hw; clear hw; refine sl_nil (nx_block (nc (kp 4 rfl (kp 26 rfl (kp 27 rfl (kp 28 rfl zz)))) (cw_region (bo rfl rfl o_add (mv rfl (sl_nil ?_)))))); obtain ⟨k2, hk, H⟩ := H; exact nx_to fun a ha => ⟨k2, hk, IntKind.wrap .i64 (x2 + 1), ha.weaken (cn rfl (cn rfl (cn rfl (cn rfl zz)))), H⟩
      ·obtain ⟨X3, H⟩ := H; refine cw_any_keep follows X3 [0, 1, 2, 3, 4, 5, 6, 9, 10, 11, 12, 13, 14, 17, 18, 19, 21, 22, 23] [6, 13] 25 rfl rfl (by kernel_rfl) (fun _ _ d _ _ h => by cases d <;> exact h) (fun cm W D => ?_); refine pmv 0 cm rfl rfl D W fun _ D W => (pmv 1 cm rfl rfl D W fun _ D W => (pmv 2 cm rfl rfl D W fun _ D W => (pnk 3 cm rfl rfl D W fun _ D W => (pfa 4 cm rfl rfl (TF.fld_euf_Graph_0 _ _) D W fun _ D W => (pfa 5 cm rfl rfl (TF.fld_euf_classes_2 _ _) D W fun _ D W => ?_))))); obtain ⟨A25, n25, c25, h50, hx', H⟩ := H; replace h50 := And.intro h50 hx'; clear hx'; refine vl 6 cm rfl rfl (fun hw => (i_load1 TF.agg_sl_int (hw.cell h50))) D W fun _ D W => (pmv 9 cm rfl rfl D W fun _ D W => (pnk 10 cm rfl rfl D W fun _ D W => (pfa 11 cm rfl rfl (TF.fld_euf_Graph_0 _ _) D W fun _ D W => (pfa 12 cm rfl rfl (TF.fld_euf_classes_3 _ _) D W fun _ D W => ?_)))); obtain ⟨A26, n26, c26, h51, hx', H⟩ := H; replace h51 := And.intro h51 hx'; clear hx'; refine vl 13 cm rfl rfl (fun hw => (i_load1 TF.agg_sl_int (hw.cell h51))) D W fun _ D W => (pmv 14 cm rfl rfl D W fun _ D W => ?_); refine an_ready (rs := [7, 15]) (by kernel_rfl) rfl (aw_cons ?_ (aw_cons ?_ aw_nil))
       ·replace H := H.1; replace H := H _ D; refine aw_new (f := (fun p => .slice (some p) 1 1)) rfl rfl rfl (wanted_none rfl) (fun a ha => x_buildSlice (u := .slice (some ⟨_, 0, none⟩) 1 1) (w' := World.alloc _ (.cells #[(.int .i64 1)] T.int)) (qs := [(0, (.int .i64 1))]) (by simp only [List.map_cons, List.map_nil, ha.ev (x := (.const (.int .i64 1))) rfl]) (by kernel_rfl)) rfl true (by kernel_rfl) ?_; intro p15 w103 hN _ D; replace H := H _ _ hN; replace W := (W.new hN).drawn D; refine ⟨fun _ => W, ?_⟩; refine an_ready (rs := [8, 15]) (by kernel_rfl) rfl (aw_cons ?_ (aw_cons ?_ aw_nil))
        ·replace H := H.1; replace H := H _ D; obtain ⟨A27, n27, c27, w104, h52, H⟩ := H; refine aw_v rfl rfl rfl (wanted_none rfl) (fun a ha => x_builtin (ha.evs rfl) (fun _ => bi_append h52)) rfl true (by kernel_rfl) ?_; intro _ D; have W := H.1.drawn D; replace H := H.2; refine ⟨fun _ => W, ?_⟩; refine ar 15 ?_; replace H := H _ D; refine aw_new (f := (fun p => .slice (some p) 1 1)) rfl rfl rfl (wanted_none rfl) (fun a ha => x_buildSlice (u := .slice (some ⟨_, 0, none⟩) 1 1) (w' := World.alloc _ (.cells #[(.int .i64 x2)] T.int)) (qs := [(0, (.int .i64 x2))]) (by simp only [List.map_cons, List.map_nil, ha.ev (x := (.tmp 86)) rfl]) (by kernel_rfl)) rfl true (by kernel_rfl) ?_; intro p16 w105 hN _ D; replace H := H _ _ hN; replace W := (W.new hN).drawn D; refine ⟨fun _ => W, ?_⟩; refine ar 16 ?_; replace H := H _ D; obtain ⟨A28, n28, c28, w106, h53, H⟩ := H; refine aw_v rfl rfl rfl (wanted_none rfl) (fun a ha => x_builtin (ha.evs rfl) (fun _ => bi_append h53)) rfl false (by kernel_rfl) ?_; intro _ D; refine ⟨fun h => (by cases h), ?_⟩; refine pnkd 17 cm rfl rfl D fun _ D => (pfad 18 cm rfl rfl (TF.fld_euf_Graph_0 _ _) D fun _ D => (pfad 19 cm rfl rfl (TF.fld_euf_classes_2 _ _) D fun _ D => (ar 20 ?_))); replace H := H _ D; obtain ⟨⟨u8, h54⟩, h55, H⟩ := H; refine aw_un rfl rfl (wanted_none rfl) (fun a ha => x_store (ha.ev rfl) (ha.ev rfl) (i_store1 TF.size_sl_int rfl rfl h54 h55)) rfl false (by kernel_rfl) ?_; intro w107 hw _ D; replace H := H _ hw; clear hw; refine ⟨fun h => (by cases h), ?_⟩; refine pnkd 21 cm rfl rfl D fun _ D => (pfad 22 cm rfl rfl (TF.fld_euf_Graph_0 _ _) D fun _ D => (pfad 23 cm rfl rfl (TF.fld_euf_classes_3 _ _) D fun _ D => (ar 24 ?_))); replace H := H _ D; obtain ⟨⟨u9, h56⟩, h57, H⟩ := H; refine aw_un rfl rfl (wanted_none rfl) (fun a ha => x_store (ha.ev rfl) (ha.ev rfl) (i_store1 TF.size_sl_int rfl rfl h56 h57)) rfl false (by kernel_rfl) ?_; intro w108 hw _ D; replace H := H _ hw; clear hw; refine ⟨fun h => (by cases h), ?_⟩; refine an_end (by kernel_rfl) D ?_; intro w109 D; replace H := H _ D; clear D cm; exact nx_to fun a ha => ⟨ha.weaken (cn rfl (cn rfl (cn rfl (cn rfl (cn rfl zz))))), H⟩
        ·replace H := H.2; replace H := H _ D; refine aw_new (f := (fun p => .slice (some p) 1 1)) rfl rfl rfl (wanted_none rfl) (fun a ha => x_buildSlice (u := .slice (some ⟨_, 0, none⟩) 1 1) (w' := World.alloc _ (.cells #[(.int .i64 x2)] T.int)) (qs := [(0, (.int .i64 x2))]) (by simp only [List.map_cons, List.map_nil, ha.ev (x := (.tmp 86)) rfl]) (by kernel_rfl)) rfl true (by kernel_rfl) ?_; intro p17 w116 hN _ D; replace H := H _ _ hN; replace W := (W.new hN).drawn D; refine ⟨fun _ => W, ?_⟩; refine ar 8 ?_; replace H := H _ D; obtain ⟨A29, n29, c29, w117, h58, H⟩ := H; refine aw_v rfl rfl rfl (wanted_none rfl) (fun a ha => x_builtin (ha.evs rfl) (fun _ => bi_append h58)) rfl true (by kernel_rfl) ?_; intro _ D; have W := H.1.drawn D; replace H := H.2; refine ⟨fun _ => W, ?_⟩; refine ar 16 ?_; replace H := H _ D; obtain ⟨A30, n30, c30, w118, h59, H⟩ := H; refine aw_v rfl rfl rfl (wanted_none rfl) (fun a ha => x_builtin (ha.evs rfl) (fun _ => bi_append h59)) rfl false (by kernel_rfl) ?_; intro _ D; refine ⟨fun h => (by cases h), ?_⟩; refine pnkd 17 cm rfl rfl D fun _ D => (pfad 18 cm rfl rfl (TF.fld_euf_Graph_0 _ _) D fun _ D => (pfad 19 cm rfl rfl (TF.fld_euf_classes_2 _ _) D fun _ D => (ar 20 ?_))); replace H := H _ D; obtain ⟨⟨u10, h60⟩, h61, H⟩ := H; refine aw_un rfl rfl (wanted_none rfl) (fun a ha => x_store (ha.ev rfl) (ha.ev rfl) (i_store1 TF.size_sl_int rfl rfl h60 h61)) rfl false (by kernel_rfl) ?_; intro w119 hw _ D; replace H := H _ hw; clear hw; refine ⟨fun h => (by cases h), ?_⟩; refine pnkd 21 cm rfl rfl D fun _ D => (pfad 22 cm rfl rfl (TF.fld_euf_Graph_0 _ _) D fun _ D => (pfad 23 cm rfl rfl (TF.fld_euf_classes_3 _ _) D fun _ D => (ar 24 ?_))); replace H := H _ D; obtain ⟨⟨u11, h62⟩, h63, H⟩ := H; refine aw_un rfl rfl (wanted_none rfl) (fun a ha => x_store (ha.ev rfl) (ha.ev rfl) (i_store1 TF.size_sl_int rfl rfl h62 h63)) rfl false (by kernel_rfl) ?_; intro w120 hw _ D; replace H := H _ hw; clear hw; refine ⟨fun h => (by cases h), ?_⟩; refine an_end (by kernel_rfl) D ?_; intro w121 D; replace H := H _ D; clear D cm; exact nx_to fun a ha => ⟨ha.weaken (cn rfl (cn rfl (cn rfl (cn rfl (cn rfl zz))))), H⟩
       ·replace H := H.2; replace H := H _ D; refine aw_new (f := (fun p => .slice (some p) 1 1)) rfl rfl rfl (wanted_none rfl) (fun a ha => x_buildSlice (u := .slice (some ⟨_, 0, none⟩) 1 1) (w' := World.alloc _ (.cells #[(.int .i64 x2)] T.int)) (qs := [(0, (.int .i64 x2))]) (by simp only [List.map_cons, List.map_nil, ha.ev (x := (.tmp 86)) rfl]) (by kernel_rfl)) rfl true (by kernel_rfl) ?_; intro p18 w128 hN _ D; replace H := H _ _ hN; replace W := (W.new hN).drawn D; refine ⟨fun _ => W, ?_⟩; refine ar 7 ?_; replace H := H _ D; refine aw_new (f := (fun p => .slice (some p) 1 1)) rfl rfl rfl (wanted_none rfl) (fun a ha => x_buildSlice (u := .slice (some ⟨_, 0, none⟩) 1 1) (w' := World.alloc _ (.cells #[(.int .i64 1)] T.int)) (qs := [(0, (.int .i64 1))]) (by simp only [List.map_cons, List.map_nil, ha.ev (x := (.const (.int .i64 1))) rfl]) (by kernel_rfl)) rfl true (by kernel_rfl) ?_; intro p19 w129 hN _ D; replace H := H _ _ hN; replace W := (W.new hN).drawn D; refine ⟨fun _ => W, ?_⟩; refine ar 8 ?_; replace H := H _ D; obtain ⟨A31, n31, c31, w130, h64, H⟩ := H; refine aw_v rfl rfl rfl (wanted_none rfl) (fun a ha => x_builtin (ha.evs rfl) (fun _ => bi_append h64)) rfl true (by kernel_rfl) ?_; intro _ D; have W := H.1.drawn D; replace H := H.2; refine ⟨fun _ => W, ?_⟩; refine ar 16 ?_; replace H := H _ D; obtain ⟨A32, n32, c32, w131, h65, H⟩ := H; refine aw_v rfl rfl rfl (wanted_none rfl) (fun a ha => x_builtin (ha.evs rfl) (fun _ => bi_append h65)) rfl false (by kernel_rfl) ?_; intro _ D; refine ⟨fun h => (by cases h), ?_⟩; refine pnkd 17 cm rfl rfl D fun _ D => (pfad 18 cm rfl rfl (TF.fld_euf_Graph_0 _ _) D fun _ D => (pfad 19 cm rfl rfl (TF.fld_euf_classes_2 _ _) D fun _ D => (ar 20 ?_))); replace H := H _ D; obtain ⟨⟨u12, h66⟩, h67, H⟩ := H; refine aw_un rfl rfl (wanted_none rfl) (fun a ha => x_store (ha.ev rfl) (ha.ev rfl) (i_store1 TF.size_sl_int rfl rfl h66 h67)) rfl false (by kernel_rfl) ?_; intro w132 hw _ D; replace H := H _ hw; clear hw; refine ⟨fun h => (by cases h), ?_⟩; refine pnkd 21 cm rfl rfl D fun _ D => (pfad 22 cm rfl rfl (TF.fld_euf_Graph_0 _ _) D fun _ D => (pfad 23 cm rfl rfl (TF.fld_euf_classes_3 _ _) D fun _ D => (ar 24 ?_))); replace H := H _ D; obtain ⟨⟨u13, h68⟩, h69, H⟩ := H; refine aw_un rfl rfl (wanted_none rfl) (fun a ha => x_store (ha.ev rfl) (ha.ev rfl) (i_store1 TF.size_sl_int rfl rfl h68 h69)) rfl false (by kernel_rfl) ?_; intro w133 hw _ D; replace H := H _ hw; clear hw; refine ⟨fun h => (by cases h), ?_⟩; refine an_end (by kernel_rfl) D ?_; intro w134 D; replace H := H _ D; clear D cm; exact nx_to fun a ha => ⟨ha.weaken (cn rfl (cn rfl (cn rfl (cn rfl (cn rfl zz))))), H⟩
     ·obtain ⟨X2, H⟩ := H; refine cw_any_keep follows X2 [0, 1, 2, 3, 4, 5, 6, 7, 10, 11, 12, 13, 14, 15, 18, 19, 20, 22, 23, 24] [6, 14] 26 rfl rfl (by kernel_rfl) (fun _ _ d _ _ h => by cases d <;> exact h) (fun cm W D => ?_); refine pmv 0 cm rfl rfl D W fun _ D W => (pmv 1 cm rfl rfl D W fun _ D W => (pmv 2 cm rfl rfl D W fun _ D W => (pnk 3 cm rfl rfl D W fun _ D W => (pfa 4 cm rfl rfl (TF.fld_euf_Graph_0 _ _) D W fun _ D W => (pfa 5 cm rfl rfl (TF.fld_euf_classes_0 _ _) D W fun _ D W => ?_))))); obtain ⟨A17, n17, c17, h30, hx', H⟩ := H; replace h30 := And.intro h30 hx'; clear hx'; refine vl 6 cm rfl rfl (fun hw => (i_load1 TF.agg_sl_int (hw.cell h30))) D W fun _ D W => (pmv 7 cm rfl rfl D W fun _ D W => (pmv 10 cm rfl rfl D W fun _ D W => (pnk 11 cm rfl rfl D W fun _ D W => (pfa 12 cm rfl rfl (TF.fld_euf_Graph_0 _ _) D W fun _ D W => (pfa 13 cm rfl rfl (TF.fld_euf_classes_1 _ _) D W fun _ D W => ?_))))); obtain ⟨A18, n18, c18, h31, hx', H⟩ := H; replace h31 := And.intro h31 hx'; clear hx'; refine vl 14 cm rfl rfl (fun hw => (i_load1 TF.agg_sl_int (hw.cell h31))) D W fun _ D W => (pmv 15 cm rfl rfl D W fun _ D W => ?_); refine an_ready (rs := [8, 16]) (by kernel_rfl) rfl (aw_cons ?_ (aw_cons ?_ aw_nil))
      ·replace H := H.1; replace H := H _ D; refine aw_new (f := (fun p => .slice (some p) 1 1)) rfl rfl rfl (wanted_none rfl) (fun a ha => x_buildSlice (u := .slice (some ⟨_, 0, none⟩) 1 1) (w' := World.alloc _ (.cells #[(.int .i64 x2)] T.int)) (qs := [(0, (.int .i64 x2))]) (by simp only [List.map_cons, List.map_nil, ha.ev (x := (.tmp 55)) rfl]) (by kernel_rfl)) rfl true (by kernel_rfl) ?_; intro p10 w65 hN _ D; replace H := H _ _ hN; replace W := (W.new hN).drawn D; refine ⟨fun _ => W, ?_⟩; refine an_ready (rs := [9, 16]) (by kernel_rfl) rfl (aw_cons ?_ (aw_cons ?_ aw_nil))
       ·replace H := H.1; replace H := H _ D; obtain ⟨A19, n19, c19, w66, h32, H⟩ := H; refine aw_v rfl rfl rfl (wanted_none rfl) (fun a ha => x_builtin (ha.evs rfl) (fun _ => bi_append h32)) rfl true (by kernel_rfl) ?_; intro _ D; have W := H.1.drawn D; replace H := H.2; refine ⟨fun _ => W, ?_⟩; refine ar 16 ?_; replace H := H _ D; refine aw_new (f := (fun p => .slice (some p) 1 1)) rfl rfl rfl (wanted_none rfl) (fun a ha => x_buildSlice (u := .slice (some ⟨_, 0, none⟩) 1 1) (w' := World.alloc _ (.cells #[(.int .i64 x2)] T.int)) (qs := [(0, (.int .i64 x2))]) (by simp only [List.map_cons, List.map_nil, ha.ev (x := (.tmp 63)) rfl]) (by kernel_rfl)) rfl true (by kernel_rfl) ?_; intro p11 w67 hN _ D; replace H := H _ _ hN; replace W := (W.new hN).drawn D; refine ⟨fun _ => W, ?_⟩; refine ar 17 ?_; replace H := H _ D; obtain ⟨A20, n20, c20, w68, h33, H⟩ := H; refine aw_v rfl rfl rfl (wanted_none rfl) (fun a ha => x_builtin (ha.evs rfl) (fun _ => bi_append h33)) rfl false (by kernel_rfl) ?_; intro _ D; refine ⟨fun h => (by cases h), ?_⟩; refine pnkd 18 cm rfl rfl D fun _ D => (pfad 19 cm rfl rfl (TF.fld_euf_Graph_0 _ _) D fun _ D => (pfad 20 cm rfl rfl (TF.fld_euf_classes_0 _ _) D fun _ D => (ar 21 ?_))); replace H := H _ D; obtain ⟨⟨u2, h34⟩, h35, H⟩ := H; refine aw_un rfl rfl (wanted_none rfl) (fun a ha => x_store (ha.ev rfl) (ha.ev rfl) (i_store1 TF.size_sl_int rfl rfl h34 h35)) rfl false (by kernel_rfl) ?_; intro w69 hw _ D; replace H := H _ hw; clear hw; refine ⟨fun h => (by cases h), ?_⟩; refine pnkd 22 cm rfl rfl D fun _ D => (pfad 23 cm rfl rfl (TF.fld_euf_Graph_0 _ _) D fun _ D => (pfad 24 cm rfl rfl (TF.fld_euf_classes_1 _ _) D fun _ D => (ar 25 ?_))); replace H := H _ D; obtain ⟨⟨u3, h36⟩, h37, H⟩ := H; refine aw_un rfl rfl (wanted_none rfl) (fun a ha => x_store (ha.ev rfl) (ha.ev rfl) (i_store1 TF.size_sl_int rfl rfl h36 h37)) rfl false (by kernel_rfl) ?_; intro w70 hw _ D; replace H := H _ hw; clear hw; refine ⟨fun h => (by cases h), ?_⟩; refine an_end (by kernel_rfl) D ?_; intro w71 D; replace H := H _ D; clear D cm; exact nx_to fun a ha => ⟨ha.weaken (cn rfl (cn rfl (cn rfl (cn rfl (cn rfl zz))))), H⟩
       ·replace H := H.2; replace H := H _ D; refine aw_new (f := (fun p => .slice (some p) 1 1)) rfl rfl rfl (wanted_none rfl) (fun a ha => x_buildSlice (u := .slice (some ⟨_, 0, none⟩) 1 1) (w' := World.alloc _ (.cells #[(.int .i64 x2)] T.int)) (qs := [(0, (.int .i64 x2))]) (by simp only [List.map_cons, List.map_nil, ha.ev (x := (.tmp 63)) rfl]) (by kernel_rfl)) rfl true (by kernel_rfl) ?_; intro p12 w78 hN _ D; replace H := H _ _ hN; replace W := (W.new hN).drawn D; refine ⟨fun _ => W, ?_⟩; refine ar 9 ?_; replace H := H _ D; obtain ⟨A21, n21, c21, w79, h38, H⟩ := H; refine aw_v rfl rfl rfl (wanted_none rfl) (fun a ha => x_builtin (ha.evs rfl) (fun _ => bi_append h38)) rfl true (by kernel_rfl) ?_; intro _ D; have W := H.1.drawn D; replace H := H.2; refine ⟨fun _ => W, ?_⟩; refine ar 17 ?_; replace H := H _ D; obtain ⟨A22, n22, c22, w80, h39, H⟩ := H; refine aw_v rfl rfl rfl (wanted_none rfl) (fun a ha => x_builtin (ha.evs rfl) (fun _ => bi_append h39)) rfl false (by kernel_rfl) ?_; intro _ D; refine ⟨fun h => (by cases h), ?_⟩; refine pnkd 18 cm rfl rfl D fun _ D => (pfad 19 cm rfl rfl (TF.fld_euf_Graph_0 _ _) D fun _ D => (pfad 20 cm rfl rfl (TF.fld_euf_classes_0 _ _) D fun _ D => (ar 21 ?_))); replace H := H _ D; obtain ⟨⟨u4, h40⟩, h41, H⟩ := H; refine aw_un rfl rfl (wanted_none rfl) (fun a ha => x_store (ha.ev rfl) (ha.ev rfl) (i_store1 TF.size_sl_int rfl rfl h40 h41)) rfl false (by kernel_rfl) ?_; intro w81 hw _ D; replace H := H _ hw; clear hw; refine ⟨fun h => (by cases h), ?_⟩; refine pnkd 22 cm rfl rfl D fun _ D => (pfad 23 cm rfl rfl (TF.fld_euf_Graph_0 _ _) D fun _ D => (pfad 24 cm rfl rfl (TF.fld_euf_classes_1 _ _) D fun _ D => (ar 25 ?_))); replace H := H _ D; obtain ⟨⟨u5, h42⟩, h43, H⟩ := H; refine aw_un rfl rfl (wanted_none rfl) (fun a ha => x_store (ha.ev rfl) (ha.ev rfl) (i_store1 TF.size_sl_int rfl rfl h42 h43)) rfl false (by kernel_rfl) ?_; intro w82 hw _ D; replace H := H _ hw; clear hw; refine ⟨fun h => (by cases h), ?_⟩; refine an_end (by kernel_rfl) D ?_; intro w83 D; replace H := H _ D; clear D cm; exact nx_to fun a ha => ⟨ha.weaken (cn rfl (cn rfl (cn rfl (cn rfl (cn rfl zz))))), H⟩
      ·replace H := H.2; replace H := H _ D; refine aw_new (f := (fun p => .slice (some p) 1 1)) rfl rfl rfl (wanted_none rfl) (fun a ha => x_buildSlice (u := .slice (some ⟨_, 0, none⟩) 1 1) (w' := World.alloc _ (.cells #[(.int .i64 x2)] T.int)) (qs := [(0, (.int .i64 x2))]) (by simp only [List.map_cons, List.map_nil, ha.ev (x := (.tmp 63)) rfl]) (by kernel_rfl)) rfl true (by kernel_rfl) ?_; intro p13 w90 hN _ D; replace H := H _ _ hN; replace W := (W.new hN).drawn D; refine ⟨fun _ => W, ?_⟩; refine ar 8 ?_; replace H := H _ D; refine aw_new (f := (fun p => .slice (some p) 1 1)) rfl rfl rfl (wanted_none rfl) (fun a ha => x_buildSlice (u := .slice (some ⟨_, 0, none⟩) 1 1) (w' := World.alloc _ (.cells #[(.int .i64 x2)] T.int)) (qs := [(0, (.int .i64 x2))]) (by simp only [List.map_cons, List.map_nil, ha.ev (x := (.tmp 55)) rfl]) (by kernel_rfl)) rfl true (by kernel_rfl) ?_; intro p14 w91 hN _ D; replace H := H _ _ hN; replace W := (W.new hN).drawn D; refine ⟨fun _ => W, ?_⟩; refine ar 9 ?_; replace H := H _ D; obtain ⟨A23, n23, c23, w92, h44, H⟩ := H; refine aw_v rfl rfl rfl (wanted_none rfl) (fun a ha => x_builtin (ha.evs rfl) (fun _ => bi_append h44)) rfl true (by kernel_rfl) ?_; intro _ D; have W := H.1.drawn D; replace H := H.2; refine ⟨fun _ => W, ?_⟩; refine ar 17 ?_; replace H := H _ D; obtain ⟨A24, n24, c24, w93, h45, H⟩ := H; refine aw_v rfl rfl rfl (wanted_none rfl) (fun a ha => x_builtin (ha.evs rfl) (fun _ => bi_append h45)) rfl false (by kernel_rfl) ?_; intro _ D; refine ⟨fun h => (by cases h), ?_⟩; refine pnkd 18 cm rfl rfl D fun _ D => (pfad 19 cm rfl rfl (TF.fld_euf_Graph_0 _ _) D fun _ D => (pfad 20 cm rfl rfl (TF.fld_euf_classes_0 _ _) D fun _ D => (ar 21 ?_))); replace H := H _ D; obtain ⟨⟨u6, h46⟩, h47, H⟩ := H; refine aw_un rfl rfl (wanted_none rfl) (fun a ha => x_store (ha.ev rfl) (ha.ev rfl) (i_store1 TF.size_sl_int rfl rfl h46 h47)) rfl false (by kernel_rfl) ?_; intro w94 hw _ D; replace H := H _ hw; clear hw; refine ⟨fun h => (by cases h), ?_⟩; refine pnkd 22 cm rfl rfl D fun _ D => (pfad 23 cm rfl rfl (TF.fld_euf_Graph_0 _ _) D fun _ D => (pfad 24 cm rfl rfl (TF.fld_euf_classes_1 _ _) D fun _ D => (ar 25 ?_))); replace H := H _ D; obtain ⟨⟨u7, h48⟩, h49, H⟩ := H; refine aw_un rfl rfl (wanted_none rfl) (fun a ha => x_store (ha.ev rfl) (ha.ev rfl) (i_store1 TF.size_sl_int rfl rfl h48 h49)) rfl false (by kernel_rfl) ?_; intro w95 hw _ D; replace H := H _ hw; clear hw; refine ⟨fun h => (by cases h), ?_⟩; refine an_end (by kernel_rfl) D ?_; intro w96 D; replace H := H _ D; clear D cm; exact nx_to fun a ha => ⟨ha.weaken (cn rfl (cn rfl (cn rfl (cn rfl (cn rfl zz))))), H⟩
    ·obtain ⟨X1, H⟩ := H; refine cw_any_keep follows X1 [0, 1, 2, 3, 4, 5, 6, 7, 8, 10, 13, 14] [4, 6] 16 rfl rfl (by kernel_rfl) (fun _ _ d _ _ h => by cases d <;> exact h) (fun cm W D => ?_); refine pmv 0 cm rfl rfl D W fun _ D W => (pmv 1 cm rfl rfl D W fun _ D W => (pnk 2 cm rfl rfl D W fun _ D W => (pfa 3 cm rfl rfl (TF.fld_euf_Graph_1 _ _) D W fun _ D W => ?_))); obtain ⟨A13, n13, c13, h22, hx', H⟩ := H; replace h22 := And.intro h22 hx'; clear hx'; refine vl 4 cm rfl rfl (fun hw => (i_load1 TF.agg_sl_api_Flat (hw.cell h22))) D W fun _ D W => (pfa 5 cm rfl rfl (TF.fld_api_Flat_0 _ _) D W fun _ D W => ?_); obtain ⟨x4, h23, hx', H⟩ := H; replace h23 := And.intro h23 hx'; clear hx'; refine vl 6 cm rfl rfl (fun hw => (i_load1 TF.agg_int (hw.cell h23))) D W fun _ D W => (pfa 7 cm rfl rfl (TF.fld_api_Flat_1 _ _) D W fun _ D W => ?_); obtain ⟨A14, n14, c14, h24, H⟩ := H; refine an_e (E := Drawn w53) (i := 8) cm (fun _ _ => Drawn.trans) rfl (by kernel_rfl) D rfl rfl (wanted_none rfl) (fun w' hw a ha => x_load (ha.ev rfl) (i_load1 TF.agg_sl_int ((hw.cell _).trans h24))) rfl ?_; intro _ hd; replace D := D.trans hd; replace W := cm.held _ _ W hd; clear hd; refine ar 9 ?_; replace H := H _ D; refine aw_c rfl rfl rfl (wanted_none rfl) (fun a ha => x_call0 (ha.ev rfl) (ha.evs rfl) FF.callable_slices_Clone_sl_int_int) rfl true (by kernel_rfl) H ?_; rintro _ w54 ⟨A15, n15, c15, rfl, H⟩ _ D; have W := H.1.drawn D; replace H := H.2; refine ⟨fun _ => W, ?_⟩; refine pv 10 cm rfl rfl rfl (fun w' a ha => x_buildP (u := (.agg #[(.int .i64 x4), (.slice A15 n15 c15)])) (qs := [(0, (.int .i64 x4)), (1, (.slice A15 n15 c15))]) (by simp only [List.map_cons, List.map_nil, ha.ev (x := (.tmp 39)) rfl, ha.ev (x := (.tmp 42)) rfl]) (by kernel_rfl)) D W fun _ D W => (ar 11 ?_); replace H := H _ D; refine aw_new (f := (fun p => .slice (some p) 1 1)) rfl rfl rfl (wanted_none rfl) (fun a ha => x_buildSlice (u := .slice (some ⟨_, 0, none⟩) 1 1) (w' := World.alloc _ (.cells #[(.int .i64 x4), (.slice A15 n15 c15)] T.api_Flat)) (qs := [(0, (.agg #[(.int .i64 x4), (.slice A15 n15 c15)]))]) (by simp only [List.map_cons, List.map_nil, ha.ev (x := (.tmp 43)) rfl]) (by kernel_rfl)) rfl true (by kernel_rfl) ?_; intro p9 w57 hN _ D; replace H := H _ _ hN; replace W := (W.new hN).drawn D; refine ⟨fun _ => W, ?_⟩; refine ar 12 ?_; replace H := H _ D; obtain ⟨A16, n16, c16, w58, h27, H⟩ := H; refine aw_v rfl rfl rfl (wanted_none rfl) (fun a ha => x_builtin (ha.evs rfl) (fun _ => bi_append h27)) rfl false (by kernel_rfl) ?_; intro _ D; refine ⟨fun h => (by cases h), ?_⟩; refine pnkd 13 cm rfl rfl D fun _ D => (pfad 14 cm rfl rfl (TF.fld_euf_Graph_1 _ _) D fun _ D => (ar 15 ?_)); replace H := H _ D; obtain ⟨⟨u1, h28⟩, h29, H⟩ := H; refine aw_un rfl rfl (wanted_none rfl) (fun a ha => x_store (ha.ev rfl) (ha.ev rfl) (i_store1 TF.size_sl_api_Flat rfl rfl h28 h29)) rfl false (by kernel_rfl) ?_; intro w59 hw _ D; replace H := H _ hw; clear hw; refine ⟨fun h => (by cases h), ?_⟩; refine an_end (by kernel_rfl) D ?_; intro w60 D; replace H := H _ D; clear D cm; exact nx_to fun a ha => ⟨ha.weaken (cn rfl (cn rfl (cn rfl (cn rfl (cn rfl zz))))), H⟩
   ·replace H := H.2 hb; refine cw_exit (nx_exit_then (nx_exit_then (nx_exit_hit (nc (kp 4 rfl zz) (cw_seq (cw_seq (cw_region (mv rfl (nk rfl (fa rfl (TF.fld_euf_Graph_1 _ _) ?_)))))))))); obtain ⟨A34, n34, c34, h75, H⟩ := H; refine ld rfl (i_load1 TF.agg_sl_api_Flat h75) (sv rfl rfl (fun a ha => x_builtin (ha.evs rfl) (fun _ => l_slice TF.isslice_sl_api_Flat)) (mv rfl (sl_nil (nc (kp 4 rfl (kp 106 rfl (kp 107 rfl (kp 108 rfl zz)))) (cw_block ?_))))); obtain ⟨I2, ⟨k3, hi⟩, H⟩ := H; refine cw_loop (fun k3 a w' => ∃ x5, Ok 163 [(4, (.pointer (some p2))), (106, (.slice A34 n34 c34)), (107, (.int .i64 (n34 : Int))), (108, (.int .i64 x5))] a ∧ I2 k3 x5 w') (fun a ha => ⟨k3, 0, ha.weaken (sub.cons rfl (sub.cons rfl (sub.cons rfl (sub.cons rfl (sub.nil))))), hi⟩) ?_; rintro k3 a w142 ⟨x5, ha, hI⟩; replace H := H k3 x5 w142 hI; refine (?_ : CW _ _ _ 163 [(4, (.pointer (some p2))), (106, (.slice A34 n34 c34)), (107, (.int .i64 (n34 : Int))), (108, (.int .i64 x5))] _) a ha; refine cw_seq (cw_region (bo rfl rfl o_lss (sl_nil (nc (kp 4 rfl (kp 106 rfl (kp 107 rfl (kp 108 rfl (kp 109 rfl zz))))) (cw_seq ?_))))); refine cw_cond_p rfl (fun hb => ?_) (fun hb => ?_)
    ·replace H := H.1 hb; refine cw_skip (nc (kp 4 rfl (kp 106 rfl (kp 107 rfl (kp 108 rfl zz)))) ?_); refine cw_join (fun a w => Ok 163 [(4, (.pointer (some p2))), (106, (.slice A34 n34 c34)), (107, (.int .i64 (n34 : Int))), (108, (.int .i64 x5))] a ∧ vc_euf_New_J5 k3 I2 x5  w) ?_ ?_
     ·rintro a w145 ⟨ha, H⟩; unfold vc_euf_New_J5 at H; refine (?_ : CW _ _ _ 163 [(4, (.pointer (some p2))), (106, (.slice A34 n34 c34)), (107, (.int .i64 (n34 : Int))), (108, (.int .i64 x5))] _) a ha; refine cw_region (bo rfl rfl o_add (mv rfl (sl_nil ?_))); obtain ⟨k6, hk, H⟩ := H; exact nx_to fun a ha => ⟨k6, hk, IntKind.wrap .i64 (x5 + 1), ha.weaken (cn rfl (cn rfl (cn rfl (cn rfl zz)))), H⟩
     ·refine cw_block (cw_seq (cw_region (mv rfl ?_))); obtain ⟨h76, h77, a3, e3, H⟩ := H; refine ix rfl rfl (i_index TF.elem_sl_api_Flat TF.size_api_Flat e3 h76 h77) ?_; obtain ⟨x6, A35, n35, c35, h78, H⟩ := H; refine ld rfl (i_loadN (vs := [(.int .i64 x6), (.slice A35 n35 c35)]) TF.agg_api_Flat TF.size_api_Flat h78) (sl_new (f := (fun p => .pointer (some p))) rfl rfl (wanted_none rfl) (fun a ha => x_alloc (i_alloc TF.zero_api_Flat)) ?_); intro p20 w143 hN; replace H := H _ _ hN; refine ag rfl ?_; obtain ⟨h80, H⟩ := H; refine sl_un rfl (wanted_none rfl) (fun a ha => x_store (ha.ev rfl) (ha.ev rfl) (i_storeN TF.size_api_Flat (by simp [Value.oneCell']) h80)) ?_; intro w144 hw; replace H := H _ hw; clear hw; refine sl_nil (nc (kp 4 rfl (kp 7 rfl (kp 8 rfl (kp 106 rfl (kp 107 rfl (kp 108 rfl zz)))))) (cw_seq (cw_seq (cw_region (fa rfl (TF.fld_api_Flat_0 _ _) ?_))))); obtain ⟨x7, h81, H⟩ := H; refine ld rfl (i_load1 TF.agg_int h81) (bo rfl rfl o_lss (sl_nil (nc (kp 4 rfl (kp 7 rfl (kp 8 rfl (kp 106 rfl (kp 107 rfl (kp 108 rfl (kp 115 rfl zz))))))) ?_))); refine cw_cond_p rfl (fun hb => ?_) (fun hb => ?_)
      ·replace H := H.1 hb; exact cw_exit (nx_exit_then (nx_exit_hit (nx_to fun a ha => ⟨ha.weaken (cn rfl (cn rfl (cn rfl (cn rfl zz)))), H⟩)))
      ·replace H := H.2 hb; refine cw_skip (nc (kp 4 rfl (kp 7 rfl (kp 8 rfl (kp 106 rfl (kp 107 rfl (kp 108 rfl zz)))))) (cw_seq (cw_seq (cw_region (fa rfl (TF.fld_api_Flat_1 _ _) ?_))))); obtain ⟨A36, n36, c36, h82, H⟩ := H; refine ld rfl (i_load1 TF.agg_sl_int h82) (sv rfl rfl (fun a ha => x_builtin (ha.evs rfl) (fun _ => l_slice TF.isslice_sl_int)) (mv rfl (sl_nil (nc (kp 4 rfl (kp 7 rfl (kp 106 rfl (kp 107 rfl (kp 108 rfl (kp 117 rfl (kp 118 rfl (kp 119 rfl zz)))))))) (cw_block ?_))))); obtain ⟨I3, ⟨k4, hi⟩, H⟩ := H; refine cw_loop (fun k4 a w' => ∃ x8, Ok 163 [(4, (.pointer (some p2))), (7, (.int .i64 x5)), (106, (.slice A34 n34 c34)), (107, (.int .i64 (n34 : Int))), (108, (.int .i64 x5)), (117, (.slice A36 n36 c36)), (118, (.int .i64 (n36 : Int))), (119, (.int .i64 x8))] a ∧ I3 k4 x8 w') (fun a ha => ⟨k4, 0, ha.weaken (sub.cons rfl (sub.cons rfl (sub.cons rfl (sub.cons rfl (sub.cons rfl (sub.cons rfl (sub.cons rfl (sub.cons rfl (sub.nil))))))))), hi⟩) ?_; rintro k4 a w146 ⟨x8, ha, hI⟩; replace H := H k4 x8 w146 hI; refine (?_ : CW _ _ _ 163 [(4, (.pointer (some p2))), (7, (.int .i64 x5)), (106, (.slice A34 n34 c34)), (107, (.int .i64 (n34 : Int))), (108, (.int .i64 x5)), (117, (.slice A36 n36 c36)), (118, (.int .i64 (n36 : Int))), (119, (.int .i64 x8))] _) a ha; refine cw_seq (cw_region (bo rfl rfl o_lss (sl_nil (nc (kp 4 rfl (kp 7 rfl (kp 106 rfl (kp 107 rfl (kp 108 rfl (kp 117 rfl (kp 118 rfl (kp 119 rfl (kp 120 rfl zz))))))))) (cw_seq ?_))))); refine cw_cond_p rfl (fun hb => ?_) (fun hb => ?_)
       ·replace H := H.1 hb; refine cw_skip (nc (kp 4 rfl (kp 7 rfl (kp 106 rfl (kp 107 rfl (kp 108 rfl (kp 117 rfl (kp 118 rfl (kp 119 rfl zz)))))))) ?_); refine cw_join (fun a w => Ok 163 [(4, (.pointer (some p2))), (7, (.int .i64 x5)), (106, (.slice A34 n34 c34)), (107, (.int .i64 (n34 : Int))), (108, (.int .i64 x5)), (117, (.slice A36 n36 c36)), (118, (.int .i64 (n36 : Int))), (119, (.int .i64 x8))] a ∧ vc_euf_New_J4 k4 I3 x8  w) ?_ ?_
        ·rintro a w152 ⟨ha, H⟩; unfold vc_euf_New_J4 at H; refine (?_ : CW _ _ _ 163 [(4, (.pointer (some p2))), (7, (.int .i64 x5)), (106, (.slice A34 n34 c34)), (107, (.int .i64 (n34 : Int))), (108, (.int .i64 x5)), (117, (.slice A36 n36 c36)), (118, (.int .i64 (n36 : Int))), (119, (.int .i64 x8))] _) a ha; refine cw_region (bo rfl rfl o_add (mv rfl (sl_nil ?_))); obtain ⟨k5, hk, H⟩ := H; exact nx_to fun a ha => ⟨k5, hk, IntKind.wrap .i64 (x8 + 1), ha.weaken (cn rfl (cn rfl (cn rfl (cn rfl (cn rfl (cn rfl (cn rfl (cn rfl zz)))))))), H⟩
        ·refine cw_block (cw_seq (cw_region ?_)); obtain ⟨h83, h84, a4, e4, H⟩ := H; refine ix rfl rfl (i_index TF.elem_sl_int TF.size_int e4 h83 h84) ?_; obtain ⟨x9, h85, H⟩ := H; refine ld rfl (i_load1 TF.agg_int h85) (ag rfl (sl_nil (nc (kp 4 rfl (kp 7 rfl (kp 10 rfl (kp 106 rfl (kp 107 rfl (kp 108 rfl (kp 117 rfl (kp 118 rfl (kp 119 rfl zz))))))))) (cw_seq (cw_region (mv rfl (nk rfl (fa rfl (TF.fld_euf_Graph_0 _ _) (mv rfl (sl_call rfl rfl (wanted_none rfl) (fun a ha => x_call0 (ha.ev rfl) (ha.evs rfl) FF.callable_euf_classes_find) H ?_)))))))))); rintro _ w147 ⟨x10, rfl, H⟩; refine ag rfl (sl_nil (nc (kp 4 rfl (kp 7 rfl (kp 11 rfl (kp 106 rfl (kp 107 rfl (kp 108 rfl (kp 117 rfl (kp 118 rfl (kp 119 rfl zz))))))))) ?_)); obtain ⟨X4, H⟩ := H; refine cw_any_keep follows X4 [0, 1, 2, 3, 4, 5, 6, 7, 8, 9, 10, 11, 12, 15] [3, 8, 11] 17 rfl rfl (by kernel_rfl) (fun _ _ d _ _ h => by cases d <;> exact h) (fun cm W D => ?_); refine pmv 0 cm rfl rfl D W fun _ D W => (pnk 1 cm rfl rfl D W fun _ D W => (pfa 2 cm rfl rfl (TF.fld_euf_Graph_2 _ _) D W fun _ D W => ?_)); obtain ⟨A37, n37, c37, h86, hx', H⟩ := H; replace h86 := And.intro h86 hx'; clear hx'; refine vl 3 cm rfl rfl (fun hw => (i_load1 TF.agg_sl_sl_int (hw.cell h86))) D W fun _ D W => (pmv 4 cm rfl rfl D W fun _ D W => (pmv 5 cm rfl rfl D W fun _ D W => (pnk 6 cm rfl rfl D W fun _ D W => (pfa 7 cm rfl rfl (TF.fld_euf_Graph_2 _ _) D W fun _ D W => ?_)))); obtain ⟨A38, n38, c38, h87, hx', H⟩ := H; replace h87 := And.intro h87 hx'; clear hx'; refine vl 8 cm rfl rfl (fun hw => (i_load1 TF.agg_sl_sl_int (hw.cell h87))) D W fun _ D W => (pmv 9 cm rfl rfl D W fun _ D W => ?_); obtain ⟨h88, h89, a5, e5, H⟩ := H; refine pix 10 cm rfl rfl rfl (i_index TF.elem_sl_sl_int TF.size_sl_int e5 h88 h89) D W fun _ D W => ?_; obtain ⟨A39, n39, c39, h90, hx', H⟩ := H; replace h90 := And.intro h90 hx'; clear hx'; refine vl 11 cm rfl rfl (fun hw => (i_load1 TF.agg_sl_int (hw.cell h90))) D W fun _ D W => (pmv 12 cm rfl rfl D W fun _ D W => (ar 13 ?_)); replace H := H _ D; refine aw_new (f := (fun p => .slice (some p) 1 1)) rfl rfl rfl (wanted_none rfl) (fun a ha => x_buildSlice (u := .slice (some ⟨_, 0, none⟩) 1 1) (w' := World.alloc _ (.cells #[(.int .i64 x5)] T.int)) (qs := [(0, (.int .i64 x5))]) (by simp only [List.map_cons, List.map_nil, ha.ev (x := (.tmp 140)) rfl]) (by kernel_rfl)) rfl true (by kernel_rfl) ?_; intro p21 w148 hN _ D; replace H := H _ _ hN; replace W := (W.new hN).drawn D; refine ⟨fun _ => W, ?_⟩; refine ar 14 ?_; replace H := H _ D; obtain ⟨A40, n40, c40, w149, h91, H⟩ := H; refine aw_v rfl rfl rfl (wanted_none rfl) (fun a ha => x_builtin (ha.evs rfl) (fun _ => bi_append h91)) rfl true (by kernel_rfl) ?_; intro _ D; have W := H.1.drawn D; replace H := H.2; refine ⟨fun _ => W, ?_⟩; obtain ⟨h92, h93, a6, e6, H⟩ := H; refine pixd 15 cm rfl rfl rfl (i_index TF.elem_sl_sl_int TF.size_sl_int e6 h92 h93) D fun _ D => (ar 16 ?_); replace H := H _ D; obtain ⟨⟨u15, h94⟩, h95, H⟩ := H; refine aw_un rfl rfl (wanted_none rfl) (fun a ha => x_store (ha.ev rfl) (ha.ev rfl) (i_store1 TF.size_sl_int rfl rfl h94 h95)) rfl false (by kernel_rfl) ?_; intro w150 hw _ D; replace H := H _ hw; clear hw; refine ⟨fun h => (by cases h), ?_⟩; refine an_end (by kernel_rfl) D ?_; intro w151 D; replace H := H _ D; clear D cm; exact nx_block (nx_to fun a ha => ⟨ha.weaken (cn rfl (cn rfl (cn rfl (cn rfl (cn rfl (cn rfl (cn rfl (cn rfl zz)))))))), H⟩)
       ·replace H := H.2 hb; refine cw_exit (nx_exit_then (nx_exit_then (nx_exit_hit (nc (kp 4 rfl (kp 7 rfl (kp 106 rfl (kp 107 rfl (kp 108 rfl zz))))) (cw_seq (cw_region (mv rfl (mv rfl (sl_call rfl rfl (wanted_none rfl) (fun a ha => x_call0 (ha.ev rfl) (ha.evs rfl) FF.callable_euf_Graph_enter) H ?_))))))))); rintro _ w156 ⟨x11, b2, rfl, H⟩; refine mv rfl (sv rfl rfl (fun a ha => x_extract (ha.ev rfl) rfl) (sv rfl rfl (fun a ha => x_extract (ha.ev rfl) rfl) (ag rfl (ag rfl (sl_nil (nc (kp 4 rfl (kp 7 rfl (kp 12 rfl (kp 13 rfl (kp 106 rfl (kp 107 rfl (kp 108 rfl zz))))))) (cw_seq (cw_region (mv rfl (sv rfl rfl (fun a ha => x_unOp (ha.ev rfl) u_not) (sl_nil (nc (kp 4 rfl (kp 7 rfl (kp 12 rfl (kp 106 rfl (kp 107 rfl (kp 108 rfl (kp 152 rfl zz))))))) ?_)))))))))))); refine cw_cond rfl (fun hb => ?_) (fun hb => ?_)
        ·replace H := H.1 hb; refine cw_region (mv rfl (mv rfl (mv rfl (sv rfl rfl (fun a ha => x_buildP (u := (.agg #[(.int .i64 0), (.bool true), (.int .i64 x5), (.int .i64 x11), (.int .i64 0)])) (qs := [(1, (.bool true)), (2, (.int .i64 x5)), (3, (.int .i64 x11))]) (by simp only [List.map_cons, List.map_nil, ha.ev (x := (.const (.bool true))) rfl, ha.ev (x := (.tmp 154)) rfl, ha.ev (x := (.tmp 155)) rfl]) (by kernel_rfl)) (sl_call rfl rfl (wanted_none rfl) (fun a ha => x_call0 (ha.ev rfl) (ha.evs rfl) FF.callable_euf_Graph_merge) H ?_))))); rintro _ w157 ⟨rfl, H⟩; exact sl_nil (nx_block (nx_to fun a ha => ⟨ha.weaken (cn rfl (cn rfl (cn rfl (cn rfl zz)))), H⟩))
        ·replace H := H.2 hb; exact cw_skip (nx_block (nx_to fun a ha => ⟨ha.weaken (cn rfl (cn rfl (cn rfl (cn rfl zz)))), H⟩))
    ·replace H := H.2 hb; refine cw_exit (nx_exit_then (nx_exit_then (nx_exit_hit (nc (kp 4 rfl zz) (cw_seq (cw_region (mv rfl (nk rfl (fa rfl (TF.fld_euf_Graph_6 _ _) ?_))))))))); obtain ⟨⟨u16, h96⟩, h97, H⟩ := H; refine sl_un rfl (wanted_none rfl) (fun a ha => x_store (ha.ev rfl) (ha.ev rfl) (i_store1 TF.size_sl_euf_change rfl rfl h96 h97)) ?_; intro w158 hw; replace H := H _ hw; clear hw; exact sl_nil (nc (kp 4 rfl zz) (cw_seq (cw_region (mv rfl (ag rfl (ag rfl (sl_nil (nc (kp 2 rfl (kp 3 rfl zz)) (cw_ret (nx_body_ret (res2 rfl rfl rfl) ⟨_, rfl, _, _, rfl, H⟩))))))))))
  ·refine cw_any_drawn follows [1, 2, 4, 5, 7, 9] [] 10 rfl rfl (by kernel_rfl) (fun _ _ d _ _ h => by cases d <;> exact h) (fun cm W D => ?_); refine pmvd 1 cm rfl rfl D fun _ D => (pvd 2 cm rfl rfl rfl (fun w' a ha => x_builtin (ha.evs rfl) (fun _ => l_slice TF.isslice_sl_api_Flat)) D fun _ D => (pmvd 4 cm rfl rfl D fun _ D => (pvd 5 cm rfl rfl rfl (fun w' a ha => x_builtin (ha.evs rfl) (fun _ => l_slice TF.isslice_sl_api_Flat)) D fun _ D => ?_))); refine an_ready (rs := [0, 3, 6]) (by kernel_rfl) rfl (aw_cons ?_ (aw_cons ?_ (aw_cons ?_ aw_nil)))
   ·replace H := H.1; replace H := H _ D; refine aw_newm rfl rfl rfl (wanted_none rfl) (fun a ha => x_makeMap i_makeMap) rfl false (by kernel_rfl) ?_; intro m1 w2 hN _ D; replace H := H _ _ hN; refine ⟨fun h => (by cases h), ?_⟩; refine an_ready (rs := [3, 6]) (by kernel_rfl) rfl (aw_cons ?_ (aw_cons ?_ aw_nil))
    ·replace H := H.1; replace H := H _ D; obtain ⟨A2, n2, c2, w3, h1, H⟩ := H; refine aw_v rfl rfl rfl (wanted_none rfl) (fun a ha => x_makeSlice (ha.ev rfl) (ha.ev rfl) h1) rfl false (by kernel_rfl) ?_; intro _ D; refine ⟨fun h => (by cases h), ?_⟩; refine ar 6 ?_; replace H := H _ D; obtain ⟨A3, n3, c3, w4, h2, H⟩ := H; refine aw_v rfl rfl rfl (wanted_none rfl) (fun a ha => x_makeSlice (ha.ev rfl) (ha.ev rfl) h2) rfl false (by kernel_rfl) ?_; intro _ D; refine ⟨fun h => (by cases h), ?_⟩; refine pvd 7 cm rfl rfl rfl (fun w' a ha => x_buildP (u := (.agg #[(.slice none 0 0), (.slice none 0 0), (.slice none 0 0), (.slice none 0 0), (.slice none 0 0), (.slice A2 n2 c2), (.map (some m1)), (.slice A3 n3 c3), (.slice none 0 0), (.slice none 0 0), (.slice none 0 0)])) (qs := [(3, (.map (some m1))), (2, (.slice A2 n2 c2)), (4, (.slice A3 n3 c3))]) (by simp only [List.map_cons, List.map_nil, ha.ev (x := (.tmp 17)) rfl, ha.ev (x := (.tmp 20)) rfl, ha.ev (x := (.tmp 23)) rfl]) (by kernel_rfl)) D fun _ D => (ar 8 ?_); replace H := H _ D; refine aw_new (f := (fun p => .pointer (some p))) rfl rfl rfl (wanted_none rfl) (fun a ha => x_box (ha.ev rfl) i_box) rfl false (by kernel_rfl) ?_; intro p1 w5 hN _ D; replace H := H _ _ hN; refine ⟨fun h => (by cases h), ?_⟩; refine pagd 9 cm rfl rfl D fun _ D => (an_end (by kernel_rfl) D ?_); intro w6 D; replace H := H _ D; clear D cm; exact nx_to fun a ha => ⟨p1, ha.weaken (cn rfl (cn rfl zz)), H⟩
    ·replace H := H.2; replace H := H _ D; obtain ⟨A4, n4, c4, w11, h4, H⟩ := H; refine aw_v rfl rfl rfl (wanted_none rfl) (fun a ha => x_makeSlice (ha.ev rfl) (ha.ev rfl) h4) rfl false (by kernel_rfl) ?_; intro _ D; refine ⟨fun h => (by cases h), ?_⟩; refine ar 3 ?_; replace H := H _ D; obtain ⟨A5, n5, c5, w12, h5, H⟩ := H; refine aw_v rfl rfl rfl (wanted_none rfl) (fun a ha => x_makeSlice (ha.ev rfl) (ha.ev rfl) h5) rfl false (by kernel_rfl) ?_; intro _ D; refine ⟨fun h => (by cases h), ?_⟩; refine pvd 7 cm rfl rfl rfl (fun w' a ha => x_buildP (u := (.agg #[(.slice none 0 0), (.slice none 0 0), (.slice none 0 0), (.slice none 0 0), (.slice none 0 0), (.slice A5 n5 c5), (.map (some m1)), (.slice A4 n4 c4), (.slice none 0 0), (.slice none 0 0), (.slice none 0 0)])) (qs := [(3, (.map (some m1))), (2, (.slice A5 n5 c5)), (4, (.slice A4 n4 c4))]) (by simp only [List.map_cons, List.map_nil, ha.ev (x := (.tmp 17)) rfl, ha.ev (x := (.tmp 20)) rfl, ha.ev (x := (.tmp 23)) rfl]) (by kernel_rfl)) D fun _ D => (ar 8 ?_); replace H := H _ D; refine aw_new (f := (fun p => .pointer (some p))) rfl rfl rfl (wanted_none rfl) (fun a ha => x_box (ha.ev rfl) i_box) rfl false (by kernel_rfl) ?_; intro p3 w13 hN _ D; replace H := H _ _ hN; refine ⟨fun h => (by cases h), ?_⟩; refine pagd 9 cm rfl rfl D fun _ D => (an_end (by kernel_rfl) D ?_); intro w14 D; replace H := H _ D; clear D cm; exact nx_to fun a ha => ⟨p3, ha.weaken (cn rfl (cn rfl zz)), H⟩
   ·replace H := H.2.1; replace H := H _ D; obtain ⟨A6, n6, c6, w19, h7, H⟩ := H; refine aw_v rfl rfl rfl (wanted_none rfl) (fun a ha => x_makeSlice (ha.ev rfl) (ha.ev rfl) h7) rfl false (by kernel_rfl) ?_; intro _ D; refine ⟨fun h => (by cases h), ?_⟩; refine an_ready (rs := [0, 6]) (by kernel_rfl) rfl (aw_cons ?_ (aw_cons ?_ aw_nil))
    ·replace H := H.1; replace H := H _ D; refine aw_newm rfl rfl rfl (wanted_none rfl) (fun a ha => x_makeMap i_makeMap) rfl false (by kernel_rfl) ?_; intro m2 w20 hN _ D; replace H := H _ _ hN; refine ⟨fun h => (by cases h), ?_⟩; refine ar 6 ?_; replace H := H _ D; obtain ⟨A7, n7, c7, w21, h8, H⟩ := H; refine aw_v rfl rfl rfl (wanted_none rfl) (fun a ha => x_makeSlice (ha.ev rfl) (ha.ev rfl) h8) rfl false (by kernel_rfl) ?_; intro _ D; refine ⟨fun h => (by cases h), ?_⟩; refine pvd 7 cm rfl rfl rfl (fun w' a ha => x_buildP (u := (.agg #[(.slice none 0 0), (.slice none 0 0), (.slice none 0 0), (.slice none 0 0), (.slice none 0 0), (.slice A6 n6 c6), (.map (some m2)), (.slice A7 n7 c7), (.slice none 0 0), (.slice none 0 0), (.slice none 0 0)])) (qs := [(3, (.map (some m2))), (2, (.slice A6 n6 c6)), (4, (.slice A7 n7 c7))]) (by simp only [List.map_cons, List.map_nil, ha.ev (x := (.tmp 17)) rfl, ha.ev (x := (.tmp 20)) rfl, ha.ev (x := (.tmp 23)) rfl]) (by kernel_rfl)) D fun _ D => (ar 8 ?_); replace H := H _ D; refine aw_new (f := (fun p => .pointer (some p))) rfl rfl rfl (wanted_none rfl) (fun a ha => x_box (ha.ev rfl) i_box) rfl false (by kernel_rfl) ?_; intro p4 w22 hN _ D; replace H := H _ _ hN; refine ⟨fun h => (by cases h), ?_⟩; refine pagd 9 cm rfl rfl D fun _ D => (an_end (by kernel_rfl) D ?_); intro w23 D; replace H := H _ D; clear D cm; exact nx_to fun a ha => ⟨p4, ha.weaken (cn rfl (cn rfl zz)), H⟩
    ·replace H := H.2; replace H := H _ D; obtain ⟨A8, n8, c8, w27, h10, H⟩ := H; refine aw_v rfl rfl rfl (wanted_none rfl) (fun a ha => x_makeSlice (ha.ev rfl) (ha.ev rfl) h10) rfl false (by kernel_rfl) ?_; intro _ D; refine ⟨fun h => (by cases h), ?_⟩; refine ar 0 ?_; replace H := H _ D; refine aw_newm rfl rfl rfl (wanted_none rfl) (fun a ha => x_makeMap i_makeMap) rfl false (by kernel_rfl) ?_; intro m3 w28 hN _ D; replace H := H _ _ hN; refine ⟨fun h => (by cases h), ?_⟩; refine pvd 7 cm rfl rfl rfl (fun w' a ha => x_buildP (u := (.agg #[(.slice none 0 0), (.slice none 0 0), (.slice none 0 0), (.slice none 0 0), (.slice none 0 0), (.slice A6 n6 c6), (.map (some m3)), (.slice A8 n8 c8), (.slice none 0 0), (.slice none 0 0), (.slice none 0 0)])) (qs := [(3, (.map (some m3))), (2, (.slice A6 n6 c6)), (4, (.slice A8 n8 c8))]) (by simp only [List.map_cons, List.map_nil, ha.ev (x := (.tmp 17)) rfl, ha.ev (x := (.tmp 20)) rfl, ha.ev (x := (.tmp 23)) rfl]) (by kernel_rfl)) D fun _ D => (ar 8 ?_); replace H := H _ D; refine aw_new (f := (fun p => .pointer (some p))) rfl rfl rfl (wanted_none rfl) (fun a ha => x_box (ha.ev rfl) i_box) rfl false (by kernel_rfl) ?_; intro p5 w29 hN _ D; replace H := H _ _ hN; refine ⟨fun h => (by cases h), ?_⟩; refine pagd 9 cm rfl rfl D fun _ D => (an_end (by kernel_rfl) D ?_); intro w30 D; replace H := H _ D; clear D cm; exact nx_to fun a ha => ⟨p5, ha.weaken (cn rfl (cn rfl zz)), H⟩
   ·replace H := H.2.2; replace H := H _ D; obtain ⟨A9, n9, c9, w35, h12, H⟩ := H; refine aw_v rfl rfl rfl (wanted_none rfl) (fun a ha => x_makeSlice (ha.ev rfl) (ha.ev rfl) h12) rfl false (by kernel_rfl) ?_; intro _ D; refine ⟨fun h => (by cases h), ?_⟩; refine an_ready (rs := [0, 3]) (by kernel_rfl) rfl (aw_cons ?_ (aw_cons ?_ aw_nil))
    ·replace H := H.1; replace H := H _ D; refine aw_newm rfl rfl rfl (wanted_none rfl) (fun a ha => x_makeMap i_makeMap) rfl false (by kernel_rfl) ?_; intro m4 w36 hN _ D; replace H := H _ _ hN; refine ⟨fun h => (by cases h), ?_⟩; refine ar 3 ?_; replace H := H _ D; obtain ⟨A10, n10, c10, w37, h13, H⟩ := H; refine aw_v rfl rfl rfl (wanted_none rfl) (fun a ha => x_makeSlice (ha.ev rfl) (ha.ev rfl) h13) rfl false (by kernel_rfl) ?_; intro _ D; refine ⟨fun h => (by cases h), ?_⟩; refine pvd 7 cm rfl rfl rfl (fun w' a ha => x_buildP (u := (.agg #[(.slice none 0 0), (.slice none 0 0), (.slice none 0 0), (.slice none 0 0), (.slice none 0 0), (.slice A10 n10 c10), (.map (some m4)), (.slice A9 n9 c9), (.slice none 0 0), (.slice none 0 0), (.slice none 0 0)])) (qs := [(3, (.map (some m4))), (2, (.slice A10 n10 c10)), (4, (.slice A9 n9 c9))]) (by simp only [List.map_cons, List.map_nil, ha.ev (x := (.tmp 17)) rfl, ha.ev (x := (.tmp 20)) rfl, ha.ev (x := (.tmp 23)) rfl]) (by kernel_rfl)) D fun _ D => (ar 8 ?_); replace H := H _ D; refine aw_new (f := (fun p => .pointer (some p))) rfl rfl rfl (wanted_none rfl) (fun a ha => x_box (ha.ev rfl) i_box) rfl false (by kernel_rfl) ?_; intro p6 w38 hN _ D; replace H := H _ _ hN; refine ⟨fun h => (by cases h), ?_⟩; refine pagd 9 cm rfl rfl D fun _ D => (an_end (by kernel_rfl) D ?_); intro w39 D; replace H := H _ D; clear D cm; exact nx_to fun a ha => ⟨p6, ha.weaken (cn rfl (cn rfl zz)), H⟩
    ·replace H := H.2; replace H := H _ D; obtain ⟨A11, n11, c11, w43, h15, H⟩ := H; refine aw_v rfl rfl rfl (wanted_none rfl) (fun a ha => x_makeSlice (ha.ev rfl) (ha.ev rfl) h15) rfl false (by kernel_rfl) ?_; intro _ D; refine ⟨fun h => (by cases h), ?_⟩; refine ar 0 ?_; replace H := H _ D; refine aw_newm rfl rfl rfl (wanted_none rfl) (fun a ha => x_makeMap i_makeMap) rfl false (by kernel_rfl) ?_; intro m5 w44 hN _ D; replace H := H _ _ hN; refine ⟨fun h => (by cases h), ?_⟩; refine pvd 7 cm rfl rfl rfl (fun w' a ha => x_buildP (u := (.agg #[(.slice none 0 0), (.slice none 0 0), (.slice none 0 0), (.slice none 0 0), (.slice none 0 0), (.slice A11 n11 c11), (.map (some m5)), (.slice A9 n9 c9), (.slice none 0 0), (.slice none 0 0), (.slice none 0 0)])) (qs := [(3, (.map (some m5))), (2, (.slice A11 n11 c11)), (4, (.slice A9 n9 c9))]) (by simp only [List.map_cons, List.map_nil, ha.ev (x := (.tmp 17)) rfl, ha.ev (x := (.tmp 20)) rfl, ha.ev (x := (.tmp 23)) rfl]) (by kernel_rfl)) D fun _ D => (ar 8 ?_); replace H := H _ D; refine aw_new (f := (fun p => .pointer (some p))) rfl rfl rfl (wanted_none rfl) (fun a ha => x_box (ha.ev rfl) i_box) rfl false (by kernel_rfl) ?_; intro p7 w45 hN _ D; replace H := H _ _ hN; refine ⟨fun h => (by cases h), ?_⟩; refine pagd 9 cm rfl rfl D fun _ D => (an_end (by kernel_rfl) D ?_); intro w46 D; replace H := H _ D; clear D cm; exact nx_to fun a ha => ⟨p7, ha.weaken (cn rfl (cn rfl zz)), H⟩
end Go.Proofs.YtnbakpoahcndpaaDoor
namespace Go.Proofs.YtnbakpoahcndpaaDoor
set_option linter.unusedVariables false
set_option linter.unusedSimpArgs false
open Wk
def App2 (p2 : Addr) (oa ob : Nat) (va vb : Int) (K : World → Prop) (w61 : World) : Prop :=
 ∃ X2 : Nat → Prop, ∃ A17 : Option Addr, ∃ n17 : Nat, ∃ c17 : Nat, w61.cell? ((p2.add 0).add oa) = some (.slice A17 n17 c17) ∧ ¬ X2 ((p2.add 0).add oa).block ∧ ∃ A18 : Option Addr, ∃ n18 : Nat, ∃ c18 : Nat, w61.cell? ((p2.add 0).add ob) = some (.slice A18 n18 c18) ∧ ¬ X2 ((p2.add 0).add ob).block ∧ (∀ w89, Wk.Drawn w61 w89 → ∀ (p10 : Addr) (w65 : World), Wk.New w89 (.cells #[(.int .i64 va)] T.int) p10 w65 → ((∀ w77, Wk.Drawn w65 w77 → ∃ (A19 : Option Addr) (n19 c19 : Nat) (w66 : World), (Builtin.append_ #[T.sl_int, T.sl_int] T.sl_int #[(.slice A17 n17 c17), (.slice (some p10) 1 1)]).run P w77 = .ok (.slice A19 n19 c19) w66 ∧ (Wk.Keep X2 w61 w66 ∧ (∀ w76, Wk.Drawn w66 w76 → ∀ (p11 : Addr) (w67 : World), Wk.New w76 (.cells #[(.int .i64 vb)] T.int) p11 w67 → (∀ w75, Wk.Drawn w67 w75 → ∃ (A20 : Option Addr) (n20 c20 : Nat) (w68 : World), (Builtin.append_ #[T.sl_int, T.sl_int] T.sl_int #[(.slice A18 n18 c18), (.slice (some p11) 1 1)]).run P w75 = .ok (.slice A20 n20 c20) w68 ∧ (∀ w74, Wk.Drawn w68 w74 → (∃ u2, w74.cell? ((p2.add 0).add oa) = some u2) ∧ w74.frozen? ((p2.add 0).add oa) = false ∧ ∀ w69, w69 = w74.setCell ((p2.add 0).add oa) (.slice A19 n19 c19) → (∀ w73, Wk.Drawn w69 w73 → (∃ u3, w73.cell? ((p2.add 0).add ob) = some u3) ∧ w73.frozen? ((p2.add 0).add ob) = false ∧ ∀ w70, w70 = w73.setCell ((p2.add 0).add ob) (.slice A20 n20 c20) → (∀ w71, Wk.Drawn w70 w71 → (K w71)))))))) ∧ (∀ w88, Wk.Drawn w65 w88 → ∀ (p12 : Addr) (w78 : World), Wk.New w88 (.cells #[(.int .i64 vb)] T.int) p12 w78 → (∀ w87, Wk.Drawn w78 w87 → ∃ (A21 : Option Addr) (n21 c21 : Nat) (w79 : World), (Builtin.append_ #[T.sl_int, T.sl_int] T.sl_int #[(.slice A17 n17 c17), (.slice (some p10) 1 1)]).run P w87 = .ok (.slice A21 n21 c21) w79 ∧ (Wk.Keep X2 w61 w79 ∧ (∀ w86, Wk.Drawn w79 w86 → ∃ (A22 : Option Addr) (n22 c22 : Nat) (w80 : World), (Builtin.append_ #[T.sl_int, T.sl_int] T.sl_int #[(.slice A18 n18 c18), (.slice (some p12) 1 1)]).run P w86 = .ok (.slice A22 n22 c22) w80 ∧ (∀ w85, Wk.Drawn w80 w85 → (∃ u4, w85.cell? ((p2.add 0).add oa) = some u4) ∧ w85.frozen? ((p2.add 0).add oa) = false ∧ ∀ w81, w81 = w85.setCell ((p2.add 0).add oa) (.slice A21 n21 c21) → (∀ w84, Wk.Drawn w81 w84 → (∃ u5, w84.cell? ((p2.add 0).add ob) = some u5) ∧ w84.frozen? ((p2.add 0).add ob) = false ∧ ∀ w82, w82 = w84.setCell ((p2.add 0).add ob) (.slice A22 n22 c22) → (∀ w83, Wk.Drawn w82 w83 → (K w83)))))))))) ∧ (∀ w102, Wk.Drawn w61 w102 → ∀ (p13 : Addr) (w90 : World), Wk.New w102 (.cells #[(.int .i64 vb)] T.int) p13 w90 → (∀ w101, Wk.Drawn w90 w101 → ∀ (p14 : Addr) (w91 : World), Wk.New w101 (.cells #[(.int .i64 va)] T.int) p14 w91 → (∀ w100, Wk.Drawn w91 w100 → ∃ (A23 : Option Addr) (n23 c23 : Nat) (w92 : World), (Builtin.append_ #[T.sl_int, T.sl_int] T.sl_int #[(.slice A17 n17 c17), (.slice (some p14) 1 1)]).run P w100 = .ok (.slice A23 n23 c23) w92 ∧ (Wk.Keep X2 w61 w92 ∧ (∀ w99, Wk.Drawn w92 w99 → ∃ (A24 : Option Addr) (n24 c24 : Nat) (w93 : World), (Builtin.append_ #[T.sl_int, T.sl_int] T.sl_int #[(.slice A18 n18 c18), (.slice (some p13) 1 1)]).run P w99 = .ok (.slice A24 n24 c24) w93 ∧ (∀ w98, Wk.Drawn w93 w98 → (∃ u6, w98.cell? ((p2.add 0).add oa) = some u6) ∧ w98.frozen? ((p2.add 0).add oa) = false ∧ ∀ w94, w94 = w98.setCell ((p2.add 0).add oa) (.slice A23 n23 c23) → (∀ w97, Wk.Drawn w94 w97 → (∃ u7, w97.cell? ((p2.add 0).add ob) = some u7) ∧ w97.frozen? ((p2.add 0).add ob) = false ∧ ∀ w95, w95 = w97.setCell ((p2.add 0).add ob) (.slice A24 n24 c24) → (∀ w96, Wk.Drawn w95 w96 → (K w96)))))))))
section
variable {B0 : Nat} {w w' : World} {p U : Addr} {M N : Nat} {hA A : Nat → Option Addr} {hn hc n c : Nat → Nat} {H : Nat → Prop} {g : GS}
theorem gty_int {k : Nat} (hk : k < 4) : gty k = T.int ∧ gsz k = 1 ∧ goff k = k := by
 have : k = 0 ∨ k = 1 ∨ k = 2 ∨ k = 3 := by omega
 rcases this with rfl | rfl | rfl | rfl <;> exact ⟨rfl, rfl, rfl⟩
theorem app2_is {ka kb : Nat} (ha : ka < 4) (hb : kb < 4) (hab : ka ≠ kb) {va vb : Int} (h : GRep B0 w p U M N A n c H g) {ga gb : GS}
  (hva : ∀ i, i < 9 + N → upd g.vals ka (g.vals ka ++ [iv va]) i = ga.vals i) (hvb : ∀ i, i < 9 + N → upd ga.vals kb (ga.vals kb ++ [iv vb]) i = gb.vals i) (hga : ga.sigs = g.sigs ∧ ga.nvals = g.nvals ∧ ga.nodes = g.nodes) (hgb : gb.sigs = g.sigs ∧ gb.nvals = g.nvals ∧ gb.nodes = g.nodes)
  (na : n ka + 1 ≤ 1099511627776) (nb : n kb + 1 ≤ 1099511627776) {K : World → Prop}
  (hK : ∀ w' A' n' c' H', GRep B0 w' p U M N A' n' c' H' gb → Adv H w H' w' → (∀ b, H b → H' b) → (∀ k, k ≠ ka → k ≠ kb → A' k = A k ∧ n' k = n k ∧ c' k = c k) → n' ka = n ka + 1 → n' kb = n kb + 1 → K w') : App2 p ka kb va vb K w := by
 obtain ⟨ta, sa, oa⟩ := gty_int ha
 obtain ⟨tb, sb, ob⟩ := gty_int hb
 have hca := h.cell (show ka < 9 by omega)
 have hcb := h.cell (show kb < 9 by omega)
 rw [oa] at hca
 rw [ob] at hcb
 have noP : ∀ o, ¬ At (A ka) ((p.add 0).add o).block := fun o hh => by
  rw [Addr.add_block, Addr.add_block] at hh
  exact h.fam.seph ka (show ka < 9 + N by omega) _ hh (.inl rfl)
 have hlo : ∀ b, At (A ka) b → b < w.heap.size := fun b hb => ((h.row (show ka < 9 by omega)).at hb).2
 -- the first append
 have run1 : ∀ w1 pa, Ext w w1 → CellsAt w1 pa [iv va] → ∃ A1 c1 w2, (Builtin.append_ #[T.sl_int, T.sl_int] T.sl_int #[.slice (A ka) (n ka) (c ka), .slice (some pa) 1 1]).run P w1 = .ok (.slice A1 (n ka + 1) c1) w2 ∧ Keep (At (A ka)) w w2 ∧ Keep (At (A ka)) w1 w2 ∧ ∃ H', NRep B0 w2 p U M N A n c (upd A ka A1) (upd n ka (n ka + 1)) (upd c ka c1) H' ga ∧ Adv H w H' w2 ∧ ∀ b, H b → H' b := by
  intro w1 pa hE hc
  obtain ⟨A1, c1, w2, r1, r2, H', r3, r4, r5⟩ := ((NRep.of h).stay hE).append (c2 := 1) (k := ka) (show ka < 9 + N by omega) (t := T.sl_int) (m := 1) (by rw [ta]; exact gIntE) (by rw [ta, sa]; exact gIntI) (by omega) (news := [iv va]) (by rw [sa]; rfl) hc (by intro u hu; simp at hu; subst hu; rfl) (by omega) (by omega) hva hga.1 (by rw [hga.2.1, hga.2.2]; exact h.nd.adv (Adv.of_ext hE))
  exact ⟨A1, c1, w2, r1, (hE.mono fun _ _ h => h.elim).trans r2, r2, H', r3, (Adv.of_ext hE).trans r4, r5⟩
 -- the second, and the headers
 have run2 : ∀ w2 w3 pb A1 c1 H1, NRep B0 w2 p U M N A n c (upd A ka A1) (upd n ka (n ka + 1)) (upd c ka c1) H1 ga → Adv H w H1 w2 → (∀ b, H b → H1 b) → Ext w2 w3 → CellsAt w3 pb [iv vb] → ∃ A2 c2 w4, (Builtin.append_ #[T.sl_int, T.sl_int] T.sl_int #[.slice (A kb) (n kb) (c kb), .slice (some pb) 1 1]).run P w3 = .ok (.slice A2 (n kb + 1) c2) w4 ∧
   ∀ w5, Drawn w4 w5 → (∃ u, w5.cell? ((p.add 0).add ka) = some u) ∧ w5.frozen? ((p.add 0).add ka) = false ∧ ∀ w6, w6 = w5.setCell ((p.add 0).add ka) (.slice A1 (n ka + 1) c1) → ∀ w7, Drawn w6 w7 → (∃ u, w7.cell? ((p.add 0).add kb) = some u) ∧ w7.frozen? ((p.add 0).add kb) = false ∧ ∀ w8, w8 = w7.setCell ((p.add 0).add kb) (.slice A2 (n kb + 1) c2) → ∀ w9, Drawn w8 w9 → K w9 := by
  intro w2 w3 pb A1 c1 H1 h2 adv2 sub2 hE hc
  have hba : kb ≠ ka := fun q => hab q.symm
  have h3 := h2.stay hE
  obtain ⟨A2, c2, w4, r1, r2, H4, h4, adv4, sub4⟩ := h3.append (c2 := 1) (k := kb) (show kb < 9 + N by omega) (t := T.sl_int) (m := 1) (by rw [tb]; exact gIntE) (by rw [tb, sb]; exact gIntI) (by omega) (news := [iv vb]) (by rw [sb]; rfl) hc (by intro u hu; simp at hu; subst hu; rfl) (by rw [upd_ne _ _ hba]; omega) (by rw [upd_ne _ _ hba]; omega) hvb (hgb.1.trans hga.1.symm) (by rw [hgb.2.1, hgb.2.2, ← hga.2.1, ← hga.2.2]; exact h3.nd)
  rw [upd_ne _ _ hba, upd_ne _ _ hba, upd_ne _ _ hba] at r1
  refine ⟨A2, c2, w4, r1, fun w5 hw5 => ?_⟩
  have h5 := h4.stay (Ext.of_drawn hw5)
  have hdr : ∀ k, k < 4 → (gLay p U N).hdr k = (p.add 0).add k := fun k hk => by
   show (if k < 9 then p.add (goff k) else _) = _
   rw [if_pos (by omega), (gty_int hk).2.2, add0]
  have f1 := h5.fam.cell ka (show ka < 9 + N by omega)
  have f2 := h5.fam.froz ka (show ka < 9 + N by omega)
  rw [hdr ka ha] at f1 f2
  refine ⟨⟨_, f1⟩, f2, fun w6 hw6 w7 hw7 => ?_⟩
  obtain ⟨h6, adv6⟩ := h5.set (k := ka) (show ka < 9 + N by omega) (w' := w6) (by rw [hdr ka ha, upd_ne _ _ hab, upd_ne _ _ hab, upd_ne _ _ hab, upd_same, upd_same, upd_same]; exact hw6)
  have h7 := h6.stay (Ext.of_drawn hw7)
  have f3 := h7.fam.cell kb (show kb < 9 + N by omega)
  have f4 := h7.fam.froz kb (show kb < 9 + N by omega)
  rw [hdr kb hb] at f3 f4
  refine ⟨⟨_, f3⟩, f4, fun w8 hw8 w9 hw9 => ?_⟩
  obtain ⟨h8, adv8⟩ := h7.set (k := kb) (show kb < 9 + N by omega) (w' := w8) (by rw [hdr kb hb, upd_same, upd_same, upd_same]; rw [upd_ne _ _ hba]; exact hw8)
  have h9 := h8.stay (Ext.of_drawn hw9)
  have e1 : ∀ {α : Type} (f : Nat → α) (x y : α), upd (upd f ka (upd (upd f ka x) kb y ka)) kb (upd (upd f ka x) kb y kb) = upd (upd f ka x) kb y := fun f x y => by
   rw [upd_ne _ _ hab, upd_same, upd_same]
  rw [e1, e1, e1] at h9
  have nad : upd (upd A ka A1) kb A2 4 = gb.nvals.adr := by rw [upd_ne _ _ (by omega), upd_ne _ _ (by omega), hgb.2.1]; exact h.nad
  refine hK w9 _ _ _ H4 (h9.rep nad) (adv2.trans ((Adv.of_ext hE).trans (adv4.trans ((Adv.of_drawn hw5).trans (adv6.trans ((Adv.of_drawn hw7).trans (adv8.trans (Adv.of_drawn hw9)))))))) (fun b hb => sub4 b (sub2 b hb)) (fun k k1 k2 => ⟨by rw [upd_ne _ _ k2, upd_ne _ _ k1], by rw [upd_ne _ _ k2, upd_ne _ _ k1], by rw [upd_ne _ _ k2, upd_ne _ _ k1]⟩) (by rw [upd_ne _ _ hab, upd_same]) (by rw [upd_same, upd_ne _ _ hba])
 refine ⟨At (A ka), A ka, n ka, c ka, by rw [add0]; exact hca, noP _, A kb, n kb, c kb, by rw [add0]; exact hcb, noP _, fun w89 hw89 p10 w65 hN65 => ⟨fun w77 hw77 => ?_, fun w88 hw88 p12 w78 hN78 w87 hw87 => ?_⟩, fun w102 hw102 p13 w90 hN90 w101 hw101 p14 w91 hN91 w100 hw100 => ?_⟩
 ·have E77 : Ext w w77 := ((Ext.of_drawn hw89).new hN65).drawn hw77
  obtain ⟨A1, c1, w66, r1, r2, _, H1, r3, r4, r5⟩ := run1 w77 p10 E77 ((Ext.of_drawn hw77).cells (hN65.cells rfl))
  refine ⟨A1, _, c1, w66, r1, r2, fun w76 hw76 p11 w67 hN67 w75 hw75 => ?_⟩
  obtain ⟨A2, c2, w68, q1, q2⟩ := run2 w66 w75 p11 A1 c1 H1 r3 r4 r5 (((Ext.of_drawn hw76).new hN67).drawn hw75) ((Ext.of_drawn hw75).cells (hN67.cells rfl))
  exact ⟨A2, _, c2, w68, q1, q2⟩
 ·have E78 : Ext w w78 := ((Ext.of_drawn hw89).new hN65).drawn hw88 |>.new hN78
  have E87 : Ext w w87 := E78.drawn hw87
  obtain ⟨A1, c1, w79, r1, r2, r2', H1, r3, r4, r5⟩ := run1 w87 p10 E87 ((((Ext.of_drawn hw88).new hN78).drawn hw87).cells ⟨hN65.cells rfl, fun h => h⟩)
  refine ⟨A1, _, c1, w79, r1, r2, fun w86 hw86 => ?_⟩
  have hn12 : ¬ At (A ka) p12.block := fun hh => by
   have := hlo _ hh
   rw [hN78.block] at this
   have := ((((Ext.of_drawn hw89).new hN65).drawn hw88)).size
   omega
  have c12 : CellsAt w86 p12 [iv vb] := (Ext.of_drawn hw86).cells (r2'.own ((Ext.of_drawn hw87).cells (hN78.cells rfl)) hn12)
  obtain ⟨A2, c2, w80, q1, q2⟩ := run2 w79 w86 p12 A1 c1 H1 r3 r4 r5 (Ext.of_drawn hw86) c12
  exact ⟨A2, _, c2, w80, q1, q2⟩
 ·have E90 : Ext w w90 := (Ext.of_drawn hw102).new hN90
  have E100 : Ext w w100 := ((E90.drawn hw101).new hN91).drawn hw100
  obtain ⟨A1, c1, w92, r1, r2, r2', H1, r3, r4, r5⟩ := run1 w100 p14 E100 ((Ext.of_drawn hw100).cells (hN91.cells rfl))
  refine ⟨A1, _, c1, w92, r1, r2, fun w99 hw99 => ?_⟩
  have hn13 : ¬ At (A ka) p13.block := fun hh => by
   have := hlo _ hh
   rw [hN90.block] at this
   have := (Ext.of_drawn hw102).size
   omega
  have c13 : CellsAt w99 p13 [iv vb] := (Ext.of_drawn hw99).cells (r2'.own ((((Ext.of_drawn hw101).new hN91).drawn hw100).cells ⟨hN90.cells rfl, fun h => h⟩) hn13)
  obtain ⟨A2, c2, w93, q1, q2⟩ := run2 w92 w99 p13 A1 c1 H1 r3 r4 r5 (Ext.of_drawn hw99) c13
  exact ⟨A2, _, c2, w93, q1, q2⟩
end
end Go.Proofs.YtnbakpoahcndpaaDoor
namespace Go.Proofs.YtnbakpoahcndpaaDoor
set_option linter.unusedVariables false
set_option linter.unusedSimpArgs false
open Wk
theorem ints_cells {w : World} {A : Option Addr} {n : Nat} {l : List Int} (h : Ints w A n l) {a : Addr} (hA : A = some a) : CellsAt w a (l.map iv) := by
 intro i v hv
 rw [List.getElem?_map] at hv
 cases hx : l[i]? with
 | none => rw [hx] at hv; cases hv
 | some x =>
  rw [hx] at hv
  cases hv
  obtain ⟨ad, vs, h1, h2, h3, h4⟩ := h.2 i x hx
  rw [hA] at h1
  cases h1
  have : vs = [.int .i64 x] := h4
  subst this
  have := h3 0 _ rfl
  simpa [cInt, Addr.add_zero] using this
theorem clone_is {w : World} {A : Option Addr} {n c : Nat} {l : List Int} (h : Ints w A n l) (hn : Sm n) :
  Calls P F.slices_Clone_sl_int_int #[.slice A n c] w (Ret fun v w' => ∃ B d, v = .slice B n d ∧ Own w' w.heap.size T.int 1 B n d (l.map iv) ∧ Ext w w') := by
 refine Ret.mono (ok_slices_Clone_sl_int_int A n c (fun B m d w' => m = n ∧ Own w' w.heap.size T.int 1 B n d (l.map iv) ∧ Ext w w') w ?_) (by rintro _ w' ⟨B, m, d, rfl, rfl, h1, h2⟩; exact ⟨B, d, rfl, h1, h2⟩)
 unfold vc_slices_Clone_sl_int_int
 refine ⟨fun hA => ?_, fun hA p1 w1 hN1 => ?_⟩
 ·have hl : l = [] := by
   cases l with
   | nil => rfl
   | cons x l =>
    obtain ⟨ad, vs, h1, _⟩ := h.2 0 x rfl
    rw [hA] at h1
    cases h1
  subst hl
  have : n = 0 := h.1.symm
  subst this
  exact ⟨rfl, Own.nil _ _ _ _, Ext.refl w⟩
 ·obtain ⟨a, rfl⟩ := Option.ne_none_iff_exists'.1 hA
  have E1 := Ext.of_new hN1
  obtain ⟨A', c', w2, hr, hO, hK, hA'⟩ := (Own.new hN1).append (c2 := c) (m := n) (ty := T.sl_int) gIntE gIntI (by decide) (by decide) (by decide) (news := l.map iv) (by rw [List.length_map, h.1, Nat.mul_one]) (E1.cells (ints_cells h rfl)) (by intro u hu; obtain ⟨x, _, rfl⟩ := List.mem_map.1 hu; rfl) (by unfold Sm at hn; omega) E1.size
  rw [Nat.zero_add] at hr hO
  refine ⟨A', n, c', w2, hr, rfl, hO, ?_⟩
  refine E1.over hK fun i hi hx => ?_
  obtain ⟨b, hb, rfl⟩ := hx
  cases hb
  rw [hN1.block] at hi
  omega
def zedge : Edge := ⟨0, false, 0, 0, 0⟩
def g00 (N : Nat) : GS := { nodes := [], nvals := ⟨none, []⟩, first := [], ring := [], size := [], least := [], uses := List.replicate N [], sigs := [], why := List.replicate N zedge, stand := [], changes := [], marks := [] }
theorem flat_rep (N : Nat) (i j : Nat) (hj : j < 5) (hi : i < N) : ((List.replicate N zedge).flatMap Edge.vals)[i * 5 + j]? = zedge.vals[j]? := by
 have := flat_elem (f := Edge.vals) (s := 5) edge_len (List.replicate N zedge) i zedge (by simp [hi])
 rw [← this, List.getElem?_take, if_pos hj, List.getElem?_drop]
theorem made_edges (N : Nat) : (madeCells zedge.vals.toArray (N * 5)).toList = (List.replicate N zedge).flatMap Edge.vals := by
 apply List.ext_getElem?
 intro k
 have hl : ((List.replicate N zedge).flatMap Edge.vals).length = N * 5 := by rw [flat_len edge_len]; simp
 rcases Nat.lt_or_ge k (N * 5) with hk | hk
 ·have := flat_rep N (k / 5) (k % 5) (Nat.mod_lt _ (by decide)) (by omega)
  rw [show k / 5 * 5 + k % 5 = k by omega] at this
  rw [this]
  have hm : k % 5 < zedge.vals.toArray.size := Nat.mod_lt _ (by decide)
  rw [Array.getElem?_toList]
  unfold madeCells
  rw [Array.getElem?_map, Array.getElem?_range, if_pos hk]
  simp only [Option.map_some]
  have e5 : zedge.vals.toArray.size = 5 := rfl
  rw [e5, getElem!_pos zedge.vals.toArray (k % 5) hm, List.getElem?_eq_getElem (show k % 5 < zedge.vals.length from Nat.mod_lt _ (by decide))]
  rfl
 ·rw [List.getElem?_eq_none (by rw [Array.length_toList, size_madeCells]; exact hk), List.getElem?_eq_none (by omega)]
def A00 (Y : Addr) (k : Nat) : Option Addr := if k = 5 then some Y else none
def n00 (N : Nat) (k : Nat) : Nat := if k = 5 then N else 0
theorem g00_vals (N : Nat) (k : Nat) (hk : k ≠ 5) : (g00 N).vals k = [] := by
 have h9 : ∀ j, (g00 N).vals (j + 9) = [] := fun j => by
  show ((List.replicate N ([] : List Int)).getD j []).map iv = []
  rw [List.getD_eq_getElem?_getD, List.getElem?_replicate]
  split <;> rfl
 rcases Nat.lt_or_ge k 9 with h | h
 ·have : k = 0 ∨ k = 1 ∨ k = 2 ∨ k = 3 ∨ k = 4 ∨ k = 6 ∨ k = 7 ∨ k = 8 := by omega
  rcases this with rfl | rfl | rfl | rfl | rfl | rfl | rfl | rfl <;> rfl
 ·have := h9 (k - 9)
  rwa [Nat.sub_add_cancel h] at this
theorem Own.lt_ {w : World} {base : Nat} {e : TypeId} {s : Nat} {a : Addr} {n c : Nat} {vs : List Value} (h : Own w base e s (some a) n c vs) : base ≤ a.block ∧ a.block < w.heap.size := h.at ⟨a, rfl, rfl⟩
theorem start_is {w : World} {B0 B : Nat} {p U Y : Addr} {m N : Nat} (hp : CellsAt w p [.slice none 0 0, .slice none 0 0, .slice none 0 0, .slice none 0 0, .slice none 0 0, .slice (some U) N N, .map (some m), .slice (some Y) N N, .slice none 0 0, .slice none 0 0, .slice none 0 0]) (sp : Soft w p 11)
  (hU : Own w B T.sl_int 1 (some U) N N (List.replicate N (.slice none 0 0))) (hY : Own w B T.euf_edge 5 (some Y) N N ((List.replicate N zedge).flatMap Edge.vals)) (hm : MapIs Value.string iv w m []) (hB : B0 ≤ B) (pB : B ≤ p.block) (mB : B ≤ m) (pl : p.block < w.heap.size) (d1 : p.block ≠ U.block) (d2 : p.block ≠ Y.block) (d3 : p.block ≠ m) (d4 : U.block ≠ Y.block) (d5 : U.block ≠ m) (d6 : Y.block ≠ m) (tab : Tab10 B0 w) :
  GRep B0 w p U m N (A00 Y) (n00 N) (n00 N) (fun b => b = p.block ∨ b = U.block ∨ b = Y.block ∨ b = m) (g00 N) := by
 have atA : ∀ k b, At (A00 Y k) b → k = 5 ∧ b = Y.block := fun k b hb => by
  obtain ⟨a, ha, rfl⟩ := hb
  unfold A00 at ha
  split at ha
  ·cases ha; exact ⟨by assumption, rfl⟩
  ·cases ha
 have rU := (hU.row).rebase hB
 have rY := (hY.row).rebase hB
 have lU := hU.lt_
 have lY := hY.lt_
 have lM := hm.lt
 have hd9 : ∀ k, k < 9 → (gLay p U N).hdr k = p.add (goff k) := fun k hk => by
  show (if k < 9 then _ else _) = _
  rw [if_pos hk]
 have hd : ∀ k, 9 ≤ k → (gLay p U N).hdr k = U.add (k - 9) := fun k hk => by
  show (if k < 9 then _ else _) = _
  rw [if_neg (by omega)]
 have go : ∀ k, k < 9 → goff k < 11 := fun k hk => by unfold goff; split <;> omega
 have cU : ∀ i, i < N → w.cell? (U.add i) = some (.slice none 0 0) ∧ w.frozen? (U.add i) = false := fun i hi => by
  have := rU.get (i := (i : Int)) (by omega) (by omega)
  obtain ⟨a, v, ha, hv, hc, hf⟩ := this
  cases ha
  rw [Int.toNat_natCast, List.getElem?_replicate, if_pos hi] at hv
  cases hv
  rw [Int.toNat_natCast, Nat.mul_one] at hc hf
  exact ⟨hc, hf⟩
 refine ⟨⟨fun k hk => ?_, fun k hk => ?_, fun k hk => ?_, fun j k hj hk hjk b hb hb' => ?_, fun k hk b hb hh => ?_, fun j k hj hk q => ?_, fun k hk => ?_, fun b hb => ?_⟩, ⟨N, hp 5 _ rfl⟩, hp 6 _ rfl, hm, fun hh => ?_, rfl, fun w' hw => SlV.nil _ _, fun b hb => ?_, .inr (.inr (.inr rfl)), fun b hb => ?_, d1, tab⟩
 ·rcases Nat.lt_or_ge k 9 with h | h
  ·rw [hd9 k h]
   have : k = 0 ∨ k = 1 ∨ k = 2 ∨ k = 3 ∨ k = 4 ∨ k = 5 ∨ k = 6 ∨ k = 7 ∨ k = 8 := by omega
   rcases this with rfl | rfl | rfl | rfl | rfl | rfl | rfl | rfl | rfl
   ·exact hp 0 _ rfl
   ·exact hp 1 _ rfl
   ·exact hp 2 _ rfl
   ·exact hp 3 _ rfl
   ·exact hp 4 _ rfl
   ·exact hp 7 _ rfl
   ·exact hp 8 _ rfl
   ·exact hp 9 _ rfl
   ·exact hp 10 _ rfl
  ·rw [hd k h]
   have h5 : k ≠ 5 := by omega
   unfold A00 n00
   rw [if_neg h5, if_neg h5]
   exact (cU (k - 9) (by have : k < 9 + N := hk; omega)).1
 ·rcases Nat.lt_or_ge k 9 with h | h
  ·rw [hd9 k h]; exact (sp _ (go k h)).2
  ·rw [hd k h]; exact (cU (k - 9) (by have : k < 9 + N := hk; omega)).2
 ·by_cases h5 : k = 5
  ·subst h5
   exact rY
  ·rw [g00_vals N k h5]
   unfold A00 n00
   rw [if_neg h5, if_neg h5]
   exact Row.nil _ _ _ _
 ·exact hjk ((atA j b hb).1.trans (atA k b hb').1.symm)
 ·have := (atA k b hb).2
  rcases hh with hh | hh
  ·exact d2 (hh.symm.trans this)
  ·exact d4 (hh.symm.trans this)
 ·rcases Nat.lt_or_ge j 9 with h | h <;> rcases Nat.lt_or_ge k 9 with h' | h'
  ·rw [hd9 j h, hd9 k h'] at q
   have := add_inj q
   unfold goff at this
   split at this <;> split at this <;> omega
  ·rw [hd9 j h, hd k h'] at q
   have : (p.add (goff j)).block = (U.add (k - 9)).block := by rw [q]
   rw [Addr.add_block, Addr.add_block] at this
   exact absurd this d1
  ·rw [hd j h, hd9 k h'] at q
   have : (p.add (goff k)).block = (U.add (j - 9)).block := by rw [q]
   rw [Addr.add_block, Addr.add_block] at this
   exact absurd this d1
  ·rw [hd j h, hd k h'] at q
   have := add_inj q
   omega
 ·rcases Nat.lt_or_ge k 9 with h | h
  ·rw [hd9 k h]; exact .inl (by rw [Addr.add_block])
  ·rw [hd k h]; exact .inr (by rw [Addr.add_block])
 ·rcases hb with rfl | rfl
  ·exact ⟨by omega, pl⟩
  ·exact ⟨by omega, lU.2⟩
 ·rcases hh with (hh | hh) | ⟨k, hk, hh⟩
  ·exact d3 hh.symm
  ·exact d5 hh.symm
  ·exact d6 (atA k _ hh).2.symm
 ·rcases hb with (hb | hb) | ⟨k, hk, hb⟩
  ·exact .inl hb
  ·exact .inr (.inl hb)
  ·exact .inr (.inr (.inl (atA k _ hb).2))
 ·rcases hb with rfl | rfl | rfl | rfl
  ·exact ⟨by omega, pl⟩
  ·exact ⟨by omega, lU.2⟩
  ·exact ⟨by omega, lY.2⟩
  ·exact ⟨by omega, lM⟩
end Go.Proofs.YtnbakpoahcndpaaDoor
namespace Go.Proofs.YtnbakpoahcndpaaDoor
set_option linter.unusedVariables false
set_option linter.unusedSimpArgs false
open Wk
def addU1 (u : List (List Int)) (i r : Int) : List (List Int) := u.set r.toNat (u.getD r.toNat [] ++ [i])
def addU (u : List (List Int)) (i : Int) (rs : List Int) : List (List Int) := rs.foldl (fun u r => addU1 u i r) u
theorem addU_len (i : Int) : ∀ (rs : List Int) (u : List (List Int)), (addU u i rs).length = u.length
 | [], u => rfl
 | r :: rs, u => by
  show (addU (addU1 u i r) i rs).length = _
  rw [addU_len i rs]
  simp [addU1]
theorem addU_snoc (u : List (List Int)) (i : Int) (rs : List Int) (r : Int) : addU u i (rs ++ [r]) = addU1 (addU u i rs) i r := by simp [addU]
theorem addU_mem (i : Int) {q : Int} {x : Nat} : ∀ (rs : List Int) (u : List (List Int)), x < u.length → (q ∈ (addU u i rs).getD x [] ↔ q ∈ u.getD x [] ∨ (q = i ∧ ∃ r ∈ rs, r.toNat = x))
 | [], u, _ => by simp [addU]
 | r :: rs, u, hx => by
  show q ∈ (addU (addU1 u i r) i rs).getD x [] ↔ _
  rw [addU_mem i rs _ (by simp [addU1]; exact hx)]
  unfold addU1
  by_cases h : r.toNat = x
  ·subst h
   rw [getD_set_self hx, List.mem_append, List.mem_singleton]
   constructor
   ·rintro ((h | h) | ⟨h, s, hs, e⟩)
    ·exact .inl h
    ·exact .inr ⟨h, r, List.mem_cons_self, rfl⟩
    ·exact .inr ⟨h, s, List.mem_cons_of_mem _ hs, e⟩
   ·rintro (h | ⟨h, s, hs, e⟩)
    ·exact .inl (.inl h)
    ·exact .inl (.inr h)
  ·rw [getD_set_ne h]
   constructor
   ·rintro (h | ⟨h, s, hs, e⟩)
    ·exact .inl h
    ·exact .inr ⟨h, s, List.mem_cons_of_mem _ hs, e⟩
   ·rintro (h' | ⟨h', s, hs, e⟩)
    ·exact .inl h'
    ·rcases List.mem_cons.1 hs with rfl | hs
     ·exact absurd e h
     ·exact .inr ⟨h', s, hs, e⟩
theorem rsum_one {N : Nat} {fd : Int → Int} {f f' : Nat → Nat} {r : Nat} (hr : r < N) (h : f' r ≤ f r + 1) (ho : ∀ x, x < N → x ≠ r → f' x = f x) : rsum N fd f' ≤ rsum N fd f + 1 := by
 have := sum_one (fun i : Nat => if fd (i : Int) = (i : Int) then f i else 0) (fun i : Nat => if fd (i : Int) = (i : Int) then f' i else 0) r (List.range N) List.nodup_range (List.mem_range.2 hr) (fun x hx hne => by
  show (if _ then f' x else 0) = (if _ then f x else 0)
  rw [ho x (List.mem_range.1 hx) hne])
 show (List.map _ _).sum ≤ (List.map _ _).sum + 1
 split at this <;> omega
theorem addU_wt {N : Nat} {fd : Int → Int} (i : Int) : ∀ (rs : List Int) (u : List (List Int)), u.length = N → (∀ r ∈ rs, Vn N r) → rsum N fd (fun x => ((addU u i rs).getD x []).length) ≤ rsum N fd (fun x => (u.getD x []).length) + rs.length
 | [], u, _, _ => Nat.le_refl _
 | r :: rs, u, hu, hr => by
  have h1 := addU_wt (fd := fd) i rs (addU1 u i r) (by simp [addU1, hu]) fun s hs => hr s (List.mem_cons_of_mem _ hs)
  have hv := hr r (by simp)
  have hv1 := hv.1
  have hv2 := hv.2
  have h2 := rsum_one (N := N) (fd := fd) (f := fun x => (u.getD x []).length) (f' := fun x => ((addU1 u i r).getD x []).length) (r := r.toNat) (by omega) (by
   show ((addU1 u i r).getD r.toNat []).length ≤ _
   unfold addU1
   rw [getD_set_self (by omega)]
   simp) (fun x _ hne => by
   show ((addU1 u i r).getD x []).length = _
   unfold addU1
   rw [getD_set_ne (fun q => hne q.symm)])
  show rsum N fd (fun x => ((addU (addU1 u i r) i rs).getD x []).length) ≤ _
  simp only [List.length_cons]
  omega
def withUses (g : GS) (u : List (List Int)) : GS := { g with uses := u }
theorem GInv.next {W m : Nat} {g : GS} {us : List Edge} (h : GInv W m g us []) (hm : m < g.nodes.length) (app : 0 ≤ (nodeAt g m).fn) :
  GInv (W + (nodeAt g m).args.length) (m + 1) (enterG (withUses g (addU g.uses m ((nodeAt g m).args.map (fd g)))) (sigOf g m) m) us (match aget g.sigs (sigOf g m) with | some q => [⟨0, true, m, q, 0⟩] | none => []) := by
 have vm : Vn g.nodes.length (m : Int) := ⟨by omega, by omega⟩
 have hrs : ∀ r ∈ (nodeAt g m).args.map (fd g), Vn g.nodes.length r := fun r hr => by
  obtain ⟨a, ha, rfl⟩ := List.mem_map.1 hr
  exact (h.cls.root a (sound_vn h.sound vm ha)).1
 generalize hg1 : withUses g (addU g.uses m ((nodeAt g m).args.map (fd g))) = g1
 have e1 : g1.nodes = g.nodes := by rw [← hg1]; rfl
 have e2 : fd g1 = fd g := by rw [← hg1]; rfl
 have e3 : g1.uses = addU g.uses m ((nodeAt g m).args.map (fd g)) := by rw [← hg1]; rfl
 have e4 : g1.sigs = g.sigs := by rw [← hg1]; rfl
 have e5 : g1.why = g.why := by rw [← hg1]; rfl
 have e6 : nodeAt g1 = nodeAt g := by rw [← hg1]; rfl
 have e7 : ∀ p, sigOf g1 p = sigOf g p := fun p => by unfold sigOf; rw [e6, e2]
 have c1 : Cls g1 := h.cls.congr e1 (by rw [← hg1]; rfl) (by rw [← hg1]; rfl) (by rw [← hg1]; rfl) (by rw [← hg1]; rfl)
 have s1 : SigOk g1 := by
  intro k q hq
  rw [e4] at hq
  rw [e1, e6, e2]
  exact h.sigs k q hq
 have A := enterG_alike g1 (sigOf g m) m
 have s2 : SigOk (enterG g1 (sigOf g m) m) := by
  have := s1.enter (by rw [e1]; exact h.sound) c1.root (p := (m : Int)) (by rw [e1]; exact vm) (by rw [e6]; exact app)
  rw [e7] at this
  exact this
 have hk : ∀ k q, aget g.sigs k = some q → aget (enterG g1 (sigOf g m) m).sigs k = some q := fun k q hq => enterG_keeps (by rw [e4]; exact hq)
 have own : ∃ q, aget (enterG g1 (sigOf g m) m).sigs (sigOf g m) = some q ∧ (q = m ∧ aget g.sigs (sigOf g m) = none ∨ aget g.sigs (sigOf g m) = some q) := by
  cases hq : aget g.sigs (sigOf g m) with
  | some q => exact ⟨q, hk _ _ hq, .inr rfl⟩
  | none =>
   refine ⟨m, ?_, .inl ⟨rfl, rfl⟩⟩
   unfold enterG
   rw [e4, hq]
   simp only
   rw [aget_aset, if_pos rfl]
 have uA : ∀ x, usesAt (enterG g1 (sigOf g m) m) x = (addU g.uses m ((nodeAt g m).args.map (fd g))).getD x.toNat [] := fun x => by unfold usesAt; rw [A.uses, e3]
 have um : ∀ {x q : Int}, Vn g.nodes.length x → (q ∈ usesAt (enterG g1 (sigOf g m) m) x ↔ q ∈ usesAt g x ∨ (q = m ∧ ∃ r ∈ (nodeAt g m).args.map (fd g), r.toNat = x.toNat)) := fun {x q} hx => by
  rw [uA, addU_mem _ _ _ (by rw [h.luses]; have := hx.1; have := hx.2; omega)]
  rfl
 have eN : (enterG g1 (sigOf g m) m).nodes = g.nodes := A.nodes.trans e1
 have eF : fd (enterG g1 (sigOf g m) m) = fd g := A.fdf.trans e2
 have eA : nodeAt (enterG g1 (sigOf g m) m) = nodeAt g := (funext A.nodeE).trans e6
 have eS : ∀ p, sigOf (enterG g1 (sigOf g m) m) p = sigOf g p := fun p => (A.sigE p).trans (e7 p)
 have hlk : ∀ l x y, Lk g [] x y → Lk (enterG g1 (sigOf g m) m) l x y := fun l x y k => k.mono (fun x y hx hy q => .same (by rw [eN]; exact hx) (by rw [eN]; exact hy) (by rw [eF]; exact q)) fun f hf => by simp at hf
 refine ⟨by rw [eN]; exact h.few, by rw [A.uses, e3, addU_len, eN]; exact h.luses, by rw [eN]; exact h.sound, by rw [eN]; exact h.fn64, c1.congr A.nodes A.first A.ring A.size A.least, by rw [eN, eF, A.why, e5]; exact h.forest, by rw [eN, eF]; exact h.conn1, by rw [eF]; exact h.conn2, ?_, ?_, ?_, by rw [eN, eF]; exact h.cnt, s2, ?_, by rw [eN]; exact h.just, ?_⟩
 ·rw [eN, eA]
  intro x hx q hq
  rcases (um hx).1 hq with hq | ⟨rfl, _⟩
  ·obtain ⟨k1, k2, k3⟩ := h.uses0 x hx q hq
   exact ⟨k1, by omega, k3⟩
  ·exact ⟨vm, by omega, app⟩
 ·rw [eN, eA, eF]
  intro p hp hlt hf a ha
  have vr := (h.cls.root a (sound_vn h.sound hp ha)).1
  refine (um vr).2 ?_
  by_cases hpm : p < m
  ·exact .inl (h.uses1 p hp hpm hf a ha)
  ·have : p = m := by omega
   subst this
   exact .inr ⟨rfl, fd g a, List.mem_map.2 ⟨a, ha, rfl⟩, rfl⟩
 ·rw [eN, eF]
  have := addU_wt (fd := fd g) (m : Int) _ g.uses h.luses hrs
  rw [List.length_map] at this
  have h2 := h.wt
  have e : (fun i : Nat => (usesAt (enterG g1 (sigOf g m) m) i).length) = fun x : Nat => ((addU g.uses m ((nodeAt g m).args.map (fd g))).getD x []).length := funext fun i => by rw [uA, Int.toNat_natCast]
  rw [e]
  have e' : (fun i : Nat => (usesAt g i).length) = fun x : Nat => (g.uses.getD x []).length := funext fun i => by unfold usesAt; rw [Int.toNat_natCast]
  rw [e'] at h2
  omega
 ·rw [eN, eA]
  intro p hp hlt hf
  rw [eS]
  by_cases hpm : p < m
  ·obtain ⟨q, k1, k2⟩ := h.table p hp hpm hf
   exact ⟨q, hk _ _ k1, hlk _ _ _ k2⟩
  ·have : p = m := by omega
   subst this
   obtain ⟨q, k1, k2⟩ := own
   refine ⟨q, k1, ?_⟩
   rcases k2 with ⟨rfl, k2⟩ | k2
   ·exact .same (by rw [eN]; exact vm) (by rw [eN]; exact vm) rfl
   ·rw [k2]
    exact .link (e := ⟨0, true, m, q, 0⟩) (by simp)
 ·intro f hf
  rw [eN, eF]
  cases hq : aget g.sigs (sigOf g m) with
  | none => rw [hq] at hf; simp at hf
  | some q =>
   rw [hq] at hf
   simp at hf
   subst hf
   have := h.sigs.cong h.cls.root h.sound vm hq
   exact ⟨vm, this.1.v2, fun _ => this.1⟩
theorem GInv.next0 {W m : Nat} {g : GS} {us l : List Edge} (h : GInv W m g us l) (app : ¬ 0 ≤ (nodeAt g m).fn) : GInv W (m + 1) g us l := by
 have key : ∀ p : Int, p < (m + 1 : Nat) → 0 ≤ p → 0 ≤ (nodeAt g p).fn → p < m := fun p hp h0 hf => by
  by_cases q : p < m
  ·exact q
  ·have : p = m := by omega
   subst this
   exact absurd hf app
 exact { h with
  uses0 := fun x hx q hq => by
   obtain ⟨k1, k2, k3⟩ := h.uses0 x hx q hq
   exact ⟨k1, by omega, k3⟩
  uses1 := fun p hp hlt hf => h.uses1 p hp (key p hlt hp.1 hf) hf
  table := fun p hp hlt hf => h.table p hp (key p hlt hp.1 hf) hf }
theorem GInv.up {W W' m : Nat} {g : GS} {us l : List Edge} (h : GInv W m g us l) (hw : W ≤ W') : GInv W' m g us l := { h with wt := Nat.le_trans h.wt hw }
end Go.Proofs.YtnbakpoahcndpaaDoor
namespace Go.Proofs.YtnbakpoahcndpaaDoor
set_option linter.unusedVariables false
set_option linter.unusedSimpArgs false
open Wk
def nedge : Edge := ⟨-1, false, 0, 0, 0⟩
def idx (i : Nat) : List Int := (List.range i).map fun (j : Nat) => (j : Int)
theorem idx_succ (i : Nat) : idx (i + 1) = idx i ++ [(i : Int)] := by simp [idx, List.range_succ]
theorem idx_len (i : Nat) : (idx i).length = i := by simp [idx]
def lay1 (fs : List Flat) (nv : NV) (N i : Nat) : GS := { nodes := fs.take i, nvals := nv, first := idx i, ring := idx i, size := List.replicate i 1, least := idx i, uses := List.replicate N [], sigs := [], why := List.replicate i nedge ++ List.replicate (N - i) zedge, stand := [], changes := [], marks := [] }
theorem vals_n0 (g : GS) (l : List Int) (us : List Value) (h : us = l.map iv) : ∀ i, upd g.vals 0 us i = ({ g with first := l } : GS).vals i := by
 intro i; subst h
 match i with
 | 0 | 1 | 2 | 3 | 4 | 5 | 6 | 7 | 8 => rfl
 | i + 9 => rfl
theorem vals_n1 (g : GS) (l : List Int) (us : List Value) (h : us = l.map iv) : ∀ i, upd g.vals 1 us i = ({ g with ring := l } : GS).vals i := by
 intro i; subst h
 match i with
 | 0 | 1 | 2 | 3 | 4 | 5 | 6 | 7 | 8 => rfl
 | i + 9 => rfl
theorem vals_n2 (g : GS) (l : List Int) (us : List Value) (h : us = l.map iv) : ∀ i, upd g.vals 2 us i = ({ g with size := l } : GS).vals i := by
 intro i; subst h
 match i with
 | 0 | 1 | 2 | 3 | 4 | 5 | 6 | 7 | 8 => rfl
 | i + 9 => rfl
theorem vals_n3 (g : GS) (l : List Int) (us : List Value) (h : us = l.map iv) : ∀ i, upd g.vals 3 us i = ({ g with least := l } : GS).vals i := by
 intro i; subst h
 match i with
 | 0 | 1 | 2 | 3 | 4 | 5 | 6 | 7 | 8 => rfl
 | i + 9 => rfl
theorem vals_n4 (g : GS) (ns : List Flat) (v : NV) (us : List Value) (h : us = v.vals) : ∀ i, upd g.vals 4 us i = ({ g with nodes := ns, nvals := v } : GS).vals i := by
 intro i; subst h
 match i with
 | 0 | 1 | 2 | 3 | 4 | 5 | 6 | 7 | 8 => rfl
 | i + 9 => rfl
section
variable {B0 : Nat} {w w' w0 : World} {p U : Addr} {M N : Nat} {A : Nat → Option Addr} {n c : Nat → Nat} {H : Nat → Prop} {g : GS}
theorem take_succ_of {α : Type} {l : List α} {i : Nat} {x : α} (h : l[i]? = some x) : l.take (i + 1) = l.take i ++ [x] := by rw [List.take_add_one, h]; rfl
theorem lay1_why {fs : List Flat} {nv : NV} {N i : Nat} (hi : i < N) : (lay1 fs nv N i).why[i]? = some zedge ∧ (lay1 fs nv N i).why.set i nedge = (lay1 fs nv N (i + 1)).why := by
 have e : List.replicate (N - i) zedge = zedge :: List.replicate (N - (i + 1)) zedge := by
  rw [show N - i = (N - (i + 1)) + 1 by omega, List.replicate_succ]
 refine ⟨?_, ?_⟩
 ·show (List.replicate i nedge ++ List.replicate (N - i) zedge)[i]? = _
  rw [e, List.getElem?_append_right (by simp)]
  simp
 ·show (List.replicate i nedge ++ List.replicate (N - i) zedge).set i nedge = List.replicate (i + 1) nedge ++ _
  rw [e, List.set_append_right _ _ (by simp)]
  simp only [List.length_replicate, Nat.sub_self, List.set_cons_zero]
  rw [List.replicate_succ' , List.append_assoc]
  rfl
theorem lay_step {fs : List Flat} {nv : NV} {i : Nat} {x : Flat} {s : Int} (h : GRep B0 w p U M N A n c H (lay1 fs nv N i)) (hi : i < N) (hN : Sm N) (hx : fs[i]? = some x) {C : Option Addr} {m d : Nat} (hC : Ints w C m x.args) (hm : Sm m) {k1 : Nat} {I1 : Nat → Int → World → Prop}
  (hs : s = x.fn) (hK : ∀ w' A' n' c' H' nv', GRep B0 w' p U M N A' n' c' H' (lay1 fs nv' N (i + 1)) → Adv H w H' w' → (∀ b, H b → H' b) → ∃ k2, k2 < k1 ∧ I1 k2 (IntKind.wrap .i64 ((i : Int) + 1)) w') :
  ∃ X1 : Nat → Prop, ∃ A13 : Option Addr, ∃ n13 : Nat, ∃ c13 : Nat, w.cell? (p.add 4) = some (.slice A13 n13 c13) ∧ ¬ X1 (p.add 4).block ∧ (∀ w55, Drawn w w55 → Calls P F.slices_Clone_sl_int_int #[(.slice C m d)] w55 (Wk.Ret fun v2 w54 => ∃ A15 : Option Addr, ∃ n15 : Nat, ∃ c15 : Nat, v2 = (.slice A15 n15 c15) ∧ Wk.Keep X1 w w54 ∧ ∀ w64, Wk.Drawn w54 w64 → ∀ (p9 : Addr) (w57 : World), Wk.New w64 (.cells #[(.int .i64 s), (.slice A15 n15 c15)] T.api_Flat) p9 w57 → (∀ w63, Wk.Drawn w57 w63 → ∃ (A16 : Option Addr) (n16 c16 : Nat) (w58 : World), (Builtin.append_ #[T.sl_api_Flat, T.sl_api_Flat] T.sl_api_Flat #[(.slice A13 n13 c13), (.slice (some p9) 1 1)]).run P w63 = .ok (.slice A16 n16 c16) w58 ∧ (∀ w62, Wk.Drawn w58 w62 → (∃ u1, w62.cell? (p.add 4) = some u1) ∧ w62.frozen? (p.add 4) = false ∧ ∀ w59, w59 = w62.setCell (p.add 4) (.slice A16 n16 c16) → (∀ w60, Wk.Drawn w59 w60 → ((vc_euf_New_J3 p (i : Int) k1 I1) w60)))))) ∧ X1 = (fun _ => False) := by
 subst hs
 refine ⟨fun _ => False, A 4, n 4, c 4, h.cell (show 4 < 9 by omega), fun h => h, fun w55 hw55 => ?_, rfl⟩
 have h55 := h.stay (Ext.of_drawn hw55)
 have e4 : n 4 = i := by have := h.n4; rw [← this]; show (fs.take i).length = i; rw [List.length_take]; have := (List.getElem?_eq_some_iff.1 hx).1; omega
 refine (clone_is (hC.ext (Ext.of_drawn hw55)) hm).mono ?_
 rintro _ w54 ⟨_, rfl, B, d', rfl, hO, hE⟩
 refine ⟨_, rfl, B, m, d', rfl, (Ext.of_drawn hw55).trans hE, fun w64 hw64 p9 w57 hN57 w63 hw63 => ?_⟩
 have E63 : Ext w54 w63 := ((Ext.of_drawn hw64).new hN57).drawn hw63
 have h63 := (h55.stay hE).stay E63
 have hO63 := hO.keep E63 (fun _ _ h => h)
 have hBH : ∀ b, At B b → ¬ H b := fun b hb hh => by
  have := (hO.at hb).1
  have := (h55.lo b hh).2
  omega
 have hnd : St (fun b => b < B0 ∨ H b) w63 fun w => SlV cFlat w (nv.vals ++ [.int .i64 x.fn, .slice B m d']) (fs.take i ++ [x]) := fun w' hw' =>
  (h63.nd w' hw').snoc rfl ⟨B, m, d', rfl, hm, (hO63.keep hw' fun b hb hh => hh.elim (fun q => by have := (hO.at hb).1; have := h55.le; omega) (hBH b hb)).ints⟩
 obtain ⟨A16, c16, w58, hrun, _, H1, g1, adv1, sub1⟩ := (NRep.of h63).append (c2 := 1) (k := 4) (show 4 < 9 + N by omega) (t := T.sl_api_Flat) (m := 1) (by kernel_rfl) (show infoN P T.api_Flat = some (2, 32, 2) by kernel_rfl) (by decide) (news := [.int .i64 x.fn, .slice B m d']) rfl ((Ext.of_drawn hw63).cells (hN57.cells rfl)) (by intro u hu; simp at hu; rcases hu with rfl | rfl <;> rfl) (by unfold Sm at hN; omega) (by unfold Sm at hN; omega)
  (g' := { lay1 fs nv N i with nodes := fs.take i ++ [x], nvals := ⟨none, nv.vals ++ [.int .i64 x.fn, .slice B m d']⟩ }) (fun j _ => vals_n4 (lay1 fs nv N i) (fs.take i ++ [x]) ⟨none, nv.vals ++ [.int .i64 x.fn, .slice B m d']⟩ _ rfl j) rfl hnd
 refine ⟨A16, _, c16, w58, hrun, fun w62 hw62 => ?_⟩
 have g62 := g1.stay (Ext.of_drawn hw62)
 obtain ⟨k1', k2'⟩ := g62.hcell (show 4 < 9 by omega)
 refine ⟨⟨_, k1'⟩, k2', fun w59 hw59 w60 hw60 => ?_⟩
 obtain ⟨g59, adv59⟩ := g62.set (w' := w59) (k := 4) (show 4 < 9 + N by omega) (by rw [upd_same, upd_same, upd_same]; exact hw59)
 rw [upd_same, upd_same, upd_same] at g59
 have g60 := g59.stay (Ext.of_drawn hw60)
 have r60 := (g60.re (g' := { lay1 fs nv N i with nodes := fs.take i ++ [x], nvals := ⟨A16, nv.vals ++ [.int .i64 x.fn, .slice B m d']⟩ }) (fun k => by
  match k with
  | 0 | 1 | 2 | 3 | 4 | 5 | 6 | 7 | 8 => rfl
  | k + 9 => rfl) rfl rfl rfl).rep (by rw [upd_same])
 have advA : Adv H w H1 w60 := (Adv.of_drawn hw55).trans ((Adv.of_ext hE).trans ((Adv.of_ext E63).trans (adv1.trans ((Adv.of_drawn hw62).trans (adv59.trans (Adv.of_drawn hw60))))))
 have len : ∀ k, k < 4 → (upd n 4 (n 4 + 1)) k = i := fun k hk => by
  have hr := h.row (show k < 9 by omega)
  rw [upd_ne _ _ (by omega)]
  have h1 := hr.1
  have : gsz k = 1 := (gty_int hk).2.1
  rw [this, Nat.mul_one] at h1
  rw [← h1]
  have : k = 0 ∨ k = 1 ∨ k = 2 ∨ k = 3 := by omega
  rcases this with rfl | rfl | rfl | rfl
  ·show ((idx i).map iv).length = i; rw [List.length_map, idx_len]
  ·show ((idx i).map iv).length = i; rw [List.length_map, idx_len]
  ·show ((List.replicate i (1 : Int)).map iv).length = i; rw [List.length_map, List.length_replicate]
  ·show ((idx i).map iv).length = i; rw [List.length_map, idx_len]
 unfold Sm at hN
 show App2 p 0 1 (i : Int) (i : Int) (vc_euf_New_J2 p (i : Int) k1 I1) w60
 refine app2_is (ka := 0) (kb := 1) (by omega) (by omega) (by omega) r60
  (ga := { lay1 fs nv N i with nodes := fs.take i ++ [x], nvals := ⟨A16, nv.vals ++ [.int .i64 x.fn, .slice B m d']⟩, first := idx i ++ [(i : Int)] })
  (gb := { lay1 fs nv N i with nodes := fs.take i ++ [x], nvals := ⟨A16, nv.vals ++ [.int .i64 x.fn, .slice B m d']⟩, first := idx i ++ [(i : Int)], ring := idx i ++ [(i : Int)] })
  (fun j _ => vals_n0 _ _ _ (by show (idx i).map iv ++ _ = _; simp) j) (fun j _ => vals_n1 _ _ _ (by show (idx i).map iv ++ _ = _; simp) j) ⟨rfl, rfl, rfl⟩ ⟨rfl, rfl, rfl⟩ (by rw [len 0 (by omega)]; omega) (by rw [len 1 (by omega)]; omega) ?_
 intro w72 A2 n2 c2 H2 g2 adv2 sub2 oth2 _ _
 show App2 p 2 3 1 (i : Int) (vc_euf_New_J1 p (i : Int) k1 I1) w72
 refine app2_is (ka := 2) (kb := 3) (by omega) (by omega) (by omega) g2
  (ga := { lay1 fs nv N i with nodes := fs.take i ++ [x], nvals := ⟨A16, nv.vals ++ [.int .i64 x.fn, .slice B m d']⟩, first := idx i ++ [(i : Int)], ring := idx i ++ [(i : Int)], size := List.replicate i 1 ++ [1] })
  (gb := { lay1 fs nv N i with nodes := fs.take i ++ [x], nvals := ⟨A16, nv.vals ++ [.int .i64 x.fn, .slice B m d']⟩, first := idx i ++ [(i : Int)], ring := idx i ++ [(i : Int)], size := List.replicate i 1 ++ [1], least := idx i ++ [(i : Int)] })
  (fun j _ => vals_n2 _ _ _ (by show (List.replicate i (1 : Int)).map iv ++ _ = _; simp) j) (fun j _ => vals_n3 _ _ _ (by show (idx i).map iv ++ _ = _; simp) j) ⟨rfl, rfl, rfl⟩ ⟨rfl, rfl, rfl⟩ (by rw [(oth2 2 (by omega) (by omega)).2.1, len 2 (by omega)]; omega) (by rw [(oth2 3 (by omega) (by omega)).2.1, len 3 (by omega)]; omega) ?_
 intro w110 A3 n3 c3 H3 g3 adv3 sub3 _ _ _
 have hwy := lay1_why (fs := fs) (nv := nv) hi
 obtain ⟨q1, q2, q3, a5, q4, q5, q6⟩ := g3.edge (i := (i : Int)) (by omega) (e := zedge) (by rw [Int.toNat_natCast]; exact hwy.1)
 refine ⟨_, _, _, q1, by omega, q2, a5, q4, ⟨_, q5 0 _ rfl⟩, (q6 0 (by decide)).2, fun w141 hw141 => ?_⟩
 obtain ⟨H4, g4, adv4, sub4⟩ := g3.setTo (i := (i : Int)) (e := zedge) (by omega) (by rw [Int.toNat_natCast]; exact hwy.1) q4 hw141
 rw [Int.toNat_natCast] at g4
 have fin : ({ ({ lay1 fs nv N i with nodes := fs.take i ++ [x], nvals := ⟨A16, nv.vals ++ [.int .i64 x.fn, .slice B m d']⟩, first := idx i ++ [(i : Int)], ring := idx i ++ [(i : Int)], size := List.replicate i 1 ++ [1], least := idx i ++ [(i : Int)] } : GS) with why := (lay1 fs nv N i).why.set i nedge } : GS) = lay1 fs ⟨A16, nv.vals ++ [.int .i64 x.fn, .slice B m d']⟩ N (i + 1) := by
  rw [hwy.2]
  unfold lay1
  simp only
  rw [take_succ_of hx, idx_succ, show List.replicate (i + 1) (1 : Int) = List.replicate i 1 ++ [1] from List.replicate_succ']
 have g4' : GRep B0 w141 p U M N A3 n3 c3 H4 ({ ({ lay1 fs nv N i with nodes := fs.take i ++ [x], nvals := ⟨A16, nv.vals ++ [.int .i64 x.fn, .slice B m d']⟩, first := idx i ++ [(i : Int)], ring := idx i ++ [(i : Int)], size := List.replicate i 1 ++ [1], least := idx i ++ [(i : Int)] } : GS) with why := (lay1 fs nv N i).why.set i nedge } : GS) := g4
 rw [fin] at g4'
 exact hK w141 A3 n3 c3 H4 _ g4' (advA.trans (adv2.trans (adv3.trans adv4))) (fun b hb => sub4 b (sub3 b (sub2 b (sub1 b hb))))
end
end Go.Proofs.YtnbakpoahcndpaaDoor
namespace Go.Proofs.YtnbakpoahcndpaaDoor
set_option linter.unusedVariables false
set_option linter.unusedSimpArgs false
open Wk
section
variable {B0 : Nat} {w w' w0 : World} {p U : Addr} {M N : Nat} {A : Nat → Option Addr} {n c : Nat → Nat} {H : Nat → Prop} {g : GS}
theorem GRep.nodeV (h : GRep B0 w p U M N A n c H g) {i : Nat} {x : Flat} (hx : g.nodes[i]? = some x) : ∃ C k d, (g.nvals.vals.drop (i * 2)).take 2 = [.int .i64 x.fn, .slice C k d] ∧ Sm k ∧ Ints w C k x.args ∧ k = x.args.length := by
 have hrd := h.nd.now.2 i x hx
 rw [show (cFlat.size : Nat) = 2 from rfl] at hrd
 obtain ⟨C, k, d, e, hs, hi⟩ := hrd
 exact ⟨C, k, d, e, hs, hi, hi.1.symm⟩
theorem GRep.nodeI (h : GRep B0 w p U M N A n c H g) {i : Nat} {x : Flat} (hx : g.nodes[i]? = some x) {C : Option Addr} {k d : Nat} (e : (g.nvals.vals.drop (i * 2)).take 2 = [.int .i64 x.fn, .slice C k d]) : Ints w C k x.args := by
 obtain ⟨C', k', d', e', _, hi, _⟩ := h.nodeV hx
 rw [e] at e'
 injection e' with _ e'
 injection e' with e' _
 injection e' with e1 e2 e3
 rw [e1, e2]
 exact hi
theorem GRep.nodeC (h : GRep B0 w p U M N A n c H g) {i : Nat} {x : Flat} (hx : g.nodes[i]? = some x) : ∃ a C k d, g.nvals.adr = some a ∧ (g.nvals.vals.drop (i * 2)).take 2 = [.int .i64 x.fn, .slice C k d] ∧ CellsAt w (a.add (i * 2)) [.int .i64 x.fn, .slice C k d] ∧ Sm k ∧ k = x.args.length := by
 obtain ⟨C, k, d, e, hs, hi, hk⟩ := h.nodeV hx
 have hr : Row w B0 T.api_Flat 2 (A 4) (n 4) (c 4) g.nvals.vals := h.row (show 4 < 9 by omega)
 have e4 := h.n4
 have hi4 := (List.getElem?_eq_some_iff.1 hx).1
 obtain ⟨a, us, hA, hu, _, hcell, _⟩ := hr.elem (i := (i : Int)) (by omega) (by omega) (by decide)
 rw [Int.toNat_natCast] at hu hcell
 rw [e] at hu
 subst hu
 exact ⟨a, C, k, d, by rw [← h.nad]; exact hA, e, hcell, hs, hk⟩
theorem use_is (h : GRep B0 w p U M N A n c H g) {r i : Int} (r0 : 0 ≤ r) (r1 : r.toNat < N) (hlu : g.uses.length = N) (hlen : (usesAt g r).length + 1 ≤ 1099511627776) {K : World → Prop}
  (hK : ∀ w' A' n' c' H', GRep B0 w' p U M N A' n' c' H' (withUses g (addU1 g.uses i r)) → Adv H w H' w' → (∀ b, H b → H' b) → K w') :
  ∃ X4 : Nat → Prop, ∃ A37 : Option Addr, ∃ n37 : Nat, ∃ c37 : Nat, w.cell? (p.add 5) = some (.slice A37 n37 c37) ∧ ¬ X4 (p.add 5).block ∧ ∃ A38 : Option Addr, ∃ n38 : Nat, ∃ c38 : Nat, w.cell? (p.add 5) = some (.slice A38 n38 c38) ∧ ¬ X4 (p.add 5).block ∧ 0 ≤ r ∧ r < (n38 : Int) ∧ ∃ a5, A38 = some a5 ∧ ∃ A39 : Option Addr, ∃ n39 : Nat, ∃ c39 : Nat, w.cell? (a5.add (r.toNat * 1)) = some (.slice A39 n39 c39) ∧ ¬ X4 (a5.add (r.toNat * 1)).block ∧ ∀ w155, Wk.Drawn w w155 → ∀ (p21 : Addr) (w148 : World), Wk.New w155 (.cells #[(.int .i64 i)] T.int) p21 w148 → (∀ w154, Wk.Drawn w148 w154 → ∃ (A40 : Option Addr) (n40 c40 : Nat) (w149 : World), (Builtin.append_ #[T.sl_int, T.sl_int] T.sl_int #[(.slice A39 n39 c39), (.slice (some p21) 1 1)]).run P w154 = .ok (.slice A40 n40 c40) w149 ∧ (Wk.Keep X4 w w149 ∧ (0 ≤ r ∧ r < (n37 : Int) ∧ ∃ a6, A37 = some a6 ∧ ∀ w153, Wk.Drawn w149 w153 → (∃ u15, w153.cell? (a6.add (r.toNat * 1)) = some u15) ∧ w153.frozen? (a6.add (r.toNat * 1)) = false ∧ ∀ w150, w150 = w153.setCell (a6.add (r.toNat * 1)) (.slice A40 n40 c40) → (∀ w151, Wk.Drawn w150 w151 → K w151)))) := by
 obtain ⟨cU, hcU⟩ := h.ucell
 have k1 : 9 + r.toNat < 9 + N := by omega
 have hr := h.useRow r1
 have er : (g.uses.getD r.toNat []).length = n (9 + r.toNat) := by have := hr.1; simpa using this
 unfold usesAt at hlen
 have noP : ¬ At (A (9 + r.toNat)) (p.add 5).block := by
  rw [Addr.add_block]
  exact fun hb => h.fam.seph (9 + r.toNat) k1 _ hb (.inl rfl)
 have noU : ¬ At (A (9 + r.toNat)) (U.add (r.toNat * 1)).block := by
  rw [Addr.add_block]
  exact fun hb => h.fam.seph (9 + r.toNat) k1 _ hb (.inr rfl)
 refine ⟨At (A (9 + r.toNat)), some U, N, cU, hcU, noP, some U, N, cU, hcU, noP, r0, by omega, U, rfl, _, _, _, h.ucellN r1, noU, fun w155 hw155 p21 w148 hN148 w154 hw154 => ?_⟩
 have E154 : Ext w w154 := ((Ext.of_drawn hw155).new hN148).drawn hw154
 have h154 := h.stay E154
 obtain ⟨A', c', w149, hrun, hk, hh⟩ := h154.append (c2 := 1) (k := 9 + r.toNat) k1 (t := T.sl_int) (m := 1) (by rw [gty9]; exact gIntE) (by rw [gty9, gsz9]; exact gIntI) (by rw [gsz9]; decide) (news := [iv i]) (by rw [gsz9]; rfl) ((Ext.of_drawn hw154).cells (hN148.cells rfl)) (by intro u hu; simp at hu; subst hu; rfl) (by omega) (by omega)
  (g' := withUses g (addU1 g.uses i r)) (fun j _ => vals_uses g r.toNat (by omega) _ _ (by rw [vals9, List.map_append]; rfl) j) ⟨rfl, rfl, rfl⟩
 refine ⟨A', _, c', w149, hrun, (E154.mono fun _ _ h => h.elim).trans hk, r0, by omega, U, rfl, fun w153 hw153 => ?_⟩
 obtain ⟨q1, q2, q3⟩ := hh w153 (Ext.of_drawn hw153)
 rw [h154.hdrU] at q1 q2 q3
 rw [Nat.mul_one] at *
 refine ⟨q1, q2, fun w150 hw150 w151 hw151 => ?_⟩
 obtain ⟨H', g', adv', sub', _⟩ := q3 w150 hw150
 exact hK w151 _ _ _ H' (g'.stay (Ext.of_drawn hw151)) ((Adv.of_ext E154).trans (adv'.trans (Adv.of_drawn hw151))) sub'
theorem GRep.clear (h : GRep B0 w p U M N A n c H g) (hw : w' = w.setCell (p.add 9) (.slice none 0 0)) : ∃ A' n' c' H', GRep B0 w' p U M N A' n' c' H' { g with changes := [] } ∧ Adv H w H' w' ∧ ∀ b, H b → H' b := by
 obtain ⟨hf, hK⟩ := h.fam.head (w' := w') (k := 7) (show 7 < 9 + N by omega) (A' := none) (m := 0) (d := 0) (us := []) (Row.nil _ _ _ _) (fun b hb => by obtain ⟨a, ha, _⟩ := hb; cases ha) hw
 have := h.turn_ (g' := { g with changes := [] }) hK (fun b _ hb => by rw [hb]; exact .inl (h.fam.hb 7 (show 7 < 9 + N by omega))) (hf.congr fun j _ => vals_changes g [] _ rfl j) (fun o ho => by rw [hw]; exact World.cell?_setCell_other _ _ _ _ (h.hdr_ne 7 ho)) (fun b hb hh => by
  rcases hh with hh | ⟨i, hi, hh⟩
  ·exact .inl hh
  ·by_cases hik : i = 7
   ·subst hik
    rw [upd_same] at hh
    obtain ⟨a, ha, _⟩ := hh
    cases ha
   ·rw [upd_ne _ _ hik] at hh
    exact .inr ⟨i, hi, hh⟩) ⟨rfl, rfl, rfl⟩ (upd_ne _ _ (by omega))
 obtain ⟨H', g1, a1, s1⟩ := this
 exact ⟨_, _, _, H', g1, a1, s1⟩
end
def wsum (fs : List Flat) (i : Nat) : Nat := ((fs.take i).map fun x => x.args.length).sum
theorem wsum_succ {fs : List Flat} {i : Nat} {x : Flat} (h : fs[i]? = some x) : wsum fs (i + 1) = wsum fs i + x.args.length := by
 unfold wsum
 rw [take_succ_of h, List.map_append, List.sum_append]
 simp
theorem sum_take_le : ∀ (l : List Nat) (i : Nat), (l.take i).sum ≤ l.sum
 | [], i => by simp
 | x :: l, 0 => by simp
 | x :: l, i + 1 => by
  have := sum_take_le l i
  simp only [List.take_succ_cons, List.sum_cons]
  omega
theorem wsum_mono (fs : List Flat) {i j : Nat} (h : i ≤ j) : wsum fs i ≤ wsum fs j := by
 unfold wsum
 have e : fs.take i = (fs.take j).take i := by rw [List.take_take, Nat.min_eq_left h]
 rw [e, List.map_take]
 exact sum_take_le _ i
structure L2 (fs : List Flat) (nv : NV) (W0 i : Nat) (g : GS) (us : List Edge) : Prop where
 nodes : g.nodes = fs
 nvals : g.nvals = nv
 inv : GInv (wsum fs i) i g us []
 bd : Bd (fs.length * (W0 + 1) + i) W0 g us []
 allc : ∀ u ∈ us, u.cong = true
 stand : g.stand = []
 marks : g.marks = []
structure L2Q (fs : List Flat) (nv : NV) (i : Nat) (g : GS) (us l : List Edge) : Prop where
 nvals : g.nvals = nv
 inv : GInv (wsum fs (i + 1)) (i + 1) g us l
 allc : ∀ u ∈ us ++ l, u.cong = true
 stand : g.stand = []
 marks : g.marks = []
theorem L2Q.skip {fs : List Flat} {nv : NV} {i : Nat} {g : GS} {us l : List Edge} {e : Edge} (h : L2Q fs nv i g us (e :: l)) (he : fd g e.a = fd g e.b) : L2Q fs nv i g us l :=
 ⟨h.nvals, h.inv.skip he, fun u hu => h.allc u ((List.mem_append.1 hu).elim (fun hu => by simp [hu]) fun hu => by simp [hu]), h.stand, h.marks⟩
theorem L2Q.stepAB {fs : List Flat} {nv : NV} {i : Nat} {g : GS} {us l : List Edge} {e : Edge} (h : L2Q fs nv i g us (e :: l)) (hne : fd g e.a ≠ fd g e.b) {a b : Int} (he : Ends e a b) : L2Q fs nv i (afterG (linkG g a b e) (fd g a) (fd g b)).1 (us ++ [e]) (l ++ (afterG (linkG g a b e) (fd g a) (fd g b)).2) := by
 obtain ⟨e1, e2, _, _⟩ := after_alike g a b e
 refine ⟨(after_chg g a b e).2.2.2.trans h.nvals, h.inv.stepAB hne he, fun u hu => ?_, e1.trans h.stand, e2.trans h.marks⟩
 rcases List.mem_append.1 hu with hu | hu
 ·rcases List.mem_append.1 hu with hu | hu
  ·exact h.allc u (by simp [hu])
  ·simp at hu; exact h.allc u (by simp [hu])
 ·rcases List.mem_append.1 hu with hu | hu
  ·exact h.allc u (by simp [hu])
  ·exact step_cong h.inv hne he u hu
theorem L2Q.step {fs : List Flat} {nv : NV} {i : Nat} {g : GS} {us l : List Edge} {e : Edge} (h : L2Q fs nv i g us (e :: l)) (hne : fd g e.a ≠ fd g e.b) : L2Q fs nv i (mergeStep g e).1 (us ++ [e]) (l ++ (mergeStep g e).2) := by
 unfold mergeStep
 split
 ·exact h.stepAB hne (.inr ⟨rfl, rfl⟩)
 ·exact h.stepAB hne (.inl ⟨rfl, rfl⟩)
end Go.Proofs.YtnbakpoahcndpaaDoor
namespace Go.Proofs.YtnbakpoahcndpaaDoor
set_option linter.unusedVariables false
set_option linter.unusedSimpArgs false
open Wk
theorem sum_const (c : Nat) : ∀ l : List Nat, (l.map fun _ => c).sum = l.length * c
 | [] => by simp
 | x :: l => by
  have := sum_const c l
  simp only [List.map_cons, List.sum_cons, List.length_cons, Nat.succ_mul]
  omega
theorem idx_get {N : Nat} {x : Int} (hx : Vn N x) : (idx N).getD x.toNat (-1) = x ∧ (idx N).getD x.toNat 0 = x := by
 have h0 := hx.1
 have h1 := hx.2
 have : (idx N)[x.toNat]? = some x := by
  unfold idx
  rw [List.getElem?_map, List.getElem?_range (by omega)]
  simp only [Option.map_some]
  rw [toNat_cast h0]
 constructor <;> rw [List.getD_eq_getElem?_getD, this] <;> rfl
theorem start_inv {fs : List Flat} {nv : NV} {W0 : Nat} (hs : Sound fs) (few : fs.length ≤ 1048576) (h64 : ∀ x ∈ fs, I64 x.fn) : GInv (wsum fs 0) 0 (lay1 fs nv fs.length fs.length) [] [] := by
 have hN : (lay1 fs nv fs.length fs.length).nodes = fs := List.take_length
 have hf : ∀ x, Vn fs.length x → fd (lay1 fs nv fs.length fs.length) x = x := fun x hx => (idx_get hx).1
 have hu : ∀ x, usesAt (lay1 fs nv fs.length fs.length) x = [] := fun x => by
  show (List.replicate fs.length ([] : List Int)).getD x.toNat [] = []
  rw [List.getD_eq_getElem?_getD, List.getElem?_replicate]
  split <;> rfl
 have hwy : (lay1 fs nv fs.length fs.length).why = List.replicate fs.length nedge := by
  show List.replicate fs.length nedge ++ List.replicate (fs.length - fs.length) zedge = _
  rw [Nat.sub_self]
  simp
 refine ⟨by rw [hN]; exact few, by rw [hN]; show (List.replicate fs.length ([] : List Int)).length = _; simp, by rw [hN]; exact hs, by rw [hN]; exact h64, ⟨?_, ?_, ?_, ?_, ?_, ?_⟩, ?_, ?_, by simp, ?_, ?_, ?_, ?_, ?_, ?_, by simp, by simp⟩
 ·rw [hN]; exact idx_len _
 ·rw [hN]; exact idx_len _
 ·rw [hN]; exact List.length_replicate
 ·rw [hN]; exact idx_len _
 ·rw [hN]
  intro x hx
  rw [hf x hx, hf x hx]
  exact ⟨hx, rfl⟩
 ·rw [hN]
  intro r hr _
  have hring : ringAt (lay1 fs nv fs.length fs.length) r = r := (idx_get hr).2
  have hleast : leastAt (lay1 fs nv fs.length fs.length) r = r := (idx_get hr).2
  refine ⟨[r], ⟨[], rfl, by simp, hring, trivial⟩, fun y => ⟨fun hy => ?_, fun hy => ?_⟩, ?_, by rw [hleast]; simp, fun y hy => ?_⟩
  ·simp at hy; subst hy; exact ⟨hr, hf _ hr⟩
  ·rw [hf y hy.1] at hy; simp [hy.2]
  ·show (List.replicate fs.length (1 : Int)).getD r.toNat 0 = _
   rw [List.getD_eq_getElem?_getD, List.getElem?_replicate, if_pos (by have := hr.1; have := hr.2; omega)]
   rfl
  ·simp at hy; subst hy; rw [hleast]; exact Int.le_refl _
 ·rw [hN, hwy]
  refine Forest.start (by simp) (fun x hx => ?_) (fun x y hx hy q => by rw [hf x hx, hf y hy] at q; exact q)
  unfold edgeAt
  rw [List.getD_eq_getElem?_getD, List.getElem?_replicate, if_pos (by have := hx.1; have := hx.2; omega)]
  show (-1 : Int) < 0
  omega
 ·rw [hN]
  intro x y hx hy q
  rw [hf x hx, hf y hy] at q
  rw [q]
  exact .refl _
 ·intro x _ q hq
  rw [hu] at hq
  simp at hq
 ·intro p hp hlt
  exact absurd hp.1 (by omega)
 ·have : rsum (lay1 fs nv fs.length fs.length).nodes.length (fd (lay1 fs nv fs.length fs.length)) (fun i => (usesAt (lay1 fs nv fs.length fs.length) i).length) = 0 := by
   have e : (fun i : Nat => (usesAt (lay1 fs nv fs.length fs.length) i).length) = fun _ => 0 := funext fun i => by rw [hu]; rfl
   rw [e]
   unfold rsum
   have e2 : ((List.range (lay1 fs nv fs.length fs.length).nodes.length).map fun i : Nat => if fd (lay1 fs nv fs.length fs.length) (i : Int) = (i : Int) then 0 else 0) = (List.range (lay1 fs nv fs.length fs.length).nodes.length).map fun _ => 0 := List.map_congr_left fun i _ => by split <;> rfl
   rw [e2, sum_const]
   exact Nat.mul_zero _
  rw [this]
  exact Nat.zero_le _
 ·rw [hN]
  have : rsum fs.length (fd (lay1 fs nv fs.length fs.length)) (fun _ => 1) = fs.length := by
   unfold rsum
   have e2 : ((List.range fs.length).map fun i : Nat => if fd (lay1 fs nv fs.length fs.length) (i : Int) = (i : Int) then 1 else 0) = (List.range fs.length).map fun _ => 1 := List.map_congr_left fun i hi => if_pos (hf _ ⟨by omega, by have := List.mem_range.1 hi; omega⟩)
   rw [e2, sum_const, List.length_range, Nat.mul_one]
  rw [this]
  simp
 ·intro k q hq
  cases hq
 ·intro p hp hlt
  exact absurd hp.1 (by omega)
theorem GInv.chg {W m : Nat} {g : GS} {us : List Edge} (h : GInv W m g us []) (l : List Chg) : GInv W m { g with changes := l } us [] := by
 have ht : ∀ p, Vn g.nodes.length p → p < m → 0 ≤ (nodeAt g p).fn → ∃ q, aget g.sigs (sigOf g p) = some q ∧ Lk ({ g with changes := l } : GS) [] p q := fun p h1 h2 h3 => by
  obtain ⟨q, k1, k2⟩ := h.table p h1 h2 h3
  exact ⟨q, k1, Lk.mono (g := g) (g' := { g with changes := l }) (fun x y hx hy q => .same hx hy q) (fun f hf => by simp at hf) k2⟩
 exact ⟨h.few, h.luses, h.sound, h.fn64, h.cls.congr rfl rfl rfl rfl rfl, h.forest, h.conn1, h.conn2, h.uses0, h.uses1, h.wt, h.cnt, h.sigs, ht, h.just, h.pend⟩
section
variable {B0 : Nat} {w w' w0 : World} {p U : Addr} {M N : Nat} {A : Nat → Option Addr} {n c : Nat → Nat} {H : Nat → Prop} {g : GS}
theorem GInv.fit {W m : Nat} {us l : List Edge} (k : GInv W m g us l) : Fit g :=
 ⟨k.few, k.cls.lfirst, k.sound, k.fn64, fun x h0 h1 => (k.cls.root x ⟨h0, h1⟩).1, fun s q hq => (k.sigs s q hq).1⟩
theorem enter_next {fs : List Flat} {nv : NV} {W0 i : Nat} {us : List Edge} {x : Flat} {C : Option Addr} {k d : Nat} {wS : World} {HS : Nat → Prop} (h : GRep B0 w p U M N A n c H g) (L : L2 fs nv W0 i g us) (hN : fs.length = N) (hx : fs[i]? = some x) (happ : 0 ≤ x.fn) (hW : wsum fs fs.length ≤ W0) (hW0 : W0 ≤ 1048576) (hC : fs.length * (W0 + 2) + 1 ≤ 549755813888)
  (ev : (nv.vals.drop (i * 2)).take 2 = [.int .i64 x.fn, .slice C k d]) (hk : k = x.args.length) {J : World → Prop} (hJ : ∀ w' A' n' c' H' g' us', GRep B0 w' p U M N A' n' c' H' g' → L2 fs nv W0 (i + 1) g' us' → Adv H w H' w' → (∀ b, H b → H' b) → J w') :
  ∃ I3 : Nat → Int → World → Prop, (∃ k4, I3 k4 0 w) ∧ ∀ k4 (x8 : Int) (w146 : World), I3 k4 x8 w146 → ((x8 < (k : Int) → (0 ≤ x8 ∧ x8 < (k : Int) ∧ ∃ a4, C = some a4 ∧ ∃ x9 : Int, w146.cell? (a4.add (x8.toNat * 1)) = some (.int .i64 x9) ∧ Calls P F.euf_classes_find #[(.pointer (some (p.add 0))), (.int .i64 x9)] w146 (Wk.Ret fun v3 w147 => ∃ x10 : Int, v3 = (.int .i64 x10) ∧ ∃ X4 : Nat → Prop, ∃ A37 : Option Addr, ∃ n37 : Nat, ∃ c37 : Nat, w147.cell? (p.add 5) = some (.slice A37 n37 c37) ∧ ¬ X4 (p.add 5).block ∧ ∃ A38 : Option Addr, ∃ n38 : Nat, ∃ c38 : Nat, w147.cell? (p.add 5) = some (.slice A38 n38 c38) ∧ ¬ X4 (p.add 5).block ∧ 0 ≤ x10 ∧ x10 < (n38 : Int) ∧ ∃ a5, A38 = some a5 ∧ ∃ A39 : Option Addr, ∃ n39 : Nat, ∃ c39 : Nat, w147.cell? (a5.add (x10.toNat * 1)) = some (.slice A39 n39 c39) ∧ ¬ X4 (a5.add (x10.toNat * 1)).block ∧ ∀ w155, Wk.Drawn w147 w155 → ∀ (p21 : Addr) (w148 : World), Wk.New w155 (.cells #[(.int .i64 (i : Int))] T.int) p21 w148 → (∀ w154, Wk.Drawn w148 w154 → ∃ (A40 : Option Addr) (n40 c40 : Nat) (w149 : World), (Builtin.append_ #[T.sl_int, T.sl_int] T.sl_int #[(.slice A39 n39 c39), (.slice (some p21) 1 1)]).run P w154 = .ok (.slice A40 n40 c40) w149 ∧ (Wk.Keep X4 w147 w149 ∧ (0 ≤ x10 ∧ x10 < (n37 : Int) ∧ ∃ a6, A37 = some a6 ∧ ∀ w153, Wk.Drawn w149 w153 → (∃ u15, w153.cell? (a6.add (x10.toNat * 1)) = some u15) ∧ w153.frozen? (a6.add (x10.toNat * 1)) = false ∧ ∀ w150, w150 = w153.setCell (a6.add (x10.toNat * 1)) (.slice A40 n40 c40) → (∀ w151, Wk.Drawn w150 w151 → ((vc_euf_New_J4 k4 I3 x8) w151)))))))) ∧ (¬ (x8 < (k : Int)) → (Calls P F.euf_Graph_enter #[(.pointer (some p)), (.int .i64 (i : Int))] w146 (Wk.Ret fun v4 w156 => ∃ x11 : Int, ∃ b2 : Bool, v4 = (.tuple #[(.int .i64 x11), (.bool b2)]) ∧ ((!b2) = true → (Calls P F.euf_Graph_merge #[(.pointer (some p)), (.agg #[(.int .i64 0), (.bool true), (.int .i64 (i : Int)), (.int .i64 x11), (.int .i64 0)])] w156 (Wk.Ret fun v5 w157 => v5 = (.tuple #[]) ∧ J w157))) ∧ ((!b2) = false → J w156))))) := by
 have hiN := (List.getElem?_eq_some_iff.1 hx).1
 have hnx : nodeAt g (i : Int) = x := by
  unfold nodeAt
  rw [L.nodes, Int.toNat_natCast, List.getD_eq_getElem?_getD, hx]
  rfl
 have vi : Vn g.nodes.length (i : Int) := ⟨by omega, by rw [L.nodes]; omega⟩
 have few := L.inv.few
 rw [L.nodes] at few
 have hwi : wsum fs i + x.args.length ≤ W0 := by rw [← wsum_succ hx]; exact Nat.le_trans (wsum_mono fs hiN) hW
 have bd := L.bd
 have bchg := bd.chg
 have hargs : ∀ a ∈ x.args, Vn g.nodes.length a := fun a ha => sound_vn L.inv.sound vi (by rw [← nodeAt_eq, hnx]; exact ha)
 have hroot := L.inv.cls.root
 -- behind j arguments
 have mid : ∀ j, j ≤ x.args.length → ∀ a b : Nat, (withUses g (addU g.uses i ((x.args.take j).map (fd g)))).uses.length = N := fun j _ a b => by
  show (addU _ _ _).length = N
  rw [addU_len, L.inv.luses, L.nodes, hN]
 have few2 : ∀ j, j ≤ x.args.length → ∀ r, Vn g.nodes.length r → fd g r = r → (usesAt (withUses g (addU g.uses i ((x.args.take j).map (fd g)))) r).length + 1 ≤ 1099511627776 := by
  intro j hj r hr er
  have h1 := addU_wt (fd := fd g) (i : Int) ((x.args.take j).map (fd g)) g.uses L.inv.luses (fun s hs => by
   obtain ⟨a, ha, rfl⟩ := List.mem_map.1 hs
   exact (hroot a (hargs a (List.mem_of_mem_take ha))).1)
  have h2 := L.inv.wt
  have e' : (fun i : Nat => (usesAt g i).length) = fun x : Nat => (g.uses.getD x []).length := funext fun i => by unfold usesAt; rw [Int.toNat_natCast]
  rw [e'] at h2
  have r0 := hr.1
  have r1 := hr.2
  have h3 := rsum_ge (N := g.nodes.length) (fd := fd g) (f := fun z => ((addU g.uses i ((x.args.take j).map (fd g))).getD z []).length) (s := r.toNat) (by omega) (by rw [toNat_cast r0]; exact er)
  rw [List.length_map, List.length_take] at h1
  show ((addU g.uses i ((x.args.take j).map (fd g))).getD r.toNat []).length + 1 ≤ _
  omega
 refine ⟨fun k4 j w' => k4 = x.args.length - j.toNat ∧ 0 ≤ j ∧ j ≤ x.args.length ∧ ∃ A' n' c' H', GRep B0 w' p U M N A' n' c' H' (withUses g (addU g.uses i ((x.args.take j.toNat).map (fd g)))) ∧ Adv H w H' w' ∧ (∀ b, H b → H' b), ⟨_, rfl, by omega, by omega, A, n, c, H, h, Adv.refl _ _, fun _ h => h⟩, ?_⟩
 rintro k4 j w1 ⟨rfl, j0, j1, A1, n1, c1, H1, g1, adv1, sub1⟩
 refine ⟨fun hlt => ?_, fun hge => ?_⟩
 ·have hj : j.toNat < x.args.length := by omega
  obtain ⟨a, ha⟩ : ∃ a, x.args[j.toNat]? = some a := ⟨_, List.getElem?_eq_getElem hj⟩
  have hI := g1.nodeI (i := i) (x := x) (by show g.nodes[i]? = _; rw [L.nodes]; exact hx) (by show (g.nvals.vals.drop (i * 2)).take 2 = _; rw [L.nvals]; exact ev)
  obtain ⟨a', ad, ha', hA4, hc4⟩ := hI.int j0 hlt
  rw [ha] at ha'
  cases ha'
  have va := hargs a (List.mem_of_getElem? ha)
  obtain ⟨vr, er⟩ := hroot a va
  refine ⟨j0, hlt, ad, hA4, a, hc4, ?_⟩
  rw [add0]
  refine Quiet.use (find_is g1 va.1 (r := fd g a) (vn_some (d := -1) L.inv.cls.lfirst va)) fun w2 hw2 => ?_
  have g2 := g1.stay (Ext.of_drawn hw2)
  refine ⟨fd g a, rfl, ?_⟩
  refine use_is g2 vr.1 (by have := vr.1; have := vr.2; rw [L.nodes] at this; omega) (mid j.toNat (by omega) 0 0) (few2 j.toNat (by omega) _ vr er) ?_
  intro w3 A3 n3 c3 H3 g3 adv3 sub3
  refine ⟨x.args.length - (j.toNat + 1), by omega, ?_⟩
  rw [step_le (n := x.args.length) j0 (by omega) (by unfold Sm; have := hwi; omega)]
  refine ⟨by omega, by omega, by omega, A3, n3, c3, H3, ?_, adv1.trans ((Adv.of_drawn hw2).trans adv3), fun b hb => sub3 b (sub1 b hb)⟩
  have et : x.args.take (j + 1).toNat = x.args.take j.toNat ++ [a] := by rw [show (j + 1).toNat = j.toNat + 1 by omega, take_succ_of ha]
  rw [et, List.map_append, List.map_singleton, addU_snoc]
  exact g3
 ·have hj : j.toNat = x.args.length := by omega
  rw [hj, List.take_length] at g1
  have nx := L.inv.next (by rw [L.nodes]; exact hiN) (by rw [hnx]; exact happ)
  rw [hnx] at nx
  generalize hG : withUses g (addU g.uses i (x.args.map (fd g))) = G1 at *
  have e1 : G1.nodes = g.nodes := by rw [← hG]; rfl
  have e2 : fd G1 = fd g := by rw [← hG]; rfl
  have e3 : G1.sigs = g.sigs := by rw [← hG]; rfl
  have e4 : G1.changes = g.changes := by rw [← hG]; rfl
  have e5 : nodeAt G1 = nodeAt g := by rw [← hG]; rfl
  have e6 : G1.nvals = g.nvals := by rw [← hG]; rfl
  have e7 : G1.stand = g.stand ∧ G1.marks = g.marks := by rw [← hG]; exact ⟨rfl, rfl⟩
  have eS : sigOf G1 i = sigOf g i := by unfold sigOf; rw [e5, e2]
  have fit : Fit G1 := by
   have := L.inv.fit
   exact ⟨by rw [e1]; exact this.few, by rw [← hG]; exact this.lfirst, by rw [e1]; exact this.sound, by rw [e1]; exact this.fn64, by rw [e1, e2]; exact this.rng, by rw [e1, e3]; exact this.sigs⟩
  have hsig := sig_of_is g1 fit (i := (i : Int)) (by omega) (by rw [e1]; exact vi.2)
  refine (enter_is g1 hsig (by rw [e4]; have := bd.few; omega)).mono ?_
  rintro _ w2 ⟨_, rfl, rfl, A7, n7, c7, H2, g2, adv2, sub2, _⟩
  rw [eS] at g2
  have A_ := enterG_alike G1 (sigOf g i) i
  have hch2 : (enterG G1 (sigOf g i) i).changes.length ≤ g.changes.length + 1 := by unfold enterG; split <;> simp [e4]
  have eN2 : (enterG G1 (sigOf g i) i).nodes = fs := A_.nodes.trans (e1.trans L.nodes)
  rw [← wsum_succ hx] at nx
  have bN := bd.chg
  rw [L.nodes] at bN
  have bd2 : ∀ e : Edge, Bd (fs.length * (W0 + 1) + (i + 1)) W0 (enterG G1 (sigOf g i) i) us [] ∧ Bd (fs.length * (W0 + 1) + (i + 1)) W0 (enterG G1 (sigOf g i) i) us [e] := by
   intro e
   have hm : (fs.length - us.length) * (W0 + 1) ≤ fs.length * (W0 + 1) := Nat.mul_le_mul_right _ (by omega)
   have hf : fs.length * (W0 + 1) + (i + 1) ≤ 549755813888 := by
    have : fs.length * (W0 + 2) = fs.length * (W0 + 1) + fs.length := by rw [show W0 + 2 = (W0 + 1) + 1 by omega, Nat.mul_succ]
    omega
   refine ⟨⟨by rw [eN2]; omega, by rw [eN2]; simp only [List.length_nil]; omega, hf, hW0⟩, ⟨by rw [eN2]; omega, by rw [eN2]; simp only [List.length_singleton]; omega, hf, hW0⟩⟩
  rw [eS, e3]
  cases hq : aget g.sigs (sigOf g i) with
  | none =>
   rw [hq] at nx
   refine ⟨_, rfl, _, _, rfl, fun q => (by cases q), fun _ => ?_⟩
   exact hJ w2 _ _ _ H2 _ us g2 ⟨eN2, A_.nvals.trans (e6.trans L.nvals), nx, (bd2 zedge).1, L.allc, A_.stand.trans (e7.1.trans L.stand), A_.marks.trans (e7.2.trans L.marks)⟩ (adv1.trans adv2) (fun b hb => sub2 b (sub1 b hb))
  | some q =>
   rw [hq] at nx
   refine ⟨_, rfl, _, _, rfl, fun _ => ?_, fun q => (by cases q)⟩
   refine (merge_is (e := ⟨0, true, i, q, 0⟩) (C := fs.length * (W0 + 1) + (i + 1)) (W := W0) (mm := i + 1) (us := us) (Q := L2Q fs nv i) g2 (by rw [eN2, hN]) (nx.up (Nat.le_trans (wsum_mono fs hiN) hW)) (bd2 _).2 ⟨A_.nvals.trans (e6.trans L.nvals), nx, fun u hu => ?_, A_.stand.trans (e7.1.trans L.stand), A_.marks.trans (e7.2.trans L.marks)⟩ (fun g us e l _ q he => q.skip he) (fun g us e l _ q hne => q.step hne)).mono ?_
   ·rcases List.mem_append.1 hu with hu | hu
    ·exact L.allc u hu
    ·simp at hu; rw [hu]
   ·rintro _ w5 ⟨_, rfl, rfl, A5, n5, c5, H5, g5, us5, r5, i5, b5, q5, n5', adv5, sub5, _⟩
    exact ⟨_, rfl, rfl, hJ w5 A5 n5 c5 H5 g5 us5 r5 ⟨n5'.trans eN2, q5.nvals, q5.inv, b5, fun u hu => q5.allc u (by simp [hu]), q5.stand, q5.marks⟩ ((adv1.trans adv2).trans adv5) (fun b hb => sub5 b (sub2 b (sub1 b hb)))⟩
end
end Go.Proofs.YtnbakpoahcndpaaDoor
namespace Go.Proofs.YtnbakpoahcndpaaDoor
set_option linter.unusedVariables false
set_option linter.unusedSimpArgs false
open Wk
theorem info_zero {P : Program} {e : TypeId} {z : Value} (h : (P.info? e).bind (·.zero) = some z) : ∃ i, P.info? e = some i ∧ i.zero = some z := Option.bind_eq_some_iff.1 h
theorem make_uses {w : World} {N : Nat} (hN : N ≤ 1048576) : ∃ w', (Instr.makeSlice T.sl_sl_int (.int .i64 (N : Int)) (.int .i64 (N : Int))).run P w = .ok (.slice (some ⟨w.heap.size, 0, none⟩) N N) w' ∧ Own w' w.heap.size T.sl_int 1 (some ⟨w.heap.size, 0, none⟩) N N (List.replicate N (.slice none 0 0)) ∧ Ext w w' := by
 obtain ⟨w', vs, h1, h2, h3, h4⟩ := make_row (P := P) (w := w) (t := T.sl_sl_int) (e := T.sl_int) (s := 1) (by_ := 24) (n := N) (by kernel_rfl) (by kernel_rfl) (by omega) (by omega)
 obtain ⟨i, hi, hz⟩ := info_zero (P := P) (e := T.sl_int) (z := .slice none 0 0) (by kernel_rfl)
 have := h4 i hi _ hz
 rw [Nat.mul_one] at this
 have e : (Value.slice none 0 0).cells = #[.slice none 0 0] := by rfl
 rw [e, toList_madeCells_one] at this
 rw [this] at h2
 exact ⟨w', h1, h2, h3⟩
theorem make_why {w : World} {N : Nat} (hN : N ≤ 1048576) : ∃ w', (Instr.makeSlice T.sl_euf_edge (.int .i64 (N : Int)) (.int .i64 (N : Int))).run P w = .ok (.slice (some ⟨w.heap.size, 0, none⟩) N N) w' ∧ Own w' w.heap.size T.euf_edge 5 (some ⟨w.heap.size, 0, none⟩) N N ((List.replicate N zedge).flatMap Edge.vals) ∧ Ext w w' := by
 obtain ⟨w', vs, h1, h2, h3, h4⟩ := make_row (P := P) (w := w) (t := T.sl_euf_edge) (e := T.euf_edge) (s := 5) (by_ := 40) (n := N) (by kernel_rfl) (by kernel_rfl) (by omega) (by omega)
 obtain ⟨i, hi, hz⟩ := info_zero (P := P) (e := T.euf_edge) (z := .agg zedge.vals.toArray) (by kernel_rfl)
 have := h4 i hi _ hz
 have e : (Value.agg zedge.vals.toArray).cells = zedge.vals.toArray := by rfl
 rw [e, made_edges] at this
 rw [this] at h2
 exact ⟨w', h1, h2, h3⟩
structure Laid (w1 w7 : World) (p U Y : Addr) (m N : Nat) : Prop where
 hp : CellsAt w7 p [.slice none 0 0, .slice none 0 0, .slice none 0 0, .slice none 0 0, .slice none 0 0, .slice (some U) N N, .map (some m), .slice (some Y) N N, .slice none 0 0, .slice none 0 0, .slice none 0 0]
 sp : Soft w7 p 11
 hU : Own w7 w1.heap.size T.sl_int 1 (some U) N N (List.replicate N (.slice none 0 0))
 hY : Own w7 w1.heap.size T.euf_edge 5 (some Y) N N ((List.replicate N zedge).flatMap Edge.vals)
 hm : MapIs Value.string iv w7 m ([] : List (ByteArray × Int))
 ext : Ext w1 w7
 pB : w1.heap.size ≤ p.block
 mB : w1.heap.size ≤ m
 pl : p.block < w7.heap.size
 d1 : p.block ≠ U.block
 d2 : p.block ≠ Y.block
 d3 : p.block ≠ m
 d4 : U.block ≠ Y.block
 d5 : U.block ≠ m
 d6 : Y.block ≠ m
theorem Laid.of {w1 wm wm' wu wu' wy wy' wp wp' w7 : World} {p : Addr} {m N : Nat} (E1 : Ext w1 wm) (hm : NewM wm m wm') (E2 : Ext wm' w7) (E3 : Ext w1 wu) (hu : Own wu' wu.heap.size T.sl_int 1 (some ⟨wu.heap.size, 0, none⟩) N N (List.replicate N (.slice none 0 0))) (E4 : Ext wu' w7) (E5 : Ext w1 wy) (hy : Own wy' wy.heap.size T.euf_edge 5 (some ⟨wy.heap.size, 0, none⟩) N N ((List.replicate N zedge).flatMap Edge.vals)) (E6 : Ext wy' w7)
  (E7 : Ext w1 wp) (hp : New wp (.cells #[.slice none 0 0, .slice none 0 0, .slice none 0 0, .slice none 0 0, .slice none 0 0, .slice (some ⟨wu.heap.size, 0, none⟩) N N, .map (some m), .slice (some ⟨wy.heap.size, 0, none⟩) N N, .slice none 0 0, .slice none 0 0, .slice none 0 0] T.euf_Graph) p wp') (E8 : Ext wp' w7)
  (d1 : wp.heap.size ≠ wu.heap.size) (d2 : wp.heap.size ≠ wy.heap.size) (d3 : wp.heap.size ≠ wm.heap.size) (d4 : wu.heap.size ≠ wy.heap.size) (d5 : wu.heap.size ≠ wm.heap.size) (d6 : wy.heap.size ≠ wm.heap.size) (E : Ext w1 w7) :
  Laid w1 w7 p ⟨wu.heap.size, 0, none⟩ ⟨wy.heap.size, 0, none⟩ m N := by
 have bp := hp.block
 have bm := hm.at_
 have sp := hp.size
 have s8 := E8.size
 exact ⟨E8.cells (hp.cells rfl), E8.soft (hp.soft rfl) (fun h => h), (hu.keep E4 (fun _ _ h => h)).rebase E3.size, (hy.keep E6 (fun _ _ h => h)).rebase E5.size, (MapIs.new hm).keep E2 (fun h => h), E, by rw [bp]; exact E7.size, by rw [bm]; exact E1.size, by omega, by rw [bp]; exact d1, by rw [bp]; exact d2, by rw [bp, bm]; exact d3, d4, by rw [bm]; exact d5, by rw [bm]; exact d6⟩
theorem L2.next0 {fs : List Flat} {nv : NV} {W0 i : Nat} {g : GS} {us : List Edge} {x : Flat} (L : L2 fs nv W0 i g us) (hx : fs[i]? = some x) (h : ¬ 0 ≤ x.fn) (hC : fs.length * (W0 + 2) + 1 ≤ 549755813888) : L2 fs nv W0 (i + 1) g us := by
 have hi := (List.getElem?_eq_some_iff.1 hx).1
 have hnx : nodeAt g (i : Int) = x := by
  unfold nodeAt
  rw [L.nodes, Int.toNat_natCast, List.getD_eq_getElem?_getD, hx]
  rfl
 have hf : fs.length * (W0 + 1) + (i + 1) ≤ 549755813888 := by
  have : fs.length * (W0 + 2) = fs.length * (W0 + 1) + fs.length := by rw [show W0 + 2 = (W0 + 1) + 1 by omega, Nat.mul_succ]
  omega
 have b1 := L.bd.chg
 have b2 := L.bd.work
 exact ⟨L.nodes, L.nvals, (L.inv.next0 (by rw [hnx]; exact h)).up (wsum_mono fs (by omega)), ⟨by omega, by omega, hf, L.bd.wfew⟩, L.allc, L.stand, L.marks⟩
section
variable {B0 : Nat}
theorem L2.live {fs : List Flat} {nv : NV} {W0 : Nat} {g : GS} {us : List Edge} (L : L2 fs nv W0 fs.length g us) (hW : wsum fs fs.length ≤ W0) (hC : fs.length * (W0 + 2) + 1 ≤ 549755813888) : GLive (fs.length * (W0 + 2) + 1) W0 { g with changes := [] } us := by
 have e : fs.length * (W0 + 2) = fs.length * (W0 + 1) + fs.length := by rw [show W0 + 2 = (W0 + 1) + 1 by omega, Nat.mul_succ]
 have hm : (fs.length - us.length) * (W0 + 1) ≤ fs.length * (W0 + 1) := Nat.mul_le_mul_right _ (by omega)
 have hn := L.nodes
 refine ⟨?_, ⟨?_, ?_, hC, L.bd.wfew⟩, ⟨?_, ?_, ?_⟩, ?_, ?_⟩
 ·show GInv W0 g.nodes.length _ us []
  have el : g.nodes.length = fs.length := by rw [hn]
  rw [el]
  exact (L.inv.up hW).chg []
 ·show 0 + (g.nodes.length - us.length) * (W0 + 1) ≤ _
  rw [hn]; omega
 ·show 0 + (g.nodes.length - us.length) * (W0 + 1) ≤ _
  rw [hn]; omega
 ·show ∀ s ∈ g.stand, _
  rw [L.stand]; simp
 ·show ∀ s ∈ g.stand, _
  rw [L.stand]; simp
 ·intro u hu hc
  rw [L.allc u hu] at hc
  cases hc
 ·show Chain _ _ _ us g.stand g.marks
  rw [L.marks]
  exact .base _ _ _
 ·show g.nodes.length * (W0 + 1) + 1 ≤ _
  rw [hn]; omega
theorem new_is {w : World} {A1 : Option Addr} {c1 : Nat} {fs : List Flat} {W0 : Nat} (hx : ∀ w', Ext w w' → Sl cFlat w' A1 fs.length fs) (hB : B0 ≤ w.heap.size) (tab : Tab10 B0 w) (few : fs.length ≤ 1048576) (h64 : ∀ x ∈ fs, I64 x.fn) (hW : wsum fs fs.length ≤ W0) (hW0 : W0 ≤ 1048576) (hC : fs.length * (W0 + 2) + 1 ≤ 549755813888) :
  Calls P F.euf_New #[.slice A1 fs.length c1] w (Ret fun v w' => (¬ Sound fs ∧ v = .tuple #[.pointer none, .int .i64 80] ∧ Ext w w') ∨ (Sound fs ∧ ∃ p U M H g us, v = .tuple #[.pointer (some p), .int .i64 0] ∧ Gr (fs.length * (W0 + 2) + 1) W0 B0 w' p U M fs.length H g us ∧ g.nodes = fs ∧ g.stand = [] ∧ g.marks = [] ∧ Adv (fun _ => False) w H w')) := by
 refine Ret.mono (ok_euf_New A1 fs.length c1 (fun q e w' => (¬ Sound fs ∧ q = none ∧ e = 80 ∧ Ext w w') ∨ (Sound fs ∧ ∃ p U M H g us, q = some p ∧ e = 0 ∧ Gr (fs.length * (W0 + 2) + 1) W0 B0 w' p U M fs.length H g us ∧ g.nodes = fs ∧ g.stand = [] ∧ g.marks = [] ∧ Adv (fun _ => False) w H w')) w ?_) (by
  rintro _ w' ⟨q, e, rfl, h⟩
  rcases h with ⟨h1, rfl, rfl, h2⟩ | ⟨h1, p, U, M, H, g, us, rfl, rfl, h2⟩
  ·exact .inl ⟨h1, rfl, h2⟩
  ·exact .inr ⟨h1, p, U, M, H, g, us, rfl, h2⟩)
 generalize hKd : (fun (q : Option Addr) (e : Int) w' => (¬ Sound fs ∧ q = none ∧ e = 80 ∧ Ext w w') ∨ (Sound fs ∧ ∃ p U M H g us, q = some p ∧ e = 0 ∧ Gr (fs.length * (W0 + 2) + 1) W0 B0 w' p U M fs.length H g us ∧ g.nodes = fs ∧ g.stand = [] ∧ g.marks = [] ∧ Adv (fun _ => False) w H w')) = K
 have smN : Sm fs.length := by unfold Sm; omega
 unfold vc_euf_New
 refine (euf_sound_is c1 (hx w (Ext.refl w)) smN).mono ?_
 rintro _ w1 ⟨_, rfl, b, rfl, hb, E1⟩
 refine ⟨_, rfl, b, rfl, fun hn => ?_, fun hn => ?_⟩
 ·rw [← hKd]
  exact .inl ⟨fun hs => (by rw [hb.2 hs] at hn; cases hn), rfl, rfl, E1⟩
 have hsound : Sound fs := hb.1 (by cases b <;> simp at hn ⊢)
 have tab1 : Tab10 B0 w1 := tab_keep tab E1 hB (fun _ _ h => h.elim)
 have main : ∀ w7 p U Y m, Laid w1 w7 p U Y m fs.length → vc_euf_New_J6 fs.length A1 K p w7 := by
  intro w7 p U Y m La
  have hB1 : B0 ≤ w1.heap.size := Nat.le_trans hB E1.size
  have tab7 : Tab10 B0 w7 := tab_keep tab1 La.ext hB1 (fun _ _ h => h.elim)
  have g0 := start_is La.hp La.sp La.hU La.hY La.hm hB1 La.pB La.mB La.pl La.d1 La.d2 La.d3 La.d4 La.d5 La.d6 tab7
  have lU := La.hU.lt_
  have lY := La.hY.lt_
  have pB := La.pB
  have mB := La.mB
  have sz1 := E1.size
  have adv0 : Adv (fun _ => False) w (fun b => b = p.block ∨ b = U.block ∨ b = Y.block ∨ b = m) w7 := ⟨E1.trans La.ext, fun i hi hh => by rcases hh with rfl | rfl | rfl | rfl <;> omega⟩
  have e0 : g00 fs.length = lay1 fs ⟨none, []⟩ fs.length 0 := by
   unfold g00 lay1
   simp [idx]
  rw [e0] at g0
  refine ⟨fun k i w' => k = fs.length - i.toNat ∧ 0 ≤ i ∧ i ≤ fs.length ∧ ∃ A n c H nv, GRep B0 w' p U m fs.length A n c H (lay1 fs nv fs.length i.toNat) ∧ Adv (fun _ => False) w H w', ⟨_, rfl, by omega, by omega, _, _, _, _, _, g0, adv0⟩, ?_⟩
  rintro k1 i w2 ⟨rfl, i0, i1, A, n, c, H, nv, gi, advi⟩
  refine ⟨fun hlt => ?_, fun hge => ?_⟩
  ·obtain ⟨x, ad, C, k, d, hxi, hA, hcell, hk, hI⟩ := (hx w2 advi.keep).flat i0 hlt
   refine ⟨i0, hlt, ad, hA, _, _, _, _, hcell, fun p8 w3 hN3 => ?_⟩
   obtain ⟨g3, adv3, q3⟩ := Loc.new gi hN3 (us := [.int .i64 0, .slice none 0 0]) rfl
   refine ⟨q3.soft, fun w4 hw4 => ?_⟩
   obtain ⟨g4, adv4, q4, kp4⟩ := q3.set g3 (vs := [.int .i64 x.fn, .slice C k d]) rfl hw4
   have E24 : Ext w2 w4 := (Ext.of_new hN3).over kp4 (fun i hi hh => by rw [hN3.block] at hh; omega)
   have hi' : i.toNat < fs.length := by omega
   obtain ⟨X1, A13, n13, c13, r1, r2, r3, rfl⟩ := lay_step (k1 := fs.length - i.toNat) (I1 := fun k i w' => k = fs.length - i.toNat ∧ 0 ≤ i ∧ i ≤ fs.length ∧ ∃ A n c H nv, GRep B0 w' p U m fs.length A n c H (lay1 fs nv fs.length i.toNat) ∧ Adv (fun _ => False) w H w') (d := d) g4 hi' smN hxi (hI.ext E24) hk rfl (fun w' A' n' c' H' nv' g' adv' _ => by
    refine ⟨fs.length - (i.toNat + 1), by omega, ?_⟩
    rw [toNat_cast i0, step_le (n := fs.length) i0 hlt smN]
    refine ⟨by omega, by omega, by omega, A', n', c', H', nv', ?_, advi.trans (adv3.trans (adv4.trans adv'))⟩
    rw [show (i + 1).toNat = i.toNat + 1 by omega]
    exact g')
   rw [toNat_cast i0] at r3
   exact ⟨_, A13, n13, c13, r1, r2, x.fn, q4.cells 0 _ rfl, fun h => h, C, k, d, q4.cells 1 _ rfl, r3⟩
  ·have hi : i.toNat = fs.length := by omega
   rw [hi] at gi
   have e4 := gi.n4
   rw [show (lay1 fs nv fs.length fs.length).nodes = fs from List.take_length] at e4
   refine ⟨A 4, n 4, c 4, gi.cell (show 4 < 9 by omega), ?_⟩
   rw [← e4]
   have hf : fs.length * (W0 + 1) ≤ 549755813888 := by
    have : fs.length * (W0 + 2) = fs.length * (W0 + 1) + fs.length := by rw [show W0 + 2 = (W0 + 1) + 1 by omega, Nat.mul_succ]
    omega
   have L0 : L2 fs nv W0 0 (lay1 fs nv fs.length fs.length) [] := ⟨List.take_length, rfl, start_inv (W0 := W0) hsound few h64, ⟨by
     show 0 + ((fs.take fs.length).length - 0) * (W0 + 1) ≤ _
     rw [List.take_length, Nat.sub_zero]; omega, by
     show 0 + ((fs.take fs.length).length - 0) * (W0 + 1) ≤ _
     rw [List.take_length, Nat.sub_zero]; omega, by omega, hW0⟩, by simp, rfl, rfl⟩
   refine ⟨fun k i w' => k = fs.length - i.toNat ∧ 0 ≤ i ∧ i ≤ fs.length ∧ ∃ A n c H g us, GRep B0 w' p U m fs.length A n c H g ∧ L2 fs nv W0 i.toNat g us ∧ Adv (fun _ => False) w H w', ⟨_, rfl, by omega, by omega, A, n, c, H, _, [], gi, L0, advi⟩, ?_⟩
   have hA4 : A 4 = nv.adr := gi.nad
   rintro k3 i w3 ⟨rfl, i0, i1, A3, n3, c3, H3, g, us, g3, L, adv3⟩
   refine ⟨fun hlt => ?_, fun hge => ?_⟩
   ·have hi' : i.toNat < fs.length := by omega
    obtain ⟨x, hxi⟩ : ∃ x, fs[i.toNat]? = some x := ⟨_, List.getElem?_eq_getElem hi'⟩
    obtain ⟨a, C, k, d, ha, ev, hcell, hk, hkl⟩ := g3.nodeC (i := i.toNat) (x := x) (by rw [L.nodes]; exact hxi)
    rw [L.nvals] at ha ev
    refine ⟨i0, hlt, a, by rw [hA4]; exact ha, _, _, _, _, hcell, fun p20 w4 hN4 => ?_⟩
    obtain ⟨g4, adv4, q4⟩ := Loc.new g3 hN4 (us := [.int .i64 0, .slice none 0 0]) rfl
    refine ⟨q4.soft, fun w5 hw5 => ?_⟩
    obtain ⟨g5, adv5, q5, _⟩ := q4.set g4 (vs := [.int .i64 x.fn, .slice C k d]) rfl hw5
    have next : ∀ w' A' n' c' H' g' us', GRep B0 w' p U m fs.length A' n' c' H' g' → L2 fs nv W0 (i.toNat + 1) g' us' → Adv (fun _ => False) w H' w' → vc_euf_New_J5 (fs.length - i.toNat) (fun k i w' => k = fs.length - i.toNat ∧ 0 ≤ i ∧ i ≤ fs.length ∧ ∃ A n c H g us, GRep B0 w' p U m fs.length A n c H g ∧ L2 fs nv W0 i.toNat g us ∧ Adv (fun _ => False) w H w') i w' := by
     intro w' A' n' c' H' g' us' h1 h2 h3
     refine ⟨fs.length - (i.toNat + 1), by omega, ?_⟩
     rw [step_le (n := fs.length) i0 hlt smN]
     exact ⟨by omega, by omega, by omega, A', n', c', H', g', us', h1, by rw [show (i + 1).toNat = i.toNat + 1 by omega]; exact h2, h3⟩
    refine ⟨x.fn, q5.cells 0 _ rfl, fun hneg => next w5 A3 n3 c3 _ g us g5 (L.next0 hxi (by omega) hC) (adv3.trans (adv4.trans adv5)), fun hpos => ⟨C, k, d, q5.cells 1 _ rfl, ?_⟩⟩
    have key := enter_next (d := d) (i := i.toNat) g5 L rfl hxi (by omega) hW hW0 hC ev hkl (J := vc_euf_New_J5 (fs.length - i.toNat) (fun k i w' => k = fs.length - i.toNat ∧ 0 ≤ i ∧ i ≤ fs.length ∧ ∃ A n c H g us, GRep B0 w' p U m fs.length A n c H g ∧ L2 fs nv W0 i.toNat g us ∧ Adv (fun _ => False) w H w') i) (wS := w) (HS := H) (fun w' A' n' c' H' g' us' h1 h2 h3 _ => next w' A' n' c' H' g' us' h1 h2 (adv3.trans (adv4.trans (adv5.trans h3))))
    rw [toNat_cast i0] at key
    exact key
   ·have hi : i.toNat = fs.length := by omega
    rw [hi] at L
    have c9 := g3.cell (show 7 < 9 by omega)
    refine ⟨⟨_, c9⟩, g3.fam.froz 7 (show 7 < 9 + fs.length by omega), fun w4 hw4 => ?_⟩
    obtain ⟨A5, n5, c5, H5, g5, adv5, _⟩ := g3.clear hw4
    rw [← hKd]
    exact .inr ⟨hsound, p, U, m, H5, _, us, rfl, rfl, ⟨⟨A5, n5, c5, g5⟩, L.live hW hC, by show g.nodes.length = _; rw [L.nodes]⟩, L.nodes, L.stand, L.marks, adv3.trans adv5⟩
 have dsz : ∀ {a b : World}, Drawn a b → b.heap.size = a.heap.size := fun h => by rw [h.heap]
 have msz : ∀ {a b : World} {m : Nat}, NewM a m b → b.heap.size = a.heap.size + 1 := fun h => by rw [h.is]; simp
 have D := fun {a b : World} (h : Drawn a b) => Ext.of_drawn h
 have EM := fun {a b : World} {m : Nat} (h : NewM a m b) => (Ext.refl a).newm h
 refine ⟨fun v0 hv0 m1 v1 hM => ⟨fun v2 hv2 => ?_, fun v2 hv2 => ?_⟩, fun v0 hv0 => ?_, fun v0 hv0 => ?_⟩
 ·obtain ⟨v3, r1, o1, e1⟩ := make_uses (w := v2) few
  refine ⟨_, _, _, v3, r1, fun v4 hv4 => ?_⟩
  obtain ⟨v5, r2, o2, e2⟩ := make_why (w := v4) few
  refine ⟨_, _, _, v5, r2, fun v6 hv6 p1 v7 hN v8 hv8 => ?_⟩
  have x6 := ((D hv6).new hN).drawn hv8
  have x5 := (e2).trans x6
  have x4 := (D hv4).trans x5
  have x3 := (e1).trans x4
  have x2 := (D hv2).trans x3
  have x1 := (EM hM).trans x2
  have x0 := (D hv0).trans x1
  have b0 := D hv0
  have b1 := b0.trans (EM hM)
  have b2 := b1.trans (D hv2)
  have b3 := b2.trans (e1)
  have b4 := b3.trans (D hv4)
  have b5 := b4.trans (e2)
  have b6 := b5.trans (D hv6)
  have y0 := dsz hv0
  have y2 := dsz hv2
  have y4 := dsz hv4
  have y6 := dsz hv6
  have z0 := msz hM
  have z1 := o1.lt_
  have z2 := o2.lt_
  refine main _ _ _ _ _ (Laid.of b0 hM x2 b2 o1 x4 b4 o2 x6 b6 hN (D hv8) ?_ ?_ ?_ ?_ ?_ ?_ x0) <;> simp only at z1 z2 <;> omega
 ·obtain ⟨v3, r1, o1, e1⟩ := make_why (w := v2) few
  refine ⟨_, _, _, v3, r1, fun v4 hv4 => ?_⟩
  obtain ⟨v5, r2, o2, e2⟩ := make_uses (w := v4) few
  refine ⟨_, _, _, v5, r2, fun v6 hv6 p1 v7 hN v8 hv8 => ?_⟩
  have x6 := ((D hv6).new hN).drawn hv8
  have x5 := (e2).trans x6
  have x4 := (D hv4).trans x5
  have x3 := (e1).trans x4
  have x2 := (D hv2).trans x3
  have x1 := (EM hM).trans x2
  have x0 := (D hv0).trans x1
  have b0 := D hv0
  have b1 := b0.trans (EM hM)
  have b2 := b1.trans (D hv2)
  have b3 := b2.trans (e1)
  have b4 := b3.trans (D hv4)
  have b5 := b4.trans (e2)
  have b6 := b5.trans (D hv6)
  have y0 := dsz hv0
  have y2 := dsz hv2
  have y4 := dsz hv4
  have y6 := dsz hv6
  have z0 := msz hM
  have z1 := o1.lt_
  have z2 := o2.lt_
  refine main _ _ _ _ _ (Laid.of b0 hM x2 b4 o2 x6 b2 o1 x4 b6 hN (D hv8) ?_ ?_ ?_ ?_ ?_ ?_ x0) <;> simp only at z1 z2 <;> omega
 ·obtain ⟨v1, r0, o0, e0⟩ := make_uses (w := v0) few
  refine ⟨_, _, _, v1, r0, fun v2 hv2 => ?_, fun v2 hv2 => ?_⟩
  ·intro m1 v3 hM v4 hv4
   obtain ⟨v5, r2, o2, e2⟩ := make_why (w := v4) few
   refine ⟨_, _, _, v5, r2, fun v6 hv6 p1 v7 hN v8 hv8 => ?_⟩
   have x6 := ((D hv6).new hN).drawn hv8
   have x5 := (e2).trans x6
   have x4 := (D hv4).trans x5
   have x3 := (EM hM).trans x4
   have x2 := (D hv2).trans x3
   have x1 := (e0).trans x2
   have x0 := (D hv0).trans x1
   have b0 := D hv0
   have b1 := b0.trans (e0)
   have b2 := b1.trans (D hv2)
   have b3 := b2.trans (EM hM)
   have b4 := b3.trans (D hv4)
   have b5 := b4.trans (e2)
   have b6 := b5.trans (D hv6)
   have y0 := dsz hv0
   have y2 := dsz hv2
   have y4 := dsz hv4
   have y6 := dsz hv6
   have z0 := o0.lt_
   have z1 := msz hM
   have z2 := o2.lt_
   refine main _ _ _ _ _ (Laid.of b2 hM x4 b0 o0 x2 b4 o2 x6 b6 hN (D hv8) ?_ ?_ ?_ ?_ ?_ ?_ x0) <;> simp only at z0 z2 <;> omega
  ·obtain ⟨v3, r1, o1, e1⟩ := make_why (w := v2) few
   refine ⟨_, _, _, v3, r1, fun v4 hv4 => ?_⟩
   intro m1 v5 hM v6 hv6
   intro p1 v7 hN v8 hv8
   have x6 := ((D hv6).new hN).drawn hv8
   have x5 := (EM hM).trans x6
   have x4 := (D hv4).trans x5
   have x3 := (e1).trans x4
   have x2 := (D hv2).trans x3
   have x1 := (e0).trans x2
   have x0 := (D hv0).trans x1
   have b0 := D hv0
   have b1 := b0.trans (e0)
   have b2 := b1.trans (D hv2)
   have b3 := b2.trans (e1)
   have b4 := b3.trans (D hv4)
   have b5 := b4.trans (EM hM)
   have b6 := b5.trans (D hv6)
   have y0 := dsz hv0
   have y2 := dsz hv2
   have y4 := dsz hv4
   have y6 := dsz hv6
   have z0 := o0.lt_
   have z1 := o1.lt_
   have z2 := msz hM
   refine main _ _ _ _ _ (Laid.of b4 hM x6 b0 o0 x2 b2 o1 x4 b6 hN (D hv8) ?_ ?_ ?_ ?_ ?_ ?_ x0) <;> simp only at z0 z1 <;> omega
 ·obtain ⟨v1, r0, o0, e0⟩ := make_why (w := v0) few
  refine ⟨_, _, _, v1, r0, fun v2 hv2 => ?_, fun v2 hv2 => ?_⟩
  ·intro m1 v3 hM v4 hv4
   obtain ⟨v5, r2, o2, e2⟩ := make_uses (w := v4) few
   refine ⟨_, _, _, v5, r2, fun v6 hv6 p1 v7 hN v8 hv8 => ?_⟩
   have x6 := ((D hv6).new hN).drawn hv8
   have x5 := (e2).trans x6
   have x4 := (D hv4).trans x5
   have x3 := (EM hM).trans x4
   have x2 := (D hv2).trans x3
   have x1 := (e0).trans x2
   have x0 := (D hv0).trans x1
   have b0 := D hv0
   have b1 := b0.trans (e0)
   have b2 := b1.trans (D hv2)
   have b3 := b2.trans (EM hM)
   have b4 := b3.trans (D hv4)
   have b5 := b4.trans (e2)
   have b6 := b5.trans (D hv6)
   have y0 := dsz hv0
   have y2 := dsz hv2
   have y4 := dsz hv4
   have y6 := dsz hv6
   have z0 := o0.lt_
   have z1 := msz hM
   have z2 := o2.lt_
   refine main _ _ _ _ _ (Laid.of b2 hM x4 b4 o2 x6 b0 o0 x2 b6 hN (D hv8) ?_ ?_ ?_ ?_ ?_ ?_ x0) <;> simp only at z0 z2 <;> omega
  ·obtain ⟨v3, r1, o1, e1⟩ := make_uses (w := v2) few
   refine ⟨_, _, _, v3, r1, fun v4 hv4 => ?_⟩
   intro m1 v5 hM v6 hv6
   intro p1 v7 hN v8 hv8
   have x6 := ((D hv6).new hN).drawn hv8
   have x5 := (EM hM).trans x6
   have x4 := (D hv4).trans x5
   have x3 := (e1).trans x4
   have x2 := (D hv2).trans x3
   have x1 := (e0).trans x2
   have x0 := (D hv0).trans x1
   have b0 := D hv0
   have b1 := b0.trans (e0)
   have b2 := b1.trans (D hv2)
   have b3 := b2.trans (e1)
   have b4 := b3.trans (D hv4)
   have b5 := b4.trans (EM hM)
   have b6 := b5.trans (D hv6)
   have y0 := dsz hv0
   have y2 := dsz hv2
   have y4 := dsz hv4
   have y6 := dsz hv6
   have z0 := o0.lt_
   have z1 := o1.lt_
   have z2 := msz hM
   refine main _ _ _ _ _ (Laid.of b4 hM x6 b2 o1 x4 b0 o0 x2 b6 hN (D hv8) ?_ ?_ ?_ ?_ ?_ ?_ x0) <;> simp only at z0 z1 <;> omega
end
end Go.Proofs.YtnbakpoahcndpaaDoor
namespace Go.Proofs.YtnbakpoahcndpaaDoor
set_option linter.unusedVariables false
set_option linter.unusedSimpArgs false
open Wk
inductive CC (ns : List Flat) (E : Int → Int → Prop) : Int → Int → Prop
 | base {x y : Int} : Vn ns.length x → Vn ns.length y → E x y → CC ns E x y
 | refl {x : Int} : Vn ns.length x → CC ns E x x
 | symm {x y : Int} : CC ns E x y → CC ns E y x
 | trans {x y z : Int} : CC ns E x y → CC ns E y z → CC ns E x z
 | cong {p q : Int} : Vn ns.length p → Vn ns.length q → 0 ≤ (nodeOf ns p).fn → (nodeOf ns p).fn = (nodeOf ns q).fn → (nodeOf ns p).args.length = (nodeOf ns q).args.length → (∀ (i : Nat) a b, (nodeOf ns p).args[i]? = some a → (nodeOf ns q).args[i]? = some b → CC ns E a b) → CC ns E p q
theorem CC.val {ns : List Flat} {E : Int → Int → Prop} {x y : Int} (h : CC ns E x y) : Vn ns.length x ∧ Vn ns.length y := by
 induction h with
 | base h1 h2 _ => exact ⟨h1, h2⟩
 | refl h => exact ⟨h, h⟩
 | symm _ ih => exact ⟨ih.2, ih.1⟩
 | trans _ _ ih1 ih2 => exact ⟨ih1.1, ih2.2⟩
 | cong h1 h2 => exact ⟨h1, h2⟩
theorem CC.mono {ns : List Flat} {E E' : Int → Int → Prop} (hE : ∀ x y, E x y → E' x y) {x y : Int} (h : CC ns E x y) : CC ns E' x y := by
 induction h with
 | base h1 h2 h3 => exact .base h1 h2 (hE _ _ h3)
 | refl h => exact .refl h
 | symm _ ih => exact ih.symm
 | trans _ _ ih1 ih2 => exact ih1.trans ih2
 | cong h1 h2 h3 h4 h5 _ ih => exact .cong h1 h2 h3 h4 h5 ih
theorem CC.least {ns : List Flat} {E : Int → Int → Prop} {f : Int → Int} (hE : ∀ x y, Vn ns.length x → Vn ns.length y → E x y → f x = f y) (hc : ∀ p q, CongOk ns (fun a b => f a = f b) p q → f p = f q) {x y : Int} (h : CC ns E x y) : f x = f y := by
 induction h with
 | base h1 h2 h3 => exact hE _ _ h1 h2 h3
 | refl h => rfl
 | symm _ ih => exact ih.symm
 | trans _ _ ih1 ih2 => exact ih1.trans ih2
 | cong h1 h2 h3 h4 h5 _ ih => exact hc _ _ ⟨h1, h2, h3, h4, h5, ih⟩
def eqsT (st : List SaidR) (T : Int → Prop) (x y : Int) : Prop := ∃ s ∈ st, s.not = false ∧ T s.tag ∧ s.a = x ∧ s.b = y
abbrev eqsOf (st : List SaidR) : Int → Int → Prop := eqsT st fun _ => True
theorem GInv.closed {W : Nat} {g : GS} {us : List Edge} (h : GInv W g.nodes.length g us []) {p q : Int} (k : CongOk g.nodes (fun a b => fd g a = fd g b) p q) : fd g p = fd g q := by
 have hs : sigOf g p = sigOf g q := by
  unfold sigOf
  rw [show (nodeAt g p).fn = (nodeAt g q).fn from k.fn]
  congr 1
  refine List.ext_getElem? fun i => ?_
  rw [List.getElem?_map, List.getElem?_map]
  have hl := k.len
  rcases Nat.lt_or_ge i (nodeOf g.nodes p).args.length with hi | hi
  ·have h1 : (nodeAt g p).args[i]? = some ((nodeOf g.nodes p).args[i]) := List.getElem?_eq_getElem hi
   have h2 : (nodeAt g q).args[i]? = some ((nodeOf g.nodes q).args[i]'(by omega)) := List.getElem?_eq_getElem (show i < (nodeOf g.nodes q).args.length by omega)
   rw [h1, h2]
   exact congrArg some (k.args i _ _ h1 h2)
  ·have h1 : (nodeAt g p).args[i]? = none := List.getElem?_eq_none hi
   have h2 : (nodeAt g q).args[i]? = none := List.getElem?_eq_none (Nat.le_trans (Nat.le_of_eq k.len.symm) hi)
   rw [h1, h2]
 obtain ⟨q1, a1, b1⟩ := h.table p k.v1 k.v1.2 k.app
 obtain ⟨q2, a2, b2⟩ := h.table q k.v2 k.v2.2 (by rw [nodeAt_eq, ← k.fn]; exact k.app)
 rw [hs] at a1
 rw [a1] at a2
 cases a2
 exact b1.done.trans b2.done.symm
theorem GInv.sound_ {W m : Nat} {g : GS} {us : List Edge} {E : Int → Int → Prop} (h : GInv W m g us []) (hsrc : ∀ u ∈ us, u.cong = false → E u.a u.b) : ∀ (k : Nat) (x y : Int), Conn (us.take k) x y → x = y ∨ CC g.nodes E x y := by
 intro k
 induction k using Nat.strongRecOn with
 | ind k ih =>
  intro x y hc
  induction hc with
  | refl x => exact .inl rfl
  | @edge u hu =>
   obtain ⟨j, hj⟩ := List.mem_iff_getElem?.1 hu
   have hjk : j < k := by
    have := (List.getElem?_eq_some_iff.1 hj).1
    rw [List.length_take] at this
    omega
   rw [List.getElem?_take, if_pos hjk] at hj
   obtain ⟨v1, v2⟩ := h.forest.val u (List.mem_of_getElem? hj)
   right
   cases hcg : u.cong with
   | false => exact .base v1 v2 (hsrc u (List.mem_of_getElem? hj) hcg)
   | true =>
    have c := (h.just j u hj).1 hcg
    refine .cong c.v1 c.v2 c.app c.fn c.len fun i a b ha hb => ?_
    rcases ih j hjk a b (c.args i a b ha hb) with e | e
    ·subst e
     exact .refl (sound_vn h.sound c.v1 (List.mem_of_getElem? ha))
    ·exact e
  | symm _ ih' => exact ih'.imp (fun e => e.symm) fun e => e.symm
  | trans _ _ i1 i2 =>
   rcases i1 with rfl | i1
   ·exact i2
   ·rcases i2 with rfl | i2
    ·exact .inr i1
    ·exact .inr (i1.trans i2)
theorem fd_iff {W : Nat} {g : GS} {us : List Edge} {st : List SaidR} (h : GInv W g.nodes.length g us []) (s : Sem g us st) {x y : Int} (hx : Vn g.nodes.length x) (hy : Vn g.nodes.length y) : fd g x = fd g y ↔ CC g.nodes (eqsOf st) x y := by
 constructor
 ·intro e
  have hc := h.conn1 x y hx hy e
  have := h.sound_ (E := eqsOf st) (fun u hu hc => by
   obtain ⟨t, h1, h2, h3, h4, h5⟩ := s.src u hu hc
   exact ⟨t, h1, h2, trivial, h3, h4⟩) us.length x y (by rw [List.take_length]; exact hc)
  rcases this with rfl | k
  ·exact .refl hx
  ·exact k
 ·intro k
  exact CC.least (fun x y _ _ ⟨t, h1, h2, _, h3, h4⟩ => by rw [← h3, ← h4]; exact s.eqs t h1 h2) (fun p q c => h.closed c) k
def stripC : Nat → List Int → List Int → List Int × List Int
 | 0, u, d => (u, d)
 | f + 1, u, d => if u ≠ [] ∧ d ≠ [] ∧ endOf u = endOf d then stripC f u.dropLast d.dropLast else (u, d)
def betw (g : GS) (a b : Int) : List Int × List Int := stripC g.nodes.length (pathOf g a) (pathOf g b)
theorem split_end {l : List Int} (h : l ≠ []) : l = l.dropLast ++ [endOf l] := by
 conv => lhs; rw [← List.dropLast_concat_getLast h]
 congr 2
 unfold endOf
 rw [List.getLastD_eq_getLast?, List.getLast?_eq_some_getLast h]
 rfl
theorem stripC_spec : ∀ (f : Nat) (u d : List Int), u.length ≤ f ∨ d.length ≤ f → ∃ c, u = (stripC f u d).1 ++ c ∧ d = (stripC f u d).2 ++ c ∧ ((stripC f u d).1 ≠ [] → (stripC f u d).2 ≠ [] → endOf (stripC f u d).1 ≠ endOf (stripC f u d).2) ∧ (u ≠ [] → d ≠ [] → endOf u = endOf d → c ≠ [])
 | 0, u, d, h => by
  have e0 : stripC 0 u d = (u, d) := rfl
  rw [e0]
  refine ⟨[], by simp, by simp, fun h1 h2 => ?_, fun h1 h2 => ?_⟩
  ·rcases h with h | h
   ·exact absurd (List.length_eq_zero_iff.1 (Nat.le_zero.1 h)) h1
   ·exact absurd (List.length_eq_zero_iff.1 (Nat.le_zero.1 h)) h2
  ·rcases h with h | h
   ·exact absurd (List.length_eq_zero_iff.1 (Nat.le_zero.1 h)) h1
   ·exact absurd (List.length_eq_zero_iff.1 (Nat.le_zero.1 h)) h2
 | f + 1, u, d, h => by
  by_cases hc : u ≠ [] ∧ d ≠ [] ∧ endOf u = endOf d
  ·obtain ⟨h1, h2, h3⟩ := hc
   have lu := List.length_pos_iff.2 h1
   have ld := List.length_pos_iff.2 h2
   obtain ⟨c, k1, k2, k3, _⟩ := stripC_spec f u.dropLast d.dropLast (by rw [List.length_dropLast, List.length_dropLast]; omega)
   have e : stripC (f + 1) u d = stripC f u.dropLast d.dropLast := by
    show (if _ then _ else _) = _
    rw [if_pos ⟨h1, h2, h3⟩]
   rw [e]
   refine ⟨c ++ [endOf u], ?_, ?_, k3, fun _ _ _ => by simp⟩
   ·rw [← List.append_assoc, ← k1]
    exact split_end h1
   ·rw [← List.append_assoc, ← k2, h3]
    exact split_end h2
  ·have e : stripC (f + 1) u d = (u, d) := by
    show (if _ then _ else _) = _
    rw [if_neg hc]
   rw [e]
   refine ⟨[], by simp, by simp, fun h1 h2 h3 => hc ⟨h1, h2, h3⟩, fun h1 h2 h3 => absurd ⟨h1, h2, h3⟩ hc⟩
theorem betw_spec {W m : Nat} {g : GS} {us l : List Edge} (h : GInv W m g us l) {a b : Int} (ha : Vn g.nodes.length a) (hb : Vn g.nodes.length b) (e : fd g a = fd g b) :
  ∃ c, c ≠ [] ∧ Up g.why a ((betw g a b).1 ++ c) ∧ Up g.why b ((betw g a b).2 ++ c) ∧ (∀ z ∈ (betw g a b).1, z ∉ (betw g a b).2) ∧ (∀ z ∈ (betw g a b).1, Vn g.nodes.length z ∧ 0 ≤ (edgeAt g.why z).to) ∧ (∀ z ∈ (betw g a b).2, Vn g.nodes.length z ∧ 0 ≤ (edgeAt g.why z).to) := by
 obtain ⟨ua, va⟩ := h.way ha
 obtain ⟨ub, vb⟩ := h.way hb
 have la := nodup_len _ _ ua.nodup fun y hy => (va y hy).1
 have hends := h.forest.ends a b _ _ ha hb e ua ub
 obtain ⟨c, k1, k2, k3, k4⟩ := stripC_spec g.nodes.length (pathOf g a) (pathOf g b) (.inl la)
 have hc := k4 ua.ne ub.ne hends
 have to_ : ∀ (x : Int) (l : List Int), Up g.why x l → ∀ p, l = p ++ c → ∀ z ∈ p, 0 ≤ (edgeAt g.why z).to := by
  intro x l hu
  induction hu with
  | @stop x h0 =>
   intro p hp z hz
   have := congrArg List.length hp
   simp at this
   have hcl := List.length_pos_iff.2 hc
   have : p = [] := List.length_eq_zero_iff.1 (by omega)
   rw [this] at hz
   simp at hz
  | @step x l h0 h1 ih =>
   intro p hp z hz
   cases p with
   | nil => simp at hz
   | cons y p =>
    injection hp with e1 e2
    subst e1
    rcases List.mem_cons.1 hz with rfl | hz
    ·exact h0
    ·exact ih p e2 z hz
 refine ⟨c, hc, by have := ua; rw [k1] at this; exact this, by have := ub; rw [k2] at this; exact this, ?_, fun z hz => ⟨(va z (by rw [k1]; exact List.mem_append.2 (.inl hz))).1, to_ a _ ua _ k1 z hz⟩, fun z hz => ⟨(vb z (by rw [k2]; exact List.mem_append.2 (.inl hz))).1, to_ b _ ub _ k2 z hz⟩⟩
 intro z h1 h2
 obtain ⟨p1, q1, e1⟩ := List.append_of_mem h1
 obtain ⟨p2, q2, e2⟩ := List.append_of_mem h2
 have e1' : (stripC g.nodes.length (pathOf g a) (pathOf g b)).1 = p1 ++ z :: q1 := e1
 have e2' : (stripC g.nodes.length (pathOf g a) (pathOf g b)).2 = p2 ++ z :: q2 := e2
 -- from z on both go the same way
 have tail : ∀ (x : Int) (l : List Int), Up g.why x l → ∀ (p r : List Int), l = p ++ z :: r → Up g.why z (z :: r) := by
  intro x l hu
  induction hu with
  | @stop x h0 =>
   intro p r hp
   cases p with
   | nil =>
    have h3 := List.cons.inj hp
    rw [← h3.1, ← h3.2]
    exact .stop h0
   | cons y p => have h3 := (List.cons.inj hp).2; simp at h3
  | @step x l h0 h1 ih =>
   intro p r hp
   cases p with
   | nil =>
    have h3 := List.cons.inj hp
    rw [← h3.1, ← h3.2]
    exact .step h0 h1
   | cons y p => exact ih p r (List.cons.inj hp).2
 have t1 := tail a _ ua p1 (q1 ++ c) (by rw [k1, e1']; simp)
 have t2 := tail b _ ub p2 (q2 ++ c) (by rw [k2, e2']; simp)
 have q12 := (List.cons.inj (t1.det t2)).2
 have q12' : q1 = q2 := List.append_cancel_right q12
 subst q12'
 refine k3 (by rw [e1']; simp) (by rw [e2']; simp) ?_
 rw [e1', e2', endOf_app (by simp), endOf_app (by simp)]
end Go.Proofs.YtnbakpoahcndpaaDoor
namespace Go.Proofs.YtnbakpoahcndpaaDoor
set_option linter.unusedVariables false
set_option linter.unusedSimpArgs false
open Wk
theorem up_chain {why : List Edge} {R : Int → Int → Prop} (hr : ∀ x, R x x) (ht : ∀ x y z, R x y → R y z → R x z) {x : Int} {l : List Int} (h : Up why x l) : ∀ {p c : List Int}, l = p ++ c → c ≠ [] → (∀ z ∈ p, R z (edgeAt why z).to) → R x (c.headD 0) := by
 induction h with
 | @stop x h0 =>
  intro p c e hc _
  cases p with
  | nil =>
   have : c = [x] := by simpa using e.symm
   rw [this]; exact hr x
  | cons y p =>
   have h3 := congrArg List.length e
   have := List.length_pos_iff.2 hc
   simp only [List.length_cons, List.length_nil, List.cons_append, List.length_append] at h3
   omega
 | @step x l h0 h1 ih =>
  intro p c e hc hp
  cases p with
  | nil =>
   have : c = x :: l := by simpa using e.symm
   rw [this]; exact hr x
  | cons y p =>
   have h3 := List.cons.inj e
   refine ht _ _ _ ?_ (ih h3.2 hc fun z hz => hp z (List.mem_cons_of_mem _ hz))
   rw [h3.1]
   exact hp y (by simp)
theorem up_chain2 {why : List Edge} {R : Int → Int → Prop} (hr : ∀ x, R x x) (ht : ∀ x y z, R x y → R y z → R x z) {x n : Int} {l : List Int} (h : Up why x l) : ∀ {p c : List Int}, l = p ++ c → c ≠ [] → n ∈ p → (∀ z ∈ p, z ≠ n → R z (edgeAt why z).to) → R x n ∧ R (edgeAt why n).to (c.headD 0) := by
 induction h with
 | @stop x h0 =>
  intro p c e hc hn _
  cases p with
  | nil => simp at hn
  | cons y p =>
   have h3 := congrArg List.length e
   have := List.length_pos_iff.2 hc
   simp only [List.length_cons, List.length_nil, List.cons_append, List.length_append] at h3
   omega
 | @step x l h0 h1 ih =>
  intro p c e hc hn hp
  cases p with
  | nil => simp at hn
  | cons y p =>
   have h3 := List.cons.inj e
   have nd : (x :: l).Nodup := (Up.step h0 h1).nodup
   by_cases hyn : y = n
   ·subst hyn
    rw [h3.1]
    rw [h3.1] at h1 nd
    refine ⟨hr y, up_chain hr ht h1 h3.2 hc fun z hz => hp z (List.mem_cons_of_mem _ hz) fun q => ?_⟩
    subst q
    exact (List.nodup_cons.1 nd).1 (by rw [h3.2]; simp [hz])
   ·have hn' : n ∈ p := (List.mem_cons.1 hn).resolve_left fun q => hyn q.symm
    obtain ⟨k1, k2⟩ := ih h3.2 hc hn' fun z hz => hp z (List.mem_cons_of_mem _ hz)
    refine ⟨ht _ _ _ ?_ k1, k2⟩
    rw [h3.1]
    exact hp y (by simp) hyn
def At_ (why us : List Edge) (n : Int) (j : Nat) : Prop := ∃ u, us[j]? = some u ∧ ∃ y, Ends u n y ∧ Out why n y u
section
variable {W m : Nat} {g : GS} {us l : List Edge}
theorem at_ex (h : GInv W m g us l) {n : Int} (hn : Vn g.nodes.length n) (h0 : 0 ≤ (edgeAt g.why n).to) : ∃ j, j < us.length ∧ At_ g.why us n j := by
 obtain ⟨u, hu, y, h1, h2⟩ := h.forest.only n hn h0
 obtain ⟨j, hj⟩ := List.mem_iff_getElem?.1 hu
 exact ⟨j, (List.getElem?_eq_some_iff.1 hj).1, u, hj, y, h1, h2⟩
theorem at_edge {n : Int} {j : Nat} (h : At_ g.why us n j) : ∃ u, us[j]? = some u ∧ Ends u n (edgeAt g.why n).to ∧ (edgeAt g.why n).cong = u.cong ∧ (edgeAt g.why n).tag = u.tag ∧ (edgeAt g.why n).a = u.a ∧ (edgeAt g.why n).b = u.b := by
 obtain ⟨u, hu, y, h1, h2⟩ := h
 have := out_to h2
 rw [this]
 unfold Out at h2
 refine ⟨u, hu, h1, ?_, ?_, ?_, ?_⟩ <;> rw [h2]
theorem at_inj (h : GInv W m g us l) {n n' : Int} {j : Nat} (hn : Vn g.nodes.length n) (hn' : Vn g.nodes.length n') (h1 : At_ g.why us n j) (h2 : At_ g.why us n' j) : n = n' := by
 obtain ⟨u, hu, e1, _⟩ := at_edge h1
 obtain ⟨u', hu', e2, _⟩ := at_edge h2
 rw [hu] at hu'
 cases hu'
 rcases Decidable.em (n = n') with q | q
 ·exact q
 exfalso
 have : n' = (edgeAt g.why n).to ∧ n = (edgeAt g.why n').to := by
  rcases e1 with ⟨a1, a2⟩ | ⟨a1, a2⟩ <;> rcases e2 with ⟨b1, b2⟩ | ⟨b1, b2⟩
  ·exact absurd (a1.trans b1.symm) q
  ·exact ⟨b1.trans a2.symm, a1.trans b2.symm⟩
  ·exact ⟨b1.trans a2.symm, a1.trans b2.symm⟩
  ·exact absurd (a1.trans b1.symm) q
 obtain ⟨ln, u1, _⟩ := h.forest.way n hn
 have nd := u1.nodup
 cases u1 with
 | stop h0 => have := hn'.1; omega
 | step h0 u2 =>
  rw [← this.1] at u2
  cases u2 with
  | stop h3 => have := hn.1; omega
  | step h3 u4 =>
   rw [← this.2] at u4
   obtain ⟨t, ht⟩ := u4.head
   exact (List.nodup_cons.1 nd).1 (by rw [ht]; simp)
theorem conn_at {n : Int} {j k : Nat} (h : At_ g.why us n j) (hk : j < k) : Conn (us.take k) n (edgeAt g.why n).to := by
 obtain ⟨u, hu, e, _⟩ := at_edge h
 refine Conn.ends (u := u) ?_ e
 exact List.mem_of_getElem? (i := j) (by rw [List.getElem?_take, if_pos hk]; exact hu)
theorem betw_idx (h : GInv W m g us l) {a b : Int} (ha : Vn g.nodes.length a) (hb : Vn g.nodes.length b) {k : Nat} (hc : Conn (us.take k) a b) :
  ∀ n, n ∈ (betw g a b).1 ∨ n ∈ (betw g a b).2 → ∀ j, At_ g.why us n j → j < k := by
 have e : fd g a = fd g b := (hc.mono fun u hu => List.mem_of_mem_take hu).to h.conn2
 obtain ⟨c, c0, u1, u2, dis, v1, v2⟩ := betw_spec h ha hb e
 have vv : ∀ n, n ∈ (betw g a b).1 ∨ n ∈ (betw g a b).2 → Vn g.nodes.length n ∧ 0 ≤ (edgeAt g.why n).to := fun n hn => hn.elim (v1 n) (v2 n)
 have key : ∀ d K, K = k + d → (∀ n, n ∈ (betw g a b).1 ∨ n ∈ (betw g a b).2 → ∀ j, At_ g.why us n j → j < K) → ∀ n, n ∈ (betw g a b).1 ∨ n ∈ (betw g a b).2 → ∀ j, At_ g.why us n j → j < k := by
  intro d
  induction d with
  | zero => intro K hK hall; subst hK; exact hall
  | succ d ih =>
   intro K hK hall
   refine ih (k + d) rfl fun n hn j hj => ?_
   have hjK := hall n hn j hj
   rcases Nat.lt_or_ge j (k + d) with q | q
   ·exact q
   exfalso
   have hjd : j = k + d := by omega
   subst hjd
   -- the others are older
   have other : ∀ z, z ∈ (betw g a b).1 ∨ z ∈ (betw g a b).2 → z ≠ n → Conn (us.take (k + d)) z (edgeAt g.why z).to := by
    intro z hz hzn
    obtain ⟨vz, tz⟩ := vv z hz
    obtain ⟨i, _, hi⟩ := at_ex h vz tz
    have hiK := hall z hz i hi
    refine conn_at hi ?_
    have : i ≠ k + d := fun q => hzn (by rw [q] at hi; exact at_inj h vz (vv n hn).1 hi hj)
    omega
   have hab : Conn (us.take (k + d)) a b := hc.mono fun u hu => by
    have : us.take k = (us.take (k + d)).take k := by rw [List.take_take, Nat.min_eq_left (by omega)]
    rw [this] at hu
    exact List.mem_of_mem_take hu
   obtain ⟨u, hu, eu, _⟩ := at_edge hj
   have hno := (h.just (k + d) u hu).2
   have hcn : Conn (us.take (k + d)) n (edgeAt g.why n).to := by
    rcases hn with hn | hn
    ·have n2 : n ∉ (betw g a b).2 := dis n hn
     obtain ⟨q1, q2⟩ := up_chain2 (R := Conn (us.take (k + d))) Conn.refl (fun _ _ _ => Conn.trans) u1 rfl c0 hn fun z hz hzn => other z (.inl hz) hzn
     have q3 := up_chain (R := Conn (us.take (k + d))) Conn.refl (fun _ _ _ => Conn.trans) u2 rfl c0 fun z hz => other z (.inr hz) fun q => n2 (q ▸ hz)
     exact q1.symm.trans (hab.trans (q3.trans q2.symm))
    ·have n1 : n ∉ (betw g a b).1 := fun q => dis n q hn
     obtain ⟨q1, q2⟩ := up_chain2 (R := Conn (us.take (k + d))) Conn.refl (fun _ _ _ => Conn.trans) u2 rfl c0 hn fun z hz hzn => other z (.inr hz) hzn
     have q3 := up_chain (R := Conn (us.take (k + d))) Conn.refl (fun _ _ _ => Conn.trans) u1 rfl c0 fun z hz => other z (.inl hz) fun q => n1 (q ▸ hz)
     exact q1.symm.trans (hab.symm.trans (q3.trans q2.symm))
   apply hno
   rcases eu with ⟨e1, e2⟩ | ⟨e1, e2⟩
   ·rw [← e1, ← e2]; exact hcn
   ·rw [← e1, ← e2]; exact hcn.symm
 intro n hn j hj
 obtain ⟨u, hu, _⟩ := at_edge hj
 have hju := (List.getElem?_eq_some_iff.1 hu).1
 exact key (us.length - k) (k + (us.length - k)) rfl (fun n hn j hj => by
  obtain ⟨u, hu, _⟩ := at_edge hj
  have hju := (List.getElem?_eq_some_iff.1 hu).1
  omega) n hn j hj
def Cov (g : GS) (S : Int → Prop) (a b : Int) : Prop := ∀ n, n ∈ (betw g a b).1 ∨ n ∈ (betw g a b).2 → S n
theorem cov_cc {st : List SaidR} {S T : Int → Prop} (h : GInv W m g us l) (hs : Sem g us st) (hT : ∀ n, S n → Vn g.nodes.length n → 0 ≤ (edgeAt g.why n).to → (edgeAt g.why n).cong = false → T (edgeAt g.why n).tag)
  (hC : ∀ n, S n → Vn g.nodes.length n → 0 ≤ (edgeAt g.why n).to → (edgeAt g.why n).cong = true → ∀ (i : Nat) x y, (nodeOf g.nodes (edgeAt g.why n).a).args[i]? = some x → (nodeOf g.nodes (edgeAt g.why n).b).args[i]? = some y → Cov g S x y) :
  ∀ (k : Nat) (a b : Int), Vn g.nodes.length a → Vn g.nodes.length b → Conn (us.take k) a b → Cov g S a b → CC g.nodes (eqsT st T) a b := by
 intro k
 induction k using Nat.strongRecOn with
 | ind k ih =>
  intro a b ha hb hc hcov
  have e : fd g a = fd g b := (hc.mono fun u hu => List.mem_of_mem_take hu).to h.conn2
  obtain ⟨c, c0, u1, u2, dis, v1, v2⟩ := betw_spec h ha hb e
  have hidx := betw_idx h ha hb hc
  have one : ∀ n, n ∈ (betw g a b).1 ∨ n ∈ (betw g a b).2 → CC g.nodes (eqsT st T) n (edgeAt g.why n).to := by
   intro n hn
   obtain ⟨vn, tn⟩ := hn.elim (v1 n) (v2 n)
   obtain ⟨j, hj, hat⟩ := at_ex h vn tn
   have hjk := hidx n hn j hat
   obtain ⟨u, hu, eu, e1, e2, e3, e4⟩ := at_edge hat
   obtain ⟨w1, w2⟩ := h.forest.val u (List.mem_of_getElem? hu)
   have hS := hcov n hn
   have hcc : CC g.nodes (eqsT st T) u.a u.b := by
    cases hcg : u.cong with
    | false =>
     obtain ⟨t, t1, t2, t3, t4, t5⟩ := hs.src u (List.mem_of_getElem? hu) hcg
     refine .base w1 w2 ⟨t, t1, t2, ?_, t3, t4⟩
     have := hT n hS vn tn (by rw [e1]; exact hcg)
     rw [e2] at this
     rw [t5]
     exact this
    | true =>
     have cg := (h.just j u hu).1 hcg
     refine .cong cg.v1 cg.v2 cg.app cg.fn cg.len fun i x y hx hy => ?_
     have := hC n hS vn tn (by rw [e1]; exact hcg) i x y (by rw [e3]; exact hx) (by rw [e4]; exact hy)
     exact ih j hjk x y (sound_vn h.sound cg.v1 (List.mem_of_getElem? hx)) (sound_vn h.sound cg.v2 (List.mem_of_getElem? hy)) (cg.args i x y hx hy) this
   rcases eu with ⟨q1, q2⟩ | ⟨q1, q2⟩
   ·rw [q2, q1]; exact hcc
   ·rw [q2, q1]; exact hcc.symm
  have r1 := up_chain (R := fun x y => x = y ∨ CC g.nodes (eqsT st T) x y) (fun _ => .inl rfl) (fun x y z h1 h2 => by
   rcases h1 with rfl | h1
   ·exact h2
   ·rcases h2 with rfl | h2
    ·exact .inr h1
    ·exact .inr (h1.trans h2)) u1 rfl c0 fun z hz => .inr (one z (.inl hz))
  have r2 := up_chain (R := fun x y => x = y ∨ CC g.nodes (eqsT st T) x y) (fun _ => .inl rfl) (fun x y z h1 h2 => by
   rcases h1 with rfl | h1
   ·exact h2
   ·rcases h2 with rfl | h2
    ·exact .inr h1
    ·exact .inr (h1.trans h2)) u2 rfl c0 fun z hz => .inr (one z (.inr hz))
  rcases r1 with r1 | r1 <;> rcases r2 with r2 | r2
  ·rw [r1, r2]
   have : Vn g.nodes.length (c.headD 0) := by rw [← r1]; exact ha
   exact .refl this
  ·rw [r1]; exact r2.symm
  ·rw [r2]; exact r1
  ·exact r1.trans r2.symm
end
end Go.Proofs.YtnbakpoahcndpaaDoor
