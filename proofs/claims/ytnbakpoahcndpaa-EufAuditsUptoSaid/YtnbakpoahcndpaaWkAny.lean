/- A region that draws its order: what only reads is taken at once, in the text's order; what writes is carried out in each order that the edges allow. A condition 'H' on the world (nothing that the reads look at has turned) is asked behind each write for as long as a read is still to come. -/
import Derived.Test.YtnbakpoahcndpaaWk
set_option linter.unusedVariables false
set_option linter.unusedSimpArgs false
namespace Go.Proofs.Ytnbakpoahcndpaa
namespace Wk
/-- Nothing but the count of draws has moved. -/
structure Drawn (w w' : World) : Prop where
  heap : w'.heap = w.heap
  os : w'.os = w.os
  tape : w'.tape = w.tape
  output : w'.output = w.output
theorem Drawn.refl (w : World) : Drawn w w := ⟨rfl, rfl, rfl, rfl⟩
theorem Drawn.trans {a b c : World} (h : Drawn a b) (k : Drawn b c) : Drawn a c := ⟨k.heap.trans h.heap, k.os.trans h.os, k.tape.trans h.tape, k.output.trans h.output⟩
theorem Drawn.drew (w : World) : Drawn w w.drew := ⟨rfl, rfl, rfl, rfl⟩
theorem Drawn.cell {w w' : World} (h : Drawn w w') (p : Addr) : w'.cell? p = w.cell? p := by simp [World.cell?, h.heap]
theorem Drawn.frozen {w w' : World} (h : Drawn w w') (p : Addr) : w'.frozen? p = w.frozen? p := by simp [World.frozen?, h.heap]

/-- Must number i have come up before number j? -/
def anc (ops : Array Oper) : Nat → Nat → Nat → Bool
  | 0, _, _ => false
  | f + 1, i, j => match ops[j]? with
    | none => false
    | some o => o.after.any fun e => Region.binds .any e && (Nat.beq e.on i || anc ops f i e.on)
/-- May number j come up while a read of this list still waits? -/
def needs (ops : Array Oper) (pu rd : List Nat) (j : Nat) : Bool := !pu.contains j && rd.any fun r => !anc ops ops.size r j
def closedB (ops : Array Oper) (l : Array Bool) : Bool := (List.range ops.size).all fun j => !l.getD j false || ((ops[j]?).map fun o => o.after.all fun e => !Region.binds .any e || l.getD e.on false).getD true
theorem closedB_spec {ops : Array Oper} {l : Array Bool} (h : closedB ops l = true) {j : Nat} {o : Oper} (hj : ops[j]? = some o) (hl : l.getD j false = true) : ∀ e ∈ o.after, Region.binds .any e = true → l.getD e.on false = true := by
  have h1 := List.all_eq_true.1 h j (List.mem_range.2 (Array.getElem?_eq_some_iff.1 hj).1)
  simp only [hl, hj, Bool.not_true, Bool.false_or, Option.map_some, Option.getD_some] at h1
  intro e he hb
  have := Array.all_eq_true'.1 h1 e he
  simpa [hb] using this
theorem anc_listed {ops : Array Oper} {l : Array Bool} (h : ∀ j o, ops[j]? = some o → l.getD j false = true → ∀ e ∈ o.after, Region.binds .any e = true → l.getD e.on false = true) :
    ∀ (f i j : Nat) (o : Oper), ops[j]? = some o → (∀ e ∈ o.after, Region.binds .any e = true → l.getD e.on false = true) → anc ops f i j = true → l.getD i false = true
  | 0, _, _, _, _, _, ha => by cases ha
  | f + 1, i, j, o, hj, hd, ha => by
    simp only [anc, hj] at ha
    obtain ⟨e, he, hb⟩ := Array.any_eq_true'.1 ha
    simp only [Bool.and_eq_true, Bool.or_eq_true] at hb
    have hl := hd e he hb.1
    rcases hb.2 with hb2 | hb2
    · rw [← Nat.eq_of_beq_eq_true hb2]; exact hl
    · cases hj' : ops[e.on]? with
      | none => cases f <;> simp [anc, hj'] at hb2
      | some o' => exact anc_listed h f i e.on o' hj' (h e.on o' hj' hl) hb2
section
variable {P : Program} {ops : Array Oper} {Q : Exit → Act → World → Prop} {pu rd : List Nat} {H : World → Prop} {D : World → World → Prop}
def anyC (P : Program) (ops : Array Oper) (Q : Exit → Act → World → Prop) (pu rd : List Nat) (H : World → Prop) (D : World → World → Prop) : Nat → Array Bool → Act → World → Prop
  | 0, l, a, w => Region.ready .any ops l = [] ∧ Q .normal a w
  | f + 1, l, a, w => (Region.ready .any ops l = [] → Q .normal a w) ∧
    ∀ i ∈ Region.ready .any ops l, wpOp P ops Q i (fun a' w' => (pu.contains i = true → D w w') ∧ ∀ w'', D w' w'' → (needs ops pu rd i = true → H w'') ∧ anyC P ops Q pu rd H D f (l.setIfInBounds i true) a' w'') a w
theorem anyC_sound (hD : ∀ w, D w w) : ∀ (f : Nat) (l : Array Bool) (a : Act) (w : World), anyC P ops Q pu rd H D f l a w → wpAny P .any ops Q f l a w
  | 0, _, _, _, h => h
  | f + 1, _, _, _, h => ⟨h.1, fun i hi => wpOp_mono (fun a' w' h' => anyC_sound hD f _ a' w' (h'.2 w' (hD w')).2) (h.2 i hi)⟩
/-- In each world that meets H the operation yields v and leaves the world as it is, up to D. -/
def Reads (P : Program) (ops : Array Oper) (H : World → Prop) (D : World → World → Prop) (o : Oper) (v : Value) (a : Act) : Prop :=
  (Region.wanted o (yielded ops a.tmps) = true ∧ ∀ w, H w → o.quietAt P a (D w) w v) ∨ (Region.wanted o (yielded ops a.tmps) = false ∧ v = undef)
theorem Reads.same {o : Oper} {v : Value} {a a' : Act} (hy : Reads P ops H D o v a) (he : execOp a'.eval o = execOp a.eval o)
    (hw : Region.wanted o (yielded ops a'.tmps) = Region.wanted o (yielded ops a.tmps)) : Reads P ops H D o v a' := by
  unfold Reads Oper.quietAt at *
  rw [he, hw]
  exact hy
theorem Reads.wpOp {i : Nat} {o : Oper} {v : Value} {a : Act} {w : World} (hi : ops[i]? = some o) (hy : Reads P ops H D o v a) (hH : H w) (hD : ∀ w, D w w)
    {K : Act → World → Prop} (h : ∀ w', D w w' → K (a.put o.dst v) w') : Go.wpOp P ops Q i K a w := by
  unfold Go.wpOp
  simp only [hi]
  rcases hy with ⟨hw, hv⟩ | ⟨hw, rfl⟩
  · simp only [hw, if_true]
    refine .inl ?_
    have h3 := hv w hH
    unfold Oper.quietAt at h3
    unfold Oper.wp
    generalize (execOp a.eval o).run P w = r at *
    cases r with
    | halt x w' => simp only [Oper.quietUpon] at h3
    | ok n w' =>
      cases n <;> simp only [Oper.quietUpon] at h3 <;> simp only [Oper.upon]
      case value u => obtain ⟨rfl, rfl⟩ := h3; exact h _ (hD _)
      case skip => obtain ⟨rfl, rfl⟩ := h3; exact h _ (hD _)
      case enter f args =>
        obtain ⟨rfl, hc⟩ := h3
        exact hc.mono fun x w'' ⟨hx, hd⟩ => by subst hx; exact h _ hd
  · simp only [hw, Bool.false_eq_true, if_false]; exact h _ (hD _)
/-- An operation apart from a read: carried out before it instead of behind it. -/
theorem swap {j : Nat} {oi oj : Oper} {v : Value} (hj : ops[j]? = some oj) (hap : oi.apart ops oj = true)
    (hsi : ∀ cs b, oi.op ≠ .select cs b) (hsj : ∀ cs b, oj.op ≠ .select cs b) (hQ : ∀ c a w, Q (.panic c) (a.put oi.dst v) w → Q (.panic c) a w)
    {K : Act → World → Prop} {a : Act} {w : World} (hy : Reads P ops H D oi v a) (h : wpOp P ops Q j K (a.put oi.dst v) w) :
    wpOp P ops Q j (fun a' w' => Reads P ops H D oi v a' ∧ K (a'.put oi.dst v) w') a w := by
  obtain ⟨h1, h2, h3⟩ := Oper.apart_spec hap
  have keep : ∀ b : Act, Reads P ops H D oi v b → ∀ u, Reads P ops H D oi v (b.put oj.dst u) := fun b hb u =>
    hb.same (execOp_put oi hsi b oj.dst u h3) (wanted_put oi b oj.dst u h3)
  unfold wpOp at *
  simp only [hj] at *
  rw [wanted_put oj a oi.dst v h1] at h
  by_cases hw : Region.wanted oj (yielded ops a.tmps) = true
  · simp only [hw, if_true] at h ⊢
    rcases h with h | ⟨hasks, hlets⟩
    · refine .inl ?_
      unfold Oper.wp at *
      rw [execOp_put oj hsj a oi.dst v h1] at h
      generalize (execOp a.eval oj).run P w = r at *
      cases r with
      | ok n w' =>
        cases n <;> simp only [Oper.upon] at h ⊢
        case value u => exact ⟨keep a hy u, by rw [← Act.put_comm a v u h2]; exact h⟩
        case skip => exact ⟨keep a hy _, by rw [← Act.put_comm a v undef h2]; exact h⟩
        case defer d =>
          refine ⟨keep { a with defers := d :: a.defers } (hy.same rfl rfl) _, ?_⟩
          rw [← Act.put_comm _ v undef h2, ← Act.put_defers]
          exact h
        case enter f args =>
          refine Calls.mono h fun x w'' he => ?_
          cases x with
          | returned u => exact ⟨keep a hy u, by rw [← Act.put_comm a v u h2]; exact he⟩
          | panicked c => exact hQ _ _ _ he
          | outgrown => exact he
        case row row args => exact Rows.mono h fun u w'' he => ⟨keep a hy u, by rw [← Act.put_comm a v u h2]; exact he⟩
      | halt x w' =>
        cases x <;> simp only [Oper.upon] at h ⊢
        case panic u => exact hQ _ _ _ h
    · refine .inr ⟨?_, hlets⟩
      unfold Oper.asks at *
      rw [execOp_put oj hsj a oi.dst v h1] at hasks
      exact hasks
  · simp only [hw] at h ⊢
    exact ⟨keep a hy _, by rw [← Act.put_comm a v undef h2]; exact h⟩
/-- A read may be taken at once. -/
theorem take {i : Nat} {oi : Oper} {v : Value} (hi : ops[i]? = some oi) (hrd : i ∈ rd) (hDr : ∀ w, D w w) (hDt : ∀ a b c, D a b → D b c → D a c) (hHD : ∀ w w', H w → D w w' → H w')
    (hsel : ∀ (j : Nat) (o : Oper) cs b, ops[j]? = some o → o.op ≠ .select cs b) (hQ : ∀ c a w, Q (.panic c) (a.put oi.dst v) w → Q (.panic c) a w) :
    ∀ (f : Nat) (l : Array Bool) (a : Act) (w : World),
      (∀ j o, ops[j]? = some o → l.getD j false = true → ∀ e ∈ o.after, Region.binds .any e = true → l.getD e.on false = true) → l.size = ops.size →
      (∀ j oj, ops[j]? = some oj → j ≠ i → l.getD j true = false → (∀ e ∈ oj.after, Region.binds .any e = true → e.on ≠ i) → oi.apart ops oj = true) →
      i ∈ Region.ready .any ops l → Reads P ops H D oi v a → H w →
      (∀ w', D w w' → anyC P ops Q pu rd H D f (l.setIfInBounds i true) (a.put oi.dst v) w') → anyC P ops Q pu rd H D (f + 1) l a w := by
  intro f
  induction f with
  | zero =>
    intro l a w _ _ _ hr hy hH h
    refine ⟨fun h0 => (by rw [h0] at hr; cases hr), fun j hj => ?_⟩
    by_cases hji : j = i
    · subst hji
      exact hy.wpOp hi hH hDr fun w' hw' => ⟨fun _ => hw', fun w'' hw'' => ⟨fun _ => hHD _ _ hH (hDt _ _ _ hw' hw''), h _ (hDt _ _ _ hw' hw'')⟩⟩
    · have := ready_mono hj hji
      rw [(h w (hDr w)).1] at this
      cases this
  | succ f ih =>
    intro l a w hcl hsz hfree hr hy hH h
    refine ⟨fun h0 => (by rw [h0] at hr; cases hr), fun j hj => ?_⟩
    by_cases hji : j = i
    · subst hji
      exact hy.wpOp hi hH hDr fun w' hw' => ⟨fun _ => hw', fun w'' hw'' => ⟨fun _ => hHD _ _ hH (hDt _ _ _ hw' hw''), h _ (hDt _ _ _ hw' hw'')⟩⟩
    · have h1 := (h w (hDr w)).2 j (ready_mono hj hji)
      have hun : l.getD i true = false := (mem_ready.1 hr).1
      have hun' : l.getD i false = false := by
        rcases Nat.lt_or_ge i l.size with h' | h'
        · simp [h'] at hun ⊢; exact hun
        · simp [Array.getElem?_eq_none h']
      obtain ⟨hjun, oj, hoj, hall⟩ := mem_ready.1 hj
      have hanc : anc ops ops.size i j = false := by
        cases hq : anc ops ops.size i j with
        | false => rfl
        | true => rw [anc_listed hcl _ _ _ _ hoj hall hq] at hun'; cases hun'
      have hneed : pu.contains j = false → needs ops pu rd j = true := fun hp => by
        unfold needs
        rw [hp]
        exact List.any_eq_true.2 ⟨i, hrd, by rw [hanc]; rfl⟩
      have hnot : ∀ e ∈ oj.after, Region.binds .any e = true → e.on ≠ i := fun e he hb heq => by
        have h1 := hall e he hb
        rw [heq, hun'] at h1
        cases h1
      have h2 := swap hoj (hfree j oj hoj hji hjun hnot) (fun cs b => hsel i oi cs b hi) (fun cs b => hsel j oj cs b hoj) hQ hy h1
      have hfree' : ∀ k ok, ops[k]? = some ok → k ≠ i → (l.setIfInBounds j true).getD k true = false → (∀ e ∈ ok.after, Region.binds .any e = true → e.on ≠ i) → oi.apart ops ok = true := fun k ok hk hki hkun hno => by
        refine hfree k ok hk hki ?_ hno
        by_cases hjk : j = k
        · subst hjk; exact hjun
        · rw [getD_set_ne true hjk] at hkun; exact hkun
      have hcl' : ∀ k o, ops[k]? = some o → (l.setIfInBounds j true).getD k false = true → ∀ e ∈ o.after, Region.binds .any e = true → (l.setIfInBounds j true).getD e.on false = true := fun k o hk hkl e he hb => by
        by_cases hjk : j = k
        · subst hjk
          have : o = oj := Option.some.inj (hk.symm.trans hoj)
          subst this
          exact getD_set_true (hall e he hb)
        · rw [getD_set_ne false hjk] at hkl
          exact getD_set_true (hcl k o hk hkl e he hb)
      refine wpOp_mono (fun a' w' h3 => ?_) h2
      obtain ⟨hy', hpd, h4⟩ := h3
      refine ⟨hpd, fun w'' hw'' => ?_⟩
      have hH'' : H w'' := by
        cases hp : pu.contains j with
        | true => exact hHD _ _ hH (hDt _ _ _ (hpd hp) hw'')
        | false => exact (h4 w'' hw'').1 (hneed hp)
      refine ⟨fun _ => hH'', ih (l.setIfInBounds j true) a' w'' hcl' (by simp [hsz]) hfree' (ready_mono hr (Ne.symm hji)) hy' hH'' fun w3 hw3 => ?_⟩
      rw [Array.setIfInBounds_comm _ _ hji]
      exact (h4 w3 (hDt _ _ _ hw'' hw3)).2

/-- What looks at no world may be taken at once, whatever is asked. -/
theorem takeP {i : Nat} {oi : Oper} {v : Value} (hi : ops[i]? = some oi) (hpu : pu.contains i = true) (hDr : ∀ w, D w w) (hDt : ∀ a b c, D a b → D b c → D a c)
    (hsel : ∀ (j : Nat) (o : Oper) cs b, ops[j]? = some o → o.op ≠ .select cs b) (hQ : ∀ c a w, Q (.panic c) (a.put oi.dst v) w → Q (.panic c) a w) :
    ∀ (f : Nat) (l : Array Bool) (a : Act) (w : World), l.size = ops.size →
      (∀ j oj, ops[j]? = some oj → j ≠ i → l.getD j true = false → (∀ e ∈ oj.after, Region.binds .any e = true → e.on ≠ i) → oi.apart ops oj = true) →
      i ∈ Region.ready .any ops l → Reads P ops (fun _ => True) D oi v a →
      (∀ w', D w w' → anyC P ops Q pu rd H D f (l.setIfInBounds i true) (a.put oi.dst v) w') → anyC P ops Q pu rd H D (f + 1) l a w := by
  have hnn : needs ops pu rd i = true → False := fun h => by unfold needs at h; rw [hpu] at h; cases h
  intro f
  induction f with
  | zero =>
    intro l a w hsz _ hr hy h
    refine ⟨fun h0 => (by rw [h0] at hr; cases hr), fun j hj => ?_⟩
    by_cases hji : j = i
    · subst hji
      exact hy.wpOp hi trivial hDr fun w' hw' => ⟨fun _ => hw', fun w'' hw'' => ⟨fun hq => (hnn hq).elim, h _ (hDt _ _ _ hw' hw'')⟩⟩
    · have := ready_mono hj hji
      rw [(h w (hDr w)).1] at this
      cases this
  | succ f ih =>
    intro l a w hsz hfree hr hy h
    refine ⟨fun h0 => (by rw [h0] at hr; cases hr), fun j hj => ?_⟩
    by_cases hji : j = i
    · subst hji
      exact hy.wpOp hi trivial hDr fun w' hw' => ⟨fun _ => hw', fun w'' hw'' => ⟨fun hq => (hnn hq).elim, h _ (hDt _ _ _ hw' hw'')⟩⟩
    · have h1 := (h w (hDr w)).2 j (ready_mono hj hji)
      have hun : l.getD i true = false := (mem_ready.1 hr).1
      have hun' : l.getD i false = false := by
        rcases Nat.lt_or_ge i l.size with h' | h'
        · simp [h'] at hun ⊢; exact hun
        · simp [Array.getElem?_eq_none h']
      obtain ⟨hjun, oj, hoj, hall⟩ := mem_ready.1 hj
      have hnot : ∀ e ∈ oj.after, Region.binds .any e = true → e.on ≠ i := fun e he hb heq => by
        have h1 := hall e he hb
        rw [heq, hun'] at h1
        cases h1
      have h2 := swap hoj (hfree j oj hoj hji hjun hnot) (fun cs b => hsel i oi cs b hi) (fun cs b => hsel j oj cs b hoj) hQ hy h1
      have hfree' : ∀ k ok, ops[k]? = some ok → k ≠ i → (l.setIfInBounds j true).getD k true = false → (∀ e ∈ ok.after, Region.binds .any e = true → e.on ≠ i) → oi.apart ops ok = true := fun k ok hk hki hkun hno => by
        refine hfree k ok hk hki ?_ hno
        by_cases hjk : j = k
        · subst hjk; exact hjun
        · rw [getD_set_ne true hjk] at hkun; exact hkun
      refine wpOp_mono (fun a' w' h3 => ?_) h2
      obtain ⟨hy', hpd, h4⟩ := h3
      refine ⟨hpd, fun w'' hw'' => ⟨(h4 w'' hw'').1, ih (l.setIfInBounds j true) a' w'' (by simp [hsz]) hfree' (ready_mono hr (Ne.symm hji)) hy' fun w3 hw3 => ?_⟩⟩
      rw [Array.setIfInBounds_comm _ _ hji]
      exact (h4 w3 (hDt _ _ _ hw'' hw3)).2

/-! ### The same over short frames -/
def AN (P : Program) (ops : Array Oper) (Q : Exit → Act → World → Prop) (pu rd : List Nat) (H : World → Prop) (D : World → World → Prop) (f : Nat) (l : Array Bool) (n : Nat) (e : Env) (w : World) : Prop := ∀ a, Ok n e a → anyC P ops Q pu rd H D f l a w
variable {n : Nat} {e : Env} {w : World} {f : Nat} {l l' : Array Bool}
theorem cw_any {id : Nat} (hm : P.follows .mixedOrders = true) (pu rd : List Nat) (H : World → Prop) (D : World → World → Prop) (hD : ∀ w, D w w) (sz : Nat) (hs : ops.size = sz) (hl : Array.replicate sz false = l)
    (h : AN P ops Q pu rd H D sz l n e w.drew) : CW P (Code.region id ops true) Q n e w := fun a ha => by
  subst hs; subst hl
  exact wp_region_any hm (anyC_sound hD _ _ _ _ (h a ha))
theorem an_done (hr : Region.ready .any ops l = []) (h : NX Q .normal n e w) : AN P ops Q pu rd H D f l n e w := fun a ha => by
  cases f with
  | zero => exact ⟨hr, h a ha⟩
  | succ f => exact ⟨fun _ => h a ha, by rw [hr]; simp⟩
theorem an_sub {e' : Env} (k : sub e' e) (h : AN P ops Q pu rd H D f l n e' w) : AN P ops Q pu rd H D f l n e w := fun a ha => h a (ha.weaken k)
/-- What a region asks once: no select, and the post of a panic doesn't look at the frame. -/
structure Calm (P : Program) (ops : Array Oper) (Q : Exit → Act → World → Prop) (H : World → Prop) (D : World → World → Prop) : Prop where
  sel : Region.noSelect ops = true
  panic : ∀ c a d v w, Q (.panic c) (Act.put a d v) w → Q (.panic c) a w
  drefl : ∀ w, D w w
  dtrans : ∀ a b c, D a b → D b c → D a c
  held : ∀ w w', H w → D w w' → H w'
theorem an_take {i : Nat} {oi : Oper} {v : Value} (cm : Calm P ops Q H D) (hi : ops[i]? = some oi) (hrd : (rd.contains i) = true) (hf : Region.free .any ops l i = true) (hr : (Region.ready .any ops l).contains i = true)
    (hcl : closedB ops l = true) (hsz : Nat.beq l.size ops.size = true) (hH : H w) (hy : ∀ a, Ok n e a → Reads P ops H D oi v a) (hl : l.setIfInBounds i true = l')
    (h : ∀ w', D w w' → ∀ a, Ok n e a → anyC P ops Q pu rd H D f l' (a.put oi.dst v) w') : AN P ops Q pu rd H D (f + 1) l n e w := fun a ha => by
  subst hl
  exact take hi (by simpa using hrd) cm.drefl cm.dtrans cm.held (Region.noSelect_spec cm.sel) (fun c a w => cm.panic c a _ _ w) f l a w (fun j o hj hl => closedB_spec hcl hj hl) (Nat.eq_of_beq_eq_true hsz) (Region.free_spec hi hf) (by simpa using hr) (hy a ha) hH
    fun w' hw' => h w' hw' a ha
/-- The side facts of a take that are closed: asked of the kernel at once. -/
def takeB (ops : Array Oper) (rd : List Nat) (l : Array Bool) (i : Nat) : Bool := rd.contains i && Region.free .any ops l i && (Region.ready .any ops l).contains i && closedB ops l && Nat.beq l.size ops.size
theorem takeB_spec {ops : Array Oper} {rd : List Nat} {l : Array Bool} {i : Nat} (h : takeB ops rd l i = true) : rd.contains i = true ∧ Region.free .any ops l i = true ∧ (Region.ready .any ops l).contains i = true ∧ closedB ops l = true ∧ Nat.beq l.size ops.size = true := by
  simp only [takeB, Bool.and_eq_true] at h
  exact ⟨h.1.1.1.1, h.1.1.1.2, h.1.1.2, h.1.2, h.2⟩
/-- A read that yields v. -/
theorem an_v {i d : Nat} {oi : Oper} {v : Value} (cm : Calm P ops Q H D) (hi : ops[i]? = some oi) (hb : takeB ops rd l i = true) (hH : H w) (hd : oi.dst = some d) (hlt : Nat.blt d n = true)
    (hw : ∀ a, Ok n e a → Region.wanted oi (yielded ops a.tmps) = true) (hy : ∀ w', H w' → ∀ a, Ok n e a → (execOp a.eval oi).run P w' = .ok (.value v) w') (hl : l.setIfInBounds i true = l')
    (h : ∀ w', D w w' → H w' → AN P ops Q pu rd H D f l' n ((d, v) :: e) w') : AN P ops Q pu rd H D (f + 1) l n e w :=
  have hb := takeB_spec hb
  an_take cm hi hb.1 hb.2.1 hb.2.2.1 hb.2.2.2.1 hb.2.2.2.2 hH (fun a ha => .inl ⟨hw a ha, fun w' hw' => by unfold Oper.quietAt; rw [hy w' hw' a ha]; exact ⟨rfl, rfl⟩⟩) hl fun w' hw' a ha => by
    rw [hd]; exact h w' hw' (cm.held _ _ hH hw') _ (ha.put hlt v)
/-- A call that only reads. -/
theorem an_q {i d : Nat} {oi : Oper} {v : Value} {g : FuncId} {args : Array Value} (cm : Calm P ops Q H D) (hi : ops[i]? = some oi) (hb : takeB ops rd l i = true) (hH : H w) (hd : oi.dst = some d) (hlt : Nat.blt d n = true)
    (hw : ∀ a, Ok n e a → Region.wanted oi (yielded ops a.tmps) = true) (hy : ∀ w', H w' → ∀ a, Ok n e a → (execOp a.eval oi).run P w' = .ok (.enter g args) w')
    (hc : ∀ w', H w' → Calls P g args w' fun x w'' => x = .returned v ∧ D w' w'') (hl : l.setIfInBounds i true = l')
    (h : ∀ w', D w w' → H w' → AN P ops Q pu rd H D f l' n ((d, v) :: e) w') : AN P ops Q pu rd H D (f + 1) l n e w :=
  have hb := takeB_spec hb
  an_take cm hi hb.1 hb.2.1 hb.2.2.1 hb.2.2.2.1 hb.2.2.2.2 hH (fun a ha => .inl ⟨hw a ha, fun w' hw' => by unfold Oper.quietAt; rw [hy w' hw' a ha]; exact ⟨rfl, hc w' hw'⟩⟩) hl fun w' hw' a ha => by
    rw [hd]; exact h w' hw' (cm.held _ _ hH hw') _ (ha.put hlt v)
/-- Its guard says no. -/
theorem an_skip {i d : Nat} {oi : Oper} (cm : Calm P ops Q H D) (hi : ops[i]? = some oi) (hb : takeB ops rd l i = true) (hH : H w) (hd : oi.dst = some d) (hlt : Nat.blt d n = true)
    (hw : ∀ a, Ok n e a → Region.wanted oi (yielded ops a.tmps) = false) (hl : l.setIfInBounds i true = l')
    (h : ∀ w', D w w' → H w' → AN P ops Q pu rd H D f l' n ((d, undef) :: e) w') : AN P ops Q pu rd H D (f + 1) l n e w :=
  have hb := takeB_spec hb
  an_take cm hi hb.1 hb.2.1 hb.2.2.1 hb.2.2.2.1 hb.2.2.2.2 hH (fun a ha => .inr ⟨hw a ha, rfl⟩) hl fun w' hw' a ha => by
    rw [hd]; exact h w' hw' (cm.held _ _ hH hw') _ (ha.put hlt undef)
def takePB (ops : Array Oper) (pu : List Nat) (l : Array Bool) (i : Nat) : Bool := pu.contains i && Region.free .any ops l i && (Region.ready .any ops l).contains i && Nat.beq l.size ops.size
/-- What looks at no world. -/
theorem an_p {i d : Nat} {oi : Oper} {v : Value} (cm : Calm P ops Q H D) (hi : ops[i]? = some oi) (hb : takePB ops pu l i = true) (hd : oi.dst = some d) (hlt : Nat.blt d n = true)
    (hw : ∀ a, Ok n e a → Region.wanted oi (yielded ops a.tmps) = true) (hy : ∀ w' a, Ok n e a → (execOp a.eval oi).run P w' = .ok (.value v) w') (hl : l.setIfInBounds i true = l')
    (h : ∀ w', D w w' → AN P ops Q pu rd H D f l' n ((d, v) :: e) w') : AN P ops Q pu rd H D (f + 1) l n e w := fun a ha => by
  subst hl
  simp only [takePB, Bool.and_eq_true] at hb
  refine takeP hi hb.1.1.1 cm.drefl cm.dtrans (Region.noSelect_spec cm.sel) (fun c a w => cm.panic c a _ _ w) f l a w (Nat.eq_of_beq_eq_true hb.2) (Region.free_spec hi hb.1.1.2) (by simpa using hb.1.2) (.inl ⟨hw a ha, fun w' _ => by unfold Oper.quietAt; rw [hy w' a ha]; exact ⟨rfl, rfl⟩⟩) fun w' hw' => ?_
  rw [hd]; exact h w' hw' _ (ha.put hlt v)
theorem an_pskip {i d : Nat} {oi : Oper} (cm : Calm P ops Q H D) (hi : ops[i]? = some oi) (hb : takePB ops pu l i = true) (hd : oi.dst = some d) (hlt : Nat.blt d n = true)
    (hw : ∀ a, Ok n e a → Region.wanted oi (yielded ops a.tmps) = false) (hl : l.setIfInBounds i true = l')
    (h : ∀ w', D w w' → AN P ops Q pu rd H D f l' n ((d, undef) :: e) w') : AN P ops Q pu rd H D (f + 1) l n e w := fun a ha => by
  subst hl
  simp only [takePB, Bool.and_eq_true] at hb
  refine takeP hi hb.1.1.1 cm.drefl cm.dtrans (Region.noSelect_spec cm.sel) (fun c a w => cm.panic c a _ _ w) f l a w (Nat.eq_of_beq_eq_true hb.2) (Region.free_spec hi hb.1.1.2) (by simpa using hb.1.2) (.inr ⟨hw a ha, rfl⟩) fun w' hw' => ?_
  rw [hd]; exact h w' hw' _ (ha.put hlt undef)
/-- What writes: each of those that may come up. -/
def AW (P : Program) (ops : Array Oper) (Q : Exit → Act → World → Prop) (pu rd : List Nat) (H : World → Prop) (D : World → World → Prop) (f : Nat) (l : Array Bool) (n : Nat) (e : Env) (w : World) (i : Nat) : Prop :=
  ∀ a, Ok n e a → wpOp P ops Q i (fun a' w' => (pu.contains i = true → D w w') ∧ ∀ w'', D w' w'' → (needs ops pu rd i = true → H w'') ∧ anyC P ops Q pu rd H D f (l.setIfInBounds i true) a' w'') a w
theorem an_ready {rs : List Nat} (hr : Region.ready .any ops l = rs) (hne : rs.isEmpty = false) (h : ∀ i ∈ rs, AW P ops Q pu rd H D f l n e w i) : AN P ops Q pu rd H D (f + 1) l n e w := fun a ha =>
  ⟨fun h0 => (by rw [hr] at h0; rw [h0] at hne; cases hne), fun i hi => h i (hr ▸ hi) a ha⟩
theorem aw_nil : ∀ i ∈ ([] : List Nat), AW P ops Q pu rd H D f l n e w i := fun i h => by cases h
theorem aw_cons {i : Nat} {rs : List Nat} (h : AW P ops Q pu rd H D f l n e w i) (k : ∀ i ∈ rs, AW P ops Q pu rd H D f l n e w i) : ∀ j ∈ i :: rs, AW P ops Q pu rd H D f l n e w j := fun j hj => by
  rcases List.mem_cons.1 hj with rfl | hj
  · exact h
  · exact k j hj
/-- What is asked of a write, closed. -/
def awB (ops : Array Oper) (pu rd : List Nat) (i : Nat) (b : Bool) : Bool := !pu.contains i && (needs ops pu rd i == b)
theorem aw_step {i : Nat} {oi : Oper} {b : Bool} (hi : ops[i]? = some oi) (hw : ∀ a, Ok n e a → Region.wanted oi (yielded ops a.tmps) = true) (hl : l.setIfInBounds i true = l') (hn : awB ops pu rd i b = true)
    (h : ∀ a, Ok n e a → oi.wp P a w (fun a' w' => ∀ w'', D w' w'' → (b = true → H w'') ∧ anyC P ops Q pu rd H D f l' a' w'') Q) : AW P ops Q pu rd H D f l n e w i := fun a ha => by
  subst hl
  simp only [awB, Bool.and_eq_true, Bool.not_eq_true', beq_iff_eq] at hn
  unfold wpOp
  simp only [hi]
  rw [if_pos (hw a ha)]
  refine .inl (Oper.wp_mono (fun a' w' h' => ⟨fun hp => (by rw [hn.1] at hp; cases hp), fun w'' hw'' => ⟨fun hq => (h' w'' hw'').1 (by rw [← hn.2]; exact hq), (h' w'' hw'').2⟩⟩) (h a ha))
theorem aw_v {i d : Nat} {oi : Oper} {v : Value} {w1 : World} (hi : ops[i]? = some oi) (hd : oi.dst = some d) (hlt : Nat.blt d n = true) (hw : ∀ a, Ok n e a → Region.wanted oi (yielded ops a.tmps) = true)
    (hy : ∀ a, Ok n e a → (execOp a.eval oi).run P w = .ok (.value v) w1) (hl : l.setIfInBounds i true = l') (b : Bool) (hn : awB ops pu rd i b = true)
    (h : ∀ w', D w1 w' → (b = true → H w') ∧ AN P ops Q pu rd H D f l' n ((d, v) :: e) w') : AW P ops Q pu rd H D f l n e w i :=
  aw_step hi hw hl hn fun a ha => by
    unfold Oper.wp
    rw [hy a ha, Oper.upon_value, hd]
    exact fun w' hw' => ⟨(h w' hw').1, (h w' hw').2 _ (ha.put hlt v)⟩
theorem aw_v0 {i : Nat} {oi : Oper} {v : Value} {w1 : World} (hi : ops[i]? = some oi) (hd : oi.dst = none) (hw : ∀ a, Ok n e a → Region.wanted oi (yielded ops a.tmps) = true)
    (hy : ∀ a, Ok n e a → (execOp a.eval oi).run P w = .ok (.value v) w1) (hl : l.setIfInBounds i true = l') (b : Bool) (hn : awB ops pu rd i b = true)
    (h : ∀ w', D w1 w' → (b = true → H w') ∧ AN P ops Q pu rd H D f l' n e w') : AW P ops Q pu rd H D f l n e w i :=
  aw_step hi hw hl hn fun a ha => by
    unfold Oper.wp
    rw [hy a ha, Oper.upon_value, hd]
    exact fun w' hw' => ⟨(h w' hw').1, (h w' hw').2 _ (ha.put_none v)⟩
theorem aw_u {i : Nat} {oi : Oper} {w1 : World} (hi : ops[i]? = some oi) (hd : oi.dst = none) (hw : ∀ a, Ok n e a → Region.wanted oi (yielded ops a.tmps) = true)
    (hy : ∀ a, Ok n e a → (execOp a.eval oi).run P w = .ok .skip w1) (hl : l.setIfInBounds i true = l') (b : Bool) (hn : awB ops pu rd i b = true)
    (h : ∀ w', D w1 w' → (b = true → H w') ∧ AN P ops Q pu rd H D f l' n e w') : AW P ops Q pu rd H D f l n e w i :=
  aw_step hi hw hl hn fun a ha => by
    unfold Oper.wp
    rw [hy a ha, Oper.upon_skip, hd]
    exact fun w' hw' => ⟨(h w' hw').1, (h w' hw').2 _ (ha.put_none _)⟩
theorem aw_c {i d : Nat} {oi : Oper} {g : FuncId} {args : Array Value} {K : Value → World → Prop} (hi : ops[i]? = some oi) (hd : oi.dst = some d) (hlt : Nat.blt d n = true) (hw : ∀ a, Ok n e a → Region.wanted oi (yielded ops a.tmps) = true)
    (hy : ∀ a, Ok n e a → (execOp a.eval oi).run P w = .ok (.enter g args) w) (hl : l.setIfInBounds i true = l') (b : Bool) (hn : awB ops pu rd i b = true)
    (hc : Calls P g args w (Ret K)) (h : ∀ v w1, K v w1 → ∀ w', D w1 w' → (b = true → H w') ∧ AN P ops Q pu rd H D f l' n ((d, v) :: e) w') : AW P ops Q pu rd H D f l n e w i :=
  aw_step hi hw hl hn fun a ha => by
    unfold Oper.wp
    rw [hy a ha, Oper.upon_enter, hd]
    refine hc.mono fun x w1 ⟨v, hx, hk⟩ => ?_
    subst hx
    exact fun w' hw' => ⟨(h v w1 hk w' hw').1, (h v w1 hk w' hw').2 _ (ha.put hlt v)⟩
theorem aw_c0 {i : Nat} {oi : Oper} {g : FuncId} {args : Array Value} {K : Value → World → Prop} (hi : ops[i]? = some oi) (hd : oi.dst = none) (hw : ∀ a, Ok n e a → Region.wanted oi (yielded ops a.tmps) = true)
    (hy : ∀ a, Ok n e a → (execOp a.eval oi).run P w = .ok (.enter g args) w) (hl : l.setIfInBounds i true = l') (b : Bool) (hn : awB ops pu rd i b = true)
    (hc : Calls P g args w (Ret K)) (h : ∀ v w1, K v w1 → ∀ w', D w1 w' → (b = true → H w') ∧ AN P ops Q pu rd H D f l' n e w') : AW P ops Q pu rd H D f l n e w i :=
  aw_step hi hw hl hn fun a ha => by
    unfold Oper.wp
    rw [hy a ha, Oper.upon_enter, hd]
    refine hc.mono fun x w1 ⟨v, hx, hk⟩ => ?_
    subst hx
    exact fun w' hw' => ⟨(h v w1 hk w' hw').1, (h v w1 hk w' hw').2 _ (ha.put_none v)⟩
theorem aw_skip {i d : Nat} {oi : Oper} (hi : ops[i]? = some oi) (hd : oi.dst = some d) (hlt : Nat.blt d n = true) (hw : ∀ a, Ok n e a → Region.wanted oi (yielded ops a.tmps) = false) (hl : l.setIfInBounds i true = l') (b : Bool) (hn : awB ops pu rd i b = true)
    (h : ∀ w', D w w' → (b = true → H w') ∧ AN P ops Q pu rd H D f l' n ((d, undef) :: e) w') : AW P ops Q pu rd H D f l n e w i := fun a ha => by
  subst hl
  simp only [awB, Bool.and_eq_true, Bool.not_eq_true', beq_iff_eq] at hn
  unfold wpOp
  simp only [hi]
  rw [if_neg (by rw [hw a ha]; simp), hd]
  exact ⟨fun hp => (by rw [hn.1] at hp; cases hp), fun w' hw' => ⟨fun hq => (h w' hw').1 (by rw [← hn.2]; exact hq), (h w' hw').2 _ (ha.put hlt undef)⟩⟩
theorem aw_skip0 {i : Nat} {oi : Oper} (hi : ops[i]? = some oi) (hd : oi.dst = none) (hw : ∀ a, Ok n e a → Region.wanted oi (yielded ops a.tmps) = false) (hl : l.setIfInBounds i true = l') (b : Bool) (hn : awB ops pu rd i b = true)
    (h : ∀ w', D w w' → (b = true → H w') ∧ AN P ops Q pu rd H D f l' n e w') : AW P ops Q pu rd H D f l n e w i := fun a ha => by
  subst hl
  simp only [awB, Bool.and_eq_true, Bool.not_eq_true', beq_iff_eq] at hn
  unfold wpOp
  simp only [hi]
  rw [if_neg (by rw [hw a ha]; simp), hd]
  exact ⟨fun hp => (by rw [hn.1] at hp; cases hp), fun w' hw' => ⟨fun hq => (h w' hw').1 (by rw [← hn.2]; exact hq), (h w' hw').2 _ (ha.put_none undef)⟩⟩
end
end Wk
end Go.Proofs.Ytnbakpoahcndpaa
