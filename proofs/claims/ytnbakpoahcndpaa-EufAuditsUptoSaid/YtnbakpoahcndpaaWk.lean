/- The program logic of this claim: frames as short lists of the live slots, one lemma per kind of operation, structured code, regions that draw their order. Nothing of the program stands here. -/
import Derived.Deep.Quiet
import Derived.Laws.AppendOwn
import Derived.Laws.Slices
import Derived.Laws.Strings
import Derived.Laws.IdiomCopy
import Derived.Tactics
import Derived.KernelRfl
import Derived.Orders
set_option linter.unusedVariables false
set_option linter.unusedSimpArgs false
namespace Go.Proofs.Ytnbakpoahcndpaa
namespace Wk

/-! ### Frames -/
abbrev Env := List (Nat × Value)
def look : Env → Nat → Option Value
  | [], _ => none
  | (t, v) :: e, s => cond (Nat.beq t s) (some v) (look e s)
def ev (e : Env) : Operand → Option Value
  | .tmp t => look e t
  | .const v => some v
  | .global g => some (.pointer (some ⟨g, 0, none⟩))
  | .func f => some (.func (.func f) #[] #[])
structure Ok (n : Nat) (e : Env) (a : Act) : Prop where
  size : a.tmps.size = n
  defers : a.defers = []
  look : ∀ t v, look e t = some v → a.tmps[t]? = some v
theorem Ok.ev {n : Nat} {e : Env} {a : Act} (h : Ok n e a) {x : Operand} {v : Value} (hx : ev e x = some v) : a.eval x = v := by
  cases x with
  | tmp t =>
    have := h.look t v hx
    simp [Act.eval, this]
  | const c => simpa [Wk.ev, Act.eval] using hx
  | global g => simpa [Wk.ev, Act.eval] using hx
  | func f => simpa [Wk.ev, Act.eval] using hx
theorem Ok.put {n : Nat} {e : Env} {a : Act} (h : Ok n e a) {d : Nat} (hd : Nat.blt d n = true) (v : Value) : Ok n ((d, v) :: e) (a.put (some d) v) := by
  have hd' : d < a.tmps.size := by rw [h.size]; exact Nat.blt_eq.mp hd
  refine ⟨by simp [Act.put, h.size], by simp [Act.put, h.defers], fun t u ht => ?_⟩
  simp only [Wk.look] at ht
  by_cases hdt : d = t
  · subst hdt
    have hb : Nat.beq d d = true := Nat.beq_refl d
    rw [hb] at ht
    simp only [cond_true, Option.some.injEq] at ht
    subst ht
    simp [Act.put, hd']
  · have hb : Nat.beq d t = false := by
      cases hq : Nat.beq d t with
      | false => rfl
      | true => exact absurd (Nat.eq_of_beq_eq_true hq) hdt
    rw [hb] at ht
    simp only [cond_false] at ht
    simp only [Act.put]
    rw [Array.getElem?_setIfInBounds_ne hdt]
    exact h.look t u ht
theorem Ok.put_none {n : Nat} {e : Env} {a : Act} (h : Ok n e a) (v : Value) : Ok n e (a.put none v) := h
/-- Fewer slots, or the same ones in another spelling. -/
def sub (e' e : Env) : Prop := ∀ p ∈ e', look e p.1 = some p.2
theorem sub.nil {e : Env} : sub [] e := fun _ h => by cases h
theorem sub.cons {e' e : Env} {t : Nat} {v : Value} (h : look e t = some v) (k : sub e' e) : sub ((t, v) :: e') e := fun p hp => by
  rcases List.mem_cons.1 hp with rfl | hp
  · exact h
  · exact k p hp
theorem look_mem {e : Env} {t : Nat} {v : Value} (h : look e t = some v) : (t, v) ∈ e := by
  induction e with
  | nil => cases h
  | cons p e ih =>
    obtain ⟨s, u⟩ := p
    simp only [look] at h
    cases hb : Nat.beq s t with
    | true =>
      rw [hb] at h
      simp only [cond_true, Option.some.injEq] at h
      have := Nat.eq_of_beq_eq_true hb
      subst this; subst h
      exact List.mem_cons_self ..
    | false =>
      rw [hb] at h
      exact List.mem_cons_of_mem _ (ih h)
theorem Ok.weaken {n : Nat} {e e' : Env} {a : Act} (h : Ok n e a) (k : sub e' e) : Ok n e' a :=
  ⟨h.size, h.defers, fun t v ht => h.look t v (k (t, v) (look_mem ht))⟩

/-! ### The three kinds of goals: operations in sequence, code, what follows -/
def SL (P : Program) (ops : Array Oper) (Q : Exit → Act → World → Prop) (l : List Oper) (n : Nat) (e : Env) (w : World) : Prop := ∀ a, Ok n e a → wpList P ops Q l a w
def CW (P : Program) (c : Code) (Q : Exit → Act → World → Prop) (n : Nat) (e : Env) (w : World) : Prop := ∀ a, Ok n e a → c.wp P Q a w
def NX (Q : Exit → Act → World → Prop) (x : Exit) (n : Nat) (e : Env) (w : World) : Prop := ∀ a, Ok n e a → Q x a w

section
variable {P : Program} {ops : Array Oper} {Q : Exit → Act → World → Prop} {n : Nat} {e : Env} {w : World} {rest : List Oper}
theorem sl_nil (h : NX Q .normal n e w) : SL P ops Q [] n e w := fun a ha => wpList_nil (h a ha)
theorem sl_sub {l : List Oper} {e' : Env} (k : sub e' e) (h : SL P ops Q l n e' w) : SL P ops Q l n e w := fun a ha => h a (ha.weaken k)
theorem cw_sub {c : Code} {e' : Env} (k : sub e' e) (h : CW P c Q n e' w) : CW P c Q n e w := fun a ha => h a (ha.weaken k)
theorem nx_sub {x : Exit} {e' : Env} (k : sub e' e) (h : NX Q x n e' w) : NX Q x n e w := fun a ha => h a (ha.weaken k)
/-- From the frame at the call's begin. -/
theorem calls_of {f : FuncId} {fn : Func} {c : Code} {args : Array Value} {R : Ending → World → Prop} (hf : P.funcs[f]? = some fn) (hb : fn.body = some c)
    (e : Env) (N : Nat) (hN : fn.ntmps = N) (hs : (Nat.ble args.size N) = true) (he : ∀ p ∈ e, args[p.1]? = some p.2)
    (h : CW P c (bodyPost P fn R) N e w) : Calls P f args w R := by
  have hs' : args.size ≤ N := Nat.ble_eq.mp hs
  refine calls_of_wp hf hb (h _ ⟨by simp [hN]; omega, rfl, fun t v ht => ?_⟩)
  have h1 := he (t, v) (look_mem ht)
  have h2 : t < args.size := (Array.getElem?_eq_some_iff.1 h1).1
  simp only [Array.getElem?_append, h2, if_true]
  exact h1

/-! ### Structured code -/
theorem cw_seq {x y : Code} (h : CW P x (Exit.then (y.wp P Q) Q) n e w) : CW P (Code.seq x y) Q n e w := fun a ha => wp_seq (h a ha)
/-- Several ways through x meet before y. -/
theorem cw_join {x y : Code} (R : Act → World → Prop) (hy : ∀ a w, R a w → y.wp P Q a w) (h : CW P x (Exit.then R Q) n e w) : CW P (Code.seq x y) Q n e w := fun a ha =>
  wp_seq (wp_mono (h a ha) fun x a w hx => by cases x <;> first | exact hx | exact hy a w hx)
theorem nx_code {y : Code} {Q' : Exit → Act → World → Prop} (h : CW P y Q n e w) : NX (Exit.then (y.wp P Q) Q') .normal n e w := h
theorem nx_to {R : Act → World → Prop} (h : ∀ a, Ok n e a → R a w) : NX (Exit.then R Q) .normal n e w := h
theorem nx_block {id : Nat} (h : NX Q .normal n e w) : NX (Exit.inBlock id Q) .normal n e w := h
theorem nx_exit_then {id : Nat} {R : Act → World → Prop} (h : NX Q (.exit id) n e w) : NX (Exit.then R Q) (.exit id) n e w := h
theorem nx_exit_hit {id : Nat} (h : NX Q .normal n e w) : NX (Exit.inBlock id Q) (.exit id) n e w := fun a ha => by
  have := h a ha
  simpa [Exit.inBlock] using this
theorem nx_exit_miss {id id' : Nat} (hne : Nat.beq id' id = false) (h : NX Q (.exit id') n e w) : NX (Exit.inBlock id Q) (.exit id') n e w := fun a ha => by
  have h1 := h a ha
  have hne' : id' ≠ id := fun h => by subst h; simp at hne
  simpa [Exit.inBlock, hne'] using h1
theorem nx_ret_then {R : Act → World → Prop} (h : NX Q .ret n e w) : NX (Exit.then R Q) .ret n e w := h
theorem nx_ret_block {id : Nat} (h : NX Q .ret n e w) : NX (Exit.inBlock id Q) .ret n e w := h
theorem cw_block {id : Nat} {c : Code} (h : CW P c (Exit.inBlock id Q) n e w) : CW P (Code.block id c) Q n e w := fun a ha => wp_block (h a ha)
theorem cw_skip (h : NX Q .normal n e w) : CW P Code.skip Q n e w := fun a ha => wp_skip (h a ha)
theorem cw_exit {id : Nat} (h : NX Q (.exit id) n e w) : CW P (Code.exit id) Q n e w := fun a ha => wp_exit (h a ha)
theorem cw_ret (h : NX Q .ret n e w) : CW P Code.ret Q n e w := fun a ha => wp_ret (h a ha)
theorem cw_cond {c : Operand} {x y : Code} {b : Bool} (hc : ev e c = some (.bool b)) (ht : b = true → CW P x Q n e w) (hf : b = false → CW P y Q n e w) : CW P (Code.cond c x y) Q n e w := fun a ha =>
  wp_cond_split (ha.ev hc) (fun h => ht h a ha) (fun h => hf h a ha)
theorem cw_cond_p {c : Operand} {x y : Code} {p : Prop} [Decidable p] (hc : ev e c = some (.bool (decide p))) (ht : p → CW P x Q n e w) (hf : ¬ p → CW P y Q n e w) : CW P (Code.cond c x y) Q n e w :=
  cw_cond hc (fun h => ht (of_decide_eq_true h)) (fun h => hf (of_decide_eq_false h))
theorem cw_cond_t {c : Operand} {x y : Code} (hc : ev e c = some (.bool true)) (ht : CW P x Q n e w) : CW P (Code.cond c x y) Q n e w :=
  cw_cond hc (fun _ => ht) (fun h => by cases h)
theorem cw_cond_f {c : Operand} {x y : Code} (hc : ev e c = some (.bool false)) (hf : CW P y Q n e w) : CW P (Code.cond c x y) Q n e w :=
  cw_cond hc (fun h => by cases h) (fun _ => hf)
theorem cw_region {id : Nat} {l : List Oper} (h : SL P l.toArray Q l n e w) : CW P (Code.region id l.toArray false) Q n e w := fun a ha => wp_region_lit (h a ha)
/-- A loop: the number falls from round to round. -/
theorem cw_loop {c : Code} (I : Nat → Act → World → Prop) (h0 : ∀ a, Ok n e a → ∃ m, I m a w)
    (round : ∀ m a w, I m a w → c.wp P (Exit.then (fun a' w' => ∃ m', m' < m ∧ I m' a' w') Q) a w) : CW P (Code.loop c) Q n e w := by
  intro a ha
  obtain ⟨m, hm⟩ := h0 a ha
  clear h0 ha
  intro b k cs
  have key : ∀ m a w, I m a w → ∃ x a' w', Q x a' w' ∧ Arrives P (lone (b.at a (.code c :: .inLoop c :: k)) cs w) b k cs x a' w' := by
    intro m
    induction m using Nat.strongRecOn with
    | _ m ih =>
      intro a w hI
      obtain ⟨x, a1, w1, hq, harr⟩ := round m a w hI b (.inLoop c :: k) cs
      cases x with
      | normal =>
        obtain ⟨m', hlt, hI1⟩ := hq
        obtain ⟨x2, a2, w2, hq2, harr2⟩ := ih m' hlt a1 w1 hI1
        exact ⟨x2, a2, w2, hq2, .of_steps (Steps.trans harr (.one step_inLoop)) harr2⟩
      | exit id => exact ⟨_, a1, w1, hq, .pass (x := .inLoop c) rfl (fun _ _ => .inl (by simp)) harr⟩
      | goto l => exact ⟨_, a1, w1, hq, .pass (x := .inLoop c) rfl (fun _ _ => .inl (by simp)) harr⟩
      | ret => exact ⟨_, a1, w1, hq, .pass (x := .inLoop c) rfl (fun _ _ => .inl (by simp)) harr⟩
      | panic ch => exact ⟨_, a1, w1, hq, .pass (x := .inLoop c) rfl (fun _ _ => .inl (by simp)) harr⟩
      | outgrown => exact ⟨_, a1, w1, hq, .pass (x := .inLoop c) rfl (fun _ _ => .inl (by simp)) harr⟩
  obtain ⟨x, a', w', hq, harr⟩ := key m a w hm
  exact ⟨x, a', w', hq, .of_steps (.one step_loop) harr⟩

/-! ### The end -/
/-- The call returns, and this holds of its value and of the world. -/
def Ret (K : Value → World → Prop) : Ending → World → Prop := fun x w => ∃ v, x = .returned v ∧ K v w
theorem Ret.mono {f : FuncId} {args : Array Value} {K K' : Value → World → Prop} (h : Calls P f args w (Ret K)) (k : ∀ v w', K v w' → K' v w') : Calls P f args w (Ret K') :=
  h.mono fun _ _ ⟨v, hv, hk⟩ => ⟨v, hv, k v _ hk⟩
theorem nx_body_ret {fn : Func} {R : Ending → World → Prop} {v : Value} (hr : ∀ a, Ok n e a → (results fn a.tmps).run P w = .ok v w) (hR : R (.returned v) w) : NX (bodyPost P fn R) .ret n e w :=
  fun a ha => ⟨ha.defers, v, hr a ha, hR⟩
theorem nx_body_end {fn : Func} {R : Ending → World → Prop} {v : Value} (hr : ∀ a, Ok n e a → (results fn a.tmps).run P w = .ok v w) (hR : R (.returned v) w) : NX (bodyPost P fn R) .normal n e w :=
  fun a ha => ⟨ha.defers, v, hr a ha, hR⟩
theorem Ok.getD {a : Act} (h : Ok n e a) {t : Nat} {v : Value} (ht : Wk.look e t = some v) : a.tmps.getD t undef = v := by
  have := h.look t v ht
  simp [this]
theorem res0 {fn : Func} (hf : fn.results = #[]) : ∀ a : Act, Ok n e a → (results fn a.tmps).run P w = .ok (.tuple #[]) w := fun a _ => by simp [results, hf]
theorem res1 {fn : Func} {t : Nat} (hf : fn.results = #[.tmp t]) {v : Value} (ht : look e t = some v) : ∀ a, Ok n e a → (results fn a.tmps).run P w = .ok v w := fun a ha => by
  have h := ha.getD ht
  simp only [results, hf]
  simpa using h
theorem res2 {fn : Func} {t u : Nat} (hf : fn.results = #[.tmp t, .tmp u]) {v x : Value} (ht : look e t = some v) (hu : look e u = some x) : ∀ a, Ok n e a → (results fn a.tmps).run P w = .ok (.tuple #[v, x]) w := fun a ha => by
  have h := ha.getD ht
  have k := ha.getD hu
  simp only [results, hf]
  simp at h k
  simp [h, k]
theorem res3 {fn : Func} {t u s : Nat} (hf : fn.results = #[.tmp t, .tmp u, .tmp s]) {v x y : Value} (ht : look e t = some v) (hu : look e u = some x) (hs : look e s = some y) : ∀ a, Ok n e a → (results fn a.tmps).run P w = .ok (.tuple #[v, x, y]) w := fun a ha => by
  have h := ha.getD ht
  have k := ha.getD hu
  have l := ha.getD hs
  simp only [results, hf]
  simp at h k l
  simp [h, k, l]

/-! ### One operation in a sequence -/
theorem sl_step {o : Oper} (hw : ∀ a, Ok n e a → Region.wanted o (yielded ops a.tmps) = true) (h : ∀ a, Ok n e a → o.wp P a w (wpList P ops Q rest) Q) : SL P ops Q (o :: rest) n e w := fun a ha => by
  unfold wpList
  rw [if_pos (hw a ha)]
  exact .inl (h a ha)
theorem wanted_none {o : Oper} (hg : o.guard = none) : ∀ a, Ok n e a → Region.wanted o (yielded ops a.tmps) = true := fun a _ => by simp [Region.wanted, hg]
theorem yielded_of {j s : Nat} {b : Bool} (hs : (ops[j]?).bind (·.dst) = some s) (hb : look e s = some (.bool b)) : ∀ a, Ok n e a → yielded ops a.tmps j = some b := fun a ha => by
  have := ha.look s _ hb
  simp [yielded, hs, this]
theorem wanted_some {o : Oper} {j s : Nat} {b : Bool} (hg : o.guard = some (j, b)) (hs : (ops[j]?).bind (·.dst) = some s) (hb : look e s = some (.bool b)) : ∀ a, Ok n e a → Region.wanted o (yielded ops a.tmps) = true := fun a ha => by
  simp [Region.wanted, hg, yielded_of hs hb a ha]
theorem wanted_not {o : Oper} {j s : Nat} {b b' : Bool} (hg : o.guard = some (j, b)) (hs : (ops[j]?).bind (·.dst) = some s) (hb : look e s = some (.bool b')) (hne : b' = !b) : ∀ a, Ok n e a → Region.wanted o (yielded ops a.tmps) = false := fun a ha => by
  subst hne
  cases b <;> simp [Region.wanted, hg, yielded_of hs hb a ha]
/-- Not carried out: its guard says no. -/
theorem sl_skip {o : Oper} {d : Nat} (hd : o.dst = some d) (hlt : Nat.blt d n = true) (hw : ∀ a, Ok n e a → Region.wanted o (yielded ops a.tmps) = false) (h : SL P ops Q rest n ((d, undef) :: e) w) : SL P ops Q (o :: rest) n e w := fun a ha => by
  unfold wpList
  rw [if_neg (by rw [hw a ha]; simp), hd]
  exact h _ (ha.put hlt _)
theorem sl_skip0 {o : Oper} (hd : o.dst = none) (hw : ∀ a, Ok n e a → Region.wanted o (yielded ops a.tmps) = false) (h : SL P ops Q rest n e w) : SL P ops Q (o :: rest) n e w := fun a ha => by
  unfold wpList
  rw [if_neg (by rw [hw a ha]; simp), hd]
  exact h _ (ha.put_none _)
/-- It yields a value. -/
theorem sl_v {o : Oper} {d : Nat} {v : Value} {w' : World} (hd : o.dst = some d) (hlt : Nat.blt d n = true) (hw : ∀ a, Ok n e a → Region.wanted o (yielded ops a.tmps) = true)
    (hr : ∀ a, Ok n e a → (execOp a.eval o).run P w = .ok (.value v) w') (h : SL P ops Q rest n ((d, v) :: e) w') : SL P ops Q (o :: rest) n e w :=
  sl_step hw fun a ha => by
    unfold Oper.wp
    rw [hr a ha, Oper.upon_value, hd]
    exact h _ (ha.put hlt v)
theorem sl_v0 {o : Oper} {v : Value} {w' : World} (hd : o.dst = none) (hw : ∀ a, Ok n e a → Region.wanted o (yielded ops a.tmps) = true)
    (hr : ∀ a, Ok n e a → (execOp a.eval o).run P w = .ok (.value v) w') (h : SL P ops Q rest n e w') : SL P ops Q (o :: rest) n e w :=
  sl_step hw fun a ha => by
    unfold Oper.wp
    rw [hr a ha, Oper.upon_value, hd]
    exact h _ (ha.put_none v)
/-- It yields nothing (a store). -/
theorem sl_u {o : Oper} {w' : World} (hd : o.dst = none) (hw : ∀ a, Ok n e a → Region.wanted o (yielded ops a.tmps) = true)
    (hr : ∀ a, Ok n e a → (execOp a.eval o).run P w = .ok .skip w') (h : SL P ops Q rest n e w') : SL P ops Q (o :: rest) n e w :=
  sl_step hw fun a ha => by
    unfold Oper.wp
    rw [hr a ha, Oper.upon_skip, hd]
    exact h _ (ha.put_none _)
/-- A call. -/
theorem sl_call {o : Oper} {d : Nat} {f : FuncId} {args : Array Value} {K : Value → World → Prop} (hd : o.dst = some d) (hlt : Nat.blt d n = true) (hw : ∀ a, Ok n e a → Region.wanted o (yielded ops a.tmps) = true)
    (hr : ∀ a, Ok n e a → (execOp a.eval o).run P w = .ok (.enter f args) w) (hc : Calls P f args w (Ret K)) (h : ∀ v w', K v w' → SL P ops Q rest n ((d, v) :: e) w') : SL P ops Q (o :: rest) n e w :=
  sl_step hw fun a ha => by
    unfold Oper.wp
    rw [hr a ha, Oper.upon_enter, hd]
    refine hc.mono fun x w' hx => ?_
    obtain ⟨v, rfl, hk⟩ := hx
    exact h v w' hk _ (ha.put hlt v)
theorem sl_call0 {o : Oper} {f : FuncId} {args : Array Value} {K : Value → World → Prop} (hd : o.dst = none) (hw : ∀ a, Ok n e a → Region.wanted o (yielded ops a.tmps) = true)
    (hr : ∀ a, Ok n e a → (execOp a.eval o).run P w = .ok (.enter f args) w) (hc : Calls P f args w (Ret K)) (h : ∀ v w', K v w' → SL P ops Q rest n e w') : SL P ops Q (o :: rest) n e w :=
  sl_step hw fun a ha => by
    unfold Oper.wp
    rw [hr a ha, Oper.upon_enter, hd]
    refine hc.mono fun x w' hx => ?_
    obtain ⟨v, rfl, hk⟩ := hx
    exact h v w' hk _ (ha.put_none v)
end
end Wk
end Go.Proofs.Ytnbakpoahcndpaa
