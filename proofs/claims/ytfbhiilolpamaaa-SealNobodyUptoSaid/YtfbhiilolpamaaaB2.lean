/-
  BASE 2: how far a world may have gone on; the walk over an environment of slots. Plain definitions and theorems over any program.
-/
import Derived.Test.YtfbhiilolpamaaaB1
set_option linter.unusedVariables false
namespace Go.Inc
open Go Go.RowKit

theorem heap_old (w : World) (o : Obj) {i : Nat} (h : i < w.heap.size) : (w.alloc o).heap[i]? = w.heap[i]? := by
  show (w.heap.push o)[i]? = w.heap[i]?
  rw [Array.getElem?_push, if_neg (Nat.ne_of_lt h)]
theorem heap_new (w : World) (o : Obj) : (w.alloc o).heap[w.heap.size]? = some o := by
  show (w.heap.push o)[w.heap.size]? = some o
  simp
/-- From (w, K) to (w', K'): nothing that was there has turned, but for the blocks X. -/
structure Ext (X : Nat → Prop) (w : World) (K : Ghost) (w' : World) (K' : Ghost) : Prop where
  le : K.le K'
  heap : ∀ b, b < w.heap.size → ¬ X b → w'.heap[b]? = w.heap[b]?
  ghost : ∀ b, b < w.heap.size → ¬ X b → K' b = K b
  size : w.heap.size ≤ w'.heap.size
  os : w'.os = w.os
  tape : w'.tape = w.tape
  output : w'.output = w.output
/-- no block -/
def NX : Nat → Prop := fun _ => False
theorem Ext.refl (X : Nat → Prop) (w : World) (K : Ghost) : Ext X w K w K := ⟨Ghost.le.refl K, fun _ _ _ => rfl, fun _ _ _ => rfl, Nat.le_refl _, rfl, rfl, rfl⟩
section
variable {X Y : Nat → Prop} {w0 w w' : World} {K0 K K' : Ghost}
theorem Ext.comp (h : Ext X w0 K0 w K) (h' : Ext Y w K w' K') (hY : ∀ b, Y b → b < w0.heap.size → X b) : Ext X w0 K0 w' K' :=
  ⟨h.le.trans h'.le, fun b hb hx => (h'.heap b (Nat.lt_of_lt_of_le hb h.size) (fun y => hx (hY b y hb))).trans (h.heap b hb hx),
   fun b hb hx => (h'.ghost b (Nat.lt_of_lt_of_le hb h.size) (fun y => hx (hY b y hb))).trans (h.ghost b hb hx),
   Nat.le_trans h.size h'.size, h'.os.trans h.os, h'.tape.trans h.tape, h'.output.trans h.output⟩
theorem Ext.trans (h : Ext X w0 K0 w K) (h' : Ext X w K w' K') : Ext X w0 K0 w' K' := h.comp h' (fun _ hb _ => hb)
theorem Ext.andN (h : Ext X w0 K0 w K) (h' : Ext NX w K w' K') : Ext X w0 K0 w' K' := h.comp h' (fun _ hb _ => hb.elim)
theorem Ext.weak (h : Ext X w0 K0 w K) (hXY : ∀ b, b < w0.heap.size → X b → Y b) : Ext Y w0 K0 w K :=
  ⟨h.le, fun b hb hy => h.heap b hb (fun x => hy (hXY b hb x)), fun b hb hy => h.ghost b hb (fun x => hy (hXY b hb x)), h.size, h.os, h.tape, h.output⟩
theorem Ext.ofN (h : Ext NX w0 K0 w K) : Ext X w0 K0 w K := h.weak (fun _ _ x => x.elim)
theorem Ext.drew (w : World) (K : Ghost) : Ext X w K w.drew K := ⟨Ghost.le.refl K, fun _ _ _ => rfl, fun _ _ _ => rfl, Nat.le_refl _, rfl, rfl, rfl⟩
theorem Models.drew (h : Models w K) : Models w.drew K := h
theorem Ext.alloc (w : World) (K : Ghost) (o : Obj) : Ext X w K (w.alloc o) K := ⟨Ghost.le.refl K, fun b hb _ => heap_old w o hb, fun _ _ _ => rfl, by simp, rfl, rfl, rfl⟩
theorem Models.alloc (h : Models w K) (o : Obj) : Models (w.alloc o) K := fun b t l hb => by
  obtain ⟨c, fr, hc, hp⟩ := h b t l hb
  exact ⟨c, fr, (heap_old w o (h.lt hb)).trans hc, hp⟩
/-- a new row of which all that stands in it is known for good -/
theorem Ext.allocRow (hM : Models w K) (e : TypeId) (cs : Array Value) (l : List Value) : Ext X w K (w.alloc (.cells cs e)) (K.set w.heap.size e l) :=
  ⟨Ghost.le_set_new (hM.none_of_ge (Nat.le_refl _)) _ _, fun b hb _ => heap_old w _ hb, fun b hb _ => Ghost.set_other _ _ _ (by omega), by simp, rfl, rfl, rfl⟩
theorem Models.allocRow (h : Models w K) (e : TypeId) (cs : Array Value) (l : List Value) (hl : l <+: cs.toList) : Models (w.alloc (.cells cs e)) (K.set w.heap.size e l) := fun b t l' hb => by
  by_cases he : b = w.heap.size
  · subst he
    rw [Ghost.set_same] at hb
    cases hb
    exact ⟨cs, (0, 0), heap_new w _, hl⟩
  · rw [Ghost.set_other _ _ _ he] at hb
    exact (h.alloc _) b t l' hb
/-- what is exclusive may be written -/
theorem Models.setCell (h : Models w K) {a : Addr} (ha : K a.block = none) (v : Value) : Models (w.setCell a v) K := fun b t l hb => by
  obtain ⟨c, fr, hc, hp⟩ := h b t l hb
  have hne : b ≠ a.block := fun e => by subst e; rw [ha] at hb; cases hb
  exact ⟨c, fr, (heap_setCell_other w a b v hne).trans hc, hp⟩
theorem Ext.setCell (w : World) (K : Ghost) (a : Addr) (v : Value) (hX : X a.block) : Ext X w K (w.setCell a v) K :=
  ⟨Ghost.le.refl K, fun b hb hx => heap_setCell_other w a b v (fun e => hx (e ▸ hX)), fun _ _ _ => rfl, by simp, rfl, rfl, rfl⟩
theorem Ext.cells {b : Nat} {c : Array Value} {t : TypeId} {fr : Nat × Nat} (h : Ext X w K w' K') (hb : w.heap[b]? = some (.cells c t fr)) (hx : ¬ X b) : w'.heap[b]? = some (.cells c t fr) :=
  (h.heap b (Array.getElem?_eq_some_iff.1 hb).1 hx).trans hb
end

/-! ### the environment -/
abbrev Env := Nat → Value
def ev (ρ : Env) : Operand → Value
  | .tmp t => ρ t
  | .const v => v
  | .global g => .pointer (some ⟨g, 0, none⟩)
  | .func f => .func (.func f) #[] #[]
def upd (ρ : Env) (d : Nat) (v : Value) : Env := fun t => bif Nat.beq t d then v else ρ t
def updO (ρ : Env) : Option Nat → Value → Env
  | some d, v => upd ρ d v
  | none, _ => ρ
def envOf (args : List Value) : Env := fun t => args.getD t undef

structure Fits (n : Nat) (ρ : Env) (a : Act) : Prop where
  size : a.tmps.size = n
  defers : a.defers = []
  get : ∀ t, a.tmps.getD t undef = ρ t
theorem Fits.eval {n : Nat} {ρ : Env} {a : Act} (h : Fits n ρ a) : a.eval = ev ρ := by
  funext o
  cases o with
  | tmp t => exact h.get t
  | const v => rfl
  | global g => rfl
  | func f => rfl
theorem upd_same (ρ : Env) (d : Nat) (v : Value) : upd ρ d v d = v := by simp [upd]
theorem upd_ne (ρ : Env) {d t : Nat} (v : Value) (h : t ≠ d) : upd ρ d v t = ρ t := by
  simp only [upd]
  cases hb : Nat.beq t d with
  | true => exact absurd (Nat.eq_of_beq_eq_true hb) h
  | false => rfl
theorem Fits.upd {n : Nat} {ρ : Env} {a : Act} (h : Fits n ρ a) {d : Nat} (hd : d < n) (v : Value) : Fits n (upd ρ d v) (a.put (some d) v) := by
  refine ⟨by simp [Act.put, h.size], h.defers, fun t => ?_⟩
  by_cases e : t = d
  · subst e
    rw [upd_same]
    have : t < a.tmps.size := by rw [h.size]; exact hd
    simp [Act.put, this]
  · rw [upd_ne _ _ e, ← h.get t]
    simp [Act.put, Array.getElem?_setIfInBounds_ne (Ne.symm e)]
def dstOk (n : Nat) : Option Nat → Bool
  | some d => Nat.blt d n
  | none => true
theorem Fits.updO {n : Nat} {ρ : Env} {a : Act} (h : Fits n ρ a) {d : Option Nat} (hd : dstOk n d = true) (v : Value) : Fits n (updO ρ d v) (a.put d v) := by
  cases d with
  | none => exact h
  | some d => exact h.upd (Nat.le_of_ble_eq_true hd) v

def yieldE (ops : Array Oper) (ρ : Env) (j : Nat) : Option Bool :=
  match (ops[j]?).bind (·.dst) with
  | some d => match ρ d with
    | .bool b => some b
    | _ => none
  | none => none
theorem Fits.yielded {n : Nat} {ρ : Env} {a : Act} (h : Fits n ρ a) (ops : Array Oper) : yielded ops a.tmps = yieldE ops ρ := by
  funext j
  unfold Go.yielded yieldE
  cases hd : (ops[j]?).bind (·.dst) with
  | none => rfl
  | some d =>
    have hg := h.get d
    simp only [Option.bind_some]
    rcases Nat.lt_or_ge d a.tmps.size with hlt | hge
    · have e : a.tmps[d]? = some (ρ d) := by
        rw [← hg]
        simp [hlt]
      rw [e]
      cases ρ d <;> rfl
    · have e : ρ d = undef := by
        rw [← hg]
        simp [Array.getElem?_eq_none hge]
      rw [e, Array.getElem?_eq_none hge]
      rfl

/-- One operation, in any world: what it leaves. -/
def Step (P : Program) (o : Oper) (ρ : Env) (w : World) (N : Value → World → Prop) : Prop :=
  match (execOp (ev ρ) o).run P w with
  | .ok (.value v) w' => N v w'
  | .ok .skip w' => N undef w'
  | .ok (.enter f args) w' => Calls P f args w' fun e w'' => ∃ v, e = .returned v ∧ N v w''
  | _ => False
theorem Step.mono {P : Program} {o : Oper} {ρ : Env} {w : World} {N N' : Value → World → Prop} (h : Step P o ρ w N) (hN : ∀ v w', N v w' → N' v w') : Step P o ρ w N' := by
  unfold Step at *
  split at h
  · exact hN _ _ h
  · exact hN _ _ h
  · exact h.mono fun e w'' ⟨v, he, hv⟩ => ⟨v, he, hN _ _ hv⟩
  · exact h.elim
theorem Step.wp {P : Program} {n : Nat} {o : Oper} {ρ : Env} {a : Act} {w : World} {N : Value → World → Prop} (hf : Fits n ρ a) (h : Step P o ρ w N)
    {Kk : Act → World → Prop} {Q : Exit → Act → World → Prop} (hK : ∀ v w', N v w' → Kk (a.put o.dst v) w') : o.wp P a w Kk Q := by
  unfold Oper.wp
  rw [hf.eval]
  unfold Step at h
  split at h
  · rename_i v w' e
    rw [e]
    exact hK _ _ h
  · rename_i w' e
    rw [e]
    exact hK _ _ h
  · rename_i f args w' e
    rw [e, Oper.upon_enter]
    refine h.mono fun e w'' hh => ?_
    obtain ⟨v, rfl, hv⟩ := hh
    exact hK _ _ hv
  · exact h.elim
theorem Step.value {P : Program} {o : Oper} {ρ : Env} {w w' : World} {v : Value} {N : Value → World → Prop} (h : (execOp (ev ρ) o).run P w = .ok (.value v) w') (hN : N v w') : Step P o ρ w N := by
  unfold Step
  rw [h]
  exact hN
theorem Step.skip {P : Program} {o : Oper} {ρ : Env} {w w' : World} {N : Value → World → Prop} (h : (execOp (ev ρ) o).run P w = .ok .skip w') (hN : N undef w') : Step P o ρ w N := by
  unfold Step
  rw [h]
  exact hN
theorem Step.call {P : Program} {o : Oper} {ρ : Env} {w w' : World} {f : FuncId} {args : Array Value} {N : Value → World → Prop} (h : (execOp (ev ρ) o).run P w = .ok (.enter f args) w')
    (hN : Calls P f args w' fun e w'' => ∃ v, e = .returned v ∧ N v w'') : Step P o ρ w N := by
  unfold Step
  rw [h]
  exact hN

/-! ### code -/
abbrev Post := Exit → Env → World → Prop
def lift (n : Nat) (Q : Post) : Exit → Act → World → Prop := fun e a w => ∃ ρ, Fits n ρ a ∧ Q e ρ w
def WP (P : Program) (n : Nat) (c : Code) (Q : Post) (ρ : Env) (w : World) : Prop := ∀ a, Fits n ρ a → c.wp P (lift n Q) a w
def WL (P : Program) (n : Nat) (ops : Array Oper) (Q : Post) (rest : List Oper) (ρ : Env) (w : World) : Prop := ∀ a, Fits n ρ a → wpList P ops (lift n Q) rest a w
def thenQ (next : Env → World → Prop) (Q : Post) : Post
  | .normal, ρ, w => next ρ w
  | e, ρ, w => Q e ρ w
def blockQ (id : Nat) (Q : Post) : Post
  | .exit id', ρ, w => if id' = id then Q .normal ρ w else Q (.exit id') ρ w
  | e, ρ, w => Q e ρ w
section
variable {P : Program} {n : Nat} {Q : Post} {ρ : Env} {w : World}
theorem WP.mono {c : Code} {Q' : Post} (h : WP P n c Q ρ w) (hq : ∀ e ρ w, Q e ρ w → Q' e ρ w) : WP P n c Q' ρ w := fun a ha => wp_mono (h a ha) fun e a w ⟨ρ', hf, hQ⟩ => ⟨ρ', hf, hq _ _ _ hQ⟩
theorem WP_seq {x y : Code} (h : WP P n x (thenQ (WP P n y Q) Q) ρ w) : WP P n (.seq x y) Q ρ w := fun a ha => by
  refine wp_seq (wp_mono (h a ha) ?_)
  rintro e a' w' ⟨ρ', hf, hQ⟩
  cases e with
  | normal => exact hQ a' hf
  | exit id => exact ⟨ρ', hf, hQ⟩
  | goto l => exact ⟨ρ', hf, hQ⟩
  | ret => exact ⟨ρ', hf, hQ⟩
  | panic ch => exact ⟨ρ', hf, hQ⟩
  | outgrown => exact ⟨ρ', hf, hQ⟩
theorem WP_skip (h : Q .normal ρ w) : WP P n .skip Q ρ w := fun a ha => wp_skip ⟨ρ, ha, h⟩
theorem WP_ret (h : Q .ret ρ w) : WP P n .ret Q ρ w := fun a ha => wp_ret ⟨ρ, ha, h⟩
theorem WP_exit {id : Nat} (h : Q (.exit id) ρ w) : WP P n (.exit id) Q ρ w := fun a ha => wp_exit ⟨ρ, ha, h⟩
theorem WP_block {id : Nat} {c : Code} (h : WP P n c (blockQ id Q) ρ w) : WP P n (.block id c) Q ρ w := fun a ha => by
  refine wp_block (wp_mono (h a ha) ?_)
  rintro e a' w' ⟨ρ', hf, hQ⟩
  cases e with
  | exit id' =>
    simp only [blockQ] at hQ
    simp only [Exit.inBlock]
    split at hQ
    · rename_i e; rw [if_pos e]; exact ⟨ρ', hf, hQ⟩
    · rename_i e; rw [if_neg e]; exact ⟨ρ', hf, hQ⟩
  | normal => exact ⟨ρ', hf, hQ⟩
  | goto l => exact ⟨ρ', hf, hQ⟩
  | ret => exact ⟨ρ', hf, hQ⟩
  | panic ch => exact ⟨ρ', hf, hQ⟩
  | outgrown => exact ⟨ρ', hf, hQ⟩
theorem WP_cond {c : Operand} {x y : Code} (b : Bool) (hc : ev ρ c = .bool b) (ht : b = true → WP P n x Q ρ w) (hf : b = false → WP P n y Q ρ w) : WP P n (.cond c x y) Q ρ w := fun a ha =>
  wp_cond_split (by rw [ha.eval]; exact hc) (fun h => ht h a ha) (fun h => hf h a ha)
theorem wp_loop_ix {c : Code} {ι : Type} {Q : Exit → Act → World → Prop} {a : Act} {w : World} (I : ι → Act → World → Prop) (μ : ι → Nat) (i0 : ι) (h0 : I i0 a w)
    (round : ∀ i a w, I i a w → c.wp P (Exit.then (fun a' w' => ∃ i', I i' a' w' ∧ μ i' < μ i) Q) a w) : (Code.loop c).wp P Q a w := by
  intro b k cs
  have key : ∀ n i a w, μ i = n → I i a w → ∃ e a' w', Q e a' w' ∧ Arrives P (lone (b.at a (.code c :: .inLoop c :: k)) cs w) b k cs e a' w' := by
    intro n
    induction n using Nat.strongRecOn with
    | _ n ih =>
      intro i a w hn hI
      obtain ⟨e, a₁, w₁, hq, harr⟩ := round i a w hI b (.inLoop c :: k) cs
      cases e with
      | normal =>
        obtain ⟨i', hI₁, hlt⟩ := hq
        obtain ⟨e₂, a₂, w₂, hq₂, harr₂⟩ := ih (μ i') (hn ▸ hlt) i' a₁ w₁ rfl hI₁
        exact ⟨e₂, a₂, w₂, hq₂, .of_steps (Steps.trans harr (.one step_inLoop)) harr₂⟩
      | exit id => exact ⟨_, a₁, w₁, hq, .pass (x := .inLoop c) rfl (fun _ _ => .inl (by simp)) harr⟩
      | goto l => exact ⟨_, a₁, w₁, hq, .pass (x := .inLoop c) rfl (fun _ _ => .inl (by simp)) harr⟩
      | ret => exact ⟨_, a₁, w₁, hq, .pass (x := .inLoop c) rfl (fun _ _ => .inl (by simp)) harr⟩
      | panic ch => exact ⟨_, a₁, w₁, hq, .pass (x := .inLoop c) rfl (fun _ _ => .inl (by simp)) harr⟩
      | outgrown => exact ⟨_, a₁, w₁, hq, .pass (x := .inLoop c) rfl (fun _ _ => .inl (by simp)) harr⟩
  obtain ⟨e, a', w', hq, harr⟩ := key _ i0 a w rfl h0
  exact ⟨e, a', w', hq, .of_steps (.one step_loop) harr⟩
theorem WP_loop {c : Code} {ι : Type} (I : ι → Env → World → Prop) (μ : ι → Nat) (i0 : ι) (h0 : I i0 ρ w)
    (round : ∀ i ρ w, I i ρ w → WP P n c (thenQ (fun ρ' w' => ∃ i', I i' ρ' w' ∧ μ i' < μ i) Q) ρ w) : WP P n (.loop c) Q ρ w := fun a ha => by
  refine wp_loop_ix (fun i a w => ∃ ρ, Fits n ρ a ∧ I i ρ w) μ i0 ⟨ρ, ha, h0⟩ ?_
  rintro i a w ⟨ρ', hf, hI⟩
  refine wp_mono (round i ρ' w hI a hf) ?_
  rintro e a' w' ⟨ρ'', hf', hQ⟩
  cases e with
  | normal =>
    obtain ⟨i', h1, h2⟩ := hQ
    exact ⟨i', ⟨ρ'', hf', h1⟩, h2⟩
  | exit id => exact ⟨ρ'', hf', hQ⟩
  | goto l => exact ⟨ρ'', hf', hQ⟩
  | ret => exact ⟨ρ'', hf', hQ⟩
  | panic ch => exact ⟨ρ'', hf', hQ⟩
  | outgrown => exact ⟨ρ'', hf', hQ⟩
theorem WP_region {id : Nat} {l : List Oper} (h : WL P n l.toArray Q l ρ w) : WP P n (.region id l.toArray false) Q ρ w := fun a ha => wp_region_lit (h a ha)
section
variable {ops : Array Oper} {rest : List Oper} {o : Oper}
theorem WL_nil (h : Q .normal ρ w) : WL P n ops Q [] ρ w := fun a ha => wpList_nil ⟨ρ, ha, h⟩
theorem WL_op (hg : o.guard = none) (hd : dstOk n o.dst = true) (h : Step P o ρ w fun v w' => WL P n ops Q rest (updO ρ o.dst v) w') : WL P n ops Q (o :: rest) ρ w := fun a ha =>
  wpList_plain hg fun Kk hK => h.wp ha fun v w' hN => hK _ _ (hN _ (ha.updO hd v))
theorem WL_on (hw : Region.wanted o (yieldE ops ρ) = true) (hd : dstOk n o.dst = true) (h : Step P o ρ w fun v w' => WL P n ops Q rest (updO ρ o.dst v) w') : WL P n ops Q (o :: rest) ρ w := fun a ha =>
  wpList_step fun Kk hK => by
    rw [ha.yielded, if_pos hw]
    exact h.wp ha fun v w' hN => hK _ _ (hN _ (ha.updO hd v))
theorem WL_off (hw : Region.wanted o (yieldE ops ρ) = false) (hd : dstOk n o.dst = true) (h : WL P n ops Q rest (updO ρ o.dst undef) w) : WL P n ops Q (o :: rest) ρ w := fun a ha =>
  wpList_skip (by rw [ha.yielded]; exact hw) (h _ (ha.updO hd undef))
/-- an operation that only reckons -/
theorem WL_pure (v : Value) (hr : (execOp (ev ρ) o).run P w = .ok (.value v) w) (hg : o.guard = none) (hd : dstOk n o.dst = true) (h : WL P n ops Q rest (updO ρ o.dst v) w) : WL P n ops Q (o :: rest) ρ w :=
  WL_op hg hd (Step.value hr h)
end
end

/-! ### calls -/
def resE (P : Program) (rs : Array ResultVar) (ρ : Env) : Sem Value := do
  let vs ← rs.mapM fun
    | .tmp t => pure (ρ t)
    | .cell a t => do loadVar t (← asAddr (ρ a))
  pure (if h : vs.size = 1 then vs[0] else .tuple vs)
theorem Fits.results {n : Nat} {ρ : Env} {a : Act} (h : Fits n ρ a) (P : Program) (fn : Func) : results fn a.tmps = resE P fn.results ρ := by
  unfold Go.results resE
  simp only [h.get]
  rfl
def endQ (P : Program) (rs : Array ResultVar) (R : Ending → World → Prop) : Post := fun e ρ w =>
  match e with
  | .normal | .ret => ∃ v, (resE P rs ρ).run P w = .ok v w ∧ R (.returned v) w
  | _ => False
theorem envOf_get (args : List Value) (n : Nat) (t : Nat) : (args.toArray ++ Array.replicate n undef).getD t undef = envOf args t := by
  unfold envOf
  simp only [Array.getD_eq_getD_getElem?, List.getD_eq_getElem?_getD, Array.getElem?_append, List.size_toArray, List.getElem?_toArray]
  split
  · rfl
  · rename_i h
    rw [List.getElem?_eq_none (by omega)]
    rw [Array.getElem?_replicate]
    split <;> rfl
theorem calls_env {P : Program} {f : FuncId} {fn : Func} {c : Code} {args : List Value} {w : World} {R : Ending → World → Prop}
    (hf : P.funcs[f]? = some fn) (hb : fn.body = some c) (hn : args.length ≤ fn.ntmps) (h : WP P fn.ntmps c (endQ P fn.results R) (envOf args) w) : Calls P f args.toArray w R := by
  refine calls_of_wp hf hb (wp_mono (h _ ⟨?_, rfl, ?_⟩) ?_)
  · simp; omega
  · intro t; exact envOf_get _ _ _
  · rintro e a w' ⟨ρ, hf, hQ⟩
    cases e with
    | normal =>
      obtain ⟨v, hr, hR⟩ := hQ
      exact ⟨hf.defers, v, by rw [hf.results P]; exact hr, hR⟩
    | ret =>
      obtain ⟨v, hr, hR⟩ := hQ
      exact ⟨hf.defers, v, by rw [hf.results P]; exact hr, hR⟩
    | exit id => exact hQ.elim
    | goto l => exact hQ.elim
    | panic ch => exact hQ.elim
    | outgrown => exact hQ.elim

end Go.Inc
