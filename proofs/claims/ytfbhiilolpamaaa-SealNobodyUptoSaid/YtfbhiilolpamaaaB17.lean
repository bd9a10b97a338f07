/-
  BASE 17: the later operations as steps.
-/
import Derived.Test.YtfbhiilolpamaaaB16
set_option linter.unusedVariables false
namespace Go.Inc
open Go Go.RowKit

section
variable {P : Program} {n : Nat} {Q : Post} {ops : Array Oper} {rest : List Oper} {o : Oper} {ρ : Env} {w : World} {K : Ghost} {N : Value → World → Prop}
variable {α β : Type} {k : Kd α} {k' : Kd β} {e t : TypeId} {by_ : Nat}
theorem St_S {X : List α} {u : Value} (h : ∃ v w' K', (execOp (ev ρ) o).run P w = .ok (.value v) w' ∧ Own k e w' K' X v ∧ Ext (fun b => ob u = some b) w K w' K' ∧ Models w' K' ∧ (ob v = ob u ∨ ob v = some w.heap.size))
    (hn : ∀ v w' K', Own k e w' K' X v → Ext (fun b => ob u = some b) w K w' K' → Models w' K' → (ob v = ob u ∨ ob v = some w.heap.size) → N v w') : Step P o ρ w N := by
  obtain ⟨v, w', K', hr, h1, h2, h3, h4⟩ := h
  exact Step.value hr (hn v w' K' h1 h2 h3 h4)
theorem St_S0 {X : List α} (h : ∃ v w' K', (execOp (ev ρ) o).run P w = .ok (.value v) w' ∧ Own k e w' K' X v ∧ Ext NX w K w' K' ∧ Models w' K' ∧ (∀ g, ob v = some g → w.heap.size ≤ g))
    (hn : ∀ v w' K', Own k e w' K' X v → Ext NX w K w' K' → Models w' K' → (∀ g, ob v = some g → w.heap.size ≤ g) → N v w') : Step P o ρ w N := by
  obtain ⟨v, w', K', hr, h1, h2, h3, h4⟩ := h
  exact Step.value hr (hn v w' K' h1 h2 h3 h4)
theorem St_B {X : α} (h : ∃ bl w', (execOp (ev ρ) o).run P w = .ok (.value (.pointer (some ⟨bl, 0, none⟩))) w' ∧ Bx k w' K bl [] [] X ∧ Ext NX w K w' K ∧ Models w' K ∧ w.heap.size ≤ bl)
    (hn : ∀ bl w', Bx k w' K bl [] [] X → Ext NX w K w' K → Models w' K → w.heap.size ≤ bl → N (.pointer (some ⟨bl, 0, none⟩)) w') : Step P o ρ w N := by
  obtain ⟨bl, w', hr, h1, h2, h3, h4⟩ := h
  exact Step.value hr (hn bl w' h1 h2 h3 h4)
theorem St_St {X : α} {bl : Nat} {pre post : List Value} (h : ∃ w', (execOp (ev ρ) o).run P w = .ok .skip w' ∧ Bx k w' K bl pre post X ∧ Ext (· = bl) w K w' K ∧ Models w' K)
    (hn : ∀ w', Bx k w' K bl pre post X → Ext (· = bl) w K w' K → Models w' K → N undef w') : Step P o ρ w N := by
  obtain ⟨w', hr, h1, h2, h3⟩ := h
  exact Step.skip hr (hn w' h1 h2 h3)
theorem St_call {f : FuncId} {args : Array Value} {w1 : World} (hr : (execOp (ev ρ) o).run P w = .ok (.enter f args) w1)
    (hn : Calls P f args w1 fun e w' => ∃ v, e = .returned v ∧ N v w') : Step P o ρ w N := Step.call hr hn
theorem St_E {X : α} (h : ∃ v w' K', (execOp (ev ρ) o).run P w = .ok (.value v) w' ∧ k.V K' X v ∧ Ext NX w K w' K' ∧ Models w' K') (hn : ∀ v w' K', k.V K' X v → Ext NX w K w' K' → Models w' K' → N v w') : Step P o ρ w N := by
  obtain ⟨v, w', K', hr, h1, h2, h3⟩ := h
  exact Step.value hr (hn v w' K' h1 h2 h3)
theorem St_Mk {X : α} {v : Value} {Y : Nat → Prop} (h : ∃ w', (execOp (ev ρ) o).run P w = .ok (.value v) w' ∧ k.V K X v ∧ Ext Y w K w' K ∧ Models w' K) (hn : ∀ w', k.V K X v → Ext Y w K w' K → Models w' K → N v w') : Step P o ρ w N := by
  obtain ⟨w', hr, h1, h2, h3⟩ := h
  exact Step.value hr (hn w' h1 h2 h3)
theorem St_St1 {X : α} {bl : Nat} {pre post : List Value} {v : Value} (h : ∃ w', (execOp (ev ρ) o).run P w = .ok (.value v) w' ∧ Bx k w' K bl pre post X ∧ Ext (· = bl) w K w' K ∧ Models w' K) (hn : ∀ w', Bx k w' K bl pre post X → Ext (· = bl) w K w' K → Models w' K → N v w') : Step P o ρ w N := by
  obtain ⟨w', hr, h1, h2, h3⟩ := h
  exact Step.value hr (hn w' h1 h2 h3)
theorem St_Mu {κ ν : Type} {kk : Kd κ} {kv : Kd ν} {m : List (κ × ν)} {u : Value} {Y : Nat → Prop} (h : ∃ w', (execOp (ev ρ) o).run P w = .ok .skip w' ∧ Mp kk kv w' K m u ∧ Ext Y w K w' K ∧ Models w' K) (hn : ∀ w', Mp kk kv w' K m u → Ext Y w K w' K → Models w' K → N undef w') : Step P o ρ w N := by
  obtain ⟨w', hr, h1, h2, h3⟩ := h
  exact Step.skip hr (hn w' h1 h2 h3)
theorem St_MM {κ ν : Type} {kk : Kd κ} {kv : Kd ν} (h : ∃ w', (execOp (ev ρ) o).run P w = .ok (.value (.map (some w.heap.size))) w' ∧ Mp kk kv w' K [] (.map (some w.heap.size)) ∧ Ext NX w K w' K ∧ Models w' K) (hn : ∀ b w', Mp kk kv w' K [] (.map (some b)) → Ext NX w K w' K → Models w' K → w.heap.size ≤ b → N (.map (some b)) w') : Step P o ρ w N := by
  obtain ⟨w', hr, h1, h2, h3⟩ := h
  exact Step.value hr (hn _ w' h1 h2 h3 (Nat.le_refl _))
theorem WL_eff (hg : o.guard = none) (hd : dstOk n o.dst = true) (h : Step P o ρ w fun v w' => WL P n ops Q rest (updO ρ o.dst v) w') : WL P n ops Q (o :: rest) ρ w := WL_op hg hd h
theorem WL_V {X : α} (h : ∃ v, (∀ w : World, (execOp (ev ρ) o).run P w = .ok (.value v) w) ∧ k.V K X v) (hg : o.guard = none) (hd : dstOk n o.dst = true) (hn : ∀ v, k.V K X v → WL P n ops Q rest (updO ρ o.dst v) w) : WL P n ops Q (o :: rest) ρ w := by
  obtain ⟨v, hr, hV⟩ := h
  exact WL_pure v (hr w) hg hd (hn v hV)
theorem WL_L {X : α} (hM : Models w K) (h : ∃ v, (∀ w' K', Ext NX w K w' K' → Models w' K' → (execOp (ev ρ) o).run P w' = .ok (.value v) w') ∧ k.V K X v) (hg : o.guard = none) (hd : dstOk n o.dst = true) (hn : ∀ v, k.V K X v → WL P n ops Q rest (updO ρ o.dst v) w) : WL P n ops Q (o :: rest) ρ w := by
  obtain ⟨v, hr, hV⟩ := h
  exact WL_pure v (hr w K (Ext.refl _ _ _) hM) hg hd (hn v hV)
theorem WL_held {v : Value} (hM : Models w K) (h : ∀ w' K', Ext NX w K w' K' → Models w' K' → (execOp (ev ρ) o).run P w' = .ok (.value v) w') (hg : o.guard = none) (hd : dstOk n o.dst = true) (hn : WL P n ops Q rest (updO ρ o.dst v) w) : WL P n ops Q (o :: rest) ρ w := WL_pure v (h w K (Ext.refl _ _ _) hM) hg hd hn
theorem WL_LK {X : α} {b : Bool} (hM : Models w K) (h : ∃ r, (∀ w' K', Ext NX w K w' K' → Models w' K' → (execOp (ev ρ) o).run P w' = .ok (.value (.tuple #[r, .bool b])) w') ∧ k.V K X r) (hg : o.guard = none) (hd : dstOk n o.dst = true) (hn : ∀ r, k.V K X r → WL P n ops Q rest (updO ρ o.dst (.tuple #[r, .bool b])) w) : WL P n ops Q (o :: rest) ρ w := by
  obtain ⟨v, hr, hV⟩ := h
  exact WL_pure _ (hr w K (Ext.refl _ _ _) hM) hg hd (hn v hV)
theorem WL_P {X : α} (h : ∃ bl off, (∀ w : World, (execOp (ev ρ) o).run P w = .ok (.value (.pointer (some ⟨bl, off, none⟩))) w) ∧ k.Pt K X (.pointer (some ⟨bl, off, none⟩))) (hg : o.guard = none) (hd : dstOk n o.dst = true) (hn : ∀ bl off, k.Pt K X (.pointer (some ⟨bl, off, none⟩)) → WL P n ops Q rest (updO ρ o.dst (.pointer (some ⟨bl, off, none⟩))) w) : WL P n ops Q (o :: rest) ρ w := by
  obtain ⟨bl, off, hr, hV⟩ := h
  exact WL_pure _ (hr w) hg hd (hn bl off hV)
theorem WL_bq {C : Bool → Prop} (h : ∃ r : Bool, (∀ w : World, (execOp (ev ρ) o).run P w = .ok (.value (.bool r)) w) ∧ C r) (hg : o.guard = none) (hd : dstOk n o.dst = true) (hn : ∀ r, C r → WL P n ops Q rest (updO ρ o.dst (.bool r)) w) : WL P n ops Q (o :: rest) ρ w := by
  obtain ⟨r, hr, hC⟩ := h
  exact WL_pure _ (hr w) hg hd (hn r hC)
theorem WL_sA (h : ∃ A, ∀ w : World, (execOp (ev ρ) o).run P w = .ok (.value (.slice A 0 0)) w) (hg : o.guard = none) (hd : dstOk n o.dst = true) (hn : ∀ A, WL P n ops Q rest (updO ρ o.dst (.slice A 0 0)) w) : WL P n ops Q (o :: rest) ρ w := by
  obtain ⟨A, hr⟩ := h
  exact WL_pure _ (hr w) hg hd (hn A)
end
section
variable {P : Program} {α β γ : Type} {k : Kd α} {k' : Kd β} {e t : TypeId} {by_ : Nat} {w : World} {K : Ghost} {ρ : Env}
variable {dst : Option Tmp} {ty : TypeId} {pos : String} {af : Array Edge} {g : Option (Nat × Bool)} {x y z : Operand} {v u : Value} {ik ik' : IntKind} {a b : Int} {p q : Bool}
theorem R_fnl {fn : Fn} {cs : List Operand} {us : List Value} (h2 : cs.map (ev ρ) = us) : (execOp (ev ρ) ⟨dst, .makeFunc fn #[] cs.toArray, ty, pos, af, g⟩).run P w = .ok (.value (.func fn #[] us.toArray)) w := by
  subst h2
  exact R_fn (fs := #[]) (vs := #[]) (by simp) (by simp)
theorem R_notd {p : Prop} [Decidable p] (hx : ev ρ x = .bool (decide p)) {t1 : TypeId} : (execOp (ev ρ) ⟨dst, .unOp .not t1 x, ty, pos, af, g⟩).run P w = .ok (.value (.bool (decide (¬ p)))) w := by
  rw [R_not hx]
  by_cases h : p <;> simp [h]
theorem S_slL0 {l : List α} (hx : ev ρ x = v) (hV : (Kd.sl k).V K l v) {t1 : TypeId} (hu : P.underlying t1 = some (.slice e)) (hT : TyOk P e k by_) :
    ∃ v, (∀ w : World, (execOp (ev ρ) ⟨dst, .slice t1 x none none none, ty, pos, af, g⟩).run P w = .ok (.value v) w) ∧ (Kd.sl k).V K l v := by
  have h := S_slc (dst := dst) (ty := ty) (pos := pos) (af := af) (g := g) hx hV hu hT LowIs.no HighIs.no (Int.le_refl _) (Int.natCast_nonneg _) (Int.le_refl _)
  simpa using h
theorem S_zero {n : Nat} (hT : TyOk P t k by_) (hu : P.underlying t = some (.array n e)) (ha : k.agg = true) {i : TypeInfo} (hi : P.info? e = some i) : ∃ v, (∀ w : World, (execOp (ev ρ) ⟨dst, .build t #[], ty, pos, af, g⟩).run P w = .ok (.value v) w) ∧ k.V K k.z v := by
  obtain ⟨z, hz, hV⟩ := hT.zero (K := K)
  obtain ⟨c, rfl, hR⟩ := agg_form hV ha
  refine ⟨.agg c, fun w => ?_, hV⟩
  unfold execOp
  have key : (Instr.build t #[]).run P w = .ok (.agg c) w := by
    unfold Instr.build
    simp [hz, run_underlying hu, Instr.fill, Value.cells, sizeOf, typeInfo, hi]
  simp [key]
end
section
variable {P : Program} {α : Type} {k : Kd α} {w w0 : World} {K : Ghost} {ρ : Env} {R0 R : Ending → World → Prop} {rs : Array ResultVar} {v : Value}
theorem nn {a b : Nat} {p : Prop} (h : Nat.beq a b = false) : a = b → p := fun e => by
  subst e
  rw [Nat.beq_refl] at h
  cases h
theorem nbb_t {b : Bool} (h : (!b) = true) : ¬ (b = true) := by cases b <;> simp_all
theorem nbb_f {b : Bool} (h : (!b) = false) : b = true := by cases b <;> simp_all
theorem calls_gen {f : FuncId} {args : Array Value} (h : ∀ R, R0 = R → Calls P f args w R) : Calls P f args w R0 := h R0 rfl
theorem endR_ret (hR : R0 = R) (h : (resE P rs ρ).run P w = .ok v w) (h0 : R0 (.returned v) w) : endQ P rs R .ret ρ w := ⟨v, h, hR ▸ h0⟩
theorem endR_nrm (hR : R0 = R) (h : (resE P rs ρ).run P w = .ok v w) (h0 : R0 (.returned v) w) : endQ P rs R .normal ρ w := ⟨v, h, hR ▸ h0⟩
theorem endS_ret {X : α} (hR : R0 = R) (h : ∃ v, (resE P rs ρ).run P w = .ok v w ∧ k.V K X v) (h0 : ∀ v, k.V K X v → R0 (.returned v) w) : endQ P rs R .ret ρ w := by
  obtain ⟨v, hr, hV⟩ := h
  exact ⟨v, hr, hR ▸ h0 v hV⟩
theorem endS_nrm {X : α} (hR : R0 = R) (h : ∃ v, (resE P rs ρ).run P w = .ok v w ∧ k.V K X v) (h0 : ∀ v, k.V K X v → R0 (.returned v) w) : endQ P rs R .normal ρ w := by
  obtain ⟨v, hr, hV⟩ := h
  exact ⟨v, hr, hR ▸ h0 v hV⟩
end
end Go.Inc
