/-
  BASE 18: a new row of which nothing is known yet; room made ahead ('append(s, make(..)...)', then cut).
-/
import Derived.Test.YtfbhiilolpamaaaB17
set_option linter.unusedVariables false
namespace Go.Inc
open Go Go.RowKit

/-- a row of one's own of which nothing is told -/
def Fr (e : TypeId) (sz : Nat) (w : World) (K : Ghost) (v : Value) : Prop :=
  ∃ b m cap c, v = .slice (some ⟨b, 0, none⟩) m cap ∧ K b = none ∧ w.heap[b]? = some (.cells c e (0, 0)) ∧ c.size = cap * sz ∧ cap ≤ maxLen
section
variable {P : Program} {α : Type} {k : Kd α} {e t : TypeId} {by_ : Nat} {w : World} {K : Ghost} {ρ : Env}
variable {dst : Option Tmp} {ty : TypeId} {pos : String} {af : Array Edge} {g : Option (Nat × Bool)} {x y z : Operand} {v u : Value} {ik ik' : IntKind} {a b : Int}
theorem S_appZ {n : Int} {t1 t2 : TypeId} (hM : Models w K) (hx : ev ρ x = .slice none 0 0) (hy : ev ρ y = .int .i64 n) (ht : P.underlying t1 = some (.slice e)) (hti : P.underlying t2 = some (.int .i64)) (hT : TyOk P e k by_) (hsz : (Nat.blt 0 k.sz && Nat.blt 0 by_) = true) (h0 : 0 < n) (hlen : n * by_ ≤ 140737488355328) :
    ∃ v w', (execOp (ev ρ) ⟨dst, .call { callee := .builtin .append, args := #[x, y], argTypes := #[t1, t2] }, ty, pos, af, g⟩).run P w = .ok (.value v) w' ∧ Fr e k.sz w' K v ∧ Ext NX w K w' K ∧ Models w' K ∧ (∀ g, ob v = some g → w.heap.size ≤ g) := by
  simp only [Bool.and_eq_true] at hsz
  have hs1 : 0 < k.sz := Nat.le_of_ble_eq_true hsz.1
  have hb1 : 0 < by_ := Nat.le_of_ble_eq_true hsz.2
  obtain ⟨i, z, hi, hsi, hz, hzc, hbi, -⟩ := hT.info
  obtain ⟨m, rfl⟩ := Int.eq_ofNat_of_zero_le (show 0 ≤ n by omega)
  have hm : 0 < m := by omega
  have hmb : m * by_ ≤ 140737488355328 := by
    have : ((m * by_ : Nat) : Int) ≤ 140737488355328 := by rw [Int.natCast_mul]; exact hlen
    omega
  have hm2 : m ≤ 140737488355328 := Nat.le_trans (Nat.le_mul_of_pos_right _ hb1) hmb
  have hw : IntKind.i64.wrap (m : Int) = (m : Int) := wrap_id (wf64 (by omega) (by omega))
  have hzs : z.cells.size = k.sz := by
    have := k.len (k.hz K)
    rw [← hzc] at this
    simpa using this
  have hge := grownCap_ge w m 0 e
  have hcm := grownCap_le_maxLen w m 0 e (by simp only [maxLen]; omega)
  have hns : Builtin.nextslicecap m 0 = m := by simp [Builtin.nextslicecap, hm]
  have c1 : ¬ (281474976710656 < (m : Int) * (by_ : Int)) := by omega
  have c2 : ¬ (9223372036854775807 < (m : Int)) := by omega
  have c3 : ¬ (281474976710656 < m * by_) := by omega
  have c4 : ¬ ((m : Int) < 0) := by omega
  have c5 : ¬ (m = 0 ∨ k.sz = 0) := by omega
  have c6 : m ≠ 0 := by omega
  refine ⟨.slice (some ⟨w.heap.size, 0, none⟩) m (grownCap w m 0 e), w.drew.alloc (.cells (Builtin.zeroCells z.cells m ++ Builtin.zeroCells z.cells (grownCap w m 0 e - m)) e), ?_, ⟨w.heap.size, m, grownCap w m 0 e, _, rfl, hM.none_of_ge (Nat.le_refl _), heap_new w.drew _, ?_, hcm⟩, (Ext.drew w K).trans (Ext.alloc w.drew K _), hM.drew.alloc _, ?_⟩
  · unfold execOp
    have key : (Builtin.append_ #[t1, t2] ty #[.slice none 0 0, .int .i64 (m : Int)]).run P w = .ok (.slice (some ⟨w.heap.size, 0, none⟩) m (grownCap w m 0 e)) (w.drew.alloc (.cells (Builtin.zeroCells z.cells m ++ Builtin.zeroCells z.cells (grownCap w m 0 e - m)) e)) := by
      simp [Builtin.append_, run_underlying ht, run_underlying hti, sizeOf, typeInfo, zeroValue, hi, hz, hsi, hbi, asInt, asIntOf, hw, c1, c2, c3, c4, c6, hns, Question.forced, Builtin.firstCells, newRow, grownCap]
      intro h9
      exact absurd h9 (Nat.mul_ne_zero c6 (by omega))
    simp [resolve, invoke, builtin, hx, hy, key]
  · simp only [Array.size_append, size_zeroCells, hzs, ← Nat.add_mul]
    congr 1
    omega
  · intro g hg
    cases hc : grownCap w m 0 e with
    | zero => rw [hc] at hg; simp [ob] at hg
    | succ q => rw [hc] at hg; simp [ob] at hg; omega
theorem S_cut0 {t1 : TypeId} {hi : Operand} (hM : Models w K) (hx : ev ρ x = v) (hF : Fr e k.sz w K v) (hh : ev ρ hi = .int ik 0) (hu : P.underlying t1 = some (.slice e)) (hT : TyOk P e k by_) :
    ∃ v' K', (execOp (ev ρ) ⟨dst, .slice t1 x none (some hi) none, ty, pos, af, g⟩).run P w = .ok (.value v') w ∧ Own k e w K' [] v' ∧ Ext (fun b => ob v = some b) w K w K' ∧ Models w K' ∧ (∀ g, ob v' = some g → ob v = some g) := by
  obtain ⟨bl, m, cap, c, rfl, hK, hh', hc, hcm⟩ := hF
  have hb : (Instr.sliceBounds true m cap none (some (ev ρ hi)) none).run P w = .ok (0, 0, cap) w := by
    have h1 : ∀ cd : BoundsCode, (Instr.sliceBound (.int ik 0) cap cd).run P w = .ok 0 w := fun cd => bound_run (by omega) (by omega)
    simp [Instr.sliceBounds, hh, h1]
  have hle : K.le (K.set bl e []) := Ghost.le_set_new hK _ _
  have hr : (execOp (ev ρ) ⟨dst, .slice t1 x none (some hi) none, ty, pos, af, g⟩).run P w = .ok (.value (.slice (some ⟨bl, 0, none⟩) 0 cap)) w := by
    unfold execOp
    simp only [hx]
    by_cases h0 : cap = 0
    · subst h0
      simp [Instr.sliceAt, Instr.slice, run_underlying hu, hb, hT.size]
    · simp [Instr.sliceAt, Instr.slice, run_underlying hu, hb, hT.size, h0, add_lit]
  cases cap with
  | zero => exact ⟨_, K, hr, ⟨by simp, by simp [LM], .inl ⟨_, rfl, rfl⟩⟩, Ext.refl _ _ _, hM, fun g hg => by simp [ob] at hg⟩
  | succ cap =>
    refine ⟨_, K.set bl e [], hr, ⟨by simp, by simp [LM], .inr ⟨bl, cap + 1, c, [], [], rfl, hh', by simp, hcm, by simpa using hc, by rw [Ghost.set_same]; rfl, List.nil_prefix, rfl⟩⟩, ⟨hle, fun _ _ _ => rfl, fun j _ hj => Ghost.set_other _ _ _ (fun h => hj (by subst h; rfl)), Nat.le_refl _, rfl, rfl, rfl⟩, ?_, fun g hg => hg⟩
    intro j t' l' hj
    by_cases he : j = bl
    · subst he
      rw [Ghost.set_same] at hj
      cases hj
      exact ⟨c, _, hh', List.nil_prefix⟩
    · rw [Ghost.set_other _ _ _ he] at hj
      exact hM j t' l' hj
theorem R_cap {A : Option Addr} {n c : Nat} {t1 : TypeId} (hx : ev ρ x = .slice A n c) (hu : P.underlying t1 = some (.slice e)) :
    (execOp (ev ρ) ⟨dst, .call { callee := .builtin .cap, args := #[x], argTypes := #[t1] }, ty, pos, af, g⟩).run P w = .ok (.value (.int .i64 (c : Int))) w := by
  unfold execOp
  simp [resolve, invoke, builtin, hx, Builtin.cap_, run_underlying hu, goInt]
theorem R_slnil0 {t1 : TypeId} {hi : Operand} (hx : ev ρ x = .slice none 0 0) (hh : ev ρ hi = .int ik 0) (hu : P.underlying t1 = some (.slice e)) (hT : TyOk P e k by_) :
    (execOp (ev ρ) ⟨dst, .slice t1 x none (some hi) none, ty, pos, af, g⟩).run P w = .ok (.value (.slice none 0 0)) w := by
  have h1 : ∀ (c : Nat) (cd : BoundsCode), (Instr.sliceBound (.int ik 0) c cd).run P w = .ok 0 w := fun c cd => bound_run (by omega) (by omega)
  unfold execOp
  simp only [hx]
  simp [Instr.sliceAt, Instr.slice, run_underlying hu, Instr.sliceBounds, hh, h1, hT.size]
end
section
variable {P : Program} {n : Nat} {Q : Post} {ops : Array Oper} {rest : List Oper} {o : Oper} {ρ : Env} {w : World} {K : Ghost} {N : Value → World → Prop} {α : Type} {k : Kd α} {e : TypeId} {sz : Nat}
theorem St_FZ (h : ∃ v w', (execOp (ev ρ) o).run P w = .ok (.value v) w' ∧ Fr e sz w' K v ∧ Ext NX w K w' K ∧ Models w' K ∧ (∀ g, ob v = some g → w.heap.size ≤ g))
    (hn : ∀ v w', Fr e sz w' K v → Ext NX w K w' K → Models w' K → (∀ g, ob v = some g → w.heap.size ≤ g) → N v w') : Step P o ρ w N := by
  obtain ⟨v, w', hr, h1, h2, h3, h4⟩ := h
  exact Step.value hr (hn v w' h1 h2 h3 h4)
theorem St_FC {Y : Nat → Prop} {C : Value → Prop} (h : ∃ v K', (execOp (ev ρ) o).run P w = .ok (.value v) w ∧ Own k e w K' [] v ∧ Ext Y w K w K' ∧ Models w K' ∧ C v)
    (hn : ∀ v w' K', Own k e w' K' [] v → Ext Y w K w' K' → Models w' K' → C v → N v w') : Step P o ρ w N := by
  obtain ⟨v, K', hr, h1, h2, h3, h4⟩ := h
  exact Step.value hr (hn v w K' h1 h2 h3 h4)
end
end Go.Inc
