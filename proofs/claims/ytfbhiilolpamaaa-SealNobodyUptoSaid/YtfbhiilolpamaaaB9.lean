/-
  BASE 9: the operations' lemmas as steps of a list; further operations.
-/
import Derived.Test.YtfbhiilolpamaaaB8
set_option linter.unusedVariables false
namespace Go.Inc
open Go Go.RowKit

theorem Own.ne_type {α β : Type} {k : Kd α} {k' : Kd β} {e e' : TypeId} {w : World} {K : Ghost} {x : List α} {y : List β} {v u : Value} (h : Own k e w K x v) (h' : Own k' e' w K y u) (hne : e ≠ e') : ∀ g, ob v = some g → ¬ (ob u = some g) := fun g hg hx => by
  obtain ⟨l, hl⟩ := h.known g hg
  obtain ⟨l', hl'⟩ := h'.known g hx
  rw [hl] at hl'
  cases hl'
  exact hne rfl
section
variable {P : Program} {n : Nat} {Q : Post} {ops : Array Oper} {rest : List Oper} {o : Oper} {ρ : Env} {w : World} {K : Ghost}
variable {α β : Type} {k : Kd α} {k' : Kd β} {e t : TypeId} {by_ : Nat}
theorem nb_t {p : Prop} [Decidable p] (h : (!decide p) = true) : ¬ p := by simpa using h
theorem nb_f {p : Prop} [Decidable p] (h : (!decide p) = false) : p := by simpa using h
theorem endB_ret {rs : Array ResultVar} {R : Ending → World → Prop} {X : α} (h : ∃ v, (resE P rs ρ).run P w = .ok v w ∧ k.V K X v) (hR : ∀ v, k.V K X v → R (.returned v) w) : endQ P rs R .ret ρ w := by
  obtain ⟨v, hr, hV⟩ := h
  exact ⟨v, hr, hR v hV⟩
theorem endB_nrm {rs : Array ResultVar} {R : Ending → World → Prop} {X : α} (h : ∃ v, (resE P rs ρ).run P w = .ok v w ∧ k.V K X v) (hR : ∀ v, k.V K X v → R (.returned v) w) : endQ P rs R .normal ρ w := by
  obtain ⟨v, hr, hV⟩ := h
  exact ⟨v, hr, hR v hV⟩
def RetN (w : World) (K : Ghost) (Q : Prop) : Ending → World → Prop := fun e w' => ∃ K', e = .returned (.tuple #[]) ∧ Q ∧ Ext NX w K w' K' ∧ Models w' K'
end
section
variable {P : Program} {α β : Type} {k : Kd α} {k' : Kd β} {e t : TypeId} {by_ : Nat} {w : World} {K : Ghost} {ρ : Env}
variable {dst : Option Tmp} {ty : TypeId} {pos : String} {af : Array Edge} {g : Option (Nat × Bool)} {x y z : Operand} {v u : Value} {ik ik' : IntKind} {a b : Int} {p q : Bool}
/-- the same, the result named -/
def RV1 (k : Kd α) (w : World) (K : Ghost) (r : α) : Ending → World → Prop := fun e w' => ∃ v K', e = .returned v ∧ Ext NX w K w' K' ∧ Models w' K' ∧ k.V K' r v
def RO1 (k : Kd α) (el : TypeId) (w : World) (K : Ghost) (r : List α) : Ending → World → Prop := fun e w' => ∃ v K', e = .returned v ∧ Ext NX w K w' K' ∧ Models w' K' ∧ Own k el w' K' r v ∧ (∀ g, ob v = some g → w.heap.size ≤ g)
theorem RetV.one {r : α} {e : Ending} {w' : World} (h : RetV k w K (fun x => x = r) e w') : RV1 k w K r e w' := by
  obtain ⟨v, K', _, h1, rfl, h3⟩ := h
  exact ⟨v, K', h1, h3⟩
theorem RetO.one {r : List α} {el : TypeId} {e : Ending} {w' : World} (h : RetO k el w K (fun x => x = r) e w') : RO1 k el w K r e w' := by
  obtain ⟨v, K', _, h1, rfl, h3⟩ := h
  exact ⟨v, K', h1, h3⟩
theorem bI_V {c : UInt8} : Kd.byte.V K c (.int .u8 (bI c)) := ⟨_, rfl, rfl⟩
theorem wf_sub {a : Int} (h : (Kd.int ik).wf a) (h1 : ik'.min ≤ ik.min) (h2 : ik.max ≤ ik'.max) : (Kd.int ik').wf a := ⟨Int.le_trans h1 h.1, Int.le_trans h.2 h2⟩
theorem R_cvn (hx : ev ρ x = .int ik' a) {t1 t2 : TypeId} {d1 : TypeDesc} (h1 : P.underlying t1 = some d1) (h2 : P.underlying t2 = some (.int ik)) (hw : (Kd.int ik').wf a) (h3 : ik.min ≤ ik'.min) (h4 : ik'.max ≤ ik.max) : (execOp (ev ρ) ⟨dst, .convert t1 t2 x, ty, pos, af, g⟩).run P w = .ok (.value (.int ik a)) w := by
  rw [R_cvi hx h1 h2, wrap_id (wf_sub hw h3 h4)]
theorem R_ixs {s : List UInt8} {i : Int} {t1 : TypeId} (hx : ev ρ x = .string ⟨s.toArray⟩) (hy : ev ρ y = .int ik i) (hu : P.underlying t1 = some .string) (h0 : 0 ≤ i) (h1 : i < (s.length : Int)) :
    (execOp (ev ρ) ⟨dst, .index t1 x y, ty, pos, af, g⟩).run P w = .ok (.value (.int .u8 (bI (ix s i)))) w := by
  have hi : i.toNat < s.length := by omega
  have hs : (⟨s.toArray⟩ : ByteArray)[i.toNat]? = some s[i.toNat] := by
    rw [getElem?_pos (⟨s.toArray⟩ : ByteArray) i.toNat (by show i.toNat < s.toArray.size; simpa using hi)]
    rfl
  unfold execOp
  simp only [hx, hy]
  simp [Instr.index, asIntOf, run_underlying hu, h0, hs, ix_of_lt hi, bI]
end
end Go.Inc
