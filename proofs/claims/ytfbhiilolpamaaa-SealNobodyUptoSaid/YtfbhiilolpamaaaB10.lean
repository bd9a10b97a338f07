/-
  BASE 10: small words.
-/
import Derived.Test.YtfbhiilolpamaaaB9
set_option linter.unusedVariables false
namespace Go.Inc
open Go Go.RowKit
section
variable {P : Program} {ρ : Env}
theorem mapN : ([] : List Operand).map (ev ρ) = [] := rfl
theorem mapC {x : Operand} {l : List Operand} {v : Value} {vs : List Value} (h : ev ρ x = v) (ht : l.map (ev ρ) = vs) : (x :: l).map (ev ρ) = v :: vs := by rw [List.map_cons, h, ht]
theorem mapPN : ([] : List (Nat × Operand)).map (fun p => (p.1, ev ρ p.2)) = [] := rfl
theorem mapPC {i : Nat} {x : Operand} {l : List (Nat × Operand)} {v : Value} {vs : List (Nat × Value)} (h : ev ρ x = v) (ht : l.map (fun p => (p.1, ev ρ p.2)) = vs) : ((i, x) :: l).map (fun p => (p.1, ev ρ p.2)) = (i, v) :: vs := by rw [List.map_cons, h, ht]
end
section
variable {P : Program} {w : World} {ρ : Env} {dst : Option Tmp} {ty : TypeId} {pos : String} {af : Array Edge} {g : Option (Nat × Bool)} {x y z : Operand} {p q : Prop} [Decidable p] [Decidable q]
/-- '&&' -/
theorem R_pick_and (hz : ev ρ z = .bool (decide p)) (hx : p → ev ρ x = .bool (decide q)) (hy : ev ρ y = .bool false) : (execOp (ev ρ) ⟨dst, .pick z x y, ty, pos, af, g⟩).run P w = .ok (.value (.bool (decide (p ∧ q)))) w := by
  unfold execOp
  simp only [hz, hy]
  by_cases hp : p
  · rw [hx hp]; simp [hp, asBool]
  · simp [hp, asBool]
/-- '||' -/
theorem R_pick_or (hz : ev ρ z = .bool (decide p)) (hx : ev ρ x = .bool true) (hy : ¬ p → ev ρ y = .bool (decide q)) : (execOp (ev ρ) ⟨dst, .pick z x y, ty, pos, af, g⟩).run P w = .ok (.value (.bool (decide (p ∨ q)))) w := by
  unfold execOp
  simp only [hz, hx]
  by_cases hp : p
  · simp [hp, asBool]
  · rw [hy hp]; simp [hp, asBool]
end
theorem bool_dec (b : Bool) : Value.bool b = .bool (decide (b = true)) := by cases b <;> rfl
end Go.Inc
