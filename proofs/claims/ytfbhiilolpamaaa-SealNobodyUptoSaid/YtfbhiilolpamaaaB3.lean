/-
  BASE 3: an environment laid anew.
-/
import Derived.Test.YtfbhiilolpamaaaB2
set_option linter.unusedVariables false
namespace Go.Inc
open Go Go.RowKit

/-! ### an environment laid anew -/
/-- σ at the slots of M, else ρ -/
def ovl (M : List Nat) (σ ρ : Env) : Env := fun t => bif M.any (Nat.beq t) then σ t else ρ t
def upds (ρ : Env) : List (Nat × Value) → Env
  | [] => ρ
  | (d, v) :: r => upd (upds ρ r) d v
def Off (M : List Nat) (ρ ρ' : Env) : Prop := ∀ t, M.any (Nat.beq t) = false → ρ t = ρ' t
theorem Off.refl (M : List Nat) (ρ : Env) : Off M ρ ρ := fun _ _ => rfl
theorem Off.upd {M : List Nat} {ρ ρ' : Env} (h : Off M ρ ρ') {d : Nat} (hd : M.any (Nat.beq d) = true) (v : Value) : Off M (upd ρ d v) ρ' := fun t ht => by
  rw [upd_ne _ _ (fun e => by subst e; rw [hd] at ht; cases ht)]
  exact h t ht
theorem Off.ovl {M : List Nat} {ρ ρ' σ : Env} (h : Off M ρ ρ') : Off M (ovl M σ ρ) ρ' := fun t ht => by
  simp only [Go.Inc.ovl, ht, cond_false]
  exact h t ht
theorem Off.sub {M M' : List Nat} {ρ ρ' : Env} (h : Off M' ρ ρ') (hs : M'.all (fun t => M.any (Nat.beq t)) = true) : Off M ρ ρ' := fun t ht => by
  refine h t ?_
  cases hx : M'.any (Nat.beq t) with
  | false => rfl
  | true =>
    obtain ⟨u, hu, he⟩ := List.any_eq_true.1 hx
    have := Nat.eq_of_beq_eq_true he
    subst this
    rw [List.all_eq_true.1 hs t hu] at ht
    cases ht
theorem Off.trans {M : List Nat} {ρ ρ' ρ'' : Env} (h : Off M ρ ρ') (h' : Off M ρ' ρ'') : Off M ρ ρ'' := fun t ht => (h t ht).trans (h' t ht)
theorem rebase {M : List Nat} {ρ ρ' : Env} (h : Off M ρ' ρ) : ∀ (l : List (Nat × Value)), (∀ p ∈ l, ρ' p.1 = p.2) → ρ' = upds (ovl M ρ' ρ) l
  | [], _ => by
    funext t
    simp only [upds, ovl]
    cases hm : M.any (Nat.beq t) with
    | true => rfl
    | false => exact h t hm
  | (d, v) :: r, hl => by
    have ih := rebase h r (fun p hp => hl p (List.mem_cons_of_mem _ hp))
    funext t
    show ρ' t = Go.Inc.upd (upds (ovl M ρ' ρ) r) d v t
    by_cases e : t = d
    · subst e
      rw [upd_same]
      exact hl (t, v) (by simp)
    · rw [upd_ne _ _ e, ← ih]

end Go.Inc
