/-
  BASE 8: loops over an environment that is laid anew; small words of the walks.
-/
import Derived.Test.YtfbhiilolpamaaaB7
set_option linter.unusedVariables false
namespace Go.Inc
open Go Go.RowKit

def Slots (ρ : Env) : List (Nat × Value) → Prop
  | [] => True
  | (d, v) :: r => ρ d = v ∧ Slots ρ r
theorem Slots.all {ρ : Env} : ∀ {l : List (Nat × Value)}, Slots ρ l → ∀ p ∈ l, ρ p.1 = p.2
  | [], _, p, hp => by cases hp
  | (d, v) :: r, h, p, hp => by
    rcases List.mem_cons.1 hp with rfl | hp
    · exact h.1
    · exact h.2.all p hp
/-- slots laid over an environment -/
def lay (M : List Nat) (σ ρ : Env) (l : List (Nat × Value)) : Env := upds (ovl M σ ρ) l
theorem Off.updO {M : List Nat} {ρ ρ' : Env} (h : Off M ρ ρ') {d : Nat} (hd : M.any (Nat.beq d) = true) (v : Value) : Off M (updO ρ (some d) v) ρ' := h.upd hd v
theorem Off.updN {M : List Nat} {ρ ρ' : Env} (h : Off M ρ ρ') (v : Value) : Off M (Go.Inc.updO ρ none v) ρ' := h
def subB (M' M : List Nat) : Bool := M'.all fun t => M.any (Nat.beq t)
theorem Off.upds {M : List Nat} {ρ ρ' : Env} (h : Off M ρ ρ') : ∀ (l : List (Nat × Value)), subB (l.map (·.1)) M = true → Off M (Go.Inc.upds ρ l) ρ'
  | [], _ => h
  | (d, v) :: r, hs => by
    simp only [subB, List.map_cons, List.all_cons, Bool.and_eq_true] at hs
    exact (h.upds r hs.2).upd hs.1 v
theorem Off.lay {M M' : List Nat} {ρ ρ' σ : Env} {l : List (Nat × Value)} (h : Off M ρ ρ') (hs : (subB M' M && subB (l.map (·.1)) M) = true) : Off M (Go.Inc.lay M' σ ρ l) ρ' := by
  simp only [Bool.and_eq_true] at hs
  refine Off.upds (fun t ht => ?_) l hs.2
  have hM : M'.any (Nat.beq t) = false := by
    cases hx : M'.any (Nat.beq t) with
    | false => rfl
    | true =>
      obtain ⟨u, hu, he⟩ := List.any_eq_true.1 hx
      have := Nat.eq_of_beq_eq_true he
      subst this
      rw [List.all_eq_true.1 hs.1 t hu] at ht
      cases ht
  show (bif M'.any (Nat.beq t) then σ t else ρ t) = ρ' t
  rw [hM]
  exact h t ht
theorem Off.lay0 {M : List Nat} {ρ σ : Env} {l : List (Nat × Value)} (hs : subB (l.map (·.1)) M = true) : Off M (Go.Inc.lay M σ ρ l) ρ := by
  refine Off.upds (fun t ht => ?_) l hs
  show (bif M.any (Nat.beq t) then σ t else ρ t) = ρ t
  rw [ht]
  rfl
section
variable {P : Program} {n : Nat} {Q : Post} {ρ : Env} {w : World}
def BackQ {ι : Type} (M : List Nat) (J : ι → List (Nat × Value) → World → Prop) (μ : ι → Nat) (ρ : Env) (i : ι) : Env → World → Prop := fun ρ' w'' => ∃ i' l', J i' l' w'' ∧ μ i' < μ i ∧ Off M ρ' ρ ∧ Slots ρ' l'
theorem BackQ.mk {ι : Type} {M : List Nat} {J : ι → List (Nat × Value) → World → Prop} {μ : ι → Nat} {ρ ρ' : Env} {i : ι} {w : World} (i' : ι) (l' : List (Nat × Value)) (h1 : J i' l' w) (h2 : μ i' < μ i) (h3 : Off M ρ' ρ) (h4 : Slots ρ' l') : BackQ M J μ ρ i ρ' w := ⟨i', l', h1, h2, h3, h4⟩
theorem WP_loopE {c : Code} {ι : Type} (M : List Nat) (J : ι → List (Nat × Value) → World → Prop) (μ : ι → Nat) (i0 : ι) (l0 : List (Nat × Value)) (h0 : J i0 l0 w) (hl0 : Slots ρ l0)
    (round : ∀ i l σ w', J i l w' → WP P n c (thenQ (BackQ M J μ ρ i) Q) (lay M σ ρ l) w') : WP P n (.loop c) Q ρ w := by
  refine WP_loop (fun i ρ' w' => Off M ρ' ρ ∧ ∃ l, J i l w' ∧ Slots ρ' l) μ i0 ⟨Off.refl _ _, l0, h0, hl0⟩ ?_
  rintro i ρ' w' ⟨hoff, l, hJ, hl⟩
  have he : ρ' = lay M ρ' ρ l := rebase hoff l hl.all
  have hr := round i l ρ' w' hJ
  rw [← he] at hr
  refine hr.mono ?_
  intro e ρ'' w'' hq
  cases e with
  | normal =>
    obtain ⟨i', l', h1, h2, h3, h4⟩ := hq
    exact ⟨i', ⟨h3, l', h1, h4⟩, h2⟩
  | exit id => exact hq
  | goto l => exact hq
  | ret => exact hq
  | panic ch => exact hq
  | outgrown => exact hq
attribute [irreducible] BackQ
theorem thenQ_n {next : Env → World → Prop} (h : next ρ w) : thenQ next Q .normal ρ w := h
theorem endQ_ret {rs : Array ResultVar} {R : Ending → World → Prop} {v : Value} (h : (resE P rs ρ).run P w = .ok v w) (hR : R (.returned v) w) : endQ P rs R .ret ρ w := ⟨v, h, hR⟩
theorem endQ_nrm {rs : Array ResultVar} {R : Ending → World → Prop} {v : Value} (h : (resE P rs ρ).run P w = .ok v w) (hR : R (.returned v) w) : endQ P rs R .normal ρ w := ⟨v, h, hR⟩
theorem dec_t {p : Prop} [Decidable p] (h : decide p = true) : p := of_decide_eq_true h
theorem dec_f {p : Prop} [Decidable p] (h : decide p = false) : ¬ p := of_decide_eq_false h
end
end Go.Inc
