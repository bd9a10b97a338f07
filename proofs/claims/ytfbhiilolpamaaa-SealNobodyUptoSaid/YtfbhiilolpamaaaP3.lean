/-
  PLAIN 3: acts upon a book of notes.
-/
import Derived.Test.YtfbhiilolpamaaaP2
set_option linter.unusedVariables false
namespace Go.Inc
open Go
abbrev Act := Int × (Int × (List (List UInt8) × (List UInt8 × List UInt8)))
def partsLen (l : List (List UInt8)) : Nat := (l.map List.length).sum
def actsLen (l : List Act) : Nat := (l.map fun a => a.2.2.2.2.length + partsLen a.2.2.1).sum
def light (l : List Act) : Prop := l.length ≤ 200 ∧ (∀ a ∈ l, a.2.2.1.length ≤ 500) ∧ actsLen l ≤ 60000
instance (l : List Act) : Decidable (light l) := by unfold light; infer_instance
end Go.Inc
namespace Go.Inc
open Go
theorem sum_take (m : List Nat) (j : Nat) : (m.take j).sum ≤ m.sum := by
  induction m generalizing j with
  | nil => simp
  | cons a m ih => cases j with
    | zero => simp
    | succ j => simpa using ih j
theorem partsLen_take (l : List (List UInt8)) (j : Nat) : partsLen (l.take j) ≤ partsLen l := by
  unfold partsLen
  rw [List.map_take]
  exact sum_take _ _
theorem partsLen_step {l : List (List UInt8)} {j : Nat} (h : (j : Int) < (l.length : Int)) : partsLen (l.take (j + 1)) = partsLen (l.take j) + (ix l (j : Int)).length := by
  rw [take_step h]
  simp [partsLen]
theorem actsLen_take (l : List Act) (j : Nat) : actsLen (l.take j) ≤ actsLen l := by
  unfold actsLen
  rw [List.map_take]
  exact sum_take _ _
theorem actsLen_step {l : List Act} {j : Nat} (h : (j : Int) < (l.length : Int)) : actsLen (l.take (j + 1)) = actsLen (l.take j) + ((ix l (j : Int)).2.2.2.2.length + partsLen (ix l (j : Int)).2.2.1) := by
  rw [take_step h]
  simp [actsLen]
end Go.Inc
namespace Go.Inc
open Go
/-! ### notes -/
abbrev Nt := List UInt8 × List UInt8
/-- the first place at which a note is the one asked for, or -1 -/
def noteIx (s b : List UInt8) : List Nt → Int → Int
  | [], _ => -1
  | x :: l, i => if x.1 = s ∧ x.2 = b then i else noteIx s b l (i + 1)
def firstOf (s : List UInt8) : List Nt → Int → Option Int
  | [], _ => none
  | x :: l, i => if s = x.1 then some i else firstOf s l (i + 1)
def BookInv (l : List Nt) (m : List (List UInt8 × Int)) : Prop := ∀ s, mfind s m = firstOf s l 0
def addL (l : List Nt) (s b : List UInt8) : List Nt := if (s, b) ∈ l then l else l ++ [(s, b)]
def addM (l : List Nt) (m : List (List UInt8 × Int)) (s b : List UInt8) : List (List UInt8 × Int) :=
  if (s, b) ∈ l then m else if (mfind s m).isSome then m else mset s (l.length : Int) m
end Go.Inc
namespace Go.Inc
open Go
theorem noteIx_ge {s b : List UInt8} : ∀ (l : List Nt) (i : Int), 0 ≤ i → (0 ≤ noteIx s b l i ↔ (s, b) ∈ l)
  | [], i, hi => by simp [noteIx]
  | x :: l, i, hi => by
    simp only [noteIx, List.mem_cons]
    by_cases h : x.1 = s ∧ x.2 = b
    · rw [if_pos h]
      have : (s, b) = x := by rw [← h.1, ← h.2]
      simp [this, hi]
    · rw [if_neg h, noteIx_ge l (i + 1) (by omega)]
      have : ¬ ((s, b) = x) := fun e => h (by rw [← e]; exact ⟨rfl, rfl⟩)
      simp [this]
theorem noteIx_drop {s b : List UInt8} {l : List Nt} {j : Nat} (h : (j : Int) < (l.length : Int)) (i : Int) :
    noteIx s b (l.drop j) i = if (ix l (j : Int)).1 = s ∧ (ix l (j : Int)).2 = b then i else noteIx s b (l.drop (j + 1)) (i + 1) := by
  have hj : j < l.length := by omega
  rw [List.drop_eq_getElem_cons hj, ix_of_lt (by simpa using hj)]
  rfl
theorem firstOf_some {s : List UInt8} : ∀ {l : List Nt} {i a : Int}, firstOf s l i = some a → ∃ j : Nat, a = i + (j : Int) ∧ j < l.length ∧ ∀ b, (s, b) ∈ l ↔ (s, b) ∈ l.drop j
  | x :: l, i, a, h => by
    simp only [firstOf] at h
    by_cases hx : s = x.1
    · rw [if_pos hx] at h
      cases h
      exact ⟨0, by omega, by simp, fun b => by simp⟩
    · rw [if_neg hx] at h
      obtain ⟨j, hj, hl, hm⟩ := firstOf_some h
      refine ⟨j + 1, by omega, by simpa using hl, fun b => ?_⟩
      have : ¬ ((s, b) = x) := fun e => hx (by rw [← e])
      simpa [this] using hm b
theorem firstOf_none {s : List UInt8} : ∀ {l : List Nt} {i : Int}, firstOf s l i = none → ∀ b, (s, b) ∉ l
  | [], _, _, b => by simp
  | x :: l, i, h, b => by
    simp only [firstOf] at h
    by_cases hx : s = x.1
    · rw [if_pos hx] at h; cases h
    · rw [if_neg hx] at h
      have : ¬ ((s, b) = x) := fun e => hx (by rw [← e])
      simpa [this] using firstOf_none h b
end Go.Inc
namespace Go.Inc
open Go
def noteAt (l : List Nt) (s : List UInt8) : List UInt8 := match firstOf s l 0 with | some a => (ix l a).2 | none => []
end Go.Inc
