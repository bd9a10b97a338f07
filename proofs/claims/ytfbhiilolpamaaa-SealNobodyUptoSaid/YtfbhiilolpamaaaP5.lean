/-
  PLAIN 5: what is hashed; books.
-/
import Derived.Test.YtfbhiilolpamaaaB20
set_option linter.unusedVariables false
namespace Go.Inc
open Go
/-- SHA-256 of all parts, one behind the other -/
def sha256 (l : List (List UInt8)) : List UInt8 := hSum (hWrite ((List.replicate 8 0), 0, []) l)
def sealOf (k : Int) (l : List (List UInt8)) : List UInt8 := sha256 [preimage k l]
def bookOf (x : BookA) (k : Int) (l : List (List UInt8)) : BookA := x.map fun y => (addL y.1 (sealOf k l) (preimage k l), IntKind.i64.wrap (y.2 + 1))
def bookNote (x : BookA) (s b : List UInt8) : BookA := x.map fun y => (addL y.1 s b, y.2)
def bookRoom (x : BookA) : Prop := ∀ y, x = some y → (y.1.length + 1) * 64 ≤ 140737488355328
def bookCalls (x : BookA) : Int := match x with | some y => y.2 | none => 0
def bookFits (x : BookA) : Prop := ∀ y, x = some y → y.1.length * 24 ≤ 140737488355328 ∧ ∀ z ∈ y.1, z.2.length ≤ 140737488355328
def bookFind (x : BookA) (s : List UInt8) : List UInt8 := match x with | some y => noteAt y.1 s | none => []
def bookHas (x : BookA) (s : List UInt8) : Bool := match x with | some y => (firstOf s y.1 0).isSome | none => false
def bookAll (x : BookA) : List (List UInt8) := match x with | some y => y.1.map Prod.snd | none => []
/-- which notes clash: 'all' are there -/
def clashL : List Nt → List Nt → List UInt8 × List UInt8 × Bool
  | _, [] => ([], [], false)
  | all, x :: l => match firstOf x.1 all 0 with
    | some a => if (ix all a).2 = x.2 then clashL (addL all x.1 x.2) l else ((ix all a).2, x.2, true)
    | none => clashL (addL all x.1 x.2) l
abbrev BookF := Option ((List Nt × Unit) × Int)
def frzB (x : BookA) : BookF := x.map fun y => ((y.1, ()), y.2)
def notesF (l : List BookF) : List Nt := l.flatMap fun o => match o with | some y => y.1.1 | none => []
def clashA (l : List BookF) : List UInt8 × List UInt8 × Bool := clashL [] (notesF l)
def clashPre (l : List BookF) : Prop := ((notesF l).length + 1) * 64 ≤ 140737488355328 ∧ ∀ z ∈ notesF l, z.2.length ≤ 140737488355328
theorem eat_rest (s : List Int) (n : Int) (r : List UInt8) : (eat s n r).2.2.length < 64 := by
  induction h : r.length using Nat.strongRecOn generalizing s n r with
  | _ m ih =>
    rw [eat]
    split
    · exact ih _ (by rw [List.length_drop]; omega) _ _ _ rfl
    · show r.length < 64
      omega
theorem sumN_len (x : List Int) : ∀ n, (sumN x n).length = 32 ∨ 8 < n
  | 0 => by simp [sumN]
  | n + 1 => by
    rcases sumN_len x n with h | h
    · rcases Nat.lt_or_ge n 8 with h8 | h8
      · left
        simp only [sumN, List.length_append, List.length_take, List.length_drop, h, be_length]
        omega
      · exact .inr (by omega)
    · exact .inr (by omega)
theorem sha256_len (l : List (List UInt8)) : (sha256 l).length = 32 := by
  rcases sumN_len (hWrite (hWrite (List.replicate 8 0, 0, []) l) (padOf (hWrite (List.replicate 8 0, 0, []) l))).1 8 with h | h
  · exact h
  · omega
theorem mem_room {l : List (List UInt8)} {x : List UInt8} (h : x ∈ l) : x.length ≤ blobRoom l := by
  induction l with
  | nil => cases h
  | cons y l ih =>
    simp only [blobRoom, List.map_cons, List.sum_cons] at *
    rcases List.mem_cons.1 h with rfl | h
    · omega
    · have := ih h
      omega
theorem preimage_len (k : Int) {l : List (List UInt8)} (h : 1 + blobRoom l ≤ 140737488355328) : (preimage k l).length ≤ 1 + blobRoom l := by
  have := blobAll_length l (fun x hx => by have := mem_room hx; omega)
  simp only [preimage, List.length_cons]
  omega
theorem firstOf_append {s : List UInt8} : ∀ {l : List Nt} {l' : List Nt} {i : Int}, firstOf s (l ++ l') i = (firstOf s l i).or (firstOf s l' (i + (l.length : Int)))
  | [], l', i => by simp [firstOf]
  | x :: l, l', i => by
    simp only [List.cons_append, firstOf]
    by_cases h : s = x.1
    · simp [h]
    · rw [if_neg h, if_neg h, firstOf_append]
      congr 2
      simp only [List.length_cons]
      omega
theorem mfind_mset {s t : List UInt8} {a : Int} : ∀ (m : List (List UInt8 × Int)), mfind t (mset s a m) = if t = s then some a else mfind t m
  | [] => by simp [mset, mfind]
  | (b, c) :: m => by
    by_cases h : s = b
    · subst h
      by_cases h2 : t = s <;> simp [mset, mfind, h2]
    · simp only [mset, if_neg h, mfind, mfind_mset m]
      by_cases h2 : t = b
      · subst h2
        simp [Ne.symm h]
      · simp [h2]
theorem addInv {l : List Nt} {m : List (List UInt8 × Int)} (h : BookInv l m) (s b : List UInt8) : BookInv (addL l s b) (addM l m s b) := by
  intro t
  unfold addL addM
  by_cases hm : (s, b) ∈ l
  · rw [if_pos hm, if_pos hm]; exact h t
  · rw [if_neg hm, if_neg hm, firstOf_append]
    have hs := h s
    by_cases hf : (mfind s m).isSome = true
    · rw [if_pos hf, h t]
      cases ht : firstOf t l 0 with
      | some a => rfl
      | none =>
        have hne : ¬ (t = s) := fun e => by
          subst e
          rw [hs, ht] at hf
          cases hf
        simp [firstOf, hne]
    · rw [if_neg hf, mfind_mset, h t]
      have hn : firstOf s l 0 = none := by
        rw [hs] at hf
        simpa using hf
      by_cases e : t = s
      · subst e
        simp [hn, firstOf]
      · cases ht : firstOf t l 0 <;> simp [e, firstOf]
theorem notesF_take (l : List BookF) (j : Nat) : notesF l = notesF (l.take j) ++ notesF (l.drop j) := by
  unfold notesF
  rw [← List.flatMap_append, List.take_append_drop]
theorem notesF_drop {l : List BookF} {j : Nat} (h : (j : Int) < (l.length : Int)) : notesF (l.drop j) = (match ix l (j : Int) with | some y => y.1.1 | none => []) ++ notesF (l.drop (j + 1)) := by
  have hj : j < l.length := by omega
  rw [List.drop_eq_getElem_cons hj, ix_of_lt (by simpa using hj)]
  rfl
theorem ix_mem' {α : Type} [Inhabited α] {l : List α} {i : Int} (h0 : 0 ≤ i) (h : i < (l.length : Int)) : ix l i ∈ l := by
  rw [ix_of_lt (by omega)]
  exact List.getElem_mem _
theorem addL_len (l : List Nt) (s b : List UInt8) : (addL l s b).length ≤ l.length + 1 := by
  unfold addL
  split <;> simp
theorem addL_mem {l : List Nt} {s b : List UInt8} {z : Nt} (h : z ∈ addL l s b) : z ∈ l ∨ z = (s, b) := by
  unfold addL at h
  split at h
  · exact .inl h
  · simpa using h
theorem firstOf_ix {s : List UInt8} {l : List Nt} {a : Int} (h : firstOf s l 0 = some a) : 0 ≤ a ∧ a < (l.length : Int) := by
  obtain ⟨j, rfl, hl, _⟩ := firstOf_some h
  omega
theorem clashL_step (all : List Nt) (x : Nt) (l : List Nt) : clashL all (x :: l) = if (firstOf x.1 all 0).isSome = true ∧ ¬ ((ix all ((firstOf x.1 all 0).getD 0)).2 = x.2) then ((ix all ((firstOf x.1 all 0).getD 0)).2, x.2, true) else clashL (addL all x.1 x.2) l := by
  rw [clashL]
  cases h : firstOf x.1 all 0 with
  | none => simp
  | some a =>
    by_cases h2 : (ix all a).2 = x.2 <;> simp [h2]
/-- the same, such as a kernel may reckon it -/
def numF (n : Nat) : List UInt8 := UInt8.ofNat ((blen8.blenF 64 n + 7) / 8) :: be n ((blen8.blenF 64 n + 7) / 8)
theorem numF_eq {n : Nat} (h : n < 2 ^ 64) : numB n = numF n := by simp only [numB, numF, blenF_eq 64 n h]
def blobF (l : List (List UInt8)) : List UInt8 := l.flatMap fun x => numF x.length ++ x
theorem blobF_eq {l : List (List UInt8)} (h : ∀ x ∈ l, x.length < 2 ^ 64) : blobAll l = blobF l := by
  induction l with
  | nil => rfl
  | cons x l ih =>
    have h1 : blobAll (x :: l) = (numB x.length ++ x) ++ blobAll l := rfl
    have h2 : blobF (x :: l) = (numF x.length ++ x) ++ blobF l := rfl
    rw [h1, h2, numF_eq (h x (by simp)), ih (fun y hy => h y (by simp [hy]))]
def preimageF (k : Int) (l : List (List UInt8)) : List UInt8 := toB (IntKind.u8.wrap k) :: blobF l
theorem preimageF_eq (k : Int) {l : List (List UInt8)} (h : ∀ x ∈ l, x.length < 2 ^ 64) : preimage k l = preimageF k l := by simp only [preimage, preimageF, blobF_eq h]
end Go.Inc
