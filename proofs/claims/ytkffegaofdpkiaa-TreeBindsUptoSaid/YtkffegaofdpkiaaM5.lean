/- P15, P16, P14, S1, S2, S3, K2. -/
import Derived.Test.YtkffegaofdpkiaaM4
import Derived.Test.YtkffegaofdpkiaaChecked
/-
  PLAIN 15: the way to a leaf of a tree, its path, where it leads.
-/
set_option linter.unusedVariables false
namespace Go.Inc
open Go

def sidesN (n a : Nat) : List Int :=
  if h : 1 < n then (if half n ≤ a then 1 :: sidesN (n - half n) (a - half n) else 0 :: sidesN (half n) a) else []
termination_by n
decreasing_by
  · have := half_pos (n := n) (by omega); omega
  · exact half_lt (by omega)
theorem sidesN_end {n a : Nat} (h : ¬ 1 < n) : sidesN n a = [] := by rw [sidesN, dif_neg h]
theorem sidesN_left {n a : Nat} (h : 1 < n) (ha : a < half n) : sidesN n a = 0 :: sidesN (half n) a := by rw [sidesN, dif_pos h, if_neg (by omega)]
theorem sidesN_right {n a : Nat} (h : 1 < n) (ha : half n ≤ a) : sidesN n a = 1 :: sidesN (n - half n) (a - half n) := by rw [sidesN, dif_pos h, if_pos ha]
theorem sidesN_nil {n a : Nat} (h : sidesN n a = []) : ¬ 1 < n := fun hn => by
  rcases Nat.lt_or_ge a (half n) with ha | ha
  · rw [sidesN_left hn ha] at h; cases h
  · rw [sidesN_right hn ha] at h; cases h
theorem sidesN_len : ∀ (j : Nat) {n a : Nat}, n ≤ 2 ^ j → (sidesN n a).length ≤ j
  | 0, n, a, h => by
    rw [sidesN_end (by simp at h; omega)]
    exact Nat.le_refl _
  | j + 1, n, a, h => by
    by_cases hl : 1 < n
    · obtain ⟨i, hi⟩ := half_pow hl
      have a2 := half_lt hl
      have a3 := half_ge hl
      have hij : i < j + 1 := (Nat.pow_lt_pow_iff_right (a := 2) (by omega)).1 (by omega)
      have hh : half n ≤ 2 ^ j := by rw [hi]; exact Nat.pow_le_pow_right (by omega) (by omega)
      rcases Nat.lt_or_ge a (half n) with ha | ha
      · rw [sidesN_left hl ha, List.length_cons]
        have := sidesN_len j (a := a) hh
        omega
      · rw [sidesN_right hl ha, List.length_cons]
        have := sidesN_len j (n := n - half n) (a := a - half n) (by omega)
        omega
    · rw [sidesN_end hl]
      exact Nat.zero_le _
theorem sidesN_bit : ∀ (k : Nat) {n a : Nat}, n ≤ k → ∀ x ∈ sidesN n a, x = 0 ∨ x = 1
  | 0, n, a, hk, x, hx => by rw [sidesN_end (by omega)] at hx; cases hx
  | k + 1, n, a, hk, x, hx => by
    by_cases hl : 1 < n
    · have a1 := half_pos hl
      have a2 := half_lt hl
      rcases Nat.lt_or_ge a (half n) with ha | ha
      · rw [sidesN_left hl ha] at hx
        rcases List.mem_cons.1 hx with rfl | hx
        · exact .inl rfl
        · exact sidesN_bit k (by omega) x hx
      · rw [sidesN_right hl ha] at hx
        rcases List.mem_cons.1 hx with rfl | hx
        · exact .inr rfl
        · exact sidesN_bit k (by omega) x hx
    · rw [sidesN_end hl] at hx; cases hx
def depthN (n a : Int) : Int := if 0 ≤ a ∧ a < n then ((sidesN n.toNat a.toNat).length : Int) else 0
/-- the iterator's rounds -/
def sdI (n0 : Int) (L : List Int) (j : Nat) (n a : Int) : Prop := 0 ≤ a ∧ a < n ∧ n ≤ n0 ∧ j ≤ L.length ∧ L.drop j = sidesN n.toNat a.toNat
theorem sdI_step {n0 n a : Int} {L : List Int} {j : Nat} (h : sdI n0 L j n a) (hn : 1 < n) : 1 ≤ half n.toNat ∧ ((half n.toNat : Nat) : Int) < n ∧ j < L.length ∧ ((half n.toNat : Int) ≤ a → L[j]? = some 1 ∧ sdI n0 L (j + 1) (n - (half n.toNat : Int)) (a - (half n.toNat : Int))) ∧ (¬ (half n.toNat : Int) ≤ a → L[j]? = some 0 ∧ sdI n0 L (j + 1) (half n.toNat : Int) a) := by
  obtain ⟨h1, h2, h3, h4, h5⟩ := h
  have a1 := half_pos (n := n.toNat) (by omega)
  have a2 := half_lt (n := n.toNat) (by omega)
  have hj : j < L.length := by
    apply Classical.byContradiction
    intro hj
    rw [List.drop_eq_nil_of_le (by omega)] at h5
    exact sidesN_nil h5.symm (by omega)
  rw [List.drop_eq_getElem_cons hj] at h5
  refine ⟨a1, by omega, hj, fun hle => ?_, fun hgt => ?_⟩
  · rw [sidesN_right (by omega) (by omega)] at h5
    obtain ⟨h6, h7⟩ := List.cons.inj h5
    refine ⟨by rw [List.getElem?_eq_getElem hj, h6], by omega, by omega, by omega, hj, ?_⟩
    rw [h7]
    congr 1 <;> omega
  · rw [sidesN_left (by omega) (by omega)] at h5
    obtain ⟨h6, h7⟩ := List.cons.inj h5
    refine ⟨by rw [List.getElem?_eq_getElem hj, h6], by omega, by omega, by omega, hj, ?_⟩
    rw [h7]
    congr 1
theorem sdI_end {n0 n a : Int} {L : List Int} {j : Nat} (h : sdI n0 L j n a) (hn : ¬ 1 < n) : j = L.length := by
  obtain ⟨h1, h2, h3, h4, h5⟩ := h
  rw [sidesN_end (by omega)] at h5
  have := List.drop_eq_nil_iff.1 h5
  omega
/-- the sums beside the way, from the root down -/
def topL (l : List Sm) (a : Nat) : List Sm :=
  if h : 1 < l.length then (if half l.length ≤ a then rootS (l.take (half l.length)) :: topL (l.drop (half l.length)) (a - half l.length) else rootS (l.drop (half l.length)) :: topL (l.take (half l.length)) a) else []
termination_by l.length
decreasing_by
  · have := half_pos (n := l.length) (by omega); simp only [List.length_drop]; omega
  · have := half_lt (n := l.length) (by omega); simp only [List.length_take]; omega
theorem topL_end {l : List Sm} {a : Nat} (h : ¬ 1 < l.length) : topL l a = [] := by rw [topL, dif_neg h]
theorem topL_left {l : List Sm} {a : Nat} (h : 1 < l.length) (ha : a < half l.length) : topL l a = rootS (l.drop (half l.length)) :: topL (l.take (half l.length)) a := by rw [topL, dif_pos h, if_neg (by omega)]
theorem topL_right {l : List Sm} {a : Nat} (h : 1 < l.length) (ha : half l.length ≤ a) : topL l a = rootS (l.take (half l.length)) :: topL (l.drop (half l.length)) (a - half l.length) := by rw [topL, dif_pos h, if_pos ha]
theorem topL_len : ∀ (k : Nat) {l : List Sm} {a : Nat}, l.length ≤ k → (topL l a).length = (sidesN l.length a).length
  | 0, l, a, hk => by rw [topL_end (by omega), sidesN_end (by omega)]; rfl
  | k + 1, l, a, hk => by
    by_cases hl : 1 < l.length
    · have a1 := half_pos hl
      have a2 := half_lt hl
      have e1 : (l.take (half l.length)).length = half l.length := by rw [List.length_take]; omega
      have e2 : (l.drop (half l.length)).length = l.length - half l.length := List.length_drop
      rcases Nat.lt_or_ge a (half l.length) with ha | ha
      · rw [topL_left hl ha, sidesN_left hl ha, List.length_cons, List.length_cons, topL_len k (by omega), e1]
      · rw [topL_right hl ha, sidesN_right hl ha, List.length_cons, List.length_cons, topL_len k (by omega), e2]
    · rw [topL_end hl, sidesN_end hl]; rfl
def pathN (l : List Sm) (a : Int) : List Sm := if 0 ≤ a ∧ a < (l.length : Int) then (topL l a.toNat).reverse else []
/-- where a leaf leads, from the innermost step on -/
def foldL : List Int → List Sm → Sm → Sm
  | a :: A, p :: P, s => foldL A P (if a = 0 then sealOf 2 [s, p] else sealOf 2 [p, s])
  | _, _, s => s
def foldK : List Int → List Sm → Sm → BookA → BookA
  | a :: A, p :: P, s, x => foldK A P (if a = 0 then sealOf 2 [s, p] else sealOf 2 [p, s]) (if a = 0 then bookOf x 2 [s, p] else bookOf x 2 [p, s])
  | _, _, _, x => x
def leadB (n a : Int) (P : List Sm) : Bool := decide ((0 ≤ a ∧ a < n) ∧ P.length = (sidesN n.toNat a.toNat).length)
def sm0L : Sm := List.replicate 32 0
def leadS (n a : Int) (s : Sm) (P : List Sm) : Sm := if leadB n a P then foldL (sidesN n.toNat a.toNat).reverse P s else sm0L
def leadE (n a : Int) (P : List Sm) : Int := if leadB n a P then 0 else 10
def leadK (x : BookA) (n a : Int) (s : Sm) (P : List Sm) : BookA := if leadB n a P then foldK (sidesN n.toNat a.toNat).reverse P s x else x
theorem foldL_append : ∀ (A : List Int) (P : List Sm) (a : Int) (p s : Sm), A.length = P.length → foldL (A ++ [a]) (P ++ [p]) s = if a = 0 then sealOf 2 [foldL A P s, p] else sealOf 2 [p, foldL A P s]
  | [], [], a, p, s, _ => rfl
  | [], _ :: _, a, p, s, h => by simp at h
  | _ :: _, [], a, p, s, h => by simp at h
  | b :: A, q :: P, a, p, s, h => by
    simp only [List.cons_append, foldL]
    exact foldL_append A P a p _ (by simpa using h)
theorem foldK_append : ∀ (A : List Int) (P : List Sm) (a : Int) (p s : Sm) (x : BookA), A.length = P.length → foldK (A ++ [a]) (P ++ [p]) s x = if a = 0 then bookOf (foldK A P s x) 2 [foldL A P s, p] else bookOf (foldK A P s x) 2 [p, foldL A P s]
  | [], [], a, p, s, x, _ => rfl
  | [], _ :: _, a, p, s, x, h => by simp at h
  | _ :: _, [], a, p, s, x, h => by simp at h
  | b :: A, q :: P, a, p, s, x, h => by
    simp only [List.cons_append, foldK, foldL]
    exact foldK_append A P a p _ _ (by simpa using h)
theorem foldL_len : ∀ (A : List Int) (P : List Sm) (s : Sm), s.length = 32 → (foldL A P s).length = 32
  | [], _, s, h => by simpa [foldL] using h
  | a :: A, [], s, h => by simpa [foldL] using h
  | a :: A, p :: P, s, h => by
    rw [foldL]
    exact foldL_len A P _ (by split <;> exact sealOf_len _ _)
end Go.Inc

/-
  PLAIN 16: where leaves lead: by their paths to the root; what is noted binds.
-/
set_option linter.unusedVariables false
namespace Go.Inc
open Go

theorem depthN_left {n a : Int} (h : 1 < n) (h0 : 0 ≤ a) (ha : a < (half n.toNat : Int)) : depthN n a = 1 + depthN (half n.toNat : Int) a := by
  have a2 := half_lt (n := n.toNat) (by omega)
  unfold depthN
  rw [if_pos (by omega), if_pos (by omega), sidesN_left (by omega) (by omega), List.length_cons, Int.toNat_natCast]
  omega
theorem depthN_right {n a : Int} (h : 1 < n) (h0 : a < n) (ha : (half n.toNat : Int) ≤ a) : depthN n a = 1 + depthN (n - (half n.toNat : Int)) (a - (half n.toNat : Int)) := by
  have a2 := half_lt (n := n.toNat) (by omega)
  have e1 : (n - (half n.toNat : Int)).toNat = n.toNat - half n.toNat := by omega
  have e2 : (a - (half n.toNat : Int)).toNat = a.toNat - half n.toNat := by omega
  unfold depthN
  rw [if_pos (by omega), if_pos (by omega), sidesN_right (by omega) (by omega), List.length_cons, e1, e2]
  omega
theorem depthN_le {n a : Int} (h : n ≤ 9223372036854775807) : 0 ≤ depthN n a ∧ depthN n a ≤ 63 := by
  unfold depthN
  have := sidesN_len 63 (n := n.toNat) (a := a.toNat) (by omega)
  split <;> omega
theorem pathN_left {l : List Sm} {a : Int} (h : 1 < l.length) (h0 : 0 ≤ a) (ha : a < (half l.length : Int)) : pathN l a = pathN (l.take (half l.length)) a ++ [rootS (l.drop (half l.length))] := by
  have a2 := half_lt (n := l.length) (by omega)
  have e1 : (l.take (half l.length)).length = half l.length := by rw [List.length_take]; omega
  unfold pathN
  rw [if_pos (by omega), if_pos (by omega), topL_left h (by omega), List.reverse_cons]
theorem pathN_right {l : List Sm} {a : Int} (h : 1 < l.length) (h0 : a < (l.length : Int)) (ha : (half l.length : Int) ≤ a) : pathN l a = pathN (l.drop (half l.length)) (a - (half l.length : Int)) ++ [rootS (l.take (half l.length))] := by
  have a2 := half_lt (n := l.length) (by omega)
  have e1 : (l.drop (half l.length)).length = l.length - half l.length := List.length_drop
  have e2 : (a - (half l.length : Int)).toNat = a.toNat - half l.length := by omega
  unfold pathN
  rw [if_pos (by omega), if_pos (by omega), topL_right h (by omega), List.reverse_cons, e2]
theorem pathN_len {l : List Sm} {a : Int} (h : l.length ≤ 1048576) : (pathN l a).length ≤ 20 := by
  unfold pathN
  split
  · rw [List.length_reverse, topL_len _ (Nat.le_refl _)]
    exact sidesN_len 20 (by omega)
  · exact Nat.zero_le _
/-! ### leads, step by step -/
theorem leadB_nil {n a : Int} (h : 1 < n) (h0 : 0 ≤ a) (ha : a < n) : leadB n a [] = false := by
  unfold leadB
  refine decide_eq_false fun hh => ?_
  exact sidesN_nil (List.length_eq_zero_iff.1 hh.2.symm) (by omega)
theorem leadB_one {P : List Sm} : leadB 1 0 P = decide (P.length = 0) := by
  unfold leadB
  refine decide_eq_decide.2 ⟨fun h => ?_, fun h => ⟨by omega, ?_⟩⟩
  · rw [h.2, sidesN_end (by decide)]; rfl
  · rw [h, sidesN_end (by decide)]; rfl
theorem lead_left {n a : Int} {Q : List Sm} {p s : Sm} (h : 1 < n) (h0 : 0 ≤ a) (ha : a < (half n.toNat : Int)) : leadB n a (Q ++ [p]) = leadB (half n.toNat : Int) a Q ∧ (leadB (half n.toNat : Int) a Q = true → leadS n a s (Q ++ [p]) = sealOf 2 [leadS (half n.toNat : Int) a s Q, p]) := by
  have a2 := half_lt (n := n.toNat) (by omega)
  have es := sidesN_left (n := n.toNat) (a := a.toNat) (by omega) (by omega)
  have hb : leadB n a (Q ++ [p]) = leadB (half n.toNat : Int) a Q := by
    unfold leadB
    rw [es, List.length_cons, List.length_append, Int.toNat_natCast]
    refine decide_eq_decide.2 ⟨fun hh => ⟨⟨h0, ha⟩, ?_⟩, fun hh => ⟨by omega, ?_⟩⟩
    · have := hh.2; simp only [List.length_cons, List.length_nil] at this; omega
    · have := hh.2; simp only [List.length_cons, List.length_nil]; omega
  refine ⟨hb, fun hq => ?_⟩
  unfold leadS
  rw [hb, hq, if_pos rfl, if_pos rfl, es, List.reverse_cons]
  have hl : Q.length = (sidesN (half n.toNat) a.toNat).length := by
    have := of_decide_eq_true hq
    rw [Int.toNat_natCast] at this
    exact this.2
  rw [foldL_append _ _ _ _ _ (by rw [List.length_reverse, hl]), if_pos rfl, Int.toNat_natCast]
theorem lead_right {n a : Int} {Q : List Sm} {p s : Sm} (h : 1 < n) (h0 : a < n) (ha : (half n.toNat : Int) ≤ a) : leadB n a (Q ++ [p]) = leadB (n - (half n.toNat : Int)) (a - (half n.toNat : Int)) Q ∧ (leadB (n - (half n.toNat : Int)) (a - (half n.toNat : Int)) Q = true → leadS n a s (Q ++ [p]) = sealOf 2 [p, leadS (n - (half n.toNat : Int)) (a - (half n.toNat : Int)) s Q]) := by
  have a2 := half_lt (n := n.toNat) (by omega)
  have es := sidesN_right (n := n.toNat) (a := a.toNat) (by omega) (by omega)
  have e1 : (n - (half n.toNat : Int)).toNat = n.toNat - half n.toNat := by omega
  have e2 : (a - (half n.toNat : Int)).toNat = a.toNat - half n.toNat := by omega
  have hb : leadB n a (Q ++ [p]) = leadB (n - (half n.toNat : Int)) (a - (half n.toNat : Int)) Q := by
    unfold leadB
    rw [es, List.length_cons, List.length_append, e1, e2]
    refine decide_eq_decide.2 ⟨fun hh => ⟨by omega, ?_⟩, fun hh => ⟨by omega, ?_⟩⟩
    · have := hh.2; simp only [List.length_cons, List.length_nil] at this; omega
    · have := hh.2; simp only [List.length_cons, List.length_nil]; omega
  refine ⟨hb, fun hq => ?_⟩
  unfold leadS
  rw [hb, hq, if_pos rfl, if_pos rfl, es, List.reverse_cons, e1, e2]
  have hl : Q.length = (sidesN (n.toNat - half n.toNat) (a.toNat - half n.toNat)).length := by
    have := of_decide_eq_true hq
    rw [e1, e2] at this
    exact this.2
  rw [foldL_append _ _ _ _ _ (by rw [List.length_reverse, hl]), if_neg (by decide)]
/-- by its path a leaf leads to the root -/
theorem lead_shows : ∀ (k : Nat) {l : List Sm} {a : Nat}, l.length ≤ k → a < l.length → foldL (sidesN l.length a).reverse (topL l a).reverse (ix l (a : Int)) = rootS l
  | 0, l, a, hk, ha => by omega
  | k + 1, l, a, hk, ha => by
    rw [ixN ha]
    by_cases h : 1 < l.length
    · have a1 := half_pos (n := l.length) (by omega)
      have a2 := half_lt (n := l.length) (by omega)
      have l1 : (l.take (half l.length)).length = half l.length := by rw [List.length_take]; omega
      have l2 : (l.drop (half l.length)).length = l.length - half l.length := List.length_drop
      rcases Nat.lt_or_ge a (half l.length) with hh | hh
      · have ih := lead_shows k (l := l.take (half l.length)) (a := a) (by omega) (by omega)
        have hlen := topL_len _ (l := l.take (half l.length)) (a := a) (Nat.le_refl _)
        have ev : ix (l.take (half l.length)) (a : Int) = l[a] := by rw [ixN (by omega), List.getElem_take]
        rw [ev, l1] at ih
        rw [l1] at hlen
        rw [sidesN_left h hh, topL_left h hh, List.reverse_cons, List.reverse_cons, foldL_append _ _ _ _ _ (by rw [List.length_reverse, List.length_reverse, hlen]), if_pos rfl, rootS_two (l := l) h]
        rw [ih]
      · have ih := lead_shows k (l := l.drop (half l.length)) (a := a - half l.length) (by omega) (by omega)
        have hlen := topL_len _ (l := l.drop (half l.length)) (a := a - half l.length) (Nat.le_refl _)
        have ei : half l.length + (a - half l.length) = a := by omega
        have ev : ix (l.drop (half l.length)) ((a - half l.length : Nat) : Int) = l[a] := by
          rw [ixN (by omega), List.getElem_drop]
          simp only [ei]
        rw [ev, l2] at ih
        rw [l2] at hlen
        rw [sidesN_right h hh, topL_right h hh, List.reverse_cons, List.reverse_cons, foldL_append _ _ _ _ _ (by rw [List.length_reverse, List.length_reverse, hlen]), if_neg (by decide), rootS_two (l := l) h]
        rw [ih]
    · have e : l.length = 1 := by omega
      obtain ⟨x, rfl⟩ := List.length_eq_one_iff.1 e
      obtain rfl : a = 0 := by simp at ha; exact ha
      rw [sidesN_end h, topL_end h, rootS_one]
      rfl
theorem leadB_path {l : List Sm} {a : Int} (h : 0 ≤ a ∧ a < (l.length : Int)) : leadB (l.length : Int) a (pathN l a) = true := by
  unfold leadB pathN
  rw [if_pos h, List.length_reverse, topL_len _ (Nat.le_refl _), Int.toNat_natCast]
  exact decide_eq_true ⟨h, rfl⟩
theorem leadS_path {l : List Sm} {a : Int} (h : 0 ≤ a ∧ a < (l.length : Int)) : leadS (l.length : Int) a (ix l a) (pathN l a) = rootS l := by
  unfold leadS
  rw [leadB_path h, if_pos rfl, Int.toNat_natCast]
  have := lead_shows _ (l := l) (a := a.toNat) (Nat.le_refl _) (by omega)
  rw [Int.toNat_of_nonneg h.1] at this
  unfold pathN
  rw [if_pos h]
  exact this
/-! ### books -/
theorem foldK_isSome : ∀ {A : List Int} {P : List Sm} {s : Sm} {x : BookA}, x.isSome = true → (foldK A P s x).isSome = true
  | [], P, s, x, hx => by simpa [foldK] using hx
  | _ :: _, [], s, x, hx => by simpa [foldK] using hx
  | a :: A, p :: P, s, x, hx => by
    simp only [foldK]
    refine foldK_isSome ?_
    split <;> exact bookOf_isSome hx
theorem lead_binds {N : List Nt} (hN : NoClash N) : ∀ (k : Nat) {l : List Sm} {a : Nat} {s : Sm} {P : List Sm} {x y : BookA}, l.length ≤ k → a < l.length → P.length = (sidesN l.length a).length → (∀ z ∈ l, z.length = 32) → (∀ z ∈ P, z.length = 32) → s.length = 32 → x.isSome = true → y.isSome = true →
    bkIn N (rootBk x l) → bkIn N (foldK (sidesN l.length a).reverse P s y) → foldL (sidesN l.length a).reverse P s = rootS l → s = ix l (a : Int) ∧ P = (topL l a).reverse
  | 0, l, a, s, P, x, y, hk, ha, hP, hl, hp, hs, hx, hy, hR, hF, he => by omega
  | k + 1, l, a, s, P, x, y, hk, ha, hP, hl, hp, hs, hx, hy, hR, hF, he => by
    rw [ixN ha]
    by_cases h : 1 < l.length
    · have b2 : 2 ≤ l.length := h
      have a1 := half_pos b2
      have a2 := half_lt b2
      have l1 : (l.take (half l.length)).length = half l.length := by rw [List.length_take]; omega
      have l2 : (l.drop (half l.length)).length = l.length - half l.length := List.length_drop
      have w1 : ∀ z ∈ l.take (half l.length), z.length = 32 := fun z hz => hl z (List.mem_of_mem_take hz)
      have w2 : ∀ z ∈ l.drop (half l.length), z.length = 32 := fun z hz => hl z (List.mem_of_mem_drop hz)
      rw [rootBk_two x b2] at hR
      have hsx := rootBk_isSome (half l.length) (l := l.take (half l.length)) (x := x) (by omega) hx
      have hnode := hR.node (rootBk_isSome (l.length) (l := l.drop (half l.length)) (by omega) hsx)
      have hRR := hR.of
      have hRL := bkIn.root (l.length) (l := l.drop (half l.length)) (by omega) hRR
      have step : ∀ (n' : Nat), P.length = n' + 1 → ∃ Q p, P = Q ++ [p] ∧ Q.length = n' ∧ p.length = 32 ∧ ∀ z ∈ Q, z.length = 32 := fun n' hlen => by
        have hne : P ≠ [] := fun h0 => by rw [h0] at hlen; simp at hlen
        refine ⟨P.dropLast, P.getLast hne, (List.dropLast_concat_getLast hne).symm, ?_, hp _ (List.getLast_mem hne), fun z hz => hp z (List.dropLast_subset _ hz)⟩
        rw [List.length_dropLast, hlen]
        rfl
      rcases Nat.lt_or_ge a (half l.length) with hm | hm
      · rw [sidesN_left h hm] at hP hF he
        rw [List.length_cons] at hP
        obtain ⟨Q, p, rfl, hQ, hp32, hQ32⟩ := step _ hP
        rw [List.reverse_cons, foldK_append _ _ _ _ _ _ (by rw [List.length_reverse, hQ]), if_pos rfl] at hF
        rw [List.reverse_cons, foldL_append _ _ _ _ _ (by rw [List.length_reverse, hQ]), if_pos rfl, rootS_two b2] at he
        have hb := hN.node (hF.node (foldK_isSome hy)) hnode he (foldL_len _ _ _ hs) hp32 (rootS_len w1) (rootS_len w2)
        have ih := lead_binds hN k (l := l.take (half l.length)) (a := a) (s := s) (P := Q) (x := x) (y := y) (by omega) (by omega) (by rw [l1]; exact hQ) w1 hQ32 hs hx hy hRL (by rw [l1]; exact hF.of) (by rw [l1]; exact hb.1)
        rw [ixN (by omega), List.getElem_take] at ih
        rw [topL_left h hm, List.reverse_cons, ← ih.2, hb.2]
        exact ⟨ih.1, rfl⟩
      · rw [sidesN_right h hm] at hP hF he
        rw [List.length_cons] at hP
        obtain ⟨Q, p, rfl, hQ, hp32, hQ32⟩ := step _ hP
        have h10 : ¬ ((1 : Int) = 0) := by decide
        rw [List.reverse_cons, foldK_append _ _ _ _ _ _ (by rw [List.length_reverse, hQ]), if_neg h10] at hF
        rw [List.reverse_cons, foldL_append _ _ _ _ _ (by rw [List.length_reverse, hQ]), if_neg h10, rootS_two b2] at he
        have hb := hN.node (hF.node (foldK_isSome hy)) hnode he hp32 (foldL_len _ _ _ hs) (rootS_len w1) (rootS_len w2)
        have ih := lead_binds hN k (l := l.drop (half l.length)) (a := a - half l.length) (s := s) (P := Q) (x := rootBk x (l.take (half l.length))) (y := y) (by omega) (by omega) (by rw [l2]; exact hQ) w2 hQ32 hs hsx hy hRR (by rw [l2]; exact hF.of) (by rw [l2]; exact hb.2)
        rw [ixN (by omega), List.getElem_drop] at ih
        rw [topL_right h hm, List.reverse_cons, ← ih.2, hb.1]
        refine ⟨ih.1.trans ?_, rfl⟩
        congr 1
        omega
    · have e : l.length = 1 := by omega
      obtain ⟨v, rfl⟩ := List.length_eq_one_iff.1 e
      obtain rfl : a = 0 := by simp at ha; exact ha
      rw [sidesN_end h] at hP he
      have hP0 : P = [] := List.length_eq_zero_iff.1 hP
      subst hP0
      rw [topL_end h]
      rw [rootS_one] at he
      exact ⟨he, rfl⟩
/-- two lists of one length with one root -/
theorem root_binds {N : List Nt} (hN : NoClash N) : ∀ (k : Nat) {l m : List Sm} {x y : BookA}, l.length ≤ k → m.length = l.length → (∀ z ∈ l, z.length = 32) → (∀ z ∈ m, z.length = 32) → x.isSome = true → y.isSome = true → bkIn N (rootBk x l) → bkIn N (rootBk y m) → rootS l = rootS m → l = m
  | 0, l, m, x, y, hk, hm, hl, hl', hx, hy, hR, hR', he => by
    rw [List.length_eq_zero_iff.1 (show l.length = 0 by omega), List.length_eq_zero_iff.1 (show m.length = 0 by omega)]
  | k + 1, l, m, x, y, hk, hm, hl, hl', hx, hy, hR, hR', he => by
    rcases Nat.lt_or_ge l.length 2 with h2 | h2
    · match l, m, h2, hm with
      | [], [], _, _ => rfl
      | [a], [b], _, _ => rw [rootS_one, rootS_one] at he; rw [he]
    · have a1 := half_pos h2
      have a2 := half_lt h2
      have l1 : (l.take (half l.length)).length = half l.length := by rw [List.length_take]; omega
      have l2 : (l.drop (half l.length)).length = l.length - half l.length := List.length_drop
      have m1 : (m.take (half l.length)).length = half l.length := by rw [List.length_take]; omega
      have m2 : (m.drop (half l.length)).length = l.length - half l.length := by rw [List.length_drop]; omega
      have w1 : ∀ z ∈ l.take (half l.length), z.length = 32 := fun z hz => hl z (List.mem_of_mem_take hz)
      have w2 : ∀ z ∈ l.drop (half l.length), z.length = 32 := fun z hz => hl z (List.mem_of_mem_drop hz)
      have v1 : ∀ z ∈ m.take (half l.length), z.length = 32 := fun z hz => hl' z (List.mem_of_mem_take hz)
      have v2 : ∀ z ∈ m.drop (half l.length), z.length = 32 := fun z hz => hl' z (List.mem_of_mem_drop hz)
      rw [rootBk_two x h2] at hR
      rw [rootBk_two y (by omega), hm] at hR'
      rw [rootS_two h2, rootS_two (l := m) (by omega), hm] at he
      have hsx := rootBk_isSome (half l.length) (l := l.take (half l.length)) (x := x) (by omega) hx
      have hsy := rootBk_isSome (half l.length) (l := m.take (half l.length)) (x := y) (by omega) hy
      have n1 := hR.node (rootBk_isSome (l.length) (l := l.drop (half l.length)) (by omega) hsx)
      have n2 := hR'.node (rootBk_isSome (l.length) (l := m.drop (half l.length)) (by omega) hsy)
      have hb := hN.node n1 n2 he (rootS_len w1) (rootS_len w2) (rootS_len v1) (rootS_len v2)
      have hRR := hR.of
      have hRR' := hR'.of
      have i1 := root_binds hN k (x := x) (y := y) (by omega) (by omega) w1 v1 hx hy (bkIn.root l.length (by omega) hRR) (bkIn.root l.length (by omega) hRR') hb.1
      have i2 := root_binds hN k (by omega) (by omega) w2 v2 hsx hsy hRR hRR' hb.2
      rw [← List.take_append_drop (half l.length) l, i1, i2, List.take_append_drop]
theorem bookUpto.foldK : ∀ {A : List Int} {P : List Sm} {s : Sm} {x : BookA} {n : Nat}, bookUpto x (n + P.length) → bookUpto (foldK A P s x) n
  | [], P, s, x, n, h => by simp only [Go.Inc.foldK]; exact h.le (by omega)
  | _ :: _, [], s, x, n, h => by simpa [Go.Inc.foldK] using h
  | a :: A, p :: P, s, x, n, h => by
    simp only [Go.Inc.foldK]
    refine bookUpto.foldK ?_
    rw [List.length_cons] at h
    split <;> exact bookUpto.of (h.le (by omega)) _ _
theorem smallB.foldK : ∀ {A : List Int} {P : List Sm} {s : Sm} {x : BookA}, s.length = 32 → (∀ z ∈ P, z.length = 32) → smallB x → smallB (foldK A P s x)
  | [], P, s, x, hs, hp, h => by simpa [Go.Inc.foldK] using h
  | _ :: _, [], s, x, hs, hp, h => by simpa [Go.Inc.foldK] using h
  | a :: A, p :: P, s, x, hs, hp, h => by
    have hp1 := hp p List.mem_cons_self
    have hp2 : ∀ z ∈ P, z.length = 32 := fun z hz => hp z (List.mem_cons_of_mem _ hz)
    simp only [Go.Inc.foldK]
    split
    · exact smallB.foldK (sealOf_len _ _) hp2 (h.of (room2 hs hp1))
    · exact smallB.foldK (sealOf_len _ _) hp2 (h.of (room2 hp1 hs))
/-- how often is hashed -/
def callsAt (x : BookA) (n : Nat) : Prop := ∃ y, x = some y ∧ y.2 = (n : Int)
theorem callsAt.of {x : BookA} {n : Nat} (h : callsAt x n) (hn : n ≤ 1048576) (k : Int) (l : List (List UInt8)) : callsAt (bookOf x k l) (n + 1) := by
  obtain ⟨y, rfl, hy⟩ := h
  refine ⟨_, rfl, ?_⟩
  show IntKind.i64.wrap (y.2 + 1) = _
  rw [hy, wrap_id (wf64 (by omega) (by omega))]
  omega
theorem callsAt.calls {x : BookA} {n : Nat} (h : callsAt x n) : bookCalls x = (n : Int) := by
  obtain ⟨y, rfl, hy⟩ := h
  exact hy
theorem callsAt.foldK : ∀ {A : List Int} {P : List Sm} {s : Sm} {x : BookA} {n : Nat}, callsAt x n → A.length = P.length → n + P.length ≤ 1048576 → callsAt (foldK A P s x) (n + P.length)
  | [], [], s, x, n, h, _, _ => by simpa [Go.Inc.foldK] using h
  | [], _ :: _, s, x, n, h, e, _ => by cases e
  | _ :: _, [], s, x, n, h, e, _ => by cases e
  | a :: A, p :: P, s, x, n, h, e, hb => by
    simp only [List.length_cons] at e hb
    simp only [Go.Inc.foldK, List.length_cons]
    rw [show n + (P.length + 1) = n + 1 + P.length from by omega]
    refine callsAt.foldK ?_ (by omega) (by omega)
    split <;> exact h.of (by omega) _ _
theorem callsAt.root : ∀ (k : Nat) {l : List Sm} {x : BookA} {n : Nat}, l.length ≤ k → 1 ≤ l.length → callsAt x n → n + l.length ≤ 1048576 → callsAt (rootBk x l) (n + (l.length - 1))
  | 0, l, x, n, hk, h1, h, hb => by omega
  | k + 1, l, x, n, hk, h1, h, hb => by
    rcases Nat.lt_or_ge l.length 2 with h2 | h2
    · match l, h1, h2 with
      | [a], _, _ => rw [rootBk_one]; exact h
    · have a1 := half_pos h2
      have a2 := half_lt h2
      have l1 : (l.take (half l.length)).length = half l.length := by rw [List.length_take]; omega
      have l2 : (l.drop (half l.length)).length = l.length - half l.length := List.length_drop
      rw [rootBk_two x h2]
      have i1 := callsAt.root k (l := l.take (half l.length)) (by omega) (by omega) h (by omega)
      have i2 := callsAt.root k (l := l.drop (half l.length)) (by omega) (by omega) i1 (by omega)
      have i3 := i2.of (by omega) 2 [rootS (l.take (half l.length)), rootS (l.drop (half l.length))]
      rw [l1, l2, show n + (half l.length - 1) + (l.length - half l.length - 1) + 1 = n + (l.length - 1) from by omega] at i3
      exact i3
theorem band_pow {j : Nat} (hj : j ≤ 62) : band .i64 ((2 ^ j : Nat) : Int) (((2 ^ j : Nat) : Int) - 1) = 0 := by
  have hp : 2 ^ j ≤ 2 ^ 62 := Nat.pow_le_pow_right (by omega) hj
  have h1 : 1 ≤ 2 ^ j := Nat.one_le_two_pow
  have e : (BitVec.ofInt 64 ((2 ^ j : Nat) : Int) &&& BitVec.ofInt 64 (((2 ^ j : Nat) : Int) - 1)).toNat = 0 := by
    rw [BitVec.toNat_and, BitVec.toNat_ofInt, BitVec.toNat_ofInt]
    have e1 : (((2 ^ j : Nat) : Int) % ((2 ^ 64 : Nat) : Int)).toNat = 2 ^ j := by omega
    have e2 : ((((2 ^ j : Nat) : Int) - 1) % ((2 ^ 64 : Nat) : Int)).toNat = 2 ^ j - 1 := by omega
    rw [e1, e2, Nat.and_two_pow_sub_one_eq_mod, Nat.mod_self]
  unfold band
  show IntKind.i64.wrap (((BitVec.ofInt 64 ((2 ^ j : Nat) : Int) &&& BitVec.ofInt 64 (((2 ^ j : Nat) : Int) - 1)).toNat : Nat) : Int) = 0
  rw [e]
  rfl
theorem band_half {n : Nat} (h : 2 ≤ n) (hn : n ≤ 9223372036854775807) : band .i64 ((half n : Nat) : Int) (((half n : Nat) : Int) - 1) = 0 := by
  obtain ⟨j, hj⟩ := half_pow h
  have := half_lt h
  have hjl : j ≤ 62 := by
    have : j < 63 := (Nat.pow_lt_pow_iff_right (a := 2) (by omega)).1 (by omega)
    omega
  rw [hj]
  exact band_pow hjl
/-- what Clash tells of two books -/
theorem clash_pair (a b : List Nt × Int) : ((clashA [frzB (some a), frzB (some b)]).2.2 = true → (clashA [frzB (some a), frzB (some b)]).1 ≠ (clashA [frzB (some a), frzB (some b)]).2.1) ∧
    ((clashA [frzB (some a), frzB (some b)]).2.2 = false → NoClash (a.1 ++ b.1)) := by
  have e : notesF [frzB (some a), frzB (some b)] = a.1 ++ b.1 := by simp [notesF, frzB]
  have h := clashL_spec (a.1 ++ b.1) [] (fun s x y h => by simp at h)
  unfold clashA
  rw [e]
  simpa using h
theorem clashPre_pair {a b : List Nt × Int} (h1 : bookUpto (some a) 0) (h2 : bookUpto (some b) 0) (s1 : smallB (some a)) (s2 : smallB (some b)) : clashPre [frzB (some a), frzB (some b)] := by
  have e : notesF [frzB (some a), frzB (some b)] = a.1 ++ b.1 := by simp [notesF, frzB]
  have n1 := h1 a rfl
  have n2 := h2 b rfl
  unfold clashPre
  rw [e]
  refine ⟨by simp only [List.length_append]; omega, fun z hz => ?_⟩
  have : z.2.length ≤ 200 := by
    rcases List.mem_append.1 hz with hz | hz
    · exact s1 a rfl z hz
    · exact s2 b rfl z hz
  omega
end Go.Inc

/-
  PLAIN 14: what a path tells, step by step from its end; how a path is as the document tells it.
-/
set_option linter.unusedVariables false
namespace Go.Inc
open Go
theorem same_step {a b : List Sm} {j : Nat} (h : j < a.length) (h' : j < b.length) (ht : a.take j = b.take j) (he : ix a (j : Int) = ix b (j : Int)) : a.take (j + 1) = b.take (j + 1) := by
  rw [ixN h, ixN h'] at he
  rw [List.take_succ_eq_append_getElem h, List.take_succ_eq_append_getElem h', ht, he]
end Go.Inc

/- Each function that stands here: what it is asked and leaves (_C), its condition (_VC), that it holds (_ok), its contract (_c). -/
set_option linter.unusedVariables false
set_option maxRecDepth 100000
set_option maxHeartbeats 20000000
namespace Go.Proofs.Ytkffegaofdpkiaa
open Go Go.RowKit Go.Inc
noncomputable def Clone_C : Ctr := ⟨[.v (.sl .byte)], [.ow 5 .byte], some (fun a => (fun (a0_s : List UInt8) => (a0_s.length ≤ 140737488355328 : Prop)) a.1), fun a => (fun (a0_s : List UInt8) => ((a0_s, ()), (()))) a.1⟩
noncomputable def Clone_X : Fx := ⟨seat, some bkT, fns, [], [], [], []⟩
def Clone_VC (a0_s : List UInt8) (Q : (List UInt8) → Prop) : Prop :=
  ∀ (x0 : Bool), (x0 = true → a0_s = ([] : List UInt8)) → (x0 = true → Q ([] : List UInt8)) ∧ (x0 = false → (([] : List UInt8).length + a0_s.length) * (1 : Nat) ≤ (140737488355328 : Nat) ∧ Q (([] : List UInt8) ++ a0_s))
theorem Clone_ok {a0_s : List UInt8} (w_0 : (Ty.kd (.sl .byte)).wf a0_s) (hp : a0_s.length ≤ 140737488355328) : Clone_VC a0_s (fun o0 => o0 = a0_s) := by
  unfold Clone_VC
  intro r hr
  refine ⟨fun h => ?_, fun _ => ⟨?_, rfl⟩⟩
  · rw [hr h]
  · simpa using hp
theorem Clone_eq : (∀ a, Clone_C.pre a → PM.wfP Clone_C.pm a (fvc Clone_X 200 59 Clone_C a (eqO Clone_C a))) = (∀ a : (List UInt8) × Unit, ((a.1).length ≤ 140737488355328) → (Ty.kd (.sl .byte)).wf a.1 → Clone_VC a.1 (fun o0 => o0 = (a.1))) := by kernel_rfl
theorem Clone_k : Clone_C.valid Try.prog 59 := ctr_of (X := Clone_X) (ok_of seat_ok (fun b hb => by cases hb; exact bkT_ok) fns_ok trivial) 200 (Clone_eq.mpr fun a hp w_0 => @Clone_ok a.1 w_0 hp)
noncomputable def Equal_C : Ctr := ⟨[.v (.sl .byte), .v (.sl .byte)], [.v .bool], none, fun a => (fun (a0_a : List UInt8) (a1_b : List UInt8) => ((decide (a0_a = a1_b), ()), (()))) a.1 a.2.1⟩
noncomputable def Equal_X : Fx := ⟨seat, some bkT, fns, [], [], [], []⟩
def Equal_VC (a0_a : List UInt8) (a1_b : List UInt8) (Q : Bool → Prop) : Prop :=
  Q (decide (a0_a = a1_b))
theorem Equal_ok {a0_a : List UInt8} {a1_b : List UInt8} (w_0 : (Ty.kd (.sl .byte)).wf a0_a) (w_1 : (Ty.kd (.sl .byte)).wf a1_b) : Equal_VC a0_a a1_b (fun o0 => o0 = decide (a0_a = a1_b)) := by
  exact rfl
theorem Equal_eq : (∀ a, Equal_C.pre a → PM.wfP Equal_C.pm a (fvc Equal_X 200 58 Equal_C a (eqO Equal_C a))) = (∀ a : (List UInt8) × (List UInt8) × Unit, True → (Ty.kd (.sl .byte)).wf a.1 → (Ty.kd (.sl .byte)).wf a.2.1 → Equal_VC a.1 a.2.1 (fun o0 => o0 = decide ((a.1) = (a.2.1)))) := by kernel_rfl
theorem Equal_k : Equal_C.valid Try.prog 58 := ctr_of (X := Equal_X) (ok_of seat_ok (fun b hb => by cases hb; exact bkT_ok) fns_ok trivial) 200 (Equal_eq.mpr fun a hp w_0 w_1 => @Equal_ok a.1 a.2.1 w_0 w_1)
noncomputable def Len64_C : Ctr := ⟨[.v (.int .u64)], [.v (.int .i64)], none, fun a => (fun (a0_x : Int) => (((blen a0_x.toNat : Int), ()), (()))) a.1⟩
noncomputable def Len64_X : Fx := ⟨seat, some bkT, fns, [], [], [], []⟩
def Len64_VC (a0_x : Int) (Q : Int → Prop) : Prop :=
  ((4294967296 : Int) ≤ a0_x → ((65536 : Int) ≤ shr IntKind.u64 a0_x (32 : Int) → ((256 : Int) ≤ shr IntKind.u64 (shr IntKind.u64 a0_x (32 : Int)) (16 : Int) → ((0 : Int) ≤ IntKind.u8.wrap (shr IntKind.u64 (shr IntKind.u64 (shr IntKind.u64 a0_x (32 : Int)) (16 : Int)) (8 : Int)) ∧ IntKind.u8.wrap (shr IntKind.u64 (shr IntKind.u64 (shr IntKind.u64 a0_x (32 : Int)) (16 : Int)) (8 : Int)) < (strc256_52136.length : Int)) ∧ Q (IntKind.i64.wrap (IntKind.i64.wrap (IntKind.i64.wrap ((32 : Int) + (16 : Int)) + (8 : Int)) + bI (ix strc256_52136 (IntKind.u8.wrap (shr IntKind.u64 (shr IntKind.u64 (shr IntKind.u64 a0_x (32 : Int)) (16 : Int)) (8 : Int))))))) ∧ (¬(256 : Int) ≤ shr IntKind.u64 (shr IntKind.u64 a0_x (32 : Int)) (16 : Int) → ((0 : Int) ≤ IntKind.u8.wrap (shr IntKind.u64 (shr IntKind.u64 a0_x (32 : Int)) (16 : Int)) ∧ IntKind.u8.wrap (shr IntKind.u64 (shr IntKind.u64 a0_x (32 : Int)) (16 : Int)) < (strc256_52136.length : Int)) ∧ Q (IntKind.i64.wrap (IntKind.i64.wrap ((32 : Int) + (16 : Int)) + bI (ix strc256_52136 (IntKind.u8.wrap (shr IntKind.u64 (shr IntKind.u64 a0_x (32 : Int)) (16 : Int)))))))) ∧ (¬(65536 : Int) ≤ shr IntKind.u64 a0_x (32 : Int) → ((256 : Int) ≤ shr IntKind.u64 a0_x (32 : Int) → ((0 : Int) ≤ IntKind.u8.wrap (shr IntKind.u64 (shr IntKind.u64 a0_x (32 : Int)) (8 : Int)) ∧ IntKind.u8.wrap (shr IntKind.u64 (shr IntKind.u64 a0_x (32 : Int)) (8 : Int)) < (strc256_52136.length : Int)) ∧ Q (IntKind.i64.wrap (IntKind.i64.wrap ((32 : Int) + (8 : Int)) + bI (ix strc256_52136 (IntKind.u8.wrap (shr IntKind.u64 (shr IntKind.u64 a0_x (32 : Int)) (8 : Int))))))) ∧ (¬(256 : Int) ≤ shr IntKind.u64 a0_x (32 : Int) → ((0 : Int) ≤ IntKind.u8.wrap (shr IntKind.u64 a0_x (32 : Int)) ∧ IntKind.u8.wrap (shr IntKind.u64 a0_x (32 : Int)) < (strc256_52136.length : Int)) ∧ Q (IntKind.i64.wrap ((32 : Int) + bI (ix strc256_52136 (IntKind.u8.wrap (shr IntKind.u64 a0_x (32 : Int))))))))) ∧ (¬(4294967296 : Int) ≤ a0_x → ((65536 : Int) ≤ a0_x → ((256 : Int) ≤ shr IntKind.u64 a0_x (16 : Int) → ((0 : Int) ≤ IntKind.u8.wrap (shr IntKind.u64 (shr IntKind.u64 a0_x (16 : Int)) (8 : Int)) ∧ IntKind.u8.wrap (shr IntKind.u64 (shr IntKind.u64 a0_x (16 : Int)) (8 : Int)) < (strc256_52136.length : Int)) ∧ Q (IntKind.i64.wrap (IntKind.i64.wrap (IntKind.i64.wrap ((0 : Int) + (16 : Int)) + (8 : Int)) + bI (ix strc256_52136 (IntKind.u8.wrap (shr IntKind.u64 (shr IntKind.u64 a0_x (16 : Int)) (8 : Int))))))) ∧ (¬(256 : Int) ≤ shr IntKind.u64 a0_x (16 : Int) → ((0 : Int) ≤ IntKind.u8.wrap (shr IntKind.u64 a0_x (16 : Int)) ∧ IntKind.u8.wrap (shr IntKind.u64 a0_x (16 : Int)) < (strc256_52136.length : Int)) ∧ Q (IntKind.i64.wrap (IntKind.i64.wrap ((0 : Int) + (16 : Int)) + bI (ix strc256_52136 (IntKind.u8.wrap (shr IntKind.u64 a0_x (16 : Int)))))))) ∧ (¬(65536 : Int) ≤ a0_x → ((256 : Int) ≤ a0_x → ((0 : Int) ≤ IntKind.u8.wrap (shr IntKind.u64 a0_x (8 : Int)) ∧ IntKind.u8.wrap (shr IntKind.u64 a0_x (8 : Int)) < (strc256_52136.length : Int)) ∧ Q (IntKind.i64.wrap (IntKind.i64.wrap ((0 : Int) + (8 : Int)) + bI (ix strc256_52136 (IntKind.u8.wrap (shr IntKind.u64 a0_x (8 : Int))))))) ∧ (¬(256 : Int) ≤ a0_x → ((0 : Int) ≤ IntKind.u8.wrap a0_x ∧ IntKind.u8.wrap a0_x < (strc256_52136.length : Int)) ∧ Q (IntKind.i64.wrap ((0 : Int) + bI (ix strc256_52136 (IntKind.u8.wrap a0_x)))))))
theorem Len64_ok {a0_x : Int} (w_0 : (Ty.kd (.int .u64)).wf a0_x) : Len64_VC a0_x (fun o0 => o0 = (blen a0_x.toNat : Int)) := by
  obtain ⟨n, rfl⟩ := Int.eq_ofNat_of_zero_le w_0.1
  have hn : n < 18446744073709551616 := by
    have h : ((n : Int)) ≤ (18446744073709551615 : Int) := w_0.2
    omega
  have ht : strc256_52136 = blen8 := by decide +kernel
  have s32 : ∀ m : Nat, shr .u64 (m : Int) 32 = ((m / 4294967296 : Nat) : Int) := fun m => shr_nat (k := 32) (by decide)
  have s16 : ∀ m : Nat, shr .u64 (m : Int) 16 = ((m / 65536 : Nat) : Int) := fun m => shr_nat (k := 16) (by decide)
  have s8 : ∀ m : Nat, shr .u64 (m : Int) 8 = ((m / 256 : Nat) : Int) := fun m => shr_nat (k := 8) (by decide)
  have b32 : ∀ m : Nat, 4294967296 ≤ m → blen m = 32 + blen (m / 4294967296) := fun m h => blen_shift 32 h
  have b16 : ∀ m : Nat, 65536 ≤ m → blen m = 16 + blen (m / 65536) := fun m h => blen_shift 16 h
  have b8 : ∀ m : Nat, 256 ≤ m → blen m = 8 + blen (m / 256) := fun m h => blen_shift 8 h
  unfold Len64_VC
  simp only [s32, s16, s8, Int.toNat_natCast]
  refine ⟨fun h1 => ⟨fun h2 => ⟨fun h3 => ?_, fun h3 => ?_⟩, fun h2 => ⟨fun h3 => ?_, fun h3 => ?_⟩⟩, fun h1 => ⟨fun h2 => ⟨fun h3 => ?_, fun h3 => ?_⟩, fun h2 => ⟨fun h3 => ?_, fun h3 => ?_⟩⟩⟩
  · exact len_leaf (k := 56) (by omega) (by omega) (by rw [b32 n (by omega), b16 _ (by omega), b8 _ (by omega)]; omega) (by decide) ht
  · exact len_leaf (k := 48) (by omega) (by omega) (by rw [b32 n (by omega), b16 _ (by omega)]; omega) (by decide) ht
  · exact len_leaf (k := 40) (by omega) (by omega) (by rw [b32 n (by omega), b8 _ (by omega)]; omega) (by decide) ht
  · exact len_leaf (k := 32) (by omega) (by omega) (by rw [b32 n (by omega)]) (by decide) ht
  · exact len_leaf (k := 24) (by omega) (by omega) (by rw [b16 n (by omega), b8 _ (by omega)]; omega) (by decide) ht
  · exact len_leaf (k := 16) (by omega) (by omega) (by rw [b16 n (by omega)]) (by decide) ht
  · exact len_leaf (k := 8) (by omega) (by omega) (by rw [b8 n (by omega)]) (by decide) ht
  · exact len_leaf (k := 0) (by omega) (by omega) (by omega) (by decide) ht
theorem Len64_eq : (∀ a, Len64_C.pre a → PM.wfP Len64_C.pm a (fvc Len64_X 200 93 Len64_C a (eqO Len64_C a))) = (∀ a : Int × Unit, True → (Ty.kd (.int .u64)).wf a.1 → Len64_VC a.1 (fun o0 => o0 = (blen (a.1).toNat : Int))) := by kernel_rfl
theorem Len64_k : Len64_C.valid Try.prog 93 := ctr_of (X := Len64_X) (ok_of seat_ok (fun b hb => by cases hb; exact bkT_ok) fns_ok trivial) 200 (Len64_eq.mpr fun a hp w_0 => @Len64_ok a.1 w_0)
noncomputable def Num_C : Ctr := ⟨[.v (.sl .byte), .v (.sl (.int .u64))], [.ow 5 .byte], some (fun a => (fun (a0_b : List UInt8) (a1_l : List Int) => (a0_b.length + 9 * a1_l.length ≤ 140737488355328 : Prop)) a.1 a.2.1), fun a => (fun (a0_b : List UInt8) (a1_l : List Int) => (((a0_b ++ numAll a1_l), ()), (()))) a.1 a.2.1⟩
noncomputable def Num_X : Fx := ⟨seat, some bkT, fns, [(59, Clone_C), (93, Len64_C)], [], [], []⟩
def Num_VC (a0_b : List UInt8) (a1_l : List Int) (Q : (List UInt8) → Prop) : Prop :=
  a0_b.length ≤ (140737488355328 : Nat) ∧ (Ty.byte.kd.sl.wf a0_b → ∃ (x0 : List UInt8 → Int → Prop), ∃ (x1 : List UInt8 → Int → Nat), x0 a0_b (0 : Int) ∧ ∀ (x2 : List UInt8) (x3 : Int), x0 x2 x3 → Ty.byte.kd.sl.wf x2 → (Kd.int IntKind.i64).wf x3 → (x3 < (a1_l.length : Int) → ((0 : Int) ≤ x3 ∧ x3 < (a1_l.length : Int)) ∧ ((Ty.int IntKind.i64).kd.wf (blen (ix a1_l x3).toNat : Int) → (x2.length + (toB (IntKind.u8.wrap (IntKind.i64.wrap ((IntKind.i64.wrap ((blen (ix a1_l x3).toNat : Int) + (7 : Int))).tdiv (8 : Int)))) :: ([] : List UInt8)).length) * (1 : Nat) ≤ (140737488355328 : Nat) ∧ ∃ (x9 : List UInt8 → Int → Prop), ∃ (x10 : List UInt8 → Int → Nat), x9 (x2 ++ toB (IntKind.u8.wrap (IntKind.i64.wrap ((IntKind.i64.wrap ((blen (ix a1_l x3).toNat : Int) + (7 : Int))).tdiv (8 : Int)))) :: ([] : List UInt8)) (IntKind.i64.wrap ((8 : Int) * IntKind.i64.wrap ((IntKind.i64.wrap ((blen (ix a1_l x3).toNat : Int) + (7 : Int))).tdiv (8 : Int)))) ∧ ∀ (x11 : List UInt8) (x12 : Int), x9 x11 x12 → Ty.byte.kd.sl.wf x11 → (Kd.int IntKind.i64).wf x12 → ((0 : Int) < x12 → (0 : Int) ≤ IntKind.i64.wrap (x12 - (8 : Int)) ∧ (x11.length + (toB (IntKind.u8.wrap (shr IntKind.u64 (ix a1_l x3) (IntKind.i64.wrap (x12 - (8 : Int))))) :: ([] : List UInt8)).length) * (1 : Nat) ≤ (140737488355328 : Nat) ∧ x9 (x11 ++ toB (IntKind.u8.wrap (shr IntKind.u64 (ix a1_l x3) (IntKind.i64.wrap (x12 - (8 : Int))))) :: ([] : List UInt8)) (IntKind.i64.wrap (x12 - (8 : Int))) ∧ x10 (x11 ++ toB (IntKind.u8.wrap (shr IntKind.u64 (ix a1_l x3) (IntKind.i64.wrap (x12 - (8 : Int))))) :: ([] : List UInt8)) (IntKind.i64.wrap (x12 - (8 : Int))) < x10 x11 x12) ∧ (¬(0 : Int) < x12 → x3 < (9223372036854775807 : Int) ∧ x0 x11 (x3 + (1 : Int)) ∧ x1 x11 (x3 + (1 : Int)) < x1 x2 x3))) ∧ (¬x3 < (a1_l.length : Int) → Q x2))
theorem Num_ok {a0_b : List UInt8} {a1_l : List Int} (w_0 : (Ty.kd (.sl .byte)).wf a0_b) (w_1 : (Ty.kd (.sl (.int .u64))).wf a1_l) (hp : a0_b.length + 9 * a1_l.length ≤ 140737488355328) : Num_VC a0_b a1_l (fun o0 => o0 = (a0_b ++ numAll a1_l)) := by
  have hw : ∀ x ∈ a1_l, ∃ n : Nat, x = (n : Int) ∧ n < 2 ^ 64 := fun x hx => by
    obtain ⟨n, rfl⟩ := Int.eq_ofNat_of_zero_le (w_1.2 x hx).1
    have h : ((n : Int)) ≤ (18446744073709551615 : Int) := (w_1.2 (n : Int) hx).2
    exact ⟨n, rfl, by omega⟩
  have hlen : ∀ j, j ≤ a1_l.length → (numAll (a1_l.take j)).length ≤ 9 * j := by
    intro j
    induction j with
    | zero => intro _; simp [numAll]
    | succ j ih =>
      intro hj
      have hlt : (j : Int) < (a1_l.length : Int) := by omega
      obtain ⟨n, hn, hb⟩ := hw _ (ix_mem (by omega) hlt)
      have h1 := numB_length hb
      have h2 := ih (by omega)
      rw [take_step hlt]
      unfold numAll at *
      rw [List.flatMap_append, List.length_append]
      simp only [List.flatMap_cons, List.flatMap_nil, List.append_nil, hn, Int.toNat_natCast]
      omega
  unfold Num_VC
  refine ⟨by omega, fun _ => ⟨fun out i => ∃ j : Nat, i = (j : Int) ∧ j ≤ a1_l.length ∧ out = a0_b ++ numAll (a1_l.take j), fun _ i => a1_l.length - i.toNat, ⟨0, rfl, by omega, by simp [numAll]⟩, ?_⟩⟩
  rintro out i ⟨j, rfl, hj, rfl⟩ _ hwi
  refine ⟨fun hlt => ⟨⟨by omega, hlt⟩, fun _ => ⟨?_, ?_⟩⟩, fun hge => ?_⟩
  · have := hlen j hj
    simp only [List.length_append, List.length_cons, List.length_nil]
    omega
  · obtain ⟨n, hn, hb⟩ := hw _ (ix_mem (by omega) hlt)
    have hbl := blen_lt 64 hb
    have hk := num_k hbl
    rw [hn]
    simp only [Int.toNat_natCast, hk]
    rw [u8_mod]
    generalize hkk : (blen n + 7) / 8 = k
    have hk8 : k ≤ 8 := by omega
    have hT : a0_b ++ numAll (a1_l.take (j + 1)) = a0_b ++ numAll (a1_l.take j) ++ [UInt8.ofNat k] ++ be n k := by
      rw [take_step hlt]
      simp [numAll, numB, hn, hkk]
    have hTl := hlen (j + 1) (by omega)
    have hTl2 : (a0_b ++ numAll (a1_l.take (j + 1))).length ≤ 140737488355328 := by
      rw [List.length_append]
      omega
    refine ⟨fun out at_ => ∃ m : Nat, m ≤ k ∧ at_ = ((8 * m : Nat) : Int) ∧ out ++ be n m = a0_b ++ numAll (a1_l.take (j + 1)), fun _ at_ => at_.toNat, ⟨k, Nat.le_refl _, ?_, hT.symm⟩, ?_⟩
    · rw [wrap_id (wf64 (by omega) (by omega))]
      omega
    · rintro out at_ ⟨m, hm, rfl, hout⟩ _ _
      refine ⟨fun hpos => ?_, fun hz => ?_⟩
      · obtain ⟨m, rfl⟩ : ∃ m', m = m' + 1 := ⟨m - 1, by omega⟩
        have e8 : IntKind.i64.wrap (((8 * (m + 1) : Nat) : Int) - 8) = ((8 * m : Nat) : Int) := by
          rw [wrap_id (wf64 (by omega) (by omega))]
          omega
        rw [e8, byte_at (by omega)]
        have hol := congrArg List.length hout
        simp only [List.length_append, be_length] at hol
        simp only [List.length_append] at hTl2
        refine ⟨by omega, ?_, ⟨m, by omega, rfl, ?_⟩, ?_⟩
        · simp only [List.length_cons, List.length_nil]
          omega
        · rw [← hout]
          simp [be]
        · show ((8 * m : Nat) : Int).toNat < ((8 * (m + 1) : Nat) : Int).toNat
          omega
      · have : m = 0 := by omega
        subst this
        have h2 := w_1.1
        unfold LM at h2
        refine ⟨by omega, ⟨j + 1, rfl, by omega, by simpa [be] using hout⟩, ?_⟩
        show a1_l.length - ((j + 1 : Nat) : Int).toNat < a1_l.length - (j : Int).toNat
        omega
  · have : j = a1_l.length := by omega
    subst this
    rw [List.take_length]
theorem Num_eq : (∀ a, Num_C.pre a → PM.wfP Num_C.pm a (fvc Num_X 200 86 Num_C a (eqO Num_C a))) = (∀ a : (List UInt8) × (List Int) × Unit, ((a.1).length + 9 * (a.2.1).length ≤ 140737488355328) → (Ty.kd (.sl .byte)).wf a.1 → (Ty.kd (.sl (.int .u64))).wf a.2.1 → Num_VC a.1 a.2.1 (fun o0 => o0 = ((a.1) ++ numAll (a.2.1)))) := by kernel_rfl
theorem Num_k : Num_C.valid Try.prog 86 := ctr_of (X := Num_X) (ok_of seat_ok (fun b hb => by cases hb; exact bkT_ok) fns_ok ⟨Clone_k, Len64_k, trivial⟩) 200 (Num_eq.mpr fun a hp w_0 w_1 => @Num_ok a.1 a.2.1 w_0 w_1 hp)
noncomputable def Blob_C : Ctr := ⟨[.v (.sl .byte), .v (.sl (.sl .byte))], [.ow 5 .byte], some (fun a => (fun (a0_b : List UInt8) (a1_l : List (List UInt8)) => (a0_b.length + blobRoom a1_l ≤ 140737488355328 : Prop)) a.1 a.2.1), fun a => (fun (a0_b : List UInt8) (a1_l : List (List UInt8)) => (((a0_b ++ blobAll a1_l), ()), (()))) a.1 a.2.1⟩
noncomputable def Blob_X : Fx := ⟨seat, some bkT, fns, [(59, Clone_C), (86, Num_C)], [], [], []⟩
def Blob_VC (a0_b : List UInt8) (a1_l : List (List UInt8)) (Q : (List UInt8) → Prop) : Prop :=
  a0_b.length ≤ (140737488355328 : Nat) ∧ (Ty.byte.kd.sl.wf a0_b → ∃ (x0 : List UInt8 → Int → Prop), ∃ (x1 : List UInt8 → Int → Nat), x0 a0_b (0 : Int) ∧ ∀ (x2 : List UInt8) (x3 : Int), x0 x2 x3 → Ty.byte.kd.sl.wf x2 → (Kd.int IntKind.i64).wf x3 → (x3 < (a1_l.length : Int) → ((0 : Int) ≤ x3 ∧ x3 < (a1_l.length : Int)) ∧ x2.length + (9 : Nat) * (IntKind.u64.wrap ((ix a1_l x3).length : Int) :: ([] : List Int)).length ≤ (140737488355328 : Nat) ∧ (Ty.byte.kd.sl.wf (x2 ++ numAll (IntKind.u64.wrap ((ix a1_l x3).length : Int) :: ([] : List Int))) → ((x2 ++ numAll (IntKind.u64.wrap ((ix a1_l x3).length : Int) :: ([] : List Int))).length + (ix a1_l x3).length) * (1 : Nat) ≤ (140737488355328 : Nat) ∧ x3 < (9223372036854775807 : Int) ∧ x0 (x2 ++ numAll (IntKind.u64.wrap ((ix a1_l x3).length : Int) :: ([] : List Int)) ++ ix a1_l x3) (x3 + (1 : Int)) ∧ x1 (x2 ++ numAll (IntKind.u64.wrap ((ix a1_l x3).length : Int) :: ([] : List Int)) ++ ix a1_l x3) (x3 + (1 : Int)) < x1 x2 x3)) ∧ (¬x3 < (a1_l.length : Int) → Q x2))
theorem Blob_ok {a0_b : List UInt8} {a1_l : List (List UInt8)} (w_0 : (Ty.kd (.sl .byte)).wf a0_b) (w_1 : (Ty.kd (.sl (.sl .byte))).wf a1_l) (hp : a0_b.length + blobRoom a1_l ≤ 140737488355328) : Blob_VC a0_b a1_l (fun o0 => o0 = (a0_b ++ blobAll a1_l)) := by
  have hw : ∀ x ∈ a1_l, x.length ≤ LM := fun x hx => (w_1.2 x hx).1
  unfold Blob_VC
  refine ⟨by omega, fun _ => ⟨fun out i => ∃ j : Nat, i = (j : Int) ∧ j ≤ a1_l.length ∧ out = a0_b ++ blobAll (a1_l.take j), fun _ i => a1_l.length - i.toNat, ⟨0, rfl, by omega, by simp [blobAll]⟩, ?_⟩⟩
  rintro out i ⟨j, rfl, hj, rfl⟩ _ _
  refine ⟨fun hlt => ⟨⟨by omega, hlt⟩, ?_, fun _ => ⟨?_, by have := w_1.1; unfold LM at this; omega, ?_, ?_⟩⟩, fun hge => ?_⟩
  · have h1 := blobAll_length (a1_l.take j) (fun y hy => by have := hw y (List.mem_of_mem_take hy); unfold LM at this; omega)
    have h2 := blobRoom_step hlt
    simp only [List.length_append, List.length_cons, List.length_nil]
    omega
  · have h1 := blobAll_length (a1_l.take j) (fun y hy => by have := hw y (List.mem_of_mem_take hy); unfold LM at this; omega)
    have h2 := blobRoom_step hlt
    have h3 := hw _ (ix_mem (by omega) hlt)
    have h4 : IntKind.u64.wrap ((ix a1_l (j : Int)).length : Int) = ((ix a1_l (j : Int)).length : Int) := wrap_id ⟨by show (0 : Int) ≤ _; omega, by unfold LM at h3; show _ ≤ (18446744073709551615 : Int); omega⟩
    have h5 := numB_length (n := (ix a1_l (j : Int)).length) (by unfold LM at h3; omega)
    rw [h4]
    simp only [List.length_append, numAll, List.flatMap_cons, List.flatMap_nil, List.append_nil, Int.toNat_natCast]
    omega
  · have h3 := hw _ (ix_mem (by omega) hlt)
    have h4 : IntKind.u64.wrap ((ix a1_l (j : Int)).length : Int) = ((ix a1_l (j : Int)).length : Int) := wrap_id ⟨by show (0 : Int) ≤ _; omega, by unfold LM at h3; show _ ≤ (18446744073709551615 : Int); omega⟩
    refine ⟨j + 1, by omega, by omega, ?_⟩
    rw [h4, take_step hlt]
    simp [blobAll, numAll]
  · show a1_l.length - ((j : Int) + 1).toNat < a1_l.length - (j : Int).toNat
    omega
  · have : j = a1_l.length := by omega
    subst this
    rw [List.take_length]
theorem Blob_eq : (∀ a, Blob_C.pre a → PM.wfP Blob_C.pm a (fvc Blob_X 200 76 Blob_C a (eqO Blob_C a))) = (∀ a : (List UInt8) × (List (List UInt8)) × Unit, ((a.1).length + blobRoom (a.2.1) ≤ 140737488355328) → (Ty.kd (.sl .byte)).wf a.1 → (Ty.kd (.sl (.sl .byte))).wf a.2.1 → Blob_VC a.1 a.2.1 (fun o0 => o0 = ((a.1) ++ blobAll (a.2.1)))) := by kernel_rfl
theorem Blob_k : Blob_C.valid Try.prog 76 := ctr_of (X := Blob_X) (ok_of seat_ok (fun b hb => by cases hb; exact bkT_ok) fns_ok ⟨Clone_k, Num_k, trivial⟩) 200 (Blob_eq.mpr fun a hp w_0 w_1 => @Blob_ok a.1 a.2.1 w_0 w_1 hp)
noncomputable def Preimage_C : Ctr := ⟨[.v (.int .i64), .v (.sl (.sl .byte))], [.ow 5 .byte], some (fun a => (fun (a0_kind : Int) (a1_parts : List (List UInt8)) => (1 + blobRoom a1_parts ≤ 140737488355328 : Prop)) a.1 a.2.1), fun a => (fun (a0_kind : Int) (a1_parts : List (List UInt8)) => (((preimage a0_kind a1_parts), ()), (()))) a.1 a.2.1⟩
noncomputable def Preimage_X : Fx := ⟨seat, some bkT, fns, [(76, Blob_C)], [], [], []⟩
def Preimage_VC (a0_kind : Int) (a1_parts : List (List UInt8)) (Q : (List UInt8) → Prop) : Prop :=
  (toB (IntKind.u8.wrap a0_kind) :: ([] : List UInt8)).length + blobRoom a1_parts ≤ (140737488355328 : Nat) ∧ (Ty.byte.kd.sl.wf (toB (IntKind.u8.wrap a0_kind) :: ([] : List UInt8) ++ blobAll a1_parts) → Q (toB (IntKind.u8.wrap a0_kind) :: ([] : List UInt8) ++ blobAll a1_parts))
theorem Preimage_ok {a0_kind : Int} {a1_parts : List (List UInt8)} (w_0 : (Ty.kd (.int .i64)).wf a0_kind) (w_1 : (Ty.kd (.sl (.sl .byte))).wf a1_parts) (hp : 1 + blobRoom a1_parts ≤ 140737488355328) : Preimage_VC a0_kind a1_parts (fun o0 => o0 = (preimage a0_kind a1_parts)) := by
  unfold Preimage_VC
  refine ⟨by simpa using hp, fun _ => rfl⟩
theorem Preimage_eq : (∀ a, Preimage_C.pre a → PM.wfP Preimage_C.pm a (fvc Preimage_X 200 67 Preimage_C a (eqO Preimage_C a))) = (∀ a : Int × (List (List UInt8)) × Unit, (1 + blobRoom (a.2.1) ≤ 140737488355328) → (Ty.kd (.int .i64)).wf a.1 → (Ty.kd (.sl (.sl .byte))).wf a.2.1 → Preimage_VC a.1 a.2.1 (fun o0 => o0 = (preimage (a.1) (a.2.1)))) := by kernel_rfl
theorem Preimage_k : Preimage_C.valid Try.prog 67 := ctr_of (X := Preimage_X) (ok_of seat_ok (fun b hb => by cases hb; exact bkT_ok) fns_ok ⟨Blob_k, trivial⟩) 200 (Preimage_eq.mpr fun a hp w_0 w_1 => @Preimage_ok a.1 a.2.1 w_0 w_1 hp)
noncomputable def New_C : Ctr := ⟨[], [.bx (.pr (.arr 8 (.int .u32)) (.pr (.int .u64) (.sl .byte)))], none, fun _ => ((((List.replicate 8 (0 : Int), (0 : Int), ([] : List UInt8)) : List Int × Int × List UInt8), ()), (()))⟩
noncomputable def New_X : Fx := ⟨seat, some bkT, fns, [], [], [], []⟩
def New_VC (Q : ((List Int) × Int × List UInt8) → Prop) : Prop :=
  Q ((Ty.arr (8 : Nat) (Ty.int IntKind.u32)).pr ((Ty.int IntKind.u64).pr Ty.byte.sl)).kd.z
theorem New_ok  : New_VC  (fun o0 => o0 = ((List.replicate 8 (0 : Int), (0 : Int), ([] : List UInt8)) : List Int × Int × List UInt8)) := by
  exact rfl
theorem New_eq : (∀ a, New_C.pre a → PM.wfP New_C.pm a (fvc New_X 200 77 New_C a (eqO New_C a))) = (∀ a : Unit, True → New_VC  (fun o0 => o0 = ((List.replicate 8 (0 : Int), (0 : Int), ([] : List UInt8)) : List Int × Int × List UInt8))) := by kernel_rfl
theorem New_k : New_C.valid Try.prog 77 := ctr_of (X := New_X) (ok_of seat_ok (fun b hb => by cases hb; exact bkT_ok) fns_ok trivial) 200 (New_eq.mpr fun a hp  => @New_ok )
noncomputable def high_C : Ctr := ⟨[.v (.int .u64)], [.ow 5 .byte], none, fun a => (fun (a0_x : Int) => (((be a0_x.toNat 8), ()), (()))) a.1⟩
noncomputable def high_X : Fx := ⟨seat, some bkT, fns, [], [], [], []⟩
def high_VC (a0_x : Int) (Q : (List UInt8) → Prop) : Prop :=
  ∃ (x0 : List UInt8 → Int → Prop), ∃ (x1 : List UInt8 → Int → Nat), x0 ([] : List UInt8) (56 : Int) ∧ ∀ (x2 : List UInt8) (x3 : Int), x0 x2 x3 → Ty.byte.kd.sl.wf x2 → (Kd.int IntKind.i64).wf x3 → ((0 : Int) ≤ x3 → (0 : Int) ≤ x3 ∧ (x2.length + (toB (IntKind.u8.wrap (shr IntKind.u64 a0_x x3)) :: ([] : List UInt8)).length) * (1 : Nat) ≤ (140737488355328 : Nat) ∧ x0 (x2 ++ toB (IntKind.u8.wrap (shr IntKind.u64 a0_x x3)) :: ([] : List UInt8)) (IntKind.i64.wrap (x3 - (8 : Int))) ∧ x1 (x2 ++ toB (IntKind.u8.wrap (shr IntKind.u64 a0_x x3)) :: ([] : List UInt8)) (IntKind.i64.wrap (x3 - (8 : Int))) < x1 x2 x3) ∧ (¬(0 : Int) ≤ x3 → Q x2)
theorem high_ok {a0_x : Int} (w_0 : (Ty.kd (.int .u64)).wf a0_x) : high_VC a0_x (fun o0 => o0 = (be a0_x.toNat 8)) := by
  obtain ⟨n, rfl⟩ := Int.eq_ofNat_of_zero_le w_0.1
  unfold high_VC
  rw [Int.toNat_natCast]
  refine ⟨fun b i => ∃ m : Nat, m ≤ 8 ∧ i = 8 * (m : Int) - 8 ∧ b ++ be n m = be n 8, fun _ i => (i + 8).toNat, ⟨8, by omega, by omega, rfl⟩, ?_⟩
  rintro b i ⟨m, hm, rfl, hb⟩ _ _
  have hbl := congrArg List.length hb
  simp only [List.length_append, be_length] at hbl
  refine ⟨fun h0 => ⟨h0, ?_, ?_, ?_⟩, fun h => ?_⟩
  · simp only [List.length_cons, List.length_nil]
    omega
  · obtain ⟨m, rfl⟩ : ∃ m', m = m' + 1 := ⟨m - 1, by omega⟩
    have e : 8 * ((m + 1 : Nat) : Int) - 8 = ((8 * m : Nat) : Int) := by omega
    rw [e, byte_at (by omega), wrap_id (wf64 (by omega) (by omega))]
    refine ⟨m, by omega, by omega, ?_⟩
    rw [← hb]
    simp [be]
  · rw [wrap_id (wf64 (by omega) (by omega))]
    show (8 * (m : Int) - 8 - 8 + 8).toNat < (8 * (m : Int) - 8 + 8).toNat
    omega
  · have : m = 0 := by omega
    subst this
    simpa [be] using hb
theorem high_eq : (∀ a, high_C.pre a → PM.wfP high_C.pm a (fvc high_X 200 92 high_C a (eqO high_C a))) = (∀ a : Int × Unit, True → (Ty.kd (.int .u64)).wf a.1 → high_VC a.1 (fun o0 => o0 = (be (a.1).toNat 8))) := by kernel_rfl
theorem high_k : high_C.valid Try.prog 92 := ctr_of (X := high_X) (ok_of seat_ok (fun b hb => by cases hb; exact bkT_ok) fns_ok trivial) 200 (high_eq.mpr fun a hp w_0 => @high_ok a.1 w_0)
noncomputable def first_C : Ctr := ⟨[], [.v (.arr 8 (.int .u32))], none, fun _ => ((shaH, ()), (()))⟩
noncomputable def first_X : Fx := ⟨seat, some bkT, fns, [], [], [], []⟩
def first_VC (Q : (List Int) → Prop) : Prop :=
  Q ((1779033703 : Int) :: (3144134277 : Int) :: (1013904242 : Int) :: (2773480762 : Int) :: (1359893119 : Int) :: (2600822924 : Int) :: (528734635 : Int) :: (1541459225 : Int) :: ([] : List Int))
theorem first_ok  : first_VC  (fun o0 => o0 = shaH) := by
  exact rfl
theorem first_eq : (∀ a, first_C.pre a → PM.wfP first_C.pm a (fvc first_X 200 88 first_C a (eqO first_C a))) = (∀ a : Unit, True → first_VC  (fun o0 => o0 = shaH)) := by kernel_rfl
theorem first_k : first_C.valid Try.prog 88 := ctr_of (X := first_X) (ok_of seat_ok (fun b hb => by cases hb; exact bkT_ok) fns_ok trivial) 200 (first_eq.mpr fun a hp  => @first_ok )
noncomputable def rounds_C : Ctr := ⟨[], [.v (.arr 64 (.int .u32))], none, fun _ => ((shaK, ()), (()))⟩
noncomputable def rounds_X : Fx := ⟨seat, some bkT, fns, [], [], [], []⟩
def rounds_VC (Q : (List Int) → Prop) : Prop :=
  Q ((1116352408 : Int) :: (1899447441 : Int) :: (3049323471 : Int) :: (3921009573 : Int) :: (961987163 : Int) :: (1508970993 : Int) :: (2453635748 : Int) :: (2870763221 : Int) :: (3624381080 : Int) :: (310598401 : Int) :: (607225278 : Int) :: (1426881987 : Int) :: (1925078388 : Int) :: (2162078206 : Int) :: (2614888103 : Int) :: (3248222580 : Int) :: (3835390401 : Int) :: (4022224774 : Int) :: (264347078 : Int) :: (604807628 : Int) :: (770255983 : Int) :: (1249150122 : Int) :: (1555081692 : Int) :: (1996064986 : Int) :: (2554220882 : Int) :: (2821834349 : Int) :: (2952996808 : Int) :: (3210313671 : Int) :: (3336571891 : Int) :: (3584528711 : Int) :: (113926993 : Int) :: (338241895 : Int) :: (666307205 : Int) :: (773529912 : Int) :: (1294757372 : Int) :: (1396182291 : Int) :: (1695183700 : Int) :: (1986661051 : Int) :: (2177026350 : Int) :: (2456956037 : Int) :: (2730485921 : Int) :: (2820302411 : Int) :: (3259730800 : Int) :: (3345764771 : Int) :: (3516065817 : Int) :: (3600352804 : Int) :: (4094571909 : Int) :: (275423344 : Int) :: (430227734 : Int) :: (506948616 : Int) :: (659060556 : Int) :: (883997877 : Int) :: (958139571 : Int) :: (1322822218 : Int) :: (1537002063 : Int) :: (1747873779 : Int) :: (1955562222 : Int) :: (2024104815 : Int) :: (2227730452 : Int) :: (2361852424 : Int) :: (2428436474 : Int) :: (2756734187 : Int) :: (3204031479 : Int) :: (3329325298 : Int) :: ([] : List Int))
theorem rounds_ok  : rounds_VC  (fun o0 => o0 = shaK) := by
  exact rfl
theorem rounds_eq : (∀ a, rounds_C.pre a → PM.wfP rounds_C.pm a (fvc rounds_X 200 96 rounds_C a (eqO rounds_C a))) = (∀ a : Unit, True → rounds_VC  (fun o0 => o0 = shaK)) := by kernel_rfl
theorem rounds_k : rounds_C.valid Try.prog 96 := ctr_of (X := rounds_X) (ok_of seat_ok (fun b hb => by cases hb; exact bkT_ok) fns_ok trivial) 200 (rounds_eq.mpr fun a hp  => @rounds_ok )
noncomputable def Rotl_C : Ctr := ⟨[.v (.int .u32), .v (.int .i64)], [.v (.int .u32)], none, fun a => (fun (a0_x : Int) (a1_k : Int) => (((rotl a0_x a1_k), ()), (()))) a.1 a.2.1⟩
noncomputable def Rotl_X : Fx := ⟨seat, some bkT, fns, [], [], [], []⟩
def Rotl_VC (a0_x : Int) (a1_k : Int) (Q : Int → Prop) : Prop :=
  Q (bor IntKind.u32 (shl IntKind.u32 a0_x (band IntKind.u64 (IntKind.u64.wrap a1_k) (31 : Int))) (shr IntKind.u32 a0_x (IntKind.u64.wrap ((32 : Int) - band IntKind.u64 (IntKind.u64.wrap a1_k) (31 : Int)))))
theorem Rotl_ok {a0_x : Int} {a1_k : Int} (w_0 : (Ty.kd (.int .u32)).wf a0_x) (w_1 : (Ty.kd (.int .i64)).wf a1_k) : Rotl_VC a0_x a1_k (fun o0 => o0 = (rotl a0_x a1_k)) := by
  exact rfl
theorem Rotl_eq : (∀ a, Rotl_C.pre a → PM.wfP Rotl_C.pm a (fvc Rotl_X 200 97 Rotl_C a (eqO Rotl_C a))) = (∀ a : Int × Int × Unit, True → (Ty.kd (.int .u32)).wf a.1 → (Ty.kd (.int .i64)).wf a.2.1 → Rotl_VC a.1 a.2.1 (fun o0 => o0 = (rotl (a.1) (a.2.1)))) := by kernel_rfl
theorem Rotl_k : Rotl_C.valid Try.prog 97 := ctr_of (X := Rotl_X) (ok_of seat_ok (fun b hb => by cases hb; exact bkT_ok) fns_ok trivial) 200 (Rotl_eq.mpr fun a hp w_0 w_1 => @Rotl_ok a.1 a.2.1 w_0 w_1)
noncomputable def turns_C : Ctr := ⟨[.v (.int .u32), .v (.sl (.int .i64))], [.v (.int .u32)], none, fun a => (fun (a0_x : Int) (a1_l : List Int) => (((turnsOf a0_x a1_l), ()), (()))) a.1 a.2.1⟩
noncomputable def turns_X : Fx := ⟨seat, some bkT, fns, [(97, Rotl_C)], [], [], []⟩
def turns_VC (a0_x : Int) (a1_l : List Int) (Q : Int → Prop) : Prop :=
  ∃ (x0 : Int → Int → Prop), ∃ (x1 : Int → Int → Nat), x0 (0 : Int) (0 : Int) ∧ ∀ (x2 x3 : Int), x0 x2 x3 → (Kd.int IntKind.u32).wf x2 → (Kd.int IntKind.i64).wf x3 → (x3 < (a1_l.length : Int) → ((0 : Int) ≤ x3 ∧ x3 < (a1_l.length : Int)) ∧ ((Ty.int IntKind.u32).kd.wf (rotl a0_x (IntKind.i64.wrap ((0 : Int) - ix a1_l x3))) → x3 < (9223372036854775807 : Int) ∧ x0 (bxor IntKind.u32 x2 (rotl a0_x (IntKind.i64.wrap ((0 : Int) - ix a1_l x3)))) (x3 + (1 : Int)) ∧ x1 (bxor IntKind.u32 x2 (rotl a0_x (IntKind.i64.wrap ((0 : Int) - ix a1_l x3)))) (x3 + (1 : Int)) < x1 x2 x3)) ∧ (¬x3 < (a1_l.length : Int) → Q x2)
theorem turns_ok {a0_x : Int} {a1_l : List Int} (w_0 : (Ty.kd (.int .u32)).wf a0_x) (w_1 : (Ty.kd (.sl (.int .i64))).wf a1_l) : turns_VC a0_x a1_l (fun o0 => o0 = (turnsOf a0_x a1_l)) := by
  unfold turns_VC
  refine ⟨fun s i => ∃ j : Nat, i = (j : Int) ∧ j ≤ a1_l.length ∧ s = turnsOf a0_x (a1_l.take j), fun _ i => a1_l.length - i.toNat, ⟨0, rfl, by omega, rfl⟩, ?_⟩
  rintro s i ⟨j, rfl, hj, rfl⟩ _ _
  refine ⟨fun hlt => ⟨⟨by omega, hlt⟩, fun _ => ⟨by have := w_1.1; unfold LM at this; omega, ⟨j + 1, by omega, by omega, ?_⟩, ?_⟩⟩, fun hge => ?_⟩
  · rw [take_step hlt]
    simp [turnsOf]
  · show a1_l.length - ((j : Int) + 1).toNat < a1_l.length - (j : Int).toNat
    omega
  · have : j = a1_l.length := by omega
    subst this
    rw [List.take_length]
theorem turns_eq : (∀ a, turns_C.pre a → PM.wfP turns_C.pm a (fvc turns_X 200 95 turns_C a (eqO turns_C a))) = (∀ a : Int × (List Int) × Unit, True → (Ty.kd (.int .u32)).wf a.1 → (Ty.kd (.sl (.int .i64))).wf a.2.1 → turns_VC a.1 a.2.1 (fun o0 => o0 = (turnsOf (a.1) (a.2.1)))) := by kernel_rfl
theorem turns_k : turns_C.valid Try.prog 95 := ctr_of (X := turns_X) (ok_of seat_ok (fun b hb => by cases hb; exact bkT_ok) fns_ok ⟨Rotl_k, trivial⟩) 200 (turns_eq.mpr fun a hp w_0 w_1 => @turns_ok a.1 a.2.1 w_0 w_1)
noncomputable def HLen_C : Ctr := ⟨[.bx (.pr (.arr 8 (.int .u32)) (.pr (.int .u64) (.sl .byte))) false], [.v (.int .u64)], none, fun a => (fun (a0_h : (List Int) × Int × List UInt8) => (((hLen a0_h), ()), (()))) a.1⟩
noncomputable def HLen_X : Fx := ⟨seat, some bkT, fns, [], [], [], [(3, [], [.o 0 2, .o 1 2, .o 2 2, .o 3 2, .o 4 2, .o 5 2, .o 6 2, .o 7 2, .o 8 2, .o 9 2, .o 10 2, .o 11 2, .o 12 2])]⟩
def HLen_VC (a0_h : (List Int) × Int × List UInt8) (Q : Int → Prop) : Prop :=
  Q (IntKind.u64.wrap (IntKind.u64.wrap ((64 : Int) * a0_h.snd.fst) + IntKind.u64.wrap (a0_h.snd.snd.length : Int)))
theorem HLen_ok {a0_h : (List Int) × Int × List UInt8} (w_0 : (Ty.kd (.pr (.arr 8 (.int .u32)) (.pr (.int .u64) (.sl .byte)))).wf a0_h) : HLen_VC a0_h (fun o0 => o0 = (hLen a0_h)) := by
  exact rfl
theorem HLen_eq : (∀ a, HLen_C.pre a → PM.wfP HLen_C.pm a (fvc HLen_X 200 91 HLen_C a (eqO HLen_C a))) = (∀ a : ((List Int) × Int × List UInt8) × Unit, True → (Ty.kd (.pr (.arr 8 (.int .u32)) (.pr (.int .u64) (.sl .byte)))).wf a.1 → HLen_VC a.1 (fun o0 => o0 = (hLen (a.1)))) := by kernel_rfl
theorem HLen_k : HLen_C.valid Try.prog 91 := ctr_of (X := HLen_X) (ok_of seat_ok (fun b hb => by cases hb; exact bkT_ok) fns_ok trivial) 200 (HLen_eq.mpr fun a hp w_0 => @HLen_ok a.1 w_0)
noncomputable def HCopy_C : Ctr := ⟨[.bx (.pr (.arr 8 (.int .u32)) (.pr (.int .u64) (.sl .byte))) false], [.bx (.pr (.arr 8 (.int .u32)) (.pr (.int .u64) (.sl .byte)))], some (fun a => (fun (a0_h : (List Int) × Int × List UInt8) => (a0_h.2.2.length ≤ 140737488355328 : Prop)) a.1), fun a => (fun (a0_h : (List Int) × Int × List UInt8) => ((a0_h, ()), (()))) a.1⟩
noncomputable def HCopy_X : Fx := ⟨seat, some bkT, fns, [(59, Clone_C)], [], [], []⟩
def HCopy_VC (a0_h : (List Int) × Int × List UInt8) (Q : ((List Int) × Int × List UInt8) → Prop) : Prop :=
  a0_h.snd.snd.length ≤ (140737488355328 : Nat) ∧ (Ty.byte.kd.sl.wf a0_h.snd.snd → Q (a0_h.fst, a0_h.snd.fst, a0_h.snd.snd))
theorem HCopy_ok {a0_h : (List Int) × Int × List UInt8} (w_0 : (Ty.kd (.pr (.arr 8 (.int .u32)) (.pr (.int .u64) (.sl .byte)))).wf a0_h) (hp : a0_h.2.2.length ≤ 140737488355328) : HCopy_VC a0_h (fun o0 => o0 = a0_h) := by
  exact ⟨hp, fun _ => rfl⟩
theorem HCopy_eq : (∀ a, HCopy_C.pre a → PM.wfP HCopy_C.pm a (fvc HCopy_X 200 90 HCopy_C a (eqO HCopy_C a))) = (∀ a : ((List Int) × Int × List UInt8) × Unit, ((a.1).2.2.length ≤ 140737488355328) → (Ty.kd (.pr (.arr 8 (.int .u32)) (.pr (.int .u64) (.sl .byte)))).wf a.1 → HCopy_VC a.1 (fun o0 => o0 = (a.1))) := by kernel_rfl
theorem HCopy_k : HCopy_C.valid Try.prog 90 := ctr_of (X := HCopy_X) (ok_of seat_ok (fun b hb => by cases hb; exact bkT_ok) fns_ok ⟨Clone_k, trivial⟩) 200 (HCopy_eq.mpr fun a hp w_0 => @HCopy_ok a.1 w_0 hp)
end Go.Proofs.Ytkffegaofdpkiaa

/- Each function that stands here: what it is asked and leaves (_C), its condition (_VC), that it holds (_ok), its contract (_c). -/
set_option linter.unusedVariables false
set_option maxRecDepth 100000
set_option maxHeartbeats 20000000
namespace Go.Proofs.Ytkffegaofdpkiaa
open Go Go.RowKit Go.Inc
noncomputable def take_C : Ctr := ⟨[.bx (.arr 8 (.int .u32)) true, .v (.sl .byte)], [], some (fun a => (fun (a0_s : List Int) (a1_b : List UInt8) => (a1_b.length = 64 : Prop)) a.1 a.2.1), fun a => (fun (a0_s : List Int) (a1_b : List UInt8) => ((()), ((takeW a0_s a1_b), ()))) a.1 a.2.1⟩
noncomputable def take_X : Fx := ⟨seat, some bkT, fns, [(95, turns_C), (96, rounds_C)], [], [(2, [1], []), (10, [2], []), (18, [0], [])], [(5, [1], [.o 0 2, .o 1 2, .o 2 2, .o 3 2, .o 4 2, .o 5 2, .o 6 2, .o 7 2, .o 8 2, .o 9 2, .o 10 2, .o 11 2, .o 12 2, .o 13 2, .o 14 2, .o 15 2, .o 16 2, .o 17 2, .o 18 2, .o 19 2, .o 20 2, .o 21 2, .o 22 2, .o 23 2, .o 24 2, .o 25 2, .o 26 2, .o 27 2, .o 28 2, .o 29 2, .o 30 2, .o 31 2, .o 32 2, .o 33 2, .o 34 2, .o 35 1]), (6, [1], [.o 0 2, .o 1 2, .o 2 2, .o 3 2, .o 4 2, .o 5 2, .o 6 2, .o 7 2, .o 8 2, .o 9 2, .o 10 2, .o 11 2, .o 12 2, .o 13 2, .o 16 2, .o 17 2, .o 18 2, .o 19 2, .o 20 2, .o 23 2, .o 24 2, .o 25 2, .o 26 2, .o 29 2, .o 30 2, .o 31 2, .o 32 2, .o 33 2, .par [14, 15, 21, 22, 27] (.alt 14 0 (.alt 15 0 (.one 21 2 (.one 22 2 (.one 27 0 .fin))) (.alt 27 0 (.one 15 0 (.one 21 2 (.one 22 2 .fin))) .fin)) (.alt 27 0 (.one 14 0 (.one 15 0 (.one 21 2 (.one 22 2 .fin)))) .fin)), .o 28 0, .o 34 2, .o 35 2, .o 36 2, .o 37 1]), (12, [], [.o 0 2, .o 1 2, .o 2 2, .o 3 2, .o 4 2, .o 5 2]), (13, [], [.o 0 2, .o 1 2, .o 2 2, .o 6 2, .o 7 2, .o 8 2, .o 9 2, .o 10 2, .o 11 2, .o 12 2, .o 13 2, .o 14 2, .o 15 2, .o 17 2, .o 19 2, .o 20 2, .o 21 2, .o 3 0, .o 4 0, .o 5 2, .o 16 2, .o 18 2, .o 22 2, .o 23 2]), (14, [], [.o 0 2, .o 3 2, .o 4 2, .o 5 2, .o 6 2, .o 7 2, .o 8 2, .o 9 2, .o 10 2, .o 11 2, .o 12 2, .o 13 2, .o 14 2, .o 15 2, .o 16 2, .o 17 2, .o 1 0, .o 2 0, .o 18 2, .o 19 2]), (20, [0], [.o 0 2, .o 1 2, .o 2 2, .o 3 2, .o 4 2, .o 5 2, .o 6 2, .o 7 2, .o 8 2, .o 9 2, .o 10 2, .o 11 1])]⟩
def take_VC (a0_s : List Int) (a1_b : List UInt8) (Q : (List Int) → Prop) : Prop :=
  ∃ (x0 : Int → List Int → Prop), ∃ (x1 : Int → List Int → Nat), x0 (0 : Int) (Ty.arr (64 : Nat) (Ty.int IntKind.u32)).kd.z ∧ ∀ (x2 : Int) (x3 : List Int), x0 x2 x3 → (Kd.int IntKind.i64).wf x2 → (Ty.arr (64 : Nat) (Ty.int IntKind.u32)).kd.wf x3 → (x2 < (64 : Int) → (x2 < (16 : Int) → ((0 : Int) ≤ IntKind.i64.wrap ((4 : Int) * x2) ∧ IntKind.i64.wrap ((4 : Int) * x2) < (a1_b.length : Int)) ∧ ((0 : Int) ≤ IntKind.i64.wrap (IntKind.i64.wrap ((4 : Int) * x2) + (1 : Int)) ∧ IntKind.i64.wrap (IntKind.i64.wrap ((4 : Int) * x2) + (1 : Int)) < (a1_b.length : Int)) ∧ ((0 : Int) ≤ IntKind.i64.wrap (IntKind.i64.wrap ((4 : Int) * x2) + (2 : Int)) ∧ IntKind.i64.wrap (IntKind.i64.wrap ((4 : Int) * x2) + (2 : Int)) < (a1_b.length : Int)) ∧ ((0 : Int) ≤ IntKind.i64.wrap (IntKind.i64.wrap ((4 : Int) * x2) + (3 : Int)) ∧ IntKind.i64.wrap (IntKind.i64.wrap ((4 : Int) * x2) + (3 : Int)) < (a1_b.length : Int)) ∧ ((0 : Int) ≤ x2 ∧ x2 < ((64 : Nat) : Int)) ∧ x2 < (9223372036854775807 : Int) ∧ x0 (x2 + (1 : Int)) (x3.set x2.toNat (bor IntKind.u32 (bor IntKind.u32 (bor IntKind.u32 (shl IntKind.u32 (bI (ix a1_b (IntKind.i64.wrap ((4 : Int) * x2)))) (24 : Int)) (shl IntKind.u32 (bI (ix a1_b (IntKind.i64.wrap (IntKind.i64.wrap ((4 : Int) * x2) + (1 : Int))))) (16 : Int))) (shl IntKind.u32 (bI (ix a1_b (IntKind.i64.wrap (IntKind.i64.wrap ((4 : Int) * x2) + (2 : Int))))) (8 : Int))) (bI (ix a1_b (IntKind.i64.wrap (IntKind.i64.wrap ((4 : Int) * x2) + (3 : Int))))))) ∧ x1 (x2 + (1 : Int)) (x3.set x2.toNat (bor IntKind.u32 (bor IntKind.u32 (bor IntKind.u32 (shl IntKind.u32 (bI (ix a1_b (IntKind.i64.wrap ((4 : Int) * x2)))) (24 : Int)) (shl IntKind.u32 (bI (ix a1_b (IntKind.i64.wrap (IntKind.i64.wrap ((4 : Int) * x2) + (1 : Int))))) (16 : Int))) (shl IntKind.u32 (bI (ix a1_b (IntKind.i64.wrap (IntKind.i64.wrap ((4 : Int) * x2) + (2 : Int))))) (8 : Int))) (bI (ix a1_b (IntKind.i64.wrap (IntKind.i64.wrap ((4 : Int) * x2) + (3 : Int))))))) < x1 x2 x3) ∧ (¬x2 < (16 : Int) → ((0 : Int) ≤ IntKind.i64.wrap (x2 - (16 : Int)) ∧ IntKind.i64.wrap (x2 - (16 : Int)) < ((64 : Nat) : Int)) ∧ ((0 : Int) ≤ IntKind.i64.wrap (x2 - (7 : Int)) ∧ IntKind.i64.wrap (x2 - (7 : Int)) < ((64 : Nat) : Int)) ∧ ((0 : Int) ≤ IntKind.i64.wrap (x2 - (15 : Int)) ∧ IntKind.i64.wrap (x2 - (15 : Int)) < ((64 : Nat) : Int)) ∧ ((0 : Int) ≤ IntKind.i64.wrap (x2 - (15 : Int)) ∧ IntKind.i64.wrap (x2 - (15 : Int)) < ((64 : Nat) : Int)) ∧ ((0 : Int) ≤ IntKind.i64.wrap (x2 - (2 : Int)) ∧ IntKind.i64.wrap (x2 - (2 : Int)) < ((64 : Nat) : Int)) ∧ ((0 : Int) ≤ IntKind.i64.wrap (x2 - (2 : Int)) ∧ IntKind.i64.wrap (x2 - (2 : Int)) < ((64 : Nat) : Int)) ∧ (((Ty.int IntKind.u32).kd.wf (turnsOf (ix x3 (IntKind.i64.wrap (x2 - (15 : Int)))) ((7 : Int) :: (18 : Int) :: ([] : List Int))) → (Ty.int IntKind.u32).kd.wf (turnsOf (ix x3 (IntKind.i64.wrap (x2 - (2 : Int)))) ((17 : Int) :: (19 : Int) :: ([] : List Int))) → ((0 : Int) ≤ x2 ∧ x2 < ((64 : Nat) : Int)) ∧ x2 < (9223372036854775807 : Int) ∧ x0 (x2 + (1 : Int)) (x3.set x2.toNat (IntKind.u32.wrap (IntKind.u32.wrap (IntKind.u32.wrap (ix x3 (IntKind.i64.wrap (x2 - (16 : Int))) + ix x3 (IntKind.i64.wrap (x2 - (7 : Int)))) + bxor IntKind.u32 (turnsOf (ix x3 (IntKind.i64.wrap (x2 - (15 : Int)))) ((7 : Int) :: (18 : Int) :: ([] : List Int))) (shr IntKind.u32 (ix x3 (IntKind.i64.wrap (x2 - (15 : Int)))) (3 : Int))) + bxor IntKind.u32 (turnsOf (ix x3 (IntKind.i64.wrap (x2 - (2 : Int)))) ((17 : Int) :: (19 : Int) :: ([] : List Int))) (shr IntKind.u32 (ix x3 (IntKind.i64.wrap (x2 - (2 : Int)))) (10 : Int))))) ∧ x1 (x2 + (1 : Int)) (x3.set x2.toNat (IntKind.u32.wrap (IntKind.u32.wrap (IntKind.u32.wrap (ix x3 (IntKind.i64.wrap (x2 - (16 : Int))) + ix x3 (IntKind.i64.wrap (x2 - (7 : Int)))) + bxor IntKind.u32 (turnsOf (ix x3 (IntKind.i64.wrap (x2 - (15 : Int)))) ((7 : Int) :: (18 : Int) :: ([] : List Int))) (shr IntKind.u32 (ix x3 (IntKind.i64.wrap (x2 - (15 : Int)))) (3 : Int))) + bxor IntKind.u32 (turnsOf (ix x3 (IntKind.i64.wrap (x2 - (2 : Int)))) ((17 : Int) :: (19 : Int) :: ([] : List Int))) (shr IntKind.u32 (ix x3 (IntKind.i64.wrap (x2 - (2 : Int)))) (10 : Int))))) < x1 x2 x3) ∧ ((Ty.int IntKind.u32).kd.wf (turnsOf (ix x3 (IntKind.i64.wrap (x2 - (15 : Int)))) ((7 : Int) :: (18 : Int) :: ([] : List Int))) → (Ty.int IntKind.u32).kd.wf (turnsOf (ix x3 (IntKind.i64.wrap (x2 - (2 : Int)))) ((17 : Int) :: (19 : Int) :: ([] : List Int))) → ((0 : Int) ≤ x2 ∧ x2 < ((64 : Nat) : Int)) ∧ x2 < (9223372036854775807 : Int) ∧ x0 (x2 + (1 : Int)) (x3.set x2.toNat (IntKind.u32.wrap (IntKind.u32.wrap (IntKind.u32.wrap (ix x3 (IntKind.i64.wrap (x2 - (16 : Int))) + ix x3 (IntKind.i64.wrap (x2 - (7 : Int)))) + bxor IntKind.u32 (turnsOf (ix x3 (IntKind.i64.wrap (x2 - (15 : Int)))) ((7 : Int) :: (18 : Int) :: ([] : List Int))) (shr IntKind.u32 (ix x3 (IntKind.i64.wrap (x2 - (15 : Int)))) (3 : Int))) + bxor IntKind.u32 (turnsOf (ix x3 (IntKind.i64.wrap (x2 - (2 : Int)))) ((17 : Int) :: (19 : Int) :: ([] : List Int))) (shr IntKind.u32 (ix x3 (IntKind.i64.wrap (x2 - (2 : Int)))) (10 : Int))))) ∧ x1 (x2 + (1 : Int)) (x3.set x2.toNat (IntKind.u32.wrap (IntKind.u32.wrap (IntKind.u32.wrap (ix x3 (IntKind.i64.wrap (x2 - (16 : Int))) + ix x3 (IntKind.i64.wrap (x2 - (7 : Int)))) + bxor IntKind.u32 (turnsOf (ix x3 (IntKind.i64.wrap (x2 - (15 : Int)))) ((7 : Int) :: (18 : Int) :: ([] : List Int))) (shr IntKind.u32 (ix x3 (IntKind.i64.wrap (x2 - (15 : Int)))) (3 : Int))) + bxor IntKind.u32 (turnsOf (ix x3 (IntKind.i64.wrap (x2 - (2 : Int)))) ((17 : Int) :: (19 : Int) :: ([] : List Int))) (shr IntKind.u32 (ix x3 (IntKind.i64.wrap (x2 - (2 : Int)))) (10 : Int))))) < x1 x2 x3) ∧ True) ∧ ((Ty.int IntKind.u32).kd.wf (turnsOf (ix x3 (IntKind.i64.wrap (x2 - (15 : Int)))) ((7 : Int) :: (18 : Int) :: ([] : List Int))) → (Ty.int IntKind.u32).kd.wf (turnsOf (ix x3 (IntKind.i64.wrap (x2 - (2 : Int)))) ((17 : Int) :: (19 : Int) :: ([] : List Int))) → ((0 : Int) ≤ x2 ∧ x2 < ((64 : Nat) : Int)) ∧ x2 < (9223372036854775807 : Int) ∧ x0 (x2 + (1 : Int)) (x3.set x2.toNat (IntKind.u32.wrap (IntKind.u32.wrap (IntKind.u32.wrap (ix x3 (IntKind.i64.wrap (x2 - (16 : Int))) + ix x3 (IntKind.i64.wrap (x2 - (7 : Int)))) + bxor IntKind.u32 (turnsOf (ix x3 (IntKind.i64.wrap (x2 - (15 : Int)))) ((7 : Int) :: (18 : Int) :: ([] : List Int))) (shr IntKind.u32 (ix x3 (IntKind.i64.wrap (x2 - (15 : Int)))) (3 : Int))) + bxor IntKind.u32 (turnsOf (ix x3 (IntKind.i64.wrap (x2 - (2 : Int)))) ((17 : Int) :: (19 : Int) :: ([] : List Int))) (shr IntKind.u32 (ix x3 (IntKind.i64.wrap (x2 - (2 : Int)))) (10 : Int))))) ∧ x1 (x2 + (1 : Int)) (x3.set x2.toNat (IntKind.u32.wrap (IntKind.u32.wrap (IntKind.u32.wrap (ix x3 (IntKind.i64.wrap (x2 - (16 : Int))) + ix x3 (IntKind.i64.wrap (x2 - (7 : Int)))) + bxor IntKind.u32 (turnsOf (ix x3 (IntKind.i64.wrap (x2 - (15 : Int)))) ((7 : Int) :: (18 : Int) :: ([] : List Int))) (shr IntKind.u32 (ix x3 (IntKind.i64.wrap (x2 - (15 : Int)))) (3 : Int))) + bxor IntKind.u32 (turnsOf (ix x3 (IntKind.i64.wrap (x2 - (2 : Int)))) ((17 : Int) :: (19 : Int) :: ([] : List Int))) (shr IntKind.u32 (ix x3 (IntKind.i64.wrap (x2 - (2 : Int)))) (10 : Int))))) < x1 x2 x3) ∧ True)) ∧ (¬x2 < (64 : Int) → (Ty.arr (64 : Nat) (Ty.int IntKind.u32)).kd.wf shaK → ∃ (x9 : Int → List Int → Prop), ∃ (x10 : Int → List Int → Nat), x9 (0 : Int) a0_s ∧ ∀ (x11 : Int) (x12 : List Int), x9 x11 x12 → (Kd.int IntKind.i64).wf x11 → (Ty.arr (8 : Nat) (Ty.int IntKind.u32)).kd.wf x12 → (x11 < (64 : Int) → ((0 : Int) ≤ x11 ∧ x11 < ((64 : Nat) : Int)) ∧ ((0 : Int) ≤ x11 ∧ x11 < ((64 : Nat) : Int)) ∧ ((Ty.int IntKind.u32).kd.wf (turnsOf (ix x12 (4 : Int)) ((6 : Int) :: (11 : Int) :: (25 : Int) :: ([] : List Int))) → (Ty.int IntKind.u32).kd.wf (turnsOf (ix x12 (0 : Int)) ((2 : Int) :: (13 : Int) :: (22 : Int) :: ([] : List Int))) → x11 < (9223372036854775807 : Int) ∧ x9 (x11 + (1 : Int)) (IntKind.u32.wrap (IntKind.u32.wrap (IntKind.u32.wrap (IntKind.u32.wrap (IntKind.u32.wrap (ix x12 (7 : Int) + turnsOf (ix x12 (4 : Int)) ((6 : Int) :: (11 : Int) :: (25 : Int) :: ([] : List Int))) + bxor IntKind.u32 (band IntKind.u32 (ix x12 (4 : Int)) (ix x12 (5 : Int))) (band IntKind.u32 (bxor IntKind.u32 (if IntKind.u32.signed = true then (-1 : Int) else IntKind.u32.max) (ix x12 (4 : Int))) (ix x12 (6 : Int)))) + ix shaK x11) + ix x3 x11) + IntKind.u32.wrap (turnsOf (ix x12 (0 : Int)) ((2 : Int) :: (13 : Int) :: (22 : Int) :: ([] : List Int)) + bxor IntKind.u32 (bxor IntKind.u32 (band IntKind.u32 (ix x12 (0 : Int)) (ix x12 (1 : Int))) (band IntKind.u32 (ix x12 (0 : Int)) (ix x12 (2 : Int)))) (band IntKind.u32 (ix x12 (1 : Int)) (ix x12 (2 : Int))))) :: ix x12 (0 : Int) :: ix x12 (1 : Int) :: ix x12 (2 : Int) :: IntKind.u32.wrap (ix x12 (3 : Int) + IntKind.u32.wrap (IntKind.u32.wrap (IntKind.u32.wrap (IntKind.u32.wrap (ix x12 (7 : Int) + turnsOf (ix x12 (4 : Int)) ((6 : Int) :: (11 : Int) :: (25 : Int) :: ([] : List Int))) + bxor IntKind.u32 (band IntKind.u32 (ix x12 (4 : Int)) (ix x12 (5 : Int))) (band IntKind.u32 (bxor IntKind.u32 (if IntKind.u32.signed = true then (-1 : Int) else IntKind.u32.max) (ix x12 (4 : Int))) (ix x12 (6 : Int)))) + ix shaK x11) + ix x3 x11)) :: ix x12 (4 : Int) :: ix x12 (5 : Int) :: ix x12 (6 : Int) :: ([] : List Int)) ∧ x10 (x11 + (1 : Int)) (IntKind.u32.wrap (IntKind.u32.wrap (IntKind.u32.wrap (IntKind.u32.wrap (IntKind.u32.wrap (ix x12 (7 : Int) + turnsOf (ix x12 (4 : Int)) ((6 : Int) :: (11 : Int) :: (25 : Int) :: ([] : List Int))) + bxor IntKind.u32 (band IntKind.u32 (ix x12 (4 : Int)) (ix x12 (5 : Int))) (band IntKind.u32 (bxor IntKind.u32 (if IntKind.u32.signed = true then (-1 : Int) else IntKind.u32.max) (ix x12 (4 : Int))) (ix x12 (6 : Int)))) + ix shaK x11) + ix x3 x11) + IntKind.u32.wrap (turnsOf (ix x12 (0 : Int)) ((2 : Int) :: (13 : Int) :: (22 : Int) :: ([] : List Int)) + bxor IntKind.u32 (bxor IntKind.u32 (band IntKind.u32 (ix x12 (0 : Int)) (ix x12 (1 : Int))) (band IntKind.u32 (ix x12 (0 : Int)) (ix x12 (2 : Int)))) (band IntKind.u32 (ix x12 (1 : Int)) (ix x12 (2 : Int))))) :: ix x12 (0 : Int) :: ix x12 (1 : Int) :: ix x12 (2 : Int) :: IntKind.u32.wrap (ix x12 (3 : Int) + IntKind.u32.wrap (IntKind.u32.wrap (IntKind.u32.wrap (IntKind.u32.wrap (ix x12 (7 : Int) + turnsOf (ix x12 (4 : Int)) ((6 : Int) :: (11 : Int) :: (25 : Int) :: ([] : List Int))) + bxor IntKind.u32 (band IntKind.u32 (ix x12 (4 : Int)) (ix x12 (5 : Int))) (band IntKind.u32 (bxor IntKind.u32 (if IntKind.u32.signed = true then (-1 : Int) else IntKind.u32.max) (ix x12 (4 : Int))) (ix x12 (6 : Int)))) + ix shaK x11) + ix x3 x11)) :: ix x12 (4 : Int) :: ix x12 (5 : Int) :: ix x12 (6 : Int) :: ([] : List Int)) < x10 x11 x12)) ∧ (¬x11 < (64 : Int) → ∃ (x17 : Int → List Int → Prop), ∃ (x18 : Int → List Int → Nat), x17 (0 : Int) a0_s ∧ ∀ (x19 : Int) (x20 : List Int), x17 x19 x20 → (Kd.int IntKind.i64).wf x19 → (Ty.arr (8 : Nat) (Ty.int IntKind.u32)).kd.wf x20 → (x19 < (8 : Int) → ((0 : Int) ≤ x19 ∧ x19 < ((8 : Nat) : Int)) ∧ ((0 : Int) ≤ x19 ∧ x19 < ((8 : Nat) : Int)) ∧ ((0 : Int) ≤ x19 ∧ x19 < ((8 : Nat) : Int)) ∧ x19 < (9223372036854775807 : Int) ∧ x17 (x19 + (1 : Int)) (x20.set x19.toNat (IntKind.u32.wrap (ix x20 x19 + ix x12 x19))) ∧ x18 (x19 + (1 : Int)) (x20.set x19.toNat (IntKind.u32.wrap (ix x20 x19 + ix x12 x19))) < x18 x19 x20) ∧ (¬x19 < (8 : Int) → Q x20)))
theorem take_ok {a0_s : List Int} {a1_b : List UInt8} (w_0 : (Ty.kd (.arr 8 (.int .u32))).wf a0_s) (w_1 : (Ty.kd (.sl .byte)).wf a1_b) (hp : a1_b.length = 64) : take_VC a0_s a1_b (fun o0 => o0 = (takeW a0_s a1_b)) := by
  have wr : ∀ a : Int, -1000 ≤ a → a ≤ 1000 → IntKind.i64.wrap a = a := fun a h1 h2 => wrap_id (wf64 (by omega) (by omega))
  unfold take_VC
  refine ⟨fun i w => ∃ n : Nat, i = (n : Int) ∧ n ≤ 64 ∧ w = wordsN a1_b n, fun i _ => 64 - i.toNat, ⟨0, rfl, by omega, rfl⟩, ?_⟩
  rintro i w ⟨n, rfl, hn, rfl⟩ _ _
  refine ⟨fun hlt => ⟨fun h16 => ?_, fun h16 => ?_⟩, fun hge _ => ?_⟩
  · rw [wr (4 * (n : Int)) (by omega) (by omega), wr (4 * (n : Int) + 1) (by omega) (by omega), wr (4 * (n : Int) + 2) (by omega) (by omega), wr (4 * (n : Int) + 3) (by omega) (by omega)]
    refine ⟨by omega, by omega, by omega, by omega, by omega, by omega, ⟨n + 1, by omega, by omega, ?_⟩, ?_⟩
    · simp only [wordsN, Int.toNat_natCast]
      rw [if_pos (by omega)]
      rfl
    · show 64 - ((n : Int) + 1).toNat < 64 - (n : Int).toNat
      omega
  · rw [wr ((n : Int) - 16) (by omega) (by omega), wr ((n : Int) - 7) (by omega) (by omega), wr ((n : Int) - 15) (by omega) (by omega), wr ((n : Int) - 2) (by omega) (by omega)]
    iterate 14 (all_goals (try intros); all_goals (try omega); all_goals (try (refine And.intro ?_ ?_)))
    all_goals first | trivial | omega | exact ⟨n + 1, by omega, by omega, by simp only [wordsN, Int.toNat_natCast]; rw [if_neg (by omega)]; rfl⟩ | (show 64 - ((n : Int) + 1).toNat < 64 - (n : Int).toNat; omega)
  · have : n = 64 := by omega
    subst this
    refine ⟨fun i x => ∃ n : Nat, i = (n : Int) ∧ n ≤ 64 ∧ x = roundsN (wordsN a1_b 64) a0_s n, fun i _ => 64 - i.toNat, ⟨0, rfl, by omega, rfl⟩, ?_⟩
    rintro i x ⟨n, rfl, hn, rfl⟩ _ _
    refine ⟨fun hlt => ?_, fun hge => ?_⟩
    · iterate 14 (all_goals (try intros); all_goals (try omega); all_goals (try (refine And.intro ?_ ?_)))
      all_goals first | trivial | omega | exact ⟨n + 1, by omega, by omega, rfl⟩ | (show 64 - ((n : Int) + 1).toNat < 64 - (n : Int).toNat; omega)
    · have : n = 64 := by omega
      subst this
      refine ⟨fun i s => ∃ n : Nat, i = (n : Int) ∧ n ≤ 8 ∧ s = addN a0_s (roundsN (wordsN a1_b 64) a0_s 64) n, fun i _ => 8 - i.toNat, ⟨0, rfl, by omega, rfl⟩, ?_⟩
      rintro i s ⟨n, rfl, hn, rfl⟩ _ _
      refine ⟨fun hlt => ?_, fun hge => ?_⟩
      · iterate 14 (all_goals (try intros); all_goals (try omega); all_goals (try (refine And.intro ?_ ?_)))
        all_goals first | trivial | omega | exact ⟨n + 1, by omega, by omega, by simp [addN]⟩ | (show 8 - ((n : Int) + 1).toNat < 8 - (n : Int).toNat; omega)
      · have : n = 8 := by omega
        subst this
        rfl
theorem take_eq : (∀ a, take_C.pre a → PM.wfP take_C.pm a (fvc take_X 200 89 take_C a (eqO take_C a))) = (∀ a : (List Int) × (List UInt8) × Unit, ((a.2.1).length = 64) → (Ty.kd (.arr 8 (.int .u32))).wf a.1 → (Ty.kd (.sl .byte)).wf a.2.1 → take_VC a.1 a.2.1 (fun o0 => o0 = (takeW (a.1) (a.2.1)))) := by kernel_rfl
theorem take_k : take_C.valid Try.prog 89 := ctr_of (X := take_X) (ok_of seat_ok (fun b hb => by cases hb; exact bkT_ok) fns_ok ⟨turns_k, rounds_k, trivial⟩) 200 (take_eq.mpr fun a hp w_0 w_1 => @take_ok a.1 a.2.1 w_0 w_1 hp)
end Go.Proofs.Ytkffegaofdpkiaa

/- Each function that stands here: what it is asked and leaves (_C), its condition (_VC), that it holds (_ok), its contract (_c). -/
set_option linter.unusedVariables false
set_option maxRecDepth 100000
set_option maxHeartbeats 20000000
namespace Go.Proofs.Ytkffegaofdpkiaa
open Go Go.RowKit Go.Inc
noncomputable def HWrite_C : Ctr := ⟨[.bx (.pr (.arr 8 (.int .u32)) (.pr (.int .u64) (.sl .byte))) true, .v (.sl (.sl .byte))], [], some (fun a => (fun (a0_h : (List Int) × Int × List UInt8) (a1_parts : List (List UInt8)) => ((1 + a1_parts.length) * 24 ≤ 140737488355328 ∧ (a0_h.2.2 ++ a1_parts.flatten).length ≤ 140737488355328 : Prop)) a.1 a.2.1), fun a => (fun (a0_h : (List Int) × Int × List UInt8) (a1_parts : List (List UInt8)) => ((()), ((hWrite a0_h a1_parts), ()))) a.1 a.2.1⟩
noncomputable def HWrite_X : Fx := ⟨seat, some bkT, fns, [(87, Concat_C), (88, first_C), (89, take_C)], [], [(2, [0], [])], [(6, [0, 1, 2, 3, 4, 5, 6, 7, 8, 9, 10, 11, 12], [.o 0 2, .o 1 2, .o 2 2, .o 3 2, .o 4 2, .o 5 2, .o 6 2, .o 7 2, .o 8 1])]⟩
def HWrite_VC (a0_h : (List Int) × Int × List UInt8) (a1_parts : List (List UInt8)) (Q : ((List Int) × Int × List UInt8) → Prop) : Prop :=
  ((a0_h.snd.snd :: ([] : List (List UInt8))).length + a1_parts.length) * (24 : Nat) ≤ (140737488355328 : Nat) ∧ (a0_h.snd.snd :: ([] : List (List UInt8)) ++ a1_parts).flatten.length ≤ (140737488355328 : Nat) ∧ (Ty.byte.kd.sl.wf (a0_h.snd.snd :: ([] : List (List UInt8)) ++ a1_parts).flatten → ∃ (x0 : List Int × Int × List UInt8 → Prop), ∃ (x1 : List Int × Int × List UInt8 → Nat), x0 (a0_h.fst, a0_h.snd.fst, (a0_h.snd.snd :: ([] : List (List UInt8)) ++ a1_parts).flatten) ∧ ∀ (x2 : List Int × Int × List UInt8), x0 x2 → ((Ty.arr (8 : Nat) (Ty.int IntKind.u32)).pr ((Ty.int IntKind.u64).pr Ty.byte.sl)).kd.wf x2 → ((64 : Int) ≤ (x2.snd.snd.length : Int) → (x2.snd.fst = (0 : Int) → (Ty.arr (8 : Nat) (Ty.int IntKind.u32)).kd.wf shaH → ((0 : Int) ≤ (64 : Int) ∧ (64 : Int) ≤ (x2.snd.snd.length : Int)) ∧ (List.take (Int.toNat (64 : Int)) x2.snd.snd).length = (64 : Nat) ∧ ((0 : Int) ≤ (64 : Int) ∧ (64 : Int) ≤ (x2.snd.snd.length : Int)) ∧ x0 (takeW shaH (List.take (Int.toNat (64 : Int)) x2.snd.snd), IntKind.u64.wrap (x2.snd.fst + (1 : Int)), List.drop (Int.toNat (64 : Int)) x2.snd.snd) ∧ x1 (takeW shaH (List.take (Int.toNat (64 : Int)) x2.snd.snd), IntKind.u64.wrap (x2.snd.fst + (1 : Int)), List.drop (Int.toNat (64 : Int)) x2.snd.snd) < x1 x2) ∧ (¬x2.snd.fst = (0 : Int) → ((0 : Int) ≤ (64 : Int) ∧ (64 : Int) ≤ (x2.snd.snd.length : Int)) ∧ (List.take (Int.toNat (64 : Int)) x2.snd.snd).length = (64 : Nat) ∧ ((0 : Int) ≤ (64 : Int) ∧ (64 : Int) ≤ (x2.snd.snd.length : Int)) ∧ x0 (takeW x2.fst (List.take (Int.toNat (64 : Int)) x2.snd.snd), IntKind.u64.wrap (x2.snd.fst + (1 : Int)), List.drop (Int.toNat (64 : Int)) x2.snd.snd) ∧ x1 (takeW x2.fst (List.take (Int.toNat (64 : Int)) x2.snd.snd), IntKind.u64.wrap (x2.snd.fst + (1 : Int)), List.drop (Int.toNat (64 : Int)) x2.snd.snd) < x1 x2)) ∧ (¬(64 : Int) ≤ (x2.snd.snd.length : Int) → Q x2))
theorem HWrite_ok {a0_h : (List Int) × Int × List UInt8} {a1_parts : List (List UInt8)} (w_0 : (Ty.kd (.pr (.arr 8 (.int .u32)) (.pr (.int .u64) (.sl .byte)))).wf a0_h) (w_1 : (Ty.kd (.sl (.sl .byte))).wf a1_parts) (hp : (1 + a1_parts.length) * 24 ≤ 140737488355328 ∧ (a0_h.2.2 ++ a1_parts.flatten).length ≤ 140737488355328) : HWrite_VC a0_h a1_parts (fun o0 => o0 = (hWrite a0_h a1_parts)) := by
  obtain ⟨h1, h2⟩ := hp
  unfold HWrite_VC
  refine ⟨by simp only [List.length_cons, List.length_nil]; omega, by simpa using h2, fun _ => ⟨fun b => eat b.1 b.2.1 b.2.2 = hWrite a0_h a1_parts, fun b => b.2.2.length, by simp [hWrite], ?_⟩⟩
  rintro ⟨s, n, r⟩ hI hwf
  refine ⟨fun h64 => ?_, fun h64 => ?_⟩
  · have hl : 64 ≤ r.length := by
      have h : (64 : Int) ≤ (r.length : Int) := h64
      omega
    have ht : (r.take 64).length = 64 := by rw [List.length_take]; omega
    have hd : (r.drop 64).length < r.length := by rw [List.length_drop]; omega
    dsimp only at hI ⊢
    rw [eat, if_pos hl] at hI
    refine ⟨fun h0 _ => ⟨⟨by omega, by omega⟩, ht, ⟨by omega, by omega⟩, ?_, hd⟩, fun h0 => ⟨⟨by omega, by omega⟩, ht, ⟨by omega, by omega⟩, ?_, hd⟩⟩
    · rw [if_pos h0] at hI
      exact hI
    · rw [if_neg h0] at hI
      exact hI
  · have hl : ¬ (64 ≤ r.length) := fun h => h64 (by show (64 : Int) ≤ (r.length : Int); omega)
    dsimp only at hI ⊢
    rw [eat, if_neg hl] at hI
    exact hI
theorem HWrite_eq : (∀ a, HWrite_C.pre a → PM.wfP HWrite_C.pm a (fvc HWrite_X 200 78 HWrite_C a (eqO HWrite_C a))) = (∀ a : ((List Int) × Int × List UInt8) × (List (List UInt8)) × Unit, ((1 + (a.2.1).length) * 24 ≤ 140737488355328 ∧ ((a.1).2.2 ++ (a.2.1).flatten).length ≤ 140737488355328) → (Ty.kd (.pr (.arr 8 (.int .u32)) (.pr (.int .u64) (.sl .byte)))).wf a.1 → (Ty.kd (.sl (.sl .byte))).wf a.2.1 → HWrite_VC a.1 a.2.1 (fun o0 => o0 = (hWrite (a.1) (a.2.1)))) := by kernel_rfl
theorem HWrite_k : HWrite_C.valid Try.prog 78 := ctr_of (X := HWrite_X) (ok_of seat_ok (fun b hb => by cases hb; exact bkT_ok) fns_ok ⟨Concat_k, first_k, take_k, trivial⟩) 200 (HWrite_eq.mpr fun a hp w_0 w_1 => @HWrite_ok a.1 a.2.1 w_0 w_1 hp)
noncomputable def HSum_C : Ctr := ⟨[.bx (.pr (.arr 8 (.int .u32)) (.pr (.int .u64) (.sl .byte))) false], [.v (.arr 32 .byte)], some (fun a => (fun (a0_h : (List Int) × Int × List UInt8) => (a0_h.2.2.length < 64 : Prop)) a.1), fun a => (fun (a0_h : (List Int) × Int × List UInt8) => (((hSum a0_h), ()), (()))) a.1⟩
noncomputable def HSum_X : Fx := ⟨seat, some bkT, fns, [(77, New_C), (90, HCopy_C), (91, HLen_C), (92, high_C), (78, HWrite_C)], [], [(8, [8], [])], [(5, [0, 1, 2, 3, 4, 5, 6, 7, 8, 9, 10, 11, 12], [.o 0 2, .o 2 2, .o 3 2, .o 4 2, .o 5 2, .o 6 2, .o 7 2, .o 8 2, .o 10 2, .o 11 2, .par [1, 9, 12] (.alt 1 0 (.alt 9 0 (.one 12 0 .fin) (.alt 12 0 (.one 9 0 .fin) .fin)) (.alt 9 0 (.alt 1 0 (.one 12 0 .fin) (.alt 12 0 (.one 1 0 .fin) .fin)) (.alt 12 0 (.alt 1 0 (.one 9 0 .fin) (.alt 9 0 (.one 1 0 .fin) .fin)) .fin))), .o 13 0, .o 14 1]), (10, [0, 1, 2, 3, 4, 5, 6, 7, 8, 9, 10, 11, 12], [.o 0 2, .o 1 2, .o 2 2, .o 3 2, .o 4 2, .o 5 0, .o 6 2, .o 7 1])]⟩
def HSum_VC (a0_h : (List Int) × Int × List UInt8) (Q : (List UInt8) → Prop) : Prop :=
  ((Ty.arr (8 : Nat) (Ty.int IntKind.u32)).pr ((Ty.int IntKind.u64).pr Ty.byte.sl)).kd.wf (List.replicate (8 : Nat) (0 : Int), (0 : Int), ([] : List UInt8)) → a0_h.snd.snd.length ≤ (140737488355328 : Nat) ∧ (((Ty.arr (8 : Nat) (Ty.int IntKind.u32)).pr ((Ty.int IntKind.u64).pr Ty.byte.sl)).kd.wf a0_h → (Ty.int IntKind.u64).kd.wf (hLen a0_h) → ((((0 : Int) ≤ (IntKind.i64.wrap ((119 : Int) - (a0_h.snd.snd.length : Int))).tmod (64 : Int) ∧ (IntKind.i64.wrap ((119 : Int) - (a0_h.snd.snd.length : Int))).tmod (64 : Int) ≤ (IntKind.i64.wrap ((119 : Int) - (a0_h.snd.snd.length : Int))).tmod (64 : Int) ∧ ((1 : Nat) : Int) * (IntKind.i64.wrap ((119 : Int) - (a0_h.snd.snd.length : Int))).tmod (64 : Int) ≤ (281474976710656 : Int) ∧ (IntKind.i64.wrap ((119 : Int) - (a0_h.snd.snd.length : Int))).tmod (64 : Int) ≤ (281474976710656 : Int)) ∧ (Ty.byte.kd.sl.wf (be (IntKind.u64.wrap ((8 : Int) * hLen a0_h)).toNat (8 : Nat)) → (((1 : Nat) + ((toB (128 : Int) :: ([] : List UInt8)) :: List.replicate ((IntKind.i64.wrap ((119 : Int) - (a0_h.snd.snd.length : Int))).tmod (64 : Int)).toNat Ty.byte.kd.z :: be (IntKind.u64.wrap ((8 : Int) * hLen a0_h)).toNat (8 : Nat) :: ([] : List (List UInt8))).length) * (24 : Nat) ≤ (140737488355328 : Nat) ∧ (a0_h.snd.snd ++ ((toB (128 : Int) :: ([] : List UInt8)) :: List.replicate ((IntKind.i64.wrap ((119 : Int) - (a0_h.snd.snd.length : Int))).tmod (64 : Int)).toNat Ty.byte.kd.z :: be (IntKind.u64.wrap ((8 : Int) * hLen a0_h)).toNat (8 : Nat) :: ([] : List (List UInt8))).flatten).length ≤ (140737488355328 : Nat)) ∧ ∃ (x0 : Int → List UInt8 → Prop), ∃ (x1 : Int → List UInt8 → Nat), x0 (0 : Int) (Ty.arr (32 : Nat) Ty.byte).kd.z ∧ ∀ (x2 : Int) (x3 : List UInt8), x0 x2 x3 → (Kd.int IntKind.i64).wf x2 → (Ty.arr (32 : Nat) Ty.byte).kd.wf x3 → (x2 < (8 : Int) → ((0 : Int) ≤ x2 ∧ x2 < ((8 : Nat) : Int)) ∧ ((0 : Int) ≤ IntKind.i64.wrap ((4 : Int) * x2) ∧ IntKind.i64.wrap ((4 : Int) * x2) ≤ ((32 : Nat) : Int) ∧ ((32 : Nat) : Int) ≤ ((32 : Nat) : Int) ∧ IntKind.i64.wrap ((4 : Int) * x2) < ((32 : Nat) : Int)) ∧ (Ty.byte.kd.sl.wf (be (ix (hWrite a0_h ((toB (128 : Int) :: ([] : List UInt8)) :: List.replicate ((IntKind.i64.wrap ((119 : Int) - (a0_h.snd.snd.length : Int))).tmod (64 : Int)).toNat Ty.byte.kd.z :: be (IntKind.u64.wrap ((8 : Int) * hLen a0_h)).toNat (8 : Nat) :: ([] : List (List UInt8)))).fst x2).toNat (8 : Nat)) → ((0 : Int) ≤ (4 : Int) ∧ (4 : Int) ≤ ((be (ix (hWrite a0_h ((toB (128 : Int) :: ([] : List UInt8)) :: List.replicate ((IntKind.i64.wrap ((119 : Int) - (a0_h.snd.snd.length : Int))).tmod (64 : Int)).toNat Ty.byte.kd.z :: be (IntKind.u64.wrap ((8 : Int) * hLen a0_h)).toNat (8 : Nat) :: ([] : List (List UInt8)))).fst x2).toNat (8 : Nat)).length : Int)) ∧ x2 < (9223372036854775807 : Int) ∧ x0 (x2 + (1 : Int)) (List.take (IntKind.i64.wrap ((4 : Int) * x2)).toNat x3 ++ List.take (((32 : Nat) : Int).toNat - (IntKind.i64.wrap ((4 : Int) * x2)).toNat) (List.drop (Int.toNat (4 : Int)) (be (ix (hWrite a0_h ((toB (128 : Int) :: ([] : List UInt8)) :: List.replicate ((IntKind.i64.wrap ((119 : Int) - (a0_h.snd.snd.length : Int))).tmod (64 : Int)).toNat Ty.byte.kd.z :: be (IntKind.u64.wrap ((8 : Int) * hLen a0_h)).toNat (8 : Nat) :: ([] : List (List UInt8)))).fst x2).toNat (8 : Nat))) ++ List.drop ((IntKind.i64.wrap ((4 : Int) * x2)).toNat + min (List.drop (Int.toNat (4 : Int)) (be (ix (hWrite a0_h ((toB (128 : Int) :: ([] : List UInt8)) :: List.replicate ((IntKind.i64.wrap ((119 : Int) - (a0_h.snd.snd.length : Int))).tmod (64 : Int)).toNat Ty.byte.kd.z :: be (IntKind.u64.wrap ((8 : Int) * hLen a0_h)).toNat (8 : Nat) :: ([] : List (List UInt8)))).fst x2).toNat (8 : Nat))).length (((32 : Nat) : Int).toNat - (IntKind.i64.wrap ((4 : Int) * x2)).toNat)) x3) ∧ x1 (x2 + (1 : Int)) (List.take (IntKind.i64.wrap ((4 : Int) * x2)).toNat x3 ++ List.take (((32 : Nat) : Int).toNat - (IntKind.i64.wrap ((4 : Int) * x2)).toNat) (List.drop (Int.toNat (4 : Int)) (be (ix (hWrite a0_h ((toB (128 : Int) :: ([] : List UInt8)) :: List.replicate ((IntKind.i64.wrap ((119 : Int) - (a0_h.snd.snd.length : Int))).tmod (64 : Int)).toNat Ty.byte.kd.z :: be (IntKind.u64.wrap ((8 : Int) * hLen a0_h)).toNat (8 : Nat) :: ([] : List (List UInt8)))).fst x2).toNat (8 : Nat))) ++ List.drop ((IntKind.i64.wrap ((4 : Int) * x2)).toNat + min (List.drop (Int.toNat (4 : Int)) (be (ix (hWrite a0_h ((toB (128 : Int) :: ([] : List UInt8)) :: List.replicate ((IntKind.i64.wrap ((119 : Int) - (a0_h.snd.snd.length : Int))).tmod (64 : Int)).toNat Ty.byte.kd.z :: be (IntKind.u64.wrap ((8 : Int) * hLen a0_h)).toNat (8 : Nat) :: ([] : List (List UInt8)))).fst x2).toNat (8 : Nat))).length (((32 : Nat) : Int).toNat - (IntKind.i64.wrap ((4 : Int) * x2)).toNat)) x3) < x1 x2 x3)) ∧ (¬x2 < (8 : Int) → Q x3))) ∧ (Ty.byte.kd.sl.wf (be (IntKind.u64.wrap ((8 : Int) * hLen a0_h)).toNat (8 : Nat)) → ((0 : Int) ≤ (IntKind.i64.wrap ((119 : Int) - (a0_h.snd.snd.length : Int))).tmod (64 : Int) ∧ (IntKind.i64.wrap ((119 : Int) - (a0_h.snd.snd.length : Int))).tmod (64 : Int) ≤ (IntKind.i64.wrap ((119 : Int) - (a0_h.snd.snd.length : Int))).tmod (64 : Int) ∧ ((1 : Nat) : Int) * (IntKind.i64.wrap ((119 : Int) - (a0_h.snd.snd.length : Int))).tmod (64 : Int) ≤ (281474976710656 : Int) ∧ (IntKind.i64.wrap ((119 : Int) - (a0_h.snd.snd.length : Int))).tmod (64 : Int) ≤ (281474976710656 : Int)) ∧ (((1 : Nat) + ((toB (128 : Int) :: ([] : List UInt8)) :: List.replicate ((IntKind.i64.wrap ((119 : Int) - (a0_h.snd.snd.length : Int))).tmod (64 : Int)).toNat Ty.byte.kd.z :: be (IntKind.u64.wrap ((8 : Int) * hLen a0_h)).toNat (8 : Nat) :: ([] : List (List UInt8))).length) * (24 : Nat) ≤ (140737488355328 : Nat) ∧ (a0_h.snd.snd ++ ((toB (128 : Int) :: ([] : List UInt8)) :: List.replicate ((IntKind.i64.wrap ((119 : Int) - (a0_h.snd.snd.length : Int))).tmod (64 : Int)).toNat Ty.byte.kd.z :: be (IntKind.u64.wrap ((8 : Int) * hLen a0_h)).toNat (8 : Nat) :: ([] : List (List UInt8))).flatten).length ≤ (140737488355328 : Nat)) ∧ ∃ (x0 : Int → List UInt8 → Prop), ∃ (x1 : Int → List UInt8 → Nat), x0 (0 : Int) (Ty.arr (32 : Nat) Ty.byte).kd.z ∧ ∀ (x2 : Int) (x3 : List UInt8), x0 x2 x3 → (Kd.int IntKind.i64).wf x2 → (Ty.arr (32 : Nat) Ty.byte).kd.wf x3 → (x2 < (8 : Int) → ((0 : Int) ≤ x2 ∧ x2 < ((8 : Nat) : Int)) ∧ ((0 : Int) ≤ IntKind.i64.wrap ((4 : Int) * x2) ∧ IntKind.i64.wrap ((4 : Int) * x2) ≤ ((32 : Nat) : Int) ∧ ((32 : Nat) : Int) ≤ ((32 : Nat) : Int) ∧ IntKind.i64.wrap ((4 : Int) * x2) < ((32 : Nat) : Int)) ∧ (Ty.byte.kd.sl.wf (be (ix (hWrite a0_h ((toB (128 : Int) :: ([] : List UInt8)) :: List.replicate ((IntKind.i64.wrap ((119 : Int) - (a0_h.snd.snd.length : Int))).tmod (64 : Int)).toNat Ty.byte.kd.z :: be (IntKind.u64.wrap ((8 : Int) * hLen a0_h)).toNat (8 : Nat) :: ([] : List (List UInt8)))).fst x2).toNat (8 : Nat)) → ((0 : Int) ≤ (4 : Int) ∧ (4 : Int) ≤ ((be (ix (hWrite a0_h ((toB (128 : Int) :: ([] : List UInt8)) :: List.replicate ((IntKind.i64.wrap ((119 : Int) - (a0_h.snd.snd.length : Int))).tmod (64 : Int)).toNat Ty.byte.kd.z :: be (IntKind.u64.wrap ((8 : Int) * hLen a0_h)).toNat (8 : Nat) :: ([] : List (List UInt8)))).fst x2).toNat (8 : Nat)).length : Int)) ∧ x2 < (9223372036854775807 : Int) ∧ x0 (x2 + (1 : Int)) (List.take (IntKind.i64.wrap ((4 : Int) * x2)).toNat x3 ++ List.take (((32 : Nat) : Int).toNat - (IntKind.i64.wrap ((4 : Int) * x2)).toNat) (List.drop (Int.toNat (4 : Int)) (be (ix (hWrite a0_h ((toB (128 : Int) :: ([] : List UInt8)) :: List.replicate ((IntKind.i64.wrap ((119 : Int) - (a0_h.snd.snd.length : Int))).tmod (64 : Int)).toNat Ty.byte.kd.z :: be (IntKind.u64.wrap ((8 : Int) * hLen a0_h)).toNat (8 : Nat) :: ([] : List (List UInt8)))).fst x2).toNat (8 : Nat))) ++ List.drop ((IntKind.i64.wrap ((4 : Int) * x2)).toNat + min (List.drop (Int.toNat (4 : Int)) (be (ix (hWrite a0_h ((toB (128 : Int) :: ([] : List UInt8)) :: List.replicate ((IntKind.i64.wrap ((119 : Int) - (a0_h.snd.snd.length : Int))).tmod (64 : Int)).toNat Ty.byte.kd.z :: be (IntKind.u64.wrap ((8 : Int) * hLen a0_h)).toNat (8 : Nat) :: ([] : List (List UInt8)))).fst x2).toNat (8 : Nat))).length (((32 : Nat) : Int).toNat - (IntKind.i64.wrap ((4 : Int) * x2)).toNat)) x3) ∧ x1 (x2 + (1 : Int)) (List.take (IntKind.i64.wrap ((4 : Int) * x2)).toNat x3 ++ List.take (((32 : Nat) : Int).toNat - (IntKind.i64.wrap ((4 : Int) * x2)).toNat) (List.drop (Int.toNat (4 : Int)) (be (ix (hWrite a0_h ((toB (128 : Int) :: ([] : List UInt8)) :: List.replicate ((IntKind.i64.wrap ((119 : Int) - (a0_h.snd.snd.length : Int))).tmod (64 : Int)).toNat Ty.byte.kd.z :: be (IntKind.u64.wrap ((8 : Int) * hLen a0_h)).toNat (8 : Nat) :: ([] : List (List UInt8)))).fst x2).toNat (8 : Nat))) ++ List.drop ((IntKind.i64.wrap ((4 : Int) * x2)).toNat + min (List.drop (Int.toNat (4 : Int)) (be (ix (hWrite a0_h ((toB (128 : Int) :: ([] : List UInt8)) :: List.replicate ((IntKind.i64.wrap ((119 : Int) - (a0_h.snd.snd.length : Int))).tmod (64 : Int)).toNat Ty.byte.kd.z :: be (IntKind.u64.wrap ((8 : Int) * hLen a0_h)).toNat (8 : Nat) :: ([] : List (List UInt8)))).fst x2).toNat (8 : Nat))).length (((32 : Nat) : Int).toNat - (IntKind.i64.wrap ((4 : Int) * x2)).toNat)) x3) < x1 x2 x3)) ∧ (¬x2 < (8 : Int) → Q x3)) ∧ True) ∧ (((0 : Int) ≤ (IntKind.i64.wrap ((119 : Int) - (a0_h.snd.snd.length : Int))).tmod (64 : Int) ∧ (IntKind.i64.wrap ((119 : Int) - (a0_h.snd.snd.length : Int))).tmod (64 : Int) ≤ (IntKind.i64.wrap ((119 : Int) - (a0_h.snd.snd.length : Int))).tmod (64 : Int) ∧ ((1 : Nat) : Int) * (IntKind.i64.wrap ((119 : Int) - (a0_h.snd.snd.length : Int))).tmod (64 : Int) ≤ (281474976710656 : Int) ∧ (IntKind.i64.wrap ((119 : Int) - (a0_h.snd.snd.length : Int))).tmod (64 : Int) ≤ (281474976710656 : Int)) ∧ (Ty.byte.kd.sl.wf (be (IntKind.u64.wrap ((8 : Int) * hLen a0_h)).toNat (8 : Nat)) → (((1 : Nat) + ((toB (128 : Int) :: ([] : List UInt8)) :: List.replicate ((IntKind.i64.wrap ((119 : Int) - (a0_h.snd.snd.length : Int))).tmod (64 : Int)).toNat Ty.byte.kd.z :: be (IntKind.u64.wrap ((8 : Int) * hLen a0_h)).toNat (8 : Nat) :: ([] : List (List UInt8))).length) * (24 : Nat) ≤ (140737488355328 : Nat) ∧ (a0_h.snd.snd ++ ((toB (128 : Int) :: ([] : List UInt8)) :: List.replicate ((IntKind.i64.wrap ((119 : Int) - (a0_h.snd.snd.length : Int))).tmod (64 : Int)).toNat Ty.byte.kd.z :: be (IntKind.u64.wrap ((8 : Int) * hLen a0_h)).toNat (8 : Nat) :: ([] : List (List UInt8))).flatten).length ≤ (140737488355328 : Nat)) ∧ ∃ (x0 : Int → List UInt8 → Prop), ∃ (x1 : Int → List UInt8 → Nat), x0 (0 : Int) (Ty.arr (32 : Nat) Ty.byte).kd.z ∧ ∀ (x2 : Int) (x3 : List UInt8), x0 x2 x3 → (Kd.int IntKind.i64).wf x2 → (Ty.arr (32 : Nat) Ty.byte).kd.wf x3 → (x2 < (8 : Int) → ((0 : Int) ≤ x2 ∧ x2 < ((8 : Nat) : Int)) ∧ ((0 : Int) ≤ IntKind.i64.wrap ((4 : Int) * x2) ∧ IntKind.i64.wrap ((4 : Int) * x2) ≤ ((32 : Nat) : Int) ∧ ((32 : Nat) : Int) ≤ ((32 : Nat) : Int) ∧ IntKind.i64.wrap ((4 : Int) * x2) < ((32 : Nat) : Int)) ∧ (Ty.byte.kd.sl.wf (be (ix (hWrite a0_h ((toB (128 : Int) :: ([] : List UInt8)) :: List.replicate ((IntKind.i64.wrap ((119 : Int) - (a0_h.snd.snd.length : Int))).tmod (64 : Int)).toNat Ty.byte.kd.z :: be (IntKind.u64.wrap ((8 : Int) * hLen a0_h)).toNat (8 : Nat) :: ([] : List (List UInt8)))).fst x2).toNat (8 : Nat)) → ((0 : Int) ≤ (4 : Int) ∧ (4 : Int) ≤ ((be (ix (hWrite a0_h ((toB (128 : Int) :: ([] : List UInt8)) :: List.replicate ((IntKind.i64.wrap ((119 : Int) - (a0_h.snd.snd.length : Int))).tmod (64 : Int)).toNat Ty.byte.kd.z :: be (IntKind.u64.wrap ((8 : Int) * hLen a0_h)).toNat (8 : Nat) :: ([] : List (List UInt8)))).fst x2).toNat (8 : Nat)).length : Int)) ∧ x2 < (9223372036854775807 : Int) ∧ x0 (x2 + (1 : Int)) (List.take (IntKind.i64.wrap ((4 : Int) * x2)).toNat x3 ++ List.take (((32 : Nat) : Int).toNat - (IntKind.i64.wrap ((4 : Int) * x2)).toNat) (List.drop (Int.toNat (4 : Int)) (be (ix (hWrite a0_h ((toB (128 : Int) :: ([] : List UInt8)) :: List.replicate ((IntKind.i64.wrap ((119 : Int) - (a0_h.snd.snd.length : Int))).tmod (64 : Int)).toNat Ty.byte.kd.z :: be (IntKind.u64.wrap ((8 : Int) * hLen a0_h)).toNat (8 : Nat) :: ([] : List (List UInt8)))).fst x2).toNat (8 : Nat))) ++ List.drop ((IntKind.i64.wrap ((4 : Int) * x2)).toNat + min (List.drop (Int.toNat (4 : Int)) (be (ix (hWrite a0_h ((toB (128 : Int) :: ([] : List UInt8)) :: List.replicate ((IntKind.i64.wrap ((119 : Int) - (a0_h.snd.snd.length : Int))).tmod (64 : Int)).toNat Ty.byte.kd.z :: be (IntKind.u64.wrap ((8 : Int) * hLen a0_h)).toNat (8 : Nat) :: ([] : List (List UInt8)))).fst x2).toNat (8 : Nat))).length (((32 : Nat) : Int).toNat - (IntKind.i64.wrap ((4 : Int) * x2)).toNat)) x3) ∧ x1 (x2 + (1 : Int)) (List.take (IntKind.i64.wrap ((4 : Int) * x2)).toNat x3 ++ List.take (((32 : Nat) : Int).toNat - (IntKind.i64.wrap ((4 : Int) * x2)).toNat) (List.drop (Int.toNat (4 : Int)) (be (ix (hWrite a0_h ((toB (128 : Int) :: ([] : List UInt8)) :: List.replicate ((IntKind.i64.wrap ((119 : Int) - (a0_h.snd.snd.length : Int))).tmod (64 : Int)).toNat Ty.byte.kd.z :: be (IntKind.u64.wrap ((8 : Int) * hLen a0_h)).toNat (8 : Nat) :: ([] : List (List UInt8)))).fst x2).toNat (8 : Nat))) ++ List.drop ((IntKind.i64.wrap ((4 : Int) * x2)).toNat + min (List.drop (Int.toNat (4 : Int)) (be (ix (hWrite a0_h ((toB (128 : Int) :: ([] : List UInt8)) :: List.replicate ((IntKind.i64.wrap ((119 : Int) - (a0_h.snd.snd.length : Int))).tmod (64 : Int)).toNat Ty.byte.kd.z :: be (IntKind.u64.wrap ((8 : Int) * hLen a0_h)).toNat (8 : Nat) :: ([] : List (List UInt8)))).fst x2).toNat (8 : Nat))).length (((32 : Nat) : Int).toNat - (IntKind.i64.wrap ((4 : Int) * x2)).toNat)) x3) < x1 x2 x3)) ∧ (¬x2 < (8 : Int) → Q x3)) ∧ (Ty.byte.kd.sl.wf (be (IntKind.u64.wrap ((8 : Int) * hLen a0_h)).toNat (8 : Nat)) → (((1 : Nat) + ((toB (128 : Int) :: ([] : List UInt8)) :: List.replicate ((IntKind.i64.wrap ((119 : Int) - (a0_h.snd.snd.length : Int))).tmod (64 : Int)).toNat Ty.byte.kd.z :: be (IntKind.u64.wrap ((8 : Int) * hLen a0_h)).toNat (8 : Nat) :: ([] : List (List UInt8))).length) * (24 : Nat) ≤ (140737488355328 : Nat) ∧ (a0_h.snd.snd ++ ((toB (128 : Int) :: ([] : List UInt8)) :: List.replicate ((IntKind.i64.wrap ((119 : Int) - (a0_h.snd.snd.length : Int))).tmod (64 : Int)).toNat Ty.byte.kd.z :: be (IntKind.u64.wrap ((8 : Int) * hLen a0_h)).toNat (8 : Nat) :: ([] : List (List UInt8))).flatten).length ≤ (140737488355328 : Nat)) ∧ ∃ (x0 : Int → List UInt8 → Prop), ∃ (x1 : Int → List UInt8 → Nat), x0 (0 : Int) (Ty.arr (32 : Nat) Ty.byte).kd.z ∧ ∀ (x2 : Int) (x3 : List UInt8), x0 x2 x3 → (Kd.int IntKind.i64).wf x2 → (Ty.arr (32 : Nat) Ty.byte).kd.wf x3 → (x2 < (8 : Int) → ((0 : Int) ≤ x2 ∧ x2 < ((8 : Nat) : Int)) ∧ ((0 : Int) ≤ IntKind.i64.wrap ((4 : Int) * x2) ∧ IntKind.i64.wrap ((4 : Int) * x2) ≤ ((32 : Nat) : Int) ∧ ((32 : Nat) : Int) ≤ ((32 : Nat) : Int) ∧ IntKind.i64.wrap ((4 : Int) * x2) < ((32 : Nat) : Int)) ∧ (Ty.byte.kd.sl.wf (be (ix (hWrite a0_h ((toB (128 : Int) :: ([] : List UInt8)) :: List.replicate ((IntKind.i64.wrap ((119 : Int) - (a0_h.snd.snd.length : Int))).tmod (64 : Int)).toNat Ty.byte.kd.z :: be (IntKind.u64.wrap ((8 : Int) * hLen a0_h)).toNat (8 : Nat) :: ([] : List (List UInt8)))).fst x2).toNat (8 : Nat)) → ((0 : Int) ≤ (4 : Int) ∧ (4 : Int) ≤ ((be (ix (hWrite a0_h ((toB (128 : Int) :: ([] : List UInt8)) :: List.replicate ((IntKind.i64.wrap ((119 : Int) - (a0_h.snd.snd.length : Int))).tmod (64 : Int)).toNat Ty.byte.kd.z :: be (IntKind.u64.wrap ((8 : Int) * hLen a0_h)).toNat (8 : Nat) :: ([] : List (List UInt8)))).fst x2).toNat (8 : Nat)).length : Int)) ∧ x2 < (9223372036854775807 : Int) ∧ x0 (x2 + (1 : Int)) (List.take (IntKind.i64.wrap ((4 : Int) * x2)).toNat x3 ++ List.take (((32 : Nat) : Int).toNat - (IntKind.i64.wrap ((4 : Int) * x2)).toNat) (List.drop (Int.toNat (4 : Int)) (be (ix (hWrite a0_h ((toB (128 : Int) :: ([] : List UInt8)) :: List.replicate ((IntKind.i64.wrap ((119 : Int) - (a0_h.snd.snd.length : Int))).tmod (64 : Int)).toNat Ty.byte.kd.z :: be (IntKind.u64.wrap ((8 : Int) * hLen a0_h)).toNat (8 : Nat) :: ([] : List (List UInt8)))).fst x2).toNat (8 : Nat))) ++ List.drop ((IntKind.i64.wrap ((4 : Int) * x2)).toNat + min (List.drop (Int.toNat (4 : Int)) (be (ix (hWrite a0_h ((toB (128 : Int) :: ([] : List UInt8)) :: List.replicate ((IntKind.i64.wrap ((119 : Int) - (a0_h.snd.snd.length : Int))).tmod (64 : Int)).toNat Ty.byte.kd.z :: be (IntKind.u64.wrap ((8 : Int) * hLen a0_h)).toNat (8 : Nat) :: ([] : List (List UInt8)))).fst x2).toNat (8 : Nat))).length (((32 : Nat) : Int).toNat - (IntKind.i64.wrap ((4 : Int) * x2)).toNat)) x3) ∧ x1 (x2 + (1 : Int)) (List.take (IntKind.i64.wrap ((4 : Int) * x2)).toNat x3 ++ List.take (((32 : Nat) : Int).toNat - (IntKind.i64.wrap ((4 : Int) * x2)).toNat) (List.drop (Int.toNat (4 : Int)) (be (ix (hWrite a0_h ((toB (128 : Int) :: ([] : List UInt8)) :: List.replicate ((IntKind.i64.wrap ((119 : Int) - (a0_h.snd.snd.length : Int))).tmod (64 : Int)).toNat Ty.byte.kd.z :: be (IntKind.u64.wrap ((8 : Int) * hLen a0_h)).toNat (8 : Nat) :: ([] : List (List UInt8)))).fst x2).toNat (8 : Nat))) ++ List.drop ((IntKind.i64.wrap ((4 : Int) * x2)).toNat + min (List.drop (Int.toNat (4 : Int)) (be (ix (hWrite a0_h ((toB (128 : Int) :: ([] : List UInt8)) :: List.replicate ((IntKind.i64.wrap ((119 : Int) - (a0_h.snd.snd.length : Int))).tmod (64 : Int)).toNat Ty.byte.kd.z :: be (IntKind.u64.wrap ((8 : Int) * hLen a0_h)).toNat (8 : Nat) :: ([] : List (List UInt8)))).fst x2).toNat (8 : Nat))).length (((32 : Nat) : Int).toNat - (IntKind.i64.wrap ((4 : Int) * x2)).toNat)) x3) < x1 x2 x3)) ∧ (¬x2 < (8 : Int) → Q x3)) ∧ True) ∧ (Ty.byte.kd.sl.wf (be (IntKind.u64.wrap ((8 : Int) * hLen a0_h)).toNat (8 : Nat)) → (((0 : Int) ≤ (IntKind.i64.wrap ((119 : Int) - (a0_h.snd.snd.length : Int))).tmod (64 : Int) ∧ (IntKind.i64.wrap ((119 : Int) - (a0_h.snd.snd.length : Int))).tmod (64 : Int) ≤ (IntKind.i64.wrap ((119 : Int) - (a0_h.snd.snd.length : Int))).tmod (64 : Int) ∧ ((1 : Nat) : Int) * (IntKind.i64.wrap ((119 : Int) - (a0_h.snd.snd.length : Int))).tmod (64 : Int) ≤ (281474976710656 : Int) ∧ (IntKind.i64.wrap ((119 : Int) - (a0_h.snd.snd.length : Int))).tmod (64 : Int) ≤ (281474976710656 : Int)) ∧ (((1 : Nat) + ((toB (128 : Int) :: ([] : List UInt8)) :: List.replicate ((IntKind.i64.wrap ((119 : Int) - (a0_h.snd.snd.length : Int))).tmod (64 : Int)).toNat Ty.byte.kd.z :: be (IntKind.u64.wrap ((8 : Int) * hLen a0_h)).toNat (8 : Nat) :: ([] : List (List UInt8))).length) * (24 : Nat) ≤ (140737488355328 : Nat) ∧ (a0_h.snd.snd ++ ((toB (128 : Int) :: ([] : List UInt8)) :: List.replicate ((IntKind.i64.wrap ((119 : Int) - (a0_h.snd.snd.length : Int))).tmod (64 : Int)).toNat Ty.byte.kd.z :: be (IntKind.u64.wrap ((8 : Int) * hLen a0_h)).toNat (8 : Nat) :: ([] : List (List UInt8))).flatten).length ≤ (140737488355328 : Nat)) ∧ ∃ (x0 : Int → List UInt8 → Prop), ∃ (x1 : Int → List UInt8 → Nat), x0 (0 : Int) (Ty.arr (32 : Nat) Ty.byte).kd.z ∧ ∀ (x2 : Int) (x3 : List UInt8), x0 x2 x3 → (Kd.int IntKind.i64).wf x2 → (Ty.arr (32 : Nat) Ty.byte).kd.wf x3 → (x2 < (8 : Int) → ((0 : Int) ≤ x2 ∧ x2 < ((8 : Nat) : Int)) ∧ ((0 : Int) ≤ IntKind.i64.wrap ((4 : Int) * x2) ∧ IntKind.i64.wrap ((4 : Int) * x2) ≤ ((32 : Nat) : Int) ∧ ((32 : Nat) : Int) ≤ ((32 : Nat) : Int) ∧ IntKind.i64.wrap ((4 : Int) * x2) < ((32 : Nat) : Int)) ∧ (Ty.byte.kd.sl.wf (be (ix (hWrite a0_h ((toB (128 : Int) :: ([] : List UInt8)) :: List.replicate ((IntKind.i64.wrap ((119 : Int) - (a0_h.snd.snd.length : Int))).tmod (64 : Int)).toNat Ty.byte.kd.z :: be (IntKind.u64.wrap ((8 : Int) * hLen a0_h)).toNat (8 : Nat) :: ([] : List (List UInt8)))).fst x2).toNat (8 : Nat)) → ((0 : Int) ≤ (4 : Int) ∧ (4 : Int) ≤ ((be (ix (hWrite a0_h ((toB (128 : Int) :: ([] : List UInt8)) :: List.replicate ((IntKind.i64.wrap ((119 : Int) - (a0_h.snd.snd.length : Int))).tmod (64 : Int)).toNat Ty.byte.kd.z :: be (IntKind.u64.wrap ((8 : Int) * hLen a0_h)).toNat (8 : Nat) :: ([] : List (List UInt8)))).fst x2).toNat (8 : Nat)).length : Int)) ∧ x2 < (9223372036854775807 : Int) ∧ x0 (x2 + (1 : Int)) (List.take (IntKind.i64.wrap ((4 : Int) * x2)).toNat x3 ++ List.take (((32 : Nat) : Int).toNat - (IntKind.i64.wrap ((4 : Int) * x2)).toNat) (List.drop (Int.toNat (4 : Int)) (be (ix (hWrite a0_h ((toB (128 : Int) :: ([] : List UInt8)) :: List.replicate ((IntKind.i64.wrap ((119 : Int) - (a0_h.snd.snd.length : Int))).tmod (64 : Int)).toNat Ty.byte.kd.z :: be (IntKind.u64.wrap ((8 : Int) * hLen a0_h)).toNat (8 : Nat) :: ([] : List (List UInt8)))).fst x2).toNat (8 : Nat))) ++ List.drop ((IntKind.i64.wrap ((4 : Int) * x2)).toNat + min (List.drop (Int.toNat (4 : Int)) (be (ix (hWrite a0_h ((toB (128 : Int) :: ([] : List UInt8)) :: List.replicate ((IntKind.i64.wrap ((119 : Int) - (a0_h.snd.snd.length : Int))).tmod (64 : Int)).toNat Ty.byte.kd.z :: be (IntKind.u64.wrap ((8 : Int) * hLen a0_h)).toNat (8 : Nat) :: ([] : List (List UInt8)))).fst x2).toNat (8 : Nat))).length (((32 : Nat) : Int).toNat - (IntKind.i64.wrap ((4 : Int) * x2)).toNat)) x3) ∧ x1 (x2 + (1 : Int)) (List.take (IntKind.i64.wrap ((4 : Int) * x2)).toNat x3 ++ List.take (((32 : Nat) : Int).toNat - (IntKind.i64.wrap ((4 : Int) * x2)).toNat) (List.drop (Int.toNat (4 : Int)) (be (ix (hWrite a0_h ((toB (128 : Int) :: ([] : List UInt8)) :: List.replicate ((IntKind.i64.wrap ((119 : Int) - (a0_h.snd.snd.length : Int))).tmod (64 : Int)).toNat Ty.byte.kd.z :: be (IntKind.u64.wrap ((8 : Int) * hLen a0_h)).toNat (8 : Nat) :: ([] : List (List UInt8)))).fst x2).toNat (8 : Nat))) ++ List.drop ((IntKind.i64.wrap ((4 : Int) * x2)).toNat + min (List.drop (Int.toNat (4 : Int)) (be (ix (hWrite a0_h ((toB (128 : Int) :: ([] : List UInt8)) :: List.replicate ((IntKind.i64.wrap ((119 : Int) - (a0_h.snd.snd.length : Int))).tmod (64 : Int)).toNat Ty.byte.kd.z :: be (IntKind.u64.wrap ((8 : Int) * hLen a0_h)).toNat (8 : Nat) :: ([] : List (List UInt8)))).fst x2).toNat (8 : Nat))).length (((32 : Nat) : Int).toNat - (IntKind.i64.wrap ((4 : Int) * x2)).toNat)) x3) < x1 x2 x3)) ∧ (¬x2 < (8 : Int) → Q x3)) ∧ (((0 : Int) ≤ (IntKind.i64.wrap ((119 : Int) - (a0_h.snd.snd.length : Int))).tmod (64 : Int) ∧ (IntKind.i64.wrap ((119 : Int) - (a0_h.snd.snd.length : Int))).tmod (64 : Int) ≤ (IntKind.i64.wrap ((119 : Int) - (a0_h.snd.snd.length : Int))).tmod (64 : Int) ∧ ((1 : Nat) : Int) * (IntKind.i64.wrap ((119 : Int) - (a0_h.snd.snd.length : Int))).tmod (64 : Int) ≤ (281474976710656 : Int) ∧ (IntKind.i64.wrap ((119 : Int) - (a0_h.snd.snd.length : Int))).tmod (64 : Int) ≤ (281474976710656 : Int)) ∧ (((1 : Nat) + ((toB (128 : Int) :: ([] : List UInt8)) :: List.replicate ((IntKind.i64.wrap ((119 : Int) - (a0_h.snd.snd.length : Int))).tmod (64 : Int)).toNat Ty.byte.kd.z :: be (IntKind.u64.wrap ((8 : Int) * hLen a0_h)).toNat (8 : Nat) :: ([] : List (List UInt8))).length) * (24 : Nat) ≤ (140737488355328 : Nat) ∧ (a0_h.snd.snd ++ ((toB (128 : Int) :: ([] : List UInt8)) :: List.replicate ((IntKind.i64.wrap ((119 : Int) - (a0_h.snd.snd.length : Int))).tmod (64 : Int)).toNat Ty.byte.kd.z :: be (IntKind.u64.wrap ((8 : Int) * hLen a0_h)).toNat (8 : Nat) :: ([] : List (List UInt8))).flatten).length ≤ (140737488355328 : Nat)) ∧ ∃ (x0 : Int → List UInt8 → Prop), ∃ (x1 : Int → List UInt8 → Nat), x0 (0 : Int) (Ty.arr (32 : Nat) Ty.byte).kd.z ∧ ∀ (x2 : Int) (x3 : List UInt8), x0 x2 x3 → (Kd.int IntKind.i64).wf x2 → (Ty.arr (32 : Nat) Ty.byte).kd.wf x3 → (x2 < (8 : Int) → ((0 : Int) ≤ x2 ∧ x2 < ((8 : Nat) : Int)) ∧ ((0 : Int) ≤ IntKind.i64.wrap ((4 : Int) * x2) ∧ IntKind.i64.wrap ((4 : Int) * x2) ≤ ((32 : Nat) : Int) ∧ ((32 : Nat) : Int) ≤ ((32 : Nat) : Int) ∧ IntKind.i64.wrap ((4 : Int) * x2) < ((32 : Nat) : Int)) ∧ (Ty.byte.kd.sl.wf (be (ix (hWrite a0_h ((toB (128 : Int) :: ([] : List UInt8)) :: List.replicate ((IntKind.i64.wrap ((119 : Int) - (a0_h.snd.snd.length : Int))).tmod (64 : Int)).toNat Ty.byte.kd.z :: be (IntKind.u64.wrap ((8 : Int) * hLen a0_h)).toNat (8 : Nat) :: ([] : List (List UInt8)))).fst x2).toNat (8 : Nat)) → ((0 : Int) ≤ (4 : Int) ∧ (4 : Int) ≤ ((be (ix (hWrite a0_h ((toB (128 : Int) :: ([] : List UInt8)) :: List.replicate ((IntKind.i64.wrap ((119 : Int) - (a0_h.snd.snd.length : Int))).tmod (64 : Int)).toNat Ty.byte.kd.z :: be (IntKind.u64.wrap ((8 : Int) * hLen a0_h)).toNat (8 : Nat) :: ([] : List (List UInt8)))).fst x2).toNat (8 : Nat)).length : Int)) ∧ x2 < (9223372036854775807 : Int) ∧ x0 (x2 + (1 : Int)) (List.take (IntKind.i64.wrap ((4 : Int) * x2)).toNat x3 ++ List.take (((32 : Nat) : Int).toNat - (IntKind.i64.wrap ((4 : Int) * x2)).toNat) (List.drop (Int.toNat (4 : Int)) (be (ix (hWrite a0_h ((toB (128 : Int) :: ([] : List UInt8)) :: List.replicate ((IntKind.i64.wrap ((119 : Int) - (a0_h.snd.snd.length : Int))).tmod (64 : Int)).toNat Ty.byte.kd.z :: be (IntKind.u64.wrap ((8 : Int) * hLen a0_h)).toNat (8 : Nat) :: ([] : List (List UInt8)))).fst x2).toNat (8 : Nat))) ++ List.drop ((IntKind.i64.wrap ((4 : Int) * x2)).toNat + min (List.drop (Int.toNat (4 : Int)) (be (ix (hWrite a0_h ((toB (128 : Int) :: ([] : List UInt8)) :: List.replicate ((IntKind.i64.wrap ((119 : Int) - (a0_h.snd.snd.length : Int))).tmod (64 : Int)).toNat Ty.byte.kd.z :: be (IntKind.u64.wrap ((8 : Int) * hLen a0_h)).toNat (8 : Nat) :: ([] : List (List UInt8)))).fst x2).toNat (8 : Nat))).length (((32 : Nat) : Int).toNat - (IntKind.i64.wrap ((4 : Int) * x2)).toNat)) x3) ∧ x1 (x2 + (1 : Int)) (List.take (IntKind.i64.wrap ((4 : Int) * x2)).toNat x3 ++ List.take (((32 : Nat) : Int).toNat - (IntKind.i64.wrap ((4 : Int) * x2)).toNat) (List.drop (Int.toNat (4 : Int)) (be (ix (hWrite a0_h ((toB (128 : Int) :: ([] : List UInt8)) :: List.replicate ((IntKind.i64.wrap ((119 : Int) - (a0_h.snd.snd.length : Int))).tmod (64 : Int)).toNat Ty.byte.kd.z :: be (IntKind.u64.wrap ((8 : Int) * hLen a0_h)).toNat (8 : Nat) :: ([] : List (List UInt8)))).fst x2).toNat (8 : Nat))) ++ List.drop ((IntKind.i64.wrap ((4 : Int) * x2)).toNat + min (List.drop (Int.toNat (4 : Int)) (be (ix (hWrite a0_h ((toB (128 : Int) :: ([] : List UInt8)) :: List.replicate ((IntKind.i64.wrap ((119 : Int) - (a0_h.snd.snd.length : Int))).tmod (64 : Int)).toNat Ty.byte.kd.z :: be (IntKind.u64.wrap ((8 : Int) * hLen a0_h)).toNat (8 : Nat) :: ([] : List (List UInt8)))).fst x2).toNat (8 : Nat))).length (((32 : Nat) : Int).toNat - (IntKind.i64.wrap ((4 : Int) * x2)).toNat)) x3) < x1 x2 x3)) ∧ (¬x2 < (8 : Int) → Q x3)) ∧ True) ∧ True)
theorem HSum_ok {a0_h : (List Int) × Int × List UInt8} (w_0 : (Ty.kd (.pr (.arr 8 (.int .u32)) (.pr (.int .u64) (.sl .byte)))).wf a0_h) (hp : a0_h.2.2.length < 64) : HSum_VC a0_h (fun o0 => o0 = (hSum a0_h)) := by
  have wr : ∀ a : Int, -1000 ≤ a → a ≤ 1000 → IntKind.i64.wrap a = a := fun a h1 h2 => wrap_id (wf64 (by omega) (by omega))
  have hk : Int.tmod (IntKind.i64.wrap (119 - (a0_h.2.2.length : Int))) 64 = ((119 - (a0_h.2.2.length : Int)) % 64) := by
    rw [wr _ (by omega) (by omega), Int.tmod_eq_emod_of_nonneg (by omega)]
  have hsum : ∀ n, (sumN (hWrite a0_h (padOf a0_h)).1 n).length = 32 := by
    intro n
    induction n with
    | zero => simp [sumN]
    | succ n ih =>
      simp only [sumN, List.length_append, List.length_take, List.length_drop, ih, be_length]
      omega
  have hp' : [[toB 128], List.replicate ((119 - (a0_h.2.2.length : Int)) % 64).toNat Ty.byte.kd.z, be (IntKind.u64.wrap (8 * hLen a0_h)).toNat 8] = padOf a0_h := by unfold padOf; rw [hk]; rfl
  unfold HSum_VC
  rw [hk, hp']
  intro _
  refine ⟨by omega, fun _ _ => ?_⟩
  repeat' (first | apply And.intro | intro _)
  all_goals first | trivial | omega | (simp only [← hp', List.length_cons, List.length_nil, List.length_append, List.flatten_cons, List.flatten_nil, List.length_replicate, be_length]; omega) | skip
  all_goals
    refine ⟨fun i b => ∃ n : Nat, i = (n : Int) ∧ n ≤ 8 ∧ b = sumN (hWrite a0_h (padOf a0_h)).1 n, fun i _ => 8 - i.toNat, ⟨0, rfl, by omega, rfl⟩, ?_⟩
    rintro i b ⟨n, rfl, hn, rfl⟩ _ _
    refine ⟨fun hlt => ?_, fun hge => ?_⟩
    · rw [wr (4 * (n : Int)) (by omega) (by omega)]
      have e4 : (4 * (n : Int)).toNat = 4 * n := by omega
      rw [e4]
      refine ⟨⟨by omega, hlt⟩, ⟨by omega, by omega, by omega, by omega⟩, fun _ => ⟨⟨by omega, by rw [be_length]; omega⟩, by omega, ⟨n + 1, by omega, by omega, rfl⟩, ?_⟩⟩
      show 8 - ((n : Int) + 1).toNat < 8 - (n : Int).toNat
      omega
    · have : n = 8 := by omega
      subst this
      rfl
theorem HSum_eq : (∀ a, HSum_C.pre a → PM.wfP HSum_C.pm a (fvc HSum_X 200 79 HSum_C a (eqO HSum_C a))) = (∀ a : ((List Int) × Int × List UInt8) × Unit, ((a.1).2.2.length < 64) → (Ty.kd (.pr (.arr 8 (.int .u32)) (.pr (.int .u64) (.sl .byte)))).wf a.1 → HSum_VC a.1 (fun o0 => o0 = (hSum (a.1)))) := by kernel_rfl
theorem HSum_k : HSum_C.valid Try.prog 79 := ctr_of (X := HSum_X) (ok_of seat_ok (fun b hb => by cases hb; exact bkT_ok) fns_ok ⟨New_k, HCopy_k, HLen_k, high_k, HWrite_k, trivial⟩) 200 (HSum_eq.mpr fun a hp w_0 => @HSum_ok a.1 w_0 hp)
noncomputable def ShaSum_C : Ctr := ⟨[.v (.sl (.sl .byte))], [.v (.arr 32 .byte)], some (fun a => (fun (a0_parts : List (List UInt8)) => ((1 + a0_parts.length) * 24 ≤ 140737488355328 ∧ a0_parts.flatten.length ≤ 140737488355328 : Prop)) a.1), fun a => (fun (a0_parts : List (List UInt8)) => (((sha256 a0_parts), ()), (()))) a.1⟩
noncomputable def ShaSum_X : Fx := ⟨seat, some bkT, fns, [(77, New_C), (78, HWrite_C), (79, HSum_C)], [], [], []⟩
def ShaSum_VC (a0_parts : List (List UInt8)) (Q : (List UInt8) → Prop) : Prop :=
  ((Ty.arr (8 : Nat) (Ty.int IntKind.u32)).pr ((Ty.int IntKind.u64).pr Ty.byte.sl)).kd.wf (List.replicate (8 : Nat) (0 : Int), (0 : Int), ([] : List UInt8)) → (((1 : Nat) + a0_parts.length) * (24 : Nat) ≤ (140737488355328 : Nat) ∧ (([] : List UInt8) ++ a0_parts.flatten).length ≤ (140737488355328 : Nat)) ∧ (hWrite (List.replicate (8 : Nat) (0 : Int), (0 : Int), ([] : List UInt8)) a0_parts).snd.snd.length < (64 : Nat) ∧ ((Ty.arr (32 : Nat) Ty.byte).kd.wf (hSum (hWrite (List.replicate (8 : Nat) (0 : Int), (0 : Int), ([] : List UInt8)) a0_parts)) → Q (hSum (hWrite (List.replicate (8 : Nat) (0 : Int), (0 : Int), ([] : List UInt8)) a0_parts)))
theorem ShaSum_ok {a0_parts : List (List UInt8)} (w_0 : (Ty.kd (.sl (.sl .byte))).wf a0_parts) (hp : (1 + a0_parts.length) * 24 ≤ 140737488355328 ∧ a0_parts.flatten.length ≤ 140737488355328) : ShaSum_VC a0_parts (fun o0 => o0 = (sha256 a0_parts)) := by
  unfold ShaSum_VC
  exact fun _ => ⟨⟨hp.1, hp.2⟩, eat_rest _ _ _, fun _ => rfl⟩
theorem ShaSum_eq : (∀ a, ShaSum_C.pre a → PM.wfP ShaSum_C.pm a (fvc ShaSum_X 200 68 ShaSum_C a (eqO ShaSum_C a))) = (∀ a : (List (List UInt8)) × Unit, ((1 + (a.1).length) * 24 ≤ 140737488355328 ∧ (a.1).flatten.length ≤ 140737488355328) → (Ty.kd (.sl (.sl .byte))).wf a.1 → ShaSum_VC a.1 (fun o0 => o0 = (sha256 (a.1)))) := by kernel_rfl
theorem ShaSum_k : ShaSum_C.valid Try.prog 68 := ctr_of (X := ShaSum_X) (ok_of seat_ok (fun b hb => by cases hb; exact bkT_ok) fns_ok ⟨New_k, HWrite_k, HSum_k, trivial⟩) 200 (ShaSum_eq.mpr fun a hp w_0 => @ShaSum_ok a.1 w_0 hp)
end Go.Proofs.Ytkffegaofdpkiaa

/- What the old form asks of the new: Clone, Equal, Preimage, sha.Sum. -/
set_option linter.unusedVariables false
set_option maxRecDepth 100000
set_option maxHeartbeats 2000000
namespace Go.Proofs.Ytkffegaofdpkiaa
open Go Go.RowKit Go.Inc
theorem relL1 {θ : Th} {n : Nat} {K : Ghost} {s : SVal} {v : Value} (h : s.rel θ n K v) : SVal.relL θ n K [s] [v] := ⟨v, [], rfl, h, rfl⟩
theorem relL2 {θ : Th} {n : Nat} {K : Ghost} {s s' : SVal} {v v' : Value} (h : s.rel θ n K v) (h' : s'.rel θ n K v') : SVal.relL θ n K [s, s'] [v, v'] := ⟨v, [v'], rfl, h, relL1 h'⟩
theorem Clone_c {w0 : World} {K0 : Ghost} {a0_s_v : Value} {a0_s : (List UInt8)} (hM0 : Models w0 K0) (h_a0_s : kd_l_u8.V K0 a0_s a0_s_v) (hp : a0_s.length ≤ 140737488355328) : Calls Try.prog 59 #[a0_s_v] w0 (fun e w' => ∃ (K' : Ghost) (r0 : Value), e = .returned r0 ∧ Ext NX w0 K0 w' K' ∧ Models w' K' ∧ Own Kd.byte 5 w' K' a0_s r0 ∧ (∀ g, ob r0 = some g → w0.heap.size ≤ g)) :=
  un_ow (k := .byte) Clone_k (fun _ => rfl) (a := (a0_s, ())) (vs := [a0_s_v]) hp hM0 fun θ => relL1 (SVal.of_rel (t := .sl .byte) h_a0_s)
theorem Equal_c {w0 : World} {K0 : Ghost} {a0_a_v : Value} {a0_a : (List UInt8)} {a1_b_v : Value} {a1_b : (List UInt8)} (hM0 : Models w0 K0) (h_a0_a : kd_l_u8.V K0 a0_a a0_a_v) (h_a1_b : kd_l_u8.V K0 a1_b a1_b_v) : Calls Try.prog 58 #[a0_a_v, a1_b_v] w0 (fun e w' => ∃ (K' : Ghost) (r0 : Value), e = .returned r0 ∧ Ext NX w0 K0 w' K' ∧ Models w' K' ∧ Kd.bool.V K' (decide (a0_a = a1_b)) r0) :=
  un_v (t := .bool) Equal_k (fun _ => rfl) (fun _ => rfl) (a := (a0_a, a1_b, ())) (vs := [a0_a_v, a1_b_v]) trivial hM0 fun θ => relL2 (SVal.of_rel (t := .sl .byte) h_a0_a) (SVal.of_rel (t := .sl .byte) h_a1_b)
theorem Preimage_c {w0 : World} {K0 : Ghost} {a0_kind_v : Value} {a0_kind : Int} {a1_parts_v : Value} {a1_parts : (List (List UInt8))} (hM0 : Models w0 K0) (h_a0_kind : (Kd.int .i64).V K0 a0_kind a0_kind_v) (h_a1_parts : kd_l_l_u8.V K0 a1_parts a1_parts_v) (hp : 1 + blobRoom a1_parts ≤ 140737488355328) : Calls Try.prog 67 #[a0_kind_v, a1_parts_v] w0 (fun e w' => ∃ (K' : Ghost) (r0 : Value), e = .returned r0 ∧ Ext NX w0 K0 w' K' ∧ Models w' K' ∧ Own Kd.byte 5 w' K' (preimage a0_kind a1_parts) r0 ∧ (∀ g, ob r0 = some g → w0.heap.size ≤ g)) :=
  un_ow (k := .byte) Preimage_k (fun _ => rfl) (a := (a0_kind, a1_parts, ())) (vs := [a0_kind_v, a1_parts_v]) hp hM0 fun θ => relL2 (SVal.of_rel (t := .int .i64) h_a0_kind) (SVal.of_rel (t := .sl (.sl .byte)) h_a1_parts)
theorem ShaSum_c {w0 : World} {K0 : Ghost} {a0_parts_v : Value} {a0_parts : (List (List UInt8))} (hM0 : Models w0 K0) (h_a0_parts : kd_l_l_u8.V K0 a0_parts a0_parts_v) (hp : (1 + a0_parts.length) * 24 ≤ 140737488355328 ∧ a0_parts.flatten.length ≤ 140737488355328) : Calls Try.prog 68 #[a0_parts_v] w0 (fun e w' => ∃ (K' : Ghost) (r0 : Value), e = .returned r0 ∧ Ext NX w0 K0 w' K' ∧ Models w' K' ∧ (Kd.arr 32 Kd.byte).V K' (sha256 a0_parts) r0) :=
  un_v (t := .arr 32 .byte) ShaSum_k (fun _ => rfl) (fun _ => rfl) (a := (a0_parts, ())) (vs := [a0_parts_v]) hp hM0 fun θ => relL1 (SVal.of_rel (t := .sl (.sl .byte)) h_a0_parts)
end Go.Proofs.Ytkffegaofdpkiaa
