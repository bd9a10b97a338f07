/- P12, P13, S5, P7. -/
import Derived.Test.YtkffegaofdpkiaaM4
import Derived.Test.YtkffegaofdpkiaaM5
import Derived.Test.YtkffegaofdpkiaaChecked
import Derived.Test.YtkffegaofdpkiaaRows
import Derived.WalkKit
import Derived.ProofKit
import Derived.OpenShut
import Derived.JoinedCond
import Derived.Carry
/-
  PLAIN 12: the five leaves of the examples: their sums, reckoned by the kernel.
-/
set_option linter.unusedVariables false
set_option maxRecDepth 100000
namespace Go.Inc
open Go
theorem f12v : sealOf 2 [[1, 0, 0, 0, 0, 0, 0, 0, 0, 0, 0, 0, 0, 0, 0, 0, 0, 0, 0, 0, 0, 0, 0, 0, 0, 0, 0, 0, 0, 0, 0, 0], [2, 0, 0, 0, 0, 0, 0, 0, 0, 0, 0, 0, 0, 0, 0, 0, 0, 0, 0, 0, 0, 0, 0, 0, 0, 0, 0, 0, 0, 0, 0, 0]] = [88, 237, 81, 123, 239, 100, 254, 12, 94, 25, 116, 60, 221, 77, 114, 235, 232, 233, 199, 80, 85, 162, 253, 60, 201, 145, 109, 15, 100, 18, 80, 30] := by
  unfold sealOf
  rw [preimageF_eq _ (by decide), sha256_msg _ (by decide)]
  decide +kernel
theorem f34v : sealOf 2 [[3, 0, 0, 0, 0, 0, 0, 0, 0, 0, 0, 0, 0, 0, 0, 0, 0, 0, 0, 0, 0, 0, 0, 0, 0, 0, 0, 0, 0, 0, 0, 0], [4, 0, 0, 0, 0, 0, 0, 0, 0, 0, 0, 0, 0, 0, 0, 0, 0, 0, 0, 0, 0, 0, 0, 0, 0, 0, 0, 0, 0, 0, 0, 0]] = [192, 26, 65, 7, 210, 184, 126, 179, 202, 49, 47, 244, 174, 158, 102, 23, 232, 95, 15, 183, 136, 145, 177, 200, 194, 73, 110, 198, 165, 4, 154, 104] := by
  unfold sealOf
  rw [preimageF_eq _ (by decide), sha256_msg _ (by decide)]
  decide +kernel
theorem f4v : sealOf 2 [[88, 237, 81, 123, 239, 100, 254, 12, 94, 25, 116, 60, 221, 77, 114, 235, 232, 233, 199, 80, 85, 162, 253, 60, 201, 145, 109, 15, 100, 18, 80, 30], [192, 26, 65, 7, 210, 184, 126, 179, 202, 49, 47, 244, 174, 158, 102, 23, 232, 95, 15, 183, 136, 145, 177, 200, 194, 73, 110, 198, 165, 4, 154, 104]] = [18, 130, 185, 139, 42, 70, 135, 157, 229, 39, 21, 37, 20, 87, 54, 187, 201, 225, 138, 252, 48, 159, 38, 169, 166, 67, 232, 39, 64, 69, 64, 13] := by
  unfold sealOf
  rw [preimageF_eq _ (by decide), sha256_msg _ (by decide)]
  decide +kernel
theorem f5v : sealOf 2 [[18, 130, 185, 139, 42, 70, 135, 157, 229, 39, 21, 37, 20, 87, 54, 187, 201, 225, 138, 252, 48, 159, 38, 169, 166, 67, 232, 39, 64, 69, 64, 13], [5, 0, 0, 0, 0, 0, 0, 0, 0, 0, 0, 0, 0, 0, 0, 0, 0, 0, 0, 0, 0, 0, 0, 0, 0, 0, 0, 0, 0, 0, 0, 0]] = [0, 249, 67, 132, 41, 198, 54, 240, 58, 233, 196, 226, 142, 71, 110, 35, 117, 35, 172, 196, 194, 75, 210, 160, 234, 39, 163, 120, 150, 22, 177, 134] := by
  unfold sealOf
  rw [preimageF_eq _ (by decide), sha256_msg _ (by decide)]
  decide +kernel
theorem f55v : sealOf 2 [[0, 249, 67, 132, 41, 198, 54, 240, 58, 233, 196, 226, 142, 71, 110, 35, 117, 35, 172, 196, 194, 75, 210, 160, 234, 39, 163, 120, 150, 22, 177, 134], [5, 0, 0, 0, 0, 0, 0, 0, 0, 0, 0, 0, 0, 0, 0, 0, 0, 0, 0, 0, 0, 0, 0, 0, 0, 0, 0, 0, 0, 0, 0, 0]] = [118, 181, 139, 240, 43, 17, 250, 46, 232, 121, 119, 210, 168, 141, 24, 120, 130, 36, 114, 16, 3, 240, 100, 145, 10, 145, 121, 130, 151, 56, 43, 28] := by
  unfold sealOf
  rw [preimageF_eq _ (by decide), sha256_msg _ (by decide)]
  decide +kernel
theorem half2 : half 2 = 1 := half_of (j := 0) (by decide) (by decide)
theorem half3 : half 3 = 2 := half_of (j := 1) (by decide) (by decide)
theorem half4 : half 4 = 2 := half_of (j := 1) (by decide) (by decide)
theorem half5 : half 5 = 4 := half_of (j := 2) (by decide) (by decide)
theorem five_eq : fiveL = [[1, 0, 0, 0, 0, 0, 0, 0, 0, 0, 0, 0, 0, 0, 0, 0, 0, 0, 0, 0, 0, 0, 0, 0, 0, 0, 0, 0, 0, 0, 0, 0], [2, 0, 0, 0, 0, 0, 0, 0, 0, 0, 0, 0, 0, 0, 0, 0, 0, 0, 0, 0, 0, 0, 0, 0, 0, 0, 0, 0, 0, 0, 0, 0], [3, 0, 0, 0, 0, 0, 0, 0, 0, 0, 0, 0, 0, 0, 0, 0, 0, 0, 0, 0, 0, 0, 0, 0, 0, 0, 0, 0, 0, 0, 0, 0], [4, 0, 0, 0, 0, 0, 0, 0, 0, 0, 0, 0, 0, 0, 0, 0, 0, 0, 0, 0, 0, 0, 0, 0, 0, 0, 0, 0, 0, 0, 0, 0], [5, 0, 0, 0, 0, 0, 0, 0, 0, 0, 0, 0, 0, 0, 0, 0, 0, 0, 0, 0, 0, 0, 0, 0, 0, 0, 0, 0, 0, 0, 0, 0]] := by decide
theorem two_root (a b : Sm) : rootS [a, b] = sealOf 2 [a, b] := by
  rw [rootS_two (by simp)]
  show sealOf 2 [rootS (List.take (half 2) [a, b]), rootS (List.drop (half 2) [a, b])] = _
  rw [half2]
  show sealOf 2 [rootS [a], rootS [b]] = _
  rw [rootS_one, rootS_one]
theorem four_root (a b c d : Sm) : rootS [a, b, c, d] = sealOf 2 [sealOf 2 [a, b], sealOf 2 [c, d]] := by
  rw [rootS_two (by simp)]
  show sealOf 2 [rootS (List.take (half 4) [a, b, c, d]), rootS (List.drop (half 4) [a, b, c, d])] = _
  rw [half4]
  show sealOf 2 [rootS [a, b], rootS [c, d]] = _
  rw [two_root, two_root]
theorem five_root (a b c d e : Sm) : rootS [a, b, c, d, e] = sealOf 2 [sealOf 2 [sealOf 2 [a, b], sealOf 2 [c, d]], e] := by
  rw [rootS_two (by simp)]
  show sealOf 2 [rootS (List.take (half 5) [a, b, c, d, e]), rootS (List.drop (half 5) [a, b, c, d, e])] = _
  rw [half5]
  show sealOf 2 [rootS [a, b, c, d], rootS [e]] = _
  rw [four_root, rootS_one]
theorem r5v : rootS fiveL = [0, 249, 67, 132, 41, 198, 54, 240, 58, 233, 196, 226, 142, 71, 110, 35, 117, 35, 172, 196, 194, 75, 210, 160, 234, 39, 163, 120, 150, 22, 177, 134] := by
  rw [five_eq, five_root, f12v, f34v, f4v, f5v]
theorem pA35 : partsA 3 5 = [1, 0, 1] := by
  rw [partsA_left (by decide) (by rw [half5]; decide), half5, partsA_right (by decide) (by rw [half4]; decide), half4, partsA_left (by decide) (by rw [half2]; decide), half2, partsA_end (by decide)]
theorem pL35 : partsL 3 5 1 = (1, 1, 0) := by
  rw [partsL_left (by decide) (by rw [half5]; decide), half5, partsL_right (by decide) (by rw [half4]; decide), half4, partsL_left (by decide) (by rw [half2]; decide), half2, partsL_end (by decide)]
  rfl
theorem pA45 : partsA 4 5 = [1] := by
  rw [partsA_left (by decide) (by rw [half5]; decide), half5, partsA_end (by decide)]
theorem pL45 : partsL 4 5 1 = (4, 4, 1) := by
  rw [partsL_left (by decide) (by rw [half5]; decide), half5, partsL_end (by decide)]
  rfl
theorem s35 : stepsN 3 5 = 4 := by unfold stepsN; rw [if_pos (by decide), pA35, pL35]; rfl
theorem s45 : stepsN 4 5 = 1 := by unfold stepsN; rw [if_pos (by decide), pA45, pL45]; rfl
theorem s55 : stepsN 5 5 = 0 := by unfold stepsN; rw [if_pos (by decide), partsA_end (by decide), partsL_end (by decide)]; rfl
theorem s05 : stepsN 0 5 = 0 := by unfold stepsN; rw [if_neg (by decide)]
theorem b35 (a b c d e : Sm) : betwN [a, b, c, d, e] 3 = [c, d, sealOf 2 [a, b], e] := by
  unfold betwN
  rw [if_pos (by simp)]
  show betw [a, b, c, d, e] 3 1 = _
  rw [betw_left (by simp) (by show 3 ≤ half 5; rw [half5]; decide)]
  show betw (List.take (half 5) [a, b, c, d, e]) 3 1 ++ [rootS (List.drop (half 5) [a, b, c, d, e])] = _
  rw [half5]
  show betw [a, b, c, d] 3 1 ++ [rootS [e]] = _
  rw [betw_right (by simp) (by show ¬ 3 ≤ half 4; rw [half4]; decide)]
  show betw (List.drop (half 4) [a, b, c, d]) (3 - half 4) 0 ++ [rootS (List.take (half 4) [a, b, c, d])] ++ [rootS [e]] = _
  rw [half4]
  show betw [c, d] 1 0 ++ [rootS [a, b]] ++ [rootS [e]] = _
  rw [betw_left (by simp) (by show 1 ≤ half 2; rw [half2]; decide)]
  show betw (List.take (half 2) [c, d]) 1 0 ++ [rootS (List.drop (half 2) [c, d])] ++ [rootS [a, b]] ++ [rootS [e]] = _
  rw [half2]
  show betw [c] 1 0 ++ [rootS [d]] ++ [rootS [a, b]] ++ [rootS [e]] = _
  rw [betw_end (by simp), if_pos rfl, rootS_one, rootS_one, rootS_one, two_root]
  rfl
theorem b45 (a b c d e : Sm) : betwN [a, b, c, d, e] 4 = [e] := by
  unfold betwN
  rw [if_pos (by simp)]
  show betw [a, b, c, d, e] 4 1 = _
  rw [betw_left (by simp) (by show 4 ≤ half 5; rw [half5]; decide)]
  show betw (List.take (half 5) [a, b, c, d, e]) 4 1 ++ [rootS (List.drop (half 5) [a, b, c, d, e])] = _
  rw [half5]
  show betw [a, b, c, d] 4 1 ++ [rootS [e]] = _
  rw [betw_end (by simp), if_neg (by decide), rootS_one]
  rfl
theorem e455 : extendsB 4 5 (rootS fiveL) (rootS fiveL) (betwN fiveL 4) = false := by
  have hb : betwN fiveL 4 = [[5, 0, 0, 0, 0, 0, 0, 0, 0, 0, 0, 0, 0, 0, 0, 0, 0, 0, 0, 0, 0, 0, 0, 0, 0, 0, 0, 0, 0, 0, 0, 0]] := by rw [five_eq, b45]
  rw [hb, r5v]
  unfold extendsB
  have e4 : Int.toNat 4 = 4 := rfl
  have e5 : Int.toNat 5 = 5 := rfl
  rw [e4, e5, s45, if_neg (by decide), if_neg (by decide), pA45, pL45]
  refine decide_eq_false fun h => ?_
  have h2 : sealOf 2 [[0, 249, 67, 132, 41, 198, 54, 240, 58, 233, 196, 226, 142, 71, 110, 35, 117, 35, 172, 196, 194, 75, 210, 160, 234, 39, 163, 120, 150, 22, 177, 134], [5, 0, 0, 0, 0, 0, 0, 0, 0, 0, 0, 0, 0, 0, 0, 0, 0, 0, 0, 0, 0, 0, 0, 0, 0, 0, 0, 0, 0, 0, 0, 0]] = [0, 249, 67, 132, 41, 198, 54, 240, 58, 233, 196, 226, 142, 71, 110, 35, 117, 35, 172, 196, 194, 75, 210, 160, 234, 39, 163, 120, 150, 22, 177, 134] := congrArg Prod.snd h
  rw [f55v] at h2
  revert h2
  decide
end Go.Inc

/-
  PLAIN 13: what is noted of a tree and of a path binds: an old root that is told beside a list's root is the root of its beginning, or what was noted clashes.
-/
set_option linter.unusedVariables false
namespace Go.Inc
open Go
theorem betwN_len {l : List Sm} {m : Int} (h : l.length ≤ 1048576) : (betwN l m).length ≤ 21 := by
  unfold betwN
  by_cases hm : 0 < m ∧ m ≤ (l.length : Int)
  · rw [if_pos hm, betw_len l.length (Nat.le_refl _) (by omega) (by omega)]
    have := partsA_len 20 (m := m.toNat) (n := l.length) (by omega) (by omega)
    split <;> omega
  · rw [if_neg hm]
    exact Nat.zero_le _
/-- by its path a beginning's root and no other sum than the list's root are told -/
theorem extends_other {l : List Sm} {m : Nat} {f : Sm} (h1 : 1 ≤ m) (h : m ≤ l.length) : extendsB (m : Int) (l.length : Int) (rootS (l.take m)) f (betwN l (m : Int)) = decide (rootS l = f) := by
  have hb : betwN l (m : Int) = betw l m 1 := by unfold betwN; rw [if_pos (by omega), Int.toNat_natCast]
  rw [hb]
  unfold extendsB
  simp only [Int.toNat_natCast]
  rw [if_neg (by rw [betw_steps h1 h]; omega), if_neg (by omega)]
  have ht := betw_tells l.length (l := l) (m := m) (w := 1) (old := rootS (l.take m)) (Nat.le_refl _) h1 h (.inr ⟨rfl, rfl⟩)
  refine decide_eq_decide.2 ⟨fun he => ?_, fun he => ?_⟩
  · have h2 := ht.symm.trans he
    exact congrArg Prod.snd h2
  · rw [← he]
    exact ht
/-! ### books within a list of notes -/
def bkIn (N : List Nt) (x : BookA) : Prop := ∀ y, x = some y → ∀ z ∈ y.1, z ∈ N
theorem bkIn.of {N : List Nt} {x : BookA} {k : Int} {p : List (List UInt8)} (h : bkIn N (bookOf x k p)) : bkIn N x := fun y hy z hz => by
  subst hy
  exact h _ rfl z (addL_sub _ _ _ z hz)
theorem bkIn.node {N : List Nt} {x : BookA} {k : Int} {p : List (List UInt8)} (hx : x.isSome = true) (h : bkIn N (bookOf x k p)) : (sealOf k p, preimage k p) ∈ N := by
  obtain ⟨y, rfl⟩ := Option.isSome_iff_exists.1 hx
  exact h _ rfl _ (addL_in _ _ _)
theorem bookOf_isSome {x : BookA} {k : Int} {p : List (List UInt8)} (hx : x.isSome = true) : (bookOf x k p).isSome = true := by
  obtain ⟨y, rfl⟩ := Option.isSome_iff_exists.1 hx
  rfl
theorem rootBk_isSome : ∀ (k : Nat) {l : List Sm} {x : BookA}, l.length ≤ k → x.isSome = true → (rootBk x l).isSome = true
  | 0, l, x, hk, hx => by
    obtain rfl : l = [] := List.length_eq_zero_iff.1 (by omega)
    rw [rootBk_nil]; exact bookOf_isSome hx
  | k + 1, l, x, hk, hx => by
    rcases Nat.lt_or_ge l.length 2 with h2 | h2
    · match l, h2 with
      | [], _ => rw [rootBk_nil]; exact bookOf_isSome hx
      | [a], _ => rw [rootBk_one]; exact hx
    · have a1 := half_pos h2
      have a2 := half_lt h2
      rw [rootBk_two x h2]
      exact bookOf_isSome (rootBk_isSome k (by simp only [List.length_drop]; omega) (rootBk_isSome k (by simp only [List.length_take]; omega) hx))
theorem bkIn.root : ∀ (k : Nat) {N : List Nt} {l : List Sm} {x : BookA}, l.length ≤ k → bkIn N (rootBk x l) → bkIn N x
  | 0, N, l, x, hk, h => by
    obtain rfl : l = [] := List.length_eq_zero_iff.1 (by omega)
    rw [rootBk_nil] at h; exact h.of
  | k + 1, N, l, x, hk, h => by
    rcases Nat.lt_or_ge l.length 2 with h2 | h2
    · match l, h2 with
      | [], _ => rw [rootBk_nil] at h; exact h.of
      | [a], _ => rw [rootBk_one] at h; exact h
    · have a1 := half_pos h2
      have a2 := half_lt h2
      rw [rootBk_two x h2] at h
      exact bkIn.root k (by simp only [List.length_take]; omega) (bkIn.root k (by simp only [List.length_drop]; omega) h.of)
theorem foldB_isSome : ∀ {A : List Int} {P : List Sm} {s : Sm × Sm} {x : BookA}, x.isSome = true → (foldB A P s x).isSome = true
  | [], P, s, x, hx => by simpa [foldB] using hx
  | _ :: _, [], s, x, hx => by simpa [foldB] using hx
  | a :: A, p :: P, s, x, hx => by
    simp only [foldB]
    refine foldB_isSome ?_
    split
    · exact bookOf_isSome hx
    · exact bookOf_isSome (bookOf_isSome hx)
theorem foldB_append : ∀ (A : List Int) (P : List Sm) (a : Int) (p : Sm) (s : Sm × Sm) (x : BookA), A.length = P.length → foldB (A ++ [a]) (P ++ [p]) s x = foldB [a] [p] (foldT A P s) (foldB A P s x)
  | [], [], a, p, s, x, _ => rfl
  | [], _ :: _, a, p, s, x, h => by simp at h
  | _ :: _, [], a, p, s, x, h => by simp at h
  | b :: A, q :: P, a, p, s, x, h => by
    simp only [List.cons_append, foldB, foldT]
    exact foldB_append A P a p _ _ (by simpa using h)
theorem foldT_len : ∀ {A : List Int} {P : List Sm} {s : Sm × Sm}, s.1.length = 32 → s.2.length = 32 → (foldT A P s).1.length = 32 ∧ (foldT A P s).2.length = 32
  | [], P, s, h1, h2 => by simpa [foldT] using ⟨h1, h2⟩
  | _ :: _, [], s, h1, h2 => by simpa [foldT] using ⟨h1, h2⟩
  | a :: A, p :: P, s, h1, h2 => by
    simp only [foldT]
    split
    · exact foldT_len h1 (sealOf_len _ _)
    · exact foldT_len (sealOf_len _ _) (sealOf_len _ _)
/-- notes that do not clash: a node's parts are told by its sum -/
theorem NoClash.node {N : List Nt} (hN : NoClash N) {a b c d : Sm} (h1 : (sealOf 2 [a, b], preimage 2 [a, b]) ∈ N) (h2 : (sealOf 2 [c, d], preimage 2 [c, d]) ∈ N) (he : sealOf 2 [a, b] = sealOf 2 [c, d]) (ha : a.length = 32) (hb : b.length = 32) (hc : c.length = 32) (hd : d.length = 32) : a = c ∧ b = d := by
  rw [he] at h1
  have hp := hN _ _ _ h1 h2
  have := (preimage_inj (k := 2) (o := 2) (a := [a, b]) (b := [c, d]) (by intro x hx; simp at hx; rcases hx with rfl | rfl <;> omega) (by intro x hx; simp at hx; rcases hx with rfl | rfl <;> omega)).1 hp
  simpa using this.2
theorem tells_binds {N : List Nt} (hN : NoClash N) : ∀ (k : Nat) {l : List Sm} {m : Nat} {v : Sm} {P : List Sm} {x y : BookA}, l.length ≤ k → 1 ≤ m → m ≤ l.length → P.length = (partsA m l.length).length → (∀ z ∈ l, z.length = 32) → (∀ z ∈ P, z.length = 32) → v.length = 32 → x.isSome = true → y.isSome = true →
    bkIn N (rootBk x l) → bkIn N (foldB (partsA m l.length).reverse P (v, v) y) → (foldT (partsA m l.length).reverse P (v, v)).2 = rootS l → (foldT (partsA m l.length).reverse P (v, v)).1 = rootS (l.take m)
  | 0, l, m, v, P, x, y, hk, h1, h2, hP, hl, hp, hv, hx, hy, hR, hF, he => by omega
  | k + 1, l, m, v, P, x, y, hk, h1, h2, hP, hl, hp, hv, hx, hy, hR, hF, he => by
    rcases Nat.lt_or_ge m l.length with h | h
    · have b2 : 2 ≤ l.length := by omega
      have a1 := half_pos b2
      have a2 := half_lt b2
      have a3 := half_ge b2
      have l1 : (l.take (half l.length)).length = half l.length := by rw [List.length_take]; omega
      have l2 : (l.drop (half l.length)).length = l.length - half l.length := List.length_drop
      have w1 : ∀ z ∈ l.take (half l.length), z.length = 32 := fun z hz => hl z (List.mem_of_mem_take hz)
      have w2 : ∀ z ∈ l.drop (half l.length), z.length = 32 := fun z hz => hl z (List.mem_of_mem_drop hz)
      rw [rootBk_two x b2] at hR
      have hsx := rootBk_isSome (half l.length) (l := l.take (half l.length)) (x := x) (by omega) hx
      have hnode := hR.node (rootBk_isSome (l.length) (l := l.drop (half l.length)) (by omega) hsx)
      have hRR := hR.of
      have hRL := bkIn.root (l.length) (l := l.drop (half l.length)) (by omega) hRR
      have step : ∀ (m' : Nat) (l' : List Sm) (a : Int), P.length = (partsA m' l'.length).length + 1 → ∃ Q p, P = Q ++ [p] ∧ Q.length = (partsA m' l'.length).length ∧ p.length = 32 ∧ ∀ z ∈ Q, z.length = 32 := fun m' l' a hlen => by
        have hne : P ≠ [] := fun h0 => by rw [h0] at hlen; simp at hlen
        refine ⟨P.dropLast, P.getLast hne, (List.dropLast_concat_getLast hne).symm, ?_, hp _ (List.getLast_mem hne), fun z hz => hp z (List.dropLast_subset _ hz)⟩
        rw [List.length_dropLast, hlen]
        rfl
      by_cases hm : m ≤ half l.length
      · rw [partsA_left h hm] at hP hF he ⊢
        rw [List.length_cons] at hP
        obtain ⟨Q, p, rfl, hQ, hp32, hQ32⟩ := step m (l.take (half l.length)) 1 (by rw [l1]; exact hP)
        rw [l1] at hQ
        rw [List.reverse_cons, foldB_append _ _ _ _ _ _ (by rw [List.length_reverse, hQ])] at hF
        rw [List.reverse_cons, foldT_append _ _ _ _ _ (by rw [List.length_reverse, hQ])] at he ⊢
        have hlen := foldT_len (A := (partsA m (half l.length)).reverse) (P := Q) (s := (v, v)) hv hv
        simp only [foldB, foldT, if_true] at hF he ⊢
        rw [rootS_two b2] at he
        have hs := foldB_isSome (A := (partsA m (half l.length)).reverse) (P := Q) (s := (v, v)) hy
        have hb := hN.node (hF.node hs) hnode he hlen.2 hp32 (rootS_len w1) (rootS_len w2)
        have ih := tells_binds hN k (l := l.take (half l.length)) (m := m) (v := v) (P := Q) (x := x) (y := y) (by omega) h1 (by omega) (by rw [l1]; exact hQ) w1 hQ32 hv hx hy hRL (by rw [l1]; exact hF.of) (by rw [l1]; exact hb.1)
        rw [l1] at ih
        rw [ih, List.take_take, Nat.min_eq_left hm]
      · rw [partsA_right h hm] at hP hF he ⊢
        rw [List.length_cons] at hP
        obtain ⟨Q, p, rfl, hQ, hp32, hQ32⟩ := step (m - half l.length) (l.drop (half l.length)) 0 (by rw [l2]; exact hP)
        rw [l2] at hQ
        rw [List.reverse_cons, foldB_append _ _ _ _ _ _ (by rw [List.length_reverse, hQ])] at hF
        rw [List.reverse_cons, foldT_append _ _ _ _ _ (by rw [List.length_reverse, hQ])] at he ⊢
        have hlen := foldT_len (A := (partsA (m - half l.length) (l.length - half l.length)).reverse) (P := Q) (s := (v, v)) hv hv
        have h01 : ¬ ((0 : Int) = 1) := by decide
        simp only [foldB, foldT, if_neg h01] at hF he ⊢
        rw [rootS_two b2] at he
        have hs := foldB_isSome (A := (partsA (m - half l.length) (l.length - half l.length)).reverse) (P := Q) (s := (v, v)) hy
        have hb := hN.node (hF.node (bookOf_isSome hs)) hnode he hp32 hlen.2 (rootS_len w1) (rootS_len w2)
        have ih := tells_binds hN k (l := l.drop (half l.length)) (m := m - half l.length) (v := v) (P := Q) (x := rootBk x (l.take (half l.length))) (y := y) (by omega) (by omega) (by omega) (by rw [l2]; exact hQ) w2 hQ32 hv hsx hy hRR (by rw [l2]; exact hF.of.of) (by rw [l2]; exact hb.2)
        rw [l2] at ih
        have hlm : (l.take m).length = m := by rw [List.length_take]; omega
        have hh : half m = half l.length := half_same (by omega) (by omega) b2
        rw [ih, hb.1, rootS_two (l := l.take m) (by omega), hlm, hh, List.take_take, Nat.min_eq_left (by omega), List.drop_take]
    · have e : l.take m = l := List.take_of_length_le h
      rw [partsA_end (by omega)] at he ⊢
      rw [e, ← he]
      rfl
/-- notes that are not great -/
def smallB (x : BookA) : Prop := ∀ y, x = some y → ∀ z ∈ y.1, z.2.length ≤ 200
theorem smallB.of {x : BookA} {k : Int} {p : List (List UInt8)} (h : smallB x) (hp : blobRoom p ≤ 199) : smallB (bookOf x k p) := fun y hy z hz => by
  cases x with
  | none => cases hy
  | some u =>
    cases hy
    rcases addL_mem hz with hz | hz
    · exact h u rfl z hz
    · rw [hz]
      have := preimage_len k (l := p) (by omega)
      exact Nat.le_trans this (by omega)
theorem room2 {a b : Sm} (ha : a.length = 32) (hb : b.length = 32) : blobRoom [a, b] ≤ 199 := by simp [blobRoom, ha, hb]
theorem smallB.root : ∀ (k : Nat) {l : List Sm} {x : BookA}, l.length ≤ k → (∀ z ∈ l, z.length = 32) → smallB x → smallB (rootBk x l)
  | 0, l, x, hk, hl, h => by
    obtain rfl : l = [] := List.length_eq_zero_iff.1 (by omega)
    rw [rootBk_nil]; exact h.of (by simp [blobRoom])
  | k + 1, l, x, hk, hl, h => by
    rcases Nat.lt_or_ge l.length 2 with h2 | h2
    · match l, h2 with
      | [], _ => rw [rootBk_nil]; exact h.of (by simp [blobRoom])
      | [a], _ => rw [rootBk_one]; exact h
    · have a1 := half_pos h2
      have a2 := half_lt h2
      have w1 : ∀ z ∈ l.take (half l.length), z.length = 32 := fun z hz => hl z (List.mem_of_mem_take hz)
      have w2 : ∀ z ∈ l.drop (half l.length), z.length = 32 := fun z hz => hl z (List.mem_of_mem_drop hz)
      rw [rootBk_two x h2]
      exact (smallB.root k (by simp only [List.length_drop]; omega) w2 (smallB.root k (by simp only [List.length_take]; omega) w1 h)).of (room2 (rootS_len w1) (rootS_len w2))
theorem smallB.fold : ∀ {A : List Int} {P : List Sm} {s : Sm × Sm} {x : BookA}, s.1.length = 32 → s.2.length = 32 → (∀ z ∈ P, z.length = 32) → smallB x → smallB (foldB A P s x)
  | [], P, s, x, _, _, _, h => by simpa [foldB] using h
  | _ :: _, [], s, x, _, _, _, h => by simpa [foldB] using h
  | a :: A, p :: P, s, x, h1, h2, hP, h => by
    have hp := hP p (by simp)
    have hP' : ∀ z ∈ P, z.length = 32 := fun z hz => hP z (by simp [hz])
    simp only [foldB]
    split
    · exact smallB.fold h1 (sealOf_len _ _) hP' (h.of (room2 h2 hp))
    · exact smallB.fold (sealOf_len _ _) (sealOf_len _ _) hP' ((h.of (room2 hp h1)).of (room2 hp h2))
theorem bookUpto.fold : ∀ {A : List Int} {P : List Sm} {s : Sm × Sm} {x : BookA} {n : Nat}, bookUpto x (n + 2 * P.length) → bookUpto (foldB A P s x) n
  | [], P, s, x, n, h => by simp only [foldB]; exact h.le (by omega)
  | _ :: _, [], s, x, n, h => by simp only [foldB]; exact h.le (by omega)
  | a :: A, p :: P, s, x, n, h => by
    simp only [foldB]
    refine bookUpto.fold ?_
    have h' : bookUpto x (n + 2 * P.length + 1 + 1) := h.le (by simp only [List.length_cons]; omega)
    split
    · exact (h'.le (by omega) : bookUpto x (n + 2 * P.length + 1)).of _ _
    · exact (h'.of _ _).of _ _
/-- what Clash tells of three books -/
theorem clash_three (a b c : List Nt × Int) : ((clashA [frzB (some a), frzB (some b), frzB (some c)]).2.2 = true → (clashA [frzB (some a), frzB (some b), frzB (some c)]).1 ≠ (clashA [frzB (some a), frzB (some b), frzB (some c)]).2.1) ∧
    ((clashA [frzB (some a), frzB (some b), frzB (some c)]).2.2 = false → NoClash (a.1 ++ (b.1 ++ c.1))) := by
  have e : notesF [frzB (some a), frzB (some b), frzB (some c)] = a.1 ++ (b.1 ++ c.1) := by simp [notesF, frzB]
  have h := clashL_spec (a.1 ++ (b.1 ++ c.1)) [] (fun s x y h => by simp at h)
  unfold clashA
  rw [e]
  simpa using h
/-- an old root that is told beside a list's root -/
theorem extends_binds {l : List Sm} {m : Int} {old : Sm} {P : List Sm} {x y : BookA} {N : List Nt} (hN : NoClash N) (hm : m ≤ (l.length : Int)) (hl : ∀ z ∈ l, z.length = 32) (hP : ∀ z ∈ P, z.length = 32) (ho : old.length = 32) (hx : x.isSome = true) (hy : y.isSome = true) (hR : bkIn N (rootBk x l)) (hF : bkIn N (extendsBk y m (l.length : Int) old P)) (he : extendsB m (l.length : Int) old (rootS l) P = true) : old = rootS (l.take m.toNat) := by
  unfold extendsB at he
  split at he
  · cases he
  · rename_i hc
    have hc1 : 0 ≤ m := by
      apply Classical.byContradiction
      intro h
      exact hc (.inl (by omega))
    have hst : (P.length : Int) = stepsN m.toNat l.length := by
      apply Classical.byContradiction
      intro h
      exact hc (.inr (.inr (by simpa using h)))
    split at he
    · rename_i hm0
      have h1 := of_decide_eq_true he
      rw [h1.1, hm0]
      show _ = rootS (l.take 0)
      rw [List.take_zero, rootS_nil]
    · rename_i hm0
      have h1 := of_decide_eq_true he
      have hF' : bkIn N (foldB (partsA m.toNat l.length).reverse (restT (partsL m.toNat l.length 1).2.2 P) (begT (partsL m.toNat l.length 1).2.2 old P) y) := by
        have e : extendsBk y m (l.length : Int) old P = foldB (partsA m.toNat l.length).reverse (restT (partsL m.toNat l.length 1).2.2 P) (begT (partsL m.toNat l.length 1).2.2 old P) y := by
          unfold extendsBk
          rw [if_neg hc, if_neg hm0]
          rfl
        rw [← e]
        exact hF
      have h1' : foldT (partsA m.toNat l.length).reverse (restT (partsL m.toNat l.length 1).2.2 P) (begT (partsL m.toNat l.length 1).2.2 old P) = (old, rootS l) := h1
      have hw := partsL_w l.length (m := m.toNat) (n := l.length) (w := 1) (Nat.le_refl _) (.inr rfl)
      have hs2 : stepsN m.toNat l.length = ((partsA m.toNat l.length).length : Int) + 1 - (partsL m.toNat l.length 1).2.2 := by
        unfold stepsN
        rw [if_pos (by omega)]
      rw [hs2] at hst
      have fin : ∀ (v : Sm) (Q : List Sm), Q.length = (partsA m.toNat l.length).length → (∀ z ∈ Q, z.length = 32) → v.length = 32 → bkIn N (foldB (partsA m.toNat l.length).reverse Q (v, v) y) → foldT (partsA m.toNat l.length).reverse Q (v, v) = (old, rootS l) → old = rootS (l.take m.toNat) := fun v Q q1 q2 q3 q4 q5 => by
        have := tells_binds hN l.length (l := l) (m := m.toNat) (v := v) (P := Q) (x := x) (y := y) (Nat.le_refl _) (by omega) (by omega) q1 hl q2 q3 hx hy hR q4 (by rw [q5])
        rw [q5] at this
        exact this
      rcases hw with hw | hw
      · rw [hw] at hst hF' h1'
        have hne : 0 < P.length := by omega
        refine fin (ix P 0) (P.drop 1) (by rw [List.length_drop]; omega) (fun z hz => hP z (List.mem_of_mem_drop hz)) ?_ hF' h1'
        have : ix P ((0 : Nat) : Int) = P[0] := ixN hne
        rw [show ix P 0 = P[0] from this]
        exact hP _ (List.getElem_mem hne)
      · rw [hw] at hst hF' h1'
        exact fin old P (by omega) hP ho hF' h1'
end Go.Inc

/- Each function that stands here: what it is asked and leaves (_C), its condition (_VC), that it holds (_ok), its contract (_c). -/
set_option linter.unusedVariables false
set_option maxRecDepth 100000
set_option maxHeartbeats 20000000
namespace Go.Proofs.Ytkffegaofdpkiaa
open Go Go.RowKit Go.Inc
noncomputable def fiveF_C : Ctr := ⟨[], [.ow 31 (.arr 32 .byte)], none, fun _ => ((fiveO, ()), (()))⟩
noncomputable def fiveF_X : Fx := ⟨seat, some bkT, fns, [], [], [], []⟩
def fiveF_VC (Q : (List (List UInt8)) → Prop) : Prop :=
  Q ((toB (1 : Int) :: ([] : List UInt8) ++ List.replicate ((32 : Nat) - (((0 : Nat), Operand.const (Value.int IntKind.u8 (1 : Int))) :: ([] : List (Nat × Operand))).toArray.toList.length) Ty.byte.kd.z) :: (toB (2 : Int) :: ([] : List UInt8) ++ List.replicate ((32 : Nat) - (((0 : Nat), Operand.const (Value.int IntKind.u8 (2 : Int))) :: ([] : List (Nat × Operand))).toArray.toList.length) Ty.byte.kd.z) :: (toB (3 : Int) :: ([] : List UInt8) ++ List.replicate ((32 : Nat) - (((0 : Nat), Operand.const (Value.int IntKind.u8 (3 : Int))) :: ([] : List (Nat × Operand))).toArray.toList.length) Ty.byte.kd.z) :: (toB (4 : Int) :: ([] : List UInt8) ++ List.replicate ((32 : Nat) - (((0 : Nat), Operand.const (Value.int IntKind.u8 (4 : Int))) :: ([] : List (Nat × Operand))).toArray.toList.length) Ty.byte.kd.z) :: (toB (5 : Int) :: ([] : List UInt8) ++ List.replicate ((32 : Nat) - (((0 : Nat), Operand.const (Value.int IntKind.u8 (5 : Int))) :: ([] : List (Nat × Operand))).toArray.toList.length) Ty.byte.kd.z) :: ([] : List (List UInt8)))
theorem fiveF_ok  : fiveF_VC  (fun o0 => o0 = fiveO) := by
  unfold fiveF_VC
  rw [fiveO_eq]
  rfl
theorem fiveF_eq : (∀ a, fiveF_C.pre a → PM.wfP fiveF_C.pm a (fvc fiveF_X 200 49 fiveF_C a (eqO fiveF_C a))) = (∀ a : Unit, True → fiveF_VC  (fun o0 => o0 = fiveO)) := by kernel_rfl
theorem fiveF_k : fiveF_C.valid Try.prog 49 := ctr_of (X := fiveF_X) (ok_of seat_ok (fun b hb => by cases hb; exact bkT_ok) fns_ok trivial) 200 (fiveF_eq.mpr fun a hp  => @fiveF_ok )
noncomputable def awake5_C : Ctr := ⟨[], [.v .bool], none, fun _ => ((true, ()), (()))⟩
noncomputable def awake5_X : Fx := ⟨seat, some bkT, fns, [(49, fiveF_C), (33, BetweenO_C), (33, BetweenR_C), (25, RootN_C), (25, Root_C), (35, Steps_C), (37, ExtendsN_C), (37, Extends_C)], [], [], [(3, [0, 1, 2, 3, 4, 5, 6, 7, 8, 9, 10, 11, 12], [.o 0 2, .o 2 2, .o 3 2, .par [1, 4, 5, 6] (.alt 1 0 (.alt 4 0 (.alt 5 0 (.one 6 0 .fin) (.alt 6 0 (.one 5 0 .fin) .fin)) (.alt 5 0 (.alt 4 0 (.one 6 0 .fin) (.alt 6 0 (.one 4 0 .fin) .fin)) (.alt 6 0 (.alt 4 0 (.one 5 0 .fin) (.alt 5 0 (.one 4 0 .fin) .fin)) .fin))) (.alt 5 0 (.alt 1 0 (.alt 4 0 (.one 6 0 .fin) (.alt 6 0 (.one 4 0 .fin) .fin)) (.alt 6 0 (.one 1 0 (.one 4 0 .fin)) .fin)) (.alt 6 0 (.alt 1 0 (.alt 4 0 (.one 5 0 .fin) (.alt 5 0 (.one 4 0 .fin) .fin)) (.alt 5 0 (.one 1 0 (.one 4 0 .fin)) .fin)) .fin))), .o 7 1, .o 8 1]), (4, [], [.o 0 0, .o 1 2, .o 2 2, .o 3 0, .o 4 2, .o 5 2, .o 6 2, .o 7 0, .o 8 2, .o 9 2, .o 10 2, .o 11 0, .o 12 2, .o 13 2, .o 14 2, .o 15 2, .o 16 2, .o 17 2, .o 18 2, .o 19 2, .o 20 2, .o 21 2, .o 22 2, .o 23 2, .o 24 2, .o 25 2, .o 26 2, .o 27 2, .o 28 2, .o 29 2, .o 30 2, .o 31 2, .o 32 2, .o 33 2, .o 34 2, .o 35 2, .o 36 2, .o 37 2, .o 38 2, .o 39 2, .o 40 2, .o 41 2, .o 42 2, .o 43 2, .o 44 2, .o 45 2, .o 46 2, .o 47 2, .o 48 2, .o 49 2, .o 50 2, .o 51 2, .o 52 2, .o 53 2, .o 54 2, .o 55 0, .o 56 2, .o 57 2, .o 58 2, .o 59 2, .o 60 2, .o 61 2, .o 62 0, .o 63 2, .o 64 2, .o 65 2, .o 67 2, .o 66 0, .o 68 0, .o 69 2, .o 70 2, .o 71 2, .o 72 2, .o 73 2, .o 74 0, .o 75 2, .o 76 2, .o 77 2])]⟩
def awake5_VC (Q : Bool → Prop) : Prop :=
  (Ty.arr (32 : Nat) Ty.byte).kd.sl.wf fiveO → fiveO.length ≤ (1048576 : Nat) ∧ ((Ty.arr (32 : Nat) Ty.byte).kd.sl.wf (betwN fiveO (3 : Int)) → fiveO.length ≤ (1048576 : Nat) ∧ ((Ty.arr (32 : Nat) Ty.byte).kd.sl.wf (betwN fiveO (4 : Int)) → ((0 : Int) ≤ (4 : Int) ∧ (4 : Int) ≤ (fiveO.length : Int)) ∧ (fiveO.length ≤ (1048576 : Nat) ∧ ((Ty.arr (32 : Nat) Ty.byte).kd.wf (rootS fiveO) → ((List.take (Int.toNat (4 : Int)) fiveO).length ≤ (1048576 : Nat) ∧ ((Ty.arr (32 : Nat) Ty.byte).kd.wf (rootS (List.take (Int.toNat (4 : Int)) fiveO)) → ((Ty.int IntKind.i64).kd.wf (stepsN (Int.toNat (3 : Int)) (Int.toNat (5 : Int))) → (stepsN (Int.toNat (3 : Int)) (Int.toNat (5 : Int)) = (4 : Int) → (Ty.int IntKind.i64).kd.wf (stepsN (Int.toNat (4 : Int)) (Int.toNat (5 : Int))) → (stepsN (Int.toNat (4 : Int)) (Int.toNat (5 : Int)) = (1 : Int) → (Ty.int IntKind.i64).kd.wf (stepsN (Int.toNat (5 : Int)) (Int.toNat (5 : Int))) → (stepsN (Int.toNat (5 : Int)) (Int.toNat (5 : Int)) = (0 : Int) → (Ty.int IntKind.i64).kd.wf (stepsN (Int.toNat (0 : Int)) (Int.toNat (5 : Int))) → (stepsN (Int.toNat (0 : Int)) (Int.toNat (5 : Int)) = (0 : Int) → (((betwN fiveO (3 : Int)).length : Int) = (4 : Int) → ((0 : Int) ≤ (0 : Int) ∧ (0 : Int) < ((betwN fiveO (3 : Int)).length : Int)) ∧ ((0 : Int) ≤ (2 : Int) ∧ (2 : Int) < (fiveO.length : Int)) ∧ (ix (betwN fiveO (3 : Int)) (0 : Int) = ix fiveO (2 : Int) → ((0 : Int) ≤ (3 : Int) ∧ (3 : Int) < ((betwN fiveO (3 : Int)).length : Int)) ∧ ((0 : Int) ≤ (4 : Int) ∧ (4 : Int) < (fiveO.length : Int)) ∧ (ix (betwN fiveO (3 : Int)) (3 : Int) = ix fiveO (4 : Int) → (((betwN fiveO (4 : Int)).length : Int) = (1 : Int) → ((0 : Int) ≤ (0 : Int) ∧ (0 : Int) < ((betwN fiveO (4 : Int)).length : Int)) ∧ ((0 : Int) ≤ (4 : Int) ∧ (4 : Int) < (fiveO.length : Int)) ∧ (ix (betwN fiveO (4 : Int)) (0 : Int) = ix fiveO (4 : Int) → (betwN fiveO (4 : Int)).length ≤ (65536 : Nat) ∧ ((Ty.int IntKind.i64).kd.wf (if extendsB (4 : Int) (5 : Int) (rootS (List.take (Int.toNat (4 : Int)) fiveO)) (rootS fiveO) (betwN fiveO (4 : Int)) = true then (0 : Int) else (10 : Int)) → ((if extendsB (4 : Int) (5 : Int) (rootS (List.take (Int.toNat (4 : Int)) fiveO)) (rootS fiveO) (betwN fiveO (4 : Int)) = true then (0 : Int) else (10 : Int)) = (0 : Int) → (betwN fiveO (4 : Int)).length ≤ (65536 : Nat) ∧ ((Ty.int IntKind.i64).kd.wf (if extendsB (4 : Int) (5 : Int) (rootS fiveO) (rootS fiveO) (betwN fiveO (4 : Int)) = true then (0 : Int) else (10 : Int)) → ((if extendsB (4 : Int) (5 : Int) (rootS fiveO) (rootS fiveO) (betwN fiveO (4 : Int)) = true then (0 : Int) else (10 : Int)) = (10 : Int) → ([] : List (List UInt8)).length ≤ (1048576 : Nat) ∧ ((Ty.arr (32 : Nat) Ty.byte).kd.wf (rootS ([] : List (List UInt8))) → ([] : List (List UInt8)).length ≤ (65536 : Nat) ∧ ((Ty.int IntKind.i64).kd.wf (if extendsB (0 : Int) (5 : Int) (rootS ([] : List (List UInt8))) (rootS fiveO) ([] : List (List UInt8)) = true then (0 : Int) else (10 : Int)) → ((if extendsB (0 : Int) (5 : Int) (rootS ([] : List (List UInt8))) (rootS fiveO) ([] : List (List UInt8)) = true then (0 : Int) else (10 : Int)) = (0 : Int) → ([] : List (List UInt8)).length ≤ (65536 : Nat) ∧ ((Ty.int IntKind.i64).kd.wf (if extendsB (6 : Int) (5 : Int) (rootS (List.take (Int.toNat (4 : Int)) fiveO)) (rootS fiveO) ([] : List (List UInt8)) = true then (0 : Int) else (10 : Int)) → Q (decide ((if extendsB (6 : Int) (5 : Int) (rootS (List.take (Int.toNat (4 : Int)) fiveO)) (rootS fiveO) ([] : List (List UInt8)) = true then (0 : Int) else (10 : Int)) = (10 : Int))))) ∧ (¬(if extendsB (0 : Int) (5 : Int) (rootS ([] : List (List UInt8))) (rootS fiveO) ([] : List (List UInt8)) = true then (0 : Int) else (10 : Int)) = (0 : Int) → Q false)))) ∧ (¬(if extendsB (4 : Int) (5 : Int) (rootS fiveO) (rootS fiveO) (betwN fiveO (4 : Int)) = true then (0 : Int) else (10 : Int)) = (10 : Int) → Q false))) ∧ (¬(if extendsB (4 : Int) (5 : Int) (rootS (List.take (Int.toNat (4 : Int)) fiveO)) (rootS fiveO) (betwN fiveO (4 : Int)) = true then (0 : Int) else (10 : Int)) = (0 : Int) → Q false))) ∧ (¬ix (betwN fiveO (4 : Int)) (0 : Int) = ix fiveO (4 : Int) → Q false)) ∧ (¬((betwN fiveO (4 : Int)).length : Int) = (1 : Int) → Q false)) ∧ (¬ix (betwN fiveO (3 : Int)) (3 : Int) = ix fiveO (4 : Int) → Q false)) ∧ (¬ix (betwN fiveO (3 : Int)) (0 : Int) = ix fiveO (2 : Int) → Q false)) ∧ (¬((betwN fiveO (3 : Int)).length : Int) = (4 : Int) → Q false)) ∧ (¬stepsN (Int.toNat (0 : Int)) (Int.toNat (5 : Int)) = (0 : Int) → Q false)) ∧ (¬stepsN (Int.toNat (5 : Int)) (Int.toNat (5 : Int)) = (0 : Int) → Q false)) ∧ (¬stepsN (Int.toNat (4 : Int)) (Int.toNat (5 : Int)) = (1 : Int) → Q false)) ∧ (¬stepsN (Int.toNat (3 : Int)) (Int.toNat (5 : Int)) = (4 : Int) → Q false)) ∧ ((Ty.int IntKind.i64).kd.wf (stepsN (Int.toNat (3 : Int)) (Int.toNat (5 : Int))) → (stepsN (Int.toNat (3 : Int)) (Int.toNat (5 : Int)) = (4 : Int) → (Ty.int IntKind.i64).kd.wf (stepsN (Int.toNat (4 : Int)) (Int.toNat (5 : Int))) → (stepsN (Int.toNat (4 : Int)) (Int.toNat (5 : Int)) = (1 : Int) → (Ty.int IntKind.i64).kd.wf (stepsN (Int.toNat (5 : Int)) (Int.toNat (5 : Int))) → (stepsN (Int.toNat (5 : Int)) (Int.toNat (5 : Int)) = (0 : Int) → (Ty.int IntKind.i64).kd.wf (stepsN (Int.toNat (0 : Int)) (Int.toNat (5 : Int))) → (stepsN (Int.toNat (0 : Int)) (Int.toNat (5 : Int)) = (0 : Int) → (((betwN fiveO (3 : Int)).length : Int) = (4 : Int) → ((0 : Int) ≤ (0 : Int) ∧ (0 : Int) < ((betwN fiveO (3 : Int)).length : Int)) ∧ ((0 : Int) ≤ (2 : Int) ∧ (2 : Int) < (fiveO.length : Int)) ∧ (ix (betwN fiveO (3 : Int)) (0 : Int) = ix fiveO (2 : Int) → ((0 : Int) ≤ (3 : Int) ∧ (3 : Int) < ((betwN fiveO (3 : Int)).length : Int)) ∧ ((0 : Int) ≤ (4 : Int) ∧ (4 : Int) < (fiveO.length : Int)) ∧ (ix (betwN fiveO (3 : Int)) (3 : Int) = ix fiveO (4 : Int) → (((betwN fiveO (4 : Int)).length : Int) = (1 : Int) → ((0 : Int) ≤ (0 : Int) ∧ (0 : Int) < ((betwN fiveO (4 : Int)).length : Int)) ∧ ((0 : Int) ≤ (4 : Int) ∧ (4 : Int) < (fiveO.length : Int)) ∧ (ix (betwN fiveO (4 : Int)) (0 : Int) = ix fiveO (4 : Int) → (betwN fiveO (4 : Int)).length ≤ (65536 : Nat) ∧ ((Ty.int IntKind.i64).kd.wf (if extendsB (4 : Int) (5 : Int) (rootS (List.take (Int.toNat (4 : Int)) fiveO)) (rootS fiveO) (betwN fiveO (4 : Int)) = true then (0 : Int) else (10 : Int)) → ((if extendsB (4 : Int) (5 : Int) (rootS (List.take (Int.toNat (4 : Int)) fiveO)) (rootS fiveO) (betwN fiveO (4 : Int)) = true then (0 : Int) else (10 : Int)) = (0 : Int) → (betwN fiveO (4 : Int)).length ≤ (65536 : Nat) ∧ ((Ty.int IntKind.i64).kd.wf (if extendsB (4 : Int) (5 : Int) (rootS fiveO) (rootS fiveO) (betwN fiveO (4 : Int)) = true then (0 : Int) else (10 : Int)) → ((if extendsB (4 : Int) (5 : Int) (rootS fiveO) (rootS fiveO) (betwN fiveO (4 : Int)) = true then (0 : Int) else (10 : Int)) = (10 : Int) → ([] : List (List UInt8)).length ≤ (1048576 : Nat) ∧ ((Ty.arr (32 : Nat) Ty.byte).kd.wf (rootS ([] : List (List UInt8))) → ([] : List (List UInt8)).length ≤ (65536 : Nat) ∧ ((Ty.int IntKind.i64).kd.wf (if extendsB (0 : Int) (5 : Int) (rootS ([] : List (List UInt8))) (rootS fiveO) ([] : List (List UInt8)) = true then (0 : Int) else (10 : Int)) → ((if extendsB (0 : Int) (5 : Int) (rootS ([] : List (List UInt8))) (rootS fiveO) ([] : List (List UInt8)) = true then (0 : Int) else (10 : Int)) = (0 : Int) → ([] : List (List UInt8)).length ≤ (65536 : Nat) ∧ ((Ty.int IntKind.i64).kd.wf (if extendsB (6 : Int) (5 : Int) (rootS (List.take (Int.toNat (4 : Int)) fiveO)) (rootS fiveO) ([] : List (List UInt8)) = true then (0 : Int) else (10 : Int)) → Q (decide ((if extendsB (6 : Int) (5 : Int) (rootS (List.take (Int.toNat (4 : Int)) fiveO)) (rootS fiveO) ([] : List (List UInt8)) = true then (0 : Int) else (10 : Int)) = (10 : Int))))) ∧ (¬(if extendsB (0 : Int) (5 : Int) (rootS ([] : List (List UInt8))) (rootS fiveO) ([] : List (List UInt8)) = true then (0 : Int) else (10 : Int)) = (0 : Int) → Q false)))) ∧ (¬(if extendsB (4 : Int) (5 : Int) (rootS fiveO) (rootS fiveO) (betwN fiveO (4 : Int)) = true then (0 : Int) else (10 : Int)) = (10 : Int) → Q false))) ∧ (¬(if extendsB (4 : Int) (5 : Int) (rootS (List.take (Int.toNat (4 : Int)) fiveO)) (rootS fiveO) (betwN fiveO (4 : Int)) = true then (0 : Int) else (10 : Int)) = (0 : Int) → Q false))) ∧ (¬ix (betwN fiveO (4 : Int)) (0 : Int) = ix fiveO (4 : Int) → Q false)) ∧ (¬((betwN fiveO (4 : Int)).length : Int) = (1 : Int) → Q false)) ∧ (¬ix (betwN fiveO (3 : Int)) (3 : Int) = ix fiveO (4 : Int) → Q false)) ∧ (¬ix (betwN fiveO (3 : Int)) (0 : Int) = ix fiveO (2 : Int) → Q false)) ∧ (¬((betwN fiveO (3 : Int)).length : Int) = (4 : Int) → Q false)) ∧ (¬stepsN (Int.toNat (0 : Int)) (Int.toNat (5 : Int)) = (0 : Int) → Q false)) ∧ (¬stepsN (Int.toNat (5 : Int)) (Int.toNat (5 : Int)) = (0 : Int) → Q false)) ∧ (¬stepsN (Int.toNat (4 : Int)) (Int.toNat (5 : Int)) = (1 : Int) → Q false)) ∧ (¬stepsN (Int.toNat (3 : Int)) (Int.toNat (5 : Int)) = (4 : Int) → Q false)) ∧ True)) ∧ (((List.take (Int.toNat (4 : Int)) fiveO).length ≤ (1048576 : Nat) ∧ ((Ty.arr (32 : Nat) Ty.byte).kd.wf (rootS (List.take (Int.toNat (4 : Int)) fiveO)) → (Ty.int IntKind.i64).kd.wf (stepsN (Int.toNat (3 : Int)) (Int.toNat (5 : Int))) → (stepsN (Int.toNat (3 : Int)) (Int.toNat (5 : Int)) = (4 : Int) → (Ty.int IntKind.i64).kd.wf (stepsN (Int.toNat (4 : Int)) (Int.toNat (5 : Int))) → (stepsN (Int.toNat (4 : Int)) (Int.toNat (5 : Int)) = (1 : Int) → (Ty.int IntKind.i64).kd.wf (stepsN (Int.toNat (5 : Int)) (Int.toNat (5 : Int))) → (stepsN (Int.toNat (5 : Int)) (Int.toNat (5 : Int)) = (0 : Int) → (Ty.int IntKind.i64).kd.wf (stepsN (Int.toNat (0 : Int)) (Int.toNat (5 : Int))) → (stepsN (Int.toNat (0 : Int)) (Int.toNat (5 : Int)) = (0 : Int) → (((betwN fiveO (3 : Int)).length : Int) = (4 : Int) → ((0 : Int) ≤ (0 : Int) ∧ (0 : Int) < ((betwN fiveO (3 : Int)).length : Int)) ∧ ((0 : Int) ≤ (2 : Int) ∧ (2 : Int) < (fiveO.length : Int)) ∧ (ix (betwN fiveO (3 : Int)) (0 : Int) = ix fiveO (2 : Int) → ((0 : Int) ≤ (3 : Int) ∧ (3 : Int) < ((betwN fiveO (3 : Int)).length : Int)) ∧ ((0 : Int) ≤ (4 : Int) ∧ (4 : Int) < (fiveO.length : Int)) ∧ (ix (betwN fiveO (3 : Int)) (3 : Int) = ix fiveO (4 : Int) → (((betwN fiveO (4 : Int)).length : Int) = (1 : Int) → ((0 : Int) ≤ (0 : Int) ∧ (0 : Int) < ((betwN fiveO (4 : Int)).length : Int)) ∧ ((0 : Int) ≤ (4 : Int) ∧ (4 : Int) < (fiveO.length : Int)) ∧ (ix (betwN fiveO (4 : Int)) (0 : Int) = ix fiveO (4 : Int) → (betwN fiveO (4 : Int)).length ≤ (65536 : Nat) ∧ ((Ty.int IntKind.i64).kd.wf (if extendsB (4 : Int) (5 : Int) (rootS (List.take (Int.toNat (4 : Int)) fiveO)) (rootS fiveO) (betwN fiveO (4 : Int)) = true then (0 : Int) else (10 : Int)) → ((if extendsB (4 : Int) (5 : Int) (rootS (List.take (Int.toNat (4 : Int)) fiveO)) (rootS fiveO) (betwN fiveO (4 : Int)) = true then (0 : Int) else (10 : Int)) = (0 : Int) → (betwN fiveO (4 : Int)).length ≤ (65536 : Nat) ∧ ((Ty.int IntKind.i64).kd.wf (if extendsB (4 : Int) (5 : Int) (rootS fiveO) (rootS fiveO) (betwN fiveO (4 : Int)) = true then (0 : Int) else (10 : Int)) → ((if extendsB (4 : Int) (5 : Int) (rootS fiveO) (rootS fiveO) (betwN fiveO (4 : Int)) = true then (0 : Int) else (10 : Int)) = (10 : Int) → ([] : List (List UInt8)).length ≤ (1048576 : Nat) ∧ ((Ty.arr (32 : Nat) Ty.byte).kd.wf (rootS ([] : List (List UInt8))) → ([] : List (List UInt8)).length ≤ (65536 : Nat) ∧ ((Ty.int IntKind.i64).kd.wf (if extendsB (0 : Int) (5 : Int) (rootS ([] : List (List UInt8))) (rootS fiveO) ([] : List (List UInt8)) = true then (0 : Int) else (10 : Int)) → ((if extendsB (0 : Int) (5 : Int) (rootS ([] : List (List UInt8))) (rootS fiveO) ([] : List (List UInt8)) = true then (0 : Int) else (10 : Int)) = (0 : Int) → ([] : List (List UInt8)).length ≤ (65536 : Nat) ∧ ((Ty.int IntKind.i64).kd.wf (if extendsB (6 : Int) (5 : Int) (rootS (List.take (Int.toNat (4 : Int)) fiveO)) (rootS fiveO) ([] : List (List UInt8)) = true then (0 : Int) else (10 : Int)) → Q (decide ((if extendsB (6 : Int) (5 : Int) (rootS (List.take (Int.toNat (4 : Int)) fiveO)) (rootS fiveO) ([] : List (List UInt8)) = true then (0 : Int) else (10 : Int)) = (10 : Int))))) ∧ (¬(if extendsB (0 : Int) (5 : Int) (rootS ([] : List (List UInt8))) (rootS fiveO) ([] : List (List UInt8)) = true then (0 : Int) else (10 : Int)) = (0 : Int) → Q false)))) ∧ (¬(if extendsB (4 : Int) (5 : Int) (rootS fiveO) (rootS fiveO) (betwN fiveO (4 : Int)) = true then (0 : Int) else (10 : Int)) = (10 : Int) → Q false))) ∧ (¬(if extendsB (4 : Int) (5 : Int) (rootS (List.take (Int.toNat (4 : Int)) fiveO)) (rootS fiveO) (betwN fiveO (4 : Int)) = true then (0 : Int) else (10 : Int)) = (0 : Int) → Q false))) ∧ (¬ix (betwN fiveO (4 : Int)) (0 : Int) = ix fiveO (4 : Int) → Q false)) ∧ (¬((betwN fiveO (4 : Int)).length : Int) = (1 : Int) → Q false)) ∧ (¬ix (betwN fiveO (3 : Int)) (3 : Int) = ix fiveO (4 : Int) → Q false)) ∧ (¬ix (betwN fiveO (3 : Int)) (0 : Int) = ix fiveO (2 : Int) → Q false)) ∧ (¬((betwN fiveO (3 : Int)).length : Int) = (4 : Int) → Q false)) ∧ (¬stepsN (Int.toNat (0 : Int)) (Int.toNat (5 : Int)) = (0 : Int) → Q false)) ∧ (¬stepsN (Int.toNat (5 : Int)) (Int.toNat (5 : Int)) = (0 : Int) → Q false)) ∧ (¬stepsN (Int.toNat (4 : Int)) (Int.toNat (5 : Int)) = (1 : Int) → Q false)) ∧ (¬stepsN (Int.toNat (3 : Int)) (Int.toNat (5 : Int)) = (4 : Int) → Q false))) ∧ ((List.take (Int.toNat (4 : Int)) fiveO).length ≤ (1048576 : Nat) ∧ ((Ty.arr (32 : Nat) Ty.byte).kd.wf (rootS (List.take (Int.toNat (4 : Int)) fiveO)) → (Ty.int IntKind.i64).kd.wf (stepsN (Int.toNat (3 : Int)) (Int.toNat (5 : Int))) → (stepsN (Int.toNat (3 : Int)) (Int.toNat (5 : Int)) = (4 : Int) → (Ty.int IntKind.i64).kd.wf (stepsN (Int.toNat (4 : Int)) (Int.toNat (5 : Int))) → (stepsN (Int.toNat (4 : Int)) (Int.toNat (5 : Int)) = (1 : Int) → (Ty.int IntKind.i64).kd.wf (stepsN (Int.toNat (5 : Int)) (Int.toNat (5 : Int))) → (stepsN (Int.toNat (5 : Int)) (Int.toNat (5 : Int)) = (0 : Int) → (Ty.int IntKind.i64).kd.wf (stepsN (Int.toNat (0 : Int)) (Int.toNat (5 : Int))) → (stepsN (Int.toNat (0 : Int)) (Int.toNat (5 : Int)) = (0 : Int) → (((betwN fiveO (3 : Int)).length : Int) = (4 : Int) → ((0 : Int) ≤ (0 : Int) ∧ (0 : Int) < ((betwN fiveO (3 : Int)).length : Int)) ∧ ((0 : Int) ≤ (2 : Int) ∧ (2 : Int) < (fiveO.length : Int)) ∧ (ix (betwN fiveO (3 : Int)) (0 : Int) = ix fiveO (2 : Int) → ((0 : Int) ≤ (3 : Int) ∧ (3 : Int) < ((betwN fiveO (3 : Int)).length : Int)) ∧ ((0 : Int) ≤ (4 : Int) ∧ (4 : Int) < (fiveO.length : Int)) ∧ (ix (betwN fiveO (3 : Int)) (3 : Int) = ix fiveO (4 : Int) → (((betwN fiveO (4 : Int)).length : Int) = (1 : Int) → ((0 : Int) ≤ (0 : Int) ∧ (0 : Int) < ((betwN fiveO (4 : Int)).length : Int)) ∧ ((0 : Int) ≤ (4 : Int) ∧ (4 : Int) < (fiveO.length : Int)) ∧ (ix (betwN fiveO (4 : Int)) (0 : Int) = ix fiveO (4 : Int) → (betwN fiveO (4 : Int)).length ≤ (65536 : Nat) ∧ ((Ty.int IntKind.i64).kd.wf (if extendsB (4 : Int) (5 : Int) (rootS (List.take (Int.toNat (4 : Int)) fiveO)) (rootS fiveO) (betwN fiveO (4 : Int)) = true then (0 : Int) else (10 : Int)) → ((if extendsB (4 : Int) (5 : Int) (rootS (List.take (Int.toNat (4 : Int)) fiveO)) (rootS fiveO) (betwN fiveO (4 : Int)) = true then (0 : Int) else (10 : Int)) = (0 : Int) → (betwN fiveO (4 : Int)).length ≤ (65536 : Nat) ∧ ((Ty.int IntKind.i64).kd.wf (if extendsB (4 : Int) (5 : Int) (rootS fiveO) (rootS fiveO) (betwN fiveO (4 : Int)) = true then (0 : Int) else (10 : Int)) → ((if extendsB (4 : Int) (5 : Int) (rootS fiveO) (rootS fiveO) (betwN fiveO (4 : Int)) = true then (0 : Int) else (10 : Int)) = (10 : Int) → ([] : List (List UInt8)).length ≤ (1048576 : Nat) ∧ ((Ty.arr (32 : Nat) Ty.byte).kd.wf (rootS ([] : List (List UInt8))) → ([] : List (List UInt8)).length ≤ (65536 : Nat) ∧ ((Ty.int IntKind.i64).kd.wf (if extendsB (0 : Int) (5 : Int) (rootS ([] : List (List UInt8))) (rootS fiveO) ([] : List (List UInt8)) = true then (0 : Int) else (10 : Int)) → ((if extendsB (0 : Int) (5 : Int) (rootS ([] : List (List UInt8))) (rootS fiveO) ([] : List (List UInt8)) = true then (0 : Int) else (10 : Int)) = (0 : Int) → ([] : List (List UInt8)).length ≤ (65536 : Nat) ∧ ((Ty.int IntKind.i64).kd.wf (if extendsB (6 : Int) (5 : Int) (rootS (List.take (Int.toNat (4 : Int)) fiveO)) (rootS fiveO) ([] : List (List UInt8)) = true then (0 : Int) else (10 : Int)) → Q (decide ((if extendsB (6 : Int) (5 : Int) (rootS (List.take (Int.toNat (4 : Int)) fiveO)) (rootS fiveO) ([] : List (List UInt8)) = true then (0 : Int) else (10 : Int)) = (10 : Int))))) ∧ (¬(if extendsB (0 : Int) (5 : Int) (rootS ([] : List (List UInt8))) (rootS fiveO) ([] : List (List UInt8)) = true then (0 : Int) else (10 : Int)) = (0 : Int) → Q false)))) ∧ (¬(if extendsB (4 : Int) (5 : Int) (rootS fiveO) (rootS fiveO) (betwN fiveO (4 : Int)) = true then (0 : Int) else (10 : Int)) = (10 : Int) → Q false))) ∧ (¬(if extendsB (4 : Int) (5 : Int) (rootS (List.take (Int.toNat (4 : Int)) fiveO)) (rootS fiveO) (betwN fiveO (4 : Int)) = true then (0 : Int) else (10 : Int)) = (0 : Int) → Q false))) ∧ (¬ix (betwN fiveO (4 : Int)) (0 : Int) = ix fiveO (4 : Int) → Q false)) ∧ (¬((betwN fiveO (4 : Int)).length : Int) = (1 : Int) → Q false)) ∧ (¬ix (betwN fiveO (3 : Int)) (3 : Int) = ix fiveO (4 : Int) → Q false)) ∧ (¬ix (betwN fiveO (3 : Int)) (0 : Int) = ix fiveO (2 : Int) → Q false)) ∧ (¬((betwN fiveO (3 : Int)).length : Int) = (4 : Int) → Q false)) ∧ (¬stepsN (Int.toNat (0 : Int)) (Int.toNat (5 : Int)) = (0 : Int) → Q false)) ∧ (¬stepsN (Int.toNat (5 : Int)) (Int.toNat (5 : Int)) = (0 : Int) → Q false)) ∧ (¬stepsN (Int.toNat (4 : Int)) (Int.toNat (5 : Int)) = (1 : Int) → Q false)) ∧ (¬stepsN (Int.toNat (3 : Int)) (Int.toNat (5 : Int)) = (4 : Int) → Q false))) ∧ True) ∧ (((List.take (Int.toNat (4 : Int)) fiveO).length ≤ (1048576 : Nat) ∧ ((Ty.arr (32 : Nat) Ty.byte).kd.wf (rootS (List.take (Int.toNat (4 : Int)) fiveO)) → (Ty.int IntKind.i64).kd.wf (stepsN (Int.toNat (3 : Int)) (Int.toNat (5 : Int))) → (stepsN (Int.toNat (3 : Int)) (Int.toNat (5 : Int)) = (4 : Int) → (Ty.int IntKind.i64).kd.wf (stepsN (Int.toNat (4 : Int)) (Int.toNat (5 : Int))) → (stepsN (Int.toNat (4 : Int)) (Int.toNat (5 : Int)) = (1 : Int) → (Ty.int IntKind.i64).kd.wf (stepsN (Int.toNat (5 : Int)) (Int.toNat (5 : Int))) → (stepsN (Int.toNat (5 : Int)) (Int.toNat (5 : Int)) = (0 : Int) → (Ty.int IntKind.i64).kd.wf (stepsN (Int.toNat (0 : Int)) (Int.toNat (5 : Int))) → (stepsN (Int.toNat (0 : Int)) (Int.toNat (5 : Int)) = (0 : Int) → (((betwN fiveO (3 : Int)).length : Int) = (4 : Int) → ((0 : Int) ≤ (0 : Int) ∧ (0 : Int) < ((betwN fiveO (3 : Int)).length : Int)) ∧ ((0 : Int) ≤ (2 : Int) ∧ (2 : Int) < (fiveO.length : Int)) ∧ (ix (betwN fiveO (3 : Int)) (0 : Int) = ix fiveO (2 : Int) → ((0 : Int) ≤ (3 : Int) ∧ (3 : Int) < ((betwN fiveO (3 : Int)).length : Int)) ∧ ((0 : Int) ≤ (4 : Int) ∧ (4 : Int) < (fiveO.length : Int)) ∧ (ix (betwN fiveO (3 : Int)) (3 : Int) = ix fiveO (4 : Int) → (((betwN fiveO (4 : Int)).length : Int) = (1 : Int) → ((0 : Int) ≤ (0 : Int) ∧ (0 : Int) < ((betwN fiveO (4 : Int)).length : Int)) ∧ ((0 : Int) ≤ (4 : Int) ∧ (4 : Int) < (fiveO.length : Int)) ∧ (ix (betwN fiveO (4 : Int)) (0 : Int) = ix fiveO (4 : Int) → (betwN fiveO (4 : Int)).length ≤ (65536 : Nat) ∧ ((Ty.int IntKind.i64).kd.wf (if extendsB (4 : Int) (5 : Int) (rootS (List.take (Int.toNat (4 : Int)) fiveO)) (rootS fiveO) (betwN fiveO (4 : Int)) = true then (0 : Int) else (10 : Int)) → ((if extendsB (4 : Int) (5 : Int) (rootS (List.take (Int.toNat (4 : Int)) fiveO)) (rootS fiveO) (betwN fiveO (4 : Int)) = true then (0 : Int) else (10 : Int)) = (0 : Int) → (betwN fiveO (4 : Int)).length ≤ (65536 : Nat) ∧ ((Ty.int IntKind.i64).kd.wf (if extendsB (4 : Int) (5 : Int) (rootS fiveO) (rootS fiveO) (betwN fiveO (4 : Int)) = true then (0 : Int) else (10 : Int)) → ((if extendsB (4 : Int) (5 : Int) (rootS fiveO) (rootS fiveO) (betwN fiveO (4 : Int)) = true then (0 : Int) else (10 : Int)) = (10 : Int) → ([] : List (List UInt8)).length ≤ (1048576 : Nat) ∧ ((Ty.arr (32 : Nat) Ty.byte).kd.wf (rootS ([] : List (List UInt8))) → ([] : List (List UInt8)).length ≤ (65536 : Nat) ∧ ((Ty.int IntKind.i64).kd.wf (if extendsB (0 : Int) (5 : Int) (rootS ([] : List (List UInt8))) (rootS fiveO) ([] : List (List UInt8)) = true then (0 : Int) else (10 : Int)) → ((if extendsB (0 : Int) (5 : Int) (rootS ([] : List (List UInt8))) (rootS fiveO) ([] : List (List UInt8)) = true then (0 : Int) else (10 : Int)) = (0 : Int) → ([] : List (List UInt8)).length ≤ (65536 : Nat) ∧ ((Ty.int IntKind.i64).kd.wf (if extendsB (6 : Int) (5 : Int) (rootS (List.take (Int.toNat (4 : Int)) fiveO)) (rootS fiveO) ([] : List (List UInt8)) = true then (0 : Int) else (10 : Int)) → Q (decide ((if extendsB (6 : Int) (5 : Int) (rootS (List.take (Int.toNat (4 : Int)) fiveO)) (rootS fiveO) ([] : List (List UInt8)) = true then (0 : Int) else (10 : Int)) = (10 : Int))))) ∧ (¬(if extendsB (0 : Int) (5 : Int) (rootS ([] : List (List UInt8))) (rootS fiveO) ([] : List (List UInt8)) = true then (0 : Int) else (10 : Int)) = (0 : Int) → Q false)))) ∧ (¬(if extendsB (4 : Int) (5 : Int) (rootS fiveO) (rootS fiveO) (betwN fiveO (4 : Int)) = true then (0 : Int) else (10 : Int)) = (10 : Int) → Q false))) ∧ (¬(if extendsB (4 : Int) (5 : Int) (rootS (List.take (Int.toNat (4 : Int)) fiveO)) (rootS fiveO) (betwN fiveO (4 : Int)) = true then (0 : Int) else (10 : Int)) = (0 : Int) → Q false))) ∧ (¬ix (betwN fiveO (4 : Int)) (0 : Int) = ix fiveO (4 : Int) → Q false)) ∧ (¬((betwN fiveO (4 : Int)).length : Int) = (1 : Int) → Q false)) ∧ (¬ix (betwN fiveO (3 : Int)) (3 : Int) = ix fiveO (4 : Int) → Q false)) ∧ (¬ix (betwN fiveO (3 : Int)) (0 : Int) = ix fiveO (2 : Int) → Q false)) ∧ (¬((betwN fiveO (3 : Int)).length : Int) = (4 : Int) → Q false)) ∧ (¬stepsN (Int.toNat (0 : Int)) (Int.toNat (5 : Int)) = (0 : Int) → Q false)) ∧ (¬stepsN (Int.toNat (5 : Int)) (Int.toNat (5 : Int)) = (0 : Int) → Q false)) ∧ (¬stepsN (Int.toNat (4 : Int)) (Int.toNat (5 : Int)) = (1 : Int) → Q false)) ∧ (¬stepsN (Int.toNat (3 : Int)) (Int.toNat (5 : Int)) = (4 : Int) → Q false))) ∧ ((List.take (Int.toNat (4 : Int)) fiveO).length ≤ (1048576 : Nat) ∧ ((Ty.arr (32 : Nat) Ty.byte).kd.wf (rootS (List.take (Int.toNat (4 : Int)) fiveO)) → (Ty.int IntKind.i64).kd.wf (stepsN (Int.toNat (3 : Int)) (Int.toNat (5 : Int))) → (stepsN (Int.toNat (3 : Int)) (Int.toNat (5 : Int)) = (4 : Int) → (Ty.int IntKind.i64).kd.wf (stepsN (Int.toNat (4 : Int)) (Int.toNat (5 : Int))) → (stepsN (Int.toNat (4 : Int)) (Int.toNat (5 : Int)) = (1 : Int) → (Ty.int IntKind.i64).kd.wf (stepsN (Int.toNat (5 : Int)) (Int.toNat (5 : Int))) → (stepsN (Int.toNat (5 : Int)) (Int.toNat (5 : Int)) = (0 : Int) → (Ty.int IntKind.i64).kd.wf (stepsN (Int.toNat (0 : Int)) (Int.toNat (5 : Int))) → (stepsN (Int.toNat (0 : Int)) (Int.toNat (5 : Int)) = (0 : Int) → (((betwN fiveO (3 : Int)).length : Int) = (4 : Int) → ((0 : Int) ≤ (0 : Int) ∧ (0 : Int) < ((betwN fiveO (3 : Int)).length : Int)) ∧ ((0 : Int) ≤ (2 : Int) ∧ (2 : Int) < (fiveO.length : Int)) ∧ (ix (betwN fiveO (3 : Int)) (0 : Int) = ix fiveO (2 : Int) → ((0 : Int) ≤ (3 : Int) ∧ (3 : Int) < ((betwN fiveO (3 : Int)).length : Int)) ∧ ((0 : Int) ≤ (4 : Int) ∧ (4 : Int) < (fiveO.length : Int)) ∧ (ix (betwN fiveO (3 : Int)) (3 : Int) = ix fiveO (4 : Int) → (((betwN fiveO (4 : Int)).length : Int) = (1 : Int) → ((0 : Int) ≤ (0 : Int) ∧ (0 : Int) < ((betwN fiveO (4 : Int)).length : Int)) ∧ ((0 : Int) ≤ (4 : Int) ∧ (4 : Int) < (fiveO.length : Int)) ∧ (ix (betwN fiveO (4 : Int)) (0 : Int) = ix fiveO (4 : Int) → (betwN fiveO (4 : Int)).length ≤ (65536 : Nat) ∧ ((Ty.int IntKind.i64).kd.wf (if extendsB (4 : Int) (5 : Int) (rootS (List.take (Int.toNat (4 : Int)) fiveO)) (rootS fiveO) (betwN fiveO (4 : Int)) = true then (0 : Int) else (10 : Int)) → ((if extendsB (4 : Int) (5 : Int) (rootS (List.take (Int.toNat (4 : Int)) fiveO)) (rootS fiveO) (betwN fiveO (4 : Int)) = true then (0 : Int) else (10 : Int)) = (0 : Int) → (betwN fiveO (4 : Int)).length ≤ (65536 : Nat) ∧ ((Ty.int IntKind.i64).kd.wf (if extendsB (4 : Int) (5 : Int) (rootS fiveO) (rootS fiveO) (betwN fiveO (4 : Int)) = true then (0 : Int) else (10 : Int)) → ((if extendsB (4 : Int) (5 : Int) (rootS fiveO) (rootS fiveO) (betwN fiveO (4 : Int)) = true then (0 : Int) else (10 : Int)) = (10 : Int) → ([] : List (List UInt8)).length ≤ (1048576 : Nat) ∧ ((Ty.arr (32 : Nat) Ty.byte).kd.wf (rootS ([] : List (List UInt8))) → ([] : List (List UInt8)).length ≤ (65536 : Nat) ∧ ((Ty.int IntKind.i64).kd.wf (if extendsB (0 : Int) (5 : Int) (rootS ([] : List (List UInt8))) (rootS fiveO) ([] : List (List UInt8)) = true then (0 : Int) else (10 : Int)) → ((if extendsB (0 : Int) (5 : Int) (rootS ([] : List (List UInt8))) (rootS fiveO) ([] : List (List UInt8)) = true then (0 : Int) else (10 : Int)) = (0 : Int) → ([] : List (List UInt8)).length ≤ (65536 : Nat) ∧ ((Ty.int IntKind.i64).kd.wf (if extendsB (6 : Int) (5 : Int) (rootS (List.take (Int.toNat (4 : Int)) fiveO)) (rootS fiveO) ([] : List (List UInt8)) = true then (0 : Int) else (10 : Int)) → Q (decide ((if extendsB (6 : Int) (5 : Int) (rootS (List.take (Int.toNat (4 : Int)) fiveO)) (rootS fiveO) ([] : List (List UInt8)) = true then (0 : Int) else (10 : Int)) = (10 : Int))))) ∧ (¬(if extendsB (0 : Int) (5 : Int) (rootS ([] : List (List UInt8))) (rootS fiveO) ([] : List (List UInt8)) = true then (0 : Int) else (10 : Int)) = (0 : Int) → Q false)))) ∧ (¬(if extendsB (4 : Int) (5 : Int) (rootS fiveO) (rootS fiveO) (betwN fiveO (4 : Int)) = true then (0 : Int) else (10 : Int)) = (10 : Int) → Q false))) ∧ (¬(if extendsB (4 : Int) (5 : Int) (rootS (List.take (Int.toNat (4 : Int)) fiveO)) (rootS fiveO) (betwN fiveO (4 : Int)) = true then (0 : Int) else (10 : Int)) = (0 : Int) → Q false))) ∧ (¬ix (betwN fiveO (4 : Int)) (0 : Int) = ix fiveO (4 : Int) → Q false)) ∧ (¬((betwN fiveO (4 : Int)).length : Int) = (1 : Int) → Q false)) ∧ (¬ix (betwN fiveO (3 : Int)) (3 : Int) = ix fiveO (4 : Int) → Q false)) ∧ (¬ix (betwN fiveO (3 : Int)) (0 : Int) = ix fiveO (2 : Int) → Q false)) ∧ (¬((betwN fiveO (3 : Int)).length : Int) = (4 : Int) → Q false)) ∧ (¬stepsN (Int.toNat (0 : Int)) (Int.toNat (5 : Int)) = (0 : Int) → Q false)) ∧ (¬stepsN (Int.toNat (5 : Int)) (Int.toNat (5 : Int)) = (0 : Int) → Q false)) ∧ (¬stepsN (Int.toNat (4 : Int)) (Int.toNat (5 : Int)) = (1 : Int) → Q false)) ∧ (¬stepsN (Int.toNat (3 : Int)) (Int.toNat (5 : Int)) = (4 : Int) → Q false))) ∧ True) ∧ True)) ∧ ((fiveO.length ≤ (1048576 : Nat) ∧ ((Ty.arr (32 : Nat) Ty.byte).kd.wf (rootS fiveO) → ((List.take (Int.toNat (4 : Int)) fiveO).length ≤ (1048576 : Nat) ∧ ((Ty.arr (32 : Nat) Ty.byte).kd.wf (rootS (List.take (Int.toNat (4 : Int)) fiveO)) → (Ty.int IntKind.i64).kd.wf (stepsN (Int.toNat (3 : Int)) (Int.toNat (5 : Int))) → (stepsN (Int.toNat (3 : Int)) (Int.toNat (5 : Int)) = (4 : Int) → (Ty.int IntKind.i64).kd.wf (stepsN (Int.toNat (4 : Int)) (Int.toNat (5 : Int))) → (stepsN (Int.toNat (4 : Int)) (Int.toNat (5 : Int)) = (1 : Int) → (Ty.int IntKind.i64).kd.wf (stepsN (Int.toNat (5 : Int)) (Int.toNat (5 : Int))) → (stepsN (Int.toNat (5 : Int)) (Int.toNat (5 : Int)) = (0 : Int) → (Ty.int IntKind.i64).kd.wf (stepsN (Int.toNat (0 : Int)) (Int.toNat (5 : Int))) → (stepsN (Int.toNat (0 : Int)) (Int.toNat (5 : Int)) = (0 : Int) → (((betwN fiveO (3 : Int)).length : Int) = (4 : Int) → ((0 : Int) ≤ (0 : Int) ∧ (0 : Int) < ((betwN fiveO (3 : Int)).length : Int)) ∧ ((0 : Int) ≤ (2 : Int) ∧ (2 : Int) < (fiveO.length : Int)) ∧ (ix (betwN fiveO (3 : Int)) (0 : Int) = ix fiveO (2 : Int) → ((0 : Int) ≤ (3 : Int) ∧ (3 : Int) < ((betwN fiveO (3 : Int)).length : Int)) ∧ ((0 : Int) ≤ (4 : Int) ∧ (4 : Int) < (fiveO.length : Int)) ∧ (ix (betwN fiveO (3 : Int)) (3 : Int) = ix fiveO (4 : Int) → (((betwN fiveO (4 : Int)).length : Int) = (1 : Int) → ((0 : Int) ≤ (0 : Int) ∧ (0 : Int) < ((betwN fiveO (4 : Int)).length : Int)) ∧ ((0 : Int) ≤ (4 : Int) ∧ (4 : Int) < (fiveO.length : Int)) ∧ (ix (betwN fiveO (4 : Int)) (0 : Int) = ix fiveO (4 : Int) → (betwN fiveO (4 : Int)).length ≤ (65536 : Nat) ∧ ((Ty.int IntKind.i64).kd.wf (if extendsB (4 : Int) (5 : Int) (rootS (List.take (Int.toNat (4 : Int)) fiveO)) (rootS fiveO) (betwN fiveO (4 : Int)) = true then (0 : Int) else (10 : Int)) → ((if extendsB (4 : Int) (5 : Int) (rootS (List.take (Int.toNat (4 : Int)) fiveO)) (rootS fiveO) (betwN fiveO (4 : Int)) = true then (0 : Int) else (10 : Int)) = (0 : Int) → (betwN fiveO (4 : Int)).length ≤ (65536 : Nat) ∧ ((Ty.int IntKind.i64).kd.wf (if extendsB (4 : Int) (5 : Int) (rootS fiveO) (rootS fiveO) (betwN fiveO (4 : Int)) = true then (0 : Int) else (10 : Int)) → ((if extendsB (4 : Int) (5 : Int) (rootS fiveO) (rootS fiveO) (betwN fiveO (4 : Int)) = true then (0 : Int) else (10 : Int)) = (10 : Int) → ([] : List (List UInt8)).length ≤ (1048576 : Nat) ∧ ((Ty.arr (32 : Nat) Ty.byte).kd.wf (rootS ([] : List (List UInt8))) → ([] : List (List UInt8)).length ≤ (65536 : Nat) ∧ ((Ty.int IntKind.i64).kd.wf (if extendsB (0 : Int) (5 : Int) (rootS ([] : List (List UInt8))) (rootS fiveO) ([] : List (List UInt8)) = true then (0 : Int) else (10 : Int)) → ((if extendsB (0 : Int) (5 : Int) (rootS ([] : List (List UInt8))) (rootS fiveO) ([] : List (List UInt8)) = true then (0 : Int) else (10 : Int)) = (0 : Int) → ([] : List (List UInt8)).length ≤ (65536 : Nat) ∧ ((Ty.int IntKind.i64).kd.wf (if extendsB (6 : Int) (5 : Int) (rootS (List.take (Int.toNat (4 : Int)) fiveO)) (rootS fiveO) ([] : List (List UInt8)) = true then (0 : Int) else (10 : Int)) → Q (decide ((if extendsB (6 : Int) (5 : Int) (rootS (List.take (Int.toNat (4 : Int)) fiveO)) (rootS fiveO) ([] : List (List UInt8)) = true then (0 : Int) else (10 : Int)) = (10 : Int))))) ∧ (¬(if extendsB (0 : Int) (5 : Int) (rootS ([] : List (List UInt8))) (rootS fiveO) ([] : List (List UInt8)) = true then (0 : Int) else (10 : Int)) = (0 : Int) → Q false)))) ∧ (¬(if extendsB (4 : Int) (5 : Int) (rootS fiveO) (rootS fiveO) (betwN fiveO (4 : Int)) = true then (0 : Int) else (10 : Int)) = (10 : Int) → Q false))) ∧ (¬(if extendsB (4 : Int) (5 : Int) (rootS (List.take (Int.toNat (4 : Int)) fiveO)) (rootS fiveO) (betwN fiveO (4 : Int)) = true then (0 : Int) else (10 : Int)) = (0 : Int) → Q false))) ∧ (¬ix (betwN fiveO (4 : Int)) (0 : Int) = ix fiveO (4 : Int) → Q false)) ∧ (¬((betwN fiveO (4 : Int)).length : Int) = (1 : Int) → Q false)) ∧ (¬ix (betwN fiveO (3 : Int)) (3 : Int) = ix fiveO (4 : Int) → Q false)) ∧ (¬ix (betwN fiveO (3 : Int)) (0 : Int) = ix fiveO (2 : Int) → Q false)) ∧ (¬((betwN fiveO (3 : Int)).length : Int) = (4 : Int) → Q false)) ∧ (¬stepsN (Int.toNat (0 : Int)) (Int.toNat (5 : Int)) = (0 : Int) → Q false)) ∧ (¬stepsN (Int.toNat (5 : Int)) (Int.toNat (5 : Int)) = (0 : Int) → Q false)) ∧ (¬stepsN (Int.toNat (4 : Int)) (Int.toNat (5 : Int)) = (1 : Int) → Q false)) ∧ (¬stepsN (Int.toNat (3 : Int)) (Int.toNat (5 : Int)) = (4 : Int) → Q false))) ∧ ((List.take (Int.toNat (4 : Int)) fiveO).length ≤ (1048576 : Nat) ∧ ((Ty.arr (32 : Nat) Ty.byte).kd.wf (rootS (List.take (Int.toNat (4 : Int)) fiveO)) → (Ty.int IntKind.i64).kd.wf (stepsN (Int.toNat (3 : Int)) (Int.toNat (5 : Int))) → (stepsN (Int.toNat (3 : Int)) (Int.toNat (5 : Int)) = (4 : Int) → (Ty.int IntKind.i64).kd.wf (stepsN (Int.toNat (4 : Int)) (Int.toNat (5 : Int))) → (stepsN (Int.toNat (4 : Int)) (Int.toNat (5 : Int)) = (1 : Int) → (Ty.int IntKind.i64).kd.wf (stepsN (Int.toNat (5 : Int)) (Int.toNat (5 : Int))) → (stepsN (Int.toNat (5 : Int)) (Int.toNat (5 : Int)) = (0 : Int) → (Ty.int IntKind.i64).kd.wf (stepsN (Int.toNat (0 : Int)) (Int.toNat (5 : Int))) → (stepsN (Int.toNat (0 : Int)) (Int.toNat (5 : Int)) = (0 : Int) → (((betwN fiveO (3 : Int)).length : Int) = (4 : Int) → ((0 : Int) ≤ (0 : Int) ∧ (0 : Int) < ((betwN fiveO (3 : Int)).length : Int)) ∧ ((0 : Int) ≤ (2 : Int) ∧ (2 : Int) < (fiveO.length : Int)) ∧ (ix (betwN fiveO (3 : Int)) (0 : Int) = ix fiveO (2 : Int) → ((0 : Int) ≤ (3 : Int) ∧ (3 : Int) < ((betwN fiveO (3 : Int)).length : Int)) ∧ ((0 : Int) ≤ (4 : Int) ∧ (4 : Int) < (fiveO.length : Int)) ∧ (ix (betwN fiveO (3 : Int)) (3 : Int) = ix fiveO (4 : Int) → (((betwN fiveO (4 : Int)).length : Int) = (1 : Int) → ((0 : Int) ≤ (0 : Int) ∧ (0 : Int) < ((betwN fiveO (4 : Int)).length : Int)) ∧ ((0 : Int) ≤ (4 : Int) ∧ (4 : Int) < (fiveO.length : Int)) ∧ (ix (betwN fiveO (4 : Int)) (0 : Int) = ix fiveO (4 : Int) → (betwN fiveO (4 : Int)).length ≤ (65536 : Nat) ∧ ((Ty.int IntKind.i64).kd.wf (if extendsB (4 : Int) (5 : Int) (rootS (List.take (Int.toNat (4 : Int)) fiveO)) (rootS fiveO) (betwN fiveO (4 : Int)) = true then (0 : Int) else (10 : Int)) → ((if extendsB (4 : Int) (5 : Int) (rootS (List.take (Int.toNat (4 : Int)) fiveO)) (rootS fiveO) (betwN fiveO (4 : Int)) = true then (0 : Int) else (10 : Int)) = (0 : Int) → (betwN fiveO (4 : Int)).length ≤ (65536 : Nat) ∧ ((Ty.int IntKind.i64).kd.wf (if extendsB (4 : Int) (5 : Int) (rootS fiveO) (rootS fiveO) (betwN fiveO (4 : Int)) = true then (0 : Int) else (10 : Int)) → ((if extendsB (4 : Int) (5 : Int) (rootS fiveO) (rootS fiveO) (betwN fiveO (4 : Int)) = true then (0 : Int) else (10 : Int)) = (10 : Int) → ([] : List (List UInt8)).length ≤ (1048576 : Nat) ∧ ((Ty.arr (32 : Nat) Ty.byte).kd.wf (rootS ([] : List (List UInt8))) → ([] : List (List UInt8)).length ≤ (65536 : Nat) ∧ ((Ty.int IntKind.i64).kd.wf (if extendsB (0 : Int) (5 : Int) (rootS ([] : List (List UInt8))) (rootS fiveO) ([] : List (List UInt8)) = true then (0 : Int) else (10 : Int)) → ((if extendsB (0 : Int) (5 : Int) (rootS ([] : List (List UInt8))) (rootS fiveO) ([] : List (List UInt8)) = true then (0 : Int) else (10 : Int)) = (0 : Int) → ([] : List (List UInt8)).length ≤ (65536 : Nat) ∧ ((Ty.int IntKind.i64).kd.wf (if extendsB (6 : Int) (5 : Int) (rootS (List.take (Int.toNat (4 : Int)) fiveO)) (rootS fiveO) ([] : List (List UInt8)) = true then (0 : Int) else (10 : Int)) → Q (decide ((if extendsB (6 : Int) (5 : Int) (rootS (List.take (Int.toNat (4 : Int)) fiveO)) (rootS fiveO) ([] : List (List UInt8)) = true then (0 : Int) else (10 : Int)) = (10 : Int))))) ∧ (¬(if extendsB (0 : Int) (5 : Int) (rootS ([] : List (List UInt8))) (rootS fiveO) ([] : List (List UInt8)) = true then (0 : Int) else (10 : Int)) = (0 : Int) → Q false)))) ∧ (¬(if extendsB (4 : Int) (5 : Int) (rootS fiveO) (rootS fiveO) (betwN fiveO (4 : Int)) = true then (0 : Int) else (10 : Int)) = (10 : Int) → Q false))) ∧ (¬(if extendsB (4 : Int) (5 : Int) (rootS (List.take (Int.toNat (4 : Int)) fiveO)) (rootS fiveO) (betwN fiveO (4 : Int)) = true then (0 : Int) else (10 : Int)) = (0 : Int) → Q false))) ∧ (¬ix (betwN fiveO (4 : Int)) (0 : Int) = ix fiveO (4 : Int) → Q false)) ∧ (¬((betwN fiveO (4 : Int)).length : Int) = (1 : Int) → Q false)) ∧ (¬ix (betwN fiveO (3 : Int)) (3 : Int) = ix fiveO (4 : Int) → Q false)) ∧ (¬ix (betwN fiveO (3 : Int)) (0 : Int) = ix fiveO (2 : Int) → Q false)) ∧ (¬((betwN fiveO (3 : Int)).length : Int) = (4 : Int) → Q false)) ∧ (¬stepsN (Int.toNat (0 : Int)) (Int.toNat (5 : Int)) = (0 : Int) → Q false)) ∧ (¬stepsN (Int.toNat (5 : Int)) (Int.toNat (5 : Int)) = (0 : Int) → Q false)) ∧ (¬stepsN (Int.toNat (4 : Int)) (Int.toNat (5 : Int)) = (1 : Int) → Q false)) ∧ (¬stepsN (Int.toNat (3 : Int)) (Int.toNat (5 : Int)) = (4 : Int) → Q false))) ∧ True)) ∧ (fiveO.length ≤ (1048576 : Nat) ∧ ((Ty.arr (32 : Nat) Ty.byte).kd.wf (rootS fiveO) → (List.take (Int.toNat (4 : Int)) fiveO).length ≤ (1048576 : Nat) ∧ ((Ty.arr (32 : Nat) Ty.byte).kd.wf (rootS (List.take (Int.toNat (4 : Int)) fiveO)) → (Ty.int IntKind.i64).kd.wf (stepsN (Int.toNat (3 : Int)) (Int.toNat (5 : Int))) → (stepsN (Int.toNat (3 : Int)) (Int.toNat (5 : Int)) = (4 : Int) → (Ty.int IntKind.i64).kd.wf (stepsN (Int.toNat (4 : Int)) (Int.toNat (5 : Int))) → (stepsN (Int.toNat (4 : Int)) (Int.toNat (5 : Int)) = (1 : Int) → (Ty.int IntKind.i64).kd.wf (stepsN (Int.toNat (5 : Int)) (Int.toNat (5 : Int))) → (stepsN (Int.toNat (5 : Int)) (Int.toNat (5 : Int)) = (0 : Int) → (Ty.int IntKind.i64).kd.wf (stepsN (Int.toNat (0 : Int)) (Int.toNat (5 : Int))) → (stepsN (Int.toNat (0 : Int)) (Int.toNat (5 : Int)) = (0 : Int) → (((betwN fiveO (3 : Int)).length : Int) = (4 : Int) → ((0 : Int) ≤ (0 : Int) ∧ (0 : Int) < ((betwN fiveO (3 : Int)).length : Int)) ∧ ((0 : Int) ≤ (2 : Int) ∧ (2 : Int) < (fiveO.length : Int)) ∧ (ix (betwN fiveO (3 : Int)) (0 : Int) = ix fiveO (2 : Int) → ((0 : Int) ≤ (3 : Int) ∧ (3 : Int) < ((betwN fiveO (3 : Int)).length : Int)) ∧ ((0 : Int) ≤ (4 : Int) ∧ (4 : Int) < (fiveO.length : Int)) ∧ (ix (betwN fiveO (3 : Int)) (3 : Int) = ix fiveO (4 : Int) → (((betwN fiveO (4 : Int)).length : Int) = (1 : Int) → ((0 : Int) ≤ (0 : Int) ∧ (0 : Int) < ((betwN fiveO (4 : Int)).length : Int)) ∧ ((0 : Int) ≤ (4 : Int) ∧ (4 : Int) < (fiveO.length : Int)) ∧ (ix (betwN fiveO (4 : Int)) (0 : Int) = ix fiveO (4 : Int) → (betwN fiveO (4 : Int)).length ≤ (65536 : Nat) ∧ ((Ty.int IntKind.i64).kd.wf (if extendsB (4 : Int) (5 : Int) (rootS (List.take (Int.toNat (4 : Int)) fiveO)) (rootS fiveO) (betwN fiveO (4 : Int)) = true then (0 : Int) else (10 : Int)) → ((if extendsB (4 : Int) (5 : Int) (rootS (List.take (Int.toNat (4 : Int)) fiveO)) (rootS fiveO) (betwN fiveO (4 : Int)) = true then (0 : Int) else (10 : Int)) = (0 : Int) → (betwN fiveO (4 : Int)).length ≤ (65536 : Nat) ∧ ((Ty.int IntKind.i64).kd.wf (if extendsB (4 : Int) (5 : Int) (rootS fiveO) (rootS fiveO) (betwN fiveO (4 : Int)) = true then (0 : Int) else (10 : Int)) → ((if extendsB (4 : Int) (5 : Int) (rootS fiveO) (rootS fiveO) (betwN fiveO (4 : Int)) = true then (0 : Int) else (10 : Int)) = (10 : Int) → ([] : List (List UInt8)).length ≤ (1048576 : Nat) ∧ ((Ty.arr (32 : Nat) Ty.byte).kd.wf (rootS ([] : List (List UInt8))) → ([] : List (List UInt8)).length ≤ (65536 : Nat) ∧ ((Ty.int IntKind.i64).kd.wf (if extendsB (0 : Int) (5 : Int) (rootS ([] : List (List UInt8))) (rootS fiveO) ([] : List (List UInt8)) = true then (0 : Int) else (10 : Int)) → ((if extendsB (0 : Int) (5 : Int) (rootS ([] : List (List UInt8))) (rootS fiveO) ([] : List (List UInt8)) = true then (0 : Int) else (10 : Int)) = (0 : Int) → ([] : List (List UInt8)).length ≤ (65536 : Nat) ∧ ((Ty.int IntKind.i64).kd.wf (if extendsB (6 : Int) (5 : Int) (rootS (List.take (Int.toNat (4 : Int)) fiveO)) (rootS fiveO) ([] : List (List UInt8)) = true then (0 : Int) else (10 : Int)) → Q (decide ((if extendsB (6 : Int) (5 : Int) (rootS (List.take (Int.toNat (4 : Int)) fiveO)) (rootS fiveO) ([] : List (List UInt8)) = true then (0 : Int) else (10 : Int)) = (10 : Int))))) ∧ (¬(if extendsB (0 : Int) (5 : Int) (rootS ([] : List (List UInt8))) (rootS fiveO) ([] : List (List UInt8)) = true then (0 : Int) else (10 : Int)) = (0 : Int) → Q false)))) ∧ (¬(if extendsB (4 : Int) (5 : Int) (rootS fiveO) (rootS fiveO) (betwN fiveO (4 : Int)) = true then (0 : Int) else (10 : Int)) = (10 : Int) → Q false))) ∧ (¬(if extendsB (4 : Int) (5 : Int) (rootS (List.take (Int.toNat (4 : Int)) fiveO)) (rootS fiveO) (betwN fiveO (4 : Int)) = true then (0 : Int) else (10 : Int)) = (0 : Int) → Q false))) ∧ (¬ix (betwN fiveO (4 : Int)) (0 : Int) = ix fiveO (4 : Int) → Q false)) ∧ (¬((betwN fiveO (4 : Int)).length : Int) = (1 : Int) → Q false)) ∧ (¬ix (betwN fiveO (3 : Int)) (3 : Int) = ix fiveO (4 : Int) → Q false)) ∧ (¬ix (betwN fiveO (3 : Int)) (0 : Int) = ix fiveO (2 : Int) → Q false)) ∧ (¬((betwN fiveO (3 : Int)).length : Int) = (4 : Int) → Q false)) ∧ (¬stepsN (Int.toNat (0 : Int)) (Int.toNat (5 : Int)) = (0 : Int) → Q false)) ∧ (¬stepsN (Int.toNat (5 : Int)) (Int.toNat (5 : Int)) = (0 : Int) → Q false)) ∧ (¬stepsN (Int.toNat (4 : Int)) (Int.toNat (5 : Int)) = (1 : Int) → Q false)) ∧ (¬stepsN (Int.toNat (3 : Int)) (Int.toNat (5 : Int)) = (4 : Int) → Q false)))) ∧ True) ∧ ((fiveO.length ≤ (1048576 : Nat) ∧ ((Ty.arr (32 : Nat) Ty.byte).kd.wf (rootS fiveO) → ((List.take (Int.toNat (4 : Int)) fiveO).length ≤ (1048576 : Nat) ∧ ((Ty.arr (32 : Nat) Ty.byte).kd.wf (rootS (List.take (Int.toNat (4 : Int)) fiveO)) → (Ty.int IntKind.i64).kd.wf (stepsN (Int.toNat (3 : Int)) (Int.toNat (5 : Int))) → (stepsN (Int.toNat (3 : Int)) (Int.toNat (5 : Int)) = (4 : Int) → (Ty.int IntKind.i64).kd.wf (stepsN (Int.toNat (4 : Int)) (Int.toNat (5 : Int))) → (stepsN (Int.toNat (4 : Int)) (Int.toNat (5 : Int)) = (1 : Int) → (Ty.int IntKind.i64).kd.wf (stepsN (Int.toNat (5 : Int)) (Int.toNat (5 : Int))) → (stepsN (Int.toNat (5 : Int)) (Int.toNat (5 : Int)) = (0 : Int) → (Ty.int IntKind.i64).kd.wf (stepsN (Int.toNat (0 : Int)) (Int.toNat (5 : Int))) → (stepsN (Int.toNat (0 : Int)) (Int.toNat (5 : Int)) = (0 : Int) → (((betwN fiveO (3 : Int)).length : Int) = (4 : Int) → ((0 : Int) ≤ (0 : Int) ∧ (0 : Int) < ((betwN fiveO (3 : Int)).length : Int)) ∧ ((0 : Int) ≤ (2 : Int) ∧ (2 : Int) < (fiveO.length : Int)) ∧ (ix (betwN fiveO (3 : Int)) (0 : Int) = ix fiveO (2 : Int) → ((0 : Int) ≤ (3 : Int) ∧ (3 : Int) < ((betwN fiveO (3 : Int)).length : Int)) ∧ ((0 : Int) ≤ (4 : Int) ∧ (4 : Int) < (fiveO.length : Int)) ∧ (ix (betwN fiveO (3 : Int)) (3 : Int) = ix fiveO (4 : Int) → (((betwN fiveO (4 : Int)).length : Int) = (1 : Int) → ((0 : Int) ≤ (0 : Int) ∧ (0 : Int) < ((betwN fiveO (4 : Int)).length : Int)) ∧ ((0 : Int) ≤ (4 : Int) ∧ (4 : Int) < (fiveO.length : Int)) ∧ (ix (betwN fiveO (4 : Int)) (0 : Int) = ix fiveO (4 : Int) → (betwN fiveO (4 : Int)).length ≤ (65536 : Nat) ∧ ((Ty.int IntKind.i64).kd.wf (if extendsB (4 : Int) (5 : Int) (rootS (List.take (Int.toNat (4 : Int)) fiveO)) (rootS fiveO) (betwN fiveO (4 : Int)) = true then (0 : Int) else (10 : Int)) → ((if extendsB (4 : Int) (5 : Int) (rootS (List.take (Int.toNat (4 : Int)) fiveO)) (rootS fiveO) (betwN fiveO (4 : Int)) = true then (0 : Int) else (10 : Int)) = (0 : Int) → (betwN fiveO (4 : Int)).length ≤ (65536 : Nat) ∧ ((Ty.int IntKind.i64).kd.wf (if extendsB (4 : Int) (5 : Int) (rootS fiveO) (rootS fiveO) (betwN fiveO (4 : Int)) = true then (0 : Int) else (10 : Int)) → ((if extendsB (4 : Int) (5 : Int) (rootS fiveO) (rootS fiveO) (betwN fiveO (4 : Int)) = true then (0 : Int) else (10 : Int)) = (10 : Int) → ([] : List (List UInt8)).length ≤ (1048576 : Nat) ∧ ((Ty.arr (32 : Nat) Ty.byte).kd.wf (rootS ([] : List (List UInt8))) → ([] : List (List UInt8)).length ≤ (65536 : Nat) ∧ ((Ty.int IntKind.i64).kd.wf (if extendsB (0 : Int) (5 : Int) (rootS ([] : List (List UInt8))) (rootS fiveO) ([] : List (List UInt8)) = true then (0 : Int) else (10 : Int)) → ((if extendsB (0 : Int) (5 : Int) (rootS ([] : List (List UInt8))) (rootS fiveO) ([] : List (List UInt8)) = true then (0 : Int) else (10 : Int)) = (0 : Int) → ([] : List (List UInt8)).length ≤ (65536 : Nat) ∧ ((Ty.int IntKind.i64).kd.wf (if extendsB (6 : Int) (5 : Int) (rootS (List.take (Int.toNat (4 : Int)) fiveO)) (rootS fiveO) ([] : List (List UInt8)) = true then (0 : Int) else (10 : Int)) → Q (decide ((if extendsB (6 : Int) (5 : Int) (rootS (List.take (Int.toNat (4 : Int)) fiveO)) (rootS fiveO) ([] : List (List UInt8)) = true then (0 : Int) else (10 : Int)) = (10 : Int))))) ∧ (¬(if extendsB (0 : Int) (5 : Int) (rootS ([] : List (List UInt8))) (rootS fiveO) ([] : List (List UInt8)) = true then (0 : Int) else (10 : Int)) = (0 : Int) → Q false)))) ∧ (¬(if extendsB (4 : Int) (5 : Int) (rootS fiveO) (rootS fiveO) (betwN fiveO (4 : Int)) = true then (0 : Int) else (10 : Int)) = (10 : Int) → Q false))) ∧ (¬(if extendsB (4 : Int) (5 : Int) (rootS (List.take (Int.toNat (4 : Int)) fiveO)) (rootS fiveO) (betwN fiveO (4 : Int)) = true then (0 : Int) else (10 : Int)) = (0 : Int) → Q false))) ∧ (¬ix (betwN fiveO (4 : Int)) (0 : Int) = ix fiveO (4 : Int) → Q false)) ∧ (¬((betwN fiveO (4 : Int)).length : Int) = (1 : Int) → Q false)) ∧ (¬ix (betwN fiveO (3 : Int)) (3 : Int) = ix fiveO (4 : Int) → Q false)) ∧ (¬ix (betwN fiveO (3 : Int)) (0 : Int) = ix fiveO (2 : Int) → Q false)) ∧ (¬((betwN fiveO (3 : Int)).length : Int) = (4 : Int) → Q false)) ∧ (¬stepsN (Int.toNat (0 : Int)) (Int.toNat (5 : Int)) = (0 : Int) → Q false)) ∧ (¬stepsN (Int.toNat (5 : Int)) (Int.toNat (5 : Int)) = (0 : Int) → Q false)) ∧ (¬stepsN (Int.toNat (4 : Int)) (Int.toNat (5 : Int)) = (1 : Int) → Q false)) ∧ (¬stepsN (Int.toNat (3 : Int)) (Int.toNat (5 : Int)) = (4 : Int) → Q false))) ∧ ((List.take (Int.toNat (4 : Int)) fiveO).length ≤ (1048576 : Nat) ∧ ((Ty.arr (32 : Nat) Ty.byte).kd.wf (rootS (List.take (Int.toNat (4 : Int)) fiveO)) → (Ty.int IntKind.i64).kd.wf (stepsN (Int.toNat (3 : Int)) (Int.toNat (5 : Int))) → (stepsN (Int.toNat (3 : Int)) (Int.toNat (5 : Int)) = (4 : Int) → (Ty.int IntKind.i64).kd.wf (stepsN (Int.toNat (4 : Int)) (Int.toNat (5 : Int))) → (stepsN (Int.toNat (4 : Int)) (Int.toNat (5 : Int)) = (1 : Int) → (Ty.int IntKind.i64).kd.wf (stepsN (Int.toNat (5 : Int)) (Int.toNat (5 : Int))) → (stepsN (Int.toNat (5 : Int)) (Int.toNat (5 : Int)) = (0 : Int) → (Ty.int IntKind.i64).kd.wf (stepsN (Int.toNat (0 : Int)) (Int.toNat (5 : Int))) → (stepsN (Int.toNat (0 : Int)) (Int.toNat (5 : Int)) = (0 : Int) → (((betwN fiveO (3 : Int)).length : Int) = (4 : Int) → ((0 : Int) ≤ (0 : Int) ∧ (0 : Int) < ((betwN fiveO (3 : Int)).length : Int)) ∧ ((0 : Int) ≤ (2 : Int) ∧ (2 : Int) < (fiveO.length : Int)) ∧ (ix (betwN fiveO (3 : Int)) (0 : Int) = ix fiveO (2 : Int) → ((0 : Int) ≤ (3 : Int) ∧ (3 : Int) < ((betwN fiveO (3 : Int)).length : Int)) ∧ ((0 : Int) ≤ (4 : Int) ∧ (4 : Int) < (fiveO.length : Int)) ∧ (ix (betwN fiveO (3 : Int)) (3 : Int) = ix fiveO (4 : Int) → (((betwN fiveO (4 : Int)).length : Int) = (1 : Int) → ((0 : Int) ≤ (0 : Int) ∧ (0 : Int) < ((betwN fiveO (4 : Int)).length : Int)) ∧ ((0 : Int) ≤ (4 : Int) ∧ (4 : Int) < (fiveO.length : Int)) ∧ (ix (betwN fiveO (4 : Int)) (0 : Int) = ix fiveO (4 : Int) → (betwN fiveO (4 : Int)).length ≤ (65536 : Nat) ∧ ((Ty.int IntKind.i64).kd.wf (if extendsB (4 : Int) (5 : Int) (rootS (List.take (Int.toNat (4 : Int)) fiveO)) (rootS fiveO) (betwN fiveO (4 : Int)) = true then (0 : Int) else (10 : Int)) → ((if extendsB (4 : Int) (5 : Int) (rootS (List.take (Int.toNat (4 : Int)) fiveO)) (rootS fiveO) (betwN fiveO (4 : Int)) = true then (0 : Int) else (10 : Int)) = (0 : Int) → (betwN fiveO (4 : Int)).length ≤ (65536 : Nat) ∧ ((Ty.int IntKind.i64).kd.wf (if extendsB (4 : Int) (5 : Int) (rootS fiveO) (rootS fiveO) (betwN fiveO (4 : Int)) = true then (0 : Int) else (10 : Int)) → ((if extendsB (4 : Int) (5 : Int) (rootS fiveO) (rootS fiveO) (betwN fiveO (4 : Int)) = true then (0 : Int) else (10 : Int)) = (10 : Int) → ([] : List (List UInt8)).length ≤ (1048576 : Nat) ∧ ((Ty.arr (32 : Nat) Ty.byte).kd.wf (rootS ([] : List (List UInt8))) → ([] : List (List UInt8)).length ≤ (65536 : Nat) ∧ ((Ty.int IntKind.i64).kd.wf (if extendsB (0 : Int) (5 : Int) (rootS ([] : List (List UInt8))) (rootS fiveO) ([] : List (List UInt8)) = true then (0 : Int) else (10 : Int)) → ((if extendsB (0 : Int) (5 : Int) (rootS ([] : List (List UInt8))) (rootS fiveO) ([] : List (List UInt8)) = true then (0 : Int) else (10 : Int)) = (0 : Int) → ([] : List (List UInt8)).length ≤ (65536 : Nat) ∧ ((Ty.int IntKind.i64).kd.wf (if extendsB (6 : Int) (5 : Int) (rootS (List.take (Int.toNat (4 : Int)) fiveO)) (rootS fiveO) ([] : List (List UInt8)) = true then (0 : Int) else (10 : Int)) → Q (decide ((if extendsB (6 : Int) (5 : Int) (rootS (List.take (Int.toNat (4 : Int)) fiveO)) (rootS fiveO) ([] : List (List UInt8)) = true then (0 : Int) else (10 : Int)) = (10 : Int))))) ∧ (¬(if extendsB (0 : Int) (5 : Int) (rootS ([] : List (List UInt8))) (rootS fiveO) ([] : List (List UInt8)) = true then (0 : Int) else (10 : Int)) = (0 : Int) → Q false)))) ∧ (¬(if extendsB (4 : Int) (5 : Int) (rootS fiveO) (rootS fiveO) (betwN fiveO (4 : Int)) = true then (0 : Int) else (10 : Int)) = (10 : Int) → Q false))) ∧ (¬(if extendsB (4 : Int) (5 : Int) (rootS (List.take (Int.toNat (4 : Int)) fiveO)) (rootS fiveO) (betwN fiveO (4 : Int)) = true then (0 : Int) else (10 : Int)) = (0 : Int) → Q false))) ∧ (¬ix (betwN fiveO (4 : Int)) (0 : Int) = ix fiveO (4 : Int) → Q false)) ∧ (¬((betwN fiveO (4 : Int)).length : Int) = (1 : Int) → Q false)) ∧ (¬ix (betwN fiveO (3 : Int)) (3 : Int) = ix fiveO (4 : Int) → Q false)) ∧ (¬ix (betwN fiveO (3 : Int)) (0 : Int) = ix fiveO (2 : Int) → Q false)) ∧ (¬((betwN fiveO (3 : Int)).length : Int) = (4 : Int) → Q false)) ∧ (¬stepsN (Int.toNat (0 : Int)) (Int.toNat (5 : Int)) = (0 : Int) → Q false)) ∧ (¬stepsN (Int.toNat (5 : Int)) (Int.toNat (5 : Int)) = (0 : Int) → Q false)) ∧ (¬stepsN (Int.toNat (4 : Int)) (Int.toNat (5 : Int)) = (1 : Int) → Q false)) ∧ (¬stepsN (Int.toNat (3 : Int)) (Int.toNat (5 : Int)) = (4 : Int) → Q false))) ∧ True)) ∧ (fiveO.length ≤ (1048576 : Nat) ∧ ((Ty.arr (32 : Nat) Ty.byte).kd.wf (rootS fiveO) → (List.take (Int.toNat (4 : Int)) fiveO).length ≤ (1048576 : Nat) ∧ ((Ty.arr (32 : Nat) Ty.byte).kd.wf (rootS (List.take (Int.toNat (4 : Int)) fiveO)) → (Ty.int IntKind.i64).kd.wf (stepsN (Int.toNat (3 : Int)) (Int.toNat (5 : Int))) → (stepsN (Int.toNat (3 : Int)) (Int.toNat (5 : Int)) = (4 : Int) → (Ty.int IntKind.i64).kd.wf (stepsN (Int.toNat (4 : Int)) (Int.toNat (5 : Int))) → (stepsN (Int.toNat (4 : Int)) (Int.toNat (5 : Int)) = (1 : Int) → (Ty.int IntKind.i64).kd.wf (stepsN (Int.toNat (5 : Int)) (Int.toNat (5 : Int))) → (stepsN (Int.toNat (5 : Int)) (Int.toNat (5 : Int)) = (0 : Int) → (Ty.int IntKind.i64).kd.wf (stepsN (Int.toNat (0 : Int)) (Int.toNat (5 : Int))) → (stepsN (Int.toNat (0 : Int)) (Int.toNat (5 : Int)) = (0 : Int) → (((betwN fiveO (3 : Int)).length : Int) = (4 : Int) → ((0 : Int) ≤ (0 : Int) ∧ (0 : Int) < ((betwN fiveO (3 : Int)).length : Int)) ∧ ((0 : Int) ≤ (2 : Int) ∧ (2 : Int) < (fiveO.length : Int)) ∧ (ix (betwN fiveO (3 : Int)) (0 : Int) = ix fiveO (2 : Int) → ((0 : Int) ≤ (3 : Int) ∧ (3 : Int) < ((betwN fiveO (3 : Int)).length : Int)) ∧ ((0 : Int) ≤ (4 : Int) ∧ (4 : Int) < (fiveO.length : Int)) ∧ (ix (betwN fiveO (3 : Int)) (3 : Int) = ix fiveO (4 : Int) → (((betwN fiveO (4 : Int)).length : Int) = (1 : Int) → ((0 : Int) ≤ (0 : Int) ∧ (0 : Int) < ((betwN fiveO (4 : Int)).length : Int)) ∧ ((0 : Int) ≤ (4 : Int) ∧ (4 : Int) < (fiveO.length : Int)) ∧ (ix (betwN fiveO (4 : Int)) (0 : Int) = ix fiveO (4 : Int) → (betwN fiveO (4 : Int)).length ≤ (65536 : Nat) ∧ ((Ty.int IntKind.i64).kd.wf (if extendsB (4 : Int) (5 : Int) (rootS (List.take (Int.toNat (4 : Int)) fiveO)) (rootS fiveO) (betwN fiveO (4 : Int)) = true then (0 : Int) else (10 : Int)) → ((if extendsB (4 : Int) (5 : Int) (rootS (List.take (Int.toNat (4 : Int)) fiveO)) (rootS fiveO) (betwN fiveO (4 : Int)) = true then (0 : Int) else (10 : Int)) = (0 : Int) → (betwN fiveO (4 : Int)).length ≤ (65536 : Nat) ∧ ((Ty.int IntKind.i64).kd.wf (if extendsB (4 : Int) (5 : Int) (rootS fiveO) (rootS fiveO) (betwN fiveO (4 : Int)) = true then (0 : Int) else (10 : Int)) → ((if extendsB (4 : Int) (5 : Int) (rootS fiveO) (rootS fiveO) (betwN fiveO (4 : Int)) = true then (0 : Int) else (10 : Int)) = (10 : Int) → ([] : List (List UInt8)).length ≤ (1048576 : Nat) ∧ ((Ty.arr (32 : Nat) Ty.byte).kd.wf (rootS ([] : List (List UInt8))) → ([] : List (List UInt8)).length ≤ (65536 : Nat) ∧ ((Ty.int IntKind.i64).kd.wf (if extendsB (0 : Int) (5 : Int) (rootS ([] : List (List UInt8))) (rootS fiveO) ([] : List (List UInt8)) = true then (0 : Int) else (10 : Int)) → ((if extendsB (0 : Int) (5 : Int) (rootS ([] : List (List UInt8))) (rootS fiveO) ([] : List (List UInt8)) = true then (0 : Int) else (10 : Int)) = (0 : Int) → ([] : List (List UInt8)).length ≤ (65536 : Nat) ∧ ((Ty.int IntKind.i64).kd.wf (if extendsB (6 : Int) (5 : Int) (rootS (List.take (Int.toNat (4 : Int)) fiveO)) (rootS fiveO) ([] : List (List UInt8)) = true then (0 : Int) else (10 : Int)) → Q (decide ((if extendsB (6 : Int) (5 : Int) (rootS (List.take (Int.toNat (4 : Int)) fiveO)) (rootS fiveO) ([] : List (List UInt8)) = true then (0 : Int) else (10 : Int)) = (10 : Int))))) ∧ (¬(if extendsB (0 : Int) (5 : Int) (rootS ([] : List (List UInt8))) (rootS fiveO) ([] : List (List UInt8)) = true then (0 : Int) else (10 : Int)) = (0 : Int) → Q false)))) ∧ (¬(if extendsB (4 : Int) (5 : Int) (rootS fiveO) (rootS fiveO) (betwN fiveO (4 : Int)) = true then (0 : Int) else (10 : Int)) = (10 : Int) → Q false))) ∧ (¬(if extendsB (4 : Int) (5 : Int) (rootS (List.take (Int.toNat (4 : Int)) fiveO)) (rootS fiveO) (betwN fiveO (4 : Int)) = true then (0 : Int) else (10 : Int)) = (0 : Int) → Q false))) ∧ (¬ix (betwN fiveO (4 : Int)) (0 : Int) = ix fiveO (4 : Int) → Q false)) ∧ (¬((betwN fiveO (4 : Int)).length : Int) = (1 : Int) → Q false)) ∧ (¬ix (betwN fiveO (3 : Int)) (3 : Int) = ix fiveO (4 : Int) → Q false)) ∧ (¬ix (betwN fiveO (3 : Int)) (0 : Int) = ix fiveO (2 : Int) → Q false)) ∧ (¬((betwN fiveO (3 : Int)).length : Int) = (4 : Int) → Q false)) ∧ (¬stepsN (Int.toNat (0 : Int)) (Int.toNat (5 : Int)) = (0 : Int) → Q false)) ∧ (¬stepsN (Int.toNat (5 : Int)) (Int.toNat (5 : Int)) = (0 : Int) → Q false)) ∧ (¬stepsN (Int.toNat (4 : Int)) (Int.toNat (5 : Int)) = (1 : Int) → Q false)) ∧ (¬stepsN (Int.toNat (3 : Int)) (Int.toNat (5 : Int)) = (4 : Int) → Q false)))) ∧ True) ∧ True))
theorem awake5_ok  : awake5_VC  (fun o0 => o0 = true) := by
  have l5 : fiveO.length = 5 := by rw [fiveO_eq]; rfl
  have b3 : betwN fiveO 3 = [[3, 0, 0, 0, 0, 0, 0, 0, 0, 0, 0, 0, 0, 0, 0, 0, 0, 0, 0, 0, 0, 0, 0, 0, 0, 0, 0, 0, 0, 0, 0, 0], [4, 0, 0, 0, 0, 0, 0, 0, 0, 0, 0, 0, 0, 0, 0, 0, 0, 0, 0, 0, 0, 0, 0, 0, 0, 0, 0, 0, 0, 0, 0, 0], sealOf 2 [[1, 0, 0, 0, 0, 0, 0, 0, 0, 0, 0, 0, 0, 0, 0, 0, 0, 0, 0, 0, 0, 0, 0, 0, 0, 0, 0, 0, 0, 0, 0, 0], [2, 0, 0, 0, 0, 0, 0, 0, 0, 0, 0, 0, 0, 0, 0, 0, 0, 0, 0, 0, 0, 0, 0, 0, 0, 0, 0, 0, 0, 0, 0, 0]], [5, 0, 0, 0, 0, 0, 0, 0, 0, 0, 0, 0, 0, 0, 0, 0, 0, 0, 0, 0, 0, 0, 0, 0, 0, 0, 0, 0, 0, 0, 0, 0]] := by rw [fiveO_eq, five_eq, b35]
  have b4 : betwN fiveO 4 = [[5, 0, 0, 0, 0, 0, 0, 0, 0, 0, 0, 0, 0, 0, 0, 0, 0, 0, 0, 0, 0, 0, 0, 0, 0, 0, 0, 0, 0, 0, 0, 0]] := by rw [fiveO_eq, five_eq, b45]
  have lb3 : (betwN fiveO 3).length = 4 := by rw [b3]; rfl
  have lb4 : (betwN fiveO 4).length = 1 := by rw [b4]; rfl
  have c1 : stepsN (Int.toNat (3 : Int)) (Int.toNat (5 : Int)) = (4 : Int) := s35
  have c2 : stepsN (Int.toNat (4 : Int)) (Int.toNat (5 : Int)) = (1 : Int) := s45
  have c3 : stepsN (Int.toNat (5 : Int)) (Int.toNat (5 : Int)) = (0 : Int) := s55
  have c4 : stepsN (Int.toNat (0 : Int)) (Int.toNat (5 : Int)) = (0 : Int) := s05
  have c5 : ((betwN fiveO (3 : Int)).length : Int) = (4 : Int) := by rw [lb3]; rfl
  have c6 : ix (betwN fiveO (3 : Int)) (0 : Int) = ix fiveO (2 : Int) := by rw [b3, fiveO_eq, five_eq]; rfl
  have c7 : ix (betwN fiveO (3 : Int)) (3 : Int) = ix fiveO (4 : Int) := by rw [b3, fiveO_eq, five_eq]; rfl
  have c8 : ((betwN fiveO (4 : Int)).length : Int) = (1 : Int) := by rw [lb4]; rfl
  have c9 : ix (betwN fiveO (4 : Int)) (0 : Int) = ix fiveO (4 : Int) := by rw [b4, fiveO_eq, five_eq]; rfl
  have x1 : extendsB (4 : Int) (5 : Int) (rootS (List.take (Int.toNat (4 : Int)) fiveO)) (rootS fiveO) (betwN fiveO (4 : Int)) = true := by
    have := extends_betw (l := fiveO) (m := 4) (by omega)
    rw [l5] at this
    exact this
  have x2 : extendsB (4 : Int) (5 : Int) (rootS fiveO) (rootS fiveO) (betwN fiveO (4 : Int)) = false := by rw [fiveO_eq]; exact e455
  have x3 : extendsB (0 : Int) (5 : Int) (rootS ([] : List (List UInt8))) (rootS fiveO) ([] : List (List UInt8)) = true := by
    rw [rootS_nil]
    unfold extendsB
    have e0 : Int.toNat 0 = 0 := rfl
    have e5 : Int.toNat 5 = 5 := rfl
    rw [e0, e5, s05, if_neg (by simp), if_pos rfl]
    exact decide_eq_true ⟨rfl, fun h => by cases h⟩
  have x4 : extendsB (6 : Int) (5 : Int) (rootS (List.take (Int.toNat (4 : Int)) fiveO)) (rootS fiveO) ([] : List (List UInt8)) = false := by
    unfold extendsB
    rw [if_pos (.inr (.inl (by decide)))]
  have lt : (List.take (Int.toNat (4 : Int)) fiveO).length ≤ (1048576 : Nat) := by rw [List.length_take]; omega
  unfold awake5_VC
  rw [x1, x2, x3, x4]
  clear x1 x2 x3 x4 b3 b4
  have d1 : ((if true = true then (0 : Int) else (10 : Int)) = (0 : Int)) := rfl
  have d2 : ((if false = true then (0 : Int) else (10 : Int)) = (10 : Int)) := rfl
  have n1 : ([] : List (List UInt8)).length ≤ (1048576 : Nat) := Nat.zero_le _
  have n2 : ([] : List (List UInt8)).length ≤ (65536 : Nat) := Nat.zero_le _
  repeat' first
    | with_reducible exact fun h => absurd c1 h
    | with_reducible exact fun h => absurd c2 h
    | with_reducible exact fun h => absurd c3 h
    | with_reducible exact fun h => absurd c4 h
    | with_reducible exact fun h => absurd c5 h
    | with_reducible exact fun h => absurd c6 h
    | with_reducible exact fun h => absurd c7 h
    | with_reducible exact fun h => absurd c8 h
    | with_reducible exact fun h => absurd c9 h
    | with_reducible exact fun h => absurd d1 h
    | with_reducible exact fun h => absurd d2 h
    | with_reducible exact decide_eq_true d2
    | with_reducible exact lt
    | with_reducible exact n1
    | with_reducible exact n2
    | with_reducible exact trivial
    | with_reducible refine And.intro ?_ ?_
    | (intro _)
    | omega
theorem awake5_eq : (∀ a, awake5_C.pre a → PM.wfP awake5_C.pm a (fvc awake5_X 200 32 awake5_C a (eqO awake5_C a))) = (∀ a : Unit, True → awake5_VC  (fun o0 => o0 = true)) := by kernel_rfl
theorem awake5_k : awake5_C.valid Try.prog 32 := ctr_of (X := awake5_X) (ok_of seat_ok (fun b hb => by cases hb; exact bkT_ok) fns_ok ⟨fiveF_k, BetweenO_k, BetweenR_k, RootN_k, Root_k, Steps_k, ExtendsN_k, Extends_k, trivial⟩) 200 (awake5_eq.mpr fun a hp  => @awake5_ok )
def GrowOn_K1 (a0_l : List (List UInt8)) (a1_j : Int) (a2_m : Int) (Q : Bool → Prop) : Prop :=
  ((Ty.arr (32 : Nat) Ty.byte).kd.sl.wf (betwN (List.take a2_m.toNat a0_l) a1_j) → (betwN (List.take a2_m.toNat a0_l) a1_j).length ≤ (65536 : Nat) ∧ ((Ty.int IntKind.i64).kd.wf (if extendsB a1_j a2_m (rootS (List.take a1_j.toNat a0_l)) (rootS (List.take a2_m.toNat a0_l)) (betwN (List.take a2_m.toNat a0_l) a1_j) = true then (0 : Int) else (10 : Int)) → a0_l.length ≤ (1048576 : Nat) ∧ ((Ty.arr (32 : Nat) Ty.byte).kd.sl.wf (betwN a0_l a2_m) → (betwN a0_l a2_m).length ≤ (65536 : Nat) ∧ ((Ty.int IntKind.i64).kd.wf (if extendsB a2_m (a0_l.length : Int) (rootS (List.take a2_m.toNat a0_l)) (rootS a0_l) (betwN a0_l a2_m) = true then (0 : Int) else (10 : Int)) → a0_l.length ≤ (1048576 : Nat) ∧ ((Ty.arr (32 : Nat) Ty.byte).kd.sl.wf (betwN a0_l a1_j) → (betwN a0_l a1_j).length ≤ (65536 : Nat) ∧ ((Ty.int IntKind.i64).kd.wf (if extendsB a1_j (a0_l.length : Int) (rootS (List.take a1_j.toNat a0_l)) (rootS a0_l) (betwN a0_l a1_j) = true then (0 : Int) else (10 : Int)) → ((if extendsB a1_j a2_m (rootS (List.take a1_j.toNat a0_l)) (rootS (List.take a2_m.toNat a0_l)) (betwN (List.take a2_m.toNat a0_l) a1_j) = true then (0 : Int) else (10 : Int)) = (0 : Int) → ((if extendsB a2_m (a0_l.length : Int) (rootS (List.take a2_m.toNat a0_l)) (rootS a0_l) (betwN a0_l a2_m) = true then (0 : Int) else (10 : Int)) = (0 : Int) → ((if extendsB a1_j (a0_l.length : Int) (rootS (List.take a1_j.toNat a0_l)) (rootS a0_l) (betwN a0_l a1_j) = true then (0 : Int) else (10 : Int)) = (0 : Int) → Q true) ∧ (¬(if extendsB a1_j (a0_l.length : Int) (rootS (List.take a1_j.toNat a0_l)) (rootS a0_l) (betwN a0_l a1_j) = true then (0 : Int) else (10 : Int)) = (0 : Int) → Q false)) ∧ (¬(if extendsB a2_m (a0_l.length : Int) (rootS (List.take a2_m.toNat a0_l)) (rootS a0_l) (betwN a0_l a2_m) = true then (0 : Int) else (10 : Int)) = (0 : Int) → Q false)) ∧ (¬(if extendsB a1_j a2_m (rootS (List.take a1_j.toNat a0_l)) (rootS (List.take a2_m.toNat a0_l)) (betwN (List.take a2_m.toNat a0_l) a1_j) = true then (0 : Int) else (10 : Int)) = (0 : Int) → Q false)))))))
def GrowOn_K4 (a0_l : List (List UInt8)) (a1_j : Int) (a2_m : Int) (Q : Bool → Prop) : Prop :=
  ((a0_l.length ≤ (1048576 : Nat) ∧ ((Ty.arr (32 : Nat) Ty.byte).kd.wf (rootS a0_l) → ((0 : Int) ≤ a2_m ∧ a2_m ≤ (a0_l.length : Int)) ∧ (List.take a2_m.toNat a0_l).length ≤ (1048576 : Nat) ∧ (GrowOn_K1 a0_l a1_j a2_m Q))) ∧ (a0_l.length ≤ (1048576 : Nat) ∧ ((Ty.arr (32 : Nat) Ty.byte).kd.wf (rootS a0_l) → ((0 : Int) ≤ a2_m ∧ a2_m ≤ (a0_l.length : Int)) ∧ (List.take a2_m.toNat a0_l).length ≤ (1048576 : Nat) ∧ (GrowOn_K1 a0_l a1_j a2_m Q))) ∧ True)
def GrowOn_K5 (a0_l : List (List UInt8)) (a1_j : Int) (a2_m : Int) (Q : Bool → Prop) : Prop :=
  ((List.take a2_m.toNat a0_l).length ≤ (1048576 : Nat) ∧ ((Ty.arr (32 : Nat) Ty.byte).kd.wf (rootS (List.take a2_m.toNat a0_l)) → (a0_l.length ≤ (1048576 : Nat) ∧ ((Ty.arr (32 : Nat) Ty.byte).kd.wf (rootS a0_l) → ((0 : Int) ≤ a2_m ∧ a2_m ≤ (a0_l.length : Int)) ∧ (List.take a2_m.toNat a0_l).length ≤ (1048576 : Nat) ∧ (GrowOn_K1 a0_l a1_j a2_m Q))) ∧ (a0_l.length ≤ (1048576 : Nat) ∧ ((Ty.arr (32 : Nat) Ty.byte).kd.wf (rootS a0_l) → ((0 : Int) ≤ a2_m ∧ a2_m ≤ (a0_l.length : Int)) ∧ (List.take a2_m.toNat a0_l).length ≤ (1048576 : Nat) ∧ (GrowOn_K1 a0_l a1_j a2_m Q))) ∧ True))
def GrowOn_K6 (a0_l : List (List UInt8)) (a1_j : Int) (a2_m : Int) (Q : Bool → Prop) : Prop :=
  ((List.take a2_m.toNat a0_l).length ≤ (1048576 : Nat) ∧ ((Ty.arr (32 : Nat) Ty.byte).kd.wf (rootS (List.take a2_m.toNat a0_l)) → a0_l.length ≤ (1048576 : Nat) ∧ ((Ty.arr (32 : Nat) Ty.byte).kd.wf (rootS a0_l) → ((0 : Int) ≤ a2_m ∧ a2_m ≤ (a0_l.length : Int)) ∧ (List.take a2_m.toNat a0_l).length ≤ (1048576 : Nat) ∧ (GrowOn_K1 a0_l a1_j a2_m Q))))
def GrowOn_K7 (a0_l : List (List UInt8)) (a1_j : Int) (a2_m : Int) (Q : Bool → Prop) : Prop :=
  (a0_l.length ≤ (1048576 : Nat) ∧ ((Ty.arr (32 : Nat) Ty.byte).kd.wf (rootS a0_l) → (((0 : Int) ≤ a2_m ∧ a2_m ≤ (a0_l.length : Int)) ∧ (List.take a2_m.toNat a0_l).length ≤ (1048576 : Nat) ∧ (GrowOn_K1 a0_l a1_j a2_m Q)) ∧ (((0 : Int) ≤ a2_m ∧ a2_m ≤ (a0_l.length : Int)) ∧ (List.take a2_m.toNat a0_l).length ≤ (1048576 : Nat) ∧ (GrowOn_K1 a0_l a1_j a2_m Q)) ∧ True))
def GrowOn_K8 (a0_l : List (List UInt8)) (a1_j : Int) (a2_m : Int) (Q : Bool → Prop) : Prop :=
  (((List.take a1_j.toNat a0_l).length ≤ (1048576 : Nat) ∧ ((Ty.arr (32 : Nat) Ty.byte).kd.wf (rootS (List.take a1_j.toNat a0_l)) → (GrowOn_K5 a0_l a1_j a2_m Q) ∧ (GrowOn_K6 a0_l a1_j a2_m Q) ∧ True)) ∧ ((List.take a1_j.toNat a0_l).length ≤ (1048576 : Nat) ∧ ((Ty.arr (32 : Nat) Ty.byte).kd.wf (rootS (List.take a1_j.toNat a0_l)) → (List.take a2_m.toNat a0_l).length ≤ (1048576 : Nat) ∧ ((Ty.arr (32 : Nat) Ty.byte).kd.wf (rootS (List.take a2_m.toNat a0_l)) → a0_l.length ≤ (1048576 : Nat) ∧ ((Ty.arr (32 : Nat) Ty.byte).kd.wf (rootS a0_l) → ((0 : Int) ≤ a2_m ∧ a2_m ≤ (a0_l.length : Int)) ∧ (List.take a2_m.toNat a0_l).length ≤ (1048576 : Nat) ∧ (GrowOn_K1 a0_l a1_j a2_m Q))))) ∧ True)
def GrowOn_K2 (a0_l : List (List UInt8)) (a1_j : Int) (a2_m : Int) (Q : Bool → Prop) : Prop :=
  (((List.take a1_j.toNat a0_l).length ≤ (1048576 : Nat) ∧ ((Ty.arr (32 : Nat) Ty.byte).kd.wf (rootS (List.take a1_j.toNat a0_l)) → ((List.take a2_m.toNat a0_l).length ≤ (1048576 : Nat) ∧ ((Ty.arr (32 : Nat) Ty.byte).kd.wf (rootS (List.take a2_m.toNat a0_l)) → (GrowOn_K7 a0_l a1_j a2_m Q) ∧ (GrowOn_K4 a0_l a1_j a2_m Q) ∧ (GrowOn_K4 a0_l a1_j a2_m Q) ∧ True)) ∧ ((GrowOn_K5 a0_l a1_j a2_m Q) ∧ (GrowOn_K6 a0_l a1_j a2_m Q) ∧ True) ∧ ((GrowOn_K5 a0_l a1_j a2_m Q) ∧ (GrowOn_K6 a0_l a1_j a2_m Q) ∧ True) ∧ True)) ∧ (GrowOn_K8 a0_l a1_j a2_m Q) ∧ (GrowOn_K8 a0_l a1_j a2_m Q) ∧ True)
def GrowOn_K3 (a0_l : List (List UInt8)) (a1_j : Int) (a2_m : Int) (Q : Bool → Prop) : Prop :=
  (((List.take a2_m.toNat a0_l).length ≤ (1048576 : Nat) ∧ ((Ty.arr (32 : Nat) Ty.byte).kd.wf (rootS (List.take a2_m.toNat a0_l)) → (GrowOn_K7 a0_l a1_j a2_m Q) ∧ (GrowOn_K4 a0_l a1_j a2_m Q) ∧ (GrowOn_K4 a0_l a1_j a2_m Q) ∧ True)) ∧ ((GrowOn_K5 a0_l a1_j a2_m Q) ∧ (GrowOn_K6 a0_l a1_j a2_m Q) ∧ True) ∧ ((GrowOn_K5 a0_l a1_j a2_m Q) ∧ (GrowOn_K6 a0_l a1_j a2_m Q) ∧ True) ∧ True)
noncomputable def GrowOn_C : Ctr := ⟨[.v (.sl (.arr 32 .byte)), .v (.int .i64), .v (.int .i64)], [.v .bool], none, fun a => (fun (a0_l : List (List UInt8)) (a1_j : Int) (a2_m : Int) => ((true, ()), (()))) a.1 a.2.1 a.2.2.1⟩
noncomputable def GrowOn_X : Fx := ⟨seat, some bkT, fns, [(32, awake5_C), (25, RootN_C), (25, Root_C), (33, BetweenO_C), (33, BetweenR_C), (37, ExtendsN_C), (37, Extends_C)], [], [], [(3, [0, 1, 2, 3, 4, 5, 6, 7, 8, 9, 10, 11, 12], [.o 0 2, .o 1 2, .o 2 2, .o 4 2, .o 5 2, .o 6 2, .o 8 2, .par [3, 7, 9, 10, 11, 12] (.alt 3 0 (.alt 7 0 (.alt 9 0 (.alt 10 0 (.alt 11 0 (.one 12 0 .fin) (.alt 12 0 (.one 11 0 .fin) .fin)) (.alt 11 0 (.alt 10 0 (.one 12 0 .fin) (.alt 12 0 (.one 10 0 .fin) .fin)) (.alt 12 0 (.alt 10 0 (.one 11 0 .fin) (.alt 11 0 (.one 10 0 .fin) .fin)) .fin))) (.alt 10 0 (.alt 9 0 (.alt 11 0 (.one 12 0 .fin) (.alt 12 0 (.one 11 0 .fin) .fin)) (.alt 11 0 (.alt 9 0 (.one 12 0 .fin) (.alt 12 0 (.one 9 0 .fin) .fin)) (.alt 12 0 (.alt 9 0 (.one 11 0 .fin) (.alt 11 0 (.one 9 0 .fin) .fin)) .fin))) (.alt 11 0 (.alt 9 0 (.alt 10 0 (.one 12 0 .fin) (.alt 12 0 (.one 10 0 .fin) .fin)) (.alt 10 0 (.alt 9 0 (.one 12 0 .fin) (.alt 12 0 (.one 9 0 .fin) .fin)) (.alt 12 0 (.alt 9 0 (.one 10 0 .fin) (.alt 10 0 (.one 9 0 .fin) .fin)) .fin))) (.alt 12 0 (.alt 9 0 (.alt 10 0 (.one 11 0 .fin) (.alt 11 0 (.one 10 0 .fin) .fin)) (.alt 10 0 (.alt 9 0 (.one 11 0 .fin) (.alt 11 0 (.one 9 0 .fin) .fin)) (.alt 11 0 (.alt 9 0 (.one 10 0 .fin) (.alt 10 0 (.one 9 0 .fin) .fin)) .fin))) .fin)))) (.alt 10 0 (.alt 7 0 (.alt 9 0 (.alt 11 0 (.one 12 0 .fin) (.alt 12 0 (.one 11 0 .fin) .fin)) (.alt 11 0 (.alt 9 0 (.one 12 0 .fin) (.alt 12 0 (.one 9 0 .fin) .fin)) (.alt 12 0 (.alt 9 0 (.one 11 0 .fin) (.alt 11 0 (.one 9 0 .fin) .fin)) .fin))) (.alt 11 0 (.alt 7 0 (.alt 9 0 (.one 12 0 .fin) (.alt 12 0 (.one 9 0 .fin) .fin)) (.alt 12 0 (.one 7 0 (.one 9 0 .fin)) .fin)) (.alt 12 0 (.alt 7 0 (.alt 9 0 (.one 11 0 .fin) (.alt 11 0 (.one 9 0 .fin) .fin)) (.alt 11 0 (.one 7 0 (.one 9 0 .fin)) .fin)) .fin))) (.alt 11 0 (.alt 7 0 (.alt 9 0 (.alt 10 0 (.one 12 0 .fin) (.alt 12 0 (.one 10 0 .fin) .fin)) (.alt 10 0 (.alt 9 0 (.one 12 0 .fin) (.alt 12 0 (.one 9 0 .fin) .fin)) (.alt 12 0 (.alt 9 0 (.one 10 0 .fin) (.alt 10 0 (.one 9 0 .fin) .fin)) .fin))) (.alt 10 0 (.alt 7 0 (.alt 9 0 (.one 12 0 .fin) (.alt 12 0 (.one 9 0 .fin) .fin)) (.alt 12 0 (.one 7 0 (.one 9 0 .fin)) .fin)) (.alt 12 0 (.alt 7 0 (.alt 9 0 (.one 10 0 .fin) (.alt 10 0 (.one 9 0 .fin) .fin)) (.alt 10 0 (.one 7 0 (.one 9 0 .fin)) .fin)) .fin))) (.alt 12 0 (.alt 7 0 (.alt 9 0 (.alt 10 0 (.one 11 0 .fin) (.alt 11 0 (.one 10 0 .fin) .fin)) (.alt 10 0 (.alt 9 0 (.one 11 0 .fin) (.alt 11 0 (.one 9 0 .fin) .fin)) (.alt 11 0 (.alt 9 0 (.one 10 0 .fin) (.alt 10 0 (.one 9 0 .fin) .fin)) .fin))) (.alt 10 0 (.alt 7 0 (.alt 9 0 (.one 11 0 .fin) (.alt 11 0 (.one 9 0 .fin) .fin)) (.alt 11 0 (.one 7 0 (.one 9 0 .fin)) .fin)) (.alt 11 0 (.alt 7 0 (.alt 9 0 (.one 10 0 .fin) (.alt 10 0 (.one 9 0 .fin) .fin)) (.alt 10 0 (.one 7 0 (.one 9 0 .fin)) .fin)) .fin))) .fin)))) (.alt 10 0 (.alt 3 0 (.alt 7 0 (.alt 9 0 (.alt 11 0 (.one 12 0 .fin) (.alt 12 0 (.one 11 0 .fin) .fin)) (.alt 11 0 (.alt 9 0 (.one 12 0 .fin) (.alt 12 0 (.one 9 0 .fin) .fin)) (.alt 12 0 (.alt 9 0 (.one 11 0 .fin) (.alt 11 0 (.one 9 0 .fin) .fin)) .fin))) (.alt 11 0 (.alt 7 0 (.alt 9 0 (.one 12 0 .fin) (.alt 12 0 (.one 9 0 .fin) .fin)) (.alt 12 0 (.one 7 0 (.one 9 0 .fin)) .fin)) (.alt 12 0 (.alt 7 0 (.alt 9 0 (.one 11 0 .fin) (.alt 11 0 (.one 9 0 .fin) .fin)) (.alt 11 0 (.one 7 0 (.one 9 0 .fin)) .fin)) .fin))) (.alt 11 0 (.alt 3 0 (.alt 7 0 (.alt 9 0 (.one 12 0 .fin) (.alt 12 0 (.one 9 0 .fin) .fin)) (.alt 12 0 (.one 7 0 (.one 9 0 .fin)) .fin)) (.alt 12 0 (.one 3 0 (.one 7 0 (.one 9 0 .fin))) .fin)) (.alt 12 0 (.alt 3 0 (.alt 7 0 (.alt 9 0 (.one 11 0 .fin) (.alt 11 0 (.one 9 0 .fin) .fin)) (.alt 11 0 (.one 7 0 (.one 9 0 .fin)) .fin)) (.alt 11 0 (.one 3 0 (.one 7 0 (.one 9 0 .fin))) .fin)) .fin))) (.alt 11 0 (.alt 3 0 (.alt 7 0 (.alt 9 0 (.alt 10 0 (.one 12 0 .fin) (.alt 12 0 (.one 10 0 .fin) .fin)) (.alt 10 0 (.alt 9 0 (.one 12 0 .fin) (.alt 12 0 (.one 9 0 .fin) .fin)) (.alt 12 0 (.alt 9 0 (.one 10 0 .fin) (.alt 10 0 (.one 9 0 .fin) .fin)) .fin))) (.alt 10 0 (.alt 7 0 (.alt 9 0 (.one 12 0 .fin) (.alt 12 0 (.one 9 0 .fin) .fin)) (.alt 12 0 (.one 7 0 (.one 9 0 .fin)) .fin)) (.alt 12 0 (.alt 7 0 (.alt 9 0 (.one 10 0 .fin) (.alt 10 0 (.one 9 0 .fin) .fin)) (.alt 10 0 (.one 7 0 (.one 9 0 .fin)) .fin)) .fin))) (.alt 10 0 (.alt 3 0 (.alt 7 0 (.alt 9 0 (.one 12 0 .fin) (.alt 12 0 (.one 9 0 .fin) .fin)) (.alt 12 0 (.one 7 0 (.one 9 0 .fin)) .fin)) (.alt 12 0 (.one 3 0 (.one 7 0 (.one 9 0 .fin))) .fin)) (.alt 12 0 (.alt 3 0 (.alt 7 0 (.alt 9 0 (.one 10 0 .fin) (.alt 10 0 (.one 9 0 .fin) .fin)) (.alt 10 0 (.one 7 0 (.one 9 0 .fin)) .fin)) (.alt 10 0 (.one 3 0 (.one 7 0 (.one 9 0 .fin))) .fin)) .fin))) (.alt 12 0 (.alt 3 0 (.alt 7 0 (.alt 9 0 (.alt 10 0 (.one 11 0 .fin) (.alt 11 0 (.one 10 0 .fin) .fin)) (.alt 10 0 (.alt 9 0 (.one 11 0 .fin) (.alt 11 0 (.one 9 0 .fin) .fin)) (.alt 11 0 (.alt 9 0 (.one 10 0 .fin) (.alt 10 0 (.one 9 0 .fin) .fin)) .fin))) (.alt 10 0 (.alt 7 0 (.alt 9 0 (.one 11 0 .fin) (.alt 11 0 (.one 9 0 .fin) .fin)) (.alt 11 0 (.one 7 0 (.one 9 0 .fin)) .fin)) (.alt 11 0 (.alt 7 0 (.alt 9 0 (.one 10 0 .fin) (.alt 10 0 (.one 9 0 .fin) .fin)) (.alt 10 0 (.one 7 0 (.one 9 0 .fin)) .fin)) .fin))) (.alt 10 0 (.alt 3 0 (.alt 7 0 (.alt 9 0 (.one 11 0 .fin) (.alt 11 0 (.one 9 0 .fin) .fin)) (.alt 11 0 (.one 7 0 (.one 9 0 .fin)) .fin)) (.alt 11 0 (.one 3 0 (.one 7 0 (.one 9 0 .fin))) .fin)) (.alt 11 0 (.alt 3 0 (.alt 7 0 (.alt 9 0 (.one 10 0 .fin) (.alt 10 0 (.one 9 0 .fin) .fin)) (.alt 10 0 (.one 7 0 (.one 9 0 .fin)) .fin)) (.alt 10 0 (.one 3 0 (.one 7 0 (.one 9 0 .fin))) .fin)) .fin))) .fin)))), .o 13 1, .o 14 1, .o 15 1]), (4, [], [.o 0 2, .o 1 2, .o 2 2, .o 3 2, .o 4 2, .o 5 2, .o 6 2, .o 7 2, .o 8 0, .o 9 0, .o 10 2]), (5, [], [.o 0 2, .o 1 2, .o 2 2, .o 3 2, .o 4 2, .o 5 2, .o 6 2, .o 7 0, .o 8 0, .o 9 2]), (6, [], [.o 0 2, .o 1 2, .o 2 2, .o 3 2, .o 4 2, .o 5 2, .o 6 2, .o 7 0, .o 8 0, .o 9 2])]⟩
def GrowOn_VC (a0_l : List (List UInt8)) (a1_j : Int) (a2_m : Int) (Q : Bool → Prop) : Prop :=
  ((150 : Int) < (a0_l.length : Int) → Q true) ∧ (¬(150 : Int) < (a0_l.length : Int) → (a1_j < (0 : Int) → Q true) ∧ (¬a1_j < (0 : Int) → (a2_m < a1_j → Q true) ∧ (¬a2_m < a1_j → ((a0_l.length : Int) < a2_m → Q true) ∧ (¬(a0_l.length : Int) < a2_m → ((0 : Int) ≤ a1_j ∧ a1_j ≤ (a0_l.length : Int)) ∧ ((0 : Int) ≤ a2_m ∧ a2_m ≤ (a0_l.length : Int)) ∧ ((List.take a1_j.toNat a0_l).length ≤ (1048576 : Nat) ∧ ((Ty.arr (32 : Nat) Ty.byte).kd.wf (rootS (List.take a1_j.toNat a0_l)) → ((List.take a2_m.toNat a0_l).length ≤ (1048576 : Nat) ∧ ((Ty.arr (32 : Nat) Ty.byte).kd.wf (rootS (List.take a2_m.toNat a0_l)) → (a0_l.length ≤ (1048576 : Nat) ∧ ((Ty.arr (32 : Nat) Ty.byte).kd.wf (rootS a0_l) → ((((0 : Int) ≤ a2_m ∧ a2_m ≤ (a0_l.length : Int)) ∧ (List.take a2_m.toNat a0_l).length ≤ (1048576 : Nat) ∧ (GrowOn_K1 a0_l a1_j a2_m Q)) ∧ (((0 : Int) ≤ a2_m ∧ a2_m ≤ (a0_l.length : Int)) ∧ (List.take a2_m.toNat a0_l).length ≤ (1048576 : Nat) ∧ (GrowOn_K1 a0_l a1_j a2_m Q)) ∧ True) ∧ ((((0 : Int) ≤ a2_m ∧ a2_m ≤ (a0_l.length : Int)) ∧ (List.take a2_m.toNat a0_l).length ≤ (1048576 : Nat) ∧ (GrowOn_K1 a0_l a1_j a2_m Q)) ∧ (((0 : Int) ≤ a2_m ∧ a2_m ≤ (a0_l.length : Int)) ∧ (List.take a2_m.toNat a0_l).length ≤ (1048576 : Nat) ∧ (GrowOn_K1 a0_l a1_j a2_m Q)) ∧ True) ∧ ((((0 : Int) ≤ a2_m ∧ a2_m ≤ (a0_l.length : Int)) ∧ (List.take a2_m.toNat a0_l).length ≤ (1048576 : Nat) ∧ (GrowOn_K1 a0_l a1_j a2_m Q)) ∧ (((0 : Int) ≤ a2_m ∧ a2_m ≤ (a0_l.length : Int)) ∧ (List.take a2_m.toNat a0_l).length ≤ (1048576 : Nat) ∧ (GrowOn_K1 a0_l a1_j a2_m Q)) ∧ True) ∧ True)) ∧ ((GrowOn_K7 a0_l a1_j a2_m Q) ∧ (GrowOn_K4 a0_l a1_j a2_m Q) ∧ (GrowOn_K4 a0_l a1_j a2_m Q) ∧ True) ∧ ((GrowOn_K7 a0_l a1_j a2_m Q) ∧ (GrowOn_K4 a0_l a1_j a2_m Q) ∧ (GrowOn_K4 a0_l a1_j a2_m Q) ∧ True) ∧ ((GrowOn_K7 a0_l a1_j a2_m Q) ∧ (GrowOn_K4 a0_l a1_j a2_m Q) ∧ (GrowOn_K4 a0_l a1_j a2_m Q) ∧ True) ∧ True)) ∧ (GrowOn_K3 a0_l a1_j a2_m Q) ∧ (GrowOn_K3 a0_l a1_j a2_m Q) ∧ (GrowOn_K3 a0_l a1_j a2_m Q) ∧ True)) ∧ (GrowOn_K2 a0_l a1_j a2_m Q) ∧ (GrowOn_K2 a0_l a1_j a2_m Q) ∧ (GrowOn_K2 a0_l a1_j a2_m Q) ∧ True))))
theorem GrowOn_ok {a0_l : List (List UInt8)} {a1_j : Int} {a2_m : Int} (w_0 : (Ty.kd (.sl (.arr 32 .byte))).wf a0_l) (w_1 : (Ty.kd (.int .i64)).wf a1_j) (w_2 : (Ty.kd (.int .i64)).wf a2_m) : GrowOn_VC a0_l a1_j a2_m (fun o0 => o0 = true) := by
  unfold GrowOn_VC
  refine ⟨fun _ => rfl, fun h1 => ⟨fun _ => rfl, fun h2 => ⟨fun _ => rfl, fun h3 => ⟨fun _ => rfl, fun h4 => ?_⟩⟩⟩⟩
  have hj : ((a1_j.toNat : Nat) : Int) = a1_j := Int.toNat_of_nonneg (by omega)
  have hm : ((a2_m.toNat : Nat) : Int) = a2_m := Int.toNat_of_nonneg (by omega)
  have lm : (List.take a2_m.toNat a0_l).length = a2_m.toNat := by rw [List.length_take]; omega
  have x1 : extendsB a1_j a2_m (rootS (List.take a1_j.toNat a0_l)) (rootS (List.take a2_m.toNat a0_l)) (betwN (List.take a2_m.toNat a0_l) a1_j) = true := by
    have := extends_betw (l := List.take a2_m.toNat a0_l) (m := a1_j.toNat) (by rw [lm]; omega)
    rw [hj, lm, hm, List.take_take, Nat.min_eq_left (by omega)] at this
    exact this
  have x2 : extendsB a2_m (a0_l.length : Int) (rootS (List.take a2_m.toNat a0_l)) (rootS a0_l) (betwN a0_l a2_m) = true := by
    have := extends_betw (l := a0_l) (m := a2_m.toNat) (by omega)
    rw [hm] at this
    exact this
  have x3 : extendsB a1_j (a0_l.length : Int) (rootS (List.take a1_j.toNat a0_l)) (rootS a0_l) (betwN a0_l a1_j) = true := by
    have := extends_betw (l := a0_l) (m := a1_j.toNat) (by omega)
    rw [hj] at this
    exact this
  have g1 : (0 : Int) ≤ a1_j ∧ a1_j ≤ (a0_l.length : Int) := by omega
  have g2 : (0 : Int) ≤ a2_m ∧ a2_m ≤ (a0_l.length : Int) := by omega
  have n1 : (List.take a1_j.toNat a0_l).length ≤ (1048576 : Nat) := by rw [List.length_take]; omega
  have n2 : (List.take a2_m.toNat a0_l).length ≤ (1048576 : Nat) := by rw [lm]; omega
  have n3 : a0_l.length ≤ (1048576 : Nat) := by omega
  have b1 := betwN_len (l := List.take a2_m.toNat a0_l) (m := a1_j) n2
  have b2 := betwN_len (l := a0_l) (m := a2_m) n3
  have b3 := betwN_len (l := a0_l) (m := a1_j) n3
  have i1 : (if extendsB a1_j a2_m (rootS (List.take a1_j.toNat a0_l)) (rootS (List.take a2_m.toNat a0_l)) (betwN (List.take a2_m.toNat a0_l) a1_j) = true then (0 : Int) else (10 : Int)) = (0 : Int) := by rw [x1]; rfl
  have i2 : (if extendsB a2_m (a0_l.length : Int) (rootS (List.take a2_m.toNat a0_l)) (rootS a0_l) (betwN a0_l a2_m) = true then (0 : Int) else (10 : Int)) = (0 : Int) := by rw [x2]; rfl
  have i3 : (if extendsB a1_j (a0_l.length : Int) (rootS (List.take a1_j.toNat a0_l)) (rootS a0_l) (betwN a0_l a1_j) = true then (0 : Int) else (10 : Int)) = (0 : Int) := by rw [x3]; rfl
  have k1 : GrowOn_K1 a0_l a1_j a2_m (fun o0 => o0 = true) := by
    unfold GrowOn_K1
    repeat' first
      | with_reducible exact fun h => absurd i1 h
      | with_reducible exact fun h => absurd i2 h
      | with_reducible exact decide_eq_true i3
      | with_reducible exact n3
      | with_reducible rfl
      | with_reducible refine And.intro ?_ ?_
      | intro _
      | omega
  clear i1 i2 i3 x1 x2 x3
  repeat' first
    | with_reducible exact k1
    | with_reducible exact g1
    | with_reducible exact g2
    | with_reducible exact n1
    | with_reducible exact n2
    | with_reducible exact n3
    | with_reducible rfl
    | with_reducible exact trivial
    | with_reducible refine And.intro ?_ ?_
    | unfold GrowOn_K2
    | unfold GrowOn_K3
    | unfold GrowOn_K4
    | unfold GrowOn_K5
    | unfold GrowOn_K6
    | unfold GrowOn_K7
    | unfold GrowOn_K8
    | intro _
theorem GrowOn_eq : (∀ a, GrowOn_C.pre a → PM.wfP GrowOn_C.pm a (fvc GrowOn_X 200 13 GrowOn_C a (eqO GrowOn_C a))) = (∀ a : (List (List UInt8)) × Int × Int × Unit, True → (Ty.kd (.sl (.arr 32 .byte))).wf a.1 → (Ty.kd (.int .i64)).wf a.2.1 → (Ty.kd (.int .i64)).wf a.2.2.1 → GrowOn_VC a.1 a.2.1 a.2.2.1 (fun o0 => o0 = true)) := by kernel_rfl
theorem GrowOn_k : GrowOn_C.valid Try.prog 13 := ctr_of (X := GrowOn_X) (ok_of seat_ok (fun b hb => by cases hb; exact bkT_ok) fns_ok ⟨awake5_k, RootN_k, Root_k, BetweenO_k, BetweenR_k, ExtendsN_k, Extends_k, trivial⟩) 200 (GrowOn_eq.mpr fun a hp w_0 w_1 w_2 => @GrowOn_ok a.1 a.2.1 a.2.2.1 w_0 w_1 w_2)
end Go.Proofs.Ytkffegaofdpkiaa

/-
  PLAIN 7: what the arguments of a statement are, told in the kinds of BASE: each argument that can be read is of its kind, over the ghost of the whole heap.
-/
set_option linter.unusedVariables false
namespace Go.Proofs.Ytkffegaofdpkiaa
open Go Go.RowKit Go.Inc Go.ChangeShapes Go.WideShapes Go.ChangeAt

theorem one_le {H : Type} (d : DataW H) : 1 ≤ Rows.uptoBulk d := by
  cases d with
  | lit l => cases l <;> simp [Rows.uptoBulk]
  | nil => simp [Rows.uptoBulk]
  | ptr d => simp [Rows.uptoBulk]
  | slice elems spare => simp [Rows.uptoBulk]
  | agg parts => simp [Rows.uptoBulk]
  | iface t d => simp [Rows.uptoBulk]
  | map entries => simp [Rows.uptoBulk]
  | held h => simp [Rows.uptoBulk]
theorem part_le {H : Type} {d : DataW H} {l : List (DataW H)} (h : d ∈ l) : Rows.uptoBulk d ≤ Rows.uptoBulkAll l := by
  induction l with
  | nil => cases h
  | cons x r ih =>
    simp only [Rows.uptoBulkAll]
    cases List.mem_cons.1 h with
    | inl e => subst e; omega
    | inr e => have := ih e; omega
theorem length_le {H : Type} (l : List (DataW H)) : l.length ≤ Rows.uptoBulkAll l := by
  induction l with
  | nil => simp [Rows.uptoBulkAll]
  | cons x r ih => have := one_le x; simp only [Rows.uptoBulkAll, List.length_cons]; omega
theorem small_of {H : Type} {l : List (DataW H)} (hk : Rows.uptoSmall H l = true) : Rows.uptoBulkAll l ≤ 1048576 := by
  simpa [Rows.uptoSmall] using hk

/-- the whole heap's rows, as they are -/
def GhostW (w : World) : Ghost := fun b => match w.heap[b]? with
  | some (.cells c t _) => some (t, c.toList)
  | _ => none
theorem Models.ofW (w : World) : Models w (GhostW w) := fun b t l h => by
  unfold GhostW at h
  split at h
  · rename_i c t' fr hh
    cases h
    exact ⟨c, fr, hh, List.prefix_refl _⟩
  · cases h
section
variable {P : Program} {α β : Type} {k : Kd α} {k' : Kd β} {t e : TypeId} {by_ : Nat} {S : α → Prop} {S' : β → Prop}
/-- so great a thing may be: every list has at most 1048576 members -/
def sm0 {α : Type} : α → Prop := fun _ => True
def smL {α : Type} (S : α → Prop) : List α → Prop := fun l => l.length ≤ 1048576 ∧ ∀ x ∈ l, S x
def smP {α β : Type} (S : α → Prop) (T : β → Prop) : α × β → Prop := fun x => S x.1 ∧ T x.2
def smO {α : Type} (S : α → Prop) : Option α → Prop := fun x => ∀ y, x = some y → S y
/-- Whatever can be read at type t, within the bound, is of kind k (and not too great). -/
def Rds (P : Program) (t : TypeId) (k : Kd α) (S : α → Prop) : Prop := ∀ (H : Type) (enc : TypeId × Value → H) (w : World) (base : Nat) (held : Bool) (fuel : Nat) (cs : List Value) (x : DataW H × List MemPlace),
  DataW.trod enc P w base (fun _ => true) held fuel t cs = some x → Rows.uptoBulk x.1 ≤ 1048576 → ∃ a, k.R (GhostW w) a cs ∧ S a
theorem cellsOf_ty (h : TyOk P t k by_) : P.cellsOf t = k.sz := by
  obtain ⟨i, z, hi, hs, _⟩ := h.info
  simp [Program.cellsOf, hi, hs]
theorem rds_int {ik : IntKind} (ht : P.underlying t = some (.int ik)) : Rds P t (Kd.int ik) sm0 := fun H enc w base held fuel cs x h hb => by
  obtain ⟨n, rfl, _, hw⟩ := DataW.trod_int ht h
  refine ⟨n, ⟨rfl, ?_⟩, trivial⟩
  simpa [Lit.wf] using hw
theorem rds_byte (ht : P.underlying t = some (.int .u8)) : Rds P t Kd.byte sm0 := fun H enc w base held fuel cs x h hb => by
  obtain ⟨n, rfl, _, hw⟩ := DataW.trod_int ht h
  have hw : 0 ≤ n ∧ n ≤ 255 := by simpa [Lit.wf, IntKind.min, IntKind.max, IntKind.signed, IntKind.bits] using hw
  refine ⟨UInt8.ofNat n.toNat, ?_, trivial⟩
  show [Value.int .u8 n] = [.int .u8 _]
  congr 2
  have : (UInt8.ofNat n.toNat).toNat = n.toNat := by simp; omega
  omega
theorem rds_bool (ht : P.underlying t = some .bool) : Rds P t Kd.bool sm0 := fun H enc w base held fuel cs x h hb => by
  obtain ⟨b, rfl, _⟩ := DataW.trod_bool ht h
  exact ⟨b, rfl, trivial⟩
theorem rds_str (ht : P.underlying t = some .string) : Rds P t Kd.str (smL sm0) := fun H enc w base held fuel cs x h hb => by
  obtain ⟨s, rfl, rfl, _⟩ := DataW.trod_string ht h
  simp only [Rows.uptoBulk] at hb
  exact ⟨s.data.toList, ⟨by simp, by simp only [LM]; omega⟩, by omega, fun _ _ => trivial⟩
/-- so many cells, one after another -/
theorem ghost_cells {w : World} {base n : Nat} {a : Addr} {cs : List Value} (h : w.cells? base a n = some cs) (hn : 0 < n) :
    a.spot = none ∧ ∃ e l, GhostW w a.block = some (e, l) ∧ a.off + n ≤ l.length ∧ (l.drop a.off).take n = cs := by
  unfold World.cells? at h
  split at h
  case isFalse => cases h
  case isTrue hb =>
  have hl := mapM_some_length h
  have hg := fun i (hi : i < n) => mapM_some_get h i i (by simp [hi])
  have h0 := hg 0 hn
  have hc0 : 0 < cs.length := by rw [hl]; simpa using hn
  rw [List.getElem?_eq_getElem hc0] at h0
  unfold World.cell? at h0
  have ea : ∀ i, (a.add i).block = a.block := fun i => by unfold Addr.add; split <;> rfl
  have eo : ∀ i, (a.add i).off = a.off + i := fun i => by unfold Addr.add; split <;> simp_all
  have ha0 : a.add 0 = a := by simp [Addr.add]
  rw [ha0] at h0
  cases hh : w.heap[a.block]? with
  | none => rw [hh] at h0; cases h0
  | some o =>
    rw [hh] at h0
    cases o with
    | cells c e fr =>
      simp only at h0
      split at h0
      · cases h0
      · rename_i hs
        have hs : a.spot = none := by simpa using hs
        refine ⟨hs, e, c.toList, by simp [GhostW, hh], ?_⟩
        have hgc : ∀ i, i < n → c[a.off + i]? = cs[i]? := fun i hi => by
          have := hg i hi
          unfold World.cell? at this
          rw [ea, eo, hh] at this
          have hs' : (a.add i).spot.isSome = false := by unfold Addr.add; split <;> simp_all
          simpa [hs'] using this
        have hlen : cs.length = n := by rw [hl]; simp
        have hbound : a.off + n ≤ c.toList.length := by
          have h1 := hgc (n - 1) (by omega)
          rw [List.getElem?_eq_getElem (by omega)] at h1
          have := (Array.getElem?_eq_some_iff.1 h1).1
          simp only [Array.length_toList]
          omega
        refine ⟨hbound, ?_⟩
        apply List.ext_getElem?
        intro i
        rcases Nat.lt_or_ge i n with hi | hi
        · rw [List.getElem?_take, if_pos hi, List.getElem?_drop, ← hgc i hi]
          simp
        · rw [List.getElem?_take, if_neg (by omega), List.getElem?_eq_none (by omega)]
    | _ => simp at h0
theorem RL_flat {R : α → List Value → Prop} : ∀ (n : Nat) (f : Nat → List Value), (∀ i, i < n → ∃ a, R a (f i) ∧ S a) → ∃ l, l.length = n ∧ RL R l ((List.range n).map f).flatten ∧ ∀ x ∈ l, S x
  | 0, f, _ => ⟨[], rfl, by simp [RL], by simp⟩
  | n + 1, f, h => by
    obtain ⟨l, hl, hR, hS⟩ := RL_flat n f (fun i hi => h i (by omega))
    obtain ⟨a, ha, hs⟩ := h n (by omega)
    refine ⟨l ++ [a], by simp [hl], ?_, fun x hx => (List.mem_append.1 hx).elim (hS x) (fun h => by rw [List.mem_singleton.1 h]; exact hs)⟩
    rw [List.range_succ]
    simp only [List.map_append, List.map_cons, List.map_nil, List.flatten_append, List.flatten_cons, List.flatten_nil, List.append_nil]
    exact RL.append hR (RL.single ha)
/-- a list cut into n parts of s each -/
theorem parts_flat (s : Nat) : ∀ (n : Nat) (l : List Value), n * s ≤ l.length → ((List.range n).map fun i => (l.drop (i * s)).take s).flatten = l.take (n * s)
  | 0, l, _ => by simp
  | n + 1, l, h => by
    have e : (n + 1) * s = n * s + s := Nat.succ_mul n s
    rw [List.range_succ]
    simp only [List.map_append, List.map_cons, List.map_nil, List.flatten_append, List.flatten_cons, List.flatten_nil, List.append_nil]
    rw [parts_flat s n l (by omega), e, List.take_add]
theorem rds_sl (ht : P.underlying t = some (.slice e)) (hT : TyOk P e k by_) (h0 : Nat.blt 0 k.sz = true) (hR : Rds P e k S) : Rds P t (Kd.sl k) (smL S) := fun H enc w base held fuel cs x h hb => by
  have h0 : 0 < k.sz := Nat.le_of_ble_eq_true h0
  rcases DataW.trod_slice ht h with ⟨rfl, rfl⟩ | ⟨a, len, cap, elems, rest, n, _, rfl, rfl, hbs, hl, hm, hlen, hel, _, _⟩
  · exact ⟨[], ⟨none, 0, rfl, by simp, by simp [LM], by simp, .inl rfl⟩, by simp, by simp⟩
  · rw [cellsOf_ty hT] at hel
    have hbulk : elems.length ≤ 1048576 := by
      have := length_le (elems.map (·.1))
      simp only [Rows.uptoBulk, List.length_map] at hb this
      omega
    have hparts : ∀ i, i < len → ∃ cs' y, w.cells? base (a.add (i * k.sz)) k.sz = some cs' ∧ DataW.trod enc P w base (fun _ => true) held n e cs' = some y ∧ Rows.uptoBulk y.1 ≤ 1048576 := fun i hi => by
      have h1 := hel i hi
      rw [List.getElem?_eq_getElem (by omega)] at h1
      obtain ⟨cs', h2, h3⟩ := Option.bind_eq_some_iff.1 h1
      refine ⟨cs', _, h2, h3, ?_⟩
      have := part_le (l := elems.map (·.1)) (d := (elems[i]'(by omega)).1) (List.mem_map.2 ⟨_, List.getElem_mem _, rfl⟩)
      simp only [Rows.uptoBulk] at hb
      omega
    rcases Nat.eq_zero_or_pos len with hz | hp
    · exact ⟨[], ⟨some a, cap, by simp [hz], by simp, by simp [LM], by simp, .inl rfl⟩, by simp, by simp⟩
    · obtain ⟨cs0, y0, hc0, _, _⟩ := hparts 0 hp
      rw [Nat.zero_mul, show a.add 0 = a by simp [Addr.add]] at hc0
      obtain ⟨hs, e', l, hg, _, _⟩ := ghost_cells hc0 h0
      have ea : a = ⟨a.block, a.off, none⟩ := by cases a; simp_all
      have key : ∀ i, i < len → a.off + i * k.sz + k.sz ≤ l.length ∧ w.cells? base (a.add (i * k.sz)) k.sz = some (((l.drop a.off).drop (i * k.sz)).take k.sz) := fun i hi => by
        obtain ⟨cs', y, hc, _, _⟩ := hparts i hi
        obtain ⟨_, e2, l2, hg2, hle, htk⟩ := ghost_cells hc h0
        rw [ea, add_lit] at hg2 hle htk
        simp only at hg2 hle htk
        rw [hg] at hg2
        cases hg2
        refine ⟨hle, ?_⟩
        rw [hc, List.drop_drop, ← htk]
      have hlast := (key (len - 1) (by omega)).1
      have hall : a.off + len * k.sz ≤ l.length := by
        have : len * k.sz = (len - 1) * k.sz + k.sz := by
          conv => lhs; rw [show len = (len - 1) + 1 by omega]
          exact Nat.succ_mul _ _
        omega
      obtain ⟨xs, hxl, hxR, hxS⟩ := RL_flat (S := S) (R := k.R (GhostW w)) len (fun i => ((l.drop a.off).drop (i * k.sz)).take k.sz) (fun i hi => by
        obtain ⟨cs', y, hc, ht', hb'⟩ := hparts i hi
        rw [(key i hi).2] at hc
        cases hc
        exact hR _ _ _ _ _ _ _ _ ht' hb')
      rw [parts_flat k.sz len (l.drop a.off) (by rw [List.length_drop]; omega)] at hxR
      refine ⟨xs, ⟨some a, cap, by rw [hxl], by omega, by simp only [LM]; omega, fun x hx => ?_, .inr ⟨a.block, e', l.take a.off, (l.drop a.off).take (len * k.sz), (l.drop a.off).drop (len * k.sz), ?_, ?_, hxR⟩⟩, by omega, hxS⟩
      · exact RL.all (p := k.wf) (fun _ _ => k.hwf) hxR x hx
      · rw [List.length_take, Nat.min_eq_left (by omega)]
        exact congrArg some ea
      · rw [hg, List.append_assoc, List.take_append_drop, List.take_append_drop]
theorem rds_arr {n by_' : Nat} (ht : P.underlying t = some (.array n e)) (hT : TyOk P e k by_) (hT' : TyOk P t (Kd.arr n k) by_') (hR : Rds P e k S) : Rds P t (Kd.arr n k) (smL S) := fun H enc w base held fuel cs x h hb => by
  obtain ⟨xs, m, _, rfl, hlen, hxl, hx⟩ := DataW.trod_array ht h
  rw [cellsOf_ty hT] at hx
  rw [cellsOf_ty hT'] at hlen
  have hlen : cs.length = n * k.sz := hlen
  obtain ⟨l, hl, hlR, hlS⟩ := RL_flat (S := S) (R := k.R (GhostW w)) n (fun i => (cs.drop (i * k.sz)).take k.sz) (fun i hi => by
    have h1 := hx i hi
    rw [List.getElem?_eq_getElem (by omega)] at h1
    refine hR _ _ _ _ _ _ _ _ h1 ?_
    have := part_le (l := xs.map (·.1)) (d := (xs[i]'(by omega)).1) (List.mem_map.2 ⟨_, List.getElem_mem _, rfl⟩)
    simp only [Rows.uptoBulk] at hb
    omega)
  rw [parts_flat k.sz n cs (by omega), List.take_of_length_le (by omega)] at hlR
  have hbulk : xs.length ≤ 1048576 := by
    have := length_le (xs.map (·.1))
    simp only [Rows.uptoBulk, List.length_map] at hb this
    omega
  exact ⟨l, ⟨hl, hlR⟩, by omega, hlS⟩
/-- the fields fs, read out of cs from off on, are of kind k -/
def RdsF (P : Program) (fs : List Field) (off : Nat) (k : Kd α) (S : α → Prop) : Prop := ∀ (H : Type) (enc : TypeId × Value → H) (w : World) (base : Nat) (held : Bool) (fuel : Nat) (cs : List Value),
  (∀ f ∈ fs, ∃ x : DataW H × List MemPlace, DataW.trod enc P w base (fun _ => true) held fuel f.type ((cs.drop f.offset).take (P.cellsOf f.type)) = some x ∧ Rows.uptoBulk x.1 ≤ 1048576) → ∃ a, k.R (GhostW w) a ((cs.drop off).take k.sz) ∧ S a
theorem rdsF_one {f : Field} {off : Nat} (hT : TyOk P f.type k by_) (ho : Nat.beq f.offset off = true) (hR : Rds P f.type k S) : RdsF P [f] off k S := fun H enc w base held fuel cs h => by
  obtain ⟨x, h1, h2⟩ := h f (.head _)
  rw [Nat.eq_of_beq_eq_true ho, cellsOf_ty hT] at h1
  exact hR _ _ _ _ _ _ _ _ h1 h2
theorem rdsF_cons {fs : List Field} {f : Field} {off : Nat} (hT : TyOk P f.type k by_) (ho : Nat.beq f.offset off = true) (hR : Rds P f.type k S) (hF : RdsF P fs (off + k.sz) k' S') : RdsF P (f :: fs) off (Kd.pr k k') (smP S S') := fun H enc w base held fuel cs h => by
  obtain ⟨b, hb, hbS⟩ := hF H enc w base held fuel cs (fun f hf => h f (.tail _ hf))
  obtain ⟨x, h1, h2⟩ := h f (.head _)
  rw [Nat.eq_of_beq_eq_true ho, cellsOf_ty hT] at h1
  obtain ⟨a, ha, haS⟩ := hR _ _ _ _ _ _ _ _ h1 h2
  refine ⟨(a, b), ⟨_, _, ?_, ha, hb⟩, haS, hbS⟩
  show (cs.drop off).take (k.sz + k'.sz) = _
  rw [List.take_add, List.drop_drop]
theorem rdsF_st {fs : List Field} {off : Nat} (hF : RdsF P fs off k S) : RdsF P fs off (Kd.st k) S := hF
theorem rds_struct {fs : Array Field} (ht : P.underlying t = some (.struct fs)) (hT : TyOk P t k by_) (hF : RdsF P fs.toList 0 k S) : Rds P t k S := fun H enc w base held fuel cs x h hb => by
  obtain ⟨xs, n, _, rfl, hlen, hxl, hx⟩ := DataW.trod_struct ht h
  rw [cellsOf_ty hT] at hlen
  obtain ⟨a, ha, haS⟩ := hF H enc w base held n cs (fun f hf => by
    obtain ⟨i, hi, rfl⟩ := List.getElem_of_mem hf
    have hi' : i < fs.size := by simpa using hi
    have h1 := hx i fs[i] (by simp [hi'])
    rw [List.getElem?_eq_getElem (by omega)] at h1
    refine ⟨xs[i]'(by omega), by simpa using h1, ?_⟩
    have := part_le (l := xs.map (·.1)) (d := (xs[i]'(by omega)).1) (List.mem_map.2 ⟨_, List.getElem_mem _, rfl⟩)
    simp only [Rows.uptoBulk] at hb
    omega)
  rw [List.drop_zero, List.take_of_length_le (by omega)] at ha
  exact ⟨a, ha, haS⟩
theorem rds_ptr (ht : P.underlying t = some (.pointer e)) (hT : TyOk P e k by_) (h0 : Nat.blt 0 k.sz = true) (hR : Rds P e k S) : Rds P t (Kd.ptr k) (smO S) := fun H enc w base held fuel cs x h hb => by
  have h0 : 0 < k.sz := Nat.le_of_ble_eq_true h0
  rcases DataW.trod_pointer ht h with ⟨rfl, rfl⟩ | ⟨a, cs', y, n, _, rfl, rfl, hc, hy⟩
  · exact ⟨none, rfl, fun y h => by cases h⟩
  · rw [cellsOf_ty hT] at hc
    simp only [Rows.uptoBulk] at hb
    obtain ⟨b, hb', hbS⟩ := hR _ _ _ _ _ _ _ _ hy (by omega)
    obtain ⟨hs, e', l, hg, hle, htk⟩ := ghost_cells hc h0
    refine ⟨some b, ⟨_, rfl, a.block, e', l.take a.off, cs', (l.drop a.off).drop k.sz, ?_, ?_, hb'⟩, fun y h => by cases h; exact hbS⟩
    · rw [List.length_take, Nat.min_eq_left (by omega)]
      cases a; simp_all
    · rw [hg, ← htk, List.append_assoc, List.take_append_drop, List.take_append_drop]

/-- an argument, opened -/
theorem open_arg {H : Type} {enc : TypeId × Value → H} {w : World} {r : Reach} {b0 base : Nat} {held : Bool} {v : Value} {d : DataW H} {ps : List MemPlace} (hR : Rds P t k S) (hT : TyOk P t k by_)
    (hval : Value.okWide P w r b0 t v) (h : DataW.Trod enc P w base (fun _ => true) held t v d ps) (hb : Rows.uptoBulk d ≤ 1048576) : ∃ a, k.V (GhostW w) a v ∧ S a := by
  obtain ⟨fuel, h⟩ := h
  obtain ⟨a, ha, haS⟩ := hR _ _ _ _ _ _ _ _ h hb
  refine ⟨a, ⟨v.cells.toList, ha, ?_⟩, haS⟩
  obtain ⟨dd, hd, hagg⟩ := hT.desc
  unfold Value.okWide at hval
  rw [hd] at hval
  cases hk : k.agg with
  | true =>
    rw [hk] at hagg
    have : ∃ cs, v = .agg cs := by
      cases dd <;> first | (cases hagg; done) | (obtain ⟨cs, rfl, _⟩ := hval; exact ⟨cs, rfl⟩)
    obtain ⟨cs, rfl⟩ := this
    simp [Value.cells]
  | false =>
    have hlen := k.len ha
    rw [k.hs hk] at hlen
    have hna : ∀ cs, v ≠ .agg cs := fun cs e => by
      subst e
      rw [hk] at hagg
      cases dd <;> first | (cases hagg; done) | (simp [Cell.okWide, hd, Cell.ok] at hval)
    cases v <;> first | rfl | exact absurd rfl (hna _)
end
section
variable {H : Type} {enc : TypeId × Value → H} {P : Program}
theorem below_of {w w' : World} {K K' : Ghost} (h : Ext NX w K w' K') : Below w.heap.size w w' := ⟨h.os, h.tape, h.output, h.size, fun b hb => h.heap b hb (fun x => x)⟩
theorem trodAll_same {W W' : World} {sp : Nat → Bool} (hl : laidOutB P = true) (hb : Below W.heap.size W W') : ∀ {ts : List TypeId} {vs : List Value} {ds : List (DataW H)} {ps : List MemPlace},
    (ts.all fun t => P.readableRec t && decide (t < P.types.size)) = true → DataW.TrodAll enc P W 0 (fun _ => true) true ts vs ds ps → (∀ p ∈ ps, p.block < W.heap.size) → (∀ p ∈ ps, sp p.block = true) → DataW.TrodAll enc P W' 0 sp true ts vs ds ps
  | [], [], [], ps, _, h, _, _ => h
  | t :: ts, v :: vs, d :: ds, ps, hr, ⟨p, q, h1, h2, e⟩, hlt, hs => by
    subst e
    simp only [List.all_cons, Bool.and_eq_true, decide_eq_true_eq] at hr
    exact ⟨p, q, WideElems.Trod_stays hl hr.1.1 hr.1.2 h1 (fun x hx => hb.same (hlt x (List.mem_append.2 (.inl hx)))) (fun x hx => hs x (List.mem_append.2 (.inl hx))),
      trodAll_same hl hb (ts := ts) hr.2 h2 (fun x hx => hlt x (List.mem_append.2 (.inr hx))) (fun x hx => hs x (List.mem_append.2 (.inr hx))), rfl⟩
  | [], _ :: _, _, _, _, h, _, _ => h.elim
  | [], [], _ :: _, _, _, h, _, _ => h.elim
  | _ :: _, [], _, _, _, h, _, _ => h.elim
  | _ :: _, _ :: _, [], _, _, h, _, _ => h.elim
/-- the end of a law's call: true, and all that was there is as it was -/
theorem post_true {f : Func} {s : ChangeSpec} {apart fresh handsOn again : Bool} {W W' : World} {args : Array Value} {ds gs : List (DataW H)} {before : List MemPlace} {tb : TypeId}
    (hW : DataW.Whole enc P f.params.toList s.vars apart W args.toList ds gs before) (hl : laidOutB P = true) (hr : (f.params.toList.all fun t => P.readableRec t && decide (t < P.types.size)) = true)
    (hrt : f.resultTypes = #[tb]) (htb : P.underlying tb = some .bool) (hs : s.vars = []) (hv : (s.fn H (ds ++ gs)).vars = []) (hres : (s.fn H (ds ++ gs)).results = [.lit (.bool true)]) (hargs : (s.fn H (ds ++ gs)).args = ds)
    (hb : Below W.heap.size W W') : s.post enc P f apart fresh handsOn again W args (.bool true) W' := by
  have hlt : ∀ p ∈ before, p.block < W.heap.size := fun p hp => hW.lt p hp
  have hW' := hW
  obtain ⟨p, q, hA, hV, e, hz, hn⟩ := hW'
  rw [hs] at hV
  have hq : q = [] ∧ gs = [] := by
    cases gs with
    | nil => exact ⟨hV, rfl⟩
    | cons g r => exact hV.elim
  obtain ⟨rfl, rfl⟩ := hq
  rw [List.append_nil] at e
  subst e
  have ht : ∀ (b : Nat) (sp : Nat → Bool) (hd : Bool), DataW.TrodAll enc P W' b sp hd f.resultTypes.toList ((Value.bool true).resultList f.resultTypes.size) (s.fn H (ds ++ [])).results [] := fun b sp hd => by
    rw [hres, hrt]
    exact ⟨[], [], shut_bool htb _, rfl, rfl⟩
  have ha : ∀ sp : Nat → Bool, (∀ p ∈ before, sp p.block = true) → DataW.TrodAll enc P W' 0 sp true f.params.toList args.toList (s.fn H (ds ++ [])).args before := fun sp hsp => by
    rw [hargs]
    exact trodAll_same hl hb hr hA hlt hsp
  have hvs : ∀ sp : Nat → Bool, DataW.TrodVars enc P W' sp s.vars (s.fn H (ds ++ [])).vars [] := fun sp => by
    rw [hs, hv]
    rfl
  have hold : ∀ p ∈ before, (fun b => decide (b < W.heap.size)) p.block = true := fun p hp => by simpa using hlt p hp
  refine ⟨ds, [], before, [], before, [], hW, ht _ _ _, ha _ hold, hvs _, World.keptBut_mono (fun p hp => ⟨hp, ?_⟩) (hb.frame (· ∈ before)), fun _ => ?_⟩
  · exact Or.inr (by simpa using hp)
  · refine ⟨?_, _, _, ([] ++ before) ++ [], ⟨[] ++ before, [], trodAll_append (ha _ (fun _ _ => rfl)) (ht _ _ _), hvs _, rfl, ?_, ?_⟩, ?_⟩
    · exact ok_one hrt rfl (okWide_bool_mk htb _)
    · intro b off hp
      have hin : MemPlace.cell b off ∈ before := by simpa using hp
      rw [hb.frozen (hlt _ hin)]
      exact hz b off hin
    · intro hap
      simpa using hn hap
    · intro p hp _
      simpa using hp
end
end Go.Proofs.Ytkffegaofdpkiaa
