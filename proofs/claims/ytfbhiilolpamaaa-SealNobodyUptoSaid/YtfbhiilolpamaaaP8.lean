/-
  PLAIN 8: SHA-256 as the document says it: words, blocks, the message.
-/
import Derived.Test.YtfbhiilolpamaaaP6
set_option linter.unusedVariables false
namespace Go.Inc
open Go
/-! ### words of 32 bits -/
abbrev b32 (a : Int) : BitVec 32 := BitVec.ofInt 32 a
theorem wr32 (a : Int) : IntKind.u32.wrap a = a % 4294967296 := by
  show _ = a % 4294967296
  unfold IntKind.wrap
  simp [IntKind.signed, IntKind.bits]
theorem wrap_nat32 {n : Nat} (h : n < 4294967296) : IntKind.u32.wrap (n : Int) = (n : Int) := by
  rw [wr32]; omega
theorem bor_b (a b : Int) : bor .u32 a b = ((b32 a ||| b32 b).toNat : Int) := by
  show IntKind.u32.wrap (((b32 a ||| b32 b).toNat : Nat) : Int) = _
  rw [wrap_nat32 (b32 a ||| b32 b).isLt]
theorem bxor_b (a b : Int) : bxor .u32 a b = ((b32 a ^^^ b32 b).toNat : Int) := by
  show IntKind.u32.wrap (((b32 a ^^^ b32 b).toNat : Nat) : Int) = _
  rw [wrap_nat32 (b32 a ^^^ b32 b).isLt]
theorem band_b (a b : Int) : band .u32 a b = ((b32 a &&& b32 b).toNat : Int) := by
  show IntKind.u32.wrap (((b32 a &&& b32 b).toNat : Nat) : Int) = _
  rw [wrap_nat32 (b32 a &&& b32 b).isLt]
theorem b32_nat (x : BitVec 32) : b32 ((x.toNat : Nat) : Int) = x := by
  apply BitVec.eq_of_toNat_eq
  rw [BitVec.toNat_ofInt]
  have := x.isLt
  omega
theorem wf32 {a : Int} (h : (Kd.int .u32).wf a) : 0 ≤ a ∧ a < 4294967296 := by
  have h1 : 0 ≤ a := h.1
  have h2 : a ≤ 4294967295 := h.2
  omega
theorem b32_toNat {a : Int} (h : 0 ≤ a ∧ a < 4294967296) : (b32 a).toNat = a.toNat := by
  rw [BitVec.toNat_ofInt]
  omega
theorem bxor_zero {a : Int} (h : 0 ≤ a ∧ a < 4294967296) : bxor .u32 0 a = a := by
  rw [bxor_b]
  have : b32 0 = 0#32 := by decide
  rw [this, BitVec.zero_xor, b32_toNat h]
  omega
theorem maj_eq (a b c : Int) : bor .u32 (bor .u32 (band .u32 a b) (band .u32 a c)) (band .u32 b c) = bxor .u32 (bxor .u32 (band .u32 a b) (band .u32 a c)) (band .u32 b c) := by
  simp only [bor_b, bxor_b, band_b, b32_nat]
  congr 2
  apply BitVec.eq_of_getLsbD_eq
  intro i hi
  simp only [BitVec.getLsbD_or, BitVec.getLsbD_xor, BitVec.getLsbD_and]
  cases (b32 a).getLsbD i <;> cases (b32 b).getLsbD i <;> cases (b32 c).getLsbD i <;> rfl
theorem ch_eq (a b c : Int) : bor .u32 (band .u32 a b) (band .u32 (bxor .u32 4294967295 a) c) = bxor .u32 (band .u32 a b) (band .u32 (bxor .u32 4294967295 a) c) := by
  simp only [bor_b, bxor_b, band_b, b32_nat]
  congr 2
  have e : b32 4294967295 = BitVec.allOnes 32 := by decide
  rw [e]
  apply BitVec.eq_of_getLsbD_eq
  intro i hi
  simp only [BitVec.getLsbD_or, BitVec.getLsbD_xor, BitVec.getLsbD_and, BitVec.getLsbD_allOnes, hi, decide_true]
  cases (b32 a).getLsbD i <;> cases (b32 b).getLsbD i <;> cases (b32 c).getLsbD i <;> rfl
/-- a word turned to the right -/
def turnR (x n : Int) : Int := IntKind.u32.wrap (IntKind.u32.wrap (Int.tdiv x (2 ^ n.toNat : Int)) + IntKind.u32.wrap (Int.tmod x (2 ^ n.toNat : Int) * (2 ^ (32 - n).toNat : Int)))
theorem parts_nat (X n m : Nat) (hX : X < 4294967296) (hnm : n + m = 32) : X / 2 ^ n < 2 ^ m ∧ X % 2 ^ n * 2 ^ m + 2 ^ m ≤ 4294967296 ∧ X / 2 ^ n ≤ X ∧ X % 2 ^ n * 2 ^ m = X * 2 ^ m % 4294967296 := by
  have hp : (2 : Nat) ^ n * 2 ^ m = 4294967296 := by rw [← Nat.pow_add, hnm]
  have h1 : X / 2 ^ n < 2 ^ m := by
    rw [Nat.div_lt_iff_lt_mul (Nat.two_pow_pos n), Nat.mul_comm, hp]; exact hX
  have h2 : (X % 2 ^ n + 1) * 2 ^ m ≤ 2 ^ n * 2 ^ m := Nat.mul_le_mul_right _ (Nat.mod_lt _ (Nat.two_pow_pos n))
  rw [hp, Nat.add_mul, Nat.one_mul] at h2
  exact ⟨h1, h2, Nat.div_le_self _ _, by rw [← hp, Nat.mul_mod_mul_right]⟩
theorem turnR_nat (X n m : Nat) (hX : X < 4294967296) (hnm : n + m = 32) : turnR (X : Int) (n : Int) = ((X / 2 ^ n + X % 2 ^ n * 2 ^ m : Nat) : Int) := by
  obtain ⟨h1, h2, h3, _⟩ := parts_nat X n m hX hnm
  have e1 : (32 - (n : Int)).toNat = m := by omega
  unfold turnR
  rw [e1, Int.toNat_natCast]
  have c1 : ((2 : Int) ^ n) = ((2 ^ n : Nat) : Int) := by simp
  have c2 : ((2 : Int) ^ m) = ((2 ^ m : Nat) : Int) := by simp
  rw [c1, c2, ← Int.ofNat_tdiv, ← Int.ofNat_tmod, ← Int.natCast_mul]
  generalize X / 2 ^ n = A at *
  generalize X % 2 ^ n * 2 ^ m = B at *
  rw [wrap_nat32 (by omega), wrap_nat32 (by omega), ← Int.natCast_add, wrap_nat32 (by omega)]
theorem rotl_nat (X n m : Nat) (k : Int) (hX : X < 4294967296) (hnm : n + m = 32) (hb : band .u64 (IntKind.u64.wrap k) 31 = (m : Int)) (hw : IntKind.u64.wrap (32 - (m : Int)) = (n : Int)) : rotl (X : Int) k = ((X / 2 ^ n + X % 2 ^ n * 2 ^ m : Nat) : Int) := by
  obtain ⟨h1, h2, h3, h4⟩ := parts_nat X n m hX hnm
  unfold rotl
  rw [hb, hw]
  have e1 : shl .u32 (X : Int) (m : Int) = ((X % 2 ^ n * 2 ^ m : Nat) : Int) := by
    show IntKind.u32.wrap ((X : Int) * 2 ^ (min (m : Int).toNat 32)) = _
    rw [Int.toNat_natCast, Nat.min_eq_left (by omega), wr32]
    have : (X : Int) * 2 ^ m = ((X * 2 ^ m : Nat) : Int) := by simp
    rw [this, h4]
    generalize X * 2 ^ m = Z
    omega
  have e2 : shr .u32 (X : Int) (n : Int) = ((X / 2 ^ n : Nat) : Int) := by
    show (X : Int).fdiv (2 ^ (min (n : Int).toNat 32)) = _
    rw [Int.toNat_natCast, Nat.min_eq_left (by omega)]
    have : ((2 : Int) ^ n) = ((2 ^ n : Nat) : Int) := by simp
    rw [this, Int.fdiv_eq_ediv_of_nonneg _ (Int.natCast_nonneg _)]
    rfl
  rw [e1, e2, bor_b]
  have hor := Nat.shiftLeft_add_eq_or_of_lt h1 (X % 2 ^ n)
  rw [Nat.shiftLeft_eq] at hor
  generalize X / 2 ^ n = A at *
  generalize X % 2 ^ n * 2 ^ m = B at *
  have k1 : (b32 (B : Int)).toNat = B := by rw [b32_toNat (by omega)]; omega
  have k2 : (b32 (A : Int)).toNat = A := by rw [b32_toNat (by omega)]; omega
  rw [BitVec.toNat_or, k1, k2, ← hor, Nat.add_comm]
theorem turn_rotl {x : Int} (hx : 0 ≤ x ∧ x < 4294967296) (n m : Nat) (hnm : n + m = 32) (hb : band .u64 (IntKind.u64.wrap (IntKind.i64.wrap (0 - (n : Int)))) 31 = (m : Int)) (hw : IntKind.u64.wrap (32 - (m : Int)) = (n : Int)) : rotl x (IntKind.i64.wrap (0 - (n : Int))) = turnR x (n : Int) := by
  obtain ⟨X, rfl⟩ := Int.eq_ofNat_of_zero_le hx.1
  rw [turnR_nat X n m (by omega) hnm, rotl_nat X n m _ (by omega) hnm hb hw]
theorem turnR_wf (x n : Int) : 0 ≤ turnR x n ∧ turnR x n < 4294967296 := by
  unfold turnR
  rw [wr32 (_ + _)]
  omega
theorem turns3 {x : Int} (hx : 0 ≤ x ∧ x < 4294967296) (a b c a' b' c' : Nat) (ha : a + a' = 32) (hb : b + b' = 32) (hc : c + c' = 32)
    (h1 : band .u64 (IntKind.u64.wrap (IntKind.i64.wrap (0 - (a : Int)))) 31 = (a' : Int) ∧ IntKind.u64.wrap (32 - (a' : Int)) = (a : Int))
    (h2 : band .u64 (IntKind.u64.wrap (IntKind.i64.wrap (0 - (b : Int)))) 31 = (b' : Int) ∧ IntKind.u64.wrap (32 - (b' : Int)) = (b : Int))
    (h3 : band .u64 (IntKind.u64.wrap (IntKind.i64.wrap (0 - (c : Int)))) 31 = (c' : Int) ∧ IntKind.u64.wrap (32 - (c' : Int)) = (c : Int)) :
    turnsOf x [(a : Int), (b : Int), (c : Int)] = bxor .u32 (bxor .u32 (turnR x a) (turnR x b)) (turnR x c) := by
  simp only [turnsOf, List.foldl_cons, List.foldl_nil]
  rw [turn_rotl hx a a' ha h1.1 h1.2, turn_rotl hx b b' hb h2.1 h2.2, turn_rotl hx c c' hc h3.1 h3.2, bxor_zero (turnR_wf _ _)]
theorem turns2 {x : Int} (hx : 0 ≤ x ∧ x < 4294967296) (a b a' b' : Nat) (ha : a + a' = 32) (hb : b + b' = 32)
    (h1 : band .u64 (IntKind.u64.wrap (IntKind.i64.wrap (0 - (a : Int)))) 31 = (a' : Int) ∧ IntKind.u64.wrap (32 - (a' : Int)) = (a : Int))
    (h2 : band .u64 (IntKind.u64.wrap (IntKind.i64.wrap (0 - (b : Int)))) 31 = (b' : Int) ∧ IntKind.u64.wrap (32 - (b' : Int)) = (b : Int)) :
    turnsOf x [(a : Int), (b : Int)] = bxor .u32 (turnR x a) (turnR x b) := by
  simp only [turnsOf, List.foldl_cons, List.foldl_nil]
  rw [turn_rotl hx a a' ha h1.1 h1.2, turn_rotl hx b b' hb h2.1 h2.2, bxor_zero (turnR_wf _ _)]
section
variable {x : Int} (hx : 0 ≤ x ∧ x < 4294967296)
include hx
theorem turnsA : turnsOf x [6, 11, 25] = bxor .u32 (bxor .u32 (turnR x 6) (turnR x 11)) (turnR x 25) := turns3 hx 6 11 25 26 21 7 rfl rfl rfl (by decide) (by decide) (by decide)
theorem turnsB : turnsOf x [2, 13, 22] = bxor .u32 (bxor .u32 (turnR x 2) (turnR x 13)) (turnR x 22) := turns3 hx 2 13 22 30 19 10 rfl rfl rfl (by decide) (by decide) (by decide)
theorem turnsC : turnsOf x [7, 18] = bxor .u32 (turnR x 7) (turnR x 18) := turns2 hx 7 18 25 14 rfl rfl (by decide) (by decide)
theorem turnsD : turnsOf x [17, 19] = bxor .u32 (turnR x 17) (turnR x 19) := turns2 hx 17 19 15 13 rfl rfl (by decide) (by decide)
theorem shr_tdiv (n : Nat) (hn : n ≤ 32) : shr .u32 x (n : Int) = IntKind.u32.wrap (Int.tdiv x (2 ^ n : Int)) := by
  obtain ⟨X, rfl⟩ := Int.eq_ofNat_of_zero_le hx.1
  show (X : Int).fdiv (2 ^ (min (n : Int).toNat 32)) = _
  rw [Int.toNat_natCast, Nat.min_eq_left hn]
  have : ((2 : Int) ^ n) = ((2 ^ n : Nat) : Int) := by simp
  have hle : X / 2 ^ n ≤ X := Nat.div_le_self _ _
  rw [this, Int.fdiv_eq_ediv_of_nonneg _ (Int.natCast_nonneg _), ← Int.ofNat_tdiv]
  show ((X / 2 ^ n : Nat) : Int) = _
  generalize X / 2 ^ n = A at *
  rw [wrap_nat32 (by omega)]
end
/-! ### blocks -/
def accB (b : List UInt8) (i : Int) : Nat → Int
  | 0 => 0
  | m + 1 => 256 * accB b i m + bI (ix b (4 * i + (m : Int)))
theorem bI_lt (c : UInt8) : 0 ≤ bI c ∧ bI c < 256 := by
  have : c.toNat < 256 := c.toNat_lt
  unfold bI
  omega
theorem shl_nat (X m : Nat) (h : X * 2 ^ m < 4294967296) (hm : m ≤ 32) : shl .u32 (X : Int) (m : Int) = ((X * 2 ^ m : Nat) : Int) := by
  show IntKind.u32.wrap ((X : Int) * 2 ^ (min (m : Int).toNat 32)) = _
  rw [Int.toNat_natCast, Nat.min_eq_left hm]
  have : (X : Int) * 2 ^ m = ((X * 2 ^ m : Nat) : Int) := by simp
  rw [this, wrap_nat32 h]
theorem bor_nat (a m c : Nat) (hc : c < 2 ^ m) (h : a * 2 ^ m + c < 4294967296) : bor .u32 ((a * 2 ^ m : Nat) : Int) (c : Int) = ((a * 2 ^ m + c : Nat) : Int) := by
  rw [bor_b, BitVec.toNat_or, b32_toNat (by omega), b32_toNat (by omega), Int.toNat_natCast, Int.toNat_natCast]
  congr 1
  have := Nat.shiftLeft_add_eq_or_of_lt hc a
  rw [Nat.shiftLeft_eq] at this
  exact this.symm
theorem wordAt_acc (b : List UInt8) (i : Int) : wordAt b i = accB b i 4 := by
  have h0 := bI_lt (ix b (4 * i))
  have h1 := bI_lt (ix b (4 * i + 1))
  have h2 := bI_lt (ix b (4 * i + 2))
  have h3 := bI_lt (ix b (4 * i + 3))
  have e : accB b i 4 = 16777216 * bI (ix b (4 * i)) + 65536 * bI (ix b (4 * i + 1)) + 256 * bI (ix b (4 * i + 2)) + bI (ix b (4 * i + 3)) := by
    simp only [accB]
    have a0 : (4 * i + ((0 : Nat) : Int)) = 4 * i := by omega
    have a1 : (4 * i + ((1 : Nat) : Int)) = 4 * i + 1 := by omega
    have a2 : (4 * i + ((2 : Nat) : Int)) = 4 * i + 2 := by omega
    have a3 : (4 * i + ((3 : Nat) : Int)) = 4 * i + 3 := by omega
    rw [a0, a1, a2, a3]
    omega
  rw [e]
  unfold wordAt
  obtain ⟨A, hA⟩ := Int.eq_ofNat_of_zero_le h0.1
  obtain ⟨B, hB⟩ := Int.eq_ofNat_of_zero_le h1.1
  obtain ⟨C, hC⟩ := Int.eq_ofNat_of_zero_le h2.1
  obtain ⟨D, hD⟩ := Int.eq_ofNat_of_zero_le h3.1
  rw [hA] at h0 ⊢; rw [hB] at h1 ⊢; rw [hC] at h2 ⊢; rw [hD] at h3 ⊢
  have s1 := shl_nat A 24 (by omega) (by omega)
  have s2 := shl_nat B 16 (by omega) (by omega)
  have s3 := shl_nat C 8 (by omega) (by omega)
  have t1 := bor_nat A 24 (B * 2 ^ 16) (by omega) (by omega)
  have t2 := bor_nat (A * 2 ^ 8 + B) 16 (C * 2 ^ 8) (by omega) (by omega)
  have t3 := bor_nat (A * 2 ^ 16 + B * 2 ^ 8 + C) 8 D (by omega) (by omega)
  rw [show ((24 : Int)) = ((24 : Nat) : Int) from rfl, show ((16 : Int)) = ((16 : Nat) : Int) from rfl, show ((8 : Int)) = ((8 : Nat) : Int) from rfl, s1, s2, s3, t1]
  rw [show A * 2 ^ 24 + B * 2 ^ 16 = (A * 2 ^ 8 + B) * 2 ^ 16 by omega, t2]
  rw [show (A * 2 ^ 8 + B) * 2 ^ 16 + C * 2 ^ 8 = (A * 2 ^ 16 + B * 2 ^ 8 + C) * 2 ^ 8 by omega, t3]
  omega
theorem wordsN_len (b : List UInt8) : ∀ n, (wordsN b n).length = 64
  | 0 => by simp [wordsN]
  | n + 1 => by simp [wordsN, wordsN_len b n]
theorem wordsN_step (b : List UInt8) {n : Nat} (h : n < 64) : (wordsN b (n + 1)).take (n + 1) = (wordsN b n).take n ++ [if n < 16 then wordAt b n else wordOn (wordsN b n) n] := by
  have hl := wordsN_len b n
  show ((wordsN b n).set n _).take (n + 1) = _
  rw [List.take_add_one, List.take_set_of_le (Nat.le_refl n)]
  congr 1
  simp [hl, h]
theorem ix_take {α : Type} [Inhabited α] {l : List α} {n : Nat} {i : Int} (h : i.toNat < n) : ix (l.take n) i = ix l i := by
  unfold ix
  simp only [List.getD_eq_getElem?_getD, List.getElem?_take, if_pos h]
/-- k blocks of m, taken one after another -/
def blkN (s : List Int) (m : List UInt8) : Nat → List Int
  | 0 => s
  | k + 1 => takeW (blkN s m k) ((m.drop (64 * k)).take 64)
theorem addN_len (s x : List Int) : ∀ n, (addN s x n).length = s.length
  | 0 => rfl
  | n + 1 => by simp [addN, addN_len s x n]
theorem addN_get {s x : List Int} (hs : s.length = 8) : ∀ m j : Nat, m ≤ 8 → j < 8 → (addN s x m)[j]? = some (if j < m then IntKind.u32.wrap (ix s (j : Int) + ix x (j : Int)) else ix s (j : Int)) := fun m => by
  induction m with
  | zero =>
    intro j _ hj
    show s[j]? = _
    rw [if_neg (by omega), List.getElem?_eq_getElem (by omega), ix_of_lt (by omega)]
    rfl
  | succ m ih =>
    intro j hm hj
    have hl : (addN s x m).length = 8 := by rw [addN_len, hs]
    show ((addN s x m).set m (IntKind.u32.wrap (ix (addN s x m) (m : Int) + ix x (m : Int))))[j]? = _
    have hi : ix (addN s x m) (m : Int) = ix s (m : Int) := by
      have h := ih m (by omega) (by omega)
      rw [if_neg (by omega)] at h
      unfold ix at h ⊢
      simp only [List.getD_eq_getElem?_getD, Int.toNat_natCast] at h ⊢
      rw [h]
      rfl
    rw [hi, List.getElem?_set]
    by_cases h : m = j
    · subst h
      rw [if_pos rfl, if_pos (by omega), if_pos (by omega)]
    · rw [if_neg h, ih j (by omega) hj]
      congr 1
      by_cases h2 : j < m
      · rw [if_pos h2, if_pos (by omega)]
      · rw [if_neg h2, if_neg (by omega)]
theorem takeW_len (s : List Int) (b : List UInt8) : (takeW s b).length = s.length := addN_len _ _ _
theorem blkN_len (s : List Int) (m : List UInt8) : ∀ k, (blkN s m k).length = s.length
  | 0 => rfl
  | k + 1 => by simp [blkN, takeW_len, blkN_len s m k]
theorem blkN_shift (s : List Int) (m : List UInt8) : ∀ k, blkN (takeW s (m.take 64)) (m.drop 64) k = blkN s m (k + 1)
  | 0 => by simp [blkN]
  | k + 1 => by
    rw [blkN, blkN_shift s m k, List.drop_drop]
    show takeW (blkN s m (k + 1)) _ = takeW (blkN s m (k + 1)) _
    rw [show 64 + 64 * k = 64 * (k + 1) by omega]
theorem blkN_add (s : List Int) (m : List UInt8) (a : Nat) : ∀ b, blkN s m (a + b) = blkN (blkN s m a) (m.drop (64 * a)) b
  | 0 => rfl
  | b + 1 => by
    show takeW (blkN s m (a + b)) _ = takeW _ _
    rw [blkN_add s m a b, List.drop_drop, show 64 * a + 64 * b = 64 * (a + b) by omega]
    rfl
theorem blkN_app (s : List Int) (m t : List UInt8) : ∀ k, 64 * k ≤ m.length → blkN s (m ++ t) k = blkN s m k
  | 0, _ => rfl
  | k + 1, h => by
    show takeW (blkN s (m ++ t) k) _ = takeW _ _
    rw [blkN_app s m t k (by omega), List.drop_append_of_le_length (by omega), List.take_append_of_le_length (by rw [List.length_drop]; omega)]
theorem eat_is : ∀ (q : Nat) (s : List Int) (n : Nat) (r : List UInt8), r.length / 64 = q → n + q < 9223372036854775808 →
    eat s (n : Int) r = (if q = 0 then s else blkN (if n = 0 then shaH else s) r q, ((n + q : Nat) : Int), r.drop (64 * q))
  | 0, s, n, r, hq, hn => by
    unfold eat
    rw [if_neg (by omega)]
    simp
  | q + 1, s, n, r, hq, hn => by
    have hw : IntKind.u64.wrap ((n : Int) + 1) = ((n + 1 : Nat) : Int) := wrap_id ⟨by show (0 : Int) ≤ _; omega, by show _ ≤ (18446744073709551615 : Int); omega⟩
    have ih := eat_is q (takeW (if n = 0 then shaH else s) (r.take 64)) (n + 1) (r.drop 64) (by rw [List.length_drop]; omega) (by omega)
    unfold eat
    rw [if_pos (by omega), hw]
    have hif : (if (n : Int) = 0 then shaH else s) = (if n = 0 then shaH else s) := by
      by_cases h : n = 0
      · simp [h]
      · rw [if_neg h, if_neg (by omega)]
    rw [hif, ih, List.drop_drop, if_neg (show ¬ (q + 1 = 0) by omega), if_neg (show ¬ (n + 1 = 0) by omega)]
    rw [show n + 1 + q = n + (q + 1) by omega, show 64 + 64 * q = 64 * (q + 1) by omega, blkN_shift]
    by_cases h : q = 0
    · subst h
      simp [blkN]
    · rw [if_neg h]
/-! ### the message -/
def zerosN (n : Nat) : Nat := (119 - n % 64) % 64
def msgOf (b : List UInt8) : List UInt8 := b ++ ([toB 128] ++ (List.replicate (zerosN b.length) 0 ++ be (8 * b.length) 8))
theorem msgOf_len (b : List UInt8) : (msgOf b).length = b.length + (1 + (zerosN b.length + 8)) := by simp [msgOf, be_length]; omega
theorem sha256_msg (l : List (List UInt8)) (h : l.flatten.length ≤ 70368744177664) : sha256 l = sumN (blkN shaH (msgOf l.flatten) ((msgOf l.flatten).length / 64)) 8 := by
  generalize hm : l.flatten = m at h
  have e1 : hWrite ((List.replicate 8 0), 0, []) l = eat (List.replicate 8 0) ((0 : Nat) : Int) m := by simp [hWrite, hm]
  unfold sha256
  rw [e1, eat_is (m.length / 64) _ 0 m rfl (by omega)]
  simp only [Nat.zero_add, if_true]
  generalize hq : m.length / 64 = q
  unfold hSum
  have ht : (m.drop (64 * q)).length = m.length - 64 * q := List.length_drop
  have hlen : hLen (if q = 0 then List.replicate 8 0 else blkN shaH m q, (q : Int), m.drop (64 * q)) = (m.length : Int) := by
    unfold hLen
    simp only [ht]
    have w : ∀ a : Int, 0 ≤ a → a < 9223372036854775808 → IntKind.u64.wrap a = a := fun a h1 h2 => wrap_id ⟨by show (0 : Int) ≤ _; omega, by show _ ≤ (18446744073709551615 : Int); omega⟩
    rw [w (64 * (q : Int)) (by omega) (by omega), w ((m.length - 64 * q : Nat) : Int) (by omega) (by omega), w _ (by omega) (by omega)]
    omega
  have hpad : (padOf (if q = 0 then List.replicate 8 0 else blkN shaH m q, (q : Int), m.drop (64 * q))).flatten = [toB 128] ++ (List.replicate (zerosN m.length) 0 ++ be (8 * m.length) 8) := by
    unfold padOf
    rw [hlen]
    simp only [ht]
    have w8 : IntKind.u64.wrap (8 * (m.length : Int)) = ((8 * m.length : Nat) : Int) := by
      rw [wrap_id ⟨by show (0 : Int) ≤ _; omega, by show _ ≤ (18446744073709551615 : Int); omega⟩]; omega
    have w9 : IntKind.i64.wrap (119 - ((m.length - 64 * q : Nat) : Int)) = 119 - ((m.length - 64 * q : Nat) : Int) := wrap_id (wf64 (by omega) (by omega))
    have hz : (Int.tmod (119 - ((m.length - 64 * q : Nat) : Int)) 64).toNat = zerosN m.length := by
      rw [Int.tmod_eq_emod_of_nonneg (by omega)]
      unfold zerosN
      omega
    rw [w8, w9, hz, Int.toNat_natCast]
    simp
  have hw : (hWrite (if q = 0 then List.replicate 8 0 else blkN shaH m q, (q : Int), m.drop (64 * q)) (padOf (if q = 0 then List.replicate 8 0 else blkN shaH m q, (q : Int), m.drop (64 * q)))) =
      eat (if q = 0 then List.replicate 8 0 else blkN shaH m q) ((q : Nat) : Int) (m.drop (64 * q) ++ ([toB 128] ++ (List.replicate (zerosN m.length) 0 ++ be (8 * m.length) 8))) := by
    simp only [hWrite, hpad]
  rw [hw]
  have hl2 : (m.drop (64 * q) ++ ([toB 128] ++ (List.replicate (zerosN m.length) 0 ++ be (8 * m.length) 8))).length = m.length - 64 * q + (1 + (zerosN m.length + 8)) := by simp [be_length]; omega
  have hz : zerosN m.length < 64 := by unfold zerosN; omega
  have hmod : (m.length - 64 * q + (1 + (zerosN m.length + 8))) / 64 ≠ 0 := by unfold zerosN; omega
  rw [eat_is ((m.length - 64 * q + (1 + (zerosN m.length + 8))) / 64) _ q _ (by rw [hl2]) (by omega)]
  simp only [if_neg hmod]
  congr 1
  rw [msgOf_len, show (m.length + (1 + (zerosN m.length + 8))) / 64 = q + (m.length - 64 * q + (1 + (zerosN m.length + 8))) / 64 by omega, blkN_add]
  have hd : (msgOf m).drop (64 * q) = m.drop (64 * q) ++ ([toB 128] ++ (List.replicate (zerosN m.length) 0 ++ be (8 * m.length) 8)) := by
    unfold msgOf
    rw [List.drop_append_of_le_length (by omega)]
  have hb : blkN shaH (msgOf m) q = blkN shaH m q := blkN_app _ _ _ _ (by omega)
  rw [hd, hb]
  by_cases h0 : q = 0
  · subst h0; simp [blkN]
  · rw [if_neg h0, if_neg h0]
/-- byte i of eight words -/
def outB (x : List Int) (i : Nat) : UInt8 := UInt8.ofNat ((ix x ((i / 4 : Nat) : Int)).toNat / 2 ^ (24 - i % 4 * 8))
theorem sumN_outs (x : List Int) : ∀ n, n ≤ 8 → sumN x n = (List.range (4 * n)).map (outB x) ++ List.replicate (32 - 4 * n) 0
  | 0, _ => by simp [sumN]
  | n + 1, h => by
    have ih := sumN_outs x n (by omega)
    have he : (be (ix x (n : Int)).toNat 8).drop 4 = [UInt8.ofNat ((ix x (n : Int)).toNat / 2 ^ 24), UInt8.ofNat ((ix x (n : Int)).toNat / 2 ^ 16), UInt8.ofNat ((ix x (n : Int)).toNat / 2 ^ 8), UInt8.ofNat ((ix x (n : Int)).toNat / 2 ^ 0)] := rfl
    have ho : ∀ j, j < 4 → outB x (4 * n + j) = UInt8.ofNat ((ix x (n : Int)).toNat / 2 ^ (24 - j * 8)) := fun j hj => by
      unfold outB
      rw [show (4 * n + j) / 4 = n by omega, show (4 * n + j) % 4 = j by omega]
    have o0 := ho 0 (by omega)
    have o1 := ho 1 (by omega)
    have o2 := ho 2 (by omega)
    have o3 := ho 3 (by omega)
    simp only [Nat.zero_mul, Nat.one_mul, Nat.sub_zero, Nat.add_zero] at o0 o1 o2 o3
    have hr : (List.range (4 * (n + 1))).map (outB x) = (List.range (4 * n)).map (outB x) ++ (be (ix x (n : Int)).toNat 8).drop 4 := by
      rw [show 4 * (n + 1) = 4 * n + 1 + 1 + 1 + 1 by omega, List.range_succ, List.range_succ, List.range_succ, List.range_succ, he]
      simp only [List.map_append, List.map_cons, List.map_nil, List.append_assoc, List.cons_append, List.nil_append]
      rw [o0, o1, show 4 * n + 1 + 1 = 4 * n + 2 by omega, o2, show 4 * n + 2 + 1 = 4 * n + 3 by omega, o3]
    have hl4 : ((be (ix x (n : Int)).toNat 8).drop 4).length = 4 := rfl
    rw [hr]
    show (sumN x n).take (4 * n) ++ ((be (ix x (n : Int)).toNat 8).drop 4).take (32 - 4 * n) ++ (sumN x n).drop (4 * n + min ((be (ix x (n : Int)).toNat 8).drop 4).length (32 - 4 * n)) = _
    have hlr : ((List.range (4 * n)).map (outB x)).length = 4 * n := by simp
    rw [ih]
    clear hr o0 o1 o2 o3 ho he ih
    generalize (List.range (4 * n)).map (outB x) = L at *
    generalize (be (ix x (n : Int)).toNat 8).drop 4 = D at *
    rw [hl4, Nat.min_eq_left (by omega), List.take_of_length_le (l := D) (by omega), List.take_append_of_le_length (by omega), List.take_of_length_le (l := L) (by omega), List.drop_append, List.drop_of_length_le (l := L) (by omega), hlr, List.drop_replicate, List.nil_append]
    congr 2
    omega
theorem sumN_out (x : List Int) : sumN x 8 = (List.range 32).map (outB x) := by
  rw [sumN_outs x 8 (by omega)]
  simp
end Go.Inc
