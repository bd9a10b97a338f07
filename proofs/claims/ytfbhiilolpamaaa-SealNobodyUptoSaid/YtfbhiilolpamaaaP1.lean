/-
  PLAIN 1: numbers and blobs as bytes.
-/
import Derived.Test.YtfbhiilolpamaaaB19
set_option linter.unusedVariables false
namespace Go.Inc
open Go Go.RowKit

/-- how many binary digits -/
def blen (n : Nat) : Nat := if n = 0 then 0 else blen (n / 2) + 1
termination_by n
decreasing_by omega
theorem blen_zero : blen 0 = 0 := by rw [blen]; simp
theorem blen_pos {n : Nat} (h : 0 < n) : blen n = blen (n / 2) + 1 := by
  rw [blen]
  simp [show n ≠ 0 by omega]
theorem blen_shift : ∀ (k : Nat) {n : Nat}, 2 ^ k ≤ n → blen n = k + blen (n / 2 ^ k)
  | 0, n, h => by simp
  | k + 1, n, h => by
    have hp : 0 < 2 ^ k := Nat.pow_pos (by omega)
    have h2 : 2 ^ k ≤ n / 2 := by rw [Nat.le_div_iff_mul_le (by omega)]; rw [Nat.pow_succ] at h; exact h
    rw [blen_pos (by omega), blen_shift k h2, Nat.div_div_eq_div_mul, Nat.pow_succ, Nat.mul_comm 2]
    omega
def blen8 : List UInt8 := (List.range 256).map fun n => UInt8.ofNat (blenF 8 n)
where blenF : Nat → Nat → Nat
  | 0, _ => 0
  | f + 1, n => bif Nat.beq n 0 then 0 else blenF f (n / 2) + 1
theorem blenF_eq : ∀ (f n : Nat), n < 2 ^ f → blen8.blenF f n = blen n
  | 0, n, h => by
    have : n = 0 := by simpa using h
    subst this
    simp [blen8.blenF, blen_zero]
  | f + 1, n, h => by
    rw [blen8.blenF]
    by_cases h0 : n = 0
    · subst h0; simp [blen_zero]
    · have : Nat.beq n 0 = false := by
        cases n with
        | zero => exact absurd rfl h0
        | succ n => rfl
      rw [this, blen_pos (by omega), cond_false, blenF_eq f (n / 2) (by rw [Nat.pow_succ] at h; omega)]
theorem blen_lt {n : Nat} : ∀ (f : Nat), n < 2 ^ f → blen n ≤ f
  | f, h => by
    rw [← blenF_eq f n h]
    clear h
    induction f generalizing n with
    | zero => simp [blen8.blenF]
    | succ f ih =>
      rw [blen8.blenF]
      cases Nat.beq n 0
      · simpa using ih (n := n / 2)
      · simp
theorem blen8_ix {r : Int} (h0 : 0 ≤ r) (h1 : r < 256) : bI (ix blen8 r) = (blen r.toNat : Int) := by
  have hr : r.toNat < 256 := by omega
  unfold ix
  have hl : r.toNat < blen8.length := by simpa [blen8] using (show r < 256 from h1)
  rw [List.getD_eq_getElem?_getD, List.getElem?_eq_getElem hl]
  simp only [blen8, List.getElem_map, List.getElem_range, Option.getD_some]
  rw [blenF_eq 8 _ (by simpa using hr)]
  have := blen_lt 8 (n := r.toNat) (by simpa using hr)
  unfold bI
  rw [UInt8.toNat_ofNat_of_lt' (by show blen r.toNat < 256; omega)]
theorem shr_div {a : Int} {k : Nat} (h : 0 ≤ a) (hk : k ≤ 64) : shr .u64 a (k : Int) = a / (2 : Int) ^ k := by
  unfold shr
  rw [Int.fdiv_eq_ediv_of_nonneg _ (Int.pow_nonneg (by omega))]
  simp [IntKind.bits, Nat.min_eq_left hk]
theorem u8_wrap {y : Int} (h0 : 0 ≤ y) (h1 : y < 256) : IntKind.u8.wrap y = y := wrap_id ⟨h0, by show y ≤ (255 : Int); omega⟩
theorem len_leaf {x y : Nat} {k : Nat} {c : Int} (h1 : y < 256) (hk : k ≤ 56) (hb : blen x = k + blen y) (hc : c = (k : Int)) {tab : List UInt8} (ht : tab = blen8) :
    (0 ≤ IntKind.u8.wrap (y : Int) ∧ IntKind.u8.wrap (y : Int) < (tab.length : Int)) ∧ IntKind.i64.wrap (c + bI (ix tab (IntKind.u8.wrap (y : Int)))) = (blen x : Int) := by
  subst ht
  rw [u8_wrap (by omega) (by omega)]
  have hl : blen8.length = 256 := by simp [blen8]
  refine ⟨⟨by omega, by rw [hl]; omega⟩, ?_⟩
  rw [blen8_ix (by omega) (by omega), Int.toNat_natCast]
  have := blen_lt 8 (n := y) h1
  rw [wrap_id (wf64 (by omega) (by omega)), hb, hc]
  omega
theorem shr_nat {n k : Nat} (hk : k ≤ 64) : shr .u64 (n : Int) (k : Int) = ((n / 2 ^ k : Nat) : Int) := by
  rw [shr_div (by omega) hk]
  rw [Int.natCast_ediv, Int.natCast_pow]
  rfl
end Go.Inc
namespace Go.Inc
/-- k bytes of n, the highest first -/
def be (n : Nat) : Nat → List UInt8
  | 0 => []
  | k + 1 => UInt8.ofNat (n / 2 ^ (8 * k)) :: be n k
def numB (n : Nat) : List UInt8 := let k := (blen n + 7) / 8; UInt8.ofNat k :: be n k
def numAll (l : List Int) : List UInt8 := l.flatMap fun x => numB x.toNat
def blobAll (l : List (List UInt8)) : List UInt8 := l.flatMap fun x => numB x.length ++ x
def blobRoom (l : List (List UInt8)) : Nat := (l.map fun x => x.length + 9).sum
def preimage (k : Int) (l : List (List UInt8)) : List UInt8 := toB (IntKind.u8.wrap k) :: blobAll l
theorem be_length (n : Nat) : ∀ k, (be n k).length = k
  | 0 => rfl
  | k + 1 => by simp [be, be_length n k]
theorem numB_length {n : Nat} (h : n < 2 ^ 64) : (numB n).length ≤ 9 := by
  have := blen_lt 64 h
  simp only [numB, List.length_cons, be_length]
  omega
theorem blobAll_length : ∀ (l : List (List UInt8)), (∀ x ∈ l, x.length < 2 ^ 64) → (blobAll l).length ≤ blobRoom l
  | [], _ => by simp [blobAll, blobRoom]
  | x :: l, h => by
    have h1 := numB_length (h x (by simp))
    have ih := blobAll_length l fun y hy => h y (by simp [hy])
    simp only [blobAll, blobRoom, List.flatMap_cons, List.map_cons, List.sum_cons, List.length_append] at *
    omega
end Go.Inc
namespace Go.Inc
open Go
/-- how far a loop over a list has come -/
theorem take_step {α : Type} [Inhabited α] {l : List α} {j : Nat} (h : (j : Int) < (l.length : Int)) : l.take (j + 1) = l.take j ++ [ix l (j : Int)] := by
  have hj : j < l.length := by omega
  rw [ix_of_lt (by simpa using hj), List.take_succ_eq_append_getElem hj]
  rfl
theorem ix_mem {α : Type} [Inhabited α] {l : List α} {i : Int} (h0 : 0 ≤ i) (h : i < (l.length : Int)) : ix l i ∈ l := by
  rw [ix_of_lt (by omega)]
  exact List.getElem_mem _
theorem blobRoom_take {l : List (List UInt8)} (j : Nat) : blobRoom (l.take j) ≤ blobRoom l := by
  unfold blobRoom
  rw [List.map_take]
  generalize l.map (fun x => x.length + 9) = m
  induction m generalizing j with
  | nil => simp
  | cons a m ih => cases j with
    | zero => simp
    | succ j => simpa using ih j
theorem blobRoom_step {l : List (List UInt8)} {j : Nat} (h : (j : Int) < (l.length : Int)) : blobRoom (l.take j) + ((ix l (j : Int)).length + 9) ≤ blobRoom l := by
  have := blobRoom_take (l := l) (j + 1)
  rw [take_step h] at this
  simpa [blobRoom] using this
end Go.Inc
namespace Go.Inc
open Go
theorem u8_mod {y : Nat} : toB (IntKind.u8.wrap (y : Int)) = UInt8.ofNat y := by
  have h : IntKind.u8.wrap (y : Int) = ((y % 256 : Nat) : Int) := by
    simp [IntKind.wrap, IntKind.signed, IntKind.bits]
  rw [h]
  unfold toB
  rw [Int.toNat_natCast]
  apply UInt8.toNat_inj.1
  simp
theorem byte_at {n m : Nat} (h : 8 * m ≤ 64) : toB (IntKind.u8.wrap (shr .u64 (n : Int) ((8 * m : Nat) : Int))) = UInt8.ofNat (n / 2 ^ (8 * m)) := by
  rw [shr_nat h, u8_mod]
theorem num_k {n : Nat} (h : blen n ≤ 64) : IntKind.i64.wrap (Int.tdiv (IntKind.i64.wrap ((blen n : Int) + 7)) 8) = (((blen n + 7) / 8 : Nat) : Int) := by
  rw [wrap_id (a := (blen n : Int) + 7) (wf64 (by omega) (by omega))]
  have h1 : Int.tdiv ((blen n : Int) + 7) 8 = (((blen n + 7) / 8 : Nat) : Int) := by
    rw [Int.tdiv_eq_ediv_of_nonneg (by omega)]
    omega
  rw [h1, wrap_id (wf64 (by omega) (by omega))]
end Go.Inc
namespace Go.Inc
open Go
theorem flat_take {l : List (List UInt8)} (j : Nat) : (l.take j).flatten.length ≤ l.flatten.length := by
  induction l generalizing j with
  | nil => simp
  | cons a l ih => cases j with
    | zero => simp
    | succ j =>
      have := ih j
      simp only [List.take_succ_cons, List.flatten_cons, List.length_append]
      omega
theorem flat_step {l : List (List UInt8)} {j : Nat} (h : (j : Int) < (l.length : Int)) : (l.take (j + 1)).flatten = (l.take j).flatten ++ ix l (j : Int) := by
  rw [take_step h]
  simp
end Go.Inc
