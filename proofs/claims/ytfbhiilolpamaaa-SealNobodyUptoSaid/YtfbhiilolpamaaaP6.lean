/-
  PLAIN 6: what stands in a preimage is told by it.
-/
import Derived.Test.YtfbhiilolpamaaaP5
set_option linter.unusedVariables false
namespace Go.Inc
open Go
/-- the number that bytes are -/
def valB : List UInt8 → Nat
  | [] => 0
  | c :: l => c.toNat * 256 ^ l.length + valB l
theorem pow8 (k : Nat) : 2 ^ (8 * k) = 256 ^ k := by rw [Nat.pow_mul]
theorem valB_be (n : Nat) : ∀ k, valB (be n k) = n % 256 ^ k
  | 0 => by simp [be, valB, Nat.mod_one]
  | k + 1 => by
    simp only [be, valB, be_length, valB_be n k, UInt8.toNat_ofNat', pow8]
    show n / 256 ^ k % 256 * 256 ^ k + n % 256 ^ k = n % (256 ^ k * 256)
    rw [Nat.mod_mul, Nat.add_comm, Nat.mul_comm (256 ^ k)]
theorem lt_blen (n : Nat) : n < 2 ^ blen n := by
  induction n using Nat.strongRecOn with
  | _ n ih =>
    rcases Nat.eq_zero_or_pos n with rfl | h
    · rw [blen_zero]; simp
    · rw [blen_pos h, Nat.pow_succ]
      have := ih (n / 2) (by omega)
      omega
theorem lt_numB (n : Nat) : n < 256 ^ ((blen n + 7) / 8) := by
  rw [← pow8]
  exact Nat.lt_of_lt_of_le (lt_blen n) (Nat.pow_le_pow_right (by omega) (by omega))
theorem numB_inj {n m : Nat} (hn : n < 2 ^ 64) (hm : m < 2 ^ 64) {x y : List UInt8} (h : numB n ++ x = numB m ++ y) : n = m ∧ x = y := by
  have k1 := blen_lt 64 hn
  have k2 := blen_lt 64 hm
  simp only [numB, List.cons_append, List.cons.injEq] at h
  obtain ⟨h1, h2⟩ := h
  have hk : (blen n + 7) / 8 = (blen m + 7) / 8 := by
    have := congrArg UInt8.toNat h1
    rw [UInt8.toNat_ofNat_of_lt' (by show _ < 256; omega), UInt8.toNat_ofNat_of_lt' (by show _ < 256; omega)] at this
    exact this
  have h3 := List.append_inj h2 (by rw [be_length, be_length, hk])
  have h4 := congrArg valB h3.1
  have l1 := lt_numB n
  have l2 := lt_numB m
  rw [valB_be, valB_be, Nat.mod_eq_of_lt l1, Nat.mod_eq_of_lt l2] at h4
  exact ⟨h4, h3.2⟩
theorem numB_ne (n : Nat) (x : List UInt8) : numB n ++ x ≠ [] := by simp [numB]
theorem blobAll_inj : ∀ {a b : List (List UInt8)}, (∀ x ∈ a, x.length < 2 ^ 64) → (∀ x ∈ b, x.length < 2 ^ 64) → blobAll a = blobAll b → a = b
  | [], [], _, _, _ => rfl
  | [], y :: b, _, _, h => by
    have h2 : blobAll (y :: b) = numB y.length ++ (y ++ blobAll b) := by simp [blobAll]
    rw [h2] at h
    exact absurd h.symm (numB_ne _ _)
  | x :: a, [], _, _, h => by
    have h2 : blobAll (x :: a) = numB x.length ++ (x ++ blobAll a) := by simp [blobAll]
    rw [h2] at h
    exact absurd h (numB_ne _ _)
  | x :: a, y :: b, ha, hb, h => by
    have h1 : blobAll (x :: a) = numB x.length ++ (x ++ blobAll a) := by simp [blobAll]
    have h2 : blobAll (y :: b) = numB y.length ++ (y ++ blobAll b) := by simp [blobAll]
    rw [h1, h2] at h
    obtain ⟨hl, h3⟩ := numB_inj (ha x (by simp)) (hb y (by simp)) h
    obtain ⟨h4, h5⟩ := List.append_inj h3 hl
    rw [h4, blobAll_inj (fun z hz => ha z (by simp [hz])) (fun z hz => hb z (by simp [hz])) h5]
theorem band255 (a : Int) : band .i64 a 255 = a % 256 := by
  have h1 : (BitVec.ofInt 64 a &&& BitVec.ofInt 64 255).toNat = (a % 256).toNat := by
    have h255 : BitVec.ofInt 64 255 = 255#64 := by decide
    rw [h255, BitVec.toNat_and, BitVec.toNat_ofInt]
    have : (255#64).toNat = 2 ^ 8 - 1 := by decide
    rw [this, Nat.and_two_pow_sub_one_eq_mod]
    omega
  unfold band
  show IntKind.i64.wrap (((BitVec.ofInt 64 a &&& BitVec.ofInt 64 255).toNat : Nat) : Int) = _
  rw [h1, wrap_id (wf64 (by omega) (by omega))]
  omega
theorem kindByte (a b : Int) : toB (IntKind.u8.wrap a) = toB (IntKind.u8.wrap b) ↔ a % 256 = b % 256 := by
  have e : ∀ x : Int, bI (toB (IntKind.u8.wrap x)) = x % 256 := fun x => by
    rw [bI_toB (wrap_wf .u8 x)]
    rfl
  constructor
  · intro h
    rw [← e a, ← e b, h]
  · intro h
    rw [← toB_bI (toB (IntKind.u8.wrap a)), ← toB_bI (toB (IntKind.u8.wrap b)), e, e, h]
theorem preimage_inj {k o : Int} {a b : List (List UInt8)} (ha : ∀ x ∈ a, x.length < 2 ^ 64) (hb : ∀ x ∈ b, x.length < 2 ^ 64) : preimage k a = preimage o b ↔ k % 256 = o % 256 ∧ a = b := by
  simp only [preimage, List.cons.injEq, kindByte]
  exact ⟨fun ⟨h1, h2⟩ => ⟨h1, blobAll_inj ha hb h2⟩, fun ⟨h1, h2⟩ => ⟨h1, by rw [h2]⟩⟩
theorem room_light {l : List Act} (h : light l) {a : Act} (ha : a ∈ l) : blobRoom a.2.2.1 ≤ 60000 + 9 * 500 ∧ a.2.2.2.2.length ≤ 60000 := by
  have h1 := h.2.1 a ha
  have h2 := h.2.2
  have h3 : a.2.2.2.2.length + partsLen a.2.2.1 ≤ actsLen l := by
    unfold actsLen
    induction l with
    | nil => cases ha
    | cons b l ih =>
      simp only [List.map_cons, List.sum_cons]
      rcases List.mem_cons.1 ha with rfl | ha
      · omega
      · have := ih ⟨by have := h.1; simp at this; omega, fun x hx => h.2.1 x (by simp [hx]), by have := h.2.2; simp only [actsLen, List.map_cons, List.sum_cons] at this ⊢; omega⟩ ha (by simp only [actsLen, List.map_cons, List.sum_cons] at h2 ⊢; omega)
        omega
  have h4 : ∀ p : List (List UInt8), blobRoom p = partsLen p + 9 * p.length := by
    intro p
    induction p with
    | nil => rfl
    | cons x p ih =>
      simp only [blobRoom, partsLen, List.map_cons, List.sum_cons, List.length_cons] at *
      omega
  rw [h4]
  omega
theorem addL_ge (l : List Nt) (s b : List UInt8) : l.length ≤ (addL l s b).length := by
  unfold addL
  split <;> simp
theorem addL_in (l : List Nt) (s b : List UInt8) : (s, b) ∈ addL l s b := by
  unfold addL
  split
  · assumption
  · simp
theorem addL_again (l : List Nt) (s b : List UInt8) : addL (addL l s b) s b = addL l s b := by
  show (if (s, b) ∈ addL l s b then addL l s b else addL l s b ++ [(s, b)]) = _
  rw [if_pos (addL_in l s b)]
theorem addL_take (l : List Nt) (s b : List UInt8) : ((addL l s b).map Prod.snd).take l.length = l.map Prod.snd := by
  unfold addL
  split
  · rw [List.take_of_length_le (by simp)]
  · rw [List.map_append, List.take_append_of_le_length (by simp), List.take_of_length_le (by simp)]
theorem addL_has (l : List Nt) (s b : List UInt8) : (firstOf s (addL l s b) 0).isSome = true := by
  cases h : firstOf s (addL l s b) 0 with
  | none => exact absurd (addL_in l s b) (firstOf_none h b)
  | some a => rfl
end Go.Inc
