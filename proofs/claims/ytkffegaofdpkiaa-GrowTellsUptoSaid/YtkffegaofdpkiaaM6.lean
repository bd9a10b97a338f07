/- S6, P14, S7, P7. -/
import Derived.Test.YtkffegaofdpkiaaM5
import Derived.Test.YtkffegaofdpkiaaChecked
import Derived.Test.YtkffegaofdpkiaaRows
import Derived.Test.YtkffegaofdpkiaaM4
import Derived.WalkKit
import Derived.ProofKit
import Derived.OpenShut
import Derived.JoinedCond
import Derived.Carry
/- Each function that stands here: what it is asked and leaves (_C), its condition (_VC), that it holds (_ok), its contract (_c). -/
set_option linter.unusedVariables false
set_option maxRecDepth 100000
set_option maxHeartbeats 20000000
namespace Go.Proofs.Ytkffegaofdpkiaa
open Go Go.RowKit Go.Inc
noncomputable def power_C : Ctr := ⟨[.v (.int .i64)], [.v (.int .u32)], some (fun a => (fun (a0_n : Int) => ((0 : Int) ≤ a0_n ∧ a0_n ≤ (31 : Int) : Prop)) a.1), fun a => (fun (a0_n : Int) => (((2 ^ a0_n.toNat : Int), ()), (()))) a.1⟩
noncomputable def power_X : Fx := ⟨seat, some bkT, fns, [], [], [], []⟩
def power_VC (a0_n : Int) (Q : Int → Prop) : Prop :=
  ∃ (x0 : Int → Int → Prop), ∃ (x1 : Int → Int → Nat), x0 (1 : Int) (0 : Int) ∧ ∀ (x2 x3 : Int), x0 x2 x3 → (Kd.int IntKind.u32).wf x2 → (Kd.int IntKind.i64).wf x3 → (x3 < a0_n → x3 < (9223372036854775807 : Int) ∧ x0 (IntKind.u32.wrap ((2 : Int) * x2)) (x3 + (1 : Int)) ∧ x1 (IntKind.u32.wrap ((2 : Int) * x2)) (x3 + (1 : Int)) < x1 x2 x3) ∧ (¬x3 < a0_n → Q x2)
theorem power_ok {a0_n : Int} (w_0 : (Ty.kd (.int .i64)).wf a0_n) (hp : (0 : Int) ≤ a0_n ∧ a0_n ≤ (31 : Int)) : power_VC a0_n (fun o0 => o0 = (2 ^ a0_n.toNat : Int)) := by
  unfold power_VC
  refine ⟨fun x i => ∃ j : Nat, i = (j : Int) ∧ (j : Int) ≤ a0_n ∧ x = ((2 ^ j : Nat) : Int), fun _ i => (a0_n - i).toNat, ⟨0, rfl, by omega, rfl⟩, ?_⟩
  rintro x i ⟨j, rfl, hj, rfl⟩ _ _
  refine ⟨fun hlt => ⟨by omega, ⟨j + 1, by omega, by omega, ?_⟩, by show (a0_n - ((j : Int) + 1)).toNat < (a0_n - (j : Int)).toNat; omega⟩, fun hge => ?_⟩
  · have hp : 2 ^ (j + 1) ≤ 2 ^ 31 := Nat.pow_le_pow_right (by omega) (by omega)
    have e : 2 * ((2 ^ j : Nat) : Int) = ((2 ^ (j + 1) : Nat) : Int) := by rw [Nat.pow_succ]; omega
    rw [e, wrap_nat32 (by omega)]
  · have : a0_n.toNat = j := by omega
    rw [this]
    simp
theorem power_eq : (∀ a, power_C.pre a → PM.wfP power_C.pm a (fvc power_X 200 72 power_C a (eqO power_C a))) = (∀ a : Int × Unit, ((0 : Int) ≤ (a.1) ∧ (a.1) ≤ (31 : Int)) → (Ty.kd (.int .i64)).wf a.1 → power_VC a.1 (fun o0 => o0 = (2 ^ (a.1).toNat : Int))) := by kernel_rfl
theorem power_k : power_C.valid Try.prog 72 := ctr_of (X := power_X) (ok_of seat_ok (fun b hb => by cases hb; exact bkT_ok) fns_ok trivial) 200 (power_eq.mpr fun a hp w_0 => @power_ok a.1 w_0 hp)
noncomputable def turn_C : Ctr := ⟨[.v (.int .u32), .v (.int .i64)], [.v (.int .u32)], some (fun a => (fun (a0_x : Int) (a1_n : Int) => ((1 : Int) ≤ a1_n ∧ a1_n ≤ (31 : Int) : Prop)) a.1 a.2.1), fun a => (fun (a0_x : Int) (a1_n : Int) => (((turnR a0_x a1_n), ()), (()))) a.1 a.2.1⟩
noncomputable def turn_X : Fx := ⟨seat, some bkT, fns, [(72, power_C)], [], [], [(1, [], [.o 0 2, .o 1 2, .o 4 2, .o 5 2, .o 8 2, .o 9 2, .o 2 0, .o 3 2, .o 6 0, .o 7 2, .o 10 0, .o 11 2, .o 12 2, .o 13 2])]⟩
def turn_VC (a0_x : Int) (a1_n : Int) (Q : Int → Prop) : Prop :=
  ((0 : Int) ≤ a1_n ∧ a1_n ≤ (31 : Int)) ∧ ((Ty.int IntKind.u32).kd.wf ((2 : Int) ^ a1_n.toNat) → (2 : Int) ^ a1_n.toNat ≠ (0 : Int) ∧ ((0 : Int) ≤ a1_n ∧ a1_n ≤ (31 : Int)) ∧ ((Ty.int IntKind.u32).kd.wf ((2 : Int) ^ a1_n.toNat) → (2 : Int) ^ a1_n.toNat ≠ (0 : Int) ∧ ((0 : Int) ≤ IntKind.i64.wrap ((32 : Int) - a1_n) ∧ IntKind.i64.wrap ((32 : Int) - a1_n) ≤ (31 : Int)) ∧ ((Ty.int IntKind.u32).kd.wf ((2 : Int) ^ (IntKind.i64.wrap ((32 : Int) - a1_n)).toNat) → Q (IntKind.u32.wrap (IntKind.u32.wrap (a0_x.tdiv ((2 : Int) ^ a1_n.toNat)) + IntKind.u32.wrap (a0_x.tmod ((2 : Int) ^ a1_n.toNat) * (2 : Int) ^ (IntKind.i64.wrap ((32 : Int) - a1_n)).toNat))))))
theorem turn_ok {a0_x : Int} {a1_n : Int} (w_0 : (Ty.kd (.int .u32)).wf a0_x) (w_1 : (Ty.kd (.int .i64)).wf a1_n) (hp : (1 : Int) ≤ a1_n ∧ a1_n ≤ (31 : Int)) : turn_VC a0_x a1_n (fun o0 => o0 = (turnR a0_x a1_n)) := by
  have w : IntKind.i64.wrap (32 - a1_n) = 32 - a1_n := wrap_id (wf64 (by omega) (by omega))
  have hp : ∀ k : Nat, (2 ^ k : Int) ≠ 0 := fun k => by
    have : (2 ^ k : Int) = ((2 ^ k : Nat) : Int) := by simp
    rw [this]
    have := Nat.two_pow_pos k
    omega
  unfold turn_VC
  rw [w]
  exact ⟨by omega, fun _ => ⟨hp _, by omega, fun _ => ⟨hp _, by omega, fun _ => rfl⟩⟩⟩
theorem turn_eq : (∀ a, turn_C.pre a → PM.wfP turn_C.pm a (fvc turn_X 200 83 turn_C a (eqO turn_C a))) = (∀ a : Int × Int × Unit, ((1 : Int) ≤ (a.2.1) ∧ (a.2.1) ≤ (31 : Int)) → (Ty.kd (.int .u32)).wf a.1 → (Ty.kd (.int .i64)).wf a.2.1 → turn_VC a.1 a.2.1 (fun o0 => o0 = (turnR (a.1) (a.2.1)))) := by kernel_rfl
theorem turn_k : turn_C.valid Try.prog 83 := ctr_of (X := turn_X) (ok_of seat_ok (fun b hb => by cases hb; exact bkT_ok) fns_ok ⟨power_k, trivial⟩) 200 (turn_eq.mpr fun a hp w_0 w_1 => @turn_ok a.1 a.2.1 w_0 w_1 hp)
noncomputable def three_C : Ctr := ⟨[.v (.int .u32), .v (.int .u32), .v (.int .u32)], [.v (.int .u32)], none, fun a => (fun (a0_a : Int) (a1_b : Int) (a2_c : Int) => (((bxor .u32 (bxor .u32 a0_a a1_b) a2_c), ()), (()))) a.1 a.2.1 a.2.2.1⟩
noncomputable def three_X : Fx := ⟨seat, some bkT, fns, [], [], [], []⟩
def three_VC (a0_a : Int) (a1_b : Int) (a2_c : Int) (Q : Int → Prop) : Prop :=
  Q (bxor IntKind.u32 (bxor IntKind.u32 a0_a a1_b) a2_c)
theorem three_ok {a0_a : Int} {a1_b : Int} {a2_c : Int} (w_0 : (Ty.kd (.int .u32)).wf a0_a) (w_1 : (Ty.kd (.int .u32)).wf a1_b) (w_2 : (Ty.kd (.int .u32)).wf a2_c) : three_VC a0_a a1_b a2_c (fun o0 => o0 = (bxor .u32 (bxor .u32 a0_a a1_b) a2_c)) := by
  rfl
theorem three_eq : (∀ a, three_C.pre a → PM.wfP three_C.pm a (fvc three_X 200 82 three_C a (eqO three_C a))) = (∀ a : Int × Int × Int × Unit, True → (Ty.kd (.int .u32)).wf a.1 → (Ty.kd (.int .u32)).wf a.2.1 → (Ty.kd (.int .u32)).wf a.2.2.1 → three_VC a.1 a.2.1 a.2.2.1 (fun o0 => o0 = (bxor .u32 (bxor .u32 (a.1) (a.2.1)) (a.2.2.1)))) := by kernel_rfl
theorem three_k : three_C.valid Try.prog 82 := ctr_of (X := three_X) (ok_of seat_ok (fun b hb => by cases hb; exact bkT_ok) fns_ok trivial) 200 (three_eq.mpr fun a hp w_0 w_1 w_2 => @three_ok a.1 a.2.1 a.2.2.1 w_0 w_1 w_2)
noncomputable def constants_C : Ctr := ⟨[], [.ow 92 (.int .u32)], none, fun _ => ((shaK, ()), (()))⟩
noncomputable def constants_X : Fx := ⟨seat, some bkT, fns, [], [], [], []⟩
def constants_VC (Q : (List Int) → Prop) : Prop :=
  Q ((1116352408 : Int) :: (1899447441 : Int) :: (3049323471 : Int) :: (3921009573 : Int) :: (961987163 : Int) :: (1508970993 : Int) :: (2453635748 : Int) :: (2870763221 : Int) :: (3624381080 : Int) :: (310598401 : Int) :: (607225278 : Int) :: (1426881987 : Int) :: (1925078388 : Int) :: (2162078206 : Int) :: (2614888103 : Int) :: (3248222580 : Int) :: (3835390401 : Int) :: (4022224774 : Int) :: (264347078 : Int) :: (604807628 : Int) :: (770255983 : Int) :: (1249150122 : Int) :: (1555081692 : Int) :: (1996064986 : Int) :: (2554220882 : Int) :: (2821834349 : Int) :: (2952996808 : Int) :: (3210313671 : Int) :: (3336571891 : Int) :: (3584528711 : Int) :: (113926993 : Int) :: (338241895 : Int) :: (666307205 : Int) :: (773529912 : Int) :: (1294757372 : Int) :: (1396182291 : Int) :: (1695183700 : Int) :: (1986661051 : Int) :: (2177026350 : Int) :: (2456956037 : Int) :: (2730485921 : Int) :: (2820302411 : Int) :: (3259730800 : Int) :: (3345764771 : Int) :: (3516065817 : Int) :: (3600352804 : Int) :: (4094571909 : Int) :: (275423344 : Int) :: (430227734 : Int) :: (506948616 : Int) :: (659060556 : Int) :: (883997877 : Int) :: (958139571 : Int) :: (1322822218 : Int) :: (1537002063 : Int) :: (1747873779 : Int) :: (1955562222 : Int) :: (2024104815 : Int) :: (2227730452 : Int) :: (2361852424 : Int) :: (2428436474 : Int) :: (2756734187 : Int) :: (3204031479 : Int) :: (3329325298 : Int) :: ([] : List Int))
theorem constants_ok  : constants_VC  (fun o0 => o0 = shaK) := by
  rfl
theorem constants_eq : (∀ a, constants_C.pre a → PM.wfP constants_C.pm a (fvc constants_X 200 81 constants_C a (eqO constants_C a))) = (∀ a : Unit, True → constants_VC  (fun o0 => o0 = shaK)) := by kernel_rfl
theorem constants_k : constants_C.valid Try.prog 81 := ctr_of (X := constants_X) (ok_of seat_ok (fun b hb => by cases hb; exact bkT_ok) fns_ok trivial) 200 (constants_eq.mpr fun a hp  => @constants_ok )
noncomputable def Message_C : Ctr := ⟨[.v (.sl .byte)], [.ow 5 .byte], some (fun a => (fun (a0_b : List UInt8) => (a0_b.length ≤ 70368744177664 : Prop)) a.1), fun a => (fun (a0_b : List UInt8) => (((msgOf a0_b), ()), (()))) a.1⟩
noncomputable def Message_X : Fx := ⟨seat, some bkT, fns, [], [], [], []⟩
def Message_VC (a0_b : List UInt8) (Q : (List UInt8) → Prop) : Prop :=
  (([] : List UInt8).length + a0_b.length) * (1 : Nat) ≤ (140737488355328 : Nat) ∧ ((([] : List UInt8) ++ a0_b).length + (toB (128 : Int) :: ([] : List UInt8)).length) * (1 : Nat) ≤ (140737488355328 : Nat) ∧ ∃ (x0 : List UInt8 → Prop), ∃ (x1 : List UInt8 → Nat), x0 (([] : List UInt8) ++ a0_b ++ toB (128 : Int) :: ([] : List UInt8)) ∧ ∀ (x2 : List UInt8), x0 x2 → Ty.byte.kd.sl.wf x2 → ((x2.length : Int).tmod (64 : Int) ≠ (56 : Int) → (x2.length + (toB (0 : Int) :: ([] : List UInt8)).length) * (1 : Nat) ≤ (140737488355328 : Nat) ∧ x0 (x2 ++ toB (0 : Int) :: ([] : List UInt8)) ∧ x1 (x2 ++ toB (0 : Int) :: ([] : List UInt8)) < x1 x2) ∧ (¬(x2.length : Int).tmod (64 : Int) ≠ (56 : Int) → ∃ (x6 : Int → List UInt8 → Int → Prop), ∃ (x7 : Int → List UInt8 → Int → Nat), x6 (IntKind.u64.wrap ((8 : Int) * IntKind.u64.wrap (a0_b.length : Int))) ([] : List UInt8) (0 : Int) ∧ ∀ (x8 : Int) (x9 : List UInt8) (x10 : Int), x6 x8 x9 x10 → (Kd.int IntKind.u64).wf x8 → Ty.byte.kd.sl.wf x9 → (Kd.int IntKind.i64).wf x10 → (x10 < (8 : Int) → ((toB (IntKind.u8.wrap (x8.tmod (256 : Int))) :: ([] : List UInt8)).length + x9.length) * (1 : Nat) ≤ (140737488355328 : Nat) ∧ x10 < (9223372036854775807 : Int) ∧ x6 (IntKind.u64.wrap (x8.tdiv (256 : Int))) (toB (IntKind.u8.wrap (x8.tmod (256 : Int))) :: ([] : List UInt8) ++ x9) (x10 + (1 : Int)) ∧ x7 (IntKind.u64.wrap (x8.tdiv (256 : Int))) (toB (IntKind.u8.wrap (x8.tmod (256 : Int))) :: ([] : List UInt8) ++ x9) (x10 + (1 : Int)) < x7 x8 x9 x10) ∧ (¬x10 < (8 : Int) → (x2.length + x9.length) * (1 : Nat) ≤ (140737488355328 : Nat) ∧ Q (x2 ++ x9)))
theorem Message_ok {a0_b : List UInt8} (w_0 : (Ty.kd (.sl .byte)).wf a0_b) (hp : a0_b.length ≤ 70368744177664) : Message_VC a0_b (fun o0 => o0 = (msgOf a0_b)) := by
  have hz : zerosN a0_b.length < 64 ∧ (a0_b.length + 1 + zerosN a0_b.length) % 64 = 56 := by unfold zerosN; omega
  have hzm : ∀ k, k < zerosN a0_b.length → (a0_b.length + 1 + k) % 64 ≠ 56 := fun k hk => by unfold zerosN at hk; omega
  have hb0 : toB 0 = 0 := by decide
  have wu : ∀ a : Int, 0 ≤ a → a ≤ 18446744073709551615 → IntKind.u64.wrap a = a := fun a h1 h2 => wrap_id ⟨by show (0 : Int) ≤ _; omega, by show _ ≤ (18446744073709551615 : Int); omega⟩
  unfold Message_VC
  rw [hb0, wu (a0_b.length : Int) (by omega) (by omega), wu (8 * (a0_b.length : Int)) (by omega) (by omega)]
  simp only [List.nil_append]
  refine ⟨by simp; omega, by simp; omega, fun m => ∃ k, k ≤ zerosN a0_b.length ∧ m = a0_b ++ [toB 128] ++ List.replicate k 0, fun m => zerosN a0_b.length - (m.length - (a0_b.length + 1)), ⟨0, by omega, by simp⟩, ?_⟩
  rintro m ⟨k, hk, rfl⟩ _
  have hl : (a0_b ++ [toB 128] ++ List.replicate k 0).length = a0_b.length + 1 + k := by simp; omega
  have hmod : Int.tmod ((a0_b ++ [toB 128] ++ List.replicate k 0).length : Int) 64 = (((a0_b.length + 1 + k) % 64 : Nat) : Int) := by
    rw [hl, Int.tmod_eq_emod_of_nonneg (by omega)]
    omega
  rw [hmod]
  refine ⟨fun hne => ⟨by simp; omega, ⟨k + 1, ?_, ?_⟩, ?_⟩, fun heq => ?_⟩
  · rcases Nat.lt_or_eq_of_le hk with h | h
    · omega
    · exfalso; apply hne; rw [h, hz.2]; rfl
  · rw [List.replicate_succ']; simp
  · rcases Nat.lt_or_eq_of_le hk with h | h
    · simp only [List.length_append, List.length_cons, List.length_nil, List.length_replicate]
      omega
    · exfalso; apply hne; rw [h, hz.2]; rfl
  · have hk' : k = zerosN a0_b.length := by
      rcases Nat.lt_or_eq_of_le hk with h | h
      · exact absurd (hzm k h) (by intro hx; apply heq; intro hy; apply hx; omega)
      · exact h
    subst hk'
    refine ⟨fun n last i => ∃ j : Nat, j ≤ 8 ∧ i = (j : Int) ∧ n = ((8 * a0_b.length / 2 ^ (8 * j) : Nat) : Int) ∧ last = be (8 * a0_b.length) j, fun _ _ i => 8 - i.toNat, ⟨0, by omega, rfl, by simp, rfl⟩, ?_⟩
    rintro n last i ⟨j, hj, rfl, rfl, rfl⟩ _ _ _
    have hle : 8 * a0_b.length / 2 ^ (8 * j) ≤ 8 * a0_b.length := Nat.div_le_self _ _
    refine ⟨fun hlt => ⟨by simp [be_length]; omega, by omega, ⟨j + 1, by omega, by omega, ?_, ?_⟩, ?_⟩, fun hge => ⟨?_, ?_⟩⟩
    · have e : (8 * a0_b.length) / 2 ^ (8 * (j + 1)) = 8 * a0_b.length / 2 ^ (8 * j) / 256 := by
        rw [Nat.div_div_eq_div_mul, show 8 * (j + 1) = 8 * j + 8 by omega, Nat.pow_add]
      rw [e]
      generalize 8 * a0_b.length / 2 ^ (8 * j) = A at *
      rw [show (256 : Int) = ((256 : Nat) : Int) from rfl, ← Int.ofNat_tdiv, wu _ (by omega) (by omega)]
    · show toB (IntKind.u8.wrap (Int.tmod _ 256)) :: be _ j = UInt8.ofNat (8 * a0_b.length / 2 ^ (8 * j)) :: be _ j
      congr 1
      generalize 8 * a0_b.length / 2 ^ (8 * j) = A
      rw [show (256 : Int) = ((256 : Nat) : Int) from rfl, ← Int.ofNat_tmod, wrap_id ⟨by show (0 : Int) ≤ _; omega, by show _ ≤ (255 : Int); omega⟩]
      unfold toB
      rw [Int.toNat_natCast]
      apply UInt8.toNat_inj.1
      simp
    · show 8 - ((j : Int) + 1).toNat < 8 - (j : Int).toNat
      omega
    · simp [be_length]; omega
    · have : j = 8 := by omega
      subst this
      simp [msgOf]
theorem Message_eq : (∀ a, Message_C.pre a → PM.wfP Message_C.pm a (fvc Message_X 200 69 Message_C a (eqO Message_C a))) = (∀ a : (List UInt8) × Unit, ((a.1).length ≤ 70368744177664) → (Ty.kd (.sl .byte)).wf a.1 → Message_VC a.1 (fun o0 => o0 = (msgOf (a.1)))) := by kernel_rfl
theorem Message_k : Message_C.valid Try.prog 69 := ctr_of (X := Message_X) (ok_of seat_ok (fun b hb => by cases hb; exact bkT_ok) fns_ok trivial) 200 (Message_eq.mpr fun a hp w_0 => @Message_ok a.1 w_0 hp)
noncomputable def schedule_C : Ctr := ⟨[.v (.sl .byte)], [.ow 92 (.int .u32)], some (fun a => (fun (a0_b : List UInt8) => (a0_b.length = 64 : Prop)) a.1), fun a => (fun (a0_b : List UInt8) => (((wordsN a0_b 64), ()), (()))) a.1⟩
noncomputable def schedule_X : Fx := ⟨seat, some bkT, fns, [(83, turn_C), (82, three_C)], [], [], [(14, [], [.o 0 2, .o 1 2, .o 2 2, .o 3 2, .o 4 2, .o 5 2, .o 6 2, .o 7 2, .o 8 2, .o 9 2, .o 10 2, .o 11 2]), (17, [0, 1, 2, 3, 4, 5, 6, 7, 8, 9, 10, 11, 12], [.o 0 2, .o 1 2, .o 2 2, .o 3 2, .o 4 2, .o 5 2, .o 6 2, .o 7 2, .o 8 2, .o 9 2, .o 10 2, .o 11 2, .o 12 2, .o 13 2, .o 14 2, .o 15 2, .o 16 0, .o 17 1, .o 18 3])]⟩
def schedule_VC (a0_b : List UInt8) (Q : (List Int) → Prop) : Prop :=
  ∃ (x0 : List Int → Int → Prop), ∃ (x1 : List Int → Int → Nat), x0 ([] : List Int) (0 : Int) ∧ ∀ (x2 : List Int) (x3 : Int), x0 x2 x3 → (Ty.int IntKind.u32).kd.sl.wf x2 → (Kd.int IntKind.i64).wf x3 → (x3 < (16 : Int) → ∃ (x8 : Int → Int → Prop), ∃ (x9 : Int → Int → Nat), x8 (0 : Int) (0 : Int) ∧ ∀ (x10 x11 : Int), x8 x10 x11 → (Kd.int IntKind.u32).wf x10 → (Kd.int IntKind.i64).wf x11 → (x11 < (4 : Int) → ((0 : Int) ≤ IntKind.i64.wrap (IntKind.i64.wrap ((4 : Int) * x3) + x11) ∧ IntKind.i64.wrap (IntKind.i64.wrap ((4 : Int) * x3) + x11) < (a0_b.length : Int)) ∧ x11 < (9223372036854775807 : Int) ∧ x8 (IntKind.u32.wrap (IntKind.u32.wrap ((256 : Int) * x10) + bI (ix a0_b (IntKind.i64.wrap (IntKind.i64.wrap ((4 : Int) * x3) + x11))))) (x11 + (1 : Int)) ∧ x9 (IntKind.u32.wrap (IntKind.u32.wrap ((256 : Int) * x10) + bI (ix a0_b (IntKind.i64.wrap (IntKind.i64.wrap ((4 : Int) * x3) + x11))))) (x11 + (1 : Int)) < x9 x10 x11) ∧ (¬x11 < (4 : Int) → (x2.length + (x10 :: ([] : List Int)).length) * (4 : Nat) ≤ (140737488355328 : Nat) ∧ x3 < (9223372036854775807 : Int) ∧ x0 (x2 ++ x10 :: ([] : List Int)) (x3 + (1 : Int)) ∧ x1 (x2 ++ x10 :: ([] : List Int)) (x3 + (1 : Int)) < x1 x2 x3)) ∧ (¬x3 < (16 : Int) → ∃ (x8 : List Int → Int → Prop), ∃ (x9 : List Int → Int → Nat), x8 x2 (16 : Int) ∧ ∀ (x10 : List Int) (x11 : Int), x8 x10 x11 → (Ty.int IntKind.u32).kd.sl.wf x10 → (Kd.int IntKind.i64).wf x11 → (x11 < (64 : Int) → ((0 : Int) ≤ IntKind.i64.wrap (x11 - (15 : Int)) ∧ IntKind.i64.wrap (x11 - (15 : Int)) < (x10.length : Int)) ∧ ((0 : Int) ≤ IntKind.i64.wrap (x11 - (2 : Int)) ∧ IntKind.i64.wrap (x11 - (2 : Int)) < (x10.length : Int)) ∧ ((1 : Int) ≤ (7 : Int) ∧ (7 : Int) ≤ (31 : Int)) ∧ ((Ty.int IntKind.u32).kd.wf (turnR (ix x10 (IntKind.i64.wrap (x11 - (15 : Int)))) (7 : Int)) → ((1 : Int) ≤ (18 : Int) ∧ (18 : Int) ≤ (31 : Int)) ∧ ((Ty.int IntKind.u32).kd.wf (turnR (ix x10 (IntKind.i64.wrap (x11 - (15 : Int)))) (18 : Int)) → (Ty.int IntKind.u32).kd.wf (bxor IntKind.u32 (bxor IntKind.u32 (turnR (ix x10 (IntKind.i64.wrap (x11 - (15 : Int)))) (7 : Int)) (turnR (ix x10 (IntKind.i64.wrap (x11 - (15 : Int)))) (18 : Int))) (IntKind.u32.wrap ((ix x10 (IntKind.i64.wrap (x11 - (15 : Int)))).tdiv (8 : Int)))) → ((1 : Int) ≤ (17 : Int) ∧ (17 : Int) ≤ (31 : Int)) ∧ ((Ty.int IntKind.u32).kd.wf (turnR (ix x10 (IntKind.i64.wrap (x11 - (2 : Int)))) (17 : Int)) → ((1 : Int) ≤ (19 : Int) ∧ (19 : Int) ≤ (31 : Int)) ∧ ((Ty.int IntKind.u32).kd.wf (turnR (ix x10 (IntKind.i64.wrap (x11 - (2 : Int)))) (19 : Int)) → (Ty.int IntKind.u32).kd.wf (bxor IntKind.u32 (bxor IntKind.u32 (turnR (ix x10 (IntKind.i64.wrap (x11 - (2 : Int)))) (17 : Int)) (turnR (ix x10 (IntKind.i64.wrap (x11 - (2 : Int)))) (19 : Int))) (IntKind.u32.wrap ((ix x10 (IntKind.i64.wrap (x11 - (2 : Int)))).tdiv (1024 : Int)))) → ((0 : Int) ≤ IntKind.i64.wrap (x11 - (16 : Int)) ∧ IntKind.i64.wrap (x11 - (16 : Int)) < (x10.length : Int)) ∧ ((0 : Int) ≤ IntKind.i64.wrap (x11 - (7 : Int)) ∧ IntKind.i64.wrap (x11 - (7 : Int)) < (x10.length : Int)) ∧ (x10.length + (IntKind.u32.wrap (IntKind.u32.wrap (IntKind.u32.wrap (ix x10 (IntKind.i64.wrap (x11 - (16 : Int))) + bxor IntKind.u32 (bxor IntKind.u32 (turnR (ix x10 (IntKind.i64.wrap (x11 - (15 : Int)))) (7 : Int)) (turnR (ix x10 (IntKind.i64.wrap (x11 - (15 : Int)))) (18 : Int))) (IntKind.u32.wrap ((ix x10 (IntKind.i64.wrap (x11 - (15 : Int)))).tdiv (8 : Int)))) + ix x10 (IntKind.i64.wrap (x11 - (7 : Int)))) + bxor IntKind.u32 (bxor IntKind.u32 (turnR (ix x10 (IntKind.i64.wrap (x11 - (2 : Int)))) (17 : Int)) (turnR (ix x10 (IntKind.i64.wrap (x11 - (2 : Int)))) (19 : Int))) (IntKind.u32.wrap ((ix x10 (IntKind.i64.wrap (x11 - (2 : Int)))).tdiv (1024 : Int)))) :: ([] : List Int)).length) * (4 : Nat) ≤ (140737488355328 : Nat) ∧ x11 < (9223372036854775807 : Int) ∧ x8 (x10 ++ IntKind.u32.wrap (IntKind.u32.wrap (IntKind.u32.wrap (ix x10 (IntKind.i64.wrap (x11 - (16 : Int))) + bxor IntKind.u32 (bxor IntKind.u32 (turnR (ix x10 (IntKind.i64.wrap (x11 - (15 : Int)))) (7 : Int)) (turnR (ix x10 (IntKind.i64.wrap (x11 - (15 : Int)))) (18 : Int))) (IntKind.u32.wrap ((ix x10 (IntKind.i64.wrap (x11 - (15 : Int)))).tdiv (8 : Int)))) + ix x10 (IntKind.i64.wrap (x11 - (7 : Int)))) + bxor IntKind.u32 (bxor IntKind.u32 (turnR (ix x10 (IntKind.i64.wrap (x11 - (2 : Int)))) (17 : Int)) (turnR (ix x10 (IntKind.i64.wrap (x11 - (2 : Int)))) (19 : Int))) (IntKind.u32.wrap ((ix x10 (IntKind.i64.wrap (x11 - (2 : Int)))).tdiv (1024 : Int)))) :: ([] : List Int)) (x11 + (1 : Int)) ∧ x9 (x10 ++ IntKind.u32.wrap (IntKind.u32.wrap (IntKind.u32.wrap (ix x10 (IntKind.i64.wrap (x11 - (16 : Int))) + bxor IntKind.u32 (bxor IntKind.u32 (turnR (ix x10 (IntKind.i64.wrap (x11 - (15 : Int)))) (7 : Int)) (turnR (ix x10 (IntKind.i64.wrap (x11 - (15 : Int)))) (18 : Int))) (IntKind.u32.wrap ((ix x10 (IntKind.i64.wrap (x11 - (15 : Int)))).tdiv (8 : Int)))) + ix x10 (IntKind.i64.wrap (x11 - (7 : Int)))) + bxor IntKind.u32 (bxor IntKind.u32 (turnR (ix x10 (IntKind.i64.wrap (x11 - (2 : Int)))) (17 : Int)) (turnR (ix x10 (IntKind.i64.wrap (x11 - (2 : Int)))) (19 : Int))) (IntKind.u32.wrap ((ix x10 (IntKind.i64.wrap (x11 - (2 : Int)))).tdiv (1024 : Int)))) :: ([] : List Int)) (x11 + (1 : Int)) < x9 x10 x11))))) ∧ (¬x11 < (64 : Int) → Q x10))
theorem schedule_ok {a0_b : List UInt8} (w_0 : (Ty.kd (.sl .byte)).wf a0_b) (hp : a0_b.length = 64) : schedule_VC a0_b (fun o0 => o0 = (wordsN a0_b 64)) := by
  have w64 : ∀ a : Int, -1000 ≤ a → a ≤ 1000 → IntKind.i64.wrap a = a := fun a h1 h2 => wrap_id (wf64 (by omega) (by omega))
  have hacc : ∀ (i : Int) (m : Nat), 0 ≤ accB a0_b i m ∧ accB a0_b i m < 256 ^ m := fun i m => by
    induction m with
    | zero => simp [accB]
    | succ m ih =>
      have hb := bI_lt (ix a0_b (4 * i + (m : Int)))
      have e : (256 : Int) ^ (m + 1) = 256 * 256 ^ m := by rw [Int.pow_succ, Int.mul_comm]
      simp only [accB]
      rw [e]
      generalize (256 : Int) ^ m = Z at *
      omega
  unfold schedule_VC
  refine ⟨fun w i => ∃ n : Nat, i = (n : Int) ∧ n ≤ 16 ∧ w = (wordsN a0_b n).take n, fun _ i => 16 - i.toNat, ⟨0, rfl, by omega, by simp⟩, ?_⟩
  rintro w i ⟨n, rfl, hn, rfl⟩ _ _
  refine ⟨fun hlt => ?_, fun hge => ?_⟩
  · refine ⟨fun x j => ∃ m : Nat, j = (m : Int) ∧ m ≤ 4 ∧ x = accB a0_b n m, fun _ j => 4 - j.toNat, ⟨0, rfl, by omega, rfl⟩, ?_⟩
    rintro x j ⟨m, rfl, hm, rfl⟩ _ _
    have e4 : IntKind.i64.wrap (IntKind.i64.wrap (4 * (n : Int)) + (m : Int)) = 4 * (n : Int) + (m : Int) := by rw [w64 (4 * (n : Int)) (by omega) (by omega), w64 _ (by omega) (by omega)]
    rw [e4]
    refine ⟨fun hj => ⟨⟨by omega, by omega⟩, by omega, ⟨m + 1, by omega, by omega, ?_⟩, by show 4 - ((m : Int) + 1).toNat < 4 - (m : Int).toNat; omega⟩, fun hj => ?_⟩
    · have h1 := hacc n m
      have hb := bI_lt (ix a0_b (4 * (n : Int) + (m : Int)))
      have h2 : (256 : Int) ^ m ≤ 16777216 := by
        rcases (by omega : m = 0 ∨ m = 1 ∨ m = 2 ∨ m = 3) with h | h | h | h <;> rw [h] <;> decide
      simp only [accB]
      rw [wr32 (256 * _), wr32]
      omega
    · have : m = 4 := by omega
      subst this
      have hl := wordsN_len a0_b n
      refine ⟨by simp only [List.length_append, List.length_take, List.length_cons, List.length_nil]; omega, by omega, ⟨n + 1, by omega, by omega, ?_⟩, by show 16 - ((n : Int) + 1).toNat < 16 - (n : Int).toNat; omega⟩
      rw [wordsN_step _ (by omega), if_pos (by omega), wordAt_acc]
  · have hn16 : n = 16 := by omega
    subst hn16
    refine ⟨fun w i => ∃ n : Nat, i = (n : Int) ∧ 16 ≤ n ∧ n ≤ 64 ∧ w = (wordsN a0_b n).take n, fun _ i => 64 - i.toNat, ⟨16, rfl, by omega, by omega, rfl⟩, ?_⟩
    rintro w i ⟨n, rfl, hn1, hn2, rfl⟩ hwf _
    have hl := wordsN_len a0_b n
    have hlt : ((wordsN a0_b n).take n).length = n := by rw [List.length_take]; omega
    refine ⟨fun hlt64 => ?_, fun hge64 => ?_⟩
    · rw [w64 ((n : Int) - 15) (by omega) (by omega), w64 ((n : Int) - 2) (by omega) (by omega), w64 ((n : Int) - 16) (by omega) (by omega), w64 ((n : Int) - 7) (by omega) (by omega), hlt]
      have hx : ∀ d : Int, 0 < d → d ≤ 16 → 0 ≤ ix ((wordsN a0_b n).take n) ((n : Int) - d) ∧ ix ((wordsN a0_b n).take n) ((n : Int) - d) < 4294967296 := fun d h1 h2 => wf32 (hwf.2 _ (ix_mem (by omega) (by rw [hlt]; omega)))
      have ht : ∀ d : Int, 0 < d → d ≤ 16 → ix ((wordsN a0_b n).take n) ((n : Int) - d) = ix (wordsN a0_b n) ((n : Int) - d) := fun d h1 h2 => ix_take (by omega)
      refine ⟨by omega, by omega, by omega, fun _ => ⟨by omega, fun _ _ => ⟨by omega, fun _ => ⟨by omega, fun _ _ => ⟨by omega, by omega, ?_, by omega, ⟨n + 1, by omega, by omega, by omega, ?_⟩, by show 64 - ((n : Int) + 1).toNat < 64 - (n : Int).toNat; omega⟩⟩⟩⟩⟩
      · simp only [List.length_cons, List.length_nil]; omega
      · rw [wordsN_step _ (by omega), if_neg (by omega)]
        congr 2
        have x15 := hx 15 (by omega) (by omega)
        have x2 := hx 2 (by omega) (by omega)
        unfold wordOn
        rw [← ht 15 (by omega) (by omega), ← ht 2 (by omega) (by omega), ← ht 16 (by omega) (by omega), ← ht 7 (by omega) (by omega), turnsC x15, turnsD x2,
          show (3 : Int) = ((3 : Nat) : Int) from rfl, show (10 : Int) = ((10 : Nat) : Int) from rfl, shr_tdiv x15 3 (by omega), shr_tdiv x2 10 (by omega)]
        show IntKind.u32.wrap (IntKind.u32.wrap (IntKind.u32.wrap (_ + bxor .u32 _ (IntKind.u32.wrap (Int.tdiv _ 8))) + _) + bxor .u32 _ (IntKind.u32.wrap (Int.tdiv _ 1024))) = IntKind.u32.wrap (IntKind.u32.wrap (IntKind.u32.wrap (_ + _) + bxor .u32 _ (IntKind.u32.wrap (Int.tdiv _ 8))) + bxor .u32 _ (IntKind.u32.wrap (Int.tdiv _ 1024)))
        generalize bxor .u32 _ (IntKind.u32.wrap (Int.tdiv _ 8)) = S
        generalize bxor .u32 _ (IntKind.u32.wrap (Int.tdiv _ 1024)) = T
        simp only [wr32]
        omega
    · have : n = 64 := by omega
      subst this
      rw [List.take_of_length_le (by omega)]
theorem schedule_eq : (∀ a, schedule_C.pre a → PM.wfP schedule_C.pm a (fvc schedule_X 200 80 schedule_C a (eqO schedule_C a))) = (∀ a : (List UInt8) × Unit, ((a.1).length = 64) → (Ty.kd (.sl .byte)).wf a.1 → schedule_VC a.1 (fun o0 => o0 = (wordsN (a.1) 64))) := by kernel_rfl
theorem schedule_k : schedule_C.valid Try.prog 80 := ctr_of (X := schedule_X) (ok_of seat_ok (fun b hb => by cases hb; exact bkT_ok) fns_ok ⟨turn_k, three_k, trivial⟩) 200 (schedule_eq.mpr fun a hp w_0 => @schedule_ok a.1 w_0 hp)
noncomputable def BlockR_C : Ctr := ⟨[.v (.sl (.int .u32)), .v (.sl .byte)], [.rw 92 (.int .u32)], some (fun a => (fun (a0_old : List Int) (a1_b : List UInt8) => (a0_old.length = 8 ∧ a1_b.length = 64 : Prop)) a.1 a.2.1), fun a => (fun (a0_old : List Int) (a1_b : List UInt8) => (((takeW a0_old a1_b), ()), (()))) a.1 a.2.1⟩
noncomputable def BlockR_X : Fx := ⟨{ seat with rws := [1000092] }, some bkT, fns, [(80, schedule_C), (81, constants_C), (83, turn_C), (82, three_C)], [], [(13, [4], [])], [(6, [], [.o 0 2, .o 1 2, .o 2 2, .o 3 2, .o 4 2, .o 5 2, .o 6 2, .o 7 2]), (7, [], [.o 0 2, .o 1 2, .o 2 2, .o 3 2, .o 5 2, .o 7 2, .o 11 2, .o 12 2, .o 13 2, .o 14 2, .o 15 2, .o 16 2, .o 17 2, .o 18 2, .o 19 2, .o 20 2, .o 21 2, .o 22 2, .o 24 2, .o 25 2, .o 26 2, .o 27 2, .o 29 2, .o 30 2, .o 31 2, .o 32 2, .o 4 0, .o 6 0, .o 8 0, .o 9 0, .o 10 2, .o 23 2, .o 28 2, .o 33 2, .o 34 2]), (8, [], [.o 0 2, .o 1 2, .o 2 2, .o 3 2, .o 4 2, .o 5 2, .o 6 2, .o 7 2, .o 8 2, .o 9 2, .o 10 2, .o 11 2, .o 12 2, .o 13 2, .o 14 2, .o 15 2, .o 16 2, .o 17 2, .o 18 2, .o 19 2]), (15, [4], [.o 0 2, .o 1 2, .o 2 2, .o 3 2, .o 4 2, .o 5 2, .o 6 2, .o 7 2, .o 8 2, .o 9 2, .o 10 2, .o 11 2, .o 12 1])]⟩
def BlockR_VC (a0_old : List Int) (a1_b : List UInt8) (Q : (List Int) → Prop) : Prop :=
  (([] : List Int).length + a0_old.length) * (4 : Nat) ≤ (140737488355328 : Nat) ∧ a1_b.length = (64 : Nat) ∧ ((Ty.int IntKind.u32).kd.sl.wf (wordsN a1_b (64 : Nat)) → (Ty.int IntKind.u32).kd.sl.wf shaK → ∃ (x0 : List Int → Int → Prop), ∃ (x1 : List Int → Int → Nat), x0 (([] : List Int) ++ a0_old) (0 : Int) ∧ ∀ (x2 : List Int) (x3 : Int), x0 x2 x3 → (Ty.int IntKind.u32).kd.sl.wf x2 → (Kd.int IntKind.i64).wf x3 → (x3 < (64 : Int) → ((0 : Int) ≤ (0 : Int) ∧ (0 : Int) < (x2.length : Int)) ∧ ((0 : Int) ≤ (4 : Int) ∧ (4 : Int) < (x2.length : Int)) ∧ ((0 : Int) ≤ (7 : Int) ∧ (7 : Int) < (x2.length : Int)) ∧ ((0 : Int) ≤ (5 : Int) ∧ (5 : Int) < (x2.length : Int)) ∧ ((0 : Int) ≤ (6 : Int) ∧ (6 : Int) < (x2.length : Int)) ∧ ((0 : Int) ≤ x3 ∧ x3 < (shaK.length : Int)) ∧ ((0 : Int) ≤ x3 ∧ x3 < ((wordsN a1_b (64 : Nat)).length : Int)) ∧ ((1 : Int) ≤ (6 : Int) ∧ (6 : Int) ≤ (31 : Int)) ∧ ((Ty.int IntKind.u32).kd.wf (turnR (ix x2 (4 : Int)) (6 : Int)) → ((1 : Int) ≤ (11 : Int) ∧ (11 : Int) ≤ (31 : Int)) ∧ ((Ty.int IntKind.u32).kd.wf (turnR (ix x2 (4 : Int)) (11 : Int)) → ((1 : Int) ≤ (25 : Int) ∧ (25 : Int) ≤ (31 : Int)) ∧ ((Ty.int IntKind.u32).kd.wf (turnR (ix x2 (4 : Int)) (25 : Int)) → (Ty.int IntKind.u32).kd.wf (bxor IntKind.u32 (bxor IntKind.u32 (turnR (ix x2 (4 : Int)) (6 : Int)) (turnR (ix x2 (4 : Int)) (11 : Int))) (turnR (ix x2 (4 : Int)) (25 : Int))) → ((0 : Int) ≤ (1 : Int) ∧ (1 : Int) < (x2.length : Int)) ∧ ((0 : Int) ≤ (2 : Int) ∧ (2 : Int) < (x2.length : Int)) ∧ ((0 : Int) ≤ (1 : Int) ∧ (1 : Int) < (x2.length : Int)) ∧ ((0 : Int) ≤ (2 : Int) ∧ (2 : Int) < (x2.length : Int)) ∧ ((1 : Int) ≤ (2 : Int) ∧ (2 : Int) ≤ (31 : Int)) ∧ ((Ty.int IntKind.u32).kd.wf (turnR (ix x2 (0 : Int)) (2 : Int)) → ((1 : Int) ≤ (13 : Int) ∧ (13 : Int) ≤ (31 : Int)) ∧ ((Ty.int IntKind.u32).kd.wf (turnR (ix x2 (0 : Int)) (13 : Int)) → ((1 : Int) ≤ (22 : Int) ∧ (22 : Int) ≤ (31 : Int)) ∧ ((Ty.int IntKind.u32).kd.wf (turnR (ix x2 (0 : Int)) (22 : Int)) → (Ty.int IntKind.u32).kd.wf (bxor IntKind.u32 (bxor IntKind.u32 (turnR (ix x2 (0 : Int)) (2 : Int)) (turnR (ix x2 (0 : Int)) (13 : Int))) (turnR (ix x2 (0 : Int)) (22 : Int))) → ((0 : Int) ≤ (3 : Int) ∧ (3 : Int) < (x2.length : Int)) ∧ ((0 : Int) ≤ (3 : Int) ∧ (3 : Int) < (x2.length : Int)) ∧ ((0 : Int) ≤ (0 : Int) ∧ (0 : Int) ≤ (7 : Int) ∧ (7 : Int) ≤ ((x2.set (Int.toNat (3 : Int)) (IntKind.u32.wrap (ix x2 (3 : Int) + IntKind.u32.wrap (IntKind.u32.wrap (IntKind.u32.wrap (IntKind.u32.wrap (ix x2 (7 : Int) + bxor IntKind.u32 (bxor IntKind.u32 (turnR (ix x2 (4 : Int)) (6 : Int)) (turnR (ix x2 (4 : Int)) (11 : Int))) (turnR (ix x2 (4 : Int)) (25 : Int))) + bor IntKind.u32 (band IntKind.u32 (ix x2 (4 : Int)) (ix x2 (5 : Int))) (band IntKind.u32 (bxor IntKind.u32 (4294967295 : Int) (ix x2 (4 : Int))) (ix x2 (6 : Int)))) + ix shaK x3) + ix (wordsN a1_b (64 : Nat)) x3)))).length : Int)) ∧ ((IntKind.u32.wrap (IntKind.u32.wrap (IntKind.u32.wrap (IntKind.u32.wrap (IntKind.u32.wrap (ix x2 (7 : Int) + bxor IntKind.u32 (bxor IntKind.u32 (turnR (ix x2 (4 : Int)) (6 : Int)) (turnR (ix x2 (4 : Int)) (11 : Int))) (turnR (ix x2 (4 : Int)) (25 : Int))) + bor IntKind.u32 (band IntKind.u32 (ix x2 (4 : Int)) (ix x2 (5 : Int))) (band IntKind.u32 (bxor IntKind.u32 (4294967295 : Int) (ix x2 (4 : Int))) (ix x2 (6 : Int)))) + ix shaK x3) + ix (wordsN a1_b (64 : Nat)) x3) + IntKind.u32.wrap (bxor IntKind.u32 (bxor IntKind.u32 (turnR (ix x2 (0 : Int)) (2 : Int)) (turnR (ix x2 (0 : Int)) (13 : Int))) (turnR (ix x2 (0 : Int)) (22 : Int)) + bor IntKind.u32 (bor IntKind.u32 (band IntKind.u32 (ix x2 (0 : Int)) (ix x2 (1 : Int))) (band IntKind.u32 (ix x2 (0 : Int)) (ix x2 (2 : Int)))) (band IntKind.u32 (ix x2 (1 : Int)) (ix x2 (2 : Int))))) :: ([] : List Int)).length + (List.drop (Int.toNat (0 : Int)) (List.take (Int.toNat (7 : Int)) (x2.set (Int.toNat (3 : Int)) (IntKind.u32.wrap (ix x2 (3 : Int) + IntKind.u32.wrap (IntKind.u32.wrap (IntKind.u32.wrap (IntKind.u32.wrap (ix x2 (7 : Int) + bxor IntKind.u32 (bxor IntKind.u32 (turnR (ix x2 (4 : Int)) (6 : Int)) (turnR (ix x2 (4 : Int)) (11 : Int))) (turnR (ix x2 (4 : Int)) (25 : Int))) + bor IntKind.u32 (band IntKind.u32 (ix x2 (4 : Int)) (ix x2 (5 : Int))) (band IntKind.u32 (bxor IntKind.u32 (4294967295 : Int) (ix x2 (4 : Int))) (ix x2 (6 : Int)))) + ix shaK x3) + ix (wordsN a1_b (64 : Nat)) x3)))))).length) * (4 : Nat) ≤ (140737488355328 : Nat) ∧ x3 < (9223372036854775807 : Int) ∧ x0 (IntKind.u32.wrap (IntKind.u32.wrap (IntKind.u32.wrap (IntKind.u32.wrap (IntKind.u32.wrap (ix x2 (7 : Int) + bxor IntKind.u32 (bxor IntKind.u32 (turnR (ix x2 (4 : Int)) (6 : Int)) (turnR (ix x2 (4 : Int)) (11 : Int))) (turnR (ix x2 (4 : Int)) (25 : Int))) + bor IntKind.u32 (band IntKind.u32 (ix x2 (4 : Int)) (ix x2 (5 : Int))) (band IntKind.u32 (bxor IntKind.u32 (4294967295 : Int) (ix x2 (4 : Int))) (ix x2 (6 : Int)))) + ix shaK x3) + ix (wordsN a1_b (64 : Nat)) x3) + IntKind.u32.wrap (bxor IntKind.u32 (bxor IntKind.u32 (turnR (ix x2 (0 : Int)) (2 : Int)) (turnR (ix x2 (0 : Int)) (13 : Int))) (turnR (ix x2 (0 : Int)) (22 : Int)) + bor IntKind.u32 (bor IntKind.u32 (band IntKind.u32 (ix x2 (0 : Int)) (ix x2 (1 : Int))) (band IntKind.u32 (ix x2 (0 : Int)) (ix x2 (2 : Int)))) (band IntKind.u32 (ix x2 (1 : Int)) (ix x2 (2 : Int))))) :: ([] : List Int) ++ List.drop (Int.toNat (0 : Int)) (List.take (Int.toNat (7 : Int)) (x2.set (Int.toNat (3 : Int)) (IntKind.u32.wrap (ix x2 (3 : Int) + IntKind.u32.wrap (IntKind.u32.wrap (IntKind.u32.wrap (IntKind.u32.wrap (ix x2 (7 : Int) + bxor IntKind.u32 (bxor IntKind.u32 (turnR (ix x2 (4 : Int)) (6 : Int)) (turnR (ix x2 (4 : Int)) (11 : Int))) (turnR (ix x2 (4 : Int)) (25 : Int))) + bor IntKind.u32 (band IntKind.u32 (ix x2 (4 : Int)) (ix x2 (5 : Int))) (band IntKind.u32 (bxor IntKind.u32 (4294967295 : Int) (ix x2 (4 : Int))) (ix x2 (6 : Int)))) + ix shaK x3) + ix (wordsN a1_b (64 : Nat)) x3)))))) (x3 + (1 : Int)) ∧ x1 (IntKind.u32.wrap (IntKind.u32.wrap (IntKind.u32.wrap (IntKind.u32.wrap (IntKind.u32.wrap (ix x2 (7 : Int) + bxor IntKind.u32 (bxor IntKind.u32 (turnR (ix x2 (4 : Int)) (6 : Int)) (turnR (ix x2 (4 : Int)) (11 : Int))) (turnR (ix x2 (4 : Int)) (25 : Int))) + bor IntKind.u32 (band IntKind.u32 (ix x2 (4 : Int)) (ix x2 (5 : Int))) (band IntKind.u32 (bxor IntKind.u32 (4294967295 : Int) (ix x2 (4 : Int))) (ix x2 (6 : Int)))) + ix shaK x3) + ix (wordsN a1_b (64 : Nat)) x3) + IntKind.u32.wrap (bxor IntKind.u32 (bxor IntKind.u32 (turnR (ix x2 (0 : Int)) (2 : Int)) (turnR (ix x2 (0 : Int)) (13 : Int))) (turnR (ix x2 (0 : Int)) (22 : Int)) + bor IntKind.u32 (bor IntKind.u32 (band IntKind.u32 (ix x2 (0 : Int)) (ix x2 (1 : Int))) (band IntKind.u32 (ix x2 (0 : Int)) (ix x2 (2 : Int)))) (band IntKind.u32 (ix x2 (1 : Int)) (ix x2 (2 : Int))))) :: ([] : List Int) ++ List.drop (Int.toNat (0 : Int)) (List.take (Int.toNat (7 : Int)) (x2.set (Int.toNat (3 : Int)) (IntKind.u32.wrap (ix x2 (3 : Int) + IntKind.u32.wrap (IntKind.u32.wrap (IntKind.u32.wrap (IntKind.u32.wrap (ix x2 (7 : Int) + bxor IntKind.u32 (bxor IntKind.u32 (turnR (ix x2 (4 : Int)) (6 : Int)) (turnR (ix x2 (4 : Int)) (11 : Int))) (turnR (ix x2 (4 : Int)) (25 : Int))) + bor IntKind.u32 (band IntKind.u32 (ix x2 (4 : Int)) (ix x2 (5 : Int))) (band IntKind.u32 (bxor IntKind.u32 (4294967295 : Int) (ix x2 (4 : Int))) (ix x2 (6 : Int)))) + ix shaK x3) + ix (wordsN a1_b (64 : Nat)) x3)))))) (x3 + (1 : Int)) < x1 x2 x3))))))) ∧ (¬x3 < (64 : Int) → ∃ (x8 : Int → List Int → Prop), ∃ (x9 : Int → List Int → Nat), x8 (0 : Int) x2 ∧ ∀ (x10 : Int) (x11 : List Int), x8 x10 x11 → (Kd.int IntKind.i64).wf x10 → (Ty.int IntKind.u32).kd.sl.wf x11 → (x10 < (8 : Int) → ((0 : Int) ≤ x10 ∧ x10 < (x11.length : Int)) ∧ ((0 : Int) ≤ x10 ∧ x10 < (a0_old.length : Int)) ∧ ((0 : Int) ≤ x10 ∧ x10 < (x11.length : Int)) ∧ x10 < (9223372036854775807 : Int) ∧ x8 (x10 + (1 : Int)) (x11.set x10.toNat (IntKind.u32.wrap (ix x11 x10 + ix a0_old x10))) ∧ x9 (x10 + (1 : Int)) (x11.set x10.toNat (IntKind.u32.wrap (ix x11 x10 + ix a0_old x10))) < x9 x10 x11) ∧ (¬x10 < (8 : Int) → Q x11)))
theorem BlockR_ok {a0_old : List Int} {a1_b : List UInt8} (w_0 : (Ty.kd (.sl (.int .u32))).wf a0_old) (w_1 : (Ty.kd (.sl .byte)).wf a1_b) (hp : a0_old.length = 8 ∧ a1_b.length = 64) : BlockR_VC a0_old a1_b (fun o0 => o0 = (takeW a0_old a1_b)) := by
  obtain ⟨hp1, hp2⟩ := hp
  have w64 : ∀ a : Int, -1000 ≤ a → a ≤ 1000 → IntKind.i64.wrap a = a := fun a h1 h2 => wrap_id (wf64 (by omega) (by omega))
  have hk : shaK.length = 64 := by decide
  have hwl := wordsN_len a1_b 64
  have hrl : ∀ n, (roundsN (wordsN a1_b 64) a0_old n).length = 8 := fun n => by
    cases n with
    | zero => exact hp1
    | succ n => rfl
  unfold BlockR_VC
  simp only [List.nil_append]
  refine ⟨by simp; omega, hp2, fun _ _ => ⟨fun x i => ∃ n : Nat, i = (n : Int) ∧ n ≤ 64 ∧ x = roundsN (wordsN a1_b 64) a0_old n, fun _ i => 64 - i.toNat, ⟨0, rfl, by omega, rfl⟩, ?_⟩⟩
  rintro x i ⟨n, rfl, hn, rfl⟩ hwf _
  have hx := hrl n
  refine ⟨fun hlt => ?_, fun hge => ?_⟩
  · have x4 := wf32 (hwf.2 _ (ix_mem (l := roundsN (wordsN a1_b 64) a0_old n) (i := 4) (by omega) (by rw [hx]; decide)))
    have x0 := wf32 (hwf.2 _ (ix_mem (l := roundsN (wordsN a1_b 64) a0_old n) (i := 0) (by omega) (by rw [hx]; decide)))
    have hnext : roundsN (wordsN a1_b 64) a0_old (n + 1) = roundOn (wordsN a1_b 64) (roundsN (wordsN a1_b 64) a0_old n) n := rfl
    rw [← turnsA x4, ← turnsB x0, ch_eq, maj_eq]
    generalize hX : roundsN (wordsN a1_b 64) a0_old n = X at *
    rw [hx, hk, hwl]
    refine ⟨by omega, by omega, by omega, by omega, by omega, by omega, by omega, by omega, fun _ => ⟨by omega, fun _ => ⟨by omega, fun _ _ => ?_⟩⟩⟩
    refine ⟨by omega, by omega, by omega, by omega, by omega, fun _ => ⟨by omega, fun _ => ⟨by omega, fun _ _ => ?_⟩⟩⟩
    refine ⟨by omega, by omega, ?_, ?_, by omega, ⟨n + 1, by omega, by omega, ?_⟩, (by show 64 - ((n : Int) + 1).toNat < 64 - (n : Int).toNat; omega)⟩
    · rw [List.length_set, hx]; decide
    · simp only [List.length_cons, List.length_nil, List.length_drop, List.length_take, List.length_set, hx]; decide
    · rw [hnext]
      match X, hx with
      | [y0, y1, y2, y3, y4, y5, y6, y7], _ => rfl
  · have hn64 : n = 64 := by omega
    subst hn64
    have hT : takeW a0_old a1_b = addN a0_old (roundsN (wordsN a1_b 64) a0_old 64) 8 := by unfold takeW; rfl
    rw [hT]
    have hTl : (addN a0_old (roundsN (wordsN a1_b 64) a0_old 64) 8).length = 8 := by rw [addN_len, hp1]
    have hadd := addN_get (x := roundsN (wordsN a1_b 64) a0_old 64) hp1
    clear hrl hT hwf hn hge
    generalize roundsN (wordsN a1_b 64) a0_old 64 = R at *
    refine ⟨fun i x => ∃ n : Nat, i = (n : Int) ∧ n ≤ 8 ∧ x.length = 8 ∧ ∀ j : Nat, j < 8 → x[j]? = if j < n then (addN a0_old R 8)[j]? else R[j]?, fun i _ => 8 - i.toNat, ⟨0, rfl, by omega, hx, fun j hj => by rw [if_neg (by omega)]⟩, ?_⟩
    rintro i x ⟨n, rfl, hn, hxl, hxj⟩ _ _
    refine ⟨fun hlt => ⟨by omega, by omega, by omega, by omega, ⟨n + 1, by omega, by omega, by rw [List.length_set]; exact hxl, fun j hj => ?_⟩, by show 8 - ((n : Int) + 1).toNat < 8 - (n : Int).toNat; omega⟩, fun hge => ?_⟩
    · have hi : ix x (n : Int) = ix R (n : Int) := by
        have h := hxj n (by omega)
        rw [if_neg (by omega)] at h
        unfold ix
        simp only [List.getD_eq_getElem?_getD, Int.toNat_natCast]
        rw [h]
      rw [hi, List.getElem?_set, Int.toNat_natCast]
      by_cases h : n = j
      · subst h
        rw [if_pos rfl, if_pos (by omega), if_pos (by omega), hadd 8 n (by omega) (by omega), if_pos (by omega), Int.add_comm]
      · rw [if_neg h, hxj j hj]
        by_cases h2 : j < n
        · rw [if_pos h2, if_pos (by omega)]
        · rw [if_neg h2, if_neg (by omega)]
    · have hn8 : n = 8 := by omega
      subst hn8
      apply List.ext_getElem?
      intro j
      by_cases hj : j < 8
      · rw [hxj j hj, if_pos hj]
      · rw [List.getElem?_eq_none (by omega), List.getElem?_eq_none (by omega)]
theorem BlockR_eq : (∀ a, BlockR_C.pre a → PM.wfP BlockR_C.pm a (fvc BlockR_X 200 71 BlockR_C a (eqO BlockR_C a))) = (∀ a : (List Int) × (List UInt8) × Unit, ((a.1).length = 8 ∧ (a.2.1).length = 64) → (Ty.kd (.sl (.int .u32))).wf a.1 → (Ty.kd (.sl .byte)).wf a.2.1 → BlockR_VC a.1 a.2.1 (fun o0 => o0 = (takeW (a.1) (a.2.1)))) := by kernel_rfl
theorem BlockR_k : BlockR_C.valid Try.prog 71 := ctr_of (X := BlockR_X) (ok_of (seat_ok.rows [1000092]) (fun b hb => by cases hb; exact bkT_ok) fns_ok ⟨schedule_k, constants_k, turn_k, three_k, trivial⟩) 200 (BlockR_eq.mpr fun a hp w_0 w_1 => @BlockR_ok a.1 a.2.1 w_0 w_1 hp)
noncomputable def Block_C : Ctr := ⟨[.v (.sl (.int .u32)), .v (.sl .byte)], [.ow 92 (.int .u32)], some (fun a => (fun (a0_old : List Int) (a1_b : List UInt8) => (a0_old.length = 8 ∧ a1_b.length = 64 : Prop)) a.1 a.2.1), fun a => (fun (a0_old : List Int) (a1_b : List UInt8) => (((takeW a0_old a1_b), ()), (()))) a.1 a.2.1⟩
theorem Block_k : Block_C.valid Try.prog 71 := ow_of_rw BlockR_k
noncomputable def RAll_C : Ctr := ⟨[.v (.sl (.sl .byte))], [.ow 5 .byte], some (fun a => (fun (a0_parts : List (List UInt8)) => (a0_parts.flatten.length ≤ 70368744177664 : Prop)) a.1), fun a => (fun (a0_parts : List (List UInt8)) => ((a0_parts.flatten, ()), (()))) a.1⟩
noncomputable def RAll_X : Fx := ⟨seat, some bkT, fns, [], [], [], []⟩
def RAll_VC (a0_parts : List (List UInt8)) (Q : (List UInt8) → Prop) : Prop :=
  ∃ (x0 : List UInt8 → Int → Prop), ∃ (x1 : List UInt8 → Int → Nat), x0 ([] : List UInt8) (0 : Int) ∧ ∀ (x2 : List UInt8) (x3 : Int), x0 x2 x3 → Ty.byte.kd.sl.wf x2 → (Kd.int IntKind.i64).wf x3 → (x3 < (a0_parts.length : Int) → ((0 : Int) ≤ x3 ∧ x3 < (a0_parts.length : Int)) ∧ (x2.length + (ix a0_parts x3).length) * (1 : Nat) ≤ (140737488355328 : Nat) ∧ x3 < (9223372036854775807 : Int) ∧ x0 (x2 ++ ix a0_parts x3) (x3 + (1 : Int)) ∧ x1 (x2 ++ ix a0_parts x3) (x3 + (1 : Int)) < x1 x2 x3) ∧ (¬x3 < (a0_parts.length : Int) → Q x2)
theorem RAll_ok {a0_parts : List (List UInt8)} (w_0 : (Ty.kd (.sl (.sl .byte))).wf a0_parts) (hp : a0_parts.flatten.length ≤ 70368744177664) : RAll_VC a0_parts (fun o0 => o0 = a0_parts.flatten) := by
  have hL : a0_parts.length ≤ LM := w_0.1
  unfold LM at hL
  unfold RAll_VC
  refine ⟨fun out i => ∃ j : Nat, i = (j : Int) ∧ j ≤ a0_parts.length ∧ out = (a0_parts.take j).flatten, fun _ i => a0_parts.length - i.toNat, ⟨0, rfl, by omega, by simp⟩, ?_⟩
  rintro out i ⟨j, rfl, hj, rfl⟩ _ _
  refine ⟨fun hlt => ⟨⟨by omega, hlt⟩, ?_, by omega, ⟨j + 1, by omega, by omega, (flat_step hlt).symm⟩, ?_⟩, fun hge => ?_⟩
  · have h1 := flat_take (l := a0_parts) (j + 1)
    rw [flat_step hlt, List.length_append] at h1
    omega
  · show a0_parts.length - ((j : Int) + 1).toNat < a0_parts.length - (j : Int).toNat
    omega
  · have : j = a0_parts.length := by omega
    subst this
    rw [List.take_length]
theorem RAll_eq : (∀ a, RAll_C.pre a → PM.wfP RAll_C.pm a (fvc RAll_X 200 70 RAll_C a (eqO RAll_C a))) = (∀ a : (List (List UInt8)) × Unit, ((a.1).flatten.length ≤ 70368744177664) → (Ty.kd (.sl (.sl .byte))).wf a.1 → RAll_VC a.1 (fun o0 => o0 = (a.1).flatten)) := by kernel_rfl
theorem RAll_k : RAll_C.valid Try.prog 70 := ctr_of (X := RAll_X) (ok_of seat_ok (fun b hb => by cases hb; exact bkT_ok) fns_ok trivial) 200 (RAll_eq.mpr fun a hp w_0 => @RAll_ok a.1 w_0 hp)
noncomputable def RSum_C : Ctr := ⟨[.v (.sl (.sl .byte))], [.v (.arr 32 .byte)], some (fun a => (fun (a0_parts : List (List UInt8)) => (a0_parts.flatten.length ≤ 70368744177664 : Prop)) a.1), fun a => (fun (a0_parts : List (List UInt8)) => (((sha256 a0_parts), ()), (()))) a.1⟩
noncomputable def RSum_X : Fx := ⟨seat, some bkT, fns, [(70, RAll_C), (69, Message_C), (71, Block_C), (71, BlockR_C), (72, power_C)], [], [(9, [5], [])], [(11, [5], [.o 0 2, .o 1 2, .o 2 2, .o 3 2, .o 4 2, .o 5 2, .o 6 2, .o 7 2, .o 8 2, .o 9 2, .o 10 0, .o 11 2, .o 12 2, .o 13 2, .o 14 2, .o 15 1])]⟩
def RSum_VC (a0_parts : List (List UInt8)) (Q : (List UInt8) → Prop) : Prop :=
  a0_parts.flatten.length ≤ (70368744177664 : Nat) ∧ (Ty.byte.kd.sl.wf a0_parts.flatten → a0_parts.flatten.length ≤ (70368744177664 : Nat) ∧ (Ty.byte.kd.sl.wf (msgOf a0_parts.flatten) → ∃ (x0 : List Int → Int → Prop), ∃ (x1 : List Int → Int → Nat), x0 ((1779033703 : Int) :: (3144134277 : Int) :: (1013904242 : Int) :: (2773480762 : Int) :: (1359893119 : Int) :: (2600822924 : Int) :: (528734635 : Int) :: (1541459225 : Int) :: ([] : List Int)) (0 : Int) ∧ ∀ (x2 : List Int) (x3 : Int), x0 x2 x3 → (Ty.int IntKind.u32).kd.sl.wf x2 → (Kd.int IntKind.i64).wf x3 → (x3 < ((msgOf a0_parts.flatten).length : Int) → ((0 : Int) ≤ x3 ∧ x3 ≤ IntKind.i64.wrap (x3 + (64 : Int)) ∧ IntKind.i64.wrap (x3 + (64 : Int)) ≤ ((msgOf a0_parts.flatten).length : Int)) ∧ (x2.length = (8 : Nat) ∧ (List.drop x3.toNat (List.take (IntKind.i64.wrap (x3 + (64 : Int))).toNat (msgOf a0_parts.flatten))).length = (64 : Nat)) ∧ ((Ty.int IntKind.u32).kd.sl.wf (takeW x2 (List.drop x3.toNat (List.take (IntKind.i64.wrap (x3 + (64 : Int))).toNat (msgOf a0_parts.flatten)))) → x0 (takeW x2 (List.drop x3.toNat (List.take (IntKind.i64.wrap (x3 + (64 : Int))).toNat (msgOf a0_parts.flatten)))) (IntKind.i64.wrap (x3 + (64 : Int))) ∧ x1 (takeW x2 (List.drop x3.toNat (List.take (IntKind.i64.wrap (x3 + (64 : Int))).toNat (msgOf a0_parts.flatten)))) (IntKind.i64.wrap (x3 + (64 : Int))) < x1 x2 x3)) ∧ (¬x3 < ((msgOf a0_parts.flatten).length : Int) → ∃ (x8 : Int → List UInt8 → Prop), ∃ (x9 : Int → List UInt8 → Nat), x8 (0 : Int) (Ty.arr (32 : Nat) Ty.byte).kd.z ∧ ∀ (x10 : Int) (x11 : List UInt8), x8 x10 x11 → (Kd.int IntKind.i64).wf x10 → (Ty.arr (32 : Nat) Ty.byte).kd.wf x11 → (x10 < (32 : Int) → ((0 : Int) ≤ IntKind.i64.wrap (x10.tdiv (4 : Int)) ∧ IntKind.i64.wrap (x10.tdiv (4 : Int)) < (x2.length : Int)) ∧ ((0 : Int) ≤ IntKind.i64.wrap ((24 : Int) - IntKind.i64.wrap (x10.tmod (4 : Int) * (8 : Int))) ∧ IntKind.i64.wrap ((24 : Int) - IntKind.i64.wrap (x10.tmod (4 : Int) * (8 : Int))) ≤ (31 : Int)) ∧ ((Ty.int IntKind.u32).kd.wf ((2 : Int) ^ (IntKind.i64.wrap ((24 : Int) - IntKind.i64.wrap (x10.tmod (4 : Int) * (8 : Int)))).toNat) → (2 : Int) ^ (IntKind.i64.wrap ((24 : Int) - IntKind.i64.wrap (x10.tmod (4 : Int) * (8 : Int)))).toNat ≠ (0 : Int) ∧ ((0 : Int) ≤ x10 ∧ x10 < ((32 : Nat) : Int)) ∧ x10 < (9223372036854775807 : Int) ∧ x8 (x10 + (1 : Int)) (x11.set x10.toNat (toB (IntKind.u8.wrap ((IntKind.u32.wrap ((ix x2 (IntKind.i64.wrap (x10.tdiv (4 : Int)))).tdiv ((2 : Int) ^ (IntKind.i64.wrap ((24 : Int) - IntKind.i64.wrap (x10.tmod (4 : Int) * (8 : Int)))).toNat))).tmod (256 : Int))))) ∧ x9 (x10 + (1 : Int)) (x11.set x10.toNat (toB (IntKind.u8.wrap ((IntKind.u32.wrap ((ix x2 (IntKind.i64.wrap (x10.tdiv (4 : Int)))).tdiv ((2 : Int) ^ (IntKind.i64.wrap ((24 : Int) - IntKind.i64.wrap (x10.tmod (4 : Int) * (8 : Int)))).toNat))).tmod (256 : Int))))) < x9 x10 x11)) ∧ (¬x10 < (32 : Int) → Q x11))))
theorem RSum_ok {a0_parts : List (List UInt8)} (w_0 : (Ty.kd (.sl (.sl .byte))).wf a0_parts) (hp : a0_parts.flatten.length ≤ 70368744177664) : RSum_VC a0_parts (fun o0 => o0 = (sha256 a0_parts)) := by
  have w64 : ∀ a : Int, 0 ≤ a → a ≤ 140737488355328 → IntKind.i64.wrap a = a := fun a h1 h2 => wrap_id (wf64 (by omega) (by omega))
  unfold RSum_VC
  refine ⟨hp, fun _ => ⟨hp, fun _ => ?_⟩⟩
  rw [sha256_msg _ hp]
  have hml := msgOf_len a0_parts.flatten
  have hz : zerosN a0_parts.flatten.length < 64 ∧ (a0_parts.flatten.length + (1 + (zerosN a0_parts.flatten.length + 8))) % 64 = 0 := by unfold zerosN; omega
  generalize hM : msgOf a0_parts.flatten = M at *
  have hM64 : M.length % 64 = 0 := by omega
  have hMle : M.length ≤ 70368744177664 + 100 := by omega
  clear hml hz hM
  refine ⟨fun x i => ∃ k : Nat, i = ((64 * k : Nat) : Int) ∧ 64 * k ≤ M.length ∧ x = blkN shaH M k, fun _ i => M.length - i.toNat, ⟨0, rfl, by omega, rfl⟩, ?_⟩
  rintro x i ⟨k, rfl, hk, rfl⟩ hwx _
  have hbl : (blkN shaH M k).length = 8 := by rw [blkN_len]; rfl
  refine ⟨fun hlt => ?_, fun hge => ?_⟩
  · rw [w64 _ (by omega) (by omega)]
    have e1 : (((64 * k : Nat) : Int) + 64).toNat = 64 * k + 64 := by omega
    rw [e1, Int.toNat_natCast]
    have hd : (M.take (64 * k + 64)).drop (64 * k) = (M.drop (64 * k)).take 64 := by rw [List.drop_take]; congr 1; omega
    rw [hd]
    refine ⟨by omega, ⟨hbl, by rw [List.length_take, List.length_drop]; omega⟩, fun _ => ⟨⟨k + 1, by omega, by omega, rfl⟩, ?_⟩⟩
    show M.length - (((64 * k : Nat) : Int) + 64).toNat < M.length - ((64 * k : Nat) : Int).toNat
    omega
  · have hk2 : M.length / 64 = k := by omega
    rw [hk2, sumN_out]
    generalize blkN shaH M k = X at *
    refine ⟨fun i b => ∃ n : Nat, i = (n : Int) ∧ n ≤ 32 ∧ b.length = 32 ∧ ∀ j : Nat, j < n → b[j]? = some (outB X j), fun i _ => 32 - i.toNat, ⟨0, rfl, by omega, rfl, fun j hj => by omega⟩, ?_⟩
    rintro i b ⟨n, rfl, hn, hb, hbj⟩ _ _
    refine ⟨fun hlt => ?_, fun hge => ?_⟩
    · have w64' : ∀ a : Int, -1000 ≤ a → a ≤ 1000 → IntKind.i64.wrap a = a := fun a h1 h2 => wrap_id (wf64 (by omega) (by omega))
      have d1 : Int.tdiv (n : Int) 4 = ((n / 4 : Nat) : Int) := (Int.ofNat_tdiv n 4).symm
      have d2 : Int.tmod (n : Int) 4 = ((n % 4 : Nat) : Int) := (Int.ofNat_tmod n 4).symm
      rw [d1, d2, w64' ((n / 4 : Nat) : Int) (by omega) (by omega), w64' (((n % 4 : Nat) : Int) * 8) (by omega) (by omega), w64' (24 - ((n % 4 : Nat) : Int) * 8) (by omega) (by omega)]
      have e3 : (24 - ((n % 4 : Nat) : Int) * 8).toNat = 24 - n % 4 * 8 := by omega
      rw [e3]
      have hpos := Nat.two_pow_pos (24 - n % 4 * 8)
      have e4 : (2 ^ (24 - n % 4 * 8) : Int) = ((2 ^ (24 - n % 4 * 8) : Nat) : Int) := by simp
      rw [e4]
      refine ⟨by omega, by omega, fun _ => ⟨by omega, by omega, by omega, ⟨n + 1, by omega, by omega, by rw [List.length_set]; exact hb, fun j hj => ?_⟩, by show 32 - ((n : Int) + 1).toNat < 32 - (n : Int).toNat; omega⟩⟩
      rw [List.getElem?_set, Int.toNat_natCast]
      by_cases h : n = j
      · subst h
        rw [if_pos rfl, if_pos (by omega)]
        congr 1
        unfold outB
        have hxw := wf32 (hwx.2 _ (ix_mem (l := X) (i := ((n / 4 : Nat) : Int)) (by omega) (by omega)))
        obtain ⟨A, hA⟩ := Int.eq_ofNat_of_zero_le hxw.1
        rw [hA] at hxw ⊢
        have hle : A / 2 ^ (24 - n % 4 * 8) ≤ A := Nat.div_le_self _ _
        rw [← Int.ofNat_tdiv, Int.toNat_natCast]
        generalize A / 2 ^ (24 - n % 4 * 8) = D at *
        rw [wrap_nat32 (by omega), show (256 : Int) = ((256 : Nat) : Int) from rfl, ← Int.ofNat_tmod, wrap_id ⟨by show (0 : Int) ≤ _; omega, by show _ ≤ (255 : Int); omega⟩]
        unfold toB
        rw [Int.toNat_natCast]
        apply UInt8.toNat_inj.1
        simp
      · rw [if_neg h]
        exact hbj j (by omega)
    · have : n = 32 := by omega
      subst this
      apply List.ext_getElem?
      intro j
      by_cases hj : j < 32
      · rw [hbj j hj]
        simp [hj]
      · rw [List.getElem?_eq_none (by omega), List.getElem?_eq_none (by simp; omega)]
theorem RSum_eq : (∀ a, RSum_C.pre a → PM.wfP RSum_C.pm a (fvc RSum_X 200 64 RSum_C a (eqO RSum_C a))) = (∀ a : (List (List UInt8)) × Unit, ((a.1).flatten.length ≤ 70368744177664) → (Ty.kd (.sl (.sl .byte))).wf a.1 → RSum_VC a.1 (fun o0 => o0 = (sha256 (a.1)))) := by kernel_rfl
theorem RSum_k : RSum_C.valid Try.prog 64 := ctr_of (X := RSum_X) (ok_of seat_ok (fun b hb => by cases hb; exact bkT_ok) fns_ok ⟨RAll_k, Message_k, Block_k, BlockR_k, power_k, trivial⟩) 200 (RSum_eq.mpr fun a hp w_0 => @RSum_ok a.1 w_0 hp)
noncomputable def RNumber_C : Ctr := ⟨[.v (.int .u64)], [.ow 5 .byte], none, fun a => (fun (a0_x : Int) => (((numB a0_x.toNat), ()), (()))) a.1⟩
noncomputable def RNumber_X : Fx := ⟨seat, some bkT, fns, [], [], [], []⟩
def RNumber_VC (a0_x : Int) (Q : (List UInt8) → Prop) : Prop :=
  ∃ (x0 : Int → List UInt8 → Prop), ∃ (x1 : Int → List UInt8 → Nat), x0 a0_x ([] : List UInt8) ∧ ∀ (x2 : Int) (x3 : List UInt8), x0 x2 x3 → (Kd.int IntKind.u64).wf x2 → Ty.byte.kd.sl.wf x3 → ((0 : Int) < x2 → (x3.length + (toB (IntKind.u8.wrap (x2.tmod (256 : Int))) :: ([] : List UInt8)).length) * (1 : Nat) ≤ (140737488355328 : Nat) ∧ x0 (IntKind.u64.wrap (x2.tdiv (256 : Int))) (x3 ++ toB (IntKind.u8.wrap (x2.tmod (256 : Int))) :: ([] : List UInt8)) ∧ x1 (IntKind.u64.wrap (x2.tdiv (256 : Int))) (x3 ++ toB (IntKind.u8.wrap (x2.tmod (256 : Int))) :: ([] : List UInt8)) < x1 x2 x3) ∧ (¬(0 : Int) < x2 → ∃ (x8 : List UInt8 → Int → Prop), ∃ (x9 : List UInt8 → Int → Nat), x8 (toB (IntKind.u8.wrap (x3.length : Int)) :: ([] : List UInt8)) (x3.length : Int) ∧ ∀ (x10 : List UInt8) (x11 : Int), x8 x10 x11 → Ty.byte.kd.sl.wf x10 → (Kd.int IntKind.i64).wf x11 → ((0 : Int) < x11 → ((0 : Int) ≤ IntKind.i64.wrap (x11 - (1 : Int)) ∧ IntKind.i64.wrap (x11 - (1 : Int)) < (x3.length : Int)) ∧ (x10.length + (ix x3 (IntKind.i64.wrap (x11 - (1 : Int))) :: ([] : List UInt8)).length) * (1 : Nat) ≤ (140737488355328 : Nat) ∧ x8 (x10 ++ ix x3 (IntKind.i64.wrap (x11 - (1 : Int))) :: ([] : List UInt8)) (IntKind.i64.wrap (x11 - (1 : Int))) ∧ x9 (x10 ++ ix x3 (IntKind.i64.wrap (x11 - (1 : Int))) :: ([] : List UInt8)) (IntKind.i64.wrap (x11 - (1 : Int))) < x9 x10 x11) ∧ (¬(0 : Int) < x11 → Q x10))
theorem RNumber_ok {a0_x : Int} (w_0 : (Ty.kd (.int .u64)).wf a0_x) : RNumber_VC a0_x (fun o0 => o0 = (numB a0_x.toNat)) := by
  obtain ⟨n, rfl⟩ := Int.eq_ofNat_of_zero_le w_0.1
  have hn : n < 18446744073709551616 := by have h : (n : Int) ≤ 18446744073709551615 := w_0.2; omega
  rw [Int.toNat_natCast]
  have w64 : ∀ a : Int, -1000 ≤ a → a ≤ 1000 → IntKind.i64.wrap a = a := fun a h1 h2 => wrap_id (wf64 (by omega) (by omega))
  unfold RNumber_VC
  refine ⟨fun x low => ∃ j : Nat, j ≤ 8 ∧ x = ((n / 2 ^ (8 * j) : Nat) : Int) ∧ low = (List.range j).map (fun i => UInt8.ofNat (n / 2 ^ (8 * i))) ∧ (j = 0 ∨ 0 < n / 2 ^ (8 * (j - 1))), fun x _ => x.toNat, ⟨0, by omega, by simp, rfl, .inl rfl⟩, ?_⟩
  rintro x low ⟨j, hj, rfl, rfl, hlow⟩ _ _
  have hdd : n / 2 ^ (8 * (j + 1)) = n / 2 ^ (8 * j) / 256 := by
    rw [Nat.div_div_eq_div_mul, show 8 * (j + 1) = 8 * j + 8 by omega, Nat.pow_add]
  refine ⟨fun hpos => ?_, fun hz => ?_⟩
  · have hj8 : j < 8 := by
      rcases Nat.lt_or_eq_of_le hj with h | h
      · exact h
      · subst h
        rw [Nat.div_eq_of_lt (by simpa using hn)] at hpos
        omega
    have hle : n / 2 ^ (8 * j) ≤ n := Nat.div_le_self _ _
    have e1 : IntKind.u64.wrap (Int.tdiv ((n / 2 ^ (8 * j) : Nat) : Int) 256) = ((n / 2 ^ (8 * (j + 1)) : Nat) : Int) := by
      rw [hdd]
      clear hdd hlow hpos
      generalize n / 2 ^ (8 * j) = A at *
      rw [show (256 : Int) = ((256 : Nat) : Int) from rfl, ← Int.ofNat_tdiv, wrap_id ⟨by show (0 : Int) ≤ _; omega, by show _ ≤ (18446744073709551615 : Int); omega⟩]
    have e2 : toB (IntKind.u8.wrap (Int.tmod ((n / 2 ^ (8 * j) : Nat) : Int) 256)) = UInt8.ofNat (n / 2 ^ (8 * j)) := by
      generalize n / 2 ^ (8 * j) = A
      rw [show (256 : Int) = ((256 : Nat) : Int) from rfl, ← Int.ofNat_tmod, wrap_id ⟨by show (0 : Int) ≤ _; omega, by show _ ≤ (255 : Int); omega⟩]
      unfold toB
      rw [Int.toNat_natCast]
      apply UInt8.toNat_inj.1
      simp
    rw [e1, e2]
    refine ⟨by simp; omega, ⟨j + 1, by omega, rfl, by rw [List.range_succ]; simp, .inr ?_⟩, ?_⟩
    · rw [show j + 1 - 1 = j by omega]
      clear hdd hlow e1 e2
      generalize n / 2 ^ (8 * j) = A at *
      omega
    · show ((n / 2 ^ (8 * (j + 1)) : Nat) : Int).toNat < ((n / 2 ^ (8 * j) : Nat) : Int).toNat
      rw [hdd]
      clear hdd hlow e1 e2
      generalize n / 2 ^ (8 * j) = A at *
      omega
  · have hz0 : n / 2 ^ (8 * j) = 0 := by
      revert hz
      generalize n / 2 ^ (8 * j) = A
      intro hz
      omega
    have hlt : n < 2 ^ (8 * j) := by
      rcases Nat.lt_or_ge n (2 ^ (8 * j)) with h | h
      · exact h
      · have := Nat.div_pos h (Nat.two_pow_pos (8 * j)); omega
    have hk : (blen n + 7) / 8 = j := by
      have h1 := blen_lt (8 * j) hlt
      rcases hlow with h | h
      · subst h; omega
      · have h2 : 2 ^ (8 * (j - 1)) ≤ n := by
          rcases Nat.lt_or_ge n (2 ^ (8 * (j - 1))) with hq | hq
          · rw [Nat.div_eq_of_lt hq] at h; omega
          · exact hq
        have h3 := Nat.lt_of_le_of_lt h2 (lt_blen n)
        have h4 : 8 * (j - 1) < blen n := (Nat.pow_lt_pow_iff_right (by omega)).1 h3
        rcases Nat.eq_zero_or_pos j with hj0 | hj0
        · subst hj0; omega
        · omega
    have hlen : ((List.range j).map (fun i => UInt8.ofNat (n / 2 ^ (8 * i)))).length = j := by simp
    have hix : ∀ i : Nat, i < j → ix ((List.range j).map (fun i => UInt8.ofNat (n / 2 ^ (8 * i)))) (i : Int) = UInt8.ofNat (n / 2 ^ (8 * i)) := fun i hi => by
      unfold ix
      simp [hi]
    have hn0 : numB n = toB (IntKind.u8.wrap (j : Int)) :: be n j := by
      unfold numB
      simp only [hk]
      congr 1
      rw [wrap_id ⟨by show (0 : Int) ≤ _; omega, by show _ ≤ (255 : Int); omega⟩]
      unfold toB
      rw [Int.toNat_natCast]
    rw [hlen, hn0]
    refine ⟨fun out i => ∃ m : Nat, i = (m : Int) ∧ m ≤ j ∧ out ++ be n m = toB (IntKind.u8.wrap (j : Int)) :: be n j, fun _ i => i.toNat, ⟨j, rfl, by omega, rfl⟩, ?_⟩
    rintro out i ⟨m, rfl, hm, hout⟩ _ _
    have hol := congrArg List.length hout
    simp only [List.length_append, List.length_cons, be_length] at hol
    refine ⟨fun hpos => ?_, fun h0 => ?_⟩
    · obtain ⟨m, rfl⟩ : ∃ m', m = m' + 1 := ⟨m - 1, by omega⟩
      have e : IntKind.i64.wrap (((m + 1 : Nat) : Int) - 1) = (m : Int) := by rw [w64 _ (by omega) (by omega)]; omega
      rw [e, hix m (by omega)]
      refine ⟨by omega, by simp only [List.length_cons, List.length_nil]; omega, ⟨m, rfl, by omega, ?_⟩, by show (m : Int).toNat < ((m + 1 : Nat) : Int).toNat; omega⟩
      rw [← hout]
      simp [be]
    · have : m = 0 := by omega
      subst this
      simpa [be] using hout
theorem RNumber_eq : (∀ a, RNumber_C.pre a → PM.wfP RNumber_C.pm a (fvc RNumber_X 200 84 RNumber_C a (eqO RNumber_C a))) = (∀ a : Int × Unit, True → (Ty.kd (.int .u64)).wf a.1 → RNumber_VC a.1 (fun o0 => o0 = (numB (a.1).toNat))) := by kernel_rfl
theorem RNumber_k : RNumber_C.valid Try.prog 84 := ctr_of (X := RNumber_X) (ok_of seat_ok (fun b hb => by cases hb; exact bkT_ok) fns_ok trivial) 200 (RNumber_eq.mpr fun a hp w_0 => @RNumber_ok a.1 w_0)
noncomputable def RBlobs_C : Ctr := ⟨[.v (.sl .byte), .v (.sl (.sl .byte))], [.ow 5 .byte], some (fun a => (fun (a0_b : List UInt8) (a1_l : List (List UInt8)) => (a0_b.length + blobRoom a1_l ≤ 140737488355328 : Prop)) a.1 a.2.1), fun a => (fun (a0_b : List UInt8) (a1_l : List (List UInt8)) => (((a0_b ++ blobAll a1_l), ()), (()))) a.1 a.2.1⟩
noncomputable def RBlobs_X : Fx := ⟨seat, some bkT, fns, [(84, RNumber_C)], [], [], []⟩
def RBlobs_VC (a0_b : List UInt8) (a1_l : List (List UInt8)) (Q : (List UInt8) → Prop) : Prop :=
  (([] : List UInt8).length + a0_b.length) * (1 : Nat) ≤ (140737488355328 : Nat) ∧ ∃ (x0 : List UInt8 → Int → Prop), ∃ (x1 : List UInt8 → Int → Nat), x0 (([] : List UInt8) ++ a0_b) (0 : Int) ∧ ∀ (x2 : List UInt8) (x3 : Int), x0 x2 x3 → Ty.byte.kd.sl.wf x2 → (Kd.int IntKind.i64).wf x3 → (x3 < (a1_l.length : Int) → ((0 : Int) ≤ x3 ∧ x3 < (a1_l.length : Int)) ∧ (Ty.byte.kd.sl.wf (numB (IntKind.u64.wrap ((ix a1_l x3).length : Int)).toNat) → (x2.length + (numB (IntKind.u64.wrap ((ix a1_l x3).length : Int)).toNat).length) * (1 : Nat) ≤ (140737488355328 : Nat) ∧ ((0 : Int) ≤ x3 ∧ x3 < (a1_l.length : Int)) ∧ ((x2 ++ numB (IntKind.u64.wrap ((ix a1_l x3).length : Int)).toNat).length + (ix a1_l x3).length) * (1 : Nat) ≤ (140737488355328 : Nat) ∧ x3 < (9223372036854775807 : Int) ∧ x0 (x2 ++ numB (IntKind.u64.wrap ((ix a1_l x3).length : Int)).toNat ++ ix a1_l x3) (x3 + (1 : Int)) ∧ x1 (x2 ++ numB (IntKind.u64.wrap ((ix a1_l x3).length : Int)).toNat ++ ix a1_l x3) (x3 + (1 : Int)) < x1 x2 x3)) ∧ (¬x3 < (a1_l.length : Int) → Q x2)
theorem RBlobs_ok {a0_b : List UInt8} {a1_l : List (List UInt8)} (w_0 : (Ty.kd (.sl .byte)).wf a0_b) (w_1 : (Ty.kd (.sl (.sl .byte))).wf a1_l) (hp : a0_b.length + blobRoom a1_l ≤ 140737488355328) : RBlobs_VC a0_b a1_l (fun o0 => o0 = (a0_b ++ blobAll a1_l)) := by
  have hw : ∀ x ∈ a1_l, x.length ≤ LM := fun x hx => (w_1.2 x hx).1
  have hL : a1_l.length ≤ LM := w_1.1
  unfold LM at hL
  unfold RBlobs_VC
  simp only [List.nil_append]
  refine ⟨by simp only [List.length_nil]; omega, fun out i => ∃ j : Nat, i = (j : Int) ∧ j ≤ a1_l.length ∧ out = a0_b ++ blobAll (a1_l.take j), fun _ i => a1_l.length - i.toNat, ⟨0, rfl, by omega, by simp [blobAll]⟩, ?_⟩
  rintro out i ⟨j, rfl, hj, rfl⟩ _ _
  refine ⟨fun hlt => ?_, fun hge => ?_⟩
  · have h1 := blobAll_length (a1_l.take j) (fun y hy => by have := hw y (List.mem_of_mem_take hy); unfold LM at this; omega)
    have h2 := blobRoom_step hlt
    have h3 := hw _ (ix_mem (by omega) hlt)
    have h4 : IntKind.u64.wrap ((ix a1_l (j : Int)).length : Int) = ((ix a1_l (j : Int)).length : Int) := wrap_id ⟨by show (0 : Int) ≤ _; omega, by unfold LM at h3; show _ ≤ (18446744073709551615 : Int); omega⟩
    have h5 := numB_length (n := (ix a1_l (j : Int)).length) (by unfold LM at h3; omega)
    rw [h4, Int.toNat_natCast]
    refine ⟨⟨by omega, hlt⟩, fun _ => ⟨?_, ⟨by omega, hlt⟩, ?_, by omega, ⟨j + 1, by omega, by omega, ?_⟩, ?_⟩⟩
    · simp only [List.length_append]; omega
    · simp only [List.length_append]; omega
    · rw [take_step hlt]
      simp [blobAll]
    · show a1_l.length - ((j : Int) + 1).toNat < a1_l.length - (j : Int).toNat
      omega
  · have : j = a1_l.length := by omega
    subst this
    rw [List.take_length]
theorem RBlobs_eq : (∀ a, RBlobs_C.pre a → PM.wfP RBlobs_C.pm a (fvc RBlobs_X 200 73 RBlobs_C a (eqO RBlobs_C a))) = (∀ a : (List UInt8) × (List (List UInt8)) × Unit, ((a.1).length + blobRoom (a.2.1) ≤ 140737488355328) → (Ty.kd (.sl .byte)).wf a.1 → (Ty.kd (.sl (.sl .byte))).wf a.2.1 → RBlobs_VC a.1 a.2.1 (fun o0 => o0 = ((a.1) ++ blobAll (a.2.1)))) := by kernel_rfl
theorem RBlobs_k : RBlobs_C.valid Try.prog 73 := ctr_of (X := RBlobs_X) (ok_of seat_ok (fun b hb => by cases hb; exact bkT_ok) fns_ok ⟨RNumber_k, trivial⟩) 200 (RBlobs_eq.mpr fun a hp w_0 w_1 => @RBlobs_ok a.1 a.2.1 w_0 w_1 hp)
noncomputable def RPreimage_C : Ctr := ⟨[.v (.int .i64), .v (.sl (.sl .byte))], [.ow 5 .byte], some (fun a => (fun (a0_kind : Int) (a1_parts : List (List UInt8)) => (1 + blobRoom a1_parts ≤ 140737488355328 : Prop)) a.1 a.2.1), fun a => (fun (a0_kind : Int) (a1_parts : List (List UInt8)) => (((preimage a0_kind a1_parts), ()), (()))) a.1 a.2.1⟩
noncomputable def RPreimage_X : Fx := ⟨seat, some bkT, fns, [(73, RBlobs_C)], [], [], []⟩
def RPreimage_VC (a0_kind : Int) (a1_parts : List (List UInt8)) (Q : (List UInt8) → Prop) : Prop :=
  (toB (IntKind.u8.wrap a0_kind) :: ([] : List UInt8)).length + blobRoom a1_parts ≤ (140737488355328 : Nat) ∧ (Ty.byte.kd.sl.wf (toB (IntKind.u8.wrap a0_kind) :: ([] : List UInt8) ++ blobAll a1_parts) → Q (toB (IntKind.u8.wrap a0_kind) :: ([] : List UInt8) ++ blobAll a1_parts))
theorem RPreimage_ok {a0_kind : Int} {a1_parts : List (List UInt8)} (w_0 : (Ty.kd (.int .i64)).wf a0_kind) (w_1 : (Ty.kd (.sl (.sl .byte))).wf a1_parts) (hp : 1 + blobRoom a1_parts ≤ 140737488355328) : RPreimage_VC a0_kind a1_parts (fun o0 => o0 = (preimage a0_kind a1_parts)) := by
  unfold RPreimage_VC
  exact ⟨by simpa using hp, fun _ => rfl⟩
theorem RPreimage_eq : (∀ a, RPreimage_C.pre a → PM.wfP RPreimage_C.pm a (fvc RPreimage_X 200 65 RPreimage_C a (eqO RPreimage_C a))) = (∀ a : Int × (List (List UInt8)) × Unit, (1 + blobRoom (a.2.1) ≤ 140737488355328) → (Ty.kd (.int .i64)).wf a.1 → (Ty.kd (.sl (.sl .byte))).wf a.2.1 → RPreimage_VC a.1 a.2.1 (fun o0 => o0 = (preimage (a.1) (a.2.1)))) := by kernel_rfl
theorem RPreimage_k : RPreimage_C.valid Try.prog 65 := ctr_of (X := RPreimage_X) (ok_of seat_ok (fun b hb => by cases hb; exact bkT_ok) fns_ok ⟨RBlobs_k, trivial⟩) 200 (RPreimage_eq.mpr fun a hp w_0 w_1 => @RPreimage_ok a.1 a.2.1 w_0 w_1 hp)
noncomputable def ROf_C : Ctr := ⟨[.v (.int .i64), .v (.sl (.sl .byte))], [.v (.arr 32 .byte)], some (fun a => (fun (a0_kind : Int) (a1_parts : List (List UInt8)) => (1 + blobRoom a1_parts ≤ 70368744177664 : Prop)) a.1 a.2.1), fun a => (fun (a0_kind : Int) (a1_parts : List (List UInt8)) => (((sealOf a0_kind a1_parts), ()), (()))) a.1 a.2.1⟩
noncomputable def ROf_X : Fx := ⟨seat, some bkT, fns, [(65, RPreimage_C), (64, RSum_C)], [], [], []⟩
def ROf_VC (a0_kind : Int) (a1_parts : List (List UInt8)) (Q : (List UInt8) → Prop) : Prop :=
  (1 : Nat) + blobRoom a1_parts ≤ (140737488355328 : Nat) ∧ (Ty.byte.kd.sl.wf (preimage a0_kind a1_parts) → (preimage a0_kind a1_parts :: ([] : List (List UInt8))).flatten.length ≤ (70368744177664 : Nat) ∧ ((Ty.arr (32 : Nat) Ty.byte).kd.wf (sha256 (preimage a0_kind a1_parts :: ([] : List (List UInt8)))) → Q (sha256 (preimage a0_kind a1_parts :: ([] : List (List UInt8))))))
theorem ROf_ok {a0_kind : Int} {a1_parts : List (List UInt8)} (w_0 : (Ty.kd (.int .i64)).wf a0_kind) (w_1 : (Ty.kd (.sl (.sl .byte))).wf a1_parts) (hp : 1 + blobRoom a1_parts ≤ 70368744177664) : ROf_VC a0_kind a1_parts (fun o0 => o0 = (sealOf a0_kind a1_parts)) := by
  have hl := preimage_len a0_kind (l := a1_parts) (by omega)
  unfold ROf_VC
  exact ⟨by omega, fun _ => ⟨by simp; omega, fun _ => rfl⟩⟩
theorem ROf_eq : (∀ a, ROf_C.pre a → PM.wfP ROf_C.pm a (fvc ROf_X 200 47 ROf_C a (eqO ROf_C a))) = (∀ a : Int × (List (List UInt8)) × Unit, (1 + blobRoom (a.2.1) ≤ 70368744177664) → (Ty.kd (.int .i64)).wf a.1 → (Ty.kd (.sl (.sl .byte))).wf a.2.1 → ROf_VC a.1 a.2.1 (fun o0 => o0 = (sealOf (a.1) (a.2.1)))) := by kernel_rfl
theorem ROf_k : ROf_C.valid Try.prog 47 := ctr_of (X := ROf_X) (ok_of seat_ok (fun b hb => by cases hb; exact bkT_ok) fns_ok ⟨RPreimage_k, RSum_k, trivial⟩) 200 (ROf_eq.mpr fun a hp w_0 w_1 => @ROf_ok a.1 a.2.1 w_0 w_1 hp)
end Go.Proofs.Ytkffegaofdpkiaa

/-
  PLAIN 14: what a path tells, step by step from its end; how a path is as the document tells it.
-/
set_option linter.unusedVariables false
namespace Go.Inc
open Go
def wOf (m n : Int) (f : Bool) : Int := (partsL m.toNat n.toNat (if f = true then 1 else 0)).2.2
def tellsA (m n : Int) (f : Bool) (o : Sm) (p : List Sm) : Sm × Sm := foldT (partsA m.toNat n.toNat).reverse (restT (wOf m n f) p) (begT (wOf m n f) o p)
def tellsP (m n : Int) (f : Bool) (p : List Sm) : Prop := 1 ≤ m ∧ m ≤ n ∧ p.length = (partsA m.toNat n.toNat).length + (if wOf m n f = 0 then 1 else 0)
theorem fold_last {A : List Int} {w : Int} {q : List Sm} {l o : Sm} {a : Int} (hq : q.length = A.length + (if w = 0 then 1 else 0)) :
    foldT (A.reverse ++ [a]) (restT w (q ++ [l])) (begT w o (q ++ [l])) = foldT [a] [l] (foldT A.reverse (restT w q) (begT w o q)) := by
  by_cases hw : w = 0
  · subst hw
    simp only [if_true] at hq
    have hne : q ≠ [] := fun h => by rw [h] at hq; simp at hq
    simp only [restT, begT, if_true]
    rw [ix0_append hne, drop1_append hne, foldT_append _ _ _ _ _ (by rw [List.length_reverse, List.length_drop, hq]; simp)]
  · rw [if_neg hw] at hq
    simp only [restT, begT, if_neg hw]
    rw [foldT_append _ _ _ _ _ (by rw [List.length_reverse, hq]; rfl)]
theorem w_end {m : Int} {f : Bool} : wOf m m f = if f = true then 1 else 0 := by unfold wOf; rw [partsL_end (Nat.lt_irrefl _)]
theorem tells_end {m : Int} {f : Bool} {o : Sm} {p : List Sm} : tellsA m m f o p = if f = true then (o, o) else (ix p 0, ix p 0) := by
  unfold tellsA
  rw [partsA_end (Nat.lt_irrefl _), w_end]
  cases f <;> rfl
theorem tellsP_end {m : Int} {p : List Sm} (h : tellsP m m false p) : p.length = 1 := by
  have := h.2.2
  rw [partsA_end (Nat.lt_irrefl _), w_end] at this
  exact this
theorem last_split {p : List Sm} (h : p ≠ []) : ∃ q l, p = q ++ [l] := ⟨p.dropLast, p.getLast h, (List.dropLast_concat_getLast h).symm⟩
theorem take_last {q : List Sm} {l : Sm} : (q ++ [l]).take q.length = q := by simp
theorem ix_last {q : List Sm} {l : Sm} : ix (q ++ [l]) (q.length : Int) = l := by
  rw [ixN (by simp)]
  simp
theorem tells_left {m n : Int} {f : Bool} {o : Sm} {p : List Sm} (hp : tellsP m n f p) (hn : ¬ m = n) (hm : m ≤ ((half n.toNat : Nat) : Int)) :
    ∃ q l, p = q ++ [l] ∧ tellsP m ((half n.toNat : Nat) : Int) f q ∧ tellsA m n f o p = ((tellsA m ((half n.toNat : Nat) : Int) f o q).1, sealOf 2 [(tellsA m ((half n.toNat : Nat) : Int) f o q).2, l]) := by
  obtain ⟨h1, h2, h3⟩ := hp
  have hlt : m.toNat < n.toNat := by omega
  have hmn : m.toNat ≤ half n.toNat := by omega
  have hw : wOf m n f = wOf m ((half n.toNat : Nat) : Int) f := by unfold wOf; rw [partsL_left hlt hmn, Int.toNat_natCast]
  rw [partsA_left hlt hmn, hw, List.length_cons] at h3
  obtain ⟨q, l, rfl⟩ := last_split (p := p) (fun h => by rw [h] at h3; simp at h3; omega)
  have hq : q.length = (partsA m.toNat (half n.toNat)).length + (if wOf m ((half n.toNat : Nat) : Int) f = 0 then 1 else 0) := by
    rw [List.length_append] at h3
    simp only [List.length_cons, List.length_nil] at h3
    omega
  refine ⟨q, l, rfl, ⟨h1, hm, by rw [Int.toNat_natCast]; exact hq⟩, ?_⟩
  unfold tellsA
  rw [partsA_left hlt hmn, hw, List.reverse_cons, fold_last hq, Int.toNat_natCast]
  simp only [foldT, if_true]
theorem tells_right {m n : Int} {f : Bool} {o : Sm} {p : List Sm} (hp : tellsP m n f p) (hn : ¬ m = n) (hm : ¬ m ≤ ((half n.toNat : Nat) : Int)) :
    ∃ q l, p = q ++ [l] ∧ tellsP (m - ((half n.toNat : Nat) : Int)) (n - ((half n.toNat : Nat) : Int)) false q ∧ tellsA m n f o p = (sealOf 2 [l, (tellsA (m - ((half n.toNat : Nat) : Int)) (n - ((half n.toNat : Nat) : Int)) false o q).1], sealOf 2 [l, (tellsA (m - ((half n.toNat : Nat) : Int)) (n - ((half n.toNat : Nat) : Int)) false o q).2]) := by
  obtain ⟨h1, h2, h3⟩ := hp
  have hlt : m.toNat < n.toNat := by omega
  have hmn : ¬ m.toNat ≤ half n.toNat := by omega
  have em : (m - ((half n.toNat : Nat) : Int)).toNat = m.toNat - half n.toNat := by omega
  have en : (n - ((half n.toNat : Nat) : Int)).toNat = n.toNat - half n.toNat := by omega
  have hw : wOf m n f = wOf (m - ((half n.toNat : Nat) : Int)) (n - ((half n.toNat : Nat) : Int)) false := by
    unfold wOf
    rw [partsL_right hlt hmn, em, en]
    rfl
  rw [partsA_right hlt hmn, hw, List.length_cons] at h3
  obtain ⟨q, l, rfl⟩ := last_split (p := p) (fun h => by rw [h] at h3; simp at h3; omega)
  have hq : q.length = (partsA (m.toNat - half n.toNat) (n.toNat - half n.toNat)).length + (if wOf (m - ((half n.toNat : Nat) : Int)) (n - ((half n.toNat : Nat) : Int)) false = 0 then 1 else 0) := by
    rw [List.length_append] at h3
    simp only [List.length_cons, List.length_nil] at h3
    omega
  refine ⟨q, l, rfl, ⟨by omega, by omega, by rw [em, en]; exact hq⟩, ?_⟩
  unfold tellsA
  rw [partsA_right hlt hmn, hw, List.reverse_cons, fold_last hq, em, en]
  simp only [foldT]
  rw [if_neg (by decide)]
/-- how many sums a path has, as the document tells it -/
theorem stepsN_of {m n : Int} (h1 : 1 ≤ m) (h2 : m ≤ n) : stepsN m.toNat n.toNat = ((partsA m.toNat n.toNat).length : Int) + (if wOf m n true = 0 then 1 else 0) := by
  have hw := partsL_w n.toNat (m := m.toNat) (n := n.toNat) (w := 1) (Nat.le_refl _) (.inr rfl)
  unfold stepsN wOf
  rw [if_pos ⟨by omega, by omega⟩, if_pos rfl]
  rcases hw with hw | hw <;> rw [hw] <;> simp
/-- how many sums the document's path has -/
def stepsF (m n : Int) (f : Bool) : Int := ((partsA m.toNat n.toNat).length : Int) + (if wOf m n f = 0 then 1 else 0)
theorem stepsF_end {m : Int} {f : Bool} : stepsF m m f = if f = true then 0 else 1 := by
  unfold stepsF
  rw [partsA_end (Nat.lt_irrefl _), w_end]
  cases f <;> rfl
theorem stepsF_left {m n : Int} {f : Bool} (h1 : 1 ≤ m) (h2 : m ≤ n) (hn : ¬ m = n) (hm : m ≤ ((half n.toNat : Nat) : Int)) : stepsF m n f = stepsF m ((half n.toNat : Nat) : Int) f + 1 := by
  have hlt : m.toNat < n.toNat := by omega
  have hmn : m.toNat ≤ half n.toNat := by omega
  have hw : wOf m n f = wOf m ((half n.toNat : Nat) : Int) f := by unfold wOf; rw [partsL_left hlt hmn, Int.toNat_natCast]
  unfold stepsF
  rw [partsA_left hlt hmn, hw, List.length_cons, Int.toNat_natCast]
  omega
theorem stepsF_right {m n : Int} {f : Bool} (h1 : 1 ≤ m) (h2 : m ≤ n) (hn : ¬ m = n) (hm : ¬ m ≤ ((half n.toNat : Nat) : Int)) : stepsF m n f = stepsF (m - ((half n.toNat : Nat) : Int)) (n - ((half n.toNat : Nat) : Int)) false + 1 := by
  have hlt : m.toNat < n.toNat := by omega
  have hmn : ¬ m.toNat ≤ half n.toNat := by omega
  have em : (m - ((half n.toNat : Nat) : Int)).toNat = m.toNat - half n.toNat := by omega
  have en : (n - ((half n.toNat : Nat) : Int)).toNat = n.toNat - half n.toNat := by omega
  have hw : wOf m n f = wOf (m - ((half n.toNat : Nat) : Int)) (n - ((half n.toNat : Nat) : Int)) false := by
    unfold wOf
    rw [partsL_right hlt hmn, em, en]
    rfl
  unfold stepsF
  rw [partsA_right hlt hmn, hw, List.length_cons, em, en]
  omega
theorem stepsF_le {m n : Int} {f : Bool} (h1 : 1 ≤ m) (h2 : n ≤ 9223372036854775807) : 0 ≤ stepsF m n f ∧ stepsF m n f ≤ 64 := by
  have := partsA_len 63 (m := m.toNat) (n := n.toNat) (by omega) (by omega)
  unfold stepsF
  split <;> omega
theorem extendsBk_no {x : BookA} {m n : Int} {o : Sm} {p : List Sm} (h : m < 0 ∨ n < m ∨ ¬ ((p.length : Int) = stepsN m.toNat n.toNat)) : extendsBk x m n o p = x := by
  unfold extendsBk
  rw [if_pos h]
theorem same_step {a b : List Sm} {j : Nat} (h : j < a.length) (h' : j < b.length) (ht : a.take j = b.take j) (he : ix a (j : Int) = ix b (j : Int)) : a.take (j + 1) = b.take (j + 1) := by
  rw [ixN h, ixN h'] at he
  rw [List.take_succ_eq_append_getElem h, List.take_succ_eq_append_getElem h', ht, he]
theorem extends_tells {m n : Int} {o f : Sm} {p : List Sm} (h1 : 1 ≤ m) (h2 : m ≤ n) (h : (p.length : Int) = stepsN m.toNat n.toNat) : extendsB m n o f p = decide (tellsA m n true o p = (o, f)) := by
  unfold extendsB tellsA wOf
  rw [if_neg (by omega), if_neg (by omega), if_pos rfl]
theorem extends_at {m n : Int} {p : List Sm} (h1 : 1 ≤ m) (h2 : m ≤ n) (h : (p.length : Int) = stepsN m.toNat n.toNat) : tellsP m n true p := ⟨h1, h2, by rw [stepsN_of h1 h2] at h; by_cases hw : wOf m n true = 0 <;> simp only [hw, if_true, if_false] at h ⊢ <;> omega⟩
end Go.Inc

/- Each function that stands here: what it is asked and leaves (_C), its condition (_VC), that it holds (_ok), its contract (_c). -/
set_option linter.unusedVariables false
set_option maxRecDepth 100000
set_option maxHeartbeats 20000000
namespace Go.Proofs.Ytkffegaofdpkiaa
open Go Go.RowKit Go.Inc
noncomputable def RNode_C : Ctr := ⟨[.v (.arr 32 .byte), .v (.arr 32 .byte)], [.v (.arr 32 .byte)], none, fun a => (fun (a0_a : List UInt8) (a1_b : List UInt8) => (((sealOf 2 [a0_a, a1_b]), ()), (()))) a.1 a.2.1⟩
noncomputable def RNode_X : Fx := ⟨seat, some bkT, fns, [(47, ROf_C)], [], [], [(1, [0, 1, 2], [.o 0 2, .o 1 2, .o 2 1, .o 3 1, .o 4 1])]⟩
def RNode_VC (a0_a : List UInt8) (a1_b : List UInt8) (Q : (List UInt8) → Prop) : Prop :=
  (1 : Nat) + blobRoom (a0_a :: a1_b :: ([] : List (List UInt8))) ≤ (70368744177664 : Nat) ∧ ((Ty.arr (32 : Nat) Ty.byte).kd.wf (sealOf (2 : Int) (a0_a :: a1_b :: ([] : List (List UInt8)))) → Q (sealOf (2 : Int) (a0_a :: a1_b :: ([] : List (List UInt8)))))
theorem RNode_ok {a0_a : List UInt8} {a1_b : List UInt8} (w_0 : (Ty.kd (.arr 32 .byte)).wf a0_a) (w_1 : (Ty.kd (.arr 32 .byte)).wf a1_b) : RNode_VC a0_a a1_b (fun o0 => o0 = (sealOf 2 [a0_a, a1_b])) := by
  unfold RNode_VC
  have e := blobRoom32 (l := [a0_a, a1_b]) (fun x hx => by
    rcases List.mem_cons.1 hx with rfl | hx
    · exact w_0.1
    · rcases List.mem_cons.1 hx with rfl | hx
      · exact w_1.1
      · cases hx)
  exact ⟨by rw [e]; simp, fun _ => rfl⟩
theorem RNode_eq : (∀ a, RNode_C.pre a → PM.wfP RNode_C.pm a (fvc RNode_X 200 48 RNode_C a (eqO RNode_C a))) = (∀ a : (List UInt8) × (List UInt8) × Unit, True → (Ty.kd (.arr 32 .byte)).wf a.1 → (Ty.kd (.arr 32 .byte)).wf a.2.1 → RNode_VC a.1 a.2.1 (fun o0 => o0 = (sealOf 2 [(a.1), (a.2.1)]))) := by kernel_rfl
theorem RNode_k : RNode_C.valid Try.prog 48 := ctr_of (X := RNode_X) (ok_of seat_ok (fun b hb => by cases hb; exact bkT_ok) fns_ok ⟨ROf_k, trivial⟩) 200 (RNode_eq.mpr fun a hp w_0 w_1 => @RNode_ok a.1 a.2.1 w_0 w_1)
noncomputable def RHalf_C : Ctr := ⟨[.v (.int .i64)], [.v (.int .i64)], none, fun a => (fun (a0_n : Int) => ((((half a0_n.toNat : Nat) : Int), ()), (()))) a.1⟩
noncomputable def RHalf_X : Fx := ⟨seat, some bkT, fns, [], [], [], []⟩
def RHalf_VC (a0_n : Int) (Q : Int → Prop) : Prop :=
  ∃ (x0 : Int → Int → Prop), ∃ (x1 : Int → Int → Nat), x0 (0 : Int) (1 : Int) ∧ ∀ (x2 x3 : Int), x0 x2 x3 → (Kd.int IntKind.i64).wf x2 → (Kd.int IntKind.i64).wf x3 → (x3 < a0_n → (x2 < x3 → x0 x3 (IntKind.i64.wrap (x3 + x3)) ∧ x1 x3 (IntKind.i64.wrap (x3 + x3)) < x1 x2 x3) ∧ (¬x2 < x3 → Q x2)) ∧ (¬x3 < a0_n → Q x2)
theorem RHalf_ok {a0_n : Int} (w_0 : (Ty.kd (.int .i64)).wf a0_n) : RHalf_VC a0_n (fun o0 => o0 = ((half a0_n.toNat : Nat) : Int)) := by
  have hn1 : a0_n ≤ 9223372036854775807 := w_0.2
  unfold RHalf_VC
  refine ⟨fun h p => (h = 0 ∧ p = 1) ∨ ∃ j y : Nat, y = 2 ^ j ∧ h = (y : Int) ∧ (y : Int) < a0_n ∧ ((y ≤ 2305843009213693952 ∧ p = 2 * (y : Int)) ∨ (y = 4611686018427387904 ∧ p = -9223372036854775808)), fun h _ => (a0_n - h).toNat, .inl ⟨rfl, rfl⟩, ?_⟩
  rintro h p (⟨rfl, rfl⟩ | ⟨j, y, hy, rfl, hlt, hc⟩) _ _
  · refine ⟨fun h1 => ⟨fun _ => ⟨.inr ⟨0, 1, rfl, rfl, h1, .inl ⟨by omega, by decide⟩⟩, by show (a0_n - 1).toNat < (a0_n - 0).toNat; omega⟩, fun h2 => absurd (by omega) h2⟩, fun h1 => ?_⟩
    show (0 : Int) = ((half a0_n.toNat : Nat) : Int)
    rw [half_small (by omega)]
    rfl
  · have hy1 : 1 ≤ y := by rw [hy]; exact Nat.one_le_two_pow
    rcases hc with ⟨h6, rfl⟩ | ⟨h6, rfl⟩
    · have hj : j ≤ 61 := by
        rcases Nat.lt_or_ge 61 j with h | h
        · have := Nat.pow_le_pow_right (n := 2) (by omega) (show 62 ≤ j from h)
          omega
        · exact h
      refine ⟨fun h1 => ⟨fun _ => ⟨.inr ⟨j + 1, 2 * y, by rw [hy, Nat.pow_succ]; omega, by omega, by omega, ?_⟩, by show (a0_n - 2 * (y : Int)).toNat < (a0_n - (y : Int)).toNat; omega⟩, fun h2 => absurd (by omega) h2⟩, fun h1 => ?_⟩
      · by_cases h61 : j = 61
        · subst h61
          have hv : y = 2305843009213693952 := hy
          subst hv
          exact .inr ⟨rfl, by decide⟩
        · have := Nat.pow_le_pow_right (n := 2) (by omega) (show j ≤ 60 by omega)
          have hv : y ≤ 1152921504606846976 := by rw [hy]; exact this
          refine .inl ⟨by omega, ?_⟩
          rw [wrap_id (wf64 (by omega) (by omega))]
          omega
      · have := half_of (n := a0_n.toNat) (j := j) (by rw [← hy]; omega) (by rw [Nat.pow_succ, ← hy]; omega)
        show (y : Int) = ((half a0_n.toNat : Nat) : Int)
        rw [this, ← hy]
    · refine ⟨fun h1 => ⟨fun h2 => absurd h2 (by omega), fun _ => ?_⟩, fun h1 => absurd (by omega) h1⟩
      have hj1 : j < 63 := (Nat.pow_lt_pow_iff_right (a := 2) (by omega)).1 (by rw [← hy, h6]; decide)
      have := half_of (n := a0_n.toNat) (j := j) (by rw [← hy]; omega) (by rw [Nat.pow_succ, ← hy]; omega)
      show (y : Int) = ((half a0_n.toNat : Nat) : Int)
      rw [this, ← hy]
theorem RHalf_eq : (∀ a, RHalf_C.pre a → PM.wfP RHalf_C.pm a (fvc RHalf_X 200 22 RHalf_C a (eqO RHalf_C a))) = (∀ a : Int × Unit, True → (Ty.kd (.int .i64)).wf a.1 → RHalf_VC a.1 (fun o0 => o0 = ((half (a.1).toNat : Nat) : Int))) := by kernel_rfl
theorem RHalf_k : RHalf_C.valid Try.prog 22 := ctr_of (X := RHalf_X) (ok_of seat_ok (fun b hb => by cases hb; exact bkT_ok) fns_ok trivial) 200 (RHalf_eq.mpr fun a hp w_0 => @RHalf_ok a.1 w_0)
noncomputable def RSame_C : Ctr := ⟨[.v (.sl (.arr 32 .byte)), .v (.sl (.arr 32 .byte))], [.v .bool], none, fun a => (fun (a0_a : List (List UInt8)) (a1_b : List (List UInt8)) => ((decide (a0_a = a1_b), ()), (()))) a.1 a.2.1⟩
noncomputable def RSame_X : Fx := ⟨seat, some bkT, fns, [], [], [], [(6, [], [.o 0 2, .o 1 2, .o 2 2, .o 3 2, .o 4 2, .o 5 2, .o 6 2, .o 7 2, .o 8 2])]⟩
def RSame_VC (a0_a : List (List UInt8)) (a1_b : List (List UInt8)) (Q : Bool → Prop) : Prop :=
  ((a0_a.length : Int) ≠ (a1_b.length : Int) → Q false) ∧ (¬(a0_a.length : Int) ≠ (a1_b.length : Int) → ∃ (x0 : Bool → Int → Prop), ∃ (x1 : Bool → Int → Nat), x0 false (0 : Int) ∧ ∀ (x2 : Bool) (x3 : Int), x0 x2 x3 → (Kd.int IntKind.i64).wf x3 → (x3 < (a0_a.length : Int) → ((0 : Int) ≤ x3 ∧ x3 < (a0_a.length : Int)) ∧ ((0 : Int) ≤ x3 ∧ x3 < (a1_b.length : Int)) ∧ (ix a0_a x3 ≠ ix a1_b x3 → Q false) ∧ (¬ix a0_a x3 ≠ ix a1_b x3 → x3 < (9223372036854775807 : Int) ∧ x0 x2 (x3 + (1 : Int)) ∧ x1 x2 (x3 + (1 : Int)) < x1 x2 x3)) ∧ (¬x3 < (a0_a.length : Int) → Q true))
theorem RSame_ok {a0_a : List (List UInt8)} {a1_b : List (List UInt8)} (w_0 : (Ty.kd (.sl (.arr 32 .byte))).wf a0_a) (w_1 : (Ty.kd (.sl (.arr 32 .byte))).wf a1_b) : RSame_VC a0_a a1_b (fun o0 => o0 = decide (a0_a = a1_b)) := by
  unfold RSame_VC
  refine ⟨fun h => ?_, fun h => ?_⟩
  · show false = decide (a0_a = a1_b)
    rw [decide_eq_false (fun e => h (by rw [e]))]
  · have hl : a0_a.length = a1_b.length := by omega
    have hL : a0_a.length ≤ 281474976710656 := w_0.1
    refine ⟨fun _ i => ∃ j : Nat, i = (j : Int) ∧ j ≤ a0_a.length ∧ a0_a.take j = a1_b.take j, fun _ i => a0_a.length - i.toNat, ⟨0, rfl, by omega, rfl⟩, ?_⟩
    rintro r i ⟨j, rfl, hj, ht⟩ _
    refine ⟨fun hlt => ⟨⟨by omega, hlt⟩, ⟨by omega, by omega⟩, fun hne => ?_, fun he => ⟨by omega, ⟨j + 1, by omega, by omega, same_step (by omega) (by omega) ht (Classical.not_not.1 he)⟩, by show a0_a.length - ((j : Int) + 1).toNat < a0_a.length - (j : Int).toNat; omega⟩⟩, fun hge => ?_⟩
    · show false = decide (a0_a = a1_b)
      rw [decide_eq_false (fun e => hne (by rw [e]))]
    · have e : a0_a = a1_b := by
        rw [List.take_of_length_le (by omega), List.take_of_length_le (by omega)] at ht
        exact ht
      show true = decide (a0_a = a1_b)
      rw [decide_eq_true e]
theorem RSame_eq : (∀ a, RSame_C.pre a → PM.wfP RSame_C.pm a (fvc RSame_X 200 19 RSame_C a (eqO RSame_C a))) = (∀ a : (List (List UInt8)) × (List (List UInt8)) × Unit, True → (Ty.kd (.sl (.arr 32 .byte))).wf a.1 → (Ty.kd (.sl (.arr 32 .byte))).wf a.2.1 → RSame_VC a.1 a.2.1 (fun o0 => o0 = decide ((a.1) = (a.2.1)))) := by kernel_rfl
theorem RSame_k : RSame_C.valid Try.prog 19 := ctr_of (X := RSame_X) (ok_of seat_ok (fun b hb => by cases hb; exact bkT_ok) fns_ok trivial) 200 (RSame_eq.mpr fun a hp w_0 w_1 => @RSame_ok a.1 a.2.1 w_0 w_1)
noncomputable def REdge_C : Ctr := ⟨[.v (.int .i64), .v (.int .i64)], [.v .bool], none, fun a => (fun (a0_m : Int) (a1_n : Int) => ((decide (1 ≤ a0_m ∧ a0_m ≤ a1_n), ()), (()))) a.1 a.2.1⟩
noncomputable def REdge_X : Fx := ⟨seat, some bkT, fns, [], [], [], []⟩
def REdge_VC (a0_m : Int) (a1_n : Int) (Q : Bool → Prop) : Prop :=
  ((1 : Int) ≤ a0_m → Q (decide (a0_m ≤ a1_n))) ∧ (¬(1 : Int) ≤ a0_m → Q false)
theorem REdge_ok {a0_m : Int} {a1_n : Int} (w_0 : (Ty.kd (.int .i64)).wf a0_m) (w_1 : (Ty.kd (.int .i64)).wf a1_n) : REdge_VC a0_m a1_n (fun o0 => o0 = decide (1 ≤ a0_m ∧ a0_m ≤ a1_n)) := by
  unfold REdge_VC
  refine ⟨fun h => decide_eq_decide.2 ⟨fun c => ⟨h, c⟩, fun c => c.2⟩, fun h => ?_⟩
  show false = decide (1 ≤ a0_m ∧ a0_m ≤ a1_n)
  rw [decide_eq_false (fun c => h c.1)]
theorem REdge_eq : (∀ a, REdge_C.pre a → PM.wfP REdge_C.pm a (fvc REdge_X 200 52 REdge_C a (eqO REdge_C a))) = (∀ a : Int × Int × Unit, True → (Ty.kd (.int .i64)).wf a.1 → (Ty.kd (.int .i64)).wf a.2.1 → REdge_VC a.1 a.2.1 (fun o0 => o0 = decide (1 ≤ (a.1) ∧ (a.1) ≤ (a.2.1)))) := by kernel_rfl
theorem REdge_k : REdge_C.valid Try.prog 52 := ctr_of (X := REdge_X) (ok_of seat_ok (fun b hb => by cases hb; exact bkT_ok) fns_ok trivial) 200 (REdge_eq.mpr fun a hp w_0 w_1 => @REdge_ok a.1 a.2.1 w_0 w_1)
noncomputable def Rsteps_C : Ctr := ⟨[.v (.int .i64), .v (.int .i64), .v .bool], [.v (.int .i64)], some (fun a => (fun (a0_m : Int) (a1_n : Int) (a2_first : Bool) => (1 ≤ a0_m ∧ a0_m ≤ a1_n : Prop)) a.1 a.2.1 a.2.2.1), fun a => (fun (a0_m : Int) (a1_n : Int) (a2_first : Bool) => (((stepsF a0_m a1_n a2_first), ()), (()))) a.1 a.2.1 a.2.2.1⟩
noncomputable def Rsteps_Cn (nn : Nat) : Ctr := ⟨[.v (.int .i64), .v (.int .i64), .v .bool], [.v (.int .i64)], some (fun a => (fun (a0_m : Int) (a1_n : Int) (a2_first : Bool) => ((1 ≤ a0_m ∧ a0_m ≤ a1_n) ∧ a1_n.toNat < nn : Prop)) a.1 a.2.1 a.2.2.1), fun a => (fun (a0_m : Int) (a1_n : Int) (a2_first : Bool) => (((stepsF a0_m a1_n a2_first), ()), (()))) a.1 a.2.1 a.2.2.1⟩
noncomputable def Rsteps_X (nn : Nat) : Fx := ⟨seat, some bkT, fns, [(54, Rsteps_Cn nn), (22, RHalf_C)], [], [], []⟩
def Rsteps_VC (nn : Nat) (a0_m : Int) (a1_n : Int) (a2_first : Bool) (Q : Int → Prop) : Prop :=
  (a0_m = a1_n → (a2_first = true → Q (0 : Int)) ∧ (a2_first = false → Q (1 : Int))) ∧ (¬a0_m = a1_n → (Ty.int IntKind.i64).kd.wf (half a1_n.toNat : Int) → (a0_m ≤ (half a1_n.toNat : Int) → (((1 : Int) ≤ a0_m ∧ a0_m ≤ (half a1_n.toNat : Int)) ∧ (half a1_n.toNat : Int).toNat < nn) ∧ ((Ty.int IntKind.i64).kd.wf (stepsF a0_m (half a1_n.toNat : Int) a2_first) → Q (IntKind.i64.wrap (stepsF a0_m (half a1_n.toNat : Int) a2_first + (1 : Int))))) ∧ (¬a0_m ≤ (half a1_n.toNat : Int) → (((1 : Int) ≤ IntKind.i64.wrap (a0_m - (half a1_n.toNat : Int)) ∧ IntKind.i64.wrap (a0_m - (half a1_n.toNat : Int)) ≤ IntKind.i64.wrap (a1_n - (half a1_n.toNat : Int))) ∧ (IntKind.i64.wrap (a1_n - (half a1_n.toNat : Int))).toNat < nn) ∧ ((Ty.int IntKind.i64).kd.wf (stepsF (IntKind.i64.wrap (a0_m - (half a1_n.toNat : Int))) (IntKind.i64.wrap (a1_n - (half a1_n.toNat : Int))) false) → Q (IntKind.i64.wrap (stepsF (IntKind.i64.wrap (a0_m - (half a1_n.toNat : Int))) (IntKind.i64.wrap (a1_n - (half a1_n.toNat : Int))) false + (1 : Int))))))
theorem Rsteps_ok {nn : Nat} {a0_m : Int} {a1_n : Int} {a2_first : Bool} (w_0 : (Ty.kd (.int .i64)).wf a0_m) (w_1 : (Ty.kd (.int .i64)).wf a1_n) (hp : (1 ≤ a0_m ∧ a0_m ≤ a1_n) ∧ a1_n.toNat < nn + 1) : Rsteps_VC nn a0_m a1_n a2_first (fun o0 => o0 = (stepsF a0_m a1_n a2_first)) := by
  have hm1 : a0_m ≤ 9223372036854775807 := w_0.2
  have hn1 : a1_n ≤ 9223372036854775807 := w_1.2
  have hp1 := hp.1
  have hp2 := hp.2
  unfold Rsteps_VC
  refine ⟨fun h => ?_, fun h _ => ?_⟩
  · subst h
    exact ⟨fun hf => by subst hf; show (0 : Int) = _; rw [stepsF_end]; rfl, fun hf => by subst hf; show (1 : Int) = _; rw [stepsF_end]; rfl⟩
  · have b2 : 2 ≤ a1_n.toNat := by omega
    have a1 := half_pos b2
    have a2 := half_lt b2
    simp only [Int.toNat_natCast]
    refine ⟨fun hm => ⟨⟨⟨by omega, hm⟩, by omega⟩, fun _ => ?_⟩, fun hm => ?_⟩
    · have h3 := stepsF_le (m := a0_m) (n := ((half a1_n.toNat : Nat) : Int)) (f := a2_first) (by omega) (by omega)
      show IntKind.i64.wrap _ = stepsF a0_m a1_n a2_first
      rw [wrap_id (wf64 (by omega) (by omega)), stepsF_left (by omega) (by omega) h hm]
    · rw [wrap_id (a := a0_m - ((half a1_n.toNat : Nat) : Int)) (wf64 (by omega) (by omega)), wrap_id (a := a1_n - ((half a1_n.toNat : Nat) : Int)) (wf64 (by omega) (by omega))]
      refine ⟨⟨⟨by omega, by omega⟩, by omega⟩, fun _ => ?_⟩
      have h3 := stepsF_le (m := a0_m - ((half a1_n.toNat : Nat) : Int)) (n := a1_n - ((half a1_n.toNat : Nat) : Int)) (f := false) (by omega) (by omega)
      show IntKind.i64.wrap _ = stepsF a0_m a1_n a2_first
      rw [wrap_id (wf64 (by omega) (by omega)), stepsF_right (by omega) (by omega) h hm]
theorem Rsteps_eq (nn : Nat) : (∀ a, (Rsteps_Cn (nn + 1)).pre a → PM.wfP (Rsteps_Cn (nn + 1)).pm a (fvc (Rsteps_X nn) 200 54 (Rsteps_Cn (nn + 1)) a (eqO (Rsteps_Cn (nn + 1)) a))) = (∀ a : Int × Int × Bool × Unit, ((1 ≤ (a.1) ∧ (a.1) ≤ (a.2.1)) ∧ (a.2.1).toNat < nn + 1) → (Ty.kd (.int .i64)).wf a.1 → (Ty.kd (.int .i64)).wf a.2.1 → Rsteps_VC nn a.1 a.2.1 a.2.2.1 (fun o0 => o0 = (stepsF (a.1) (a.2.1) (a.2.2.1)))) := by kernel_rfl
theorem Rsteps_kn : ∀ nn, (Rsteps_Cn nn).valid Try.prog 54
  | 0 => fun a hp => absurd (And.right hp) (Nat.not_lt_zero _)
  | nn + 1 => ctr_of (X := Rsteps_X nn) (ok_of seat_ok (fun b hb => by cases hb; exact bkT_ok) fns_ok ⟨Rsteps_kn nn, RHalf_k, trivial⟩) 200 ((Rsteps_eq nn).mpr fun a hp w_0 w_1 => @Rsteps_ok nn a.1 a.2.1 a.2.2.1 w_0 w_1 hp)
theorem Rsteps_k : Rsteps_C.valid Try.prog 54 := valid_rec Rsteps_kn (fun a hp => ⟨_, And.intro hp (Nat.lt_succ_self _)⟩)
noncomputable def RSteps_C : Ctr := ⟨[.v (.int .i64), .v (.int .i64)], [.v (.int .i64)], none, fun a => (fun (a0_m : Int) (a1_n : Int) => (((stepsN a0_m.toNat a1_n.toNat), ()), (()))) a.1 a.2.1⟩
noncomputable def RSteps_X : Fx := ⟨seat, some bkT, fns, [(52, REdge_C), (54, Rsteps_C)], [], [], []⟩
def RSteps_VC (a0_m : Int) (a1_n : Int) (Q : Int → Prop) : Prop :=
  (¬decide ((1 : Int) ≤ a0_m ∧ a0_m ≤ a1_n) = true → Q (0 : Int)) ∧ (decide ((1 : Int) ≤ a0_m ∧ a0_m ≤ a1_n) = true → ((1 : Int) ≤ a0_m ∧ a0_m ≤ a1_n) ∧ ((Ty.int IntKind.i64).kd.wf (stepsF a0_m a1_n true) → Q (stepsF a0_m a1_n true)))
theorem RSteps_ok {a0_m : Int} {a1_n : Int} (w_0 : (Ty.kd (.int .i64)).wf a0_m) (w_1 : (Ty.kd (.int .i64)).wf a1_n) : RSteps_VC a0_m a1_n (fun o0 => o0 = (stepsN a0_m.toNat a1_n.toNat)) := by
  unfold RSteps_VC
  refine ⟨fun h => ?_, fun h => ?_⟩
  · have h' : ¬ (1 ≤ a0_m ∧ a0_m ≤ a1_n) := fun c => h (decide_eq_true c)
    show (0 : Int) = stepsN a0_m.toNat a1_n.toNat
    unfold stepsN
    rw [if_neg (by omega)]
  · have h' := of_decide_eq_true h
    exact ⟨h', fun _ => (stepsN_of h'.1 h'.2).symm⟩
theorem RSteps_eq : (∀ a, RSteps_C.pre a → PM.wfP RSteps_C.pm a (fvc RSteps_X 200 36 RSteps_C a (eqO RSteps_C a))) = (∀ a : Int × Int × Unit, True → (Ty.kd (.int .i64)).wf a.1 → (Ty.kd (.int .i64)).wf a.2.1 → RSteps_VC a.1 a.2.1 (fun o0 => o0 = (stepsN (a.1).toNat (a.2.1).toNat))) := by kernel_rfl
theorem RSteps_k : RSteps_C.valid Try.prog 36 := ctr_of (X := RSteps_X) (ok_of seat_ok (fun b hb => by cases hb; exact bkT_ok) fns_ok ⟨REdge_k, Rsteps_k, trivial⟩) 200 (RSteps_eq.mpr fun a hp w_0 w_1 => @RSteps_ok a.1 a.2.1 w_0 w_1)
noncomputable def Rtells_C : Ctr := ⟨[.v (.int .i64), .v (.int .i64), .v .bool, .v (.arr 32 .byte), .v (.sl (.arr 32 .byte))], [.v (.arr 32 .byte), .v (.arr 32 .byte)], some (fun a => (fun (a0_m : Int) (a1_n : Int) (a2_first : Bool) (a3_old : List UInt8) (a4_path : List (List UInt8)) => (tellsP a0_m a1_n a2_first a4_path : Prop)) a.1 a.2.1 a.2.2.1 a.2.2.2.1 a.2.2.2.2.1), fun a => (fun (a0_m : Int) (a1_n : Int) (a2_first : Bool) (a3_old : List UInt8) (a4_path : List (List UInt8)) => (((tellsA a0_m a1_n a2_first a3_old a4_path).1, (tellsA a0_m a1_n a2_first a3_old a4_path).2, ()), (()))) a.1 a.2.1 a.2.2.1 a.2.2.2.1 a.2.2.2.2.1⟩
noncomputable def Rtells_Cn (nn : Nat) : Ctr := ⟨[.v (.int .i64), .v (.int .i64), .v .bool, .v (.arr 32 .byte), .v (.sl (.arr 32 .byte))], [.v (.arr 32 .byte), .v (.arr 32 .byte)], some (fun a => (fun (a0_m : Int) (a1_n : Int) (a2_first : Bool) (a3_old : List UInt8) (a4_path : List (List UInt8)) => ((tellsP a0_m a1_n a2_first a4_path) ∧ a1_n.toNat < nn : Prop)) a.1 a.2.1 a.2.2.1 a.2.2.2.1 a.2.2.2.2.1), fun a => (fun (a0_m : Int) (a1_n : Int) (a2_first : Bool) (a3_old : List UInt8) (a4_path : List (List UInt8)) => (((tellsA a0_m a1_n a2_first a3_old a4_path).1, (tellsA a0_m a1_n a2_first a3_old a4_path).2, ()), (()))) a.1 a.2.1 a.2.2.1 a.2.2.2.1 a.2.2.2.2.1⟩
noncomputable def Rtells_X (nn : Nat) : Fx := ⟨seat, some bkT, fns, [(57, Rtells_Cn nn), (22, RHalf_C), (48, RNode_C)], [], [], [(3, [1, 2], [.o 0 3, .o 1 3, .o 2 1, .o 3 1]), (4, [1, 2], [.o 0 3, .o 1 3, .o 2 3, .o 3 3, .o 4 3, .o 5 3, .o 6 1, .o 7 1]), (8, [4, 5], [.o 0 2, .o 1 2, .o 2 2, .o 3 2, .o 4 2, .o 5 2, .o 6 2, .o 7 2, .o 8 2, .par [9, 10, 11, 12, 13, 14] (.alt 9 0 (.one 10 2 (.one 11 3 (.one 12 3 (.alt 13 0 (.one 14 0 .fin) (.alt 14 0 (.one 13 0 .fin) .fin))))) (.alt 13 0 (.alt 9 0 (.one 10 2 (.one 11 3 (.one 12 3 (.one 14 0 .fin)))) (.alt 14 0 (.one 9 0 (.one 10 2 (.one 11 3 (.one 12 3 .fin)))) .fin)) (.alt 14 0 (.alt 9 0 (.one 10 2 (.one 11 3 (.one 12 3 (.one 13 0 .fin)))) (.alt 13 0 (.one 9 0 (.one 10 2 (.one 11 3 (.one 12 3 .fin)))) .fin)) .fin))), .o 15 1, .o 16 1]), (9, [1, 2], [.o 0 2, .o 1 2, .o 2 2, .o 3 0, .o 4 1, .o 5 1]), (10, [4, 5], [.o 0 2, .o 1 2, .o 2 2, .o 3 2, .o 4 2, .o 5 2, .o 6 2, .o 7 2, .o 8 2, .o 9 2, .o 10 2, .o 11 2, .par [12, 13, 14, 15, 16, 17] (.alt 12 0 (.one 13 2 (.one 14 3 (.one 15 3 (.alt 16 0 (.one 17 0 .fin) (.alt 17 0 (.one 16 0 .fin) .fin))))) (.alt 16 0 (.alt 12 0 (.one 13 2 (.one 14 3 (.one 15 3 (.one 17 0 .fin)))) (.alt 17 0 (.one 12 0 (.one 13 2 (.one 14 3 (.one 15 3 .fin)))) .fin)) (.alt 17 0 (.alt 12 0 (.one 13 2 (.one 14 3 (.one 15 3 (.one 16 0 .fin)))) (.alt 16 0 (.one 12 0 (.one 13 2 (.one 14 3 (.one 15 3 .fin)))) .fin)) .fin))), .o 18 1, .o 19 1]), (11, [1, 2], [.o 0 2, .o 1 2, .o 3 2, .o 4 2, .o 2 0, .o 5 0, .o 6 1, .o 7 1])]⟩
def Rtells_VC (nn : Nat) (a0_m : Int) (a1_n : Int) (a2_first : Bool) (a3_old : List UInt8) (a4_path : List (List UInt8)) (Q : (List UInt8) → (List UInt8) → Prop) : Prop :=
  (a0_m = a1_n → (a2_first = true → Q a3_old a3_old) ∧ (a2_first = false → ((0 : Int) ≤ (0 : Int) ∧ (0 : Int) < (a4_path.length : Int)) ∧ ((0 : Int) ≤ (0 : Int) ∧ (0 : Int) < (a4_path.length : Int)) ∧ Q (ix a4_path (0 : Int)) (ix a4_path (0 : Int)))) ∧ (¬a0_m = a1_n → (Ty.int IntKind.i64).kd.wf (half a1_n.toNat : Int) → ((0 : Int) ≤ IntKind.i64.wrap ((a4_path.length : Int) - (1 : Int)) ∧ IntKind.i64.wrap ((a4_path.length : Int) - (1 : Int)) < (a4_path.length : Int)) ∧ (a0_m ≤ (half a1_n.toNat : Int) → ((0 : Int) ≤ IntKind.i64.wrap ((a4_path.length : Int) - (1 : Int)) ∧ IntKind.i64.wrap ((a4_path.length : Int) - (1 : Int)) ≤ (a4_path.length : Int)) ∧ ((tellsP a0_m (half a1_n.toNat : Int) a2_first (List.take (IntKind.i64.wrap ((a4_path.length : Int) - (1 : Int))).toNat a4_path) ∧ (half a1_n.toNat : Int).toNat < nn) ∧ ((Ty.arr (32 : Nat) Ty.byte).kd.wf (tellsA a0_m (half a1_n.toNat : Int) a2_first a3_old (List.take (IntKind.i64.wrap ((a4_path.length : Int) - (1 : Int))).toNat a4_path)).fst → (Ty.arr (32 : Nat) Ty.byte).kd.wf (tellsA a0_m (half a1_n.toNat : Int) a2_first a3_old (List.take (IntKind.i64.wrap ((a4_path.length : Int) - (1 : Int))).toNat a4_path)).snd → ((Ty.arr (32 : Nat) Ty.byte).kd.wf (sealOf (2 : Int) ((tellsA a0_m (half a1_n.toNat : Int) a2_first a3_old (List.take (IntKind.i64.wrap ((a4_path.length : Int) - (1 : Int))).toNat a4_path)).snd :: ix a4_path (IntKind.i64.wrap ((a4_path.length : Int) - (1 : Int))) :: ([] : List (List UInt8)))) → Q (tellsA a0_m (half a1_n.toNat : Int) a2_first a3_old (List.take (IntKind.i64.wrap ((a4_path.length : Int) - (1 : Int))).toNat a4_path)).fst (sealOf (2 : Int) ((tellsA a0_m (half a1_n.toNat : Int) a2_first a3_old (List.take (IntKind.i64.wrap ((a4_path.length : Int) - (1 : Int))).toNat a4_path)).snd :: ix a4_path (IntKind.i64.wrap ((a4_path.length : Int) - (1 : Int))) :: ([] : List (List UInt8))))) ∧ ((Ty.arr (32 : Nat) Ty.byte).kd.wf (sealOf (2 : Int) ((tellsA a0_m (half a1_n.toNat : Int) a2_first a3_old (List.take (IntKind.i64.wrap ((a4_path.length : Int) - (1 : Int))).toNat a4_path)).snd :: ix a4_path (IntKind.i64.wrap ((a4_path.length : Int) - (1 : Int))) :: ([] : List (List UInt8)))) → Q (tellsA a0_m (half a1_n.toNat : Int) a2_first a3_old (List.take (IntKind.i64.wrap ((a4_path.length : Int) - (1 : Int))).toNat a4_path)).fst (sealOf (2 : Int) ((tellsA a0_m (half a1_n.toNat : Int) a2_first a3_old (List.take (IntKind.i64.wrap ((a4_path.length : Int) - (1 : Int))).toNat a4_path)).snd :: ix a4_path (IntKind.i64.wrap ((a4_path.length : Int) - (1 : Int))) :: ([] : List (List UInt8))))) ∧ True)) ∧ (((tellsP a0_m (half a1_n.toNat : Int) a2_first (List.take (IntKind.i64.wrap ((a4_path.length : Int) - (1 : Int))).toNat a4_path) ∧ (half a1_n.toNat : Int).toNat < nn) ∧ ((Ty.arr (32 : Nat) Ty.byte).kd.wf (tellsA a0_m (half a1_n.toNat : Int) a2_first a3_old (List.take (IntKind.i64.wrap ((a4_path.length : Int) - (1 : Int))).toNat a4_path)).fst → (Ty.arr (32 : Nat) Ty.byte).kd.wf (tellsA a0_m (half a1_n.toNat : Int) a2_first a3_old (List.take (IntKind.i64.wrap ((a4_path.length : Int) - (1 : Int))).toNat a4_path)).snd → (Ty.arr (32 : Nat) Ty.byte).kd.wf (sealOf (2 : Int) ((tellsA a0_m (half a1_n.toNat : Int) a2_first a3_old (List.take (IntKind.i64.wrap ((a4_path.length : Int) - (1 : Int))).toNat a4_path)).snd :: ix a4_path (IntKind.i64.wrap ((a4_path.length : Int) - (1 : Int))) :: ([] : List (List UInt8)))) → Q (tellsA a0_m (half a1_n.toNat : Int) a2_first a3_old (List.take (IntKind.i64.wrap ((a4_path.length : Int) - (1 : Int))).toNat a4_path)).fst (sealOf (2 : Int) ((tellsA a0_m (half a1_n.toNat : Int) a2_first a3_old (List.take (IntKind.i64.wrap ((a4_path.length : Int) - (1 : Int))).toNat a4_path)).snd :: ix a4_path (IntKind.i64.wrap ((a4_path.length : Int) - (1 : Int))) :: ([] : List (List UInt8)))))) ∧ ((tellsP a0_m (half a1_n.toNat : Int) a2_first (List.take (IntKind.i64.wrap ((a4_path.length : Int) - (1 : Int))).toNat a4_path) ∧ (half a1_n.toNat : Int).toNat < nn) ∧ ((Ty.arr (32 : Nat) Ty.byte).kd.wf (tellsA a0_m (half a1_n.toNat : Int) a2_first a3_old (List.take (IntKind.i64.wrap ((a4_path.length : Int) - (1 : Int))).toNat a4_path)).fst → (Ty.arr (32 : Nat) Ty.byte).kd.wf (tellsA a0_m (half a1_n.toNat : Int) a2_first a3_old (List.take (IntKind.i64.wrap ((a4_path.length : Int) - (1 : Int))).toNat a4_path)).snd → (Ty.arr (32 : Nat) Ty.byte).kd.wf (sealOf (2 : Int) ((tellsA a0_m (half a1_n.toNat : Int) a2_first a3_old (List.take (IntKind.i64.wrap ((a4_path.length : Int) - (1 : Int))).toNat a4_path)).snd :: ix a4_path (IntKind.i64.wrap ((a4_path.length : Int) - (1 : Int))) :: ([] : List (List UInt8)))) → Q (tellsA a0_m (half a1_n.toNat : Int) a2_first a3_old (List.take (IntKind.i64.wrap ((a4_path.length : Int) - (1 : Int))).toNat a4_path)).fst (sealOf (2 : Int) ((tellsA a0_m (half a1_n.toNat : Int) a2_first a3_old (List.take (IntKind.i64.wrap ((a4_path.length : Int) - (1 : Int))).toNat a4_path)).snd :: ix a4_path (IntKind.i64.wrap ((a4_path.length : Int) - (1 : Int))) :: ([] : List (List UInt8)))))) ∧ True) ∧ (((tellsP a0_m (half a1_n.toNat : Int) a2_first (List.take (IntKind.i64.wrap ((a4_path.length : Int) - (1 : Int))).toNat a4_path) ∧ (half a1_n.toNat : Int).toNat < nn) ∧ ((Ty.arr (32 : Nat) Ty.byte).kd.wf (tellsA a0_m (half a1_n.toNat : Int) a2_first a3_old (List.take (IntKind.i64.wrap ((a4_path.length : Int) - (1 : Int))).toNat a4_path)).fst → (Ty.arr (32 : Nat) Ty.byte).kd.wf (tellsA a0_m (half a1_n.toNat : Int) a2_first a3_old (List.take (IntKind.i64.wrap ((a4_path.length : Int) - (1 : Int))).toNat a4_path)).snd → (Ty.arr (32 : Nat) Ty.byte).kd.wf (sealOf (2 : Int) ((tellsA a0_m (half a1_n.toNat : Int) a2_first a3_old (List.take (IntKind.i64.wrap ((a4_path.length : Int) - (1 : Int))).toNat a4_path)).snd :: ix a4_path (IntKind.i64.wrap ((a4_path.length : Int) - (1 : Int))) :: ([] : List (List UInt8)))) → Q (tellsA a0_m (half a1_n.toNat : Int) a2_first a3_old (List.take (IntKind.i64.wrap ((a4_path.length : Int) - (1 : Int))).toNat a4_path)).fst (sealOf (2 : Int) ((tellsA a0_m (half a1_n.toNat : Int) a2_first a3_old (List.take (IntKind.i64.wrap ((a4_path.length : Int) - (1 : Int))).toNat a4_path)).snd :: ix a4_path (IntKind.i64.wrap ((a4_path.length : Int) - (1 : Int))) :: ([] : List (List UInt8)))))) ∧ ((tellsP a0_m (half a1_n.toNat : Int) a2_first (List.take (IntKind.i64.wrap ((a4_path.length : Int) - (1 : Int))).toNat a4_path) ∧ (half a1_n.toNat : Int).toNat < nn) ∧ ((Ty.arr (32 : Nat) Ty.byte).kd.wf (tellsA a0_m (half a1_n.toNat : Int) a2_first a3_old (List.take (IntKind.i64.wrap ((a4_path.length : Int) - (1 : Int))).toNat a4_path)).fst → (Ty.arr (32 : Nat) Ty.byte).kd.wf (tellsA a0_m (half a1_n.toNat : Int) a2_first a3_old (List.take (IntKind.i64.wrap ((a4_path.length : Int) - (1 : Int))).toNat a4_path)).snd → (Ty.arr (32 : Nat) Ty.byte).kd.wf (sealOf (2 : Int) ((tellsA a0_m (half a1_n.toNat : Int) a2_first a3_old (List.take (IntKind.i64.wrap ((a4_path.length : Int) - (1 : Int))).toNat a4_path)).snd :: ix a4_path (IntKind.i64.wrap ((a4_path.length : Int) - (1 : Int))) :: ([] : List (List UInt8)))) → Q (tellsA a0_m (half a1_n.toNat : Int) a2_first a3_old (List.take (IntKind.i64.wrap ((a4_path.length : Int) - (1 : Int))).toNat a4_path)).fst (sealOf (2 : Int) ((tellsA a0_m (half a1_n.toNat : Int) a2_first a3_old (List.take (IntKind.i64.wrap ((a4_path.length : Int) - (1 : Int))).toNat a4_path)).snd :: ix a4_path (IntKind.i64.wrap ((a4_path.length : Int) - (1 : Int))) :: ([] : List (List UInt8)))))) ∧ True) ∧ True) ∧ (¬a0_m ≤ (half a1_n.toNat : Int) → ((0 : Int) ≤ IntKind.i64.wrap ((a4_path.length : Int) - (1 : Int)) ∧ IntKind.i64.wrap ((a4_path.length : Int) - (1 : Int)) ≤ (a4_path.length : Int)) ∧ ((tellsP (IntKind.i64.wrap (a0_m - (half a1_n.toNat : Int))) (IntKind.i64.wrap (a1_n - (half a1_n.toNat : Int))) false (List.take (IntKind.i64.wrap ((a4_path.length : Int) - (1 : Int))).toNat a4_path) ∧ (IntKind.i64.wrap (a1_n - (half a1_n.toNat : Int))).toNat < nn) ∧ ((Ty.arr (32 : Nat) Ty.byte).kd.wf (tellsA (IntKind.i64.wrap (a0_m - (half a1_n.toNat : Int))) (IntKind.i64.wrap (a1_n - (half a1_n.toNat : Int))) false a3_old (List.take (IntKind.i64.wrap ((a4_path.length : Int) - (1 : Int))).toNat a4_path)).fst → (Ty.arr (32 : Nat) Ty.byte).kd.wf (tellsA (IntKind.i64.wrap (a0_m - (half a1_n.toNat : Int))) (IntKind.i64.wrap (a1_n - (half a1_n.toNat : Int))) false a3_old (List.take (IntKind.i64.wrap ((a4_path.length : Int) - (1 : Int))).toNat a4_path)).snd → ((Ty.arr (32 : Nat) Ty.byte).kd.wf (sealOf (2 : Int) (ix a4_path (IntKind.i64.wrap ((a4_path.length : Int) - (1 : Int))) :: (tellsA (IntKind.i64.wrap (a0_m - (half a1_n.toNat : Int))) (IntKind.i64.wrap (a1_n - (half a1_n.toNat : Int))) false a3_old (List.take (IntKind.i64.wrap ((a4_path.length : Int) - (1 : Int))).toNat a4_path)).fst :: ([] : List (List UInt8)))) → (Ty.arr (32 : Nat) Ty.byte).kd.wf (sealOf (2 : Int) (ix a4_path (IntKind.i64.wrap ((a4_path.length : Int) - (1 : Int))) :: (tellsA (IntKind.i64.wrap (a0_m - (half a1_n.toNat : Int))) (IntKind.i64.wrap (a1_n - (half a1_n.toNat : Int))) false a3_old (List.take (IntKind.i64.wrap ((a4_path.length : Int) - (1 : Int))).toNat a4_path)).snd :: ([] : List (List UInt8)))) → Q (sealOf (2 : Int) (ix a4_path (IntKind.i64.wrap ((a4_path.length : Int) - (1 : Int))) :: (tellsA (IntKind.i64.wrap (a0_m - (half a1_n.toNat : Int))) (IntKind.i64.wrap (a1_n - (half a1_n.toNat : Int))) false a3_old (List.take (IntKind.i64.wrap ((a4_path.length : Int) - (1 : Int))).toNat a4_path)).fst :: ([] : List (List UInt8)))) (sealOf (2 : Int) (ix a4_path (IntKind.i64.wrap ((a4_path.length : Int) - (1 : Int))) :: (tellsA (IntKind.i64.wrap (a0_m - (half a1_n.toNat : Int))) (IntKind.i64.wrap (a1_n - (half a1_n.toNat : Int))) false a3_old (List.take (IntKind.i64.wrap ((a4_path.length : Int) - (1 : Int))).toNat a4_path)).snd :: ([] : List (List UInt8))))) ∧ ((Ty.arr (32 : Nat) Ty.byte).kd.wf (sealOf (2 : Int) (ix a4_path (IntKind.i64.wrap ((a4_path.length : Int) - (1 : Int))) :: (tellsA (IntKind.i64.wrap (a0_m - (half a1_n.toNat : Int))) (IntKind.i64.wrap (a1_n - (half a1_n.toNat : Int))) false a3_old (List.take (IntKind.i64.wrap ((a4_path.length : Int) - (1 : Int))).toNat a4_path)).fst :: ([] : List (List UInt8)))) → (Ty.arr (32 : Nat) Ty.byte).kd.wf (sealOf (2 : Int) (ix a4_path (IntKind.i64.wrap ((a4_path.length : Int) - (1 : Int))) :: (tellsA (IntKind.i64.wrap (a0_m - (half a1_n.toNat : Int))) (IntKind.i64.wrap (a1_n - (half a1_n.toNat : Int))) false a3_old (List.take (IntKind.i64.wrap ((a4_path.length : Int) - (1 : Int))).toNat a4_path)).snd :: ([] : List (List UInt8)))) → Q (sealOf (2 : Int) (ix a4_path (IntKind.i64.wrap ((a4_path.length : Int) - (1 : Int))) :: (tellsA (IntKind.i64.wrap (a0_m - (half a1_n.toNat : Int))) (IntKind.i64.wrap (a1_n - (half a1_n.toNat : Int))) false a3_old (List.take (IntKind.i64.wrap ((a4_path.length : Int) - (1 : Int))).toNat a4_path)).fst :: ([] : List (List UInt8)))) (sealOf (2 : Int) (ix a4_path (IntKind.i64.wrap ((a4_path.length : Int) - (1 : Int))) :: (tellsA (IntKind.i64.wrap (a0_m - (half a1_n.toNat : Int))) (IntKind.i64.wrap (a1_n - (half a1_n.toNat : Int))) false a3_old (List.take (IntKind.i64.wrap ((a4_path.length : Int) - (1 : Int))).toNat a4_path)).snd :: ([] : List (List UInt8))))) ∧ True)) ∧ (((tellsP (IntKind.i64.wrap (a0_m - (half a1_n.toNat : Int))) (IntKind.i64.wrap (a1_n - (half a1_n.toNat : Int))) false (List.take (IntKind.i64.wrap ((a4_path.length : Int) - (1 : Int))).toNat a4_path) ∧ (IntKind.i64.wrap (a1_n - (half a1_n.toNat : Int))).toNat < nn) ∧ ((Ty.arr (32 : Nat) Ty.byte).kd.wf (tellsA (IntKind.i64.wrap (a0_m - (half a1_n.toNat : Int))) (IntKind.i64.wrap (a1_n - (half a1_n.toNat : Int))) false a3_old (List.take (IntKind.i64.wrap ((a4_path.length : Int) - (1 : Int))).toNat a4_path)).fst → (Ty.arr (32 : Nat) Ty.byte).kd.wf (tellsA (IntKind.i64.wrap (a0_m - (half a1_n.toNat : Int))) (IntKind.i64.wrap (a1_n - (half a1_n.toNat : Int))) false a3_old (List.take (IntKind.i64.wrap ((a4_path.length : Int) - (1 : Int))).toNat a4_path)).snd → (Ty.arr (32 : Nat) Ty.byte).kd.wf (sealOf (2 : Int) (ix a4_path (IntKind.i64.wrap ((a4_path.length : Int) - (1 : Int))) :: (tellsA (IntKind.i64.wrap (a0_m - (half a1_n.toNat : Int))) (IntKind.i64.wrap (a1_n - (half a1_n.toNat : Int))) false a3_old (List.take (IntKind.i64.wrap ((a4_path.length : Int) - (1 : Int))).toNat a4_path)).fst :: ([] : List (List UInt8)))) → (Ty.arr (32 : Nat) Ty.byte).kd.wf (sealOf (2 : Int) (ix a4_path (IntKind.i64.wrap ((a4_path.length : Int) - (1 : Int))) :: (tellsA (IntKind.i64.wrap (a0_m - (half a1_n.toNat : Int))) (IntKind.i64.wrap (a1_n - (half a1_n.toNat : Int))) false a3_old (List.take (IntKind.i64.wrap ((a4_path.length : Int) - (1 : Int))).toNat a4_path)).snd :: ([] : List (List UInt8)))) → Q (sealOf (2 : Int) (ix a4_path (IntKind.i64.wrap ((a4_path.length : Int) - (1 : Int))) :: (tellsA (IntKind.i64.wrap (a0_m - (half a1_n.toNat : Int))) (IntKind.i64.wrap (a1_n - (half a1_n.toNat : Int))) false a3_old (List.take (IntKind.i64.wrap ((a4_path.length : Int) - (1 : Int))).toNat a4_path)).fst :: ([] : List (List UInt8)))) (sealOf (2 : Int) (ix a4_path (IntKind.i64.wrap ((a4_path.length : Int) - (1 : Int))) :: (tellsA (IntKind.i64.wrap (a0_m - (half a1_n.toNat : Int))) (IntKind.i64.wrap (a1_n - (half a1_n.toNat : Int))) false a3_old (List.take (IntKind.i64.wrap ((a4_path.length : Int) - (1 : Int))).toNat a4_path)).snd :: ([] : List (List UInt8)))))) ∧ ((tellsP (IntKind.i64.wrap (a0_m - (half a1_n.toNat : Int))) (IntKind.i64.wrap (a1_n - (half a1_n.toNat : Int))) false (List.take (IntKind.i64.wrap ((a4_path.length : Int) - (1 : Int))).toNat a4_path) ∧ (IntKind.i64.wrap (a1_n - (half a1_n.toNat : Int))).toNat < nn) ∧ ((Ty.arr (32 : Nat) Ty.byte).kd.wf (tellsA (IntKind.i64.wrap (a0_m - (half a1_n.toNat : Int))) (IntKind.i64.wrap (a1_n - (half a1_n.toNat : Int))) false a3_old (List.take (IntKind.i64.wrap ((a4_path.length : Int) - (1 : Int))).toNat a4_path)).fst → (Ty.arr (32 : Nat) Ty.byte).kd.wf (tellsA (IntKind.i64.wrap (a0_m - (half a1_n.toNat : Int))) (IntKind.i64.wrap (a1_n - (half a1_n.toNat : Int))) false a3_old (List.take (IntKind.i64.wrap ((a4_path.length : Int) - (1 : Int))).toNat a4_path)).snd → (Ty.arr (32 : Nat) Ty.byte).kd.wf (sealOf (2 : Int) (ix a4_path (IntKind.i64.wrap ((a4_path.length : Int) - (1 : Int))) :: (tellsA (IntKind.i64.wrap (a0_m - (half a1_n.toNat : Int))) (IntKind.i64.wrap (a1_n - (half a1_n.toNat : Int))) false a3_old (List.take (IntKind.i64.wrap ((a4_path.length : Int) - (1 : Int))).toNat a4_path)).fst :: ([] : List (List UInt8)))) → (Ty.arr (32 : Nat) Ty.byte).kd.wf (sealOf (2 : Int) (ix a4_path (IntKind.i64.wrap ((a4_path.length : Int) - (1 : Int))) :: (tellsA (IntKind.i64.wrap (a0_m - (half a1_n.toNat : Int))) (IntKind.i64.wrap (a1_n - (half a1_n.toNat : Int))) false a3_old (List.take (IntKind.i64.wrap ((a4_path.length : Int) - (1 : Int))).toNat a4_path)).snd :: ([] : List (List UInt8)))) → Q (sealOf (2 : Int) (ix a4_path (IntKind.i64.wrap ((a4_path.length : Int) - (1 : Int))) :: (tellsA (IntKind.i64.wrap (a0_m - (half a1_n.toNat : Int))) (IntKind.i64.wrap (a1_n - (half a1_n.toNat : Int))) false a3_old (List.take (IntKind.i64.wrap ((a4_path.length : Int) - (1 : Int))).toNat a4_path)).fst :: ([] : List (List UInt8)))) (sealOf (2 : Int) (ix a4_path (IntKind.i64.wrap ((a4_path.length : Int) - (1 : Int))) :: (tellsA (IntKind.i64.wrap (a0_m - (half a1_n.toNat : Int))) (IntKind.i64.wrap (a1_n - (half a1_n.toNat : Int))) false a3_old (List.take (IntKind.i64.wrap ((a4_path.length : Int) - (1 : Int))).toNat a4_path)).snd :: ([] : List (List UInt8)))))) ∧ True) ∧ (((tellsP (IntKind.i64.wrap (a0_m - (half a1_n.toNat : Int))) (IntKind.i64.wrap (a1_n - (half a1_n.toNat : Int))) false (List.take (IntKind.i64.wrap ((a4_path.length : Int) - (1 : Int))).toNat a4_path) ∧ (IntKind.i64.wrap (a1_n - (half a1_n.toNat : Int))).toNat < nn) ∧ ((Ty.arr (32 : Nat) Ty.byte).kd.wf (tellsA (IntKind.i64.wrap (a0_m - (half a1_n.toNat : Int))) (IntKind.i64.wrap (a1_n - (half a1_n.toNat : Int))) false a3_old (List.take (IntKind.i64.wrap ((a4_path.length : Int) - (1 : Int))).toNat a4_path)).fst → (Ty.arr (32 : Nat) Ty.byte).kd.wf (tellsA (IntKind.i64.wrap (a0_m - (half a1_n.toNat : Int))) (IntKind.i64.wrap (a1_n - (half a1_n.toNat : Int))) false a3_old (List.take (IntKind.i64.wrap ((a4_path.length : Int) - (1 : Int))).toNat a4_path)).snd → (Ty.arr (32 : Nat) Ty.byte).kd.wf (sealOf (2 : Int) (ix a4_path (IntKind.i64.wrap ((a4_path.length : Int) - (1 : Int))) :: (tellsA (IntKind.i64.wrap (a0_m - (half a1_n.toNat : Int))) (IntKind.i64.wrap (a1_n - (half a1_n.toNat : Int))) false a3_old (List.take (IntKind.i64.wrap ((a4_path.length : Int) - (1 : Int))).toNat a4_path)).fst :: ([] : List (List UInt8)))) → (Ty.arr (32 : Nat) Ty.byte).kd.wf (sealOf (2 : Int) (ix a4_path (IntKind.i64.wrap ((a4_path.length : Int) - (1 : Int))) :: (tellsA (IntKind.i64.wrap (a0_m - (half a1_n.toNat : Int))) (IntKind.i64.wrap (a1_n - (half a1_n.toNat : Int))) false a3_old (List.take (IntKind.i64.wrap ((a4_path.length : Int) - (1 : Int))).toNat a4_path)).snd :: ([] : List (List UInt8)))) → Q (sealOf (2 : Int) (ix a4_path (IntKind.i64.wrap ((a4_path.length : Int) - (1 : Int))) :: (tellsA (IntKind.i64.wrap (a0_m - (half a1_n.toNat : Int))) (IntKind.i64.wrap (a1_n - (half a1_n.toNat : Int))) false a3_old (List.take (IntKind.i64.wrap ((a4_path.length : Int) - (1 : Int))).toNat a4_path)).fst :: ([] : List (List UInt8)))) (sealOf (2 : Int) (ix a4_path (IntKind.i64.wrap ((a4_path.length : Int) - (1 : Int))) :: (tellsA (IntKind.i64.wrap (a0_m - (half a1_n.toNat : Int))) (IntKind.i64.wrap (a1_n - (half a1_n.toNat : Int))) false a3_old (List.take (IntKind.i64.wrap ((a4_path.length : Int) - (1 : Int))).toNat a4_path)).snd :: ([] : List (List UInt8)))))) ∧ ((tellsP (IntKind.i64.wrap (a0_m - (half a1_n.toNat : Int))) (IntKind.i64.wrap (a1_n - (half a1_n.toNat : Int))) false (List.take (IntKind.i64.wrap ((a4_path.length : Int) - (1 : Int))).toNat a4_path) ∧ (IntKind.i64.wrap (a1_n - (half a1_n.toNat : Int))).toNat < nn) ∧ ((Ty.arr (32 : Nat) Ty.byte).kd.wf (tellsA (IntKind.i64.wrap (a0_m - (half a1_n.toNat : Int))) (IntKind.i64.wrap (a1_n - (half a1_n.toNat : Int))) false a3_old (List.take (IntKind.i64.wrap ((a4_path.length : Int) - (1 : Int))).toNat a4_path)).fst → (Ty.arr (32 : Nat) Ty.byte).kd.wf (tellsA (IntKind.i64.wrap (a0_m - (half a1_n.toNat : Int))) (IntKind.i64.wrap (a1_n - (half a1_n.toNat : Int))) false a3_old (List.take (IntKind.i64.wrap ((a4_path.length : Int) - (1 : Int))).toNat a4_path)).snd → (Ty.arr (32 : Nat) Ty.byte).kd.wf (sealOf (2 : Int) (ix a4_path (IntKind.i64.wrap ((a4_path.length : Int) - (1 : Int))) :: (tellsA (IntKind.i64.wrap (a0_m - (half a1_n.toNat : Int))) (IntKind.i64.wrap (a1_n - (half a1_n.toNat : Int))) false a3_old (List.take (IntKind.i64.wrap ((a4_path.length : Int) - (1 : Int))).toNat a4_path)).fst :: ([] : List (List UInt8)))) → (Ty.arr (32 : Nat) Ty.byte).kd.wf (sealOf (2 : Int) (ix a4_path (IntKind.i64.wrap ((a4_path.length : Int) - (1 : Int))) :: (tellsA (IntKind.i64.wrap (a0_m - (half a1_n.toNat : Int))) (IntKind.i64.wrap (a1_n - (half a1_n.toNat : Int))) false a3_old (List.take (IntKind.i64.wrap ((a4_path.length : Int) - (1 : Int))).toNat a4_path)).snd :: ([] : List (List UInt8)))) → Q (sealOf (2 : Int) (ix a4_path (IntKind.i64.wrap ((a4_path.length : Int) - (1 : Int))) :: (tellsA (IntKind.i64.wrap (a0_m - (half a1_n.toNat : Int))) (IntKind.i64.wrap (a1_n - (half a1_n.toNat : Int))) false a3_old (List.take (IntKind.i64.wrap ((a4_path.length : Int) - (1 : Int))).toNat a4_path)).fst :: ([] : List (List UInt8)))) (sealOf (2 : Int) (ix a4_path (IntKind.i64.wrap ((a4_path.length : Int) - (1 : Int))) :: (tellsA (IntKind.i64.wrap (a0_m - (half a1_n.toNat : Int))) (IntKind.i64.wrap (a1_n - (half a1_n.toNat : Int))) false a3_old (List.take (IntKind.i64.wrap ((a4_path.length : Int) - (1 : Int))).toNat a4_path)).snd :: ([] : List (List UInt8)))))) ∧ True) ∧ True))
theorem Rtells_ok {nn : Nat} {a0_m : Int} {a1_n : Int} {a2_first : Bool} {a3_old : List UInt8} {a4_path : List (List UInt8)} (w_0 : (Ty.kd (.int .i64)).wf a0_m) (w_1 : (Ty.kd (.int .i64)).wf a1_n) (w_2 : (Ty.kd (.arr 32 .byte)).wf a3_old) (w_3 : (Ty.kd (.sl (.arr 32 .byte))).wf a4_path) (hp : (tellsP a0_m a1_n a2_first a4_path) ∧ a1_n.toNat < nn + 1) : Rtells_VC nn a0_m a1_n a2_first a3_old a4_path (fun o0 o1 => o0 = (tellsA a0_m a1_n a2_first a3_old a4_path).1 ∧ o1 = (tellsA a0_m a1_n a2_first a3_old a4_path).2) := by
  have hm1 : a0_m ≤ 9223372036854775807 := w_0.2
  have hn1 : a1_n ≤ 9223372036854775807 := w_1.2
  have hL : a4_path.length ≤ 281474976710656 := w_3.1
  have hp1 := hp.1.1
  have hp3 := hp.1.2.1
  have hp2 := hp.2
  unfold Rtells_VC
  refine ⟨fun h => ?_, fun h _ => ?_⟩
  · subst h
    refine ⟨fun hf => by subst hf; exact ⟨by rw [tells_end]; rfl, by rw [tells_end]; rfl⟩, fun hf => ?_⟩
    subst hf
    have l1 := tellsP_end hp.1
    exact ⟨⟨by omega, by omega⟩, ⟨by omega, by omega⟩, by rw [tells_end]; rfl, by rw [tells_end]; rfl⟩
  · have b2 : 2 ≤ a1_n.toNat := by omega
    have a1 := half_pos b2
    have a2 := half_lt b2
    have hne : 1 ≤ a4_path.length := by
      by_cases hm : a0_m ≤ ((half a1_n.toNat : Nat) : Int)
      · obtain ⟨q, l, rfl, -, -⟩ := tells_left (o := a3_old) hp.1 h hm
        simp
      · obtain ⟨q, l, rfl, -, -⟩ := tells_right (o := a3_old) hp.1 h hm
        simp
    have ew : IntKind.i64.wrap ((a4_path.length : Int) - 1) = ((a4_path.length - 1 : Nat) : Int) := by
      rw [wrap_id (wf64 (by omega) (by omega))]
      omega
    rw [ew]
    simp only [Int.toNat_natCast]
    refine ⟨⟨by omega, by omega⟩, fun hm => ⟨⟨by omega, by omega⟩, ?_⟩, fun hm => ?_⟩
    · obtain ⟨q, l, rfl, hq, ha⟩ := tells_left (o := a3_old) hp.1 h hm
      have e0 : (q ++ [l]).length - 1 = q.length := by simp
      rw [e0, ha]
      simp only [take_last, ix_last]
      have hq' := And.intro hq (show half a1_n.toNat < nn by omega)
      repeat' first
        | with_reducible exact hq'
        | with_reducible exact trivial
        | with_reducible exact And.intro rfl rfl
        | with_reducible refine And.intro ?_ ?_
        | intro _
    · rw [wrap_id (a := a0_m - ((half a1_n.toNat : Nat) : Int)) (wf64 (by omega) (by omega)), wrap_id (a := a1_n - ((half a1_n.toNat : Nat) : Int)) (wf64 (by omega) (by omega))]
      refine ⟨⟨by omega, by omega⟩, ?_⟩
      obtain ⟨q, l, rfl, hq, ha⟩ := tells_right (o := a3_old) hp.1 h hm
      have e0 : (q ++ [l]).length - 1 = q.length := by simp
      rw [e0, ha]
      simp only [take_last, ix_last]
      have hq' := And.intro hq (show (a1_n - ((half a1_n.toNat : Nat) : Int)).toNat < nn by omega)
      repeat' first
        | with_reducible exact hq'
        | with_reducible exact trivial
        | with_reducible exact And.intro rfl rfl
        | with_reducible refine And.intro ?_ ?_
        | intro _
theorem Rtells_eq (nn : Nat) : (∀ a, (Rtells_Cn (nn + 1)).pre a → PM.wfP (Rtells_Cn (nn + 1)).pm a (fvc (Rtells_X nn) 200 57 (Rtells_Cn (nn + 1)) a (eqO (Rtells_Cn (nn + 1)) a))) = (∀ a : Int × Int × Bool × (List UInt8) × (List (List UInt8)) × Unit, ((tellsP (a.1) (a.2.1) (a.2.2.1) (a.2.2.2.2.1)) ∧ (a.2.1).toNat < nn + 1) → (Ty.kd (.int .i64)).wf a.1 → (Ty.kd (.int .i64)).wf a.2.1 → (Ty.kd (.arr 32 .byte)).wf a.2.2.2.1 → (Ty.kd (.sl (.arr 32 .byte))).wf a.2.2.2.2.1 → Rtells_VC nn a.1 a.2.1 a.2.2.1 a.2.2.2.1 a.2.2.2.2.1 (fun o0 o1 => o0 = (tellsA (a.1) (a.2.1) (a.2.2.1) (a.2.2.2.1) (a.2.2.2.2.1)).1 ∧ o1 = (tellsA (a.1) (a.2.1) (a.2.2.1) (a.2.2.2.1) (a.2.2.2.2.1)).2)) := by kernel_rfl
theorem Rtells_kn : ∀ nn, (Rtells_Cn nn).valid Try.prog 57
  | 0 => fun a hp => absurd (And.right hp) (Nat.not_lt_zero _)
  | nn + 1 => ctr_of (X := Rtells_X nn) (ok_of seat_ok (fun b hb => by cases hb; exact bkT_ok) fns_ok ⟨Rtells_kn nn, RHalf_k, RNode_k, trivial⟩) 200 ((Rtells_eq nn).mpr fun a hp w_0 w_1 w_2 w_3 => @Rtells_ok nn a.1 a.2.1 a.2.2.1 a.2.2.2.1 a.2.2.2.2.1 w_0 w_1 w_2 w_3 hp)
theorem Rtells_k : Rtells_C.valid Try.prog 57 := valid_rec Rtells_kn (fun a hp => ⟨_, And.intro hp (Nat.lt_succ_self _)⟩)
noncomputable def RExtends_C : Ctr := ⟨[.v (.int .i64), .v (.int .i64), .v (.arr 32 .byte), .v (.arr 32 .byte), .v (.sl (.arr 32 .byte))], [.v .bool], some (fun a => (fun (a0_m : Int) (a1_n : Int) (a2_old : List UInt8) (a3_fresh : List UInt8) (a4_path : List (List UInt8)) => (a4_path.length ≤ 65536 : Prop)) a.1 a.2.1 a.2.2.1 a.2.2.2.1 a.2.2.2.2.1), fun a => (fun (a0_m : Int) (a1_n : Int) (a2_old : List UInt8) (a3_fresh : List UInt8) (a4_path : List (List UInt8)) => (((extendsB a0_m a1_n a2_old a3_fresh a4_path), ()), (()))) a.1 a.2.1 a.2.2.1 a.2.2.2.1 a.2.2.2.2.1⟩
noncomputable def RExtends_X : Fx := ⟨seat, some bkT, fns, [(36, RSteps_C), (47, ROf_C), (57, Rtells_C)], [], [], []⟩
def RExtends_VC (a0_m : Int) (a1_n : Int) (a2_old : List UInt8) (a3_fresh : List UInt8) (a4_path : List (List UInt8)) (Q : Bool → Prop) : Prop :=
  (a0_m < (0 : Int) → Q false) ∧ (¬a0_m < (0 : Int) → (a1_n < a0_m → Q false) ∧ (¬a1_n < a0_m → (Ty.int IntKind.i64).kd.wf (stepsN a0_m.toNat a1_n.toNat) → ((a4_path.length : Int) ≠ stepsN a0_m.toNat a1_n.toNat → Q false) ∧ (¬(a4_path.length : Int) ≠ stepsN a0_m.toNat a1_n.toNat → (a0_m = (0 : Int) → (1 : Nat) + blobRoom ([] : List (List UInt8)) ≤ (70368744177664 : Nat) ∧ ((Ty.arr (32 : Nat) Ty.byte).kd.wf (sealOf (2 : Int) ([] : List (List UInt8))) → (a2_old = sealOf (2 : Int) ([] : List (List UInt8)) → ((0 : Int) < a1_n → Q true) ∧ (¬(0 : Int) < a1_n → Q (decide (a3_fresh = sealOf (2 : Int) ([] : List (List UInt8)))))) ∧ (¬a2_old = sealOf (2 : Int) ([] : List (List UInt8)) → Q false))) ∧ (¬a0_m = (0 : Int) → tellsP a0_m a1_n true a4_path ∧ ((Ty.arr (32 : Nat) Ty.byte).kd.wf (tellsA a0_m a1_n true a2_old a4_path).fst → (Ty.arr (32 : Nat) Ty.byte).kd.wf (tellsA a0_m a1_n true a2_old a4_path).snd → ((tellsA a0_m a1_n true a2_old a4_path).fst = a2_old → Q (decide ((tellsA a0_m a1_n true a2_old a4_path).snd = a3_fresh))) ∧ (¬(tellsA a0_m a1_n true a2_old a4_path).fst = a2_old → Q false))))))
theorem RExtends_ok {a0_m : Int} {a1_n : Int} {a2_old : List UInt8} {a3_fresh : List UInt8} {a4_path : List (List UInt8)} (w_0 : (Ty.kd (.int .i64)).wf a0_m) (w_1 : (Ty.kd (.int .i64)).wf a1_n) (w_2 : (Ty.kd (.arr 32 .byte)).wf a2_old) (w_3 : (Ty.kd (.arr 32 .byte)).wf a3_fresh) (w_4 : (Ty.kd (.sl (.arr 32 .byte))).wf a4_path) (hp : a4_path.length ≤ 65536) : RExtends_VC a0_m a1_n a2_old a3_fresh a4_path (fun o0 => o0 = (extendsB a0_m a1_n a2_old a3_fresh a4_path)) := by
  have hm1 : a0_m ≤ 9223372036854775807 := w_0.2
  have hn1 : a1_n ≤ 9223372036854775807 := w_1.2
  have no : ∀ (c : a0_m < 0 ∨ a1_n < a0_m ∨ ¬ ((a4_path.length : Int) = stepsN a0_m.toNat a1_n.toNat)), false = extendsB a0_m a1_n a2_old a3_fresh a4_path := fun c => by
    unfold extendsB
    rw [if_pos c]
  unfold RExtends_VC
  refine ⟨fun h1 => no (.inl h1), fun h1 => ⟨fun h2 => no (.inr (.inl h2)), fun h2 _ => ⟨fun h3 => no (.inr (.inr h3)), fun h3 => ?_⟩⟩⟩
  have hst : (a4_path.length : Int) = stepsN a0_m.toNat a1_n.toNat := Classical.not_not.1 h3
  refine ⟨fun h4 => ⟨by simp [blobRoom], fun _ => ?_⟩, fun h4 => ⟨extends_at (by omega) (by omega) hst, fun _ _ => ?_⟩⟩
  · have hE : extendsB a0_m a1_n a2_old a3_fresh a4_path = decide (a2_old = sealOf 2 [] ∧ (a1_n = 0 → a3_fresh = sealOf 2 [])) := by
      unfold extendsB
      rw [if_neg (by omega), if_pos h4]
    refine ⟨fun h5 => ⟨fun h6 => ?_, fun h6 => ?_⟩, fun h5 => ?_⟩
    · show true = extendsB a0_m a1_n a2_old a3_fresh a4_path
      rw [hE, decide_eq_true ⟨h5, fun h => absurd h6 (by omega)⟩]
    · show decide (a3_fresh = sealOf 2 []) = extendsB a0_m a1_n a2_old a3_fresh a4_path
      rw [hE]
      exact decide_eq_decide.2 ⟨fun h => ⟨h5, fun _ => h⟩, fun h => h.2 (by omega)⟩
    · show false = extendsB a0_m a1_n a2_old a3_fresh a4_path
      rw [hE, decide_eq_false (fun h => h5 h.1)]
  · refine ⟨fun h5 => ?_, fun h5 => ?_⟩
    · show decide ((tellsA a0_m a1_n true a2_old a4_path).2 = a3_fresh) = extendsB a0_m a1_n a2_old a3_fresh a4_path
      rw [extends_tells (by omega) (by omega) hst]
      exact decide_eq_decide.2 ⟨fun h => Prod.ext h5 h, fun h => by rw [h]⟩
    · show false = extendsB a0_m a1_n a2_old a3_fresh a4_path
      rw [extends_tells (by omega) (by omega) hst, decide_eq_false (fun h => h5 (by rw [h]))]
theorem RExtends_eq : (∀ a, RExtends_C.pre a → PM.wfP RExtends_C.pm a (fvc RExtends_X 200 38 RExtends_C a (eqO RExtends_C a))) = (∀ a : Int × Int × (List UInt8) × (List UInt8) × (List (List UInt8)) × Unit, ((a.2.2.2.2.1).length ≤ 65536) → (Ty.kd (.int .i64)).wf a.1 → (Ty.kd (.int .i64)).wf a.2.1 → (Ty.kd (.arr 32 .byte)).wf a.2.2.1 → (Ty.kd (.arr 32 .byte)).wf a.2.2.2.1 → (Ty.kd (.sl (.arr 32 .byte))).wf a.2.2.2.2.1 → RExtends_VC a.1 a.2.1 a.2.2.1 a.2.2.2.1 a.2.2.2.2.1 (fun o0 => o0 = (extendsB (a.1) (a.2.1) (a.2.2.1) (a.2.2.2.1) (a.2.2.2.2.1)))) := by kernel_rfl
theorem RExtends_k : RExtends_C.valid Try.prog 38 := ctr_of (X := RExtends_X) (ok_of seat_ok (fun b hb => by cases hb; exact bkT_ok) fns_ok ⟨RSteps_k, ROf_k, Rtells_k, trivial⟩) 200 (RExtends_eq.mpr fun a hp w_0 w_1 w_2 w_3 w_4 => @RExtends_ok a.1 a.2.1 a.2.2.1 a.2.2.2.1 a.2.2.2.2.1 w_0 w_1 w_2 w_3 w_4 hp)
noncomputable def RSameR_C : Ctr := ⟨[.rw 31 (.arr 32 .byte) false, .v (.sl (.arr 32 .byte))], [.v .bool], none, fun a => (fun (a0_a : List (List UInt8)) (a1_b : List (List UInt8)) => ((decide (a0_a = a1_b), ()), (()))) a.1 a.2.1⟩
noncomputable def RSameR_X : Fx := ⟨seat, some bkT, fns, [], [], [], [(6, [], [.o 0 2, .o 1 2, .o 2 2, .o 3 2, .o 4 2, .o 5 2, .o 6 2, .o 7 2, .o 8 2])]⟩
def RSameR_VC (a0_a : List (List UInt8)) (a1_b : List (List UInt8)) (Q : Bool → Prop) : Prop :=
  ((a0_a.length : Int) ≠ (a1_b.length : Int) → Q false) ∧ (¬(a0_a.length : Int) ≠ (a1_b.length : Int) → ∃ (x0 : Bool → Int → Prop), ∃ (x1 : Bool → Int → Nat), x0 false (0 : Int) ∧ ∀ (x2 : Bool) (x3 : Int), x0 x2 x3 → (Kd.int IntKind.i64).wf x3 → (x3 < (a0_a.length : Int) → ((0 : Int) ≤ x3 ∧ x3 < (a0_a.length : Int)) ∧ ((0 : Int) ≤ x3 ∧ x3 < (a1_b.length : Int)) ∧ (ix a0_a x3 ≠ ix a1_b x3 → Q false) ∧ (¬ix a0_a x3 ≠ ix a1_b x3 → x3 < (9223372036854775807 : Int) ∧ x0 x2 (x3 + (1 : Int)) ∧ x1 x2 (x3 + (1 : Int)) < x1 x2 x3)) ∧ (¬x3 < (a0_a.length : Int) → Q true))
theorem RSameR_ok {a0_a : List (List UInt8)} {a1_b : List (List UInt8)} (w_0 : (Ty.kd (.sl (.arr 32 .byte))).wf a0_a) (w_1 : (Ty.kd (.sl (.arr 32 .byte))).wf a1_b) : RSameR_VC a0_a a1_b (fun o0 => o0 = decide (a0_a = a1_b)) := by
  unfold RSameR_VC
  refine ⟨fun h => ?_, fun h => ?_⟩
  · show false = decide (a0_a = a1_b)
    rw [decide_eq_false (fun e => h (by rw [e]))]
  · have hl : a0_a.length = a1_b.length := by omega
    have hL : a0_a.length ≤ 281474976710656 := w_0.1
    refine ⟨fun _ i => ∃ j : Nat, i = (j : Int) ∧ j ≤ a0_a.length ∧ a0_a.take j = a1_b.take j, fun _ i => a0_a.length - i.toNat, ⟨0, rfl, by omega, rfl⟩, ?_⟩
    rintro r i ⟨j, rfl, hj, ht⟩ _
    refine ⟨fun hlt => ⟨⟨by omega, hlt⟩, ⟨by omega, by omega⟩, fun hne => ?_, fun he => ⟨by omega, ⟨j + 1, by omega, by omega, same_step (by omega) (by omega) ht (Classical.not_not.1 he)⟩, by show a0_a.length - ((j : Int) + 1).toNat < a0_a.length - (j : Int).toNat; omega⟩⟩, fun hge => ?_⟩
    · show false = decide (a0_a = a1_b)
      rw [decide_eq_false (fun e => hne (by rw [e]))]
    · have e : a0_a = a1_b := by
        rw [List.take_of_length_le (by omega), List.take_of_length_le (by omega)] at ht
        exact ht
      show true = decide (a0_a = a1_b)
      rw [decide_eq_true e]
theorem RSameR_eq : (∀ a, RSameR_C.pre a → PM.wfP RSameR_C.pm a (fvc RSameR_X 200 19 RSameR_C a (eqO RSameR_C a))) = (∀ a : (List (List UInt8)) × (List (List UInt8)) × Unit, True → (Ty.kd (.sl (.arr 32 .byte))).wf a.1 → (Ty.kd (.sl (.arr 32 .byte))).wf a.2.1 → RSameR_VC a.1 a.2.1 (fun o0 => o0 = decide ((a.1) = (a.2.1)))) := by kernel_rfl
theorem RSameR_k : RSameR_C.valid Try.prog 19 := ctr_of (X := RSameR_X) (ok_of seat_ok (fun b hb => by cases hb; exact bkT_ok) fns_ok trivial) 200 (RSameR_eq.mpr fun a hp w_0 w_1 => @RSameR_ok a.1 a.2.1 w_0 w_1)
noncomputable def GrowTells_C : Ctr := ⟨[.v (.int .i64), .v (.int .i64), .v (.arr 32 .byte), .v (.arr 32 .byte), .v (.sl (.arr 32 .byte))], [.v .bool], none, fun a => (fun (a0_m : Int) (a1_n : Int) (a2_old : List UInt8) (a3_fresh : List UInt8) (a4_path : List (List UInt8)) => ((true, ()), (()))) a.1 a.2.1 a.2.2.1 a.2.2.2.1 a.2.2.2.2.1⟩
noncomputable def GrowTells_X : Fx := ⟨seat, some bkT, fns, [(32, awake5_C), (37, ExtendsN_C), (37, Extends_C), (38, RExtends_C), (36, RSteps_C), (28, CallsO_C), (19, RSame_C), (19, RSameR_C)], [], [], []⟩
def GrowTells_VC (a0_m : Int) (a1_n : Int) (a2_old : List UInt8) (a3_fresh : List UInt8) (a4_path : List (List UInt8)) (Q : Bool → Prop) : Prop :=
  ((100 : Int) < (a4_path.length : Int) → Q true) ∧ (¬(100 : Int) < (a4_path.length : Int) → (([] : List (List UInt8)).length + a4_path.length) * (32 : Nat) ≤ (140737488355328 : Nat) ∧ ((([] : List (List UInt8)) ++ a4_path).length ≤ (65536 : Nat) ∧ bookUpto (some (([] : List Nt), (0 : Int))) ((2 : Nat) * (([] : List (List UInt8)) ++ a4_path).length + (2 : Nat))) ∧ ((Ty.int IntKind.i64).kd.wf (if extendsB a0_m a1_n a2_old a3_fresh (([] : List (List UInt8)) ++ a4_path) = true then (0 : Int) else (10 : Int)) → a4_path.length ≤ (65536 : Nat) ∧ (decide ((if extendsB a0_m a1_n a2_old a3_fresh (([] : List (List UInt8)) ++ a4_path) = true then (0 : Int) else (10 : Int)) = (0 : Int)) ≠ extendsB a0_m a1_n a2_old a3_fresh a4_path → Q false) ∧ (¬decide ((if extendsB a0_m a1_n a2_old a3_fresh (([] : List (List UInt8)) ++ a4_path) = true then (0 : Int) else (10 : Int)) = (0 : Int)) ≠ extendsB a0_m a1_n a2_old a3_fresh a4_path → ((if extendsB a0_m a1_n a2_old a3_fresh (([] : List (List UInt8)) ++ a4_path) = true then (0 : Int) else (10 : Int)) ≠ (0 : Int) → ((if extendsB a0_m a1_n a2_old a3_fresh (([] : List (List UInt8)) ++ a4_path) = true then (0 : Int) else (10 : Int)) ≠ (10 : Int) → Q false) ∧ (¬(if extendsB a0_m a1_n a2_old a3_fresh (([] : List (List UInt8)) ++ a4_path) = true then (0 : Int) else (10 : Int)) ≠ (10 : Int) → (([] : List (List UInt8)) ++ a4_path).length ≤ (65536 : Nat) ∧ ((Ty.int IntKind.i64).kd.wf (if extendsB a0_m a1_n a2_old a3_fresh (([] : List (List UInt8)) ++ a4_path) = true then (0 : Int) else (10 : Int)) → (((if extendsB a0_m a1_n a2_old a3_fresh (([] : List (List UInt8)) ++ a4_path) = true then (0 : Int) else (10 : Int)) ≠ if extendsB a0_m a1_n a2_old a3_fresh (([] : List (List UInt8)) ++ a4_path) = true then (0 : Int) else (10 : Int)) → Q false) ∧ ((¬(if extendsB a0_m a1_n a2_old a3_fresh (([] : List (List UInt8)) ++ a4_path) = true then (0 : Int) else (10 : Int)) ≠ if extendsB a0_m a1_n a2_old a3_fresh (([] : List (List UInt8)) ++ a4_path) = true then (0 : Int) else (10 : Int)) → (a0_m < (0 : Int) → (Ty.int IntKind.i64).kd.wf (bookCalls (extendsBk (some (([] : List Nt), (0 : Int))) a0_m a1_n a2_old (([] : List (List UInt8)) ++ a4_path))) → (bookCalls (extendsBk (some (([] : List Nt), (0 : Int))) a0_m a1_n a2_old (([] : List (List UInt8)) ++ a4_path)) ≠ (0 : Int) → Q false) ∧ (¬bookCalls (extendsBk (some (([] : List Nt), (0 : Int))) a0_m a1_n a2_old (([] : List (List UInt8)) ++ a4_path)) ≠ (0 : Int) → (decide (([] : List (List UInt8)) ++ a4_path = a4_path) = true → Q true) ∧ (decide (([] : List (List UInt8)) ++ a4_path = a4_path) = false → Q false))) ∧ (¬a0_m < (0 : Int) → (a1_n < a0_m → (Ty.int IntKind.i64).kd.wf (bookCalls (extendsBk (some (([] : List Nt), (0 : Int))) a0_m a1_n a2_old (([] : List (List UInt8)) ++ a4_path))) → (bookCalls (extendsBk (some (([] : List Nt), (0 : Int))) a0_m a1_n a2_old (([] : List (List UInt8)) ++ a4_path)) ≠ (0 : Int) → Q false) ∧ (¬bookCalls (extendsBk (some (([] : List Nt), (0 : Int))) a0_m a1_n a2_old (([] : List (List UInt8)) ++ a4_path)) ≠ (0 : Int) → (decide (([] : List (List UInt8)) ++ a4_path = a4_path) = true → Q true) ∧ (decide (([] : List (List UInt8)) ++ a4_path = a4_path) = false → Q false))) ∧ (¬a1_n < a0_m → (Ty.int IntKind.i64).kd.wf (stepsN a0_m.toNat a1_n.toNat) → ((a4_path.length : Int) ≠ stepsN a0_m.toNat a1_n.toNat → (Ty.int IntKind.i64).kd.wf (bookCalls (extendsBk (some (([] : List Nt), (0 : Int))) a0_m a1_n a2_old (([] : List (List UInt8)) ++ a4_path))) → (bookCalls (extendsBk (some (([] : List Nt), (0 : Int))) a0_m a1_n a2_old (([] : List (List UInt8)) ++ a4_path)) ≠ (0 : Int) → Q false) ∧ (¬bookCalls (extendsBk (some (([] : List Nt), (0 : Int))) a0_m a1_n a2_old (([] : List (List UInt8)) ++ a4_path)) ≠ (0 : Int) → (decide (([] : List (List UInt8)) ++ a4_path = a4_path) = true → Q true) ∧ (decide (([] : List (List UInt8)) ++ a4_path = a4_path) = false → Q false))) ∧ (¬(a4_path.length : Int) ≠ stepsN a0_m.toNat a1_n.toNat → (decide (([] : List (List UInt8)) ++ a4_path = a4_path) = true → Q true) ∧ (decide (([] : List (List UInt8)) ++ a4_path = a4_path) = false → Q false)))))))) ∧ (¬(if extendsB a0_m a1_n a2_old a3_fresh (([] : List (List UInt8)) ++ a4_path) = true then (0 : Int) else (10 : Int)) ≠ (0 : Int) → (([] : List (List UInt8)) ++ a4_path).length ≤ (65536 : Nat) ∧ ((Ty.int IntKind.i64).kd.wf (if extendsB a0_m a1_n a2_old a3_fresh (([] : List (List UInt8)) ++ a4_path) = true then (0 : Int) else (10 : Int)) → (((if extendsB a0_m a1_n a2_old a3_fresh (([] : List (List UInt8)) ++ a4_path) = true then (0 : Int) else (10 : Int)) ≠ if extendsB a0_m a1_n a2_old a3_fresh (([] : List (List UInt8)) ++ a4_path) = true then (0 : Int) else (10 : Int)) → Q false) ∧ ((¬(if extendsB a0_m a1_n a2_old a3_fresh (([] : List (List UInt8)) ++ a4_path) = true then (0 : Int) else (10 : Int)) ≠ if extendsB a0_m a1_n a2_old a3_fresh (([] : List (List UInt8)) ++ a4_path) = true then (0 : Int) else (10 : Int)) → (a0_m < (0 : Int) → (Ty.int IntKind.i64).kd.wf (bookCalls (extendsBk (some (([] : List Nt), (0 : Int))) a0_m a1_n a2_old (([] : List (List UInt8)) ++ a4_path))) → (bookCalls (extendsBk (some (([] : List Nt), (0 : Int))) a0_m a1_n a2_old (([] : List (List UInt8)) ++ a4_path)) ≠ (0 : Int) → Q false) ∧ (¬bookCalls (extendsBk (some (([] : List Nt), (0 : Int))) a0_m a1_n a2_old (([] : List (List UInt8)) ++ a4_path)) ≠ (0 : Int) → (decide (([] : List (List UInt8)) ++ a4_path = a4_path) = true → Q true) ∧ (decide (([] : List (List UInt8)) ++ a4_path = a4_path) = false → Q false))) ∧ (¬a0_m < (0 : Int) → (a1_n < a0_m → (Ty.int IntKind.i64).kd.wf (bookCalls (extendsBk (some (([] : List Nt), (0 : Int))) a0_m a1_n a2_old (([] : List (List UInt8)) ++ a4_path))) → (bookCalls (extendsBk (some (([] : List Nt), (0 : Int))) a0_m a1_n a2_old (([] : List (List UInt8)) ++ a4_path)) ≠ (0 : Int) → Q false) ∧ (¬bookCalls (extendsBk (some (([] : List Nt), (0 : Int))) a0_m a1_n a2_old (([] : List (List UInt8)) ++ a4_path)) ≠ (0 : Int) → (decide (([] : List (List UInt8)) ++ a4_path = a4_path) = true → Q true) ∧ (decide (([] : List (List UInt8)) ++ a4_path = a4_path) = false → Q false))) ∧ (¬a1_n < a0_m → (Ty.int IntKind.i64).kd.wf (stepsN a0_m.toNat a1_n.toNat) → ((a4_path.length : Int) ≠ stepsN a0_m.toNat a1_n.toNat → (Ty.int IntKind.i64).kd.wf (bookCalls (extendsBk (some (([] : List Nt), (0 : Int))) a0_m a1_n a2_old (([] : List (List UInt8)) ++ a4_path))) → (bookCalls (extendsBk (some (([] : List Nt), (0 : Int))) a0_m a1_n a2_old (([] : List (List UInt8)) ++ a4_path)) ≠ (0 : Int) → Q false) ∧ (¬bookCalls (extendsBk (some (([] : List Nt), (0 : Int))) a0_m a1_n a2_old (([] : List (List UInt8)) ++ a4_path)) ≠ (0 : Int) → (decide (([] : List (List UInt8)) ++ a4_path = a4_path) = true → Q true) ∧ (decide (([] : List (List UInt8)) ++ a4_path = a4_path) = false → Q false))) ∧ (¬(a4_path.length : Int) ≠ stepsN a0_m.toNat a1_n.toNat → (decide (([] : List (List UInt8)) ++ a4_path = a4_path) = true → Q true) ∧ (decide (([] : List (List UInt8)) ++ a4_path = a4_path) = false → Q false))))))))))
theorem GrowTells_ok {a0_m : Int} {a1_n : Int} {a2_old : List UInt8} {a3_fresh : List UInt8} {a4_path : List (List UInt8)} (w_0 : (Ty.kd (.int .i64)).wf a0_m) (w_1 : (Ty.kd (.int .i64)).wf a1_n) (w_2 : (Ty.kd (.arr 32 .byte)).wf a2_old) (w_3 : (Ty.kd (.arr 32 .byte)).wf a3_fresh) (w_4 : (Ty.kd (.sl (.arr 32 .byte))).wf a4_path) : GrowTells_VC a0_m a1_n a2_old a3_fresh a4_path (fun o0 => o0 = true) := by
  unfold GrowTells_VC
  generalize hq : (([] : List (List UInt8)) ++ a4_path) = q
  have hq' : a4_path = q := hq
  subst hq'
  clear hq
  refine ⟨fun _ => rfl, fun h => ?_⟩
  have f1 : decide ((if extendsB a0_m a1_n a2_old a3_fresh a4_path = true then (0 : Int) else (10 : Int)) = (0 : Int)) = extendsB a0_m a1_n a2_old a3_fresh a4_path := by cases extendsB a0_m a1_n a2_old a3_fresh a4_path <;> rfl
  have f2 : ¬ (if extendsB a0_m a1_n a2_old a3_fresh a4_path = true then (0 : Int) else (10 : Int)) = (0 : Int) → (if extendsB a0_m a1_n a2_old a3_fresh a4_path = true then (0 : Int) else (10 : Int)) = (10 : Int) := by cases extendsB a0_m a1_n a2_old a3_fresh a4_path <;> decide
  have no : ∀ (c : a0_m < 0 ∨ a1_n < a0_m ∨ ¬ ((a4_path.length : Int) = stepsN a0_m.toNat a1_n.toNat)), bookCalls (extendsBk (some (([] : List Nt), (0 : Int))) a0_m a1_n a2_old a4_path) = (0 : Int) := fun c => by
    rw [extendsBk_no c]
    rfl
  have n1 : (([] : List (List UInt8)).length + a4_path.length) * (32 : Nat) ≤ (140737488355328 : Nat) := by simp only [List.length_nil]; omega
  have n2 : a4_path.length ≤ (65536 : Nat) := by omega
  have n3 : bookUpto (some (([] : List Nt), (0 : Int))) ((2 : Nat) * a4_path.length + (2 : Nat)) := fun y hy => by
    cases hy
    simp only [List.length_nil]
    omega
  repeat' first
    | with_reducible exact n1
    | with_reducible exact n2
    | with_reducible exact n3
    | with_reducible exact rfl
    | with_reducible exact absurd f1 (by assumption)
    | with_reducible exact absurd (f2 (by assumption)) (by assumption)
    | with_reducible exact absurd rfl (by assumption)
    | with_reducible exact absurd (no (.inl (by assumption))) (by assumption)
    | with_reducible exact absurd (no (.inr (.inl (by assumption)))) (by assumption)
    | with_reducible exact absurd (no (.inr (.inr (by assumption)))) (by assumption)
    | with_reducible exact Bool.noConfusion ((decide_eq_true (rfl : a4_path = a4_path)).symm.trans (by assumption))
    | with_reducible refine And.intro ?_ ?_
    | intro _
theorem GrowTells_eq : (∀ a, GrowTells_C.pre a → PM.wfP GrowTells_C.pm a (fvc GrowTells_X 200 15 GrowTells_C a (eqO GrowTells_C a))) = (∀ a : Int × Int × (List UInt8) × (List UInt8) × (List (List UInt8)) × Unit, True → (Ty.kd (.int .i64)).wf a.1 → (Ty.kd (.int .i64)).wf a.2.1 → (Ty.kd (.arr 32 .byte)).wf a.2.2.1 → (Ty.kd (.arr 32 .byte)).wf a.2.2.2.1 → (Ty.kd (.sl (.arr 32 .byte))).wf a.2.2.2.2.1 → GrowTells_VC a.1 a.2.1 a.2.2.1 a.2.2.2.1 a.2.2.2.2.1 (fun o0 => o0 = true)) := by kernel_rfl
theorem GrowTells_k : GrowTells_C.valid Try.prog 15 := ctr_of (X := GrowTells_X) (ok_of seat_ok (fun b hb => by cases hb; exact bkT_ok) fns_ok ⟨awake5_k, ExtendsN_k, Extends_k, RExtends_k, RSteps_k, CallsO_k, RSame_k, RSameR_k, trivial⟩) 200 (GrowTells_eq.mpr fun a hp w_0 w_1 w_2 w_3 w_4 => @GrowTells_ok a.1 a.2.1 a.2.2.1 a.2.2.2.1 a.2.2.2.2.1 w_0 w_1 w_2 w_3 w_4)
end Go.Proofs.Ytkffegaofdpkiaa

/-
  PLAIN 7: what the arguments of a statement are, told in the kinds of BASE: each argument that can be read is of its kind, over the ghost of the whole heap.
-/
set_option linter.unusedVariables false
namespace Go.Proofs.Ytkffegaofdpkiaa
open Go Go.RowKit Go.Inc Go.ChangeShapes Go.WideShapes Go.ChangeAt

theorem one_le {H : Type} (d : DataW H) : 1 ≤ Rows.uptoBulk d := by
  cases d with
  | lit l => cases l <;> simp [Rows.uptoBulk]
  | nil => simp [Rows.uptoBulk]
  | ptr d => simp [Rows.uptoBulk]
  | slice elems spare => simp [Rows.uptoBulk]
  | agg parts => simp [Rows.uptoBulk]
  | iface t d => simp [Rows.uptoBulk]
  | map entries => simp [Rows.uptoBulk]
  | held h => simp [Rows.uptoBulk]
theorem part_le {H : Type} {d : DataW H} {l : List (DataW H)} (h : d ∈ l) : Rows.uptoBulk d ≤ Rows.uptoBulkAll l := by
  induction l with
  | nil => cases h
  | cons x r ih =>
    simp only [Rows.uptoBulkAll]
    cases List.mem_cons.1 h with
    | inl e => subst e; omega
    | inr e => have := ih e; omega
theorem length_le {H : Type} (l : List (DataW H)) : l.length ≤ Rows.uptoBulkAll l := by
  induction l with
  | nil => simp [Rows.uptoBulkAll]
  | cons x r ih => have := one_le x; simp only [Rows.uptoBulkAll, List.length_cons]; omega
theorem small_of {H : Type} {l : List (DataW H)} (hk : Rows.uptoSmall H l = true) : Rows.uptoBulkAll l ≤ 1048576 := by
  simpa [Rows.uptoSmall] using hk

/-- the whole heap's rows, as they are -/
def GhostW (w : World) : Ghost := fun b => match w.heap[b]? with
  | some (.cells c t _) => some (t, c.toList)
  | _ => none
theorem Models.ofW (w : World) : Models w (GhostW w) := fun b t l h => by
  unfold GhostW at h
  split at h
  · rename_i c t' fr hh
    cases h
    exact ⟨c, fr, hh, List.prefix_refl _⟩
  · cases h
section
variable {P : Program} {α β : Type} {k : Kd α} {k' : Kd β} {t e : TypeId} {by_ : Nat} {S : α → Prop} {S' : β → Prop}
/-- so great a thing may be: every list has at most 1048576 members -/
def sm0 {α : Type} : α → Prop := fun _ => True
def smL {α : Type} (S : α → Prop) : List α → Prop := fun l => l.length ≤ 1048576 ∧ ∀ x ∈ l, S x
/-- Whatever can be read at type t, within the bound, is of kind k (and not too great). -/
def Rds (P : Program) (t : TypeId) (k : Kd α) (S : α → Prop) : Prop := ∀ (H : Type) (enc : TypeId × Value → H) (w : World) (base : Nat) (held : Bool) (fuel : Nat) (cs : List Value) (x : DataW H × List MemPlace),
  DataW.trod enc P w base (fun _ => true) held fuel t cs = some x → Rows.uptoBulk x.1 ≤ 1048576 → ∃ a, k.R (GhostW w) a cs ∧ S a
theorem cellsOf_ty (h : TyOk P t k by_) : P.cellsOf t = k.sz := by
  obtain ⟨i, z, hi, hs, _⟩ := h.info
  simp [Program.cellsOf, hi, hs]
theorem rds_int {ik : IntKind} (ht : P.underlying t = some (.int ik)) : Rds P t (Kd.int ik) sm0 := fun H enc w base held fuel cs x h hb => by
  obtain ⟨n, rfl, _, hw⟩ := DataW.trod_int ht h
  refine ⟨n, ⟨rfl, ?_⟩, trivial⟩
  simpa [Lit.wf] using hw
theorem rds_byte (ht : P.underlying t = some (.int .u8)) : Rds P t Kd.byte sm0 := fun H enc w base held fuel cs x h hb => by
  obtain ⟨n, rfl, _, hw⟩ := DataW.trod_int ht h
  have hw : 0 ≤ n ∧ n ≤ 255 := by simpa [Lit.wf, IntKind.min, IntKind.max, IntKind.signed, IntKind.bits] using hw
  refine ⟨UInt8.ofNat n.toNat, ?_, trivial⟩
  show [Value.int .u8 n] = [.int .u8 _]
  congr 2
  have : (UInt8.ofNat n.toNat).toNat = n.toNat := by simp; omega
  omega
/-- so many cells, one after another -/
theorem ghost_cells {w : World} {base n : Nat} {a : Addr} {cs : List Value} (h : w.cells? base a n = some cs) (hn : 0 < n) :
    a.spot = none ∧ ∃ e l, GhostW w a.block = some (e, l) ∧ a.off + n ≤ l.length ∧ (l.drop a.off).take n = cs := by
  unfold World.cells? at h
  split at h
  case isFalse => cases h
  case isTrue hb =>
  have hl := mapM_some_length h
  have hg := fun i (hi : i < n) => mapM_some_get h i i (by simp [hi])
  have h0 := hg 0 hn
  have hc0 : 0 < cs.length := by rw [hl]; simpa using hn
  rw [List.getElem?_eq_getElem hc0] at h0
  unfold World.cell? at h0
  have ea : ∀ i, (a.add i).block = a.block := fun i => by unfold Addr.add; split <;> rfl
  have eo : ∀ i, (a.add i).off = a.off + i := fun i => by unfold Addr.add; split <;> simp_all
  have ha0 : a.add 0 = a := by simp [Addr.add]
  rw [ha0] at h0
  cases hh : w.heap[a.block]? with
  | none => rw [hh] at h0; cases h0
  | some o =>
    rw [hh] at h0
    cases o with
    | cells c e fr =>
      simp only at h0
      split at h0
      · cases h0
      · rename_i hs
        have hs : a.spot = none := by simpa using hs
        refine ⟨hs, e, c.toList, by simp [GhostW, hh], ?_⟩
        have hgc : ∀ i, i < n → c[a.off + i]? = cs[i]? := fun i hi => by
          have := hg i hi
          unfold World.cell? at this
          rw [ea, eo, hh] at this
          have hs' : (a.add i).spot.isSome = false := by unfold Addr.add; split <;> simp_all
          simpa [hs'] using this
        have hlen : cs.length = n := by rw [hl]; simp
        have hbound : a.off + n ≤ c.toList.length := by
          have h1 := hgc (n - 1) (by omega)
          rw [List.getElem?_eq_getElem (by omega)] at h1
          have := (Array.getElem?_eq_some_iff.1 h1).1
          simp only [Array.length_toList]
          omega
        refine ⟨hbound, ?_⟩
        apply List.ext_getElem?
        intro i
        rcases Nat.lt_or_ge i n with hi | hi
        · rw [List.getElem?_take, if_pos hi, List.getElem?_drop, ← hgc i hi]
          simp
        · rw [List.getElem?_take, if_neg (by omega), List.getElem?_eq_none (by omega)]
    | _ => simp at h0
theorem RL_flat {R : α → List Value → Prop} : ∀ (n : Nat) (f : Nat → List Value), (∀ i, i < n → ∃ a, R a (f i) ∧ S a) → ∃ l, l.length = n ∧ RL R l ((List.range n).map f).flatten ∧ ∀ x ∈ l, S x
  | 0, f, _ => ⟨[], rfl, by simp [RL], by simp⟩
  | n + 1, f, h => by
    obtain ⟨l, hl, hR, hS⟩ := RL_flat n f (fun i hi => h i (by omega))
    obtain ⟨a, ha, hs⟩ := h n (by omega)
    refine ⟨l ++ [a], by simp [hl], ?_, fun x hx => (List.mem_append.1 hx).elim (hS x) (fun h => by rw [List.mem_singleton.1 h]; exact hs)⟩
    rw [List.range_succ]
    simp only [List.map_append, List.map_cons, List.map_nil, List.flatten_append, List.flatten_cons, List.flatten_nil, List.append_nil]
    exact RL.append hR (RL.single ha)
/-- a list cut into n parts of s each -/
theorem parts_flat (s : Nat) : ∀ (n : Nat) (l : List Value), n * s ≤ l.length → ((List.range n).map fun i => (l.drop (i * s)).take s).flatten = l.take (n * s)
  | 0, l, _ => by simp
  | n + 1, l, h => by
    have e : (n + 1) * s = n * s + s := Nat.succ_mul n s
    rw [List.range_succ]
    simp only [List.map_append, List.map_cons, List.map_nil, List.flatten_append, List.flatten_cons, List.flatten_nil, List.append_nil]
    rw [parts_flat s n l (by omega), e, List.take_add]
theorem rds_sl (ht : P.underlying t = some (.slice e)) (hT : TyOk P e k by_) (h0 : Nat.blt 0 k.sz = true) (hR : Rds P e k S) : Rds P t (Kd.sl k) (smL S) := fun H enc w base held fuel cs x h hb => by
  have h0 : 0 < k.sz := Nat.le_of_ble_eq_true h0
  rcases DataW.trod_slice ht h with ⟨rfl, rfl⟩ | ⟨a, len, cap, elems, rest, n, _, rfl, rfl, hbs, hl, hm, hlen, hel, _, _⟩
  · exact ⟨[], ⟨none, 0, rfl, by simp, by simp [LM], by simp, .inl rfl⟩, by simp, by simp⟩
  · rw [cellsOf_ty hT] at hel
    have hbulk : elems.length ≤ 1048576 := by
      have := length_le (elems.map (·.1))
      simp only [Rows.uptoBulk, List.length_map] at hb this
      omega
    have hparts : ∀ i, i < len → ∃ cs' y, w.cells? base (a.add (i * k.sz)) k.sz = some cs' ∧ DataW.trod enc P w base (fun _ => true) held n e cs' = some y ∧ Rows.uptoBulk y.1 ≤ 1048576 := fun i hi => by
      have h1 := hel i hi
      rw [List.getElem?_eq_getElem (by omega)] at h1
      obtain ⟨cs', h2, h3⟩ := Option.bind_eq_some_iff.1 h1
      refine ⟨cs', _, h2, h3, ?_⟩
      have := part_le (l := elems.map (·.1)) (d := (elems[i]'(by omega)).1) (List.mem_map.2 ⟨_, List.getElem_mem _, rfl⟩)
      simp only [Rows.uptoBulk] at hb
      omega
    rcases Nat.eq_zero_or_pos len with hz | hp
    · exact ⟨[], ⟨some a, cap, by simp [hz], by simp, by simp [LM], by simp, .inl rfl⟩, by simp, by simp⟩
    · obtain ⟨cs0, y0, hc0, _, _⟩ := hparts 0 hp
      rw [Nat.zero_mul, show a.add 0 = a by simp [Addr.add]] at hc0
      obtain ⟨hs, e', l, hg, _, _⟩ := ghost_cells hc0 h0
      have ea : a = ⟨a.block, a.off, none⟩ := by cases a; simp_all
      have key : ∀ i, i < len → a.off + i * k.sz + k.sz ≤ l.length ∧ w.cells? base (a.add (i * k.sz)) k.sz = some (((l.drop a.off).drop (i * k.sz)).take k.sz) := fun i hi => by
        obtain ⟨cs', y, hc, _, _⟩ := hparts i hi
        obtain ⟨_, e2, l2, hg2, hle, htk⟩ := ghost_cells hc h0
        rw [ea, add_lit] at hg2 hle htk
        simp only at hg2 hle htk
        rw [hg] at hg2
        cases hg2
        refine ⟨hle, ?_⟩
        rw [hc, List.drop_drop, ← htk]
      have hlast := (key (len - 1) (by omega)).1
      have hall : a.off + len * k.sz ≤ l.length := by
        have : len * k.sz = (len - 1) * k.sz + k.sz := by
          conv => lhs; rw [show len = (len - 1) + 1 by omega]
          exact Nat.succ_mul _ _
        omega
      obtain ⟨xs, hxl, hxR, hxS⟩ := RL_flat (S := S) (R := k.R (GhostW w)) len (fun i => ((l.drop a.off).drop (i * k.sz)).take k.sz) (fun i hi => by
        obtain ⟨cs', y, hc, ht', hb'⟩ := hparts i hi
        rw [(key i hi).2] at hc
        cases hc
        exact hR _ _ _ _ _ _ _ _ ht' hb')
      rw [parts_flat k.sz len (l.drop a.off) (by rw [List.length_drop]; omega)] at hxR
      refine ⟨xs, ⟨some a, cap, by rw [hxl], by omega, by simp only [LM]; omega, fun x hx => ?_, .inr ⟨a.block, e', l.take a.off, (l.drop a.off).take (len * k.sz), (l.drop a.off).drop (len * k.sz), ?_, ?_, hxR⟩⟩, by omega, hxS⟩
      · exact RL.all (p := k.wf) (fun _ _ => k.hwf) hxR x hx
      · rw [List.length_take, Nat.min_eq_left (by omega)]
        exact congrArg some ea
      · rw [hg, List.append_assoc, List.take_append_drop, List.take_append_drop]
theorem rds_arr {n by_' : Nat} (ht : P.underlying t = some (.array n e)) (hT : TyOk P e k by_) (hT' : TyOk P t (Kd.arr n k) by_') (hR : Rds P e k S) : Rds P t (Kd.arr n k) (smL S) := fun H enc w base held fuel cs x h hb => by
  obtain ⟨xs, m, _, rfl, hlen, hxl, hx⟩ := DataW.trod_array ht h
  rw [cellsOf_ty hT] at hx
  rw [cellsOf_ty hT'] at hlen
  have hlen : cs.length = n * k.sz := hlen
  obtain ⟨l, hl, hlR, hlS⟩ := RL_flat (S := S) (R := k.R (GhostW w)) n (fun i => (cs.drop (i * k.sz)).take k.sz) (fun i hi => by
    have h1 := hx i hi
    rw [List.getElem?_eq_getElem (by omega)] at h1
    refine hR _ _ _ _ _ _ _ _ h1 ?_
    have := part_le (l := xs.map (·.1)) (d := (xs[i]'(by omega)).1) (List.mem_map.2 ⟨_, List.getElem_mem _, rfl⟩)
    simp only [Rows.uptoBulk] at hb
    omega)
  rw [parts_flat k.sz n cs (by omega), List.take_of_length_le (by omega)] at hlR
  have hbulk : xs.length ≤ 1048576 := by
    have := length_le (xs.map (·.1))
    simp only [Rows.uptoBulk, List.length_map] at hb this
    omega
  exact ⟨l, ⟨hl, hlR⟩, by omega, hlS⟩
/-- an argument, opened -/
theorem open_arg {H : Type} {enc : TypeId × Value → H} {w : World} {r : Reach} {b0 base : Nat} {held : Bool} {v : Value} {d : DataW H} {ps : List MemPlace} (hR : Rds P t k S) (hT : TyOk P t k by_)
    (hval : Value.okWide P w r b0 t v) (h : DataW.Trod enc P w base (fun _ => true) held t v d ps) (hb : Rows.uptoBulk d ≤ 1048576) : ∃ a, k.V (GhostW w) a v ∧ S a := by
  obtain ⟨fuel, h⟩ := h
  obtain ⟨a, ha, haS⟩ := hR _ _ _ _ _ _ _ _ h hb
  refine ⟨a, ⟨v.cells.toList, ha, ?_⟩, haS⟩
  obtain ⟨dd, hd, hagg⟩ := hT.desc
  unfold Value.okWide at hval
  rw [hd] at hval
  cases hk : k.agg with
  | true =>
    rw [hk] at hagg
    have : ∃ cs, v = .agg cs := by
      cases dd <;> first | (cases hagg; done) | (obtain ⟨cs, rfl, _⟩ := hval; exact ⟨cs, rfl⟩)
    obtain ⟨cs, rfl⟩ := this
    simp [Value.cells]
  | false =>
    have hlen := k.len ha
    rw [k.hs hk] at hlen
    have hna : ∀ cs, v ≠ .agg cs := fun cs e => by
      subst e
      rw [hk] at hagg
      cases dd <;> first | (cases hagg; done) | (simp [Cell.okWide, hd, Cell.ok] at hval)
    cases v <;> first | rfl | exact absurd rfl (hna _)
end
section
variable {H : Type} {enc : TypeId × Value → H} {P : Program}
theorem below_of {w w' : World} {K K' : Ghost} (h : Ext NX w K w' K') : Below w.heap.size w w' := ⟨h.os, h.tape, h.output, h.size, fun b hb => h.heap b hb (fun x => x)⟩
theorem trodAll_same {W W' : World} {sp : Nat → Bool} (hl : laidOutB P = true) (hb : Below W.heap.size W W') : ∀ {ts : List TypeId} {vs : List Value} {ds : List (DataW H)} {ps : List MemPlace},
    (ts.all fun t => P.readableRec t && decide (t < P.types.size)) = true → DataW.TrodAll enc P W 0 (fun _ => true) true ts vs ds ps → (∀ p ∈ ps, p.block < W.heap.size) → (∀ p ∈ ps, sp p.block = true) → DataW.TrodAll enc P W' 0 sp true ts vs ds ps
  | [], [], [], ps, _, h, _, _ => h
  | t :: ts, v :: vs, d :: ds, ps, hr, ⟨p, q, h1, h2, e⟩, hlt, hs => by
    subst e
    simp only [List.all_cons, Bool.and_eq_true, decide_eq_true_eq] at hr
    exact ⟨p, q, WideElems.Trod_stays hl hr.1.1 hr.1.2 h1 (fun x hx => hb.same (hlt x (List.mem_append.2 (.inl hx)))) (fun x hx => hs x (List.mem_append.2 (.inl hx))),
      trodAll_same hl hb (ts := ts) hr.2 h2 (fun x hx => hlt x (List.mem_append.2 (.inr hx))) (fun x hx => hs x (List.mem_append.2 (.inr hx))), rfl⟩
  | [], _ :: _, _, _, _, h, _, _ => h.elim
  | [], [], _ :: _, _, _, h, _, _ => h.elim
  | _ :: _, [], _, _, _, h, _, _ => h.elim
  | _ :: _, _ :: _, [], _, _, h, _, _ => h.elim
/-- the end of a law's call: true, and all that was there is as it was -/
theorem post_true {f : Func} {s : ChangeSpec} {apart fresh handsOn again : Bool} {W W' : World} {args : Array Value} {ds gs : List (DataW H)} {before : List MemPlace} {tb : TypeId}
    (hW : DataW.Whole enc P f.params.toList s.vars apart W args.toList ds gs before) (hl : laidOutB P = true) (hr : (f.params.toList.all fun t => P.readableRec t && decide (t < P.types.size)) = true)
    (hrt : f.resultTypes = #[tb]) (htb : P.underlying tb = some .bool) (hs : s.vars = []) (hv : (s.fn H (ds ++ gs)).vars = []) (hres : (s.fn H (ds ++ gs)).results = [.lit (.bool true)]) (hargs : (s.fn H (ds ++ gs)).args = ds)
    (hb : Below W.heap.size W W') : s.post enc P f apart fresh handsOn again W args (.bool true) W' := by
  have hlt : ∀ p ∈ before, p.block < W.heap.size := fun p hp => hW.lt p hp
  have hW' := hW
  obtain ⟨p, q, hA, hV, e, hz, hn⟩ := hW'
  rw [hs] at hV
  have hq : q = [] ∧ gs = [] := by
    cases gs with
    | nil => exact ⟨hV, rfl⟩
    | cons g r => exact hV.elim
  obtain ⟨rfl, rfl⟩ := hq
  rw [List.append_nil] at e
  subst e
  have ht : ∀ (b : Nat) (sp : Nat → Bool) (hd : Bool), DataW.TrodAll enc P W' b sp hd f.resultTypes.toList ((Value.bool true).resultList f.resultTypes.size) (s.fn H (ds ++ [])).results [] := fun b sp hd => by
    rw [hres, hrt]
    exact ⟨[], [], shut_bool htb _, rfl, rfl⟩
  have ha : ∀ sp : Nat → Bool, (∀ p ∈ before, sp p.block = true) → DataW.TrodAll enc P W' 0 sp true f.params.toList args.toList (s.fn H (ds ++ [])).args before := fun sp hsp => by
    rw [hargs]
    exact trodAll_same hl hb hr hA hlt hsp
  have hvs : ∀ sp : Nat → Bool, DataW.TrodVars enc P W' sp s.vars (s.fn H (ds ++ [])).vars [] := fun sp => by
    rw [hs, hv]
    rfl
  have hold : ∀ p ∈ before, (fun b => decide (b < W.heap.size)) p.block = true := fun p hp => by simpa using hlt p hp
  refine ⟨ds, [], before, [], before, [], hW, ht _ _ _, ha _ hold, hvs _, World.keptBut_mono (fun p hp => ⟨hp, ?_⟩) (hb.frame (· ∈ before)), fun _ => ?_⟩
  · exact Or.inr (by simpa using hp)
  · refine ⟨?_, _, _, ([] ++ before) ++ [], ⟨[] ++ before, [], trodAll_append (ha _ (fun _ _ => rfl)) (ht _ _ _), hvs _, rfl, ?_, ?_⟩, ?_⟩
    · exact ok_one hrt rfl (okWide_bool_mk htb _)
    · intro b off hp
      have hin : MemPlace.cell b off ∈ before := by simpa using hp
      rw [hb.frozen (hlt _ hin)]
      exact hz b off hin
    · intro hap
      simpa using hn hap
    · intro p hp _
      simpa using hp
end
end Go.Proofs.Ytkffegaofdpkiaa
