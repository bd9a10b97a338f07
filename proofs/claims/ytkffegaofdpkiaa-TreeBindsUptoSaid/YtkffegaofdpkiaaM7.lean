/- S7, S8, P7. -/
import Derived.Test.YtkffegaofdpkiaaM6
import Derived.Test.YtkffegaofdpkiaaChecked
import Derived.Test.YtkffegaofdpkiaaRows
import Derived.Test.YtkffegaofdpkiaaM4
import Derived.WalkKit
import Derived.ProofKit
import Derived.OpenShut
import Derived.JoinedCond
import Derived.Carry
/- Each function that stands here: what it is asked and leaves (_C), its condition (_VC), that it holds (_ok), its contract (_c). -/
set_option linter.unusedVariables false
set_option maxRecDepth 100000
set_option maxHeartbeats 20000000
namespace Go.Proofs.Ytkffegaofdpkiaa
open Go Go.RowKit Go.Inc
noncomputable def RNode_C : Ctr := ⟨[.v (.arr 32 .byte), .v (.arr 32 .byte)], [.v (.arr 32 .byte)], none, fun a => (fun (a0_a : List UInt8) (a1_b : List UInt8) => (((sealOf 2 [a0_a, a1_b]), ()), (()))) a.1 a.2.1⟩
noncomputable def RNode_X : Fx := ⟨seat, some bkT, fns, [(47, ROf_C)], [], [], [(1, [0, 1, 2], [.o 0 2, .o 1 2, .o 2 1, .o 3 1, .o 4 1])]⟩
def RNode_VC (a0_a : List UInt8) (a1_b : List UInt8) (Q : (List UInt8) → Prop) : Prop :=
  (1 : Nat) + blobRoom (a0_a :: a1_b :: ([] : List (List UInt8))) ≤ (70368744177664 : Nat) ∧ ((Ty.arr (32 : Nat) Ty.byte).kd.wf (sealOf (2 : Int) (a0_a :: a1_b :: ([] : List (List UInt8)))) → Q (sealOf (2 : Int) (a0_a :: a1_b :: ([] : List (List UInt8)))))
theorem RNode_ok {a0_a : List UInt8} {a1_b : List UInt8} (w_0 : (Ty.kd (.arr 32 .byte)).wf a0_a) (w_1 : (Ty.kd (.arr 32 .byte)).wf a1_b) : RNode_VC a0_a a1_b (fun o0 => o0 = (sealOf 2 [a0_a, a1_b])) := by
  unfold RNode_VC
  have e := blobRoom32 (l := [a0_a, a1_b]) (fun x hx => by
    rcases List.mem_cons.1 hx with rfl | hx
    · exact w_0.1
    · rcases List.mem_cons.1 hx with rfl | hx
      · exact w_1.1
      · cases hx)
  exact ⟨by rw [e]; simp, fun _ => rfl⟩
theorem RNode_eq : (∀ a, RNode_C.pre a → PM.wfP RNode_C.pm a (fvc RNode_X 200 48 RNode_C a (eqO RNode_C a))) = (∀ a : (List UInt8) × (List UInt8) × Unit, True → (Ty.kd (.arr 32 .byte)).wf a.1 → (Ty.kd (.arr 32 .byte)).wf a.2.1 → RNode_VC a.1 a.2.1 (fun o0 => o0 = (sealOf 2 [(a.1), (a.2.1)]))) := by kernel_rfl
theorem RNode_k : RNode_C.valid Try.prog 48 := ctr_of (X := RNode_X) (ok_of seat_ok (fun b hb => by cases hb; exact bkT_ok) fns_ok ⟨ROf_k, trivial⟩) 200 (RNode_eq.mpr fun a hp w_0 w_1 => @RNode_ok a.1 a.2.1 w_0 w_1)
noncomputable def RHalf_C : Ctr := ⟨[.v (.int .i64)], [.v (.int .i64)], none, fun a => (fun (a0_n : Int) => ((((half a0_n.toNat : Nat) : Int), ()), (()))) a.1⟩
noncomputable def RHalf_X : Fx := ⟨seat, some bkT, fns, [], [], [], []⟩
def RHalf_VC (a0_n : Int) (Q : Int → Prop) : Prop :=
  ∃ (x0 : Int → Int → Prop), ∃ (x1 : Int → Int → Nat), x0 (0 : Int) (1 : Int) ∧ ∀ (x2 x3 : Int), x0 x2 x3 → (Kd.int IntKind.i64).wf x2 → (Kd.int IntKind.i64).wf x3 → (x3 < a0_n → (x2 < x3 → x0 x3 (IntKind.i64.wrap (x3 + x3)) ∧ x1 x3 (IntKind.i64.wrap (x3 + x3)) < x1 x2 x3) ∧ (¬x2 < x3 → Q x2)) ∧ (¬x3 < a0_n → Q x2)
theorem RHalf_ok {a0_n : Int} (w_0 : (Ty.kd (.int .i64)).wf a0_n) : RHalf_VC a0_n (fun o0 => o0 = ((half a0_n.toNat : Nat) : Int)) := by
  have hn1 : a0_n ≤ 9223372036854775807 := w_0.2
  unfold RHalf_VC
  refine ⟨fun h p => (h = 0 ∧ p = 1) ∨ ∃ j y : Nat, y = 2 ^ j ∧ h = (y : Int) ∧ (y : Int) < a0_n ∧ ((y ≤ 2305843009213693952 ∧ p = 2 * (y : Int)) ∨ (y = 4611686018427387904 ∧ p = -9223372036854775808)), fun h _ => (a0_n - h).toNat, .inl ⟨rfl, rfl⟩, ?_⟩
  rintro h p (⟨rfl, rfl⟩ | ⟨j, y, hy, rfl, hlt, hc⟩) _ _
  · refine ⟨fun h1 => ⟨fun _ => ⟨.inr ⟨0, 1, rfl, rfl, h1, .inl ⟨by omega, by decide⟩⟩, by show (a0_n - 1).toNat < (a0_n - 0).toNat; omega⟩, fun h2 => absurd (by omega) h2⟩, fun h1 => ?_⟩
    show (0 : Int) = ((half a0_n.toNat : Nat) : Int)
    rw [half_small (by omega)]
    rfl
  · have hy1 : 1 ≤ y := by rw [hy]; exact Nat.one_le_two_pow
    rcases hc with ⟨h6, rfl⟩ | ⟨h6, rfl⟩
    · have hj : j ≤ 61 := by
        rcases Nat.lt_or_ge 61 j with h | h
        · have := Nat.pow_le_pow_right (n := 2) (by omega) (show 62 ≤ j from h)
          omega
        · exact h
      refine ⟨fun h1 => ⟨fun _ => ⟨.inr ⟨j + 1, 2 * y, by rw [hy, Nat.pow_succ]; omega, by omega, by omega, ?_⟩, by show (a0_n - 2 * (y : Int)).toNat < (a0_n - (y : Int)).toNat; omega⟩, fun h2 => absurd (by omega) h2⟩, fun h1 => ?_⟩
      · by_cases h61 : j = 61
        · subst h61
          have hv : y = 2305843009213693952 := hy
          subst hv
          exact .inr ⟨rfl, by decide⟩
        · have := Nat.pow_le_pow_right (n := 2) (by omega) (show j ≤ 60 by omega)
          have hv : y ≤ 1152921504606846976 := by rw [hy]; exact this
          refine .inl ⟨by omega, ?_⟩
          rw [wrap_id (wf64 (by omega) (by omega))]
          omega
      · have := half_of (n := a0_n.toNat) (j := j) (by rw [← hy]; omega) (by rw [Nat.pow_succ, ← hy]; omega)
        show (y : Int) = ((half a0_n.toNat : Nat) : Int)
        rw [this, ← hy]
    · refine ⟨fun h1 => ⟨fun h2 => absurd h2 (by omega), fun _ => ?_⟩, fun h1 => absurd (by omega) h1⟩
      have hj1 : j < 63 := (Nat.pow_lt_pow_iff_right (a := 2) (by omega)).1 (by rw [← hy, h6]; decide)
      have := half_of (n := a0_n.toNat) (j := j) (by rw [← hy]; omega) (by rw [Nat.pow_succ, ← hy]; omega)
      show (y : Int) = ((half a0_n.toNat : Nat) : Int)
      rw [this, ← hy]
theorem RHalf_eq : (∀ a, RHalf_C.pre a → PM.wfP RHalf_C.pm a (fvc RHalf_X 200 22 RHalf_C a (eqO RHalf_C a))) = (∀ a : Int × Unit, True → (Ty.kd (.int .i64)).wf a.1 → RHalf_VC a.1 (fun o0 => o0 = ((half (a.1).toNat : Nat) : Int))) := by kernel_rfl
theorem RHalf_k : RHalf_C.valid Try.prog 22 := ctr_of (X := RHalf_X) (ok_of seat_ok (fun b hb => by cases hb; exact bkT_ok) fns_ok trivial) 200 (RHalf_eq.mpr fun a hp w_0 => @RHalf_ok a.1 w_0)
noncomputable def RRoot_C : Ctr := ⟨[.v (.sl (.arr 32 .byte))], [.v (.arr 32 .byte)], some (fun a => (fun (a0_l : List (List UInt8)) => (a0_l.length ≤ 1048576 : Prop)) a.1), fun a => (fun (a0_l : List (List UInt8)) => (((rootS a0_l), ()), (()))) a.1⟩
noncomputable def RRoot_Cn (nn : Nat) : Ctr := ⟨[.v (.sl (.arr 32 .byte))], [.v (.arr 32 .byte)], some (fun a => (fun (a0_l : List (List UInt8)) => ((a0_l.length ≤ 1048576) ∧ a0_l.length < nn : Prop)) a.1), fun a => (fun (a0_l : List (List UInt8)) => (((rootS a0_l), ()), (()))) a.1⟩
noncomputable def RRoot_X (nn : Nat) : Fx := ⟨seat, some bkT, fns, [(27, RRoot_Cn nn), (47, ROf_C), (22, RHalf_C), (48, RNode_C)], [], [], [(6, [0, 1, 2, 3, 4, 5, 6, 7, 8, 9, 10, 11, 12], [.o 0 2, .o 1 2, .o 2 2, .o 4 2, .o 5 2, .o 6 2, .o 3 0, .o 7 0, .o 8 0, .o 9 1])]⟩
def RRoot_VC (nn : Nat) (a0_l : List (List UInt8)) (Q : (List UInt8) → Prop) : Prop :=
  ((a0_l.length : Int) = (0 : Int) → (1 : Nat) + blobRoom ([] : List (List UInt8)) ≤ (70368744177664 : Nat) ∧ ((Ty.arr (32 : Nat) Ty.byte).kd.wf (sealOf (2 : Int) ([] : List (List UInt8))) → Q (sealOf (2 : Int) ([] : List (List UInt8))))) ∧ (¬(a0_l.length : Int) = (0 : Int) → ((a0_l.length : Int) = (1 : Int) → ((0 : Int) ≤ (0 : Int) ∧ (0 : Int) < (a0_l.length : Int)) ∧ Q (ix a0_l (0 : Int))) ∧ (¬(a0_l.length : Int) = (1 : Int) → (Ty.int IntKind.i64).kd.wf (half (a0_l.length : Int).toNat : Int) → ((0 : Int) ≤ (half (a0_l.length : Int).toNat : Int) ∧ (half (a0_l.length : Int).toNat : Int) ≤ (a0_l.length : Int)) ∧ ((0 : Int) ≤ (half (a0_l.length : Int).toNat : Int) ∧ (half (a0_l.length : Int).toNat : Int) ≤ (a0_l.length : Int)) ∧ ((List.take (half (a0_l.length : Int).toNat : Int).toNat a0_l).length ≤ (1048576 : Nat) ∧ (List.take (half (a0_l.length : Int).toNat : Int).toNat a0_l).length < nn) ∧ ((Ty.arr (32 : Nat) Ty.byte).kd.wf (rootS (List.take (half (a0_l.length : Int).toNat : Int).toNat a0_l)) → ((List.drop (half (a0_l.length : Int).toNat : Int).toNat a0_l).length ≤ (1048576 : Nat) ∧ (List.drop (half (a0_l.length : Int).toNat : Int).toNat a0_l).length < nn) ∧ ((Ty.arr (32 : Nat) Ty.byte).kd.wf (rootS (List.drop (half (a0_l.length : Int).toNat : Int).toNat a0_l)) → (Ty.arr (32 : Nat) Ty.byte).kd.wf (sealOf (2 : Int) (rootS (List.take (half (a0_l.length : Int).toNat : Int).toNat a0_l) :: rootS (List.drop (half (a0_l.length : Int).toNat : Int).toNat a0_l) :: ([] : List (List UInt8)))) → Q (sealOf (2 : Int) (rootS (List.take (half (a0_l.length : Int).toNat : Int).toNat a0_l) :: rootS (List.drop (half (a0_l.length : Int).toNat : Int).toNat a0_l) :: ([] : List (List UInt8))))))))
theorem RRoot_ok {nn : Nat} {a0_l : List (List UInt8)} (w_0 : (Ty.kd (.sl (.arr 32 .byte))).wf a0_l) (hp : (a0_l.length ≤ 1048576) ∧ a0_l.length < nn + 1) : RRoot_VC nn a0_l (fun o0 => o0 = (rootS a0_l)) := by
  unfold RRoot_VC
  simp only [Int.toNat_natCast]
  refine ⟨fun h => ⟨by simp [blobRoom], fun _ => ?_⟩, fun h => ⟨fun h1 => ⟨⟨by omega, by omega⟩, ?_⟩, fun h1 _ => ?_⟩⟩
  · have e : a0_l = [] := List.length_eq_zero_iff.1 (by omega)
    subst e
    rw [rootS_nil]
  · obtain ⟨x, rfl⟩ := List.length_eq_one_iff.1 (by omega : a0_l.length = 1)
    rw [rootS_one]
    rfl
  · have b2 : 2 ≤ a0_l.length := by omega
    have a1 := half_pos b2
    have a2 := half_lt b2
    have hp1 := hp.1
    have hp2 := hp.2
    have l1 : (a0_l.take (half a0_l.length)).length = half a0_l.length := by rw [List.length_take]; omega
    have l2 : (a0_l.drop (half a0_l.length)).length = a0_l.length - half a0_l.length := List.length_drop
    refine ⟨⟨by omega, by omega⟩, ⟨by omega, by omega⟩, ⟨by omega, by omega⟩, fun _ => ⟨⟨by omega, by omega⟩, fun _ _ => ?_⟩⟩
    rw [rootS_two b2]
theorem RRoot_eq (nn : Nat) : (∀ a, (RRoot_Cn (nn + 1)).pre a → PM.wfP (RRoot_Cn (nn + 1)).pm a (fvc (RRoot_X nn) 200 27 (RRoot_Cn (nn + 1)) a (eqO (RRoot_Cn (nn + 1)) a))) = (∀ a : (List (List UInt8)) × Unit, (((a.1).length ≤ 1048576) ∧ (a.1).length < nn + 1) → (Ty.kd (.sl (.arr 32 .byte))).wf a.1 → RRoot_VC nn a.1 (fun o0 => o0 = (rootS (a.1)))) := by kernel_rfl
theorem RRoot_kn : ∀ nn, (RRoot_Cn nn).valid Try.prog 27
  | 0 => fun a hp => absurd (And.right hp) (Nat.not_lt_zero _)
  | nn + 1 => ctr_of (X := RRoot_X nn) (ok_of seat_ok (fun b hb => by cases hb; exact bkT_ok) fns_ok ⟨RRoot_kn nn, ROf_k, RHalf_k, RNode_k, trivial⟩) 200 ((RRoot_eq nn).mpr fun a hp w_0 => @RRoot_ok nn a.1 w_0 hp)
theorem RRoot_k : RRoot_C.valid Try.prog 27 := valid_rec RRoot_kn (fun a hp => ⟨_, And.intro hp (Nat.lt_succ_self _)⟩)
noncomputable def RSame_C : Ctr := ⟨[.v (.sl (.arr 32 .byte)), .v (.sl (.arr 32 .byte))], [.v .bool], none, fun a => (fun (a0_a : List (List UInt8)) (a1_b : List (List UInt8)) => ((decide (a0_a = a1_b), ()), (()))) a.1 a.2.1⟩
noncomputable def RSame_X : Fx := ⟨seat, some bkT, fns, [], [], [], [(6, [], [.o 0 2, .o 1 2, .o 2 2, .o 3 2, .o 4 2, .o 5 2, .o 6 2, .o 7 2, .o 8 2])]⟩
def RSame_VC (a0_a : List (List UInt8)) (a1_b : List (List UInt8)) (Q : Bool → Prop) : Prop :=
  ((a0_a.length : Int) ≠ (a1_b.length : Int) → Q false) ∧ (¬(a0_a.length : Int) ≠ (a1_b.length : Int) → ∃ (x0 : Bool → Int → Prop), ∃ (x1 : Bool → Int → Nat), x0 false (0 : Int) ∧ ∀ (x2 : Bool) (x3 : Int), x0 x2 x3 → (Kd.int IntKind.i64).wf x3 → (x3 < (a0_a.length : Int) → ((0 : Int) ≤ x3 ∧ x3 < (a0_a.length : Int)) ∧ ((0 : Int) ≤ x3 ∧ x3 < (a1_b.length : Int)) ∧ (ix a0_a x3 ≠ ix a1_b x3 → Q false) ∧ (¬ix a0_a x3 ≠ ix a1_b x3 → x3 < (9223372036854775807 : Int) ∧ x0 x2 (x3 + (1 : Int)) ∧ x1 x2 (x3 + (1 : Int)) < x1 x2 x3)) ∧ (¬x3 < (a0_a.length : Int) → Q true))
theorem RSame_ok {a0_a : List (List UInt8)} {a1_b : List (List UInt8)} (w_0 : (Ty.kd (.sl (.arr 32 .byte))).wf a0_a) (w_1 : (Ty.kd (.sl (.arr 32 .byte))).wf a1_b) : RSame_VC a0_a a1_b (fun o0 => o0 = decide (a0_a = a1_b)) := by
  unfold RSame_VC
  refine ⟨fun h => ?_, fun h => ?_⟩
  · show false = decide (a0_a = a1_b)
    rw [decide_eq_false (fun e => h (by rw [e]))]
  · have hl : a0_a.length = a1_b.length := by omega
    have hL : a0_a.length ≤ 281474976710656 := w_0.1
    refine ⟨fun _ i => ∃ j : Nat, i = (j : Int) ∧ j ≤ a0_a.length ∧ a0_a.take j = a1_b.take j, fun _ i => a0_a.length - i.toNat, ⟨0, rfl, by omega, rfl⟩, ?_⟩
    rintro r i ⟨j, rfl, hj, ht⟩ _
    refine ⟨fun hlt => ⟨⟨by omega, hlt⟩, ⟨by omega, by omega⟩, fun hne => ?_, fun he => ⟨by omega, ⟨j + 1, by omega, by omega, same_step (by omega) (by omega) ht (Classical.not_not.1 he)⟩, by show a0_a.length - ((j : Int) + 1).toNat < a0_a.length - (j : Int).toNat; omega⟩⟩, fun hge => ?_⟩
    · show false = decide (a0_a = a1_b)
      rw [decide_eq_false (fun e => hne (by rw [e]))]
    · have e : a0_a = a1_b := by
        rw [List.take_of_length_le (by omega), List.take_of_length_le (by omega)] at ht
        exact ht
      show true = decide (a0_a = a1_b)
      rw [decide_eq_true e]
theorem RSame_eq : (∀ a, RSame_C.pre a → PM.wfP RSame_C.pm a (fvc RSame_X 200 19 RSame_C a (eqO RSame_C a))) = (∀ a : (List (List UInt8)) × (List (List UInt8)) × Unit, True → (Ty.kd (.sl (.arr 32 .byte))).wf a.1 → (Ty.kd (.sl (.arr 32 .byte))).wf a.2.1 → RSame_VC a.1 a.2.1 (fun o0 => o0 = decide ((a.1) = (a.2.1)))) := by kernel_rfl
theorem RSame_k : RSame_C.valid Try.prog 19 := ctr_of (X := RSame_X) (ok_of seat_ok (fun b hb => by cases hb; exact bkT_ok) fns_ok trivial) 200 (RSame_eq.mpr fun a hp w_0 w_1 => @RSame_ok a.1 a.2.1 w_0 w_1)
noncomputable def RSameR_C : Ctr := ⟨[.rw 31 (.arr 32 .byte) false, .v (.sl (.arr 32 .byte))], [.v .bool], none, fun a => (fun (a0_a : List (List UInt8)) (a1_b : List (List UInt8)) => ((decide (a0_a = a1_b), ()), (()))) a.1 a.2.1⟩
noncomputable def RSameR_X : Fx := ⟨seat, some bkT, fns, [], [], [], [(6, [], [.o 0 2, .o 1 2, .o 2 2, .o 3 2, .o 4 2, .o 5 2, .o 6 2, .o 7 2, .o 8 2])]⟩
def RSameR_VC (a0_a : List (List UInt8)) (a1_b : List (List UInt8)) (Q : Bool → Prop) : Prop :=
  ((a0_a.length : Int) ≠ (a1_b.length : Int) → Q false) ∧ (¬(a0_a.length : Int) ≠ (a1_b.length : Int) → ∃ (x0 : Bool → Int → Prop), ∃ (x1 : Bool → Int → Nat), x0 false (0 : Int) ∧ ∀ (x2 : Bool) (x3 : Int), x0 x2 x3 → (Kd.int IntKind.i64).wf x3 → (x3 < (a0_a.length : Int) → ((0 : Int) ≤ x3 ∧ x3 < (a0_a.length : Int)) ∧ ((0 : Int) ≤ x3 ∧ x3 < (a1_b.length : Int)) ∧ (ix a0_a x3 ≠ ix a1_b x3 → Q false) ∧ (¬ix a0_a x3 ≠ ix a1_b x3 → x3 < (9223372036854775807 : Int) ∧ x0 x2 (x3 + (1 : Int)) ∧ x1 x2 (x3 + (1 : Int)) < x1 x2 x3)) ∧ (¬x3 < (a0_a.length : Int) → Q true))
theorem RSameR_ok {a0_a : List (List UInt8)} {a1_b : List (List UInt8)} (w_0 : (Ty.kd (.sl (.arr 32 .byte))).wf a0_a) (w_1 : (Ty.kd (.sl (.arr 32 .byte))).wf a1_b) : RSameR_VC a0_a a1_b (fun o0 => o0 = decide (a0_a = a1_b)) := by
  unfold RSameR_VC
  refine ⟨fun h => ?_, fun h => ?_⟩
  · show false = decide (a0_a = a1_b)
    rw [decide_eq_false (fun e => h (by rw [e]))]
  · have hl : a0_a.length = a1_b.length := by omega
    have hL : a0_a.length ≤ 281474976710656 := w_0.1
    refine ⟨fun _ i => ∃ j : Nat, i = (j : Int) ∧ j ≤ a0_a.length ∧ a0_a.take j = a1_b.take j, fun _ i => a0_a.length - i.toNat, ⟨0, rfl, by omega, rfl⟩, ?_⟩
    rintro r i ⟨j, rfl, hj, ht⟩ _
    refine ⟨fun hlt => ⟨⟨by omega, hlt⟩, ⟨by omega, by omega⟩, fun hne => ?_, fun he => ⟨by omega, ⟨j + 1, by omega, by omega, same_step (by omega) (by omega) ht (Classical.not_not.1 he)⟩, by show a0_a.length - ((j : Int) + 1).toNat < a0_a.length - (j : Int).toNat; omega⟩⟩, fun hge => ?_⟩
    · show false = decide (a0_a = a1_b)
      rw [decide_eq_false (fun e => hne (by rw [e]))]
    · have e : a0_a = a1_b := by
        rw [List.take_of_length_le (by omega), List.take_of_length_le (by omega)] at ht
        exact ht
      show true = decide (a0_a = a1_b)
      rw [decide_eq_true e]
theorem RSameR_eq : (∀ a, RSameR_C.pre a → PM.wfP RSameR_C.pm a (fvc RSameR_X 200 19 RSameR_C a (eqO RSameR_C a))) = (∀ a : (List (List UInt8)) × (List (List UInt8)) × Unit, True → (Ty.kd (.sl (.arr 32 .byte))).wf a.1 → (Ty.kd (.sl (.arr 32 .byte))).wf a.2.1 → RSameR_VC a.1 a.2.1 (fun o0 => o0 = decide ((a.1) = (a.2.1)))) := by kernel_rfl
theorem RSameR_k : RSameR_C.valid Try.prog 19 := ctr_of (X := RSameR_X) (ok_of seat_ok (fun b hb => by cases hb; exact bkT_ok) fns_ok trivial) 200 (RSameR_eq.mpr fun a hp w_0 w_1 => @RSameR_ok a.1 a.2.1 w_0 w_1)
noncomputable def RThere_C : Ctr := ⟨[.v (.int .i64), .v (.int .i64)], [.v .bool], none, fun a => (fun (a0_n : Int) (a1_at : Int) => ((decide (0 ≤ a1_at ∧ a1_at < a0_n), ()), (()))) a.1 a.2.1⟩
noncomputable def RThere_X : Fx := ⟨seat, some bkT, fns, [], [], [], []⟩
def RThere_VC (a0_n : Int) (a1_at : Int) (Q : Bool → Prop) : Prop :=
  ((-1 : Int) < a1_at → Q (decide (a1_at < a0_n))) ∧ (¬(-1 : Int) < a1_at → Q false)
theorem RThere_ok {a0_n : Int} {a1_at : Int} (w_0 : (Ty.kd (.int .i64)).wf a0_n) (w_1 : (Ty.kd (.int .i64)).wf a1_at) : RThere_VC a0_n a1_at (fun o0 => o0 = decide (0 ≤ a1_at ∧ a1_at < a0_n)) := by
  have hn1 : a1_at ≤ 9223372036854775807 := w_1.2
  unfold RThere_VC
  refine ⟨fun h => ?_, fun h => ?_⟩
  · show decide (a1_at < a0_n) = decide ((0 : Int) ≤ a1_at ∧ a1_at < a0_n)
    exact decide_eq_decide.2 ⟨fun h2 => ⟨by omega, h2⟩, fun h2 => h2.2⟩
  · show false = decide ((0 : Int) ≤ a1_at ∧ a1_at < a0_n)
    exact (decide_eq_false fun h2 => h (by omega)).symm
theorem RThere_eq : (∀ a, RThere_C.pre a → PM.wfP RThere_C.pm a (fvc RThere_X 200 44 RThere_C a (eqO RThere_C a))) = (∀ a : Int × Int × Unit, True → (Ty.kd (.int .i64)).wf a.1 → (Ty.kd (.int .i64)).wf a.2.1 → RThere_VC a.1 a.2.1 (fun o0 => o0 = decide (0 ≤ (a.2.1) ∧ (a.2.1) < (a.1)))) := by kernel_rfl
theorem RThere_k : RThere_C.valid Try.prog 44 := ctr_of (X := RThere_X) (ok_of seat_ok (fun b hb => by cases hb; exact bkT_ok) fns_ok trivial) 200 (RThere_eq.mpr fun a hp w_0 w_1 => @RThere_ok a.1 a.2.1 w_0 w_1)
noncomputable def RDepth_C : Ctr := ⟨[.v (.int .i64), .v (.int .i64)], [.v (.int .i64)], none, fun a => (fun (a0_n : Int) (a1_at : Int) => (((depthN a0_n a1_at), ()), (()))) a.1 a.2.1⟩
noncomputable def RDepth_Cn (nn : Nat) : Ctr := ⟨[.v (.int .i64), .v (.int .i64)], [.v (.int .i64)], some (fun a => (fun (a0_n : Int) (a1_at : Int) => ((True) ∧ a0_n.toNat < nn : Prop)) a.1 a.2.1), fun a => (fun (a0_n : Int) (a1_at : Int) => (((depthN a0_n a1_at), ()), (()))) a.1 a.2.1⟩
noncomputable def RDepth_X (nn : Nat) : Fx := ⟨seat, some bkT, fns, [(24, RDepth_Cn nn), (44, RThere_C), (22, RHalf_C)], [], [], []⟩
def RDepth_VC (nn : Nat) (a0_n : Int) (a1_at : Int) (Q : Int → Prop) : Prop :=
  (¬decide ((0 : Int) ≤ a1_at ∧ a1_at < a0_n) = true → Q (0 : Int)) ∧ (decide ((0 : Int) ≤ a1_at ∧ a1_at < a0_n) = true → (a0_n = (1 : Int) → Q (0 : Int)) ∧ (¬a0_n = (1 : Int) → (Ty.int IntKind.i64).kd.wf (half a0_n.toNat : Int) → (a1_at < (half a0_n.toNat : Int) → (True ∧ (half a0_n.toNat : Int).toNat < nn) ∧ ((Ty.int IntKind.i64).kd.wf (depthN (half a0_n.toNat : Int) a1_at) → Q (IntKind.i64.wrap ((1 : Int) + depthN (half a0_n.toNat : Int) a1_at)))) ∧ (¬a1_at < (half a0_n.toNat : Int) → (True ∧ (IntKind.i64.wrap (a0_n - (half a0_n.toNat : Int))).toNat < nn) ∧ ((Ty.int IntKind.i64).kd.wf (depthN (IntKind.i64.wrap (a0_n - (half a0_n.toNat : Int))) (IntKind.i64.wrap (a1_at - (half a0_n.toNat : Int)))) → Q (IntKind.i64.wrap ((1 : Int) + depthN (IntKind.i64.wrap (a0_n - (half a0_n.toNat : Int))) (IntKind.i64.wrap (a1_at - (half a0_n.toNat : Int)))))))))
theorem RDepth_ok {nn : Nat} {a0_n : Int} {a1_at : Int} (w_0 : (Ty.kd (.int .i64)).wf a0_n) (w_1 : (Ty.kd (.int .i64)).wf a1_at) (hp : (True) ∧ a0_n.toNat < nn + 1) : RDepth_VC nn a0_n a1_at (fun o0 => o0 = (depthN a0_n a1_at)) := by
  have hn1 : a0_n ≤ 9223372036854775807 := w_0.2
  have hp2 := hp.2
  unfold RDepth_VC
  refine ⟨fun h => ?_, fun h => ⟨fun h1 => ?_, fun h1 _ => ?_⟩⟩
  · have h' : ¬ ((0 : Int) ≤ a1_at ∧ a1_at < a0_n) := fun hh => h (decide_eq_true hh)
    show (0 : Int) = depthN a0_n a1_at
    rw [depthN, if_neg h']
  · have h' := of_decide_eq_true h
    show (0 : Int) = depthN a0_n a1_at
    rw [depthN, if_pos h', sidesN_end (by omega)]
    rfl
  · have h' := of_decide_eq_true h
    have a1 := half_pos (n := a0_n.toNat) (by omega)
    have a2 := half_lt (n := a0_n.toNat) (by omega)
    refine ⟨fun hlt => ⟨⟨trivial, by omega⟩, fun _ => ?_⟩, fun hge => ?_⟩
    · have hd := depthN_le (n := ((half a0_n.toNat : Nat) : Int)) (a := a1_at) (by omega)
      show IntKind.i64.wrap _ = depthN a0_n a1_at
      rw [wrap_id (wf64 (by omega) (by omega)), depthN_left (by omega) h'.1 hlt]
    · have e1 : IntKind.i64.wrap (a0_n - ((half a0_n.toNat : Nat) : Int)) = a0_n - ((half a0_n.toNat : Nat) : Int) := wrap_id (wf64 (by omega) (by omega))
      have e2 : IntKind.i64.wrap (a1_at - ((half a0_n.toNat : Nat) : Int)) = a1_at - ((half a0_n.toNat : Nat) : Int) := wrap_id (wf64 (by omega) (by omega))
      rw [e1, e2]
      refine ⟨⟨trivial, by omega⟩, fun _ => ?_⟩
      have hd := depthN_le (n := a0_n - ((half a0_n.toNat : Nat) : Int)) (a := a1_at - ((half a0_n.toNat : Nat) : Int)) (by omega)
      show IntKind.i64.wrap _ = depthN a0_n a1_at
      rw [wrap_id (wf64 (by omega) (by omega)), depthN_right (by omega) h'.2 (by omega)]
theorem RDepth_eq (nn : Nat) : (∀ a, (RDepth_Cn (nn + 1)).pre a → PM.wfP (RDepth_Cn (nn + 1)).pm a (fvc (RDepth_X nn) 200 24 (RDepth_Cn (nn + 1)) a (eqO (RDepth_Cn (nn + 1)) a))) = (∀ a : Int × Int × Unit, ((True) ∧ (a.1).toNat < nn + 1) → (Ty.kd (.int .i64)).wf a.1 → (Ty.kd (.int .i64)).wf a.2.1 → RDepth_VC nn a.1 a.2.1 (fun o0 => o0 = (depthN (a.1) (a.2.1)))) := by kernel_rfl
theorem RDepth_kn : ∀ nn, (RDepth_Cn nn).valid Try.prog 24
  | 0 => fun a hp => absurd (And.right hp) (Nat.not_lt_zero _)
  | nn + 1 => ctr_of (X := RDepth_X nn) (ok_of seat_ok (fun b hb => by cases hb; exact bkT_ok) fns_ok ⟨RDepth_kn nn, RThere_k, RHalf_k, trivial⟩) 200 ((RDepth_eq nn).mpr fun a hp w_0 w_1 => @RDepth_ok nn a.1 a.2.1 w_0 w_1 hp)
theorem RDepth_k : RDepth_C.valid Try.prog 24 := valid_rec RDepth_kn (fun a hp => ⟨_, And.intro hp (Nat.lt_succ_self _)⟩)
noncomputable def RPath_C : Ctr := ⟨[.v (.sl (.arr 32 .byte)), .v (.int .i64)], [.ow 31 (.arr 32 .byte)], some (fun a => (fun (a0_l : List (List UInt8)) (a1_at : Int) => (a0_l.length ≤ 1048576 : Prop)) a.1 a.2.1), fun a => (fun (a0_l : List (List UInt8)) (a1_at : Int) => (((pathN a0_l a1_at), ()), (()))) a.1 a.2.1⟩
noncomputable def RPath_Cn (nn : Nat) : Ctr := ⟨[.v (.sl (.arr 32 .byte)), .v (.int .i64)], [.ow 31 (.arr 32 .byte)], some (fun a => (fun (a0_l : List (List UInt8)) (a1_at : Int) => ((a0_l.length ≤ 1048576) ∧ a0_l.length < nn : Prop)) a.1 a.2.1), fun a => (fun (a0_l : List (List UInt8)) (a1_at : Int) => (((pathN a0_l a1_at), ()), (()))) a.1 a.2.1⟩
noncomputable def RPath_X (nn : Nat) : Fx := ⟨seat, some bkT, fns, [(20, RPath_Cn nn), (44, RThere_C), (22, RHalf_C), (27, RRoot_C)], [], [], [(5, [], [.o 0 2, .o 1 2, .o 2 2, .o 3 2, .o 5 2, .o 6 2, .o 7 2, .o 4 0, .o 8 0, .o 9 0, .o 10 1, .o 11 3]), (6, [], [.o 0 2, .o 1 2, .o 2 2, .o 3 2, .o 4 2, .o 5 2, .o 7 2, .o 8 2, .o 9 2, .o 6 0, .o 10 0, .o 11 0, .o 12 1, .o 13 3])]⟩
def RPath_VC (nn : Nat) (a0_l : List (List UInt8)) (a1_at : Int) (Q : (List (List UInt8)) → Prop) : Prop :=
  (¬decide ((0 : Int) ≤ a1_at ∧ a1_at < (a0_l.length : Int)) = true → Q ([] : List (List UInt8))) ∧ (decide ((0 : Int) ≤ a1_at ∧ a1_at < (a0_l.length : Int)) = true → ((a0_l.length : Int) = (1 : Int) → Q ([] : List (List UInt8))) ∧ (¬(a0_l.length : Int) = (1 : Int) → (Ty.int IntKind.i64).kd.wf (half (a0_l.length : Int).toNat : Int) → (a1_at < (half (a0_l.length : Int).toNat : Int) → ((0 : Int) ≤ (half (a0_l.length : Int).toNat : Int) ∧ (half (a0_l.length : Int).toNat : Int) ≤ (a0_l.length : Int)) ∧ ((0 : Int) ≤ (half (a0_l.length : Int).toNat : Int) ∧ (half (a0_l.length : Int).toNat : Int) ≤ (a0_l.length : Int)) ∧ ((List.take (half (a0_l.length : Int).toNat : Int).toNat a0_l).length ≤ (1048576 : Nat) ∧ (List.take (half (a0_l.length : Int).toNat : Int).toNat a0_l).length < nn) ∧ ((Ty.arr (32 : Nat) Ty.byte).kd.sl.wf (pathN (List.take (half (a0_l.length : Int).toNat : Int).toNat a0_l) a1_at) → (List.drop (half (a0_l.length : Int).toNat : Int).toNat a0_l).length ≤ (1048576 : Nat) ∧ ((Ty.arr (32 : Nat) Ty.byte).kd.wf (rootS (List.drop (half (a0_l.length : Int).toNat : Int).toNat a0_l)) → ((pathN (List.take (half (a0_l.length : Int).toNat : Int).toNat a0_l) a1_at).length + (rootS (List.drop (half (a0_l.length : Int).toNat : Int).toNat a0_l) :: ([] : List (List UInt8))).length) * (32 : Nat) ≤ (140737488355328 : Nat) ∧ Q (pathN (List.take (half (a0_l.length : Int).toNat : Int).toNat a0_l) a1_at ++ rootS (List.drop (half (a0_l.length : Int).toNat : Int).toNat a0_l) :: ([] : List (List UInt8)))))) ∧ (¬a1_at < (half (a0_l.length : Int).toNat : Int) → ((0 : Int) ≤ (half (a0_l.length : Int).toNat : Int) ∧ (half (a0_l.length : Int).toNat : Int) ≤ (a0_l.length : Int)) ∧ ((0 : Int) ≤ (half (a0_l.length : Int).toNat : Int) ∧ (half (a0_l.length : Int).toNat : Int) ≤ (a0_l.length : Int)) ∧ ((List.drop (half (a0_l.length : Int).toNat : Int).toNat a0_l).length ≤ (1048576 : Nat) ∧ (List.drop (half (a0_l.length : Int).toNat : Int).toNat a0_l).length < nn) ∧ ((Ty.arr (32 : Nat) Ty.byte).kd.sl.wf (pathN (List.drop (half (a0_l.length : Int).toNat : Int).toNat a0_l) (IntKind.i64.wrap (a1_at - (half (a0_l.length : Int).toNat : Int)))) → (List.take (half (a0_l.length : Int).toNat : Int).toNat a0_l).length ≤ (1048576 : Nat) ∧ ((Ty.arr (32 : Nat) Ty.byte).kd.wf (rootS (List.take (half (a0_l.length : Int).toNat : Int).toNat a0_l)) → ((pathN (List.drop (half (a0_l.length : Int).toNat : Int).toNat a0_l) (IntKind.i64.wrap (a1_at - (half (a0_l.length : Int).toNat : Int)))).length + (rootS (List.take (half (a0_l.length : Int).toNat : Int).toNat a0_l) :: ([] : List (List UInt8))).length) * (32 : Nat) ≤ (140737488355328 : Nat) ∧ Q (pathN (List.drop (half (a0_l.length : Int).toNat : Int).toNat a0_l) (IntKind.i64.wrap (a1_at - (half (a0_l.length : Int).toNat : Int))) ++ rootS (List.take (half (a0_l.length : Int).toNat : Int).toNat a0_l) :: ([] : List (List UInt8))))))))
theorem RPath_ok {nn : Nat} {a0_l : List (List UInt8)} {a1_at : Int} (w_0 : (Ty.kd (.sl (.arr 32 .byte))).wf a0_l) (w_1 : (Ty.kd (.int .i64)).wf a1_at) (hp : (a0_l.length ≤ 1048576) ∧ a0_l.length < nn + 1) : RPath_VC nn a0_l a1_at (fun o0 => o0 = (pathN a0_l a1_at)) := by
  have hp1 := hp.1
  have hp2 := hp.2
  unfold RPath_VC
  simp only [Int.toNat_natCast]
  refine ⟨fun h => ?_, fun h => ⟨fun h1 => ?_, fun h1 _ => ?_⟩⟩
  · have h' : ¬ ((0 : Int) ≤ a1_at ∧ a1_at < (a0_l.length : Int)) := fun hh => h (decide_eq_true hh)
    show [] = pathN a0_l a1_at
    rw [pathN, if_neg h']
  · have h' := of_decide_eq_true h
    show [] = pathN a0_l a1_at
    rw [pathN, if_pos h', topL_end (by omega)]
    rfl
  · have h' := of_decide_eq_true h
    have a1 := half_pos (n := a0_l.length) (by omega)
    have a2 := half_lt (n := a0_l.length) (by omega)
    have l1 : (a0_l.take (half a0_l.length)).length = half a0_l.length := by rw [List.length_take]; omega
    have l2 : (a0_l.drop (half a0_l.length)).length = a0_l.length - half a0_l.length := List.length_drop
    refine ⟨fun hlt => ⟨⟨by omega, by omega⟩, ⟨by omega, by omega⟩, ⟨by omega, by omega⟩, fun _ => ⟨by omega, fun _ => ⟨?_, ?_⟩⟩⟩, fun hge => ⟨⟨by omega, by omega⟩, ⟨by omega, by omega⟩, ⟨by omega, by omega⟩, ?_⟩⟩
    · have := pathN_len (l := a0_l.take (half a0_l.length)) (a := a1_at) (by omega)
      simp only [List.length_cons, List.length_nil]
      omega
    · exact (pathN_left (by omega) h'.1 hlt).symm
    · have e2 : IntKind.i64.wrap (a1_at - ((half a0_l.length : Nat) : Int)) = a1_at - ((half a0_l.length : Nat) : Int) := wrap_id (wf64 (by omega) (by omega))
      rw [e2]
      refine fun _ => ⟨by omega, fun _ => ⟨?_, (pathN_right (by omega) h'.2 (by omega)).symm⟩⟩
      have := pathN_len (l := a0_l.drop (half a0_l.length)) (a := a1_at - ((half a0_l.length : Nat) : Int)) (by omega)
      simp only [List.length_cons, List.length_nil]
      omega
theorem RPath_eq (nn : Nat) : (∀ a, (RPath_Cn (nn + 1)).pre a → PM.wfP (RPath_Cn (nn + 1)).pm a (fvc (RPath_X nn) 200 20 (RPath_Cn (nn + 1)) a (eqO (RPath_Cn (nn + 1)) a))) = (∀ a : (List (List UInt8)) × Int × Unit, (((a.1).length ≤ 1048576) ∧ (a.1).length < nn + 1) → (Ty.kd (.sl (.arr 32 .byte))).wf a.1 → (Ty.kd (.int .i64)).wf a.2.1 → RPath_VC nn a.1 a.2.1 (fun o0 => o0 = (pathN (a.1) (a.2.1)))) := by kernel_rfl
theorem RPath_kn : ∀ nn, (RPath_Cn nn).valid Try.prog 20
  | 0 => fun a hp => absurd (And.right hp) (Nat.not_lt_zero _)
  | nn + 1 => ctr_of (X := RPath_X nn) (ok_of seat_ok (fun b hb => by cases hb; exact bkT_ok) fns_ok ⟨RPath_kn nn, RThere_k, RHalf_k, RRoot_k, trivial⟩) 200 ((RPath_eq nn).mpr fun a hp w_0 w_1 => @RPath_ok nn a.1 a.2.1 w_0 w_1 hp)
theorem RPath_k : RPath_C.valid Try.prog 20 := valid_rec RPath_kn (fun a hp => ⟨_, And.intro hp (Nat.lt_succ_self _)⟩)
noncomputable def RLead_C : Ctr := ⟨[.v (.int .i64), .v (.int .i64), .v (.arr 32 .byte), .v (.sl (.arr 32 .byte))], [.v (.arr 32 .byte), .v .bool], none, fun a => (fun (a0_n : Int) (a1_at : Int) (a2_leaf : List UInt8) (a3_path : List (List UInt8)) => (((leadS a0_n a1_at a2_leaf a3_path), (leadB a0_n a1_at a3_path), ()), (()))) a.1 a.2.1 a.2.2.1 a.2.2.2.1⟩
noncomputable def RLead_Cn (nn : Nat) : Ctr := ⟨[.v (.int .i64), .v (.int .i64), .v (.arr 32 .byte), .v (.sl (.arr 32 .byte))], [.v (.arr 32 .byte), .v .bool], some (fun a => (fun (a0_n : Int) (a1_at : Int) (a2_leaf : List UInt8) (a3_path : List (List UInt8)) => ((True) ∧ a0_n.toNat < nn : Prop)) a.1 a.2.1 a.2.2.1 a.2.2.2.1), fun a => (fun (a0_n : Int) (a1_at : Int) (a2_leaf : List UInt8) (a3_path : List (List UInt8)) => (((leadS a0_n a1_at a2_leaf a3_path), (leadB a0_n a1_at a3_path), ()), (()))) a.1 a.2.1 a.2.2.1 a.2.2.2.1⟩
noncomputable def RLead_X (nn : Nat) : Fx := ⟨seat, some bkT, fns, [(29, RLead_Cn nn), (44, RThere_C), (22, RHalf_C), (48, RNode_C)], [], [], []⟩
def RLead_VC (nn : Nat) (a0_n : Int) (a1_at : Int) (a2_leaf : List UInt8) (a3_path : List (List UInt8)) (Q : (List UInt8) → Bool → Prop) : Prop :=
  (¬decide ((0 : Int) ≤ a1_at ∧ a1_at < a0_n) = true → Q (List.replicate (32 : Nat) Ty.byte.kd.z) false) ∧ (decide ((0 : Int) ≤ a1_at ∧ a1_at < a0_n) = true → (decide (a0_n = (1 : Int)) ≠ decide ((a3_path.length : Int) = (0 : Int)) → Q (List.replicate (32 : Nat) Ty.byte.kd.z) false) ∧ (¬decide (a0_n = (1 : Int)) ≠ decide ((a3_path.length : Int) = (0 : Int)) → (a0_n = (1 : Int) → Q a2_leaf true) ∧ (¬a0_n = (1 : Int) → (Ty.int IntKind.i64).kd.wf (half a0_n.toNat : Int) → ((0 : Int) ≤ IntKind.i64.wrap ((a3_path.length : Int) - (1 : Int)) ∧ IntKind.i64.wrap ((a3_path.length : Int) - (1 : Int)) < (a3_path.length : Int)) ∧ ((0 : Int) ≤ IntKind.i64.wrap ((a3_path.length : Int) - (1 : Int)) ∧ IntKind.i64.wrap ((a3_path.length : Int) - (1 : Int)) ≤ (a3_path.length : Int)) ∧ (a1_at < (half a0_n.toNat : Int) → (True ∧ (half a0_n.toNat : Int).toNat < nn) ∧ ((Ty.arr (32 : Nat) Ty.byte).kd.wf (leadS (half a0_n.toNat : Int) a1_at a2_leaf (List.take (IntKind.i64.wrap ((a3_path.length : Int) - (1 : Int))).toNat a3_path)) → (¬leadB (half a0_n.toNat : Int) a1_at (List.take (IntKind.i64.wrap ((a3_path.length : Int) - (1 : Int))).toNat a3_path) = true → Q (List.replicate (32 : Nat) Ty.byte.kd.z) false) ∧ (leadB (half a0_n.toNat : Int) a1_at (List.take (IntKind.i64.wrap ((a3_path.length : Int) - (1 : Int))).toNat a3_path) = true → (Ty.arr (32 : Nat) Ty.byte).kd.wf (sealOf (2 : Int) (leadS (half a0_n.toNat : Int) a1_at a2_leaf (List.take (IntKind.i64.wrap ((a3_path.length : Int) - (1 : Int))).toNat a3_path) :: ix a3_path (IntKind.i64.wrap ((a3_path.length : Int) - (1 : Int))) :: ([] : List (List UInt8)))) → Q (sealOf (2 : Int) (leadS (half a0_n.toNat : Int) a1_at a2_leaf (List.take (IntKind.i64.wrap ((a3_path.length : Int) - (1 : Int))).toNat a3_path) :: ix a3_path (IntKind.i64.wrap ((a3_path.length : Int) - (1 : Int))) :: ([] : List (List UInt8)))) true))) ∧ (¬a1_at < (half a0_n.toNat : Int) → (True ∧ (IntKind.i64.wrap (a0_n - (half a0_n.toNat : Int))).toNat < nn) ∧ ((Ty.arr (32 : Nat) Ty.byte).kd.wf (leadS (IntKind.i64.wrap (a0_n - (half a0_n.toNat : Int))) (IntKind.i64.wrap (a1_at - (half a0_n.toNat : Int))) a2_leaf (List.take (IntKind.i64.wrap ((a3_path.length : Int) - (1 : Int))).toNat a3_path)) → (¬leadB (IntKind.i64.wrap (a0_n - (half a0_n.toNat : Int))) (IntKind.i64.wrap (a1_at - (half a0_n.toNat : Int))) (List.take (IntKind.i64.wrap ((a3_path.length : Int) - (1 : Int))).toNat a3_path) = true → Q (List.replicate (32 : Nat) Ty.byte.kd.z) false) ∧ (leadB (IntKind.i64.wrap (a0_n - (half a0_n.toNat : Int))) (IntKind.i64.wrap (a1_at - (half a0_n.toNat : Int))) (List.take (IntKind.i64.wrap ((a3_path.length : Int) - (1 : Int))).toNat a3_path) = true → (Ty.arr (32 : Nat) Ty.byte).kd.wf (sealOf (2 : Int) (ix a3_path (IntKind.i64.wrap ((a3_path.length : Int) - (1 : Int))) :: leadS (IntKind.i64.wrap (a0_n - (half a0_n.toNat : Int))) (IntKind.i64.wrap (a1_at - (half a0_n.toNat : Int))) a2_leaf (List.take (IntKind.i64.wrap ((a3_path.length : Int) - (1 : Int))).toNat a3_path) :: ([] : List (List UInt8)))) → Q (sealOf (2 : Int) (ix a3_path (IntKind.i64.wrap ((a3_path.length : Int) - (1 : Int))) :: leadS (IntKind.i64.wrap (a0_n - (half a0_n.toNat : Int))) (IntKind.i64.wrap (a1_at - (half a0_n.toNat : Int))) a2_leaf (List.take (IntKind.i64.wrap ((a3_path.length : Int) - (1 : Int))).toNat a3_path) :: ([] : List (List UInt8)))) true))))))
theorem RLead_ok {nn : Nat} {a0_n : Int} {a1_at : Int} {a2_leaf : List UInt8} {a3_path : List (List UInt8)} (w_0 : (Ty.kd (.int .i64)).wf a0_n) (w_1 : (Ty.kd (.int .i64)).wf a1_at) (w_2 : (Ty.kd (.arr 32 .byte)).wf a2_leaf) (w_3 : (Ty.kd (.sl (.arr 32 .byte))).wf a3_path) (hp : (True) ∧ a0_n.toNat < nn + 1) : RLead_VC nn a0_n a1_at a2_leaf a3_path (fun o0 o1 => o0 = (leadS a0_n a1_at a2_leaf a3_path) ∧ o1 = (leadB a0_n a1_at a3_path)) := by
  have hn1 : a0_n ≤ 9223372036854775807 := w_0.2
  have hp2 := hp.2
  have hL : a3_path.length ≤ LM := w_3.1
  unfold LM at hL
  have bad : leadB a0_n a1_at a3_path = false → List.replicate (32 : Nat) Ty.byte.kd.z = leadS a0_n a1_at a2_leaf a3_path ∧ false = leadB a0_n a1_at a3_path := fun h => by
    unfold leadS
    rw [h]
    exact ⟨rfl, rfl⟩
  unfold RLead_VC
  refine ⟨fun h => bad (decide_eq_false fun hh => h (decide_eq_true hh.1)), fun h => ?_⟩
  have h' := of_decide_eq_true h
  refine ⟨fun hne => bad ?_, fun heq => ⟨fun h1 => ?_, fun h1 _ => ?_⟩⟩
  · rcases Int.lt_or_le 1 a0_n with hn | hn
    · have hz : (a3_path.length : Int) = 0 := by
        apply Classical.byContradiction
        intro hz
        exact hne (by rw [decide_eq_false (by omega : ¬ a0_n = 1), decide_eq_false hz])
      rw [List.length_eq_zero_iff.1 (by omega : a3_path.length = 0)]
      exact leadB_nil hn h'.1 h'.2
    · have e1 : a0_n = 1 := by omega
      have e0 : a1_at = 0 := by omega
      subst e1; subst e0
      rw [leadB_one]
      refine decide_eq_false fun hz => hne ?_
      rw [decide_eq_true rfl, decide_eq_true (by omega : (a3_path.length : Int) = 0)]
  · have e0 : a1_at = 0 := by omega
    subst e0
    subst h1
    have hz : a3_path.length = 0 := by
      apply Classical.byContradiction
      intro hz
      exact heq (by rw [decide_eq_true rfl, decide_eq_false (by omega : ¬ (a3_path.length : Int) = 0)]; decide)
    have hb : leadB 1 0 a3_path = true := by rw [leadB_one]; exact decide_eq_true hz
    refine ⟨?_, hb.symm⟩
    unfold leadS
    rw [hb, if_pos rfl, List.length_eq_zero_iff.1 hz]
    show a2_leaf = foldL (sidesN 1 0).reverse [] a2_leaf
    rw [sidesN_end (by decide)]
    rfl
  · have hn : 1 < a0_n := by omega
    have a1 := half_pos (n := a0_n.toNat) (by omega)
    have a2 := half_lt (n := a0_n.toNat) (by omega)
    have hne : a3_path ≠ [] := fun h0 => by
      subst h0
      exact heq (by rw [decide_eq_false h1, decide_eq_true (by simp)]; decide)
    have hpos : 1 ≤ a3_path.length := by
      rcases Nat.eq_zero_or_pos a3_path.length with h0 | h0
      · exact absurd (List.length_eq_zero_iff.1 h0) hne
      · exact h0
    have ew : IntKind.i64.wrap ((a3_path.length : Int) - 1) = ((a3_path.length - 1 : Nat) : Int) := by
      rw [wrap_id (wf64 (by omega) (by omega))]
      omega
    have e1 : IntKind.i64.wrap (a0_n - ((half a0_n.toNat : Nat) : Int)) = a0_n - ((half a0_n.toNat : Nat) : Int) := wrap_id (wf64 (by omega) (by omega))
    rw [ew, ixN (by omega)]
    simp only [Int.toNat_natCast]
    rw [← List.dropLast_eq_take]
    have hlast : a3_path[a3_path.length - 1] = a3_path.getLast hne := (List.getLast_eq_getElem hne).symm
    rw [hlast]
    have hc := List.dropLast_concat_getLast hne
    refine ⟨⟨by omega, by omega⟩, ⟨by omega, by omega⟩, fun hlt => ⟨⟨trivial, by omega⟩, fun _ => ?_⟩, fun hge => ?_⟩
    · have hl := lead_left (n := a0_n) (a := a1_at) (Q := a3_path.dropLast) (p := a3_path.getLast hne) (s := a2_leaf) hn h'.1 hlt
      rw [hc] at hl
      refine ⟨fun hb => bad (hl.1.trans (by simpa using hb)), fun hb _ => ⟨(hl.2 hb).symm, ?_⟩⟩
      show true = leadB a0_n a1_at a3_path
      rw [hl.1, hb]
    · have e2 : IntKind.i64.wrap (a1_at - ((half a0_n.toNat : Nat) : Int)) = a1_at - ((half a0_n.toNat : Nat) : Int) := wrap_id (wf64 (by omega) (by omega))
      rw [e1, e2]
      have hl := lead_right (n := a0_n) (a := a1_at) (Q := a3_path.dropLast) (p := a3_path.getLast hne) (s := a2_leaf) hn h'.2 (by omega)
      rw [hc] at hl
      refine ⟨⟨trivial, by omega⟩, fun _ => ⟨fun hb => bad (hl.1.trans (by simpa using hb)), fun hb _ => ⟨(hl.2 hb).symm, ?_⟩⟩⟩
      show true = leadB a0_n a1_at a3_path
      rw [hl.1, hb]
theorem RLead_eq (nn : Nat) : (∀ a, (RLead_Cn (nn + 1)).pre a → PM.wfP (RLead_Cn (nn + 1)).pm a (fvc (RLead_X nn) 200 29 (RLead_Cn (nn + 1)) a (eqO (RLead_Cn (nn + 1)) a))) = (∀ a : Int × Int × (List UInt8) × (List (List UInt8)) × Unit, ((True) ∧ (a.1).toNat < nn + 1) → (Ty.kd (.int .i64)).wf a.1 → (Ty.kd (.int .i64)).wf a.2.1 → (Ty.kd (.arr 32 .byte)).wf a.2.2.1 → (Ty.kd (.sl (.arr 32 .byte))).wf a.2.2.2.1 → RLead_VC nn a.1 a.2.1 a.2.2.1 a.2.2.2.1 (fun o0 o1 => o0 = (leadS (a.1) (a.2.1) (a.2.2.1) (a.2.2.2.1)) ∧ o1 = (leadB (a.1) (a.2.1) (a.2.2.2.1)))) := by kernel_rfl
theorem RLead_kn : ∀ nn, (RLead_Cn nn).valid Try.prog 29
  | 0 => fun a hp => absurd (And.right hp) (Nat.not_lt_zero _)
  | nn + 1 => ctr_of (X := RLead_X nn) (ok_of seat_ok (fun b hb => by cases hb; exact bkT_ok) fns_ok ⟨RLead_kn nn, RThere_k, RHalf_k, RNode_k, trivial⟩) 200 ((RLead_eq nn).mpr fun a hp w_0 w_1 w_2 w_3 => @RLead_ok nn a.1 a.2.1 a.2.2.1 a.2.2.2.1 w_0 w_1 w_2 w_3 hp)
theorem RLead_k : RLead_C.valid Try.prog 29 := valid_rec RLead_kn (fun a hp => ⟨_, And.intro hp (Nat.lt_succ_self _)⟩)
noncomputable def same4_C : Ctr := ⟨[.v (.sl (.arr 32 .byte)), .v (.sl (.arr 32 .byte))], [.v .bool], none, fun a => (fun (a0_a : List (List UInt8)) (a1_b : List (List UInt8)) => ((decide (a0_a = a1_b), ()), (()))) a.1 a.2.1⟩
noncomputable def same4_X : Fx := ⟨seat, some bkT, fns, [], [], [], [(6, [], [.o 0 2, .o 1 2, .o 2 2, .o 3 2, .o 4 2, .o 5 2, .o 6 2, .o 7 2, .o 8 2])]⟩
def same4_VC (a0_a : List (List UInt8)) (a1_b : List (List UInt8)) (Q : Bool → Prop) : Prop :=
  ((a0_a.length : Int) ≠ (a1_b.length : Int) → Q false) ∧ (¬(a0_a.length : Int) ≠ (a1_b.length : Int) → ∃ (x0 : Bool → Int → Prop), ∃ (x1 : Bool → Int → Nat), x0 false (0 : Int) ∧ ∀ (x2 : Bool) (x3 : Int), x0 x2 x3 → (Kd.int IntKind.i64).wf x3 → (x3 < (a0_a.length : Int) → ((0 : Int) ≤ x3 ∧ x3 < (a0_a.length : Int)) ∧ ((0 : Int) ≤ x3 ∧ x3 < (a1_b.length : Int)) ∧ (ix a0_a x3 ≠ ix a1_b x3 → Q false) ∧ (¬ix a0_a x3 ≠ ix a1_b x3 → x3 < (9223372036854775807 : Int) ∧ x0 x2 (x3 + (1 : Int)) ∧ x1 x2 (x3 + (1 : Int)) < x1 x2 x3)) ∧ (¬x3 < (a0_a.length : Int) → Q true))
theorem same4_ok {a0_a : List (List UInt8)} {a1_b : List (List UInt8)} (w_0 : (Ty.kd (.sl (.arr 32 .byte))).wf a0_a) (w_1 : (Ty.kd (.sl (.arr 32 .byte))).wf a1_b) : same4_VC a0_a a1_b (fun o0 => o0 = decide (a0_a = a1_b)) := by
  unfold same4_VC
  refine ⟨fun h => ?_, fun h => ?_⟩
  · show false = decide (a0_a = a1_b)
    rw [decide_eq_false (fun e => h (by rw [e]))]
  · have hl : a0_a.length = a1_b.length := by omega
    have hL : a0_a.length ≤ 281474976710656 := w_0.1
    refine ⟨fun _ i => ∃ j : Nat, i = (j : Int) ∧ j ≤ a0_a.length ∧ a0_a.take j = a1_b.take j, fun _ i => a0_a.length - i.toNat, ⟨0, rfl, by omega, rfl⟩, ?_⟩
    rintro r i ⟨j, rfl, hj, ht⟩ _
    refine ⟨fun hlt => ⟨⟨by omega, hlt⟩, ⟨by omega, by omega⟩, fun hne => ?_, fun he => ⟨by omega, ⟨j + 1, by omega, by omega, same_step (by omega) (by omega) ht (Classical.not_not.1 he)⟩, by show a0_a.length - ((j : Int) + 1).toNat < a0_a.length - (j : Int).toNat; omega⟩⟩, fun hge => ?_⟩
    · show false = decide (a0_a = a1_b)
      rw [decide_eq_false (fun e => hne (by rw [e]))]
    · have e : a0_a = a1_b := by
        rw [List.take_of_length_le (by omega), List.take_of_length_le (by omega)] at ht
        exact ht
      show true = decide (a0_a = a1_b)
      rw [decide_eq_true e]
theorem same4_eq : (∀ a, same4_C.pre a → PM.wfP same4_C.pm a (fvc same4_X 200 30 same4_C a (eqO same4_C a))) = (∀ a : (List (List UInt8)) × (List (List UInt8)) × Unit, True → (Ty.kd (.sl (.arr 32 .byte))).wf a.1 → (Ty.kd (.sl (.arr 32 .byte))).wf a.2.1 → same4_VC a.1 a.2.1 (fun o0 => o0 = decide ((a.1) = (a.2.1)))) := by kernel_rfl
theorem same4_k : same4_C.valid Try.prog 30 := ctr_of (X := same4_X) (ok_of seat_ok (fun b hb => by cases hb; exact bkT_ok) fns_ok trivial) 200 (same4_eq.mpr fun a hp w_0 w_1 => @same4_ok a.1 a.2.1 w_0 w_1)
noncomputable def awake4_C : Ctr := ⟨[], [.v .bool], none, fun _ => ((true, ()), (()))⟩
noncomputable def awake4_X : Fx := ⟨seat, some bkT, fns, [(40, leaves_C), (18, PathO_C), (18, PathR_C), (26, Lead_C), (21, Half_C), (23, Depth_C), (25, RootN_C), (25, Root_C), (27, RRoot_C)], [], [], [(5, [], [.o 0 0, .o 1 2, .o 2 2, .o 3 0, .o 4 2, .o 5 2, .o 6 2, .o 7 0, .o 8 2, .o 9 2, .o 10 2, .o 11 0, .o 12 2, .o 13 2, .o 14 2, .o 15 0, .o 16 2, .o 17 2, .o 18 2, .o 19 0, .o 20 2, .o 21 2, .o 22 2, .o 23 0, .o 24 2, .o 25 2, .o 26 2, .o 27 2, .o 28 2, .o 29 2, .o 30 2, .o 31 2, .o 32 2, .o 33 2, .o 34 2, .o 35 2, .o 36 2, .o 37 2, .o 38 2, .o 39 2, .o 40 2, .o 41 2, .o 42 2, .o 43 2, .o 44 2, .o 45 2, .o 46 2, .o 47 2, .o 48 2, .o 49 2, .o 50 2, .o 51 2, .o 52 2, .o 53 2, .o 54 2, .o 55 2, .o 56 0, .o 57 2, .o 58 2, .o 59 2, .o 60 2, .o 61 2, .o 62 0, .o 63 2, .o 64 2, .o 65 2, .o 66 2, .o 67 2, .o 68 2, .o 69 2])]⟩
def awake4_VC (Q : Bool → Prop) : Prop :=
  (5 : Int) = (5 : Int) ∧ ((Ty.arr (32 : Nat) Ty.byte).kd.sl.wf fiveO → fiveO.length ≤ (1048576 : Nat) ∧ ((Ty.arr (32 : Nat) Ty.byte).kd.sl.wf (pathN fiveO (2 : Int)) → ((0 : Int) ≤ (2 : Int) ∧ (2 : Int) < (fiveO.length : Int)) ∧ ((pathN fiveO (2 : Int)).length ≤ (1048576 : Nat) ∧ bookUpto (none : Option (List Nt × Int)) (pathN fiveO (2 : Int)).length) ∧ ((Ty.arr (32 : Nat) Ty.byte).kd.wf (leadS (5 : Int) (2 : Int) (ix fiveO (2 : Int)) (pathN fiveO (2 : Int))) → (Ty.int IntKind.i64).kd.wf (leadE (5 : Int) (2 : Int) (pathN fiveO (2 : Int))) → ((0 : Int) ≤ (4 : Int) ∧ (4 : Int) < (fiveO.length : Int)) ∧ (([] : List (List UInt8)).length ≤ (1048576 : Nat) ∧ bookUpto (none : Option (List Nt × Int)) ([] : List (List UInt8)).length) ∧ ((Ty.arr (32 : Nat) Ty.byte).kd.wf (leadS (5 : Int) (4 : Int) (ix fiveO (4 : Int)) ([] : List (List UInt8))) → (Ty.int IntKind.i64).kd.wf (leadE (5 : Int) (4 : Int) ([] : List (List UInt8))) → (Ty.int IntKind.i64).kd.wf (half (Int.toNat (1 : Int)) : Int) → ((half (Int.toNat (1 : Int)) : Int) = (0 : Int) → (Ty.int IntKind.i64).kd.wf (half (Int.toNat (2 : Int)) : Int) → ((half (Int.toNat (2 : Int)) : Int) = (1 : Int) → (Ty.int IntKind.i64).kd.wf (half (Int.toNat (5 : Int)) : Int) → ((half (Int.toNat (5 : Int)) : Int) = (4 : Int) → (Ty.int IntKind.i64).kd.wf (half (Int.toNat (8 : Int)) : Int) → ((half (Int.toNat (8 : Int)) : Int) = (4 : Int) → (Ty.int IntKind.i64).kd.wf (depthN (5 : Int) (0 : Int)) → (depthN (5 : Int) (0 : Int) = (3 : Int) → (Ty.int IntKind.i64).kd.wf (depthN (5 : Int) (4 : Int)) → (depthN (5 : Int) (4 : Int) = (1 : Int) → (Ty.int IntKind.i64).kd.wf (depthN (5 : Int) (5 : Int)) → (depthN (5 : Int) (5 : Int) = (0 : Int) → (((pathN fiveO (2 : Int)).length : Int) = (3 : Int) → ((0 : Int) ≤ (0 : Int) ∧ (0 : Int) < ((pathN fiveO (2 : Int)).length : Int)) ∧ ((0 : Int) ≤ (3 : Int) ∧ (3 : Int) < (fiveO.length : Int)) ∧ (ix (pathN fiveO (2 : Int)) (0 : Int) = ix fiveO (3 : Int) → ((0 : Int) ≤ (2 : Int) ∧ (2 : Int) < ((pathN fiveO (2 : Int)).length : Int)) ∧ ((0 : Int) ≤ (4 : Int) ∧ (4 : Int) < (fiveO.length : Int)) ∧ (ix (pathN fiveO (2 : Int)) (2 : Int) = ix fiveO (4 : Int) → (leadE (5 : Int) (2 : Int) (pathN fiveO (2 : Int)) = (0 : Int) → fiveO.length ≤ (1048576 : Nat) ∧ ((Ty.arr (32 : Nat) Ty.byte).kd.wf (rootS fiveO) → (leadS (5 : Int) (2 : Int) (ix fiveO (2 : Int)) (pathN fiveO (2 : Int)) = rootS fiveO → fiveO.length ≤ (1048576 : Nat) ∧ ((Ty.arr (32 : Nat) Ty.byte).kd.wf (rootS fiveO) → (leadS (5 : Int) (2 : Int) (ix fiveO (2 : Int)) (pathN fiveO (2 : Int)) = rootS fiveO → Q (decide (leadE (5 : Int) (4 : Int) ([] : List (List UInt8)) = (10 : Int)))) ∧ (¬leadS (5 : Int) (2 : Int) (ix fiveO (2 : Int)) (pathN fiveO (2 : Int)) = rootS fiveO → Q false))) ∧ (¬leadS (5 : Int) (2 : Int) (ix fiveO (2 : Int)) (pathN fiveO (2 : Int)) = rootS fiveO → Q false))) ∧ (¬leadE (5 : Int) (2 : Int) (pathN fiveO (2 : Int)) = (0 : Int) → Q false)) ∧ (¬ix (pathN fiveO (2 : Int)) (2 : Int) = ix fiveO (4 : Int) → Q false)) ∧ (¬ix (pathN fiveO (2 : Int)) (0 : Int) = ix fiveO (3 : Int) → Q false)) ∧ (¬((pathN fiveO (2 : Int)).length : Int) = (3 : Int) → Q false)) ∧ (¬depthN (5 : Int) (5 : Int) = (0 : Int) → Q false)) ∧ (¬depthN (5 : Int) (4 : Int) = (1 : Int) → Q false)) ∧ (¬depthN (5 : Int) (0 : Int) = (3 : Int) → Q false)) ∧ (¬(half (Int.toNat (8 : Int)) : Int) = (4 : Int) → Q false)) ∧ (¬(half (Int.toNat (5 : Int)) : Int) = (4 : Int) → Q false)) ∧ (¬(half (Int.toNat (2 : Int)) : Int) = (1 : Int) → Q false)) ∧ (¬(half (Int.toNat (1 : Int)) : Int) = (0 : Int) → Q false)))))
theorem awake4_ok  : awake4_VC  (fun o0 => o0 = true) := by
  have l5 : fiveO.length = 5 := by rw [fiveO_eq]; rfl
  have hh : ∀ a b : Int, (half a.toNat : Int) = b ↔ (half a.toNat : Int) = b := fun _ _ => Iff.rfl
  have g1 : half 1 = 0 := half_small (by decide)
  have g8 : half 8 = 4 := half_of (j := 2) (by decide) (by decide)
  have pt : pathN fiveO 2 = [ix fiveO 3, rootS (fiveO.take 2), ix fiveO 4] := by
    rw [fiveO_eq, five_eq]
    rw [pathN_left (by decide) (by decide) (by rw [show List.length _ = 5 from rfl, half5]; decide)]
    rw [show List.length _ = 5 from rfl, half5]
    show pathN [_, _, _, _] 2 ++ [rootS [_]] = _
    rw [pathN_right (by decide) (by decide) (by rw [show List.length _ = 4 from rfl, half4]; decide)]
    rw [show List.length _ = 4 from rfl, half4]
    show (pathN [_, _] 0 ++ [rootS [_, _]]) ++ [rootS [_]] = _
    rw [pathN_left (by decide) (by decide) (by rw [show List.length _ = 2 from rfl, half2]; decide)]
    rw [show List.length _ = 2 from rfl, half2]
    show ((pathN [_] 0 ++ [rootS [_]]) ++ [rootS [_, _]]) ++ [rootS [_]] = _
    rw [rootS_one, rootS_one]
    have : pathN [[3, 0, 0, 0, 0, 0, 0, 0, 0, 0, 0, 0, 0, 0, 0, 0, 0, 0, 0, 0, 0, 0, 0, 0, 0, 0, 0, 0, 0, 0, 0, 0]] 0 = [] := by
      rw [pathN, if_pos (by decide), topL_end (by decide)]
      rfl
    rw [this]
    rfl
  have lp : (pathN fiveO (2 : Int)).length = 3 := by rw [pt]; rfl
  have c1 : (half (Int.toNat (1 : Int)) : Int) = (0 : Int) := by rw [show Int.toNat 1 = 1 from rfl, g1]; rfl
  have c2 : (half (Int.toNat (2 : Int)) : Int) = (1 : Int) := by rw [show Int.toNat 2 = 2 from rfl, half2]; rfl
  have c3 : (half (Int.toNat (5 : Int)) : Int) = (4 : Int) := by rw [show Int.toNat 5 = 5 from rfl, half5]; rfl
  have c4 : (half (Int.toNat (8 : Int)) : Int) = (4 : Int) := by rw [show Int.toNat 8 = 8 from rfl, g8]; rfl
  have c5 : depthN (5 : Int) (0 : Int) = (3 : Int) := by
    rw [depthN, if_pos (by decide)]
    show ((sidesN 5 0).length : Int) = 3
    rw [sidesN_left (by decide) (by rw [half5]; decide), half5, sidesN_left (by decide) (by rw [half4]; decide), half4, sidesN_left (by decide) (by rw [half2]; decide), half2, sidesN_end (by decide)]
    rfl
  have c6 : depthN (5 : Int) (4 : Int) = (1 : Int) := by
    rw [depthN, if_pos (by decide)]
    show ((sidesN 5 4).length : Int) = 1
    rw [sidesN_right (by decide) (by rw [half5]; decide), half5, sidesN_end (by decide)]
    rfl
  have c7 : depthN (5 : Int) (5 : Int) = (0 : Int) := by rw [depthN, if_neg (by decide)]
  have c8 : ((pathN fiveO (2 : Int)).length : Int) = (3 : Int) := by rw [lp]; rfl
  have c9 : ix (pathN fiveO (2 : Int)) (0 : Int) = ix fiveO (3 : Int) := by rw [pt]; rfl
  have cA : ix (pathN fiveO (2 : Int)) (2 : Int) = ix fiveO (4 : Int) := by rw [pt]; rfl
  have hb : leadB (5 : Int) (2 : Int) (pathN fiveO (2 : Int)) = true := by
    have := leadB_path (l := fiveO) (a := 2) (by rw [l5]; decide)
    rwa [l5] at this
  have hS : leadS (5 : Int) (2 : Int) (ix fiveO (2 : Int)) (pathN fiveO (2 : Int)) = rootS fiveO := by
    have := leadS_path (l := fiveO) (a := 2) (by rw [l5]; decide)
    rwa [l5] at this
  have hE : leadE (5 : Int) (2 : Int) (pathN fiveO (2 : Int)) = (0 : Int) := by unfold leadE; rw [hb]; rfl
  have hF : leadE (5 : Int) (4 : Int) ([] : List (List UInt8)) = (10 : Int) := by unfold leadE; rw [leadB_nil (by decide) (by decide) (by decide)]; rfl
  have b1 : (pathN fiveO (2 : Int)).length ≤ (1048576 : Nat) := by rw [lp]; decide
  have b2 : fiveO.length ≤ (1048576 : Nat) := by rw [l5]; decide
  have b3 : ∀ n, bookUpto (none : Option (List Nt × Int)) n := fun n y hy => by cases hy
  have n1 : ([] : List (List UInt8)).length ≤ (1048576 : Nat) := Nat.zero_le _
  unfold awake4_VC
  clear pt hb g1 g8 hh
  repeat' first
    | with_reducible exact fun h => absurd c1 h
    | with_reducible exact fun h => absurd c2 h
    | with_reducible exact fun h => absurd c3 h
    | with_reducible exact fun h => absurd c4 h
    | with_reducible exact fun h => absurd c5 h
    | with_reducible exact fun h => absurd c6 h
    | with_reducible exact fun h => absurd c7 h
    | with_reducible exact fun h => absurd c8 h
    | with_reducible exact fun h => absurd c9 h
    | with_reducible exact fun h => absurd cA h
    | with_reducible exact fun h => absurd hE h
    | with_reducible exact fun h => absurd hS h
    | with_reducible exact decide_eq_true hF
    | with_reducible exact b1
    | with_reducible exact b2
    | with_reducible exact b3 _
    | with_reducible exact n1
    | with_reducible exact trivial
    | with_reducible refine And.intro ?_ ?_
    | (intro _)
    | omega
theorem awake4_eq : (∀ a, awake4_C.pre a → PM.wfP awake4_C.pm a (fvc awake4_X 200 17 awake4_C a (eqO awake4_C a))) = (∀ a : Unit, True → awake4_VC  (fun o0 => o0 = true)) := by kernel_rfl
theorem awake4_k : awake4_C.valid Try.prog 17 := ctr_of (X := awake4_X) (ok_of seat_ok (fun b hb => by cases hb; exact bkT_ok) fns_ok ⟨leaves_k, PathO_k, PathR_k, Lead_k, Half_k, Depth_k, RootN_k, Root_k, RRoot_k, trivial⟩) 200 (awake4_eq.mpr fun a hp  => @awake4_ok )
noncomputable def TreeHalves_C : Ctr := ⟨[.v (.int .i64), .v (.int .i64)], [.v .bool], none, fun a => (fun (a0_n : Int) (a1_at : Int) => ((true, ()), (()))) a.1 a.2.1⟩
noncomputable def TreeHalves_X : Fx := ⟨seat, some bkT, fns, [(21, Half_C), (22, RHalf_C), (23, Depth_C), (24, RDepth_C), (17, awake4_C)], [], [], []⟩
def TreeHalves_VC (a0_n : Int) (a1_at : Int) (Q : Bool → Prop) : Prop :=
  (Ty.int IntKind.i64).kd.wf (half a0_n.toNat : Int) → (Ty.int IntKind.i64).kd.wf (half a0_n.toNat : Int) → ((half a0_n.toNat : Int) = (half a0_n.toNat : Int) → (Ty.int IntKind.i64).kd.wf (depthN a0_n a1_at) → (Ty.int IntKind.i64).kd.wf (depthN a0_n a1_at) → (depthN a0_n a1_at = depthN a0_n a1_at → Q true) ∧ (¬depthN a0_n a1_at = depthN a0_n a1_at → Q false)) ∧ (¬(half a0_n.toNat : Int) = (half a0_n.toNat : Int) → Q false)
theorem TreeHalves_ok {a0_n : Int} {a1_at : Int} (w_0 : (Ty.kd (.int .i64)).wf a0_n) (w_1 : (Ty.kd (.int .i64)).wf a1_at) : TreeHalves_VC a0_n a1_at (fun o0 => o0 = true) := by
  unfold TreeHalves_VC
  exact fun _ _ => ⟨fun _ _ _ => ⟨fun _ => rfl, fun h => absurd rfl h⟩, fun h => absurd rfl h⟩
theorem TreeHalves_eq : (∀ a, TreeHalves_C.pre a → PM.wfP TreeHalves_C.pm a (fvc TreeHalves_X 200 4 TreeHalves_C a (eqO TreeHalves_C a))) = (∀ a : Int × Int × Unit, True → (Ty.kd (.int .i64)).wf a.1 → (Ty.kd (.int .i64)).wf a.2.1 → TreeHalves_VC a.1 a.2.1 (fun o0 => o0 = true)) := by kernel_rfl
theorem TreeHalves_k : TreeHalves_C.valid Try.prog 4 := ctr_of (X := TreeHalves_X) (ok_of seat_ok (fun b hb => by cases hb; exact bkT_ok) fns_ok ⟨Half_k, RHalf_k, Depth_k, RDepth_k, awake4_k, trivial⟩) 200 (TreeHalves_eq.mpr fun a hp w_0 w_1 => @TreeHalves_ok a.1 a.2.1 w_0 w_1)
noncomputable def TreeShort_C : Ctr := ⟨[.v (.int .i64), .v (.int .i64)], [.v .bool], none, fun a => (fun (a0_n : Int) (a1_at : Int) => ((true, ()), (()))) a.1 a.2.1⟩
noncomputable def TreeShort_X : Fx := ⟨seat, some bkT, fns, [(21, Half_C), (23, Depth_C), (17, awake4_C)], [], [], []⟩
def TreeShort_VC (a0_n : Int) (a1_at : Int) (Q : Bool → Prop) : Prop :=
  (Ty.int IntKind.i64).kd.wf (half a0_n.toNat : Int) → (Ty.int IntKind.i64).kd.wf (depthN a0_n a1_at) → (a1_at < (0 : Int) → (depthN a0_n a1_at = (0 : Int) → Q true) ∧ (¬depthN a0_n a1_at = (0 : Int) → Q false)) ∧ (¬a1_at < (0 : Int) → (a0_n ≤ a1_at → (depthN a0_n a1_at = (0 : Int) → Q true) ∧ (¬depthN a0_n a1_at = (0 : Int) → Q false)) ∧ (¬a0_n ≤ a1_at → ∃ (x0 : Int → Int → Prop), ∃ (x1 : Int → Int → Nat), x0 (0 : Int) (IntKind.i64.wrap (a0_n - (1 : Int))) ∧ ∀ (x2 x3 : Int), x0 x2 x3 → (Kd.int IntKind.i64).wf x2 → (Kd.int IntKind.i64).wf x3 → ((0 : Int) < x3 → x2 < (9223372036854775807 : Int) ∧ x0 (x2 + (1 : Int)) (IntKind.i64.wrap (x3.tdiv (2 : Int))) ∧ x1 (x2 + (1 : Int)) (IntKind.i64.wrap (x3.tdiv (2 : Int))) < x1 x2 x3) ∧ (¬(0 : Int) < x3 → (depthN a0_n a1_at < (0 : Int) → Q false) ∧ (¬depthN a0_n a1_at < (0 : Int) → (x2 < depthN a0_n a1_at → Q false) ∧ (¬x2 < depthN a0_n a1_at → (a0_n = (1 : Int) → ((half a0_n.toNat : Int) ≠ (0 : Int) → Q false) ∧ (¬(half a0_n.toNat : Int) ≠ (0 : Int) → ((1 : Int) < a0_n → ((half a0_n.toNat : Int) < (1 : Int) → Q false) ∧ (¬(half a0_n.toNat : Int) < (1 : Int) → (a0_n ≤ (half a0_n.toNat : Int) → Q false) ∧ (¬a0_n ≤ (half a0_n.toNat : Int) → ((half a0_n.toNat : Int) < IntKind.i64.wrap (a0_n - (half a0_n.toNat : Int)) → Q false) ∧ (¬(half a0_n.toNat : Int) < IntKind.i64.wrap (a0_n - (half a0_n.toNat : Int)) → (band IntKind.i64 (half a0_n.toNat : Int) (IntKind.i64.wrap ((half a0_n.toNat : Int) - (1 : Int))) ≠ (0 : Int) → Q false) ∧ (¬band IntKind.i64 (half a0_n.toNat : Int) (IntKind.i64.wrap ((half a0_n.toNat : Int) - (1 : Int))) ≠ (0 : Int) → Q true))))) ∧ (¬(1 : Int) < a0_n → Q true))) ∧ (¬a0_n = (1 : Int) → ((1 : Int) < a0_n → ((half a0_n.toNat : Int) < (1 : Int) → Q false) ∧ (¬(half a0_n.toNat : Int) < (1 : Int) → (a0_n ≤ (half a0_n.toNat : Int) → Q false) ∧ (¬a0_n ≤ (half a0_n.toNat : Int) → ((half a0_n.toNat : Int) < IntKind.i64.wrap (a0_n - (half a0_n.toNat : Int)) → Q false) ∧ (¬(half a0_n.toNat : Int) < IntKind.i64.wrap (a0_n - (half a0_n.toNat : Int)) → (band IntKind.i64 (half a0_n.toNat : Int) (IntKind.i64.wrap ((half a0_n.toNat : Int) - (1 : Int))) ≠ (0 : Int) → Q false) ∧ (¬band IntKind.i64 (half a0_n.toNat : Int) (IntKind.i64.wrap ((half a0_n.toNat : Int) - (1 : Int))) ≠ (0 : Int) → Q true))))) ∧ (¬(1 : Int) < a0_n → Q true)))))))
theorem TreeShort_ok {a0_n : Int} {a1_at : Int} (w_0 : (Ty.kd (.int .i64)).wf a0_n) (w_1 : (Ty.kd (.int .i64)).wf a1_at) : TreeShort_VC a0_n a1_at (fun o0 => o0 = true) := by
  have hn1 : a0_n ≤ 9223372036854775807 := w_0.2
  unfold TreeShort_VC
  have h0 : ¬ (0 ≤ a1_at ∧ a1_at < a0_n) → depthN a0_n a1_at = 0 := fun h => by rw [depthN, if_neg h]
  refine fun _ _ => ⟨fun h => ⟨fun _ => rfl, fun hn => absurd (h0 (by omega)) hn⟩, fun h1 => ⟨fun h => ⟨fun _ => rfl, fun hn => absurd (h0 (by omega)) hn⟩, fun h2 => ?_⟩⟩
  have hd : depthN a0_n a1_at = ((sidesN a0_n.toNat a1_at.toNat).length : Int) := by rw [depthN, if_pos (by omega)]
  have ew : IntKind.i64.wrap (a0_n - 1) = ((a0_n.toNat - 1 : Nat) : Int) := by
    rw [wrap_id (wf64 (by omega) (by omega))]
    omega
  rw [ew]
  refine ⟨fun d x => ∃ (k y : Nat), d = (k : Int) ∧ x = (y : Int) ∧ y < 9223372036854775808 ∧ a0_n.toNat ≤ (y + 1) * 2 ^ k ∧ k + blen y ≤ 64, fun _ x => x.toNat, ⟨0, a0_n.toNat - 1, rfl, rfl, by omega, by omega, by have := blen_lt (n := a0_n.toNat - 1) 63 (by omega); omega⟩, ?_⟩
  rintro d x ⟨k, y, rfl, rfl, hy, hk, hb⟩ _ _
  have e2 : IntKind.i64.wrap ((y : Int).tdiv 2) = ((y / 2 : Nat) : Int) := by
    rw [Int.tdiv_eq_ediv_of_nonneg (by omega), wrap_id (wf64 (by omega) (by omega))]
    omega
  rw [e2]
  refine ⟨fun hlt => ⟨by omega, ⟨k + 1, y / 2, by omega, rfl, by omega, ?_, ?_⟩, by show ((y / 2 : Nat) : Int).toNat < (y : Int).toNat; omega⟩, fun hge => ⟨fun hn => absurd hn (by omega), fun _ => ⟨fun hn => absurd hn ?_, fun _ => ?_⟩⟩⟩
  · have : (y + 1) ≤ 2 * (y / 2 + 1) := by omega
    calc a0_n.toNat ≤ (y + 1) * 2 ^ k := hk
      _ ≤ (2 * (y / 2 + 1)) * 2 ^ k := Nat.mul_le_mul_right _ this
      _ = (y / 2 + 1) * 2 ^ (k + 1) := by rw [Nat.pow_succ, Nat.mul_comm 2, Nat.mul_assoc, Nat.mul_comm 2]
  · have := blen_pos (n := y) (by omega)
    omega
  · have hy0 : y = 0 := by omega
    rw [hy0, Nat.zero_add, Nat.one_mul] at hk
    have := sidesN_len k (n := a0_n.toNat) (a := a1_at.toNat) hk
    rw [hd]
    omega
  · have fin : 1 < a0_n → ((half a0_n.toNat : Int) < (1 : Int) → false = true) ∧ (¬(half a0_n.toNat : Int) < (1 : Int) → (a0_n ≤ (half a0_n.toNat : Int) → false = true) ∧ (¬a0_n ≤ (half a0_n.toNat : Int) → ((half a0_n.toNat : Int) < IntKind.i64.wrap (a0_n - (half a0_n.toNat : Int)) → false = true) ∧ (¬(half a0_n.toNat : Int) < IntKind.i64.wrap (a0_n - (half a0_n.toNat : Int)) → (band IntKind.i64 (half a0_n.toNat : Int) (IntKind.i64.wrap ((half a0_n.toNat : Int) - (1 : Int))) ≠ (0 : Int) → false = true) ∧ (¬band IntKind.i64 (half a0_n.toNat : Int) (IntKind.i64.wrap ((half a0_n.toNat : Int) - (1 : Int))) ≠ (0 : Int) → true = true)))) := fun hn => by
      have a1 := half_pos (n := a0_n.toNat) (by omega)
      have a2 := half_lt (n := a0_n.toNat) (by omega)
      have a3 := half_ge (n := a0_n.toNat) (by omega)
      have e3 : IntKind.i64.wrap (a0_n - ((half a0_n.toNat : Nat) : Int)) = a0_n - ((half a0_n.toNat : Nat) : Int) := wrap_id (wf64 (by omega) (by omega))
      have e4 : IntKind.i64.wrap (((half a0_n.toNat : Nat) : Int) - 1) = ((half a0_n.toNat : Nat) : Int) - 1 := wrap_id (wf64 (by omega) (by omega))
      rw [e3, e4]
      exact ⟨fun hx => absurd hx (by omega), fun _ => ⟨fun hx => absurd hx (by omega), fun _ => ⟨fun hx => absurd hx (by omega), fun _ => ⟨fun hx => absurd (band_half (by omega) (by omega)) hx, fun _ => rfl⟩⟩⟩⟩
    refine ⟨fun h => ⟨fun hx => absurd ?_ hx, fun _ => ⟨fun hn => fin hn, fun _ => rfl⟩⟩, fun _ => ⟨fun hn => fin hn, fun _ => rfl⟩⟩
    rw [h]
    show ((half 1 : Nat) : Int) = 0
    rw [half_small (by decide)]
    rfl
theorem TreeShort_eq : (∀ a, TreeShort_C.pre a → PM.wfP TreeShort_C.pm a (fvc TreeShort_X 200 6 TreeShort_C a (eqO TreeShort_C a))) = (∀ a : Int × Int × Unit, True → (Ty.kd (.int .i64)).wf a.1 → (Ty.kd (.int .i64)).wf a.2.1 → TreeShort_VC a.1 a.2.1 (fun o0 => o0 = true)) := by kernel_rfl
theorem TreeShort_k : TreeShort_C.valid Try.prog 6 := ctr_of (X := TreeShort_X) (ok_of seat_ok (fun b hb => by cases hb; exact bkT_ok) fns_ok ⟨Half_k, Depth_k, awake4_k, trivial⟩) 200 (TreeShort_eq.mpr fun a hp w_0 w_1 => @TreeShort_ok a.1 a.2.1 w_0 w_1)
noncomputable def TreePaths_C : Ctr := ⟨[.v (.sl (.arr 32 .byte)), .v (.int .i64)], [.v .bool], none, fun a => (fun (a0_l : List (List UInt8)) (a1_at : Int) => ((true, ()), (()))) a.1 a.2.1⟩
noncomputable def TreePaths_X : Fx := ⟨seat, some bkT, fns, [(17, awake4_C), (18, PathR_C), (20, RPath_C), (19, RSame_C), (19, RSameR_C)], [], [], []⟩
def TreePaths_VC (a0_l : List (List UInt8)) (a1_at : Int) (Q : Bool → Prop) : Prop :=
  ((200 : Int) < (a0_l.length : Int) → Q true) ∧ (¬(200 : Int) < (a0_l.length : Int) → (([] : List (List UInt8)).length + a0_l.length) * (32 : Nat) ≤ (140737488355328 : Nat) ∧ (([] : List (List UInt8)) ++ a0_l).length ≤ (1048576 : Nat) ∧ ((Ty.arr (32 : Nat) Ty.byte).kd.sl.wf (pathN (([] : List (List UInt8)) ++ a0_l) a1_at) → a0_l.length ≤ (1048576 : Nat) ∧ ((Ty.arr (32 : Nat) Ty.byte).kd.sl.wf (pathN a0_l a1_at) → (¬decide (pathN (([] : List (List UInt8)) ++ a0_l) a1_at = pathN a0_l a1_at) = true → Q false) ∧ (decide (pathN (([] : List (List UInt8)) ++ a0_l) a1_at = pathN a0_l a1_at) = true → (decide (([] : List (List UInt8)) ++ a0_l = a0_l) = true → Q true) ∧ (decide (([] : List (List UInt8)) ++ a0_l = a0_l) = false → Q false)))))
theorem TreePaths_ok {a0_l : List (List UInt8)} {a1_at : Int} (w_0 : (Ty.kd (.sl (.arr 32 .byte))).wf a0_l) (w_1 : (Ty.kd (.int .i64)).wf a1_at) : TreePaths_VC a0_l a1_at (fun o0 => o0 = true) := by
  unfold TreePaths_VC
  generalize hq : (([] : List (List UInt8)) ++ a0_l) = q
  have hq' : a0_l = q := hq
  subst hq'
  clear hq
  exact ⟨fun _ => rfl, fun h => ⟨by simp only [List.length_nil]; omega, by omega, fun _ => ⟨by omega, fun _ => ⟨fun hn => absurd (decide_eq_true rfl) hn, fun _ => ⟨fun _ => rfl, fun hn => Bool.noConfusion ((decide_eq_true (rfl : a0_l = a0_l)).symm.trans hn)⟩⟩⟩⟩⟩
theorem TreePaths_eq : (∀ a, TreePaths_C.pre a → PM.wfP TreePaths_C.pm a (fvc TreePaths_X 200 3 TreePaths_C a (eqO TreePaths_C a))) = (∀ a : (List (List UInt8)) × Int × Unit, True → (Ty.kd (.sl (.arr 32 .byte))).wf a.1 → (Ty.kd (.int .i64)).wf a.2.1 → TreePaths_VC a.1 a.2.1 (fun o0 => o0 = true)) := by kernel_rfl
theorem TreePaths_k : TreePaths_C.valid Try.prog 3 := ctr_of (X := TreePaths_X) (ok_of seat_ok (fun b hb => by cases hb; exact bkT_ok) fns_ok ⟨awake4_k, PathR_k, RPath_k, RSame_k, RSameR_k, trivial⟩) 200 (TreePaths_eq.mpr fun a hp w_0 w_1 => @TreePaths_ok a.1 a.2.1 w_0 w_1)
noncomputable def TreeRoots_C : Ctr := ⟨[.v (.sl (.arr 32 .byte))], [.v .bool], none, fun a => (fun (a0_l : List (List UInt8)) => ((true, ()), (()))) a.1⟩
noncomputable def TreeRoots_X : Fx := ⟨seat, some bkT, fns, [(17, awake4_C), (27, RRoot_C), (25, RootN_C), (25, Root_C), (28, CallsO_C), (19, RSame_C), (19, RSameR_C)], [], [], [(9, [2], [.o 0 2, .o 1 2, .o 3 3, .o 2 1, .o 4 3, .o 5 3, .o 6 3, .o 8 3, .o 7 1, .o 9 3, .o 10 3, .o 11 3, .o 12 3, .o 14 3, .o 13 1, .o 15 3, .o 16 3, .o 17 3, .o 18 3, .o 19 3, .o 20 1, .o 21 3, .o 22 3, .o 23 1, .o 24 3, .o 25 3])]⟩
def TreeRoots_VC (a0_l : List (List UInt8)) (Q : Bool → Prop) : Prop :=
  ((200 : Int) < (a0_l.length : Int) → Q true) ∧ (¬(200 : Int) < (a0_l.length : Int) → (([] : List (List UInt8)).length + a0_l.length) * (32 : Nat) ≤ (140737488355328 : Nat) ∧ a0_l.length ≤ (1048576 : Nat) ∧ ((Ty.arr (32 : Nat) Ty.byte).kd.wf (rootS a0_l) → ((a0_l.length : Int) = (0 : Int) → ((([] : List (List UInt8)) ++ a0_l).length ≤ (1048576 : Nat) ∧ bookUpto (some (([] : List Nt), (0 : Int))) (([] : List (List UInt8)) ++ a0_l).length) ∧ ((Ty.arr (32 : Nat) Ty.byte).kd.wf (rootS (([] : List (List UInt8)) ++ a0_l)) → (rootS (([] : List (List UInt8)) ++ a0_l) = rootS a0_l → (Ty.int IntKind.i64).kd.wf (bookCalls (rootBk (some (([] : List Nt), (0 : Int))) (([] : List (List UInt8)) ++ a0_l))) → (bookCalls (rootBk (some (([] : List Nt), (0 : Int))) (([] : List (List UInt8)) ++ a0_l)) = (1 : Int) → (([] : List (List UInt8)) ++ a0_l).length ≤ (1048576 : Nat) ∧ ((Ty.arr (32 : Nat) Ty.byte).kd.wf (rootS (([] : List (List UInt8)) ++ a0_l)) → (rootS (([] : List (List UInt8)) ++ a0_l) = rootS a0_l → (decide (([] : List (List UInt8)) ++ a0_l = a0_l) = true → Q true) ∧ (decide (([] : List (List UInt8)) ++ a0_l = a0_l) = false → Q false)) ∧ (¬rootS (([] : List (List UInt8)) ++ a0_l) = rootS a0_l → Q false))) ∧ (¬bookCalls (rootBk (some (([] : List Nt), (0 : Int))) (([] : List (List UInt8)) ++ a0_l)) = (1 : Int) → Q false)) ∧ (¬rootS (([] : List (List UInt8)) ++ a0_l) = rootS a0_l → Q false))) ∧ (¬(a0_l.length : Int) = (0 : Int) → ((([] : List (List UInt8)) ++ a0_l).length ≤ (1048576 : Nat) ∧ bookUpto (some (([] : List Nt), (0 : Int))) (([] : List (List UInt8)) ++ a0_l).length) ∧ ((Ty.arr (32 : Nat) Ty.byte).kd.wf (rootS (([] : List (List UInt8)) ++ a0_l)) → (rootS (([] : List (List UInt8)) ++ a0_l) = rootS a0_l → (Ty.int IntKind.i64).kd.wf (bookCalls (rootBk (some (([] : List Nt), (0 : Int))) (([] : List (List UInt8)) ++ a0_l))) → ((bookCalls (rootBk (some (([] : List Nt), (0 : Int))) (([] : List (List UInt8)) ++ a0_l)) = bif true then max (IntKind.i64.wrap ((a0_l.length : Int) - (1 : Int))) (0 : Int) else min (IntKind.i64.wrap ((a0_l.length : Int) - (1 : Int))) (0 : Int)) → (([] : List (List UInt8)) ++ a0_l).length ≤ (1048576 : Nat) ∧ ((Ty.arr (32 : Nat) Ty.byte).kd.wf (rootS (([] : List (List UInt8)) ++ a0_l)) → (rootS (([] : List (List UInt8)) ++ a0_l) = rootS a0_l → (decide (([] : List (List UInt8)) ++ a0_l = a0_l) = true → Q true) ∧ (decide (([] : List (List UInt8)) ++ a0_l = a0_l) = false → Q false)) ∧ (¬rootS (([] : List (List UInt8)) ++ a0_l) = rootS a0_l → Q false))) ∧ ((¬bookCalls (rootBk (some (([] : List Nt), (0 : Int))) (([] : List (List UInt8)) ++ a0_l)) = bif true then max (IntKind.i64.wrap ((a0_l.length : Int) - (1 : Int))) (0 : Int) else min (IntKind.i64.wrap ((a0_l.length : Int) - (1 : Int))) (0 : Int)) → Q false)) ∧ (¬rootS (([] : List (List UInt8)) ++ a0_l) = rootS a0_l → Q false)))))
theorem TreeRoots_ok {a0_l : List (List UInt8)} (w_0 : (Ty.kd (.sl (.arr 32 .byte))).wf a0_l) : TreeRoots_VC a0_l (fun o0 => o0 = true) := by
  unfold TreeRoots_VC
  generalize hq : (([] : List (List UInt8)) ++ a0_l) = q
  have hq' : a0_l = q := hq
  subst hq'
  clear hq
  refine ⟨fun _ => rfl, fun h => ?_⟩
  have up : ∀ n, n ≤ 1048576 → bookUpto (some (([] : List Nt), (0 : Int))) n := fun n hn y hy => by
    cases hy
    simpa using hn
  have p1 : (([] : List (List UInt8)).length + a0_l.length) * (32 : Nat) ≤ (140737488355328 : Nat) := by simp only [List.length_nil]; omega
  have p2 : a0_l.length ≤ (1048576 : Nat) := by omega
  have p3 : a0_l.length ≤ (1048576 : Nat) ∧ bookUpto (some (([] : List Nt), (0 : Int))) a0_l.length := ⟨p2, up _ p2⟩
  have c0 : callsAt (some (([] : List Nt), (0 : Int))) 0 := ⟨_, rfl, rfl⟩
  have n1 : (a0_l.length : Int) = 0 → bookCalls (rootBk (some (([] : List Nt), (0 : Int))) a0_l) = (1 : Int) := fun h0 => by
    rw [List.length_eq_zero_iff.1 (by omega : a0_l.length = 0), rootBk_nil]
    exact (c0.of (by omega) 2 []).calls
  have n2 : ¬ (a0_l.length : Int) = 0 → bookCalls (rootBk (some (([] : List Nt), (0 : Int))) a0_l) = bif true then max (IntKind.i64.wrap ((a0_l.length : Int) - (1 : Int))) (0 : Int) else min (IntKind.i64.wrap ((a0_l.length : Int) - (1 : Int))) (0 : Int) := fun h0 => by
    rw [(callsAt.root _ (Nat.le_refl _) (by omega) c0 (by omega)).calls, wrap_id (wf64 (by omega) (by omega))]
    simp only [cond_true]
    omega
  repeat' first
    | with_reducible exact p1
    | with_reducible exact p2
    | with_reducible exact p3
    | with_reducible exact rfl
    | with_reducible exact fun h => absurd rfl h
    | with_reducible exact absurd (n1 (by assumption)) (by assumption)
    | with_reducible exact absurd (n2 (by assumption)) (by assumption)
    | with_reducible exact Bool.noConfusion ((decide_eq_true (rfl : a0_l = a0_l)).symm.trans (by assumption))
    | with_reducible refine And.intro ?_ ?_
    | intro _
theorem TreeRoots_eq : (∀ a, TreeRoots_C.pre a → PM.wfP TreeRoots_C.pm a (fvc TreeRoots_X 200 7 TreeRoots_C a (eqO TreeRoots_C a))) = (∀ a : (List (List UInt8)) × Unit, True → (Ty.kd (.sl (.arr 32 .byte))).wf a.1 → TreeRoots_VC a.1 (fun o0 => o0 = true)) := by kernel_rfl
theorem TreeRoots_k : TreeRoots_C.valid Try.prog 7 := ctr_of (X := TreeRoots_X) (ok_of seat_ok (fun b hb => by cases hb; exact bkT_ok) fns_ok ⟨awake4_k, RRoot_k, RootN_k, Root_k, CallsO_k, RSame_k, RSameR_k, trivial⟩) 200 (TreeRoots_eq.mpr fun a hp w_0 => @TreeRoots_ok a.1 w_0)
noncomputable def TreeLeads_C : Ctr := ⟨[.v (.int .i64), .v (.int .i64), .v (.arr 32 .byte), .v (.sl (.arr 32 .byte))], [.v .bool], none, fun a => (fun (a0_n : Int) (a1_at : Int) (a2_leaf : List UInt8) (a3_path : List (List UInt8)) => ((true, ()), (()))) a.1 a.2.1 a.2.2.1 a.2.2.2.1⟩
noncomputable def TreeLeads_X : Fx := ⟨seat, some bkT, fns, [(17, awake4_C), (26, Lead_C), (29, RLead_C), (28, CallsO_C), (19, RSame_C), (19, RSameR_C)], [], [], []⟩
def TreeLeads_VC (a0_n : Int) (a1_at : Int) (a2_leaf : List UInt8) (a3_path : List (List UInt8)) (Q : Bool → Prop) : Prop :=
  ((100 : Int) < (a3_path.length : Int) → Q true) ∧ (¬(100 : Int) < (a3_path.length : Int) → (([] : List (List UInt8)).length + a3_path.length) * (32 : Nat) ≤ (140737488355328 : Nat) ∧ ((([] : List (List UInt8)) ++ a3_path).length ≤ (1048576 : Nat) ∧ bookUpto (some (([] : List Nt), (0 : Int))) (([] : List (List UInt8)) ++ a3_path).length) ∧ ((Ty.arr (32 : Nat) Ty.byte).kd.wf (leadS a0_n a1_at a2_leaf (([] : List (List UInt8)) ++ a3_path)) → (Ty.int IntKind.i64).kd.wf (leadE a0_n a1_at (([] : List (List UInt8)) ++ a3_path)) → (Ty.arr (32 : Nat) Ty.byte).kd.wf (leadS a0_n a1_at a2_leaf a3_path) → (¬leadB a0_n a1_at a3_path = true → (leadE a0_n a1_at (([] : List (List UInt8)) ++ a3_path) = (10 : Int) → (leadS a0_n a1_at a2_leaf (([] : List (List UInt8)) ++ a3_path) = List.replicate (32 : Nat) Ty.byte.kd.z → (Ty.int IntKind.i64).kd.wf (bookCalls (leadK (some (([] : List Nt), (0 : Int))) a0_n a1_at a2_leaf (([] : List (List UInt8)) ++ a3_path))) → (bookCalls (leadK (some (([] : List Nt), (0 : Int))) a0_n a1_at a2_leaf (([] : List (List UInt8)) ++ a3_path)) = (0 : Int) → Q true) ∧ (¬bookCalls (leadK (some (([] : List Nt), (0 : Int))) a0_n a1_at a2_leaf (([] : List (List UInt8)) ++ a3_path)) = (0 : Int) → Q false)) ∧ (¬leadS a0_n a1_at a2_leaf (([] : List (List UInt8)) ++ a3_path) = List.replicate (32 : Nat) Ty.byte.kd.z → Q false)) ∧ (¬leadE a0_n a1_at (([] : List (List UInt8)) ++ a3_path) = (10 : Int) → Q false)) ∧ (leadB a0_n a1_at a3_path = true → (leadE a0_n a1_at (([] : List (List UInt8)) ++ a3_path) = (0 : Int) → (leadS a0_n a1_at a2_leaf (([] : List (List UInt8)) ++ a3_path) = leadS a0_n a1_at a2_leaf a3_path → (Ty.int IntKind.i64).kd.wf (bookCalls (leadK (some (([] : List Nt), (0 : Int))) a0_n a1_at a2_leaf (([] : List (List UInt8)) ++ a3_path))) → (bookCalls (leadK (some (([] : List Nt), (0 : Int))) a0_n a1_at a2_leaf (([] : List (List UInt8)) ++ a3_path)) = (a3_path.length : Int) → (decide (([] : List (List UInt8)) ++ a3_path = a3_path) = true → Q true) ∧ (decide (([] : List (List UInt8)) ++ a3_path = a3_path) = false → Q false)) ∧ (¬bookCalls (leadK (some (([] : List Nt), (0 : Int))) a0_n a1_at a2_leaf (([] : List (List UInt8)) ++ a3_path)) = (a3_path.length : Int) → Q false)) ∧ (¬leadS a0_n a1_at a2_leaf (([] : List (List UInt8)) ++ a3_path) = leadS a0_n a1_at a2_leaf a3_path → Q false)) ∧ (¬leadE a0_n a1_at (([] : List (List UInt8)) ++ a3_path) = (0 : Int) → Q false))))
theorem TreeLeads_ok {a0_n : Int} {a1_at : Int} {a2_leaf : List UInt8} {a3_path : List (List UInt8)} (w_0 : (Ty.kd (.int .i64)).wf a0_n) (w_1 : (Ty.kd (.int .i64)).wf a1_at) (w_2 : (Ty.kd (.arr 32 .byte)).wf a2_leaf) (w_3 : (Ty.kd (.sl (.arr 32 .byte))).wf a3_path) : TreeLeads_VC a0_n a1_at a2_leaf a3_path (fun o0 => o0 = true) := by
  unfold TreeLeads_VC
  generalize hq : (([] : List (List UInt8)) ++ a3_path) = q
  have hq' : a3_path = q := hq
  subst hq'
  clear hq
  refine ⟨fun _ => rfl, fun h => ?_⟩
  have up : ∀ n, n ≤ 1048576 → bookUpto (some (([] : List Nt), (0 : Int))) n := fun n hn y hy => by
    cases hy
    simpa using hn
  have p1 : (([] : List (List UInt8)).length + a3_path.length) * (32 : Nat) ≤ (140737488355328 : Nat) := by simp only [List.length_nil]; omega
  have p3 : a3_path.length ≤ (1048576 : Nat) ∧ bookUpto (some (([] : List Nt), (0 : Int))) a3_path.length := ⟨by omega, up _ (by omega)⟩
  have c0 : callsAt (some (([] : List Nt), (0 : Int))) 0 := ⟨_, rfl, rfl⟩
  cases hb : leadB a0_n a1_at a3_path with
  | false =>
    have q1 : leadE a0_n a1_at a3_path = (10 : Int) := by unfold leadE; rw [hb]; rfl
    have q2 : leadS a0_n a1_at a2_leaf a3_path = List.replicate (32 : Nat) Ty.byte.kd.z := by unfold leadS; rw [hb]; rfl
    have q3 : bookCalls (leadK (some (([] : List Nt), (0 : Int))) a0_n a1_at a2_leaf a3_path) = (0 : Int) := by unfold leadK; rw [hb]; rfl
    exact ⟨p1, p3, fun _ _ _ => ⟨fun _ => ⟨fun _ => ⟨fun _ _ => ⟨fun _ => rfl, fun hn => absurd q3 hn⟩, fun hn => absurd q2 hn⟩, fun hn => absurd q1 hn⟩, fun hn => Bool.noConfusion hn⟩⟩
  | true =>
    have q1 : leadE a0_n a1_at a3_path = (0 : Int) := by unfold leadE; rw [hb]; rfl
    have q3 : bookCalls (leadK (some (([] : List Nt), (0 : Int))) a0_n a1_at a2_leaf a3_path) = (a3_path.length : Int) := by
      have hl := (of_decide_eq_true hb).2
      unfold leadK
      rw [hb, if_pos rfl, (callsAt.foldK c0 (by rw [List.length_reverse, hl]) (by omega)).calls, Nat.zero_add]
    exact ⟨p1, p3, fun _ _ _ => ⟨fun hn => absurd rfl hn, fun _ => ⟨fun _ => ⟨fun _ _ => ⟨fun _ => ⟨fun _ => rfl, fun hn => Bool.noConfusion ((decide_eq_true (rfl : a3_path = a3_path)).symm.trans hn)⟩, fun hn => absurd q3 hn⟩, fun hn => absurd rfl hn⟩, fun hn => absurd q1 hn⟩⟩⟩
theorem TreeLeads_eq : (∀ a, TreeLeads_C.pre a → PM.wfP TreeLeads_C.pm a (fvc TreeLeads_X 200 8 TreeLeads_C a (eqO TreeLeads_C a))) = (∀ a : Int × Int × (List UInt8) × (List (List UInt8)) × Unit, True → (Ty.kd (.int .i64)).wf a.1 → (Ty.kd (.int .i64)).wf a.2.1 → (Ty.kd (.arr 32 .byte)).wf a.2.2.1 → (Ty.kd (.sl (.arr 32 .byte))).wf a.2.2.2.1 → TreeLeads_VC a.1 a.2.1 a.2.2.1 a.2.2.2.1 (fun o0 => o0 = true)) := by kernel_rfl
theorem TreeLeads_k : TreeLeads_C.valid Try.prog 8 := ctr_of (X := TreeLeads_X) (ok_of seat_ok (fun b hb => by cases hb; exact bkT_ok) fns_ok ⟨awake4_k, Lead_k, RLead_k, CallsO_k, RSame_k, RSameR_k, trivial⟩) 200 (TreeLeads_eq.mpr fun a hp w_0 w_1 w_2 w_3 => @TreeLeads_ok a.1 a.2.1 a.2.2.1 a.2.2.2.1 w_0 w_1 w_2 w_3)
noncomputable def TreeShows_C : Ctr := ⟨[.v (.sl (.arr 32 .byte))], [.v .bool], none, fun a => (fun (a0_l : List (List UInt8)) => ((true, ()), (()))) a.1⟩
noncomputable def TreeShows_X : Fx := ⟨seat, some bkT, fns, [(17, awake4_C), (25, RootN_C), (25, Root_C), (18, PathO_C), (18, PathR_C), (26, Lead_C)], [], [], [(7, [0, 1, 2, 3, 4, 5, 6, 7, 8, 9, 10, 11, 12], [.o 0 2, .o 1 2, .o 2 2, .o 3 2, .o 4 2, .o 5 2, .o 6 2, .o 7 2, .o 8 2, .par [9, 10, 11, 12, 13, 14] (.alt 9 0 (.alt 10 0 (.one 11 2 (.one 12 2 (.one 13 3 (.one 14 0 .fin)))) (.alt 14 0 (.one 10 0 (.one 11 2 (.one 12 2 (.one 13 3 .fin)))) .fin)) (.alt 14 0 (.one 9 0 (.one 10 0 (.one 11 2 (.one 12 2 (.one 13 3 .fin))))) .fin)), .o 15 1, .o 16 3])]⟩
def TreeShows_VC (a0_l : List (List UInt8)) (Q : Bool → Prop) : Prop :=
  ((200 : Int) < (a0_l.length : Int) → Q true) ∧ (¬(200 : Int) < (a0_l.length : Int) → a0_l.length ≤ (1048576 : Nat) ∧ ((Ty.arr (32 : Nat) Ty.byte).kd.wf (rootS a0_l) → ∃ (x0 : Bool → Int → Prop), ∃ (x1 : Bool → Int → Nat), x0 false (0 : Int) ∧ ∀ (x2 : Bool) (x3 : Int), x0 x2 x3 → (Kd.int IntKind.i64).wf x3 → (x3 < (a0_l.length : Int) → ((0 : Int) ≤ x3 ∧ x3 < (a0_l.length : Int)) ∧ (a0_l.length ≤ (1048576 : Nat) ∧ ((Ty.arr (32 : Nat) Ty.byte).kd.sl.wf (pathN a0_l x3) → (((pathN a0_l x3).length ≤ (1048576 : Nat) ∧ bookUpto (none : Option (List Nt × Int)) (pathN a0_l x3).length) ∧ ((Ty.arr (32 : Nat) Ty.byte).kd.wf (leadS (a0_l.length : Int) x3 (ix a0_l x3) (pathN a0_l x3)) → (Ty.int IntKind.i64).kd.wf (leadE (a0_l.length : Int) x3 (pathN a0_l x3)) → (leadE (a0_l.length : Int) x3 (pathN a0_l x3) ≠ (0 : Int) → Q false) ∧ (¬leadE (a0_l.length : Int) x3 (pathN a0_l x3) ≠ (0 : Int) → (leadS (a0_l.length : Int) x3 (ix a0_l x3) (pathN a0_l x3) ≠ rootS a0_l → Q false) ∧ (¬leadS (a0_l.length : Int) x3 (ix a0_l x3) (pathN a0_l x3) ≠ rootS a0_l → x3 < (9223372036854775807 : Int) ∧ x0 x2 (x3 + (1 : Int)) ∧ x1 x2 (x3 + (1 : Int)) < x1 x2 x3)))) ∧ (((pathN a0_l x3).length ≤ (1048576 : Nat) ∧ bookUpto (none : Option (List Nt × Int)) (pathN a0_l x3).length) ∧ ((Ty.arr (32 : Nat) Ty.byte).kd.wf (leadS (a0_l.length : Int) x3 (ix a0_l x3) (pathN a0_l x3)) → (Ty.int IntKind.i64).kd.wf (leadE (a0_l.length : Int) x3 (pathN a0_l x3)) → (leadE (a0_l.length : Int) x3 (pathN a0_l x3) ≠ (0 : Int) → Q false) ∧ (¬leadE (a0_l.length : Int) x3 (pathN a0_l x3) ≠ (0 : Int) → (leadS (a0_l.length : Int) x3 (ix a0_l x3) (pathN a0_l x3) ≠ rootS a0_l → Q false) ∧ (¬leadS (a0_l.length : Int) x3 (ix a0_l x3) (pathN a0_l x3) ≠ rootS a0_l → x3 < (9223372036854775807 : Int) ∧ x0 x2 (x3 + (1 : Int)) ∧ x1 x2 (x3 + (1 : Int)) < x1 x2 x3)))) ∧ True)) ∧ (a0_l.length ≤ (1048576 : Nat) ∧ ((Ty.arr (32 : Nat) Ty.byte).kd.sl.wf (pathN a0_l x3) → ((pathN a0_l x3).length ≤ (1048576 : Nat) ∧ bookUpto (none : Option (List Nt × Int)) (pathN a0_l x3).length) ∧ ((Ty.arr (32 : Nat) Ty.byte).kd.wf (leadS (a0_l.length : Int) x3 (ix a0_l x3) (pathN a0_l x3)) → (Ty.int IntKind.i64).kd.wf (leadE (a0_l.length : Int) x3 (pathN a0_l x3)) → (leadE (a0_l.length : Int) x3 (pathN a0_l x3) ≠ (0 : Int) → Q false) ∧ (¬leadE (a0_l.length : Int) x3 (pathN a0_l x3) ≠ (0 : Int) → (leadS (a0_l.length : Int) x3 (ix a0_l x3) (pathN a0_l x3) ≠ rootS a0_l → Q false) ∧ (¬leadS (a0_l.length : Int) x3 (ix a0_l x3) (pathN a0_l x3) ≠ rootS a0_l → x3 < (9223372036854775807 : Int) ∧ x0 x2 (x3 + (1 : Int)) ∧ x1 x2 (x3 + (1 : Int)) < x1 x2 x3))))) ∧ True) ∧ (¬x3 < (a0_l.length : Int) → (([] : List (List UInt8)).length ≤ (1048576 : Nat) ∧ bookUpto (none : Option (List Nt × Int)) ([] : List (List UInt8)).length) ∧ ((Ty.arr (32 : Nat) Ty.byte).kd.wf (leadS (a0_l.length : Int) (-1 : Int) (rootS a0_l) ([] : List (List UInt8))) → (Ty.int IntKind.i64).kd.wf (leadE (a0_l.length : Int) (-1 : Int) ([] : List (List UInt8))) → (([] : List (List UInt8)).length ≤ (1048576 : Nat) ∧ bookUpto (none : Option (List Nt × Int)) ([] : List (List UInt8)).length) ∧ ((Ty.arr (32 : Nat) Ty.byte).kd.wf (leadS (a0_l.length : Int) (a0_l.length : Int) (rootS a0_l) ([] : List (List UInt8))) → (Ty.int IntKind.i64).kd.wf (leadE (a0_l.length : Int) (a0_l.length : Int) ([] : List (List UInt8))) → (leadE (a0_l.length : Int) (-1 : Int) ([] : List (List UInt8)) = (10 : Int) → (leadE (a0_l.length : Int) (a0_l.length : Int) ([] : List (List UInt8)) = (10 : Int) → Q true) ∧ (¬leadE (a0_l.length : Int) (a0_l.length : Int) ([] : List (List UInt8)) = (10 : Int) → Q false)) ∧ (¬leadE (a0_l.length : Int) (-1 : Int) ([] : List (List UInt8)) = (10 : Int) → Q false))))))
theorem TreeShows_ok {a0_l : List (List UInt8)} (w_0 : (Ty.kd (.sl (.arr 32 .byte))).wf a0_l) : TreeShows_VC a0_l (fun o0 => o0 = true) := by
  unfold TreeShows_VC
  refine ⟨fun _ => rfl, fun h => ⟨by omega, fun _ => ?_⟩⟩
  have b3 : ∀ n, bookUpto (none : Option (List Nt × Int)) n := fun n y hy => by cases hy
  have n1 : ([] : List (List UInt8)).length ≤ (1048576 : Nat) := Nat.zero_le _
  have p0 : a0_l.length ≤ (1048576 : Nat) := by omega
  have no : ∀ a : Int, ¬ (0 ≤ a ∧ a < (a0_l.length : Int)) → leadE (a0_l.length : Int) a ([] : List (List UInt8)) = (10 : Int) := fun a ha => by
    unfold leadE leadB
    rw [decide_eq_false (fun hh => ha hh.1)]
    rfl
  have m1 := no (-1) (by omega)
  have m2 := no (a0_l.length : Int) (by omega)
  refine ⟨fun _ i => ∃ j : Nat, i = (j : Int) ∧ j ≤ a0_l.length, fun _ i => ((a0_l.length : Int) - i).toNat, ⟨0, rfl, Nat.zero_le _⟩, ?_⟩
  rintro r i ⟨j, rfl, hj⟩ _
  refine ⟨fun hlt => ?_, fun hge => ?_⟩
  · have hr : (0 : Int) ≤ (j : Int) ∧ (j : Int) < (a0_l.length : Int) := ⟨by omega, hlt⟩
    have e1 : leadE (a0_l.length : Int) (j : Int) (pathN a0_l (j : Int)) = (0 : Int) := by unfold leadE; rw [leadB_path hr]; rfl
    have e2 : leadS (a0_l.length : Int) (j : Int) (ix a0_l (j : Int)) (pathN a0_l (j : Int)) = rootS a0_l := leadS_path hr
    have p1 : (pathN a0_l (j : Int)).length ≤ (1048576 : Nat) := by
      have := pathN_len (l := a0_l) (a := (j : Int)) p0
      omega
    have p2 : (j : Int) < (9223372036854775807 : Int) := by omega
    have p3 : ∃ k : Nat, (j : Int) + 1 = (k : Int) ∧ k ≤ a0_l.length := ⟨j + 1, by omega, by omega⟩
    have p4 : ((a0_l.length : Int) - ((j : Int) + 1)).toNat < ((a0_l.length : Int) - (j : Int)).toNat := by omega
    have fin := And.intro p2 (And.intro p3 p4)
    repeat' first
      | with_reducible exact hr
      | with_reducible exact p0
      | with_reducible exact p1
      | with_reducible exact b3 _
      | exact fin
      | with_reducible exact fun h => absurd e1 h
      | with_reducible exact fun h => absurd e2 h
      | with_reducible exact trivial
      | with_reducible refine And.intro ?_ ?_
      | intro _
  · repeat' first
      | with_reducible exact n1
      | with_reducible exact b3 _
      | with_reducible exact rfl
      | with_reducible exact fun h => absurd m1 h
      | with_reducible exact fun h => absurd m2 h
      | with_reducible refine And.intro ?_ ?_
      | intro _
theorem TreeShows_eq : (∀ a, TreeShows_C.pre a → PM.wfP TreeShows_C.pm a (fvc TreeShows_X 200 5 TreeShows_C a (eqO TreeShows_C a))) = (∀ a : (List (List UInt8)) × Unit, True → (Ty.kd (.sl (.arr 32 .byte))).wf a.1 → TreeShows_VC a.1 (fun o0 => o0 = true)) := by kernel_rfl
theorem TreeShows_k : TreeShows_C.valid Try.prog 5 := ctr_of (X := TreeShows_X) (ok_of seat_ok (fun b hb => by cases hb; exact bkT_ok) fns_ok ⟨awake4_k, RootN_k, Root_k, PathO_k, PathR_k, Lead_k, trivial⟩) 200 (TreeShows_eq.mpr fun a hp w_0 => @TreeShows_ok a.1 w_0)
end Go.Proofs.Ytkffegaofdpkiaa

/- Each function that stands here: what it is asked and leaves (_C), its condition (_VC), that it holds (_ok), its contract (_c). -/
set_option linter.unusedVariables false
set_option maxRecDepth 100000
set_option maxHeartbeats 20000000
namespace Go.Proofs.Ytkffegaofdpkiaa
open Go Go.RowKit Go.Inc
noncomputable def TreeBinds_C : Ctr := ⟨[.v (.sl (.arr 32 .byte)), .v (.int .i64), .v (.arr 32 .byte), .v (.sl (.arr 32 .byte))], [.v .bool], none, fun a => (fun (a0_l : List (List UInt8)) (a1_at : Int) (a2_leaf : List UInt8) (a3_path : List (List UInt8)) => ((true, ()), (()))) a.1 a.2.1 a.2.2.1 a.2.2.2.1⟩
noncomputable def TreeBinds_X : Fx := ⟨seat, some bkT, fns, [(17, awake4_C), (25, RootN_C), (25, Root_C), (26, Lead_C), (18, PathO_C), (18, PathR_C), (30, same4_C), (39, Clash_C)], [31], [], [(10, [0, 1, 2, 3, 4, 5, 6, 7, 8, 9, 10, 11, 12], [.o 0 2, .o 1 2, .o 2 2, .o 3 2, .o 4 2, .o 5 2, .o 6 2, .o 7 2, .o 8 2, .o 9 2, .o 10 0, .o 11 0, .o 12 2, .o 13 2, .o 14 2, .o 15 2, .o 16 1, .o 17 3, .o 18 3, .o 19 1, .o 20 3, .o 21 3])]⟩
def TreeBinds_VC (a0_l : List (List UInt8)) (a1_at : Int) (a2_leaf : List UInt8) (a3_path : List (List UInt8)) (Q : Bool → Prop) : Prop :=
  ((200 : Int) < (a0_l.length : Int) → Q true) ∧ (¬(200 : Int) < (a0_l.length : Int) → ((40 : Int) < (a3_path.length : Int) → Q true) ∧ (¬(40 : Int) < (a3_path.length : Int) → ((a0_l.length : Int) = (0 : Int) → Q true) ∧ (¬(a0_l.length : Int) = (0 : Int) → (a0_l.length ≤ (1048576 : Nat) ∧ bookUpto (some (([] : List Nt), (0 : Int))) a0_l.length) ∧ ((Ty.arr (32 : Nat) Ty.byte).kd.wf (rootS a0_l) → (a3_path.length ≤ (1048576 : Nat) ∧ bookUpto (some (([] : List Nt), (0 : Int))) a3_path.length) ∧ ((Ty.arr (32 : Nat) Ty.byte).kd.wf (leadS (a0_l.length : Int) a1_at a2_leaf a3_path) → (Ty.int IntKind.i64).kd.wf (leadE (a0_l.length : Int) a1_at a3_path) → (leadE (a0_l.length : Int) a1_at a3_path ≠ (0 : Int) → Q true) ∧ (¬leadE (a0_l.length : Int) a1_at a3_path ≠ (0 : Int) → (leadS (a0_l.length : Int) a1_at a2_leaf a3_path ≠ rootS a0_l → Q true) ∧ (¬leadS (a0_l.length : Int) a1_at a2_leaf a3_path ≠ rootS a0_l → (a1_at < (0 : Int) → Q false) ∧ (¬a1_at < (0 : Int) → ((a0_l.length : Int) ≤ a1_at → Q false) ∧ (¬(a0_l.length : Int) ≤ a1_at → ((0 : Int) ≤ a1_at ∧ a1_at < (a0_l.length : Int)) ∧ (a2_leaf = ix a0_l a1_at → a0_l.length ≤ (1048576 : Nat) ∧ ((Ty.arr (32 : Nat) Ty.byte).kd.sl.wf (pathN a0_l a1_at) → (decide (a3_path = pathN a0_l a1_at) = true → Q true) ∧ (decide (a3_path = pathN a0_l a1_at) = false → clashPre (Option.map (fun (x0 : List Nt × Int) => ((x0.fst, ()), x0.snd)) (rootBk (some (([] : List Nt), (0 : Int))) a0_l) :: Option.map (fun (x0 : List Nt × Int) => ((x0.fst, ()), x0.snd)) (leadK (some (([] : List Nt), (0 : Int))) (a0_l.length : Int) a1_at a2_leaf a3_path) :: ([] : List (Option ((List (List UInt8 × List UInt8) × Unit) × Int)))) ∧ (Ty.byte.sl.kd.wf (clashA (Option.map (fun (x0 : List Nt × Int) => ((x0.fst, ()), x0.snd)) (rootBk (some (([] : List Nt), (0 : Int))) a0_l) :: Option.map (fun (x0 : List Nt × Int) => ((x0.fst, ()), x0.snd)) (leadK (some (([] : List Nt), (0 : Int))) (a0_l.length : Int) a1_at a2_leaf a3_path) :: ([] : List (Option ((List (List UInt8 × List UInt8) × Unit) × Int))))).fst → Ty.byte.sl.kd.wf (clashA (Option.map (fun (x0 : List Nt × Int) => ((x0.fst, ()), x0.snd)) (rootBk (some (([] : List Nt), (0 : Int))) a0_l) :: Option.map (fun (x0 : List Nt × Int) => ((x0.fst, ()), x0.snd)) (leadK (some (([] : List Nt), (0 : Int))) (a0_l.length : Int) a1_at a2_leaf a3_path) :: ([] : List (Option ((List (List UInt8 × List UInt8) × Unit) × Int))))).snd.fst → ((clashA (Option.map (fun (x0 : List Nt × Int) => ((x0.fst, ()), x0.snd)) (rootBk (some (([] : List Nt), (0 : Int))) a0_l) :: Option.map (fun (x0 : List Nt × Int) => ((x0.fst, ()), x0.snd)) (leadK (some (([] : List Nt), (0 : Int))) (a0_l.length : Int) a1_at a2_leaf a3_path) :: ([] : List (Option ((List (List UInt8 × List UInt8) × Unit) × Int))))).snd.snd = true → ((clashA (Option.map (fun (x0 : List Nt × Int) => ((x0.fst, ()), x0.snd)) (rootBk (some (([] : List Nt), (0 : Int))) a0_l) :: Option.map (fun (x0 : List Nt × Int) => ((x0.fst, ()), x0.snd)) (leadK (some (([] : List Nt), (0 : Int))) (a0_l.length : Int) a1_at a2_leaf a3_path) :: ([] : List (Option ((List (List UInt8 × List UInt8) × Unit) × Int))))).fst ≠ (clashA (Option.map (fun (x0 : List Nt × Int) => ((x0.fst, ()), x0.snd)) (rootBk (some (([] : List Nt), (0 : Int))) a0_l) :: Option.map (fun (x0 : List Nt × Int) => ((x0.fst, ()), x0.snd)) (leadK (some (([] : List Nt), (0 : Int))) (a0_l.length : Int) a1_at a2_leaf a3_path) :: ([] : List (Option ((List (List UInt8 × List UInt8) × Unit) × Int))))).snd.fst → Q true) ∧ (¬(clashA (Option.map (fun (x0 : List Nt × Int) => ((x0.fst, ()), x0.snd)) (rootBk (some (([] : List Nt), (0 : Int))) a0_l) :: Option.map (fun (x0 : List Nt × Int) => ((x0.fst, ()), x0.snd)) (leadK (some (([] : List Nt), (0 : Int))) (a0_l.length : Int) a1_at a2_leaf a3_path) :: ([] : List (Option ((List (List UInt8 × List UInt8) × Unit) × Int))))).fst ≠ (clashA (Option.map (fun (x0 : List Nt × Int) => ((x0.fst, ()), x0.snd)) (rootBk (some (([] : List Nt), (0 : Int))) a0_l) :: Option.map (fun (x0 : List Nt × Int) => ((x0.fst, ()), x0.snd)) (leadK (some (([] : List Nt), (0 : Int))) (a0_l.length : Int) a1_at a2_leaf a3_path) :: ([] : List (Option ((List (List UInt8 × List UInt8) × Unit) × Int))))).snd.fst → Q false)) ∧ ((clashA (Option.map (fun (x0 : List Nt × Int) => ((x0.fst, ()), x0.snd)) (rootBk (some (([] : List Nt), (0 : Int))) a0_l) :: Option.map (fun (x0 : List Nt × Int) => ((x0.fst, ()), x0.snd)) (leadK (some (([] : List Nt), (0 : Int))) (a0_l.length : Int) a1_at a2_leaf a3_path) :: ([] : List (Option ((List (List UInt8 × List UInt8) × Unit) × Int))))).snd.snd = false → Q false))))) ∧ (¬a2_leaf = ix a0_l a1_at → clashPre (Option.map (fun (x0 : List Nt × Int) => ((x0.fst, ()), x0.snd)) (rootBk (some (([] : List Nt), (0 : Int))) a0_l) :: Option.map (fun (x0 : List Nt × Int) => ((x0.fst, ()), x0.snd)) (leadK (some (([] : List Nt), (0 : Int))) (a0_l.length : Int) a1_at a2_leaf a3_path) :: ([] : List (Option ((List (List UInt8 × List UInt8) × Unit) × Int)))) ∧ (Ty.byte.sl.kd.wf (clashA (Option.map (fun (x0 : List Nt × Int) => ((x0.fst, ()), x0.snd)) (rootBk (some (([] : List Nt), (0 : Int))) a0_l) :: Option.map (fun (x0 : List Nt × Int) => ((x0.fst, ()), x0.snd)) (leadK (some (([] : List Nt), (0 : Int))) (a0_l.length : Int) a1_at a2_leaf a3_path) :: ([] : List (Option ((List (List UInt8 × List UInt8) × Unit) × Int))))).fst → Ty.byte.sl.kd.wf (clashA (Option.map (fun (x0 : List Nt × Int) => ((x0.fst, ()), x0.snd)) (rootBk (some (([] : List Nt), (0 : Int))) a0_l) :: Option.map (fun (x0 : List Nt × Int) => ((x0.fst, ()), x0.snd)) (leadK (some (([] : List Nt), (0 : Int))) (a0_l.length : Int) a1_at a2_leaf a3_path) :: ([] : List (Option ((List (List UInt8 × List UInt8) × Unit) × Int))))).snd.fst → ((clashA (Option.map (fun (x0 : List Nt × Int) => ((x0.fst, ()), x0.snd)) (rootBk (some (([] : List Nt), (0 : Int))) a0_l) :: Option.map (fun (x0 : List Nt × Int) => ((x0.fst, ()), x0.snd)) (leadK (some (([] : List Nt), (0 : Int))) (a0_l.length : Int) a1_at a2_leaf a3_path) :: ([] : List (Option ((List (List UInt8 × List UInt8) × Unit) × Int))))).snd.snd = true → ((clashA (Option.map (fun (x0 : List Nt × Int) => ((x0.fst, ()), x0.snd)) (rootBk (some (([] : List Nt), (0 : Int))) a0_l) :: Option.map (fun (x0 : List Nt × Int) => ((x0.fst, ()), x0.snd)) (leadK (some (([] : List Nt), (0 : Int))) (a0_l.length : Int) a1_at a2_leaf a3_path) :: ([] : List (Option ((List (List UInt8 × List UInt8) × Unit) × Int))))).fst ≠ (clashA (Option.map (fun (x0 : List Nt × Int) => ((x0.fst, ()), x0.snd)) (rootBk (some (([] : List Nt), (0 : Int))) a0_l) :: Option.map (fun (x0 : List Nt × Int) => ((x0.fst, ()), x0.snd)) (leadK (some (([] : List Nt), (0 : Int))) (a0_l.length : Int) a1_at a2_leaf a3_path) :: ([] : List (Option ((List (List UInt8 × List UInt8) × Unit) × Int))))).snd.fst → Q true) ∧ (¬(clashA (Option.map (fun (x0 : List Nt × Int) => ((x0.fst, ()), x0.snd)) (rootBk (some (([] : List Nt), (0 : Int))) a0_l) :: Option.map (fun (x0 : List Nt × Int) => ((x0.fst, ()), x0.snd)) (leadK (some (([] : List Nt), (0 : Int))) (a0_l.length : Int) a1_at a2_leaf a3_path) :: ([] : List (Option ((List (List UInt8 × List UInt8) × Unit) × Int))))).fst ≠ (clashA (Option.map (fun (x0 : List Nt × Int) => ((x0.fst, ()), x0.snd)) (rootBk (some (([] : List Nt), (0 : Int))) a0_l) :: Option.map (fun (x0 : List Nt × Int) => ((x0.fst, ()), x0.snd)) (leadK (some (([] : List Nt), (0 : Int))) (a0_l.length : Int) a1_at a2_leaf a3_path) :: ([] : List (Option ((List (List UInt8 × List UInt8) × Unit) × Int))))).snd.fst → Q false)) ∧ ((clashA (Option.map (fun (x0 : List Nt × Int) => ((x0.fst, ()), x0.snd)) (rootBk (some (([] : List Nt), (0 : Int))) a0_l) :: Option.map (fun (x0 : List Nt × Int) => ((x0.fst, ()), x0.snd)) (leadK (some (([] : List Nt), (0 : Int))) (a0_l.length : Int) a1_at a2_leaf a3_path) :: ([] : List (Option ((List (List UInt8 × List UInt8) × Unit) × Int))))).snd.snd = false → Q false))))))))))))
theorem TreeBinds_ok {a0_l : List (List UInt8)} {a1_at : Int} {a2_leaf : List UInt8} {a3_path : List (List UInt8)} (w_0 : (Ty.kd (.sl (.arr 32 .byte))).wf a0_l) (w_1 : (Ty.kd (.int .i64)).wf a1_at) (w_2 : (Ty.kd (.arr 32 .byte)).wf a2_leaf) (w_3 : (Ty.kd (.sl (.arr 32 .byte))).wf a3_path) : TreeBinds_VC a0_l a1_at a2_leaf a3_path (fun o0 => o0 = true) := by
  have w0 : ∀ z ∈ a0_l, z.length = 32 := fun z hz => (w_0.2 z hz).1
  have w3 : ∀ z ∈ a3_path, z.length = 32 := fun z hz => (w_3.2 z hz).1
  have w2 : a2_leaf.length = 32 := w_2.1
  have up : ∀ n, n ≤ 1048576 → bookUpto (some (([] : List Nt), (0 : Int))) n := fun n hn y hy => by
    cases hy
    simpa using hn
  have sm : smallB (some (([] : List Nt), (0 : Int))) := fun y hy z hz => by
    cases hy
    cases hz
  have fz : ∀ b : BookA, Option.map (fun x : List Nt × Int => ((x.1, ()), x.2)) b = frzB b := fun _ => rfl
  unfold TreeBinds_VC
  refine ⟨fun _ => rfl, fun hl => ⟨fun _ => rfl, fun hp => ⟨fun _ => rfl, fun hz => ?_⟩⟩⟩
  simp only [fz]
  have p1 : a0_l.length ≤ (1048576 : Nat) ∧ bookUpto (some (([] : List Nt), (0 : Int))) a0_l.length := ⟨by omega, up _ (by omega)⟩
  have p2 : a3_path.length ≤ (1048576 : Nat) ∧ bookUpto (some (([] : List Nt), (0 : Int))) a3_path.length := ⟨by omega, up _ (by omega)⟩
  have p3 : a0_l.length ≤ (1048576 : Nat) := p1.1
  refine ⟨p1, fun _ => ⟨p2, fun _ _ => ⟨fun _ => trivial, fun hE => ⟨fun _ => trivial, fun hS => ?_⟩⟩⟩⟩
  have hb : leadB (a0_l.length : Int) a1_at a3_path = true := by
    cases hb : leadB (a0_l.length : Int) a1_at a3_path with
    | true => rfl
    | false =>
      exfalso
      apply hE
      unfold leadE
      rw [hb]
      decide
  have hb' := of_decide_eq_true hb
  have hr := hb'.1
  refine ⟨fun hx => absurd hr.1 (by omega), fun _ => ⟨fun hx => absurd hr.2 (by omega), fun _ => ⟨hr, ?_⟩⟩⟩
  have hS' : leadS (a0_l.length : Int) a1_at a2_leaf a3_path = rootS a0_l := Classical.not_not.1 hS
  have eK : leadK (some (([] : List Nt), (0 : Int))) (a0_l.length : Int) a1_at a2_leaf a3_path = foldK (sidesN a0_l.length a1_at.toNat).reverse a3_path a2_leaf (some (([] : List Nt), (0 : Int))) := by
    unfold leadK
    rw [hb, if_pos rfl, Int.toNat_natCast]
  have eS : foldL (sidesN a0_l.length a1_at.toNat).reverse a3_path a2_leaf = rootS a0_l := by
    unfold leadS at hS'
    rw [hb, if_pos rfl, Int.toNat_natCast] at hS'
    exact hS'
  rw [eK]
  obtain ⟨A, hA⟩ := Option.isSome_iff_exists.1 (rootBk_isSome a0_l.length (l := a0_l) (x := some (([] : List Nt), (0 : Int))) (Nat.le_refl _) rfl)
  obtain ⟨B, hB⟩ := Option.isSome_iff_exists.1 (foldK_isSome (A := (sidesN a0_l.length a1_at.toNat).reverse) (P := a3_path) (s := a2_leaf) (x := some (([] : List Nt), (0 : Int))) rfl)
  have uA : bookUpto (rootBk (some (([] : List Nt), (0 : Int))) a0_l) 0 := bookUpto.root _ (Nat.le_refl _) (by omega) (up _ (by omega))
  have uB : bookUpto (foldK (sidesN a0_l.length a1_at.toNat).reverse a3_path a2_leaf (some (([] : List Nt), (0 : Int)))) 0 := bookUpto.foldK (up _ (by omega))
  have sA := smallB.root _ (Nat.le_refl _) w0 sm
  have sB := smallB.foldK (A := (sidesN a0_l.length a1_at.toNat).reverse) w2 w3 sm
  have hcl := clash_pair A B
  have hlen : a3_path.length = (sidesN a0_l.length a1_at.toNat).length := by
    have := hb'.2
    rwa [Int.toNat_natCast] at this
  have main : ¬ (a2_leaf = ix a0_l a1_at ∧ a3_path = pathN a0_l a1_at) → (clashA [frzB (some A), frzB (some B)]).2.2 = true := fun hne => by
    cases hf : (clashA [frzB (some A), frzB (some B)]).2.2 with
    | true => rfl
    | false =>
      exfalso
      have := lead_binds (x := some (([] : List Nt), (0 : Int))) (y := some (([] : List Nt), (0 : Int))) (hcl.2 hf) _ (Nat.le_refl _) (show a1_at.toNat < a0_l.length by omega) hlen w0 w3 w2 rfl rfl ?_ ?_ eS
      · rw [Int.toNat_of_nonneg hr.1] at this
        refine hne ⟨this.1, ?_⟩
        unfold pathN
        rw [if_pos hr]
        exact this.2
      · rw [hA]
        intro y hy z hz
        cases hy
        exact List.mem_append.2 (.inl hz)
      · rw [hB]
        intro y hy z hz
        cases hy
        exact List.mem_append.2 (.inr hz)
  rw [hA] at uA sA ⊢
  rw [hB] at uB sB ⊢
  have cp := clashPre_pair uA uB sA sB
  have hne := hcl.1
  clear hcl uA uB sA sB hA hB eK
  generalize clashA [frzB (some A), frzB (some B)] = D at hne main ⊢
  have leaf : decide (a3_path = pathN a0_l a1_at) = false → D.2.2 = true := fun h1 => main fun hh => (of_decide_eq_false h1) hh.2
  have leaf2 : ¬ a2_leaf = ix a0_l a1_at → D.2.2 = true := fun h1 => main fun hh => h1 hh.1
  repeat' first
    | with_reducible exact p3
    | with_reducible exact cp
    | with_reducible exact fun _ => rfl
    | with_reducible exact trivial
    | (intro hx; exact absurd (hne (by assumption)) hx)
    | (intro hx; have hy := leaf (by assumption); rw [hx] at hy; exact hy)
    | (intro hx; have hy := leaf2 (by assumption); rw [hx] at hy; exact hy)
    | with_reducible refine And.intro ?_ ?_
    | intro _
theorem TreeBinds_eq : (∀ a, TreeBinds_C.pre a → PM.wfP TreeBinds_C.pm a (fvc TreeBinds_X 200 9 TreeBinds_C a (eqO TreeBinds_C a))) = (∀ a : (List (List UInt8)) × Int × (List UInt8) × (List (List UInt8)) × Unit, True → (Ty.kd (.sl (.arr 32 .byte))).wf a.1 → (Ty.kd (.int .i64)).wf a.2.1 → (Ty.kd (.arr 32 .byte)).wf a.2.2.1 → (Ty.kd (.sl (.arr 32 .byte))).wf a.2.2.2.1 → TreeBinds_VC a.1 a.2.1 a.2.2.1 a.2.2.2.1 (fun o0 => o0 = true)) := by kernel_rfl
theorem TreeBinds_k : TreeBinds_C.valid Try.prog 9 := ctr_of (X := TreeBinds_X) (ok_of seat_ok (fun b hb => by cases hb; exact bkT_ok) fns_ok ⟨awake4_k, RootN_k, Root_k, Lead_k, PathO_k, PathR_k, same4_k, Clash_k, trivial⟩) 200 (TreeBinds_eq.mpr fun a hp w_0 w_1 w_2 w_3 => @TreeBinds_ok a.1 a.2.1 a.2.2.1 a.2.2.2.1 w_0 w_1 w_2 w_3)
noncomputable def TreeUnlike_C : Ctr := ⟨[.v (.sl (.arr 32 .byte)), .v (.sl (.arr 32 .byte))], [.v .bool], none, fun a => (fun (a0_l : List (List UInt8)) (a1_m : List (List UInt8)) => ((true, ()), (()))) a.1 a.2.1⟩
noncomputable def TreeUnlike_X : Fx := ⟨seat, some bkT, fns, [(17, awake4_C), (25, RootN_C), (25, Root_C), (30, same4_C), (39, Clash_C)], [31], [], []⟩
def TreeUnlike_VC (a0_l : List (List UInt8)) (a1_m : List (List UInt8)) (Q : Bool → Prop) : Prop :=
  ((200 : Int) < (a0_l.length : Int) → Q true) ∧ (¬(200 : Int) < (a0_l.length : Int) → ((a1_m.length : Int) ≠ (a0_l.length : Int) → Q true) ∧ (¬(a1_m.length : Int) ≠ (a0_l.length : Int) → (a0_l.length ≤ (1048576 : Nat) ∧ bookUpto (some (([] : List Nt), (0 : Int))) a0_l.length) ∧ ((Ty.arr (32 : Nat) Ty.byte).kd.wf (rootS a0_l) → (a1_m.length ≤ (1048576 : Nat) ∧ bookUpto (some (([] : List Nt), (0 : Int))) a1_m.length) ∧ ((Ty.arr (32 : Nat) Ty.byte).kd.wf (rootS a1_m) → (rootS a0_l ≠ rootS a1_m → (¬decide (a0_l = a1_m) = true → Q true) ∧ (decide (a0_l = a1_m) = true → (rootS a0_l = rootS a1_m → (decide (a0_l = a1_m) = true → Q true) ∧ (decide (a0_l = a1_m) = false → clashPre (Option.map (fun (x0 : List Nt × Int) => ((x0.fst, ()), x0.snd)) (rootBk (some (([] : List Nt), (0 : Int))) a0_l) :: Option.map (fun (x0 : List Nt × Int) => ((x0.fst, ()), x0.snd)) (rootBk (some (([] : List Nt), (0 : Int))) a1_m) :: ([] : List (Option ((List (List UInt8 × List UInt8) × Unit) × Int)))) ∧ (Ty.byte.sl.kd.wf (clashA (Option.map (fun (x0 : List Nt × Int) => ((x0.fst, ()), x0.snd)) (rootBk (some (([] : List Nt), (0 : Int))) a0_l) :: Option.map (fun (x0 : List Nt × Int) => ((x0.fst, ()), x0.snd)) (rootBk (some (([] : List Nt), (0 : Int))) a1_m) :: ([] : List (Option ((List (List UInt8 × List UInt8) × Unit) × Int))))).fst → Ty.byte.sl.kd.wf (clashA (Option.map (fun (x0 : List Nt × Int) => ((x0.fst, ()), x0.snd)) (rootBk (some (([] : List Nt), (0 : Int))) a0_l) :: Option.map (fun (x0 : List Nt × Int) => ((x0.fst, ()), x0.snd)) (rootBk (some (([] : List Nt), (0 : Int))) a1_m) :: ([] : List (Option ((List (List UInt8 × List UInt8) × Unit) × Int))))).snd.fst → ((clashA (Option.map (fun (x0 : List Nt × Int) => ((x0.fst, ()), x0.snd)) (rootBk (some (([] : List Nt), (0 : Int))) a0_l) :: Option.map (fun (x0 : List Nt × Int) => ((x0.fst, ()), x0.snd)) (rootBk (some (([] : List Nt), (0 : Int))) a1_m) :: ([] : List (Option ((List (List UInt8 × List UInt8) × Unit) × Int))))).snd.snd = true → ((clashA (Option.map (fun (x0 : List Nt × Int) => ((x0.fst, ()), x0.snd)) (rootBk (some (([] : List Nt), (0 : Int))) a0_l) :: Option.map (fun (x0 : List Nt × Int) => ((x0.fst, ()), x0.snd)) (rootBk (some (([] : List Nt), (0 : Int))) a1_m) :: ([] : List (Option ((List (List UInt8 × List UInt8) × Unit) × Int))))).fst ≠ (clashA (Option.map (fun (x0 : List Nt × Int) => ((x0.fst, ()), x0.snd)) (rootBk (some (([] : List Nt), (0 : Int))) a0_l) :: Option.map (fun (x0 : List Nt × Int) => ((x0.fst, ()), x0.snd)) (rootBk (some (([] : List Nt), (0 : Int))) a1_m) :: ([] : List (Option ((List (List UInt8 × List UInt8) × Unit) × Int))))).snd.fst → Q true) ∧ (¬(clashA (Option.map (fun (x0 : List Nt × Int) => ((x0.fst, ()), x0.snd)) (rootBk (some (([] : List Nt), (0 : Int))) a0_l) :: Option.map (fun (x0 : List Nt × Int) => ((x0.fst, ()), x0.snd)) (rootBk (some (([] : List Nt), (0 : Int))) a1_m) :: ([] : List (Option ((List (List UInt8 × List UInt8) × Unit) × Int))))).fst ≠ (clashA (Option.map (fun (x0 : List Nt × Int) => ((x0.fst, ()), x0.snd)) (rootBk (some (([] : List Nt), (0 : Int))) a0_l) :: Option.map (fun (x0 : List Nt × Int) => ((x0.fst, ()), x0.snd)) (rootBk (some (([] : List Nt), (0 : Int))) a1_m) :: ([] : List (Option ((List (List UInt8 × List UInt8) × Unit) × Int))))).snd.fst → Q false)) ∧ ((clashA (Option.map (fun (x0 : List Nt × Int) => ((x0.fst, ()), x0.snd)) (rootBk (some (([] : List Nt), (0 : Int))) a0_l) :: Option.map (fun (x0 : List Nt × Int) => ((x0.fst, ()), x0.snd)) (rootBk (some (([] : List Nt), (0 : Int))) a1_m) :: ([] : List (Option ((List (List UInt8 × List UInt8) × Unit) × Int))))).snd.snd = false → Q false)))) ∧ (¬rootS a0_l = rootS a1_m → Q false))) ∧ (¬rootS a0_l ≠ rootS a1_m → (rootS a0_l = rootS a1_m → (decide (a0_l = a1_m) = true → Q true) ∧ (decide (a0_l = a1_m) = false → clashPre (Option.map (fun (x0 : List Nt × Int) => ((x0.fst, ()), x0.snd)) (rootBk (some (([] : List Nt), (0 : Int))) a0_l) :: Option.map (fun (x0 : List Nt × Int) => ((x0.fst, ()), x0.snd)) (rootBk (some (([] : List Nt), (0 : Int))) a1_m) :: ([] : List (Option ((List (List UInt8 × List UInt8) × Unit) × Int)))) ∧ (Ty.byte.sl.kd.wf (clashA (Option.map (fun (x0 : List Nt × Int) => ((x0.fst, ()), x0.snd)) (rootBk (some (([] : List Nt), (0 : Int))) a0_l) :: Option.map (fun (x0 : List Nt × Int) => ((x0.fst, ()), x0.snd)) (rootBk (some (([] : List Nt), (0 : Int))) a1_m) :: ([] : List (Option ((List (List UInt8 × List UInt8) × Unit) × Int))))).fst → Ty.byte.sl.kd.wf (clashA (Option.map (fun (x0 : List Nt × Int) => ((x0.fst, ()), x0.snd)) (rootBk (some (([] : List Nt), (0 : Int))) a0_l) :: Option.map (fun (x0 : List Nt × Int) => ((x0.fst, ()), x0.snd)) (rootBk (some (([] : List Nt), (0 : Int))) a1_m) :: ([] : List (Option ((List (List UInt8 × List UInt8) × Unit) × Int))))).snd.fst → ((clashA (Option.map (fun (x0 : List Nt × Int) => ((x0.fst, ()), x0.snd)) (rootBk (some (([] : List Nt), (0 : Int))) a0_l) :: Option.map (fun (x0 : List Nt × Int) => ((x0.fst, ()), x0.snd)) (rootBk (some (([] : List Nt), (0 : Int))) a1_m) :: ([] : List (Option ((List (List UInt8 × List UInt8) × Unit) × Int))))).snd.snd = true → ((clashA (Option.map (fun (x0 : List Nt × Int) => ((x0.fst, ()), x0.snd)) (rootBk (some (([] : List Nt), (0 : Int))) a0_l) :: Option.map (fun (x0 : List Nt × Int) => ((x0.fst, ()), x0.snd)) (rootBk (some (([] : List Nt), (0 : Int))) a1_m) :: ([] : List (Option ((List (List UInt8 × List UInt8) × Unit) × Int))))).fst ≠ (clashA (Option.map (fun (x0 : List Nt × Int) => ((x0.fst, ()), x0.snd)) (rootBk (some (([] : List Nt), (0 : Int))) a0_l) :: Option.map (fun (x0 : List Nt × Int) => ((x0.fst, ()), x0.snd)) (rootBk (some (([] : List Nt), (0 : Int))) a1_m) :: ([] : List (Option ((List (List UInt8 × List UInt8) × Unit) × Int))))).snd.fst → Q true) ∧ (¬(clashA (Option.map (fun (x0 : List Nt × Int) => ((x0.fst, ()), x0.snd)) (rootBk (some (([] : List Nt), (0 : Int))) a0_l) :: Option.map (fun (x0 : List Nt × Int) => ((x0.fst, ()), x0.snd)) (rootBk (some (([] : List Nt), (0 : Int))) a1_m) :: ([] : List (Option ((List (List UInt8 × List UInt8) × Unit) × Int))))).fst ≠ (clashA (Option.map (fun (x0 : List Nt × Int) => ((x0.fst, ()), x0.snd)) (rootBk (some (([] : List Nt), (0 : Int))) a0_l) :: Option.map (fun (x0 : List Nt × Int) => ((x0.fst, ()), x0.snd)) (rootBk (some (([] : List Nt), (0 : Int))) a1_m) :: ([] : List (Option ((List (List UInt8 × List UInt8) × Unit) × Int))))).snd.fst → Q false)) ∧ ((clashA (Option.map (fun (x0 : List Nt × Int) => ((x0.fst, ()), x0.snd)) (rootBk (some (([] : List Nt), (0 : Int))) a0_l) :: Option.map (fun (x0 : List Nt × Int) => ((x0.fst, ()), x0.snd)) (rootBk (some (([] : List Nt), (0 : Int))) a1_m) :: ([] : List (Option ((List (List UInt8 × List UInt8) × Unit) × Int))))).snd.snd = false → Q false)))) ∧ (¬rootS a0_l = rootS a1_m → Q false))))))
theorem TreeUnlike_ok {a0_l : List (List UInt8)} {a1_m : List (List UInt8)} (w_0 : (Ty.kd (.sl (.arr 32 .byte))).wf a0_l) (w_1 : (Ty.kd (.sl (.arr 32 .byte))).wf a1_m) : TreeUnlike_VC a0_l a1_m (fun o0 => o0 = true) := by
  have w0 : ∀ z ∈ a0_l, z.length = 32 := fun z hz => (w_0.2 z hz).1
  have w1 : ∀ z ∈ a1_m, z.length = 32 := fun z hz => (w_1.2 z hz).1
  have up : ∀ n, n ≤ 1048576 → bookUpto (some (([] : List Nt), (0 : Int))) n := fun n hn y hy => by
    cases hy
    simpa using hn
  have sm : smallB (some (([] : List Nt), (0 : Int))) := fun y hy z hz => by
    cases hy
    cases hz
  have fz : ∀ b : BookA, Option.map (fun x : List Nt × Int => ((x.1, ()), x.2)) b = frzB b := fun _ => rfl
  unfold TreeUnlike_VC
  refine ⟨fun _ => rfl, fun hl => ⟨fun _ => rfl, fun hm => ?_⟩⟩
  simp only [fz]
  have hlen : a1_m.length = a0_l.length := by omega
  have p1 : a0_l.length ≤ (1048576 : Nat) ∧ bookUpto (some (([] : List Nt), (0 : Int))) a0_l.length := ⟨by omega, up _ (by omega)⟩
  have p2 : a1_m.length ≤ (1048576 : Nat) ∧ bookUpto (some (([] : List Nt), (0 : Int))) a1_m.length := ⟨by omega, up _ (by omega)⟩
  obtain ⟨A, hA⟩ := Option.isSome_iff_exists.1 (rootBk_isSome a0_l.length (l := a0_l) (x := some (([] : List Nt), (0 : Int))) (Nat.le_refl _) rfl)
  obtain ⟨B, hB⟩ := Option.isSome_iff_exists.1 (rootBk_isSome a1_m.length (l := a1_m) (x := some (([] : List Nt), (0 : Int))) (Nat.le_refl _) rfl)
  have u : ∀ l : List Sm, l.length ≤ 200 → bookUpto (rootBk (some (([] : List Nt), (0 : Int))) l) 0 := fun l hl => by
    rcases Nat.eq_zero_or_pos l.length with h0 | h0
    · rw [List.length_eq_zero_iff.1 h0, rootBk_nil]; exact (up 1 (by omega)).of _ _
    · exact bookUpto.root _ (Nat.le_refl _) h0 (up _ (by omega))
  have uA := u a0_l (by omega)
  have uB := u a1_m (by omega)
  have sA := smallB.root _ (Nat.le_refl _) w0 sm
  have sB := smallB.root _ (Nat.le_refl _) w1 sm
  have hcl := clash_pair A B
  have main : ¬ a0_l = a1_m → rootS a0_l = rootS a1_m → (clashA [frzB (some A), frzB (some B)]).2.2 = true := fun hne he => by
    cases hf : (clashA [frzB (some A), frzB (some B)]).2.2 with
    | true => rfl
    | false =>
      exfalso
      refine hne (root_binds (x := some (([] : List Nt), (0 : Int))) (y := some (([] : List Nt), (0 : Int))) (hcl.2 hf) _ (Nat.le_refl _) hlen w0 w1 rfl rfl ?_ ?_ he)
      · rw [hA]
        intro y hy z hz
        cases hy
        exact List.mem_append.2 (.inl hz)
      · rw [hB]
        intro y hy z hz
        cases hy
        exact List.mem_append.2 (.inr hz)
  rw [hA] at uA sA ⊢
  rw [hB] at uB sB ⊢
  have cp := clashPre_pair uA uB sA sB
  have hne := hcl.1
  clear hcl uA uB sA sB hA hB u
  generalize clashA [frzB (some A), frzB (some B)] = D at hne main ⊢
  have leaf : decide (a0_l = a1_m) = false → rootS a0_l = rootS a1_m → D.2.2 = true := fun h1 h2 => main (of_decide_eq_false h1) h2
  have same : rootS a0_l ≠ rootS a1_m → decide (a0_l = a1_m) = true → False := fun h1 h2 => h1 (by rw [of_decide_eq_true h2])
  repeat' first
    | with_reducible exact p1
    | with_reducible exact p2
    | with_reducible exact cp
    | with_reducible exact fun _ => rfl
    | with_reducible exact trivial
    | (intro hx; exact absurd (hne (by assumption)) hx)
    | (intro hx; have hy := leaf (by assumption) (by assumption); rw [hx] at hy; exact hy)
    | (intro hx; exact absurd (same (by assumption) hx) id)
    | (intro hx; exact absurd (by assumption) hx)
    | (intro hx; exact absurd hx (by assumption))
    | with_reducible refine And.intro ?_ ?_
    | intro _
theorem TreeUnlike_eq : (∀ a, TreeUnlike_C.pre a → PM.wfP TreeUnlike_C.pm a (fvc TreeUnlike_X 200 10 TreeUnlike_C a (eqO TreeUnlike_C a))) = (∀ a : (List (List UInt8)) × (List (List UInt8)) × Unit, True → (Ty.kd (.sl (.arr 32 .byte))).wf a.1 → (Ty.kd (.sl (.arr 32 .byte))).wf a.2.1 → TreeUnlike_VC a.1 a.2.1 (fun o0 => o0 = true)) := by kernel_rfl
theorem TreeUnlike_k : TreeUnlike_C.valid Try.prog 10 := ctr_of (X := TreeUnlike_X) (ok_of seat_ok (fun b hb => by cases hb; exact bkT_ok) fns_ok ⟨awake4_k, RootN_k, Root_k, same4_k, Clash_k, trivial⟩) 200 (TreeUnlike_eq.mpr fun a hp w_0 w_1 => @TreeUnlike_ok a.1 a.2.1 w_0 w_1)
end Go.Proofs.Ytkffegaofdpkiaa

/-
  PLAIN 7: what the arguments of a statement are, told in the kinds of BASE: each argument that can be read is of its kind, over the ghost of the whole heap.
-/
set_option linter.unusedVariables false
namespace Go.Proofs.Ytkffegaofdpkiaa
open Go Go.RowKit Go.Inc Go.ChangeShapes Go.WideShapes Go.ChangeAt

theorem one_le {H : Type} (d : DataW H) : 1 ≤ Rows.uptoBulk d := by
  cases d with
  | lit l => cases l <;> simp [Rows.uptoBulk]
  | nil => simp [Rows.uptoBulk]
  | ptr d => simp [Rows.uptoBulk]
  | slice elems spare => simp [Rows.uptoBulk]
  | agg parts => simp [Rows.uptoBulk]
  | iface t d => simp [Rows.uptoBulk]
  | map entries => simp [Rows.uptoBulk]
  | held h => simp [Rows.uptoBulk]
theorem part_le {H : Type} {d : DataW H} {l : List (DataW H)} (h : d ∈ l) : Rows.uptoBulk d ≤ Rows.uptoBulkAll l := by
  induction l with
  | nil => cases h
  | cons x r ih =>
    simp only [Rows.uptoBulkAll]
    cases List.mem_cons.1 h with
    | inl e => subst e; omega
    | inr e => have := ih e; omega
theorem length_le {H : Type} (l : List (DataW H)) : l.length ≤ Rows.uptoBulkAll l := by
  induction l with
  | nil => simp [Rows.uptoBulkAll]
  | cons x r ih => have := one_le x; simp only [Rows.uptoBulkAll, List.length_cons]; omega
theorem small_of {H : Type} {l : List (DataW H)} (hk : Rows.uptoSmall H l = true) : Rows.uptoBulkAll l ≤ 1048576 := by
  simpa [Rows.uptoSmall] using hk

/-- the whole heap's rows, as they are -/
def GhostW (w : World) : Ghost := fun b => match w.heap[b]? with
  | some (.cells c t _) => some (t, c.toList)
  | _ => none
theorem Models.ofW (w : World) : Models w (GhostW w) := fun b t l h => by
  unfold GhostW at h
  split at h
  · rename_i c t' fr hh
    cases h
    exact ⟨c, fr, hh, List.prefix_refl _⟩
  · cases h
section
variable {P : Program} {α β : Type} {k : Kd α} {k' : Kd β} {t e : TypeId} {by_ : Nat} {S : α → Prop} {S' : β → Prop}
/-- so great a thing may be: every list has at most 1048576 members -/
def sm0 {α : Type} : α → Prop := fun _ => True
def smL {α : Type} (S : α → Prop) : List α → Prop := fun l => l.length ≤ 1048576 ∧ ∀ x ∈ l, S x
/-- Whatever can be read at type t, within the bound, is of kind k (and not too great). -/
def Rds (P : Program) (t : TypeId) (k : Kd α) (S : α → Prop) : Prop := ∀ (H : Type) (enc : TypeId × Value → H) (w : World) (base : Nat) (held : Bool) (fuel : Nat) (cs : List Value) (x : DataW H × List MemPlace),
  DataW.trod enc P w base (fun _ => true) held fuel t cs = some x → Rows.uptoBulk x.1 ≤ 1048576 → ∃ a, k.R (GhostW w) a cs ∧ S a
theorem cellsOf_ty (h : TyOk P t k by_) : P.cellsOf t = k.sz := by
  obtain ⟨i, z, hi, hs, _⟩ := h.info
  simp [Program.cellsOf, hi, hs]
theorem rds_int {ik : IntKind} (ht : P.underlying t = some (.int ik)) : Rds P t (Kd.int ik) sm0 := fun H enc w base held fuel cs x h hb => by
  obtain ⟨n, rfl, _, hw⟩ := DataW.trod_int ht h
  refine ⟨n, ⟨rfl, ?_⟩, trivial⟩
  simpa [Lit.wf] using hw
theorem rds_byte (ht : P.underlying t = some (.int .u8)) : Rds P t Kd.byte sm0 := fun H enc w base held fuel cs x h hb => by
  obtain ⟨n, rfl, _, hw⟩ := DataW.trod_int ht h
  have hw : 0 ≤ n ∧ n ≤ 255 := by simpa [Lit.wf, IntKind.min, IntKind.max, IntKind.signed, IntKind.bits] using hw
  refine ⟨UInt8.ofNat n.toNat, ?_, trivial⟩
  show [Value.int .u8 n] = [.int .u8 _]
  congr 2
  have : (UInt8.ofNat n.toNat).toNat = n.toNat := by simp; omega
  omega
/-- so many cells, one after another -/
theorem ghost_cells {w : World} {base n : Nat} {a : Addr} {cs : List Value} (h : w.cells? base a n = some cs) (hn : 0 < n) :
    a.spot = none ∧ ∃ e l, GhostW w a.block = some (e, l) ∧ a.off + n ≤ l.length ∧ (l.drop a.off).take n = cs := by
  unfold World.cells? at h
  split at h
  case isFalse => cases h
  case isTrue hb =>
  have hl := mapM_some_length h
  have hg := fun i (hi : i < n) => mapM_some_get h i i (by simp [hi])
  have h0 := hg 0 hn
  have hc0 : 0 < cs.length := by rw [hl]; simpa using hn
  rw [List.getElem?_eq_getElem hc0] at h0
  unfold World.cell? at h0
  have ea : ∀ i, (a.add i).block = a.block := fun i => by unfold Addr.add; split <;> rfl
  have eo : ∀ i, (a.add i).off = a.off + i := fun i => by unfold Addr.add; split <;> simp_all
  have ha0 : a.add 0 = a := by simp [Addr.add]
  rw [ha0] at h0
  cases hh : w.heap[a.block]? with
  | none => rw [hh] at h0; cases h0
  | some o =>
    rw [hh] at h0
    cases o with
    | cells c e fr =>
      simp only at h0
      split at h0
      · cases h0
      · rename_i hs
        have hs : a.spot = none := by simpa using hs
        refine ⟨hs, e, c.toList, by simp [GhostW, hh], ?_⟩
        have hgc : ∀ i, i < n → c[a.off + i]? = cs[i]? := fun i hi => by
          have := hg i hi
          unfold World.cell? at this
          rw [ea, eo, hh] at this
          have hs' : (a.add i).spot.isSome = false := by unfold Addr.add; split <;> simp_all
          simpa [hs'] using this
        have hlen : cs.length = n := by rw [hl]; simp
        have hbound : a.off + n ≤ c.toList.length := by
          have h1 := hgc (n - 1) (by omega)
          rw [List.getElem?_eq_getElem (by omega)] at h1
          have := (Array.getElem?_eq_some_iff.1 h1).1
          simp only [Array.length_toList]
          omega
        refine ⟨hbound, ?_⟩
        apply List.ext_getElem?
        intro i
        rcases Nat.lt_or_ge i n with hi | hi
        · rw [List.getElem?_take, if_pos hi, List.getElem?_drop, ← hgc i hi]
          simp
        · rw [List.getElem?_take, if_neg (by omega), List.getElem?_eq_none (by omega)]
    | _ => simp at h0
theorem RL_flat {R : α → List Value → Prop} : ∀ (n : Nat) (f : Nat → List Value), (∀ i, i < n → ∃ a, R a (f i) ∧ S a) → ∃ l, l.length = n ∧ RL R l ((List.range n).map f).flatten ∧ ∀ x ∈ l, S x
  | 0, f, _ => ⟨[], rfl, by simp [RL], by simp⟩
  | n + 1, f, h => by
    obtain ⟨l, hl, hR, hS⟩ := RL_flat n f (fun i hi => h i (by omega))
    obtain ⟨a, ha, hs⟩ := h n (by omega)
    refine ⟨l ++ [a], by simp [hl], ?_, fun x hx => (List.mem_append.1 hx).elim (hS x) (fun h => by rw [List.mem_singleton.1 h]; exact hs)⟩
    rw [List.range_succ]
    simp only [List.map_append, List.map_cons, List.map_nil, List.flatten_append, List.flatten_cons, List.flatten_nil, List.append_nil]
    exact RL.append hR (RL.single ha)
/-- a list cut into n parts of s each -/
theorem parts_flat (s : Nat) : ∀ (n : Nat) (l : List Value), n * s ≤ l.length → ((List.range n).map fun i => (l.drop (i * s)).take s).flatten = l.take (n * s)
  | 0, l, _ => by simp
  | n + 1, l, h => by
    have e : (n + 1) * s = n * s + s := Nat.succ_mul n s
    rw [List.range_succ]
    simp only [List.map_append, List.map_cons, List.map_nil, List.flatten_append, List.flatten_cons, List.flatten_nil, List.append_nil]
    rw [parts_flat s n l (by omega), e, List.take_add]
theorem rds_sl (ht : P.underlying t = some (.slice e)) (hT : TyOk P e k by_) (h0 : Nat.blt 0 k.sz = true) (hR : Rds P e k S) : Rds P t (Kd.sl k) (smL S) := fun H enc w base held fuel cs x h hb => by
  have h0 : 0 < k.sz := Nat.le_of_ble_eq_true h0
  rcases DataW.trod_slice ht h with ⟨rfl, rfl⟩ | ⟨a, len, cap, elems, rest, n, _, rfl, rfl, hbs, hl, hm, hlen, hel, _, _⟩
  · exact ⟨[], ⟨none, 0, rfl, by simp, by simp [LM], by simp, .inl rfl⟩, by simp, by simp⟩
  · rw [cellsOf_ty hT] at hel
    have hbulk : elems.length ≤ 1048576 := by
      have := length_le (elems.map (·.1))
      simp only [Rows.uptoBulk, List.length_map] at hb this
      omega
    have hparts : ∀ i, i < len → ∃ cs' y, w.cells? base (a.add (i * k.sz)) k.sz = some cs' ∧ DataW.trod enc P w base (fun _ => true) held n e cs' = some y ∧ Rows.uptoBulk y.1 ≤ 1048576 := fun i hi => by
      have h1 := hel i hi
      rw [List.getElem?_eq_getElem (by omega)] at h1
      obtain ⟨cs', h2, h3⟩ := Option.bind_eq_some_iff.1 h1
      refine ⟨cs', _, h2, h3, ?_⟩
      have := part_le (l := elems.map (·.1)) (d := (elems[i]'(by omega)).1) (List.mem_map.2 ⟨_, List.getElem_mem _, rfl⟩)
      simp only [Rows.uptoBulk] at hb
      omega
    rcases Nat.eq_zero_or_pos len with hz | hp
    · exact ⟨[], ⟨some a, cap, by simp [hz], by simp, by simp [LM], by simp, .inl rfl⟩, by simp, by simp⟩
    · obtain ⟨cs0, y0, hc0, _, _⟩ := hparts 0 hp
      rw [Nat.zero_mul, show a.add 0 = a by simp [Addr.add]] at hc0
      obtain ⟨hs, e', l, hg, _, _⟩ := ghost_cells hc0 h0
      have ea : a = ⟨a.block, a.off, none⟩ := by cases a; simp_all
      have key : ∀ i, i < len → a.off + i * k.sz + k.sz ≤ l.length ∧ w.cells? base (a.add (i * k.sz)) k.sz = some (((l.drop a.off).drop (i * k.sz)).take k.sz) := fun i hi => by
        obtain ⟨cs', y, hc, _, _⟩ := hparts i hi
        obtain ⟨_, e2, l2, hg2, hle, htk⟩ := ghost_cells hc h0
        rw [ea, add_lit] at hg2 hle htk
        simp only at hg2 hle htk
        rw [hg] at hg2
        cases hg2
        refine ⟨hle, ?_⟩
        rw [hc, List.drop_drop, ← htk]
      have hlast := (key (len - 1) (by omega)).1
      have hall : a.off + len * k.sz ≤ l.length := by
        have : len * k.sz = (len - 1) * k.sz + k.sz := by
          conv => lhs; rw [show len = (len - 1) + 1 by omega]
          exact Nat.succ_mul _ _
        omega
      obtain ⟨xs, hxl, hxR, hxS⟩ := RL_flat (S := S) (R := k.R (GhostW w)) len (fun i => ((l.drop a.off).drop (i * k.sz)).take k.sz) (fun i hi => by
        obtain ⟨cs', y, hc, ht', hb'⟩ := hparts i hi
        rw [(key i hi).2] at hc
        cases hc
        exact hR _ _ _ _ _ _ _ _ ht' hb')
      rw [parts_flat k.sz len (l.drop a.off) (by rw [List.length_drop]; omega)] at hxR
      refine ⟨xs, ⟨some a, cap, by rw [hxl], by omega, by simp only [LM]; omega, fun x hx => ?_, .inr ⟨a.block, e', l.take a.off, (l.drop a.off).take (len * k.sz), (l.drop a.off).drop (len * k.sz), ?_, ?_, hxR⟩⟩, by omega, hxS⟩
      · exact RL.all (p := k.wf) (fun _ _ => k.hwf) hxR x hx
      · rw [List.length_take, Nat.min_eq_left (by omega)]
        exact congrArg some ea
      · rw [hg, List.append_assoc, List.take_append_drop, List.take_append_drop]
theorem rds_arr {n by_' : Nat} (ht : P.underlying t = some (.array n e)) (hT : TyOk P e k by_) (hT' : TyOk P t (Kd.arr n k) by_') (hR : Rds P e k S) : Rds P t (Kd.arr n k) (smL S) := fun H enc w base held fuel cs x h hb => by
  obtain ⟨xs, m, _, rfl, hlen, hxl, hx⟩ := DataW.trod_array ht h
  rw [cellsOf_ty hT] at hx
  rw [cellsOf_ty hT'] at hlen
  have hlen : cs.length = n * k.sz := hlen
  obtain ⟨l, hl, hlR, hlS⟩ := RL_flat (S := S) (R := k.R (GhostW w)) n (fun i => (cs.drop (i * k.sz)).take k.sz) (fun i hi => by
    have h1 := hx i hi
    rw [List.getElem?_eq_getElem (by omega)] at h1
    refine hR _ _ _ _ _ _ _ _ h1 ?_
    have := part_le (l := xs.map (·.1)) (d := (xs[i]'(by omega)).1) (List.mem_map.2 ⟨_, List.getElem_mem _, rfl⟩)
    simp only [Rows.uptoBulk] at hb
    omega)
  rw [parts_flat k.sz n cs (by omega), List.take_of_length_le (by omega)] at hlR
  have hbulk : xs.length ≤ 1048576 := by
    have := length_le (xs.map (·.1))
    simp only [Rows.uptoBulk, List.length_map] at hb this
    omega
  exact ⟨l, ⟨hl, hlR⟩, by omega, hlS⟩
/-- an argument, opened -/
theorem open_arg {H : Type} {enc : TypeId × Value → H} {w : World} {r : Reach} {b0 base : Nat} {held : Bool} {v : Value} {d : DataW H} {ps : List MemPlace} (hR : Rds P t k S) (hT : TyOk P t k by_)
    (hval : Value.okWide P w r b0 t v) (h : DataW.Trod enc P w base (fun _ => true) held t v d ps) (hb : Rows.uptoBulk d ≤ 1048576) : ∃ a, k.V (GhostW w) a v ∧ S a := by
  obtain ⟨fuel, h⟩ := h
  obtain ⟨a, ha, haS⟩ := hR _ _ _ _ _ _ _ _ h hb
  refine ⟨a, ⟨v.cells.toList, ha, ?_⟩, haS⟩
  obtain ⟨dd, hd, hagg⟩ := hT.desc
  unfold Value.okWide at hval
  rw [hd] at hval
  cases hk : k.agg with
  | true =>
    rw [hk] at hagg
    have : ∃ cs, v = .agg cs := by
      cases dd <;> first | (cases hagg; done) | (obtain ⟨cs, rfl, _⟩ := hval; exact ⟨cs, rfl⟩)
    obtain ⟨cs, rfl⟩ := this
    simp [Value.cells]
  | false =>
    have hlen := k.len ha
    rw [k.hs hk] at hlen
    have hna : ∀ cs, v ≠ .agg cs := fun cs e => by
      subst e
      rw [hk] at hagg
      cases dd <;> first | (cases hagg; done) | (simp [Cell.okWide, hd, Cell.ok] at hval)
    cases v <;> first | rfl | exact absurd rfl (hna _)
end
section
variable {H : Type} {enc : TypeId × Value → H} {P : Program}
theorem below_of {w w' : World} {K K' : Ghost} (h : Ext NX w K w' K') : Below w.heap.size w w' := ⟨h.os, h.tape, h.output, h.size, fun b hb => h.heap b hb (fun x => x)⟩
theorem trodAll_same {W W' : World} {sp : Nat → Bool} (hl : laidOutB P = true) (hb : Below W.heap.size W W') : ∀ {ts : List TypeId} {vs : List Value} {ds : List (DataW H)} {ps : List MemPlace},
    (ts.all fun t => P.readableRec t && decide (t < P.types.size)) = true → DataW.TrodAll enc P W 0 (fun _ => true) true ts vs ds ps → (∀ p ∈ ps, p.block < W.heap.size) → (∀ p ∈ ps, sp p.block = true) → DataW.TrodAll enc P W' 0 sp true ts vs ds ps
  | [], [], [], ps, _, h, _, _ => h
  | t :: ts, v :: vs, d :: ds, ps, hr, ⟨p, q, h1, h2, e⟩, hlt, hs => by
    subst e
    simp only [List.all_cons, Bool.and_eq_true, decide_eq_true_eq] at hr
    exact ⟨p, q, WideElems.Trod_stays hl hr.1.1 hr.1.2 h1 (fun x hx => hb.same (hlt x (List.mem_append.2 (.inl hx)))) (fun x hx => hs x (List.mem_append.2 (.inl hx))),
      trodAll_same hl hb (ts := ts) hr.2 h2 (fun x hx => hlt x (List.mem_append.2 (.inr hx))) (fun x hx => hs x (List.mem_append.2 (.inr hx))), rfl⟩
  | [], _ :: _, _, _, _, h, _, _ => h.elim
  | [], [], _ :: _, _, _, h, _, _ => h.elim
  | _ :: _, [], _, _, _, h, _, _ => h.elim
  | _ :: _, _ :: _, [], _, _, h, _, _ => h.elim
/-- the end of a law's call: true, and all that was there is as it was -/
theorem post_true {f : Func} {s : ChangeSpec} {apart fresh handsOn again : Bool} {W W' : World} {args : Array Value} {ds gs : List (DataW H)} {before : List MemPlace} {tb : TypeId}
    (hW : DataW.Whole enc P f.params.toList s.vars apart W args.toList ds gs before) (hl : laidOutB P = true) (hr : (f.params.toList.all fun t => P.readableRec t && decide (t < P.types.size)) = true)
    (hrt : f.resultTypes = #[tb]) (htb : P.underlying tb = some .bool) (hs : s.vars = []) (hv : (s.fn H (ds ++ gs)).vars = []) (hres : (s.fn H (ds ++ gs)).results = [.lit (.bool true)]) (hargs : (s.fn H (ds ++ gs)).args = ds)
    (hb : Below W.heap.size W W') : s.post enc P f apart fresh handsOn again W args (.bool true) W' := by
  have hlt : ∀ p ∈ before, p.block < W.heap.size := fun p hp => hW.lt p hp
  have hW' := hW
  obtain ⟨p, q, hA, hV, e, hz, hn⟩ := hW'
  rw [hs] at hV
  have hq : q = [] ∧ gs = [] := by
    cases gs with
    | nil => exact ⟨hV, rfl⟩
    | cons g r => exact hV.elim
  obtain ⟨rfl, rfl⟩ := hq
  rw [List.append_nil] at e
  subst e
  have ht : ∀ (b : Nat) (sp : Nat → Bool) (hd : Bool), DataW.TrodAll enc P W' b sp hd f.resultTypes.toList ((Value.bool true).resultList f.resultTypes.size) (s.fn H (ds ++ [])).results [] := fun b sp hd => by
    rw [hres, hrt]
    exact ⟨[], [], shut_bool htb _, rfl, rfl⟩
  have ha : ∀ sp : Nat → Bool, (∀ p ∈ before, sp p.block = true) → DataW.TrodAll enc P W' 0 sp true f.params.toList args.toList (s.fn H (ds ++ [])).args before := fun sp hsp => by
    rw [hargs]
    exact trodAll_same hl hb hr hA hlt hsp
  have hvs : ∀ sp : Nat → Bool, DataW.TrodVars enc P W' sp s.vars (s.fn H (ds ++ [])).vars [] := fun sp => by
    rw [hs, hv]
    rfl
  have hold : ∀ p ∈ before, (fun b => decide (b < W.heap.size)) p.block = true := fun p hp => by simpa using hlt p hp
  refine ⟨ds, [], before, [], before, [], hW, ht _ _ _, ha _ hold, hvs _, World.keptBut_mono (fun p hp => ⟨hp, ?_⟩) (hb.frame (· ∈ before)), fun _ => ?_⟩
  · exact Or.inr (by simpa using hp)
  · refine ⟨?_, _, _, ([] ++ before) ++ [], ⟨[] ++ before, [], trodAll_append (ha _ (fun _ _ => rfl)) (ht _ _ _), hvs _, rfl, ?_, ?_⟩, ?_⟩
    · exact ok_one hrt rfl (okWide_bool_mk htb _)
    · intro b off hp
      have hin : MemPlace.cell b off ∈ before := by simpa using hp
      rw [hb.frozen (hlt _ hin)]
      exact hz b off hin
    · intro hap
      simpa using hn hap
    · intro p hp _
      simpa using hp
end
end Go.Proofs.Ytkffegaofdpkiaa
