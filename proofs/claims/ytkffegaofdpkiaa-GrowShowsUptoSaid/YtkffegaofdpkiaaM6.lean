/- S5, P7. -/
import Derived.Test.YtkffegaofdpkiaaM5
import Derived.Test.YtkffegaofdpkiaaChecked
import Derived.Test.YtkffegaofdpkiaaRows
import Derived.Test.YtkffegaofdpkiaaM4
import Derived.WalkKit
import Derived.ProofKit
import Derived.OpenShut
import Derived.JoinedCond
import Derived.Carry
/- Each function that stands here: what it is asked and leaves (_C), its condition (_VC), that it holds (_ok), its contract (_c). -/
set_option linter.unusedVariables false
set_option maxRecDepth 100000
set_option maxHeartbeats 20000000
namespace Go.Proofs.Ytkffegaofdpkiaa
open Go Go.RowKit Go.Inc
noncomputable def fiveF_C : Ctr := ⟨[], [.ow 31 (.arr 32 .byte)], none, fun _ => ((fiveO, ()), (()))⟩
noncomputable def fiveF_X : Fx := ⟨seat, some bkT, fns, [], [], [], []⟩
def fiveF_VC (Q : (List (List UInt8)) → Prop) : Prop :=
  Q ((toB (1 : Int) :: ([] : List UInt8) ++ List.replicate ((32 : Nat) - (((0 : Nat), Operand.const (Value.int IntKind.u8 (1 : Int))) :: ([] : List (Nat × Operand))).toArray.toList.length) Ty.byte.kd.z) :: (toB (2 : Int) :: ([] : List UInt8) ++ List.replicate ((32 : Nat) - (((0 : Nat), Operand.const (Value.int IntKind.u8 (2 : Int))) :: ([] : List (Nat × Operand))).toArray.toList.length) Ty.byte.kd.z) :: (toB (3 : Int) :: ([] : List UInt8) ++ List.replicate ((32 : Nat) - (((0 : Nat), Operand.const (Value.int IntKind.u8 (3 : Int))) :: ([] : List (Nat × Operand))).toArray.toList.length) Ty.byte.kd.z) :: (toB (4 : Int) :: ([] : List UInt8) ++ List.replicate ((32 : Nat) - (((0 : Nat), Operand.const (Value.int IntKind.u8 (4 : Int))) :: ([] : List (Nat × Operand))).toArray.toList.length) Ty.byte.kd.z) :: (toB (5 : Int) :: ([] : List UInt8) ++ List.replicate ((32 : Nat) - (((0 : Nat), Operand.const (Value.int IntKind.u8 (5 : Int))) :: ([] : List (Nat × Operand))).toArray.toList.length) Ty.byte.kd.z) :: ([] : List (List UInt8)))
theorem fiveF_ok  : fiveF_VC  (fun o0 => o0 = fiveO) := by
  unfold fiveF_VC
  rw [fiveO_eq]
  rfl
theorem fiveF_eq : (∀ a, fiveF_C.pre a → PM.wfP fiveF_C.pm a (fvc fiveF_X 200 49 fiveF_C a (eqO fiveF_C a))) = (∀ a : Unit, True → fiveF_VC  (fun o0 => o0 = fiveO)) := by kernel_rfl
theorem fiveF_k : fiveF_C.valid Try.prog 49 := ctr_of (X := fiveF_X) (ok_of seat_ok (fun b hb => by cases hb; exact bkT_ok) fns_ok trivial) 200 (fiveF_eq.mpr fun a hp  => @fiveF_ok )
noncomputable def awake5_C : Ctr := ⟨[], [.v .bool], none, fun _ => ((true, ()), (()))⟩
noncomputable def awake5_X : Fx := ⟨seat, some bkT, fns, [(49, fiveF_C), (33, BetweenO_C), (33, BetweenR_C), (25, RootN_C), (25, Root_C), (35, Steps_C), (37, ExtendsN_C), (37, Extends_C)], [], [], [(3, [0, 1, 2, 3, 4, 5, 6, 7, 8, 9, 10, 11, 12], [.o 0 2, .o 2 2, .o 3 2, .par [1, 4, 5, 6] (.alt 1 0 (.alt 4 0 (.alt 5 0 (.one 6 0 .fin) (.alt 6 0 (.one 5 0 .fin) .fin)) (.alt 5 0 (.alt 4 0 (.one 6 0 .fin) (.alt 6 0 (.one 4 0 .fin) .fin)) (.alt 6 0 (.alt 4 0 (.one 5 0 .fin) (.alt 5 0 (.one 4 0 .fin) .fin)) .fin))) (.alt 5 0 (.alt 1 0 (.alt 4 0 (.one 6 0 .fin) (.alt 6 0 (.one 4 0 .fin) .fin)) (.alt 6 0 (.one 1 0 (.one 4 0 .fin)) .fin)) (.alt 6 0 (.alt 1 0 (.alt 4 0 (.one 5 0 .fin) (.alt 5 0 (.one 4 0 .fin) .fin)) (.alt 5 0 (.one 1 0 (.one 4 0 .fin)) .fin)) .fin))), .o 7 1, .o 8 1]), (4, [], [.o 0 0, .o 1 2, .o 2 2, .o 3 0, .o 4 2, .o 5 2, .o 6 2, .o 7 0, .o 8 2, .o 9 2, .o 10 2, .o 11 0, .o 12 2, .o 13 2, .o 14 2, .o 15 2, .o 16 2, .o 17 2, .o 18 2, .o 19 2, .o 20 2, .o 21 2, .o 22 2, .o 23 2, .o 24 2, .o 25 2, .o 26 2, .o 27 2, .o 28 2, .o 29 2, .o 30 2, .o 31 2, .o 32 2, .o 33 2, .o 34 2, .o 35 2, .o 36 2, .o 37 2, .o 38 2, .o 39 2, .o 40 2, .o 41 2, .o 42 2, .o 43 2, .o 44 2, .o 45 2, .o 46 2, .o 47 2, .o 48 2, .o 49 2, .o 50 2, .o 51 2, .o 52 2, .o 53 2, .o 54 2, .o 55 0, .o 56 2, .o 57 2, .o 58 2, .o 59 2, .o 60 2, .o 61 2, .o 62 0, .o 63 2, .o 64 2, .o 65 2, .o 67 2, .o 66 0, .o 68 0, .o 69 2, .o 70 2, .o 71 2, .o 72 2, .o 73 2, .o 74 0, .o 75 2, .o 76 2, .o 77 2])]⟩
def awake5_VC (Q : Bool → Prop) : Prop :=
  (Ty.arr (32 : Nat) Ty.byte).kd.sl.wf fiveO → fiveO.length ≤ (1048576 : Nat) ∧ ((Ty.arr (32 : Nat) Ty.byte).kd.sl.wf (betwN fiveO (3 : Int)) → fiveO.length ≤ (1048576 : Nat) ∧ ((Ty.arr (32 : Nat) Ty.byte).kd.sl.wf (betwN fiveO (4 : Int)) → ((0 : Int) ≤ (4 : Int) ∧ (4 : Int) ≤ (fiveO.length : Int)) ∧ (fiveO.length ≤ (1048576 : Nat) ∧ ((Ty.arr (32 : Nat) Ty.byte).kd.wf (rootS fiveO) → ((List.take (Int.toNat (4 : Int)) fiveO).length ≤ (1048576 : Nat) ∧ ((Ty.arr (32 : Nat) Ty.byte).kd.wf (rootS (List.take (Int.toNat (4 : Int)) fiveO)) → ((Ty.int IntKind.i64).kd.wf (stepsN (Int.toNat (3 : Int)) (Int.toNat (5 : Int))) → (stepsN (Int.toNat (3 : Int)) (Int.toNat (5 : Int)) = (4 : Int) → (Ty.int IntKind.i64).kd.wf (stepsN (Int.toNat (4 : Int)) (Int.toNat (5 : Int))) → (stepsN (Int.toNat (4 : Int)) (Int.toNat (5 : Int)) = (1 : Int) → (Ty.int IntKind.i64).kd.wf (stepsN (Int.toNat (5 : Int)) (Int.toNat (5 : Int))) → (stepsN (Int.toNat (5 : Int)) (Int.toNat (5 : Int)) = (0 : Int) → (Ty.int IntKind.i64).kd.wf (stepsN (Int.toNat (0 : Int)) (Int.toNat (5 : Int))) → (stepsN (Int.toNat (0 : Int)) (Int.toNat (5 : Int)) = (0 : Int) → (((betwN fiveO (3 : Int)).length : Int) = (4 : Int) → ((0 : Int) ≤ (0 : Int) ∧ (0 : Int) < ((betwN fiveO (3 : Int)).length : Int)) ∧ ((0 : Int) ≤ (2 : Int) ∧ (2 : Int) < (fiveO.length : Int)) ∧ (ix (betwN fiveO (3 : Int)) (0 : Int) = ix fiveO (2 : Int) → ((0 : Int) ≤ (3 : Int) ∧ (3 : Int) < ((betwN fiveO (3 : Int)).length : Int)) ∧ ((0 : Int) ≤ (4 : Int) ∧ (4 : Int) < (fiveO.length : Int)) ∧ (ix (betwN fiveO (3 : Int)) (3 : Int) = ix fiveO (4 : Int) → (((betwN fiveO (4 : Int)).length : Int) = (1 : Int) → ((0 : Int) ≤ (0 : Int) ∧ (0 : Int) < ((betwN fiveO (4 : Int)).length : Int)) ∧ ((0 : Int) ≤ (4 : Int) ∧ (4 : Int) < (fiveO.length : Int)) ∧ (ix (betwN fiveO (4 : Int)) (0 : Int) = ix fiveO (4 : Int) → (betwN fiveO (4 : Int)).length ≤ (65536 : Nat) ∧ ((Ty.int IntKind.i64).kd.wf (if extendsB (4 : Int) (5 : Int) (rootS (List.take (Int.toNat (4 : Int)) fiveO)) (rootS fiveO) (betwN fiveO (4 : Int)) = true then (0 : Int) else (10 : Int)) → ((if extendsB (4 : Int) (5 : Int) (rootS (List.take (Int.toNat (4 : Int)) fiveO)) (rootS fiveO) (betwN fiveO (4 : Int)) = true then (0 : Int) else (10 : Int)) = (0 : Int) → (betwN fiveO (4 : Int)).length ≤ (65536 : Nat) ∧ ((Ty.int IntKind.i64).kd.wf (if extendsB (4 : Int) (5 : Int) (rootS fiveO) (rootS fiveO) (betwN fiveO (4 : Int)) = true then (0 : Int) else (10 : Int)) → ((if extendsB (4 : Int) (5 : Int) (rootS fiveO) (rootS fiveO) (betwN fiveO (4 : Int)) = true then (0 : Int) else (10 : Int)) = (10 : Int) → ([] : List (List UInt8)).length ≤ (1048576 : Nat) ∧ ((Ty.arr (32 : Nat) Ty.byte).kd.wf (rootS ([] : List (List UInt8))) → ([] : List (List UInt8)).length ≤ (65536 : Nat) ∧ ((Ty.int IntKind.i64).kd.wf (if extendsB (0 : Int) (5 : Int) (rootS ([] : List (List UInt8))) (rootS fiveO) ([] : List (List UInt8)) = true then (0 : Int) else (10 : Int)) → ((if extendsB (0 : Int) (5 : Int) (rootS ([] : List (List UInt8))) (rootS fiveO) ([] : List (List UInt8)) = true then (0 : Int) else (10 : Int)) = (0 : Int) → ([] : List (List UInt8)).length ≤ (65536 : Nat) ∧ ((Ty.int IntKind.i64).kd.wf (if extendsB (6 : Int) (5 : Int) (rootS (List.take (Int.toNat (4 : Int)) fiveO)) (rootS fiveO) ([] : List (List UInt8)) = true then (0 : Int) else (10 : Int)) → Q (decide ((if extendsB (6 : Int) (5 : Int) (rootS (List.take (Int.toNat (4 : Int)) fiveO)) (rootS fiveO) ([] : List (List UInt8)) = true then (0 : Int) else (10 : Int)) = (10 : Int))))) ∧ (¬(if extendsB (0 : Int) (5 : Int) (rootS ([] : List (List UInt8))) (rootS fiveO) ([] : List (List UInt8)) = true then (0 : Int) else (10 : Int)) = (0 : Int) → Q false)))) ∧ (¬(if extendsB (4 : Int) (5 : Int) (rootS fiveO) (rootS fiveO) (betwN fiveO (4 : Int)) = true then (0 : Int) else (10 : Int)) = (10 : Int) → Q false))) ∧ (¬(if extendsB (4 : Int) (5 : Int) (rootS (List.take (Int.toNat (4 : Int)) fiveO)) (rootS fiveO) (betwN fiveO (4 : Int)) = true then (0 : Int) else (10 : Int)) = (0 : Int) → Q false))) ∧ (¬ix (betwN fiveO (4 : Int)) (0 : Int) = ix fiveO (4 : Int) → Q false)) ∧ (¬((betwN fiveO (4 : Int)).length : Int) = (1 : Int) → Q false)) ∧ (¬ix (betwN fiveO (3 : Int)) (3 : Int) = ix fiveO (4 : Int) → Q false)) ∧ (¬ix (betwN fiveO (3 : Int)) (0 : Int) = ix fiveO (2 : Int) → Q false)) ∧ (¬((betwN fiveO (3 : Int)).length : Int) = (4 : Int) → Q false)) ∧ (¬stepsN (Int.toNat (0 : Int)) (Int.toNat (5 : Int)) = (0 : Int) → Q false)) ∧ (¬stepsN (Int.toNat (5 : Int)) (Int.toNat (5 : Int)) = (0 : Int) → Q false)) ∧ (¬stepsN (Int.toNat (4 : Int)) (Int.toNat (5 : Int)) = (1 : Int) → Q false)) ∧ (¬stepsN (Int.toNat (3 : Int)) (Int.toNat (5 : Int)) = (4 : Int) → Q false)) ∧ ((Ty.int IntKind.i64).kd.wf (stepsN (Int.toNat (3 : Int)) (Int.toNat (5 : Int))) → (stepsN (Int.toNat (3 : Int)) (Int.toNat (5 : Int)) = (4 : Int) → (Ty.int IntKind.i64).kd.wf (stepsN (Int.toNat (4 : Int)) (Int.toNat (5 : Int))) → (stepsN (Int.toNat (4 : Int)) (Int.toNat (5 : Int)) = (1 : Int) → (Ty.int IntKind.i64).kd.wf (stepsN (Int.toNat (5 : Int)) (Int.toNat (5 : Int))) → (stepsN (Int.toNat (5 : Int)) (Int.toNat (5 : Int)) = (0 : Int) → (Ty.int IntKind.i64).kd.wf (stepsN (Int.toNat (0 : Int)) (Int.toNat (5 : Int))) → (stepsN (Int.toNat (0 : Int)) (Int.toNat (5 : Int)) = (0 : Int) → (((betwN fiveO (3 : Int)).length : Int) = (4 : Int) → ((0 : Int) ≤ (0 : Int) ∧ (0 : Int) < ((betwN fiveO (3 : Int)).length : Int)) ∧ ((0 : Int) ≤ (2 : Int) ∧ (2 : Int) < (fiveO.length : Int)) ∧ (ix (betwN fiveO (3 : Int)) (0 : Int) = ix fiveO (2 : Int) → ((0 : Int) ≤ (3 : Int) ∧ (3 : Int) < ((betwN fiveO (3 : Int)).length : Int)) ∧ ((0 : Int) ≤ (4 : Int) ∧ (4 : Int) < (fiveO.length : Int)) ∧ (ix (betwN fiveO (3 : Int)) (3 : Int) = ix fiveO (4 : Int) → (((betwN fiveO (4 : Int)).length : Int) = (1 : Int) → ((0 : Int) ≤ (0 : Int) ∧ (0 : Int) < ((betwN fiveO (4 : Int)).length : Int)) ∧ ((0 : Int) ≤ (4 : Int) ∧ (4 : Int) < (fiveO.length : Int)) ∧ (ix (betwN fiveO (4 : Int)) (0 : Int) = ix fiveO (4 : Int) → (betwN fiveO (4 : Int)).length ≤ (65536 : Nat) ∧ ((Ty.int IntKind.i64).kd.wf (if extendsB (4 : Int) (5 : Int) (rootS (List.take (Int.toNat (4 : Int)) fiveO)) (rootS fiveO) (betwN fiveO (4 : Int)) = true then (0 : Int) else (10 : Int)) → ((if extendsB (4 : Int) (5 : Int) (rootS (List.take (Int.toNat (4 : Int)) fiveO)) (rootS fiveO) (betwN fiveO (4 : Int)) = true then (0 : Int) else (10 : Int)) = (0 : Int) → (betwN fiveO (4 : Int)).length ≤ (65536 : Nat) ∧ ((Ty.int IntKind.i64).kd.wf (if extendsB (4 : Int) (5 : Int) (rootS fiveO) (rootS fiveO) (betwN fiveO (4 : Int)) = true then (0 : Int) else (10 : Int)) → ((if extendsB (4 : Int) (5 : Int) (rootS fiveO) (rootS fiveO) (betwN fiveO (4 : Int)) = true then (0 : Int) else (10 : Int)) = (10 : Int) → ([] : List (List UInt8)).length ≤ (1048576 : Nat) ∧ ((Ty.arr (32 : Nat) Ty.byte).kd.wf (rootS ([] : List (List UInt8))) → ([] : List (List UInt8)).length ≤ (65536 : Nat) ∧ ((Ty.int IntKind.i64).kd.wf (if extendsB (0 : Int) (5 : Int) (rootS ([] : List (List UInt8))) (rootS fiveO) ([] : List (List UInt8)) = true then (0 : Int) else (10 : Int)) → ((if extendsB (0 : Int) (5 : Int) (rootS ([] : List (List UInt8))) (rootS fiveO) ([] : List (List UInt8)) = true then (0 : Int) else (10 : Int)) = (0 : Int) → ([] : List (List UInt8)).length ≤ (65536 : Nat) ∧ ((Ty.int IntKind.i64).kd.wf (if extendsB (6 : Int) (5 : Int) (rootS (List.take (Int.toNat (4 : Int)) fiveO)) (rootS fiveO) ([] : List (List UInt8)) = true then (0 : Int) else (10 : Int)) → Q (decide ((if extendsB (6 : Int) (5 : Int) (rootS (List.take (Int.toNat (4 : Int)) fiveO)) (rootS fiveO) ([] : List (List UInt8)) = true then (0 : Int) else (10 : Int)) = (10 : Int))))) ∧ (¬(if extendsB (0 : Int) (5 : Int) (rootS ([] : List (List UInt8))) (rootS fiveO) ([] : List (List UInt8)) = true then (0 : Int) else (10 : Int)) = (0 : Int) → Q false)))) ∧ (¬(if extendsB (4 : Int) (5 : Int) (rootS fiveO) (rootS fiveO) (betwN fiveO (4 : Int)) = true then (0 : Int) else (10 : Int)) = (10 : Int) → Q false))) ∧ (¬(if extendsB (4 : Int) (5 : Int) (rootS (List.take (Int.toNat (4 : Int)) fiveO)) (rootS fiveO) (betwN fiveO (4 : Int)) = true then (0 : Int) else (10 : Int)) = (0 : Int) → Q false))) ∧ (¬ix (betwN fiveO (4 : Int)) (0 : Int) = ix fiveO (4 : Int) → Q false)) ∧ (¬((betwN fiveO (4 : Int)).length : Int) = (1 : Int) → Q false)) ∧ (¬ix (betwN fiveO (3 : Int)) (3 : Int) = ix fiveO (4 : Int) → Q false)) ∧ (¬ix (betwN fiveO (3 : Int)) (0 : Int) = ix fiveO (2 : Int) → Q false)) ∧ (¬((betwN fiveO (3 : Int)).length : Int) = (4 : Int) → Q false)) ∧ (¬stepsN (Int.toNat (0 : Int)) (Int.toNat (5 : Int)) = (0 : Int) → Q false)) ∧ (¬stepsN (Int.toNat (5 : Int)) (Int.toNat (5 : Int)) = (0 : Int) → Q false)) ∧ (¬stepsN (Int.toNat (4 : Int)) (Int.toNat (5 : Int)) = (1 : Int) → Q false)) ∧ (¬stepsN (Int.toNat (3 : Int)) (Int.toNat (5 : Int)) = (4 : Int) → Q false)) ∧ True)) ∧ (((List.take (Int.toNat (4 : Int)) fiveO).length ≤ (1048576 : Nat) ∧ ((Ty.arr (32 : Nat) Ty.byte).kd.wf (rootS (List.take (Int.toNat (4 : Int)) fiveO)) → (Ty.int IntKind.i64).kd.wf (stepsN (Int.toNat (3 : Int)) (Int.toNat (5 : Int))) → (stepsN (Int.toNat (3 : Int)) (Int.toNat (5 : Int)) = (4 : Int) → (Ty.int IntKind.i64).kd.wf (stepsN (Int.toNat (4 : Int)) (Int.toNat (5 : Int))) → (stepsN (Int.toNat (4 : Int)) (Int.toNat (5 : Int)) = (1 : Int) → (Ty.int IntKind.i64).kd.wf (stepsN (Int.toNat (5 : Int)) (Int.toNat (5 : Int))) → (stepsN (Int.toNat (5 : Int)) (Int.toNat (5 : Int)) = (0 : Int) → (Ty.int IntKind.i64).kd.wf (stepsN (Int.toNat (0 : Int)) (Int.toNat (5 : Int))) → (stepsN (Int.toNat (0 : Int)) (Int.toNat (5 : Int)) = (0 : Int) → (((betwN fiveO (3 : Int)).length : Int) = (4 : Int) → ((0 : Int) ≤ (0 : Int) ∧ (0 : Int) < ((betwN fiveO (3 : Int)).length : Int)) ∧ ((0 : Int) ≤ (2 : Int) ∧ (2 : Int) < (fiveO.length : Int)) ∧ (ix (betwN fiveO (3 : Int)) (0 : Int) = ix fiveO (2 : Int) → ((0 : Int) ≤ (3 : Int) ∧ (3 : Int) < ((betwN fiveO (3 : Int)).length : Int)) ∧ ((0 : Int) ≤ (4 : Int) ∧ (4 : Int) < (fiveO.length : Int)) ∧ (ix (betwN fiveO (3 : Int)) (3 : Int) = ix fiveO (4 : Int) → (((betwN fiveO (4 : Int)).length : Int) = (1 : Int) → ((0 : Int) ≤ (0 : Int) ∧ (0 : Int) < ((betwN fiveO (4 : Int)).length : Int)) ∧ ((0 : Int) ≤ (4 : Int) ∧ (4 : Int) < (fiveO.length : Int)) ∧ (ix (betwN fiveO (4 : Int)) (0 : Int) = ix fiveO (4 : Int) → (betwN fiveO (4 : Int)).length ≤ (65536 : Nat) ∧ ((Ty.int IntKind.i64).kd.wf (if extendsB (4 : Int) (5 : Int) (rootS (List.take (Int.toNat (4 : Int)) fiveO)) (rootS fiveO) (betwN fiveO (4 : Int)) = true then (0 : Int) else (10 : Int)) → ((if extendsB (4 : Int) (5 : Int) (rootS (List.take (Int.toNat (4 : Int)) fiveO)) (rootS fiveO) (betwN fiveO (4 : Int)) = true then (0 : Int) else (10 : Int)) = (0 : Int) → (betwN fiveO (4 : Int)).length ≤ (65536 : Nat) ∧ ((Ty.int IntKind.i64).kd.wf (if extendsB (4 : Int) (5 : Int) (rootS fiveO) (rootS fiveO) (betwN fiveO (4 : Int)) = true then (0 : Int) else (10 : Int)) → ((if extendsB (4 : Int) (5 : Int) (rootS fiveO) (rootS fiveO) (betwN fiveO (4 : Int)) = true then (0 : Int) else (10 : Int)) = (10 : Int) → ([] : List (List UInt8)).length ≤ (1048576 : Nat) ∧ ((Ty.arr (32 : Nat) Ty.byte).kd.wf (rootS ([] : List (List UInt8))) → ([] : List (List UInt8)).length ≤ (65536 : Nat) ∧ ((Ty.int IntKind.i64).kd.wf (if extendsB (0 : Int) (5 : Int) (rootS ([] : List (List UInt8))) (rootS fiveO) ([] : List (List UInt8)) = true then (0 : Int) else (10 : Int)) → ((if extendsB (0 : Int) (5 : Int) (rootS ([] : List (List UInt8))) (rootS fiveO) ([] : List (List UInt8)) = true then (0 : Int) else (10 : Int)) = (0 : Int) → ([] : List (List UInt8)).length ≤ (65536 : Nat) ∧ ((Ty.int IntKind.i64).kd.wf (if extendsB (6 : Int) (5 : Int) (rootS (List.take (Int.toNat (4 : Int)) fiveO)) (rootS fiveO) ([] : List (List UInt8)) = true then (0 : Int) else (10 : Int)) → Q (decide ((if extendsB (6 : Int) (5 : Int) (rootS (List.take (Int.toNat (4 : Int)) fiveO)) (rootS fiveO) ([] : List (List UInt8)) = true then (0 : Int) else (10 : Int)) = (10 : Int))))) ∧ (¬(if extendsB (0 : Int) (5 : Int) (rootS ([] : List (List UInt8))) (rootS fiveO) ([] : List (List UInt8)) = true then (0 : Int) else (10 : Int)) = (0 : Int) → Q false)))) ∧ (¬(if extendsB (4 : Int) (5 : Int) (rootS fiveO) (rootS fiveO) (betwN fiveO (4 : Int)) = true then (0 : Int) else (10 : Int)) = (10 : Int) → Q false))) ∧ (¬(if extendsB (4 : Int) (5 : Int) (rootS (List.take (Int.toNat (4 : Int)) fiveO)) (rootS fiveO) (betwN fiveO (4 : Int)) = true then (0 : Int) else (10 : Int)) = (0 : Int) → Q false))) ∧ (¬ix (betwN fiveO (4 : Int)) (0 : Int) = ix fiveO (4 : Int) → Q false)) ∧ (¬((betwN fiveO (4 : Int)).length : Int) = (1 : Int) → Q false)) ∧ (¬ix (betwN fiveO (3 : Int)) (3 : Int) = ix fiveO (4 : Int) → Q false)) ∧ (¬ix (betwN fiveO (3 : Int)) (0 : Int) = ix fiveO (2 : Int) → Q false)) ∧ (¬((betwN fiveO (3 : Int)).length : Int) = (4 : Int) → Q false)) ∧ (¬stepsN (Int.toNat (0 : Int)) (Int.toNat (5 : Int)) = (0 : Int) → Q false)) ∧ (¬stepsN (Int.toNat (5 : Int)) (Int.toNat (5 : Int)) = (0 : Int) → Q false)) ∧ (¬stepsN (Int.toNat (4 : Int)) (Int.toNat (5 : Int)) = (1 : Int) → Q false)) ∧ (¬stepsN (Int.toNat (3 : Int)) (Int.toNat (5 : Int)) = (4 : Int) → Q false))) ∧ ((List.take (Int.toNat (4 : Int)) fiveO).length ≤ (1048576 : Nat) ∧ ((Ty.arr (32 : Nat) Ty.byte).kd.wf (rootS (List.take (Int.toNat (4 : Int)) fiveO)) → (Ty.int IntKind.i64).kd.wf (stepsN (Int.toNat (3 : Int)) (Int.toNat (5 : Int))) → (stepsN (Int.toNat (3 : Int)) (Int.toNat (5 : Int)) = (4 : Int) → (Ty.int IntKind.i64).kd.wf (stepsN (Int.toNat (4 : Int)) (Int.toNat (5 : Int))) → (stepsN (Int.toNat (4 : Int)) (Int.toNat (5 : Int)) = (1 : Int) → (Ty.int IntKind.i64).kd.wf (stepsN (Int.toNat (5 : Int)) (Int.toNat (5 : Int))) → (stepsN (Int.toNat (5 : Int)) (Int.toNat (5 : Int)) = (0 : Int) → (Ty.int IntKind.i64).kd.wf (stepsN (Int.toNat (0 : Int)) (Int.toNat (5 : Int))) → (stepsN (Int.toNat (0 : Int)) (Int.toNat (5 : Int)) = (0 : Int) → (((betwN fiveO (3 : Int)).length : Int) = (4 : Int) → ((0 : Int) ≤ (0 : Int) ∧ (0 : Int) < ((betwN fiveO (3 : Int)).length : Int)) ∧ ((0 : Int) ≤ (2 : Int) ∧ (2 : Int) < (fiveO.length : Int)) ∧ (ix (betwN fiveO (3 : Int)) (0 : Int) = ix fiveO (2 : Int) → ((0 : Int) ≤ (3 : Int) ∧ (3 : Int) < ((betwN fiveO (3 : Int)).length : Int)) ∧ ((0 : Int) ≤ (4 : Int) ∧ (4 : Int) < (fiveO.length : Int)) ∧ (ix (betwN fiveO (3 : Int)) (3 : Int) = ix fiveO (4 : Int) → (((betwN fiveO (4 : Int)).length : Int) = (1 : Int) → ((0 : Int) ≤ (0 : Int) ∧ (0 : Int) < ((betwN fiveO (4 : Int)).length : Int)) ∧ ((0 : Int) ≤ (4 : Int) ∧ (4 : Int) < (fiveO.length : Int)) ∧ (ix (betwN fiveO (4 : Int)) (0 : Int) = ix fiveO (4 : Int) → (betwN fiveO (4 : Int)).length ≤ (65536 : Nat) ∧ ((Ty.int IntKind.i64).kd.wf (if extendsB (4 : Int) (5 : Int) (rootS (List.take (Int.toNat (4 : Int)) fiveO)) (rootS fiveO) (betwN fiveO (4 : Int)) = true then (0 : Int) else (10 : Int)) → ((if extendsB (4 : Int) (5 : Int) (rootS (List.take (Int.toNat (4 : Int)) fiveO)) (rootS fiveO) (betwN fiveO (4 : Int)) = true then (0 : Int) else (10 : Int)) = (0 : Int) → (betwN fiveO (4 : Int)).length ≤ (65536 : Nat) ∧ ((Ty.int IntKind.i64).kd.wf (if extendsB (4 : Int) (5 : Int) (rootS fiveO) (rootS fiveO) (betwN fiveO (4 : Int)) = true then (0 : Int) else (10 : Int)) → ((if extendsB (4 : Int) (5 : Int) (rootS fiveO) (rootS fiveO) (betwN fiveO (4 : Int)) = true then (0 : Int) else (10 : Int)) = (10 : Int) → ([] : List (List UInt8)).length ≤ (1048576 : Nat) ∧ ((Ty.arr (32 : Nat) Ty.byte).kd.wf (rootS ([] : List (List UInt8))) → ([] : List (List UInt8)).length ≤ (65536 : Nat) ∧ ((Ty.int IntKind.i64).kd.wf (if extendsB (0 : Int) (5 : Int) (rootS ([] : List (List UInt8))) (rootS fiveO) ([] : List (List UInt8)) = true then (0 : Int) else (10 : Int)) → ((if extendsB (0 : Int) (5 : Int) (rootS ([] : List (List UInt8))) (rootS fiveO) ([] : List (List UInt8)) = true then (0 : Int) else (10 : Int)) = (0 : Int) → ([] : List (List UInt8)).length ≤ (65536 : Nat) ∧ ((Ty.int IntKind.i64).kd.wf (if extendsB (6 : Int) (5 : Int) (rootS (List.take (Int.toNat (4 : Int)) fiveO)) (rootS fiveO) ([] : List (List UInt8)) = true then (0 : Int) else (10 : Int)) → Q (decide ((if extendsB (6 : Int) (5 : Int) (rootS (List.take (Int.toNat (4 : Int)) fiveO)) (rootS fiveO) ([] : List (List UInt8)) = true then (0 : Int) else (10 : Int)) = (10 : Int))))) ∧ (¬(if extendsB (0 : Int) (5 : Int) (rootS ([] : List (List UInt8))) (rootS fiveO) ([] : List (List UInt8)) = true then (0 : Int) else (10 : Int)) = (0 : Int) → Q false)))) ∧ (¬(if extendsB (4 : Int) (5 : Int) (rootS fiveO) (rootS fiveO) (betwN fiveO (4 : Int)) = true then (0 : Int) else (10 : Int)) = (10 : Int) → Q false))) ∧ (¬(if extendsB (4 : Int) (5 : Int) (rootS (List.take (Int.toNat (4 : Int)) fiveO)) (rootS fiveO) (betwN fiveO (4 : Int)) = true then (0 : Int) else (10 : Int)) = (0 : Int) → Q false))) ∧ (¬ix (betwN fiveO (4 : Int)) (0 : Int) = ix fiveO (4 : Int) → Q false)) ∧ (¬((betwN fiveO (4 : Int)).length : Int) = (1 : Int) → Q false)) ∧ (¬ix (betwN fiveO (3 : Int)) (3 : Int) = ix fiveO (4 : Int) → Q false)) ∧ (¬ix (betwN fiveO (3 : Int)) (0 : Int) = ix fiveO (2 : Int) → Q false)) ∧ (¬((betwN fiveO (3 : Int)).length : Int) = (4 : Int) → Q false)) ∧ (¬stepsN (Int.toNat (0 : Int)) (Int.toNat (5 : Int)) = (0 : Int) → Q false)) ∧ (¬stepsN (Int.toNat (5 : Int)) (Int.toNat (5 : Int)) = (0 : Int) → Q false)) ∧ (¬stepsN (Int.toNat (4 : Int)) (Int.toNat (5 : Int)) = (1 : Int) → Q false)) ∧ (¬stepsN (Int.toNat (3 : Int)) (Int.toNat (5 : Int)) = (4 : Int) → Q false))) ∧ True) ∧ (((List.take (Int.toNat (4 : Int)) fiveO).length ≤ (1048576 : Nat) ∧ ((Ty.arr (32 : Nat) Ty.byte).kd.wf (rootS (List.take (Int.toNat (4 : Int)) fiveO)) → (Ty.int IntKind.i64).kd.wf (stepsN (Int.toNat (3 : Int)) (Int.toNat (5 : Int))) → (stepsN (Int.toNat (3 : Int)) (Int.toNat (5 : Int)) = (4 : Int) → (Ty.int IntKind.i64).kd.wf (stepsN (Int.toNat (4 : Int)) (Int.toNat (5 : Int))) → (stepsN (Int.toNat (4 : Int)) (Int.toNat (5 : Int)) = (1 : Int) → (Ty.int IntKind.i64).kd.wf (stepsN (Int.toNat (5 : Int)) (Int.toNat (5 : Int))) → (stepsN (Int.toNat (5 : Int)) (Int.toNat (5 : Int)) = (0 : Int) → (Ty.int IntKind.i64).kd.wf (stepsN (Int.toNat (0 : Int)) (Int.toNat (5 : Int))) → (stepsN (Int.toNat (0 : Int)) (Int.toNat (5 : Int)) = (0 : Int) → (((betwN fiveO (3 : Int)).length : Int) = (4 : Int) → ((0 : Int) ≤ (0 : Int) ∧ (0 : Int) < ((betwN fiveO (3 : Int)).length : Int)) ∧ ((0 : Int) ≤ (2 : Int) ∧ (2 : Int) < (fiveO.length : Int)) ∧ (ix (betwN fiveO (3 : Int)) (0 : Int) = ix fiveO (2 : Int) → ((0 : Int) ≤ (3 : Int) ∧ (3 : Int) < ((betwN fiveO (3 : Int)).length : Int)) ∧ ((0 : Int) ≤ (4 : Int) ∧ (4 : Int) < (fiveO.length : Int)) ∧ (ix (betwN fiveO (3 : Int)) (3 : Int) = ix fiveO (4 : Int) → (((betwN fiveO (4 : Int)).length : Int) = (1 : Int) → ((0 : Int) ≤ (0 : Int) ∧ (0 : Int) < ((betwN fiveO (4 : Int)).length : Int)) ∧ ((0 : Int) ≤ (4 : Int) ∧ (4 : Int) < (fiveO.length : Int)) ∧ (ix (betwN fiveO (4 : Int)) (0 : Int) = ix fiveO (4 : Int) → (betwN fiveO (4 : Int)).length ≤ (65536 : Nat) ∧ ((Ty.int IntKind.i64).kd.wf (if extendsB (4 : Int) (5 : Int) (rootS (List.take (Int.toNat (4 : Int)) fiveO)) (rootS fiveO) (betwN fiveO (4 : Int)) = true then (0 : Int) else (10 : Int)) → ((if extendsB (4 : Int) (5 : Int) (rootS (List.take (Int.toNat (4 : Int)) fiveO)) (rootS fiveO) (betwN fiveO (4 : Int)) = true then (0 : Int) else (10 : Int)) = (0 : Int) → (betwN fiveO (4 : Int)).length ≤ (65536 : Nat) ∧ ((Ty.int IntKind.i64).kd.wf (if extendsB (4 : Int) (5 : Int) (rootS fiveO) (rootS fiveO) (betwN fiveO (4 : Int)) = true then (0 : Int) else (10 : Int)) → ((if extendsB (4 : Int) (5 : Int) (rootS fiveO) (rootS fiveO) (betwN fiveO (4 : Int)) = true then (0 : Int) else (10 : Int)) = (10 : Int) → ([] : List (List UInt8)).length ≤ (1048576 : Nat) ∧ ((Ty.arr (32 : Nat) Ty.byte).kd.wf (rootS ([] : List (List UInt8))) → ([] : List (List UInt8)).length ≤ (65536 : Nat) ∧ ((Ty.int IntKind.i64).kd.wf (if extendsB (0 : Int) (5 : Int) (rootS ([] : List (List UInt8))) (rootS fiveO) ([] : List (List UInt8)) = true then (0 : Int) else (10 : Int)) → ((if extendsB (0 : Int) (5 : Int) (rootS ([] : List (List UInt8))) (rootS fiveO) ([] : List (List UInt8)) = true then (0 : Int) else (10 : Int)) = (0 : Int) → ([] : List (List UInt8)).length ≤ (65536 : Nat) ∧ ((Ty.int IntKind.i64).kd.wf (if extendsB (6 : Int) (5 : Int) (rootS (List.take (Int.toNat (4 : Int)) fiveO)) (rootS fiveO) ([] : List (List UInt8)) = true then (0 : Int) else (10 : Int)) → Q (decide ((if extendsB (6 : Int) (5 : Int) (rootS (List.take (Int.toNat (4 : Int)) fiveO)) (rootS fiveO) ([] : List (List UInt8)) = true then (0 : Int) else (10 : Int)) = (10 : Int))))) ∧ (¬(if extendsB (0 : Int) (5 : Int) (rootS ([] : List (List UInt8))) (rootS fiveO) ([] : List (List UInt8)) = true then (0 : Int) else (10 : Int)) = (0 : Int) → Q false)))) ∧ (¬(if extendsB (4 : Int) (5 : Int) (rootS fiveO) (rootS fiveO) (betwN fiveO (4 : Int)) = true then (0 : Int) else (10 : Int)) = (10 : Int) → Q false))) ∧ (¬(if extendsB (4 : Int) (5 : Int) (rootS (List.take (Int.toNat (4 : Int)) fiveO)) (rootS fiveO) (betwN fiveO (4 : Int)) = true then (0 : Int) else (10 : Int)) = (0 : Int) → Q false))) ∧ (¬ix (betwN fiveO (4 : Int)) (0 : Int) = ix fiveO (4 : Int) → Q false)) ∧ (¬((betwN fiveO (4 : Int)).length : Int) = (1 : Int) → Q false)) ∧ (¬ix (betwN fiveO (3 : Int)) (3 : Int) = ix fiveO (4 : Int) → Q false)) ∧ (¬ix (betwN fiveO (3 : Int)) (0 : Int) = ix fiveO (2 : Int) → Q false)) ∧ (¬((betwN fiveO (3 : Int)).length : Int) = (4 : Int) → Q false)) ∧ (¬stepsN (Int.toNat (0 : Int)) (Int.toNat (5 : Int)) = (0 : Int) → Q false)) ∧ (¬stepsN (Int.toNat (5 : Int)) (Int.toNat (5 : Int)) = (0 : Int) → Q false)) ∧ (¬stepsN (Int.toNat (4 : Int)) (Int.toNat (5 : Int)) = (1 : Int) → Q false)) ∧ (¬stepsN (Int.toNat (3 : Int)) (Int.toNat (5 : Int)) = (4 : Int) → Q false))) ∧ ((List.take (Int.toNat (4 : Int)) fiveO).length ≤ (1048576 : Nat) ∧ ((Ty.arr (32 : Nat) Ty.byte).kd.wf (rootS (List.take (Int.toNat (4 : Int)) fiveO)) → (Ty.int IntKind.i64).kd.wf (stepsN (Int.toNat (3 : Int)) (Int.toNat (5 : Int))) → (stepsN (Int.toNat (3 : Int)) (Int.toNat (5 : Int)) = (4 : Int) → (Ty.int IntKind.i64).kd.wf (stepsN (Int.toNat (4 : Int)) (Int.toNat (5 : Int))) → (stepsN (Int.toNat (4 : Int)) (Int.toNat (5 : Int)) = (1 : Int) → (Ty.int IntKind.i64).kd.wf (stepsN (Int.toNat (5 : Int)) (Int.toNat (5 : Int))) → (stepsN (Int.toNat (5 : Int)) (Int.toNat (5 : Int)) = (0 : Int) → (Ty.int IntKind.i64).kd.wf (stepsN (Int.toNat (0 : Int)) (Int.toNat (5 : Int))) → (stepsN (Int.toNat (0 : Int)) (Int.toNat (5 : Int)) = (0 : Int) → (((betwN fiveO (3 : Int)).length : Int) = (4 : Int) → ((0 : Int) ≤ (0 : Int) ∧ (0 : Int) < ((betwN fiveO (3 : Int)).length : Int)) ∧ ((0 : Int) ≤ (2 : Int) ∧ (2 : Int) < (fiveO.length : Int)) ∧ (ix (betwN fiveO (3 : Int)) (0 : Int) = ix fiveO (2 : Int) → ((0 : Int) ≤ (3 : Int) ∧ (3 : Int) < ((betwN fiveO (3 : Int)).length : Int)) ∧ ((0 : Int) ≤ (4 : Int) ∧ (4 : Int) < (fiveO.length : Int)) ∧ (ix (betwN fiveO (3 : Int)) (3 : Int) = ix fiveO (4 : Int) → (((betwN fiveO (4 : Int)).length : Int) = (1 : Int) → ((0 : Int) ≤ (0 : Int) ∧ (0 : Int) < ((betwN fiveO (4 : Int)).length : Int)) ∧ ((0 : Int) ≤ (4 : Int) ∧ (4 : Int) < (fiveO.length : Int)) ∧ (ix (betwN fiveO (4 : Int)) (0 : Int) = ix fiveO (4 : Int) → (betwN fiveO (4 : Int)).length ≤ (65536 : Nat) ∧ ((Ty.int IntKind.i64).kd.wf (if extendsB (4 : Int) (5 : Int) (rootS (List.take (Int.toNat (4 : Int)) fiveO)) (rootS fiveO) (betwN fiveO (4 : Int)) = true then (0 : Int) else (10 : Int)) → ((if extendsB (4 : Int) (5 : Int) (rootS (List.take (Int.toNat (4 : Int)) fiveO)) (rootS fiveO) (betwN fiveO (4 : Int)) = true then (0 : Int) else (10 : Int)) = (0 : Int) → (betwN fiveO (4 : Int)).length ≤ (65536 : Nat) ∧ ((Ty.int IntKind.i64).kd.wf (if extendsB (4 : Int) (5 : Int) (rootS fiveO) (rootS fiveO) (betwN fiveO (4 : Int)) = true then (0 : Int) else (10 : Int)) → ((if extendsB (4 : Int) (5 : Int) (rootS fiveO) (rootS fiveO) (betwN fiveO (4 : Int)) = true then (0 : Int) else (10 : Int)) = (10 : Int) → ([] : List (List UInt8)).length ≤ (1048576 : Nat) ∧ ((Ty.arr (32 : Nat) Ty.byte).kd.wf (rootS ([] : List (List UInt8))) → ([] : List (List UInt8)).length ≤ (65536 : Nat) ∧ ((Ty.int IntKind.i64).kd.wf (if extendsB (0 : Int) (5 : Int) (rootS ([] : List (List UInt8))) (rootS fiveO) ([] : List (List UInt8)) = true then (0 : Int) else (10 : Int)) → ((if extendsB (0 : Int) (5 : Int) (rootS ([] : List (List UInt8))) (rootS fiveO) ([] : List (List UInt8)) = true then (0 : Int) else (10 : Int)) = (0 : Int) → ([] : List (List UInt8)).length ≤ (65536 : Nat) ∧ ((Ty.int IntKind.i64).kd.wf (if extendsB (6 : Int) (5 : Int) (rootS (List.take (Int.toNat (4 : Int)) fiveO)) (rootS fiveO) ([] : List (List UInt8)) = true then (0 : Int) else (10 : Int)) → Q (decide ((if extendsB (6 : Int) (5 : Int) (rootS (List.take (Int.toNat (4 : Int)) fiveO)) (rootS fiveO) ([] : List (List UInt8)) = true then (0 : Int) else (10 : Int)) = (10 : Int))))) ∧ (¬(if extendsB (0 : Int) (5 : Int) (rootS ([] : List (List UInt8))) (rootS fiveO) ([] : List (List UInt8)) = true then (0 : Int) else (10 : Int)) = (0 : Int) → Q false)))) ∧ (¬(if extendsB (4 : Int) (5 : Int) (rootS fiveO) (rootS fiveO) (betwN fiveO (4 : Int)) = true then (0 : Int) else (10 : Int)) = (10 : Int) → Q false))) ∧ (¬(if extendsB (4 : Int) (5 : Int) (rootS (List.take (Int.toNat (4 : Int)) fiveO)) (rootS fiveO) (betwN fiveO (4 : Int)) = true then (0 : Int) else (10 : Int)) = (0 : Int) → Q false))) ∧ (¬ix (betwN fiveO (4 : Int)) (0 : Int) = ix fiveO (4 : Int) → Q false)) ∧ (¬((betwN fiveO (4 : Int)).length : Int) = (1 : Int) → Q false)) ∧ (¬ix (betwN fiveO (3 : Int)) (3 : Int) = ix fiveO (4 : Int) → Q false)) ∧ (¬ix (betwN fiveO (3 : Int)) (0 : Int) = ix fiveO (2 : Int) → Q false)) ∧ (¬((betwN fiveO (3 : Int)).length : Int) = (4 : Int) → Q false)) ∧ (¬stepsN (Int.toNat (0 : Int)) (Int.toNat (5 : Int)) = (0 : Int) → Q false)) ∧ (¬stepsN (Int.toNat (5 : Int)) (Int.toNat (5 : Int)) = (0 : Int) → Q false)) ∧ (¬stepsN (Int.toNat (4 : Int)) (Int.toNat (5 : Int)) = (1 : Int) → Q false)) ∧ (¬stepsN (Int.toNat (3 : Int)) (Int.toNat (5 : Int)) = (4 : Int) → Q false))) ∧ True) ∧ True)) ∧ ((fiveO.length ≤ (1048576 : Nat) ∧ ((Ty.arr (32 : Nat) Ty.byte).kd.wf (rootS fiveO) → ((List.take (Int.toNat (4 : Int)) fiveO).length ≤ (1048576 : Nat) ∧ ((Ty.arr (32 : Nat) Ty.byte).kd.wf (rootS (List.take (Int.toNat (4 : Int)) fiveO)) → (Ty.int IntKind.i64).kd.wf (stepsN (Int.toNat (3 : Int)) (Int.toNat (5 : Int))) → (stepsN (Int.toNat (3 : Int)) (Int.toNat (5 : Int)) = (4 : Int) → (Ty.int IntKind.i64).kd.wf (stepsN (Int.toNat (4 : Int)) (Int.toNat (5 : Int))) → (stepsN (Int.toNat (4 : Int)) (Int.toNat (5 : Int)) = (1 : Int) → (Ty.int IntKind.i64).kd.wf (stepsN (Int.toNat (5 : Int)) (Int.toNat (5 : Int))) → (stepsN (Int.toNat (5 : Int)) (Int.toNat (5 : Int)) = (0 : Int) → (Ty.int IntKind.i64).kd.wf (stepsN (Int.toNat (0 : Int)) (Int.toNat (5 : Int))) → (stepsN (Int.toNat (0 : Int)) (Int.toNat (5 : Int)) = (0 : Int) → (((betwN fiveO (3 : Int)).length : Int) = (4 : Int) → ((0 : Int) ≤ (0 : Int) ∧ (0 : Int) < ((betwN fiveO (3 : Int)).length : Int)) ∧ ((0 : Int) ≤ (2 : Int) ∧ (2 : Int) < (fiveO.length : Int)) ∧ (ix (betwN fiveO (3 : Int)) (0 : Int) = ix fiveO (2 : Int) → ((0 : Int) ≤ (3 : Int) ∧ (3 : Int) < ((betwN fiveO (3 : Int)).length : Int)) ∧ ((0 : Int) ≤ (4 : Int) ∧ (4 : Int) < (fiveO.length : Int)) ∧ (ix (betwN fiveO (3 : Int)) (3 : Int) = ix fiveO (4 : Int) → (((betwN fiveO (4 : Int)).length : Int) = (1 : Int) → ((0 : Int) ≤ (0 : Int) ∧ (0 : Int) < ((betwN fiveO (4 : Int)).length : Int)) ∧ ((0 : Int) ≤ (4 : Int) ∧ (4 : Int) < (fiveO.length : Int)) ∧ (ix (betwN fiveO (4 : Int)) (0 : Int) = ix fiveO (4 : Int) → (betwN fiveO (4 : Int)).length ≤ (65536 : Nat) ∧ ((Ty.int IntKind.i64).kd.wf (if extendsB (4 : Int) (5 : Int) (rootS (List.take (Int.toNat (4 : Int)) fiveO)) (rootS fiveO) (betwN fiveO (4 : Int)) = true then (0 : Int) else (10 : Int)) → ((if extendsB (4 : Int) (5 : Int) (rootS (List.take (Int.toNat (4 : Int)) fiveO)) (rootS fiveO) (betwN fiveO (4 : Int)) = true then (0 : Int) else (10 : Int)) = (0 : Int) → (betwN fiveO (4 : Int)).length ≤ (65536 : Nat) ∧ ((Ty.int IntKind.i64).kd.wf (if extendsB (4 : Int) (5 : Int) (rootS fiveO) (rootS fiveO) (betwN fiveO (4 : Int)) = true then (0 : Int) else (10 : Int)) → ((if extendsB (4 : Int) (5 : Int) (rootS fiveO) (rootS fiveO) (betwN fiveO (4 : Int)) = true then (0 : Int) else (10 : Int)) = (10 : Int) → ([] : List (List UInt8)).length ≤ (1048576 : Nat) ∧ ((Ty.arr (32 : Nat) Ty.byte).kd.wf (rootS ([] : List (List UInt8))) → ([] : List (List UInt8)).length ≤ (65536 : Nat) ∧ ((Ty.int IntKind.i64).kd.wf (if extendsB (0 : Int) (5 : Int) (rootS ([] : List (List UInt8))) (rootS fiveO) ([] : List (List UInt8)) = true then (0 : Int) else (10 : Int)) → ((if extendsB (0 : Int) (5 : Int) (rootS ([] : List (List UInt8))) (rootS fiveO) ([] : List (List UInt8)) = true then (0 : Int) else (10 : Int)) = (0 : Int) → ([] : List (List UInt8)).length ≤ (65536 : Nat) ∧ ((Ty.int IntKind.i64).kd.wf (if extendsB (6 : Int) (5 : Int) (rootS (List.take (Int.toNat (4 : Int)) fiveO)) (rootS fiveO) ([] : List (List UInt8)) = true then (0 : Int) else (10 : Int)) → Q (decide ((if extendsB (6 : Int) (5 : Int) (rootS (List.take (Int.toNat (4 : Int)) fiveO)) (rootS fiveO) ([] : List (List UInt8)) = true then (0 : Int) else (10 : Int)) = (10 : Int))))) ∧ (¬(if extendsB (0 : Int) (5 : Int) (rootS ([] : List (List UInt8))) (rootS fiveO) ([] : List (List UInt8)) = true then (0 : Int) else (10 : Int)) = (0 : Int) → Q false)))) ∧ (¬(if extendsB (4 : Int) (5 : Int) (rootS fiveO) (rootS fiveO) (betwN fiveO (4 : Int)) = true then (0 : Int) else (10 : Int)) = (10 : Int) → Q false))) ∧ (¬(if extendsB (4 : Int) (5 : Int) (rootS (List.take (Int.toNat (4 : Int)) fiveO)) (rootS fiveO) (betwN fiveO (4 : Int)) = true then (0 : Int) else (10 : Int)) = (0 : Int) → Q false))) ∧ (¬ix (betwN fiveO (4 : Int)) (0 : Int) = ix fiveO (4 : Int) → Q false)) ∧ (¬((betwN fiveO (4 : Int)).length : Int) = (1 : Int) → Q false)) ∧ (¬ix (betwN fiveO (3 : Int)) (3 : Int) = ix fiveO (4 : Int) → Q false)) ∧ (¬ix (betwN fiveO (3 : Int)) (0 : Int) = ix fiveO (2 : Int) → Q false)) ∧ (¬((betwN fiveO (3 : Int)).length : Int) = (4 : Int) → Q false)) ∧ (¬stepsN (Int.toNat (0 : Int)) (Int.toNat (5 : Int)) = (0 : Int) → Q false)) ∧ (¬stepsN (Int.toNat (5 : Int)) (Int.toNat (5 : Int)) = (0 : Int) → Q false)) ∧ (¬stepsN (Int.toNat (4 : Int)) (Int.toNat (5 : Int)) = (1 : Int) → Q false)) ∧ (¬stepsN (Int.toNat (3 : Int)) (Int.toNat (5 : Int)) = (4 : Int) → Q false))) ∧ ((List.take (Int.toNat (4 : Int)) fiveO).length ≤ (1048576 : Nat) ∧ ((Ty.arr (32 : Nat) Ty.byte).kd.wf (rootS (List.take (Int.toNat (4 : Int)) fiveO)) → (Ty.int IntKind.i64).kd.wf (stepsN (Int.toNat (3 : Int)) (Int.toNat (5 : Int))) → (stepsN (Int.toNat (3 : Int)) (Int.toNat (5 : Int)) = (4 : Int) → (Ty.int IntKind.i64).kd.wf (stepsN (Int.toNat (4 : Int)) (Int.toNat (5 : Int))) → (stepsN (Int.toNat (4 : Int)) (Int.toNat (5 : Int)) = (1 : Int) → (Ty.int IntKind.i64).kd.wf (stepsN (Int.toNat (5 : Int)) (Int.toNat (5 : Int))) → (stepsN (Int.toNat (5 : Int)) (Int.toNat (5 : Int)) = (0 : Int) → (Ty.int IntKind.i64).kd.wf (stepsN (Int.toNat (0 : Int)) (Int.toNat (5 : Int))) → (stepsN (Int.toNat (0 : Int)) (Int.toNat (5 : Int)) = (0 : Int) → (((betwN fiveO (3 : Int)).length : Int) = (4 : Int) → ((0 : Int) ≤ (0 : Int) ∧ (0 : Int) < ((betwN fiveO (3 : Int)).length : Int)) ∧ ((0 : Int) ≤ (2 : Int) ∧ (2 : Int) < (fiveO.length : Int)) ∧ (ix (betwN fiveO (3 : Int)) (0 : Int) = ix fiveO (2 : Int) → ((0 : Int) ≤ (3 : Int) ∧ (3 : Int) < ((betwN fiveO (3 : Int)).length : Int)) ∧ ((0 : Int) ≤ (4 : Int) ∧ (4 : Int) < (fiveO.length : Int)) ∧ (ix (betwN fiveO (3 : Int)) (3 : Int) = ix fiveO (4 : Int) → (((betwN fiveO (4 : Int)).length : Int) = (1 : Int) → ((0 : Int) ≤ (0 : Int) ∧ (0 : Int) < ((betwN fiveO (4 : Int)).length : Int)) ∧ ((0 : Int) ≤ (4 : Int) ∧ (4 : Int) < (fiveO.length : Int)) ∧ (ix (betwN fiveO (4 : Int)) (0 : Int) = ix fiveO (4 : Int) → (betwN fiveO (4 : Int)).length ≤ (65536 : Nat) ∧ ((Ty.int IntKind.i64).kd.wf (if extendsB (4 : Int) (5 : Int) (rootS (List.take (Int.toNat (4 : Int)) fiveO)) (rootS fiveO) (betwN fiveO (4 : Int)) = true then (0 : Int) else (10 : Int)) → ((if extendsB (4 : Int) (5 : Int) (rootS (List.take (Int.toNat (4 : Int)) fiveO)) (rootS fiveO) (betwN fiveO (4 : Int)) = true then (0 : Int) else (10 : Int)) = (0 : Int) → (betwN fiveO (4 : Int)).length ≤ (65536 : Nat) ∧ ((Ty.int IntKind.i64).kd.wf (if extendsB (4 : Int) (5 : Int) (rootS fiveO) (rootS fiveO) (betwN fiveO (4 : Int)) = true then (0 : Int) else (10 : Int)) → ((if extendsB (4 : Int) (5 : Int) (rootS fiveO) (rootS fiveO) (betwN fiveO (4 : Int)) = true then (0 : Int) else (10 : Int)) = (10 : Int) → ([] : List (List UInt8)).length ≤ (1048576 : Nat) ∧ ((Ty.arr (32 : Nat) Ty.byte).kd.wf (rootS ([] : List (List UInt8))) → ([] : List (List UInt8)).length ≤ (65536 : Nat) ∧ ((Ty.int IntKind.i64).kd.wf (if extendsB (0 : Int) (5 : Int) (rootS ([] : List (List UInt8))) (rootS fiveO) ([] : List (List UInt8)) = true then (0 : Int) else (10 : Int)) → ((if extendsB (0 : Int) (5 : Int) (rootS ([] : List (List UInt8))) (rootS fiveO) ([] : List (List UInt8)) = true then (0 : Int) else (10 : Int)) = (0 : Int) → ([] : List (List UInt8)).length ≤ (65536 : Nat) ∧ ((Ty.int IntKind.i64).kd.wf (if extendsB (6 : Int) (5 : Int) (rootS (List.take (Int.toNat (4 : Int)) fiveO)) (rootS fiveO) ([] : List (List UInt8)) = true then (0 : Int) else (10 : Int)) → Q (decide ((if extendsB (6 : Int) (5 : Int) (rootS (List.take (Int.toNat (4 : Int)) fiveO)) (rootS fiveO) ([] : List (List UInt8)) = true then (0 : Int) else (10 : Int)) = (10 : Int))))) ∧ (¬(if extendsB (0 : Int) (5 : Int) (rootS ([] : List (List UInt8))) (rootS fiveO) ([] : List (List UInt8)) = true then (0 : Int) else (10 : Int)) = (0 : Int) → Q false)))) ∧ (¬(if extendsB (4 : Int) (5 : Int) (rootS fiveO) (rootS fiveO) (betwN fiveO (4 : Int)) = true then (0 : Int) else (10 : Int)) = (10 : Int) → Q false))) ∧ (¬(if extendsB (4 : Int) (5 : Int) (rootS (List.take (Int.toNat (4 : Int)) fiveO)) (rootS fiveO) (betwN fiveO (4 : Int)) = true then (0 : Int) else (10 : Int)) = (0 : Int) → Q false))) ∧ (¬ix (betwN fiveO (4 : Int)) (0 : Int) = ix fiveO (4 : Int) → Q false)) ∧ (¬((betwN fiveO (4 : Int)).length : Int) = (1 : Int) → Q false)) ∧ (¬ix (betwN fiveO (3 : Int)) (3 : Int) = ix fiveO (4 : Int) → Q false)) ∧ (¬ix (betwN fiveO (3 : Int)) (0 : Int) = ix fiveO (2 : Int) → Q false)) ∧ (¬((betwN fiveO (3 : Int)).length : Int) = (4 : Int) → Q false)) ∧ (¬stepsN (Int.toNat (0 : Int)) (Int.toNat (5 : Int)) = (0 : Int) → Q false)) ∧ (¬stepsN (Int.toNat (5 : Int)) (Int.toNat (5 : Int)) = (0 : Int) → Q false)) ∧ (¬stepsN (Int.toNat (4 : Int)) (Int.toNat (5 : Int)) = (1 : Int) → Q false)) ∧ (¬stepsN (Int.toNat (3 : Int)) (Int.toNat (5 : Int)) = (4 : Int) → Q false))) ∧ True)) ∧ (fiveO.length ≤ (1048576 : Nat) ∧ ((Ty.arr (32 : Nat) Ty.byte).kd.wf (rootS fiveO) → (List.take (Int.toNat (4 : Int)) fiveO).length ≤ (1048576 : Nat) ∧ ((Ty.arr (32 : Nat) Ty.byte).kd.wf (rootS (List.take (Int.toNat (4 : Int)) fiveO)) → (Ty.int IntKind.i64).kd.wf (stepsN (Int.toNat (3 : Int)) (Int.toNat (5 : Int))) → (stepsN (Int.toNat (3 : Int)) (Int.toNat (5 : Int)) = (4 : Int) → (Ty.int IntKind.i64).kd.wf (stepsN (Int.toNat (4 : Int)) (Int.toNat (5 : Int))) → (stepsN (Int.toNat (4 : Int)) (Int.toNat (5 : Int)) = (1 : Int) → (Ty.int IntKind.i64).kd.wf (stepsN (Int.toNat (5 : Int)) (Int.toNat (5 : Int))) → (stepsN (Int.toNat (5 : Int)) (Int.toNat (5 : Int)) = (0 : Int) → (Ty.int IntKind.i64).kd.wf (stepsN (Int.toNat (0 : Int)) (Int.toNat (5 : Int))) → (stepsN (Int.toNat (0 : Int)) (Int.toNat (5 : Int)) = (0 : Int) → (((betwN fiveO (3 : Int)).length : Int) = (4 : Int) → ((0 : Int) ≤ (0 : Int) ∧ (0 : Int) < ((betwN fiveO (3 : Int)).length : Int)) ∧ ((0 : Int) ≤ (2 : Int) ∧ (2 : Int) < (fiveO.length : Int)) ∧ (ix (betwN fiveO (3 : Int)) (0 : Int) = ix fiveO (2 : Int) → ((0 : Int) ≤ (3 : Int) ∧ (3 : Int) < ((betwN fiveO (3 : Int)).length : Int)) ∧ ((0 : Int) ≤ (4 : Int) ∧ (4 : Int) < (fiveO.length : Int)) ∧ (ix (betwN fiveO (3 : Int)) (3 : Int) = ix fiveO (4 : Int) → (((betwN fiveO (4 : Int)).length : Int) = (1 : Int) → ((0 : Int) ≤ (0 : Int) ∧ (0 : Int) < ((betwN fiveO (4 : Int)).length : Int)) ∧ ((0 : Int) ≤ (4 : Int) ∧ (4 : Int) < (fiveO.length : Int)) ∧ (ix (betwN fiveO (4 : Int)) (0 : Int) = ix fiveO (4 : Int) → (betwN fiveO (4 : Int)).length ≤ (65536 : Nat) ∧ ((Ty.int IntKind.i64).kd.wf (if extendsB (4 : Int) (5 : Int) (rootS (List.take (Int.toNat (4 : Int)) fiveO)) (rootS fiveO) (betwN fiveO (4 : Int)) = true then (0 : Int) else (10 : Int)) → ((if extendsB (4 : Int) (5 : Int) (rootS (List.take (Int.toNat (4 : Int)) fiveO)) (rootS fiveO) (betwN fiveO (4 : Int)) = true then (0 : Int) else (10 : Int)) = (0 : Int) → (betwN fiveO (4 : Int)).length ≤ (65536 : Nat) ∧ ((Ty.int IntKind.i64).kd.wf (if extendsB (4 : Int) (5 : Int) (rootS fiveO) (rootS fiveO) (betwN fiveO (4 : Int)) = true then (0 : Int) else (10 : Int)) → ((if extendsB (4 : Int) (5 : Int) (rootS fiveO) (rootS fiveO) (betwN fiveO (4 : Int)) = true then (0 : Int) else (10 : Int)) = (10 : Int) → ([] : List (List UInt8)).length ≤ (1048576 : Nat) ∧ ((Ty.arr (32 : Nat) Ty.byte).kd.wf (rootS ([] : List (List UInt8))) → ([] : List (List UInt8)).length ≤ (65536 : Nat) ∧ ((Ty.int IntKind.i64).kd.wf (if extendsB (0 : Int) (5 : Int) (rootS ([] : List (List UInt8))) (rootS fiveO) ([] : List (List UInt8)) = true then (0 : Int) else (10 : Int)) → ((if extendsB (0 : Int) (5 : Int) (rootS ([] : List (List UInt8))) (rootS fiveO) ([] : List (List UInt8)) = true then (0 : Int) else (10 : Int)) = (0 : Int) → ([] : List (List UInt8)).length ≤ (65536 : Nat) ∧ ((Ty.int IntKind.i64).kd.wf (if extendsB (6 : Int) (5 : Int) (rootS (List.take (Int.toNat (4 : Int)) fiveO)) (rootS fiveO) ([] : List (List UInt8)) = true then (0 : Int) else (10 : Int)) → Q (decide ((if extendsB (6 : Int) (5 : Int) (rootS (List.take (Int.toNat (4 : Int)) fiveO)) (rootS fiveO) ([] : List (List UInt8)) = true then (0 : Int) else (10 : Int)) = (10 : Int))))) ∧ (¬(if extendsB (0 : Int) (5 : Int) (rootS ([] : List (List UInt8))) (rootS fiveO) ([] : List (List UInt8)) = true then (0 : Int) else (10 : Int)) = (0 : Int) → Q false)))) ∧ (¬(if extendsB (4 : Int) (5 : Int) (rootS fiveO) (rootS fiveO) (betwN fiveO (4 : Int)) = true then (0 : Int) else (10 : Int)) = (10 : Int) → Q false))) ∧ (¬(if extendsB (4 : Int) (5 : Int) (rootS (List.take (Int.toNat (4 : Int)) fiveO)) (rootS fiveO) (betwN fiveO (4 : Int)) = true then (0 : Int) else (10 : Int)) = (0 : Int) → Q false))) ∧ (¬ix (betwN fiveO (4 : Int)) (0 : Int) = ix fiveO (4 : Int) → Q false)) ∧ (¬((betwN fiveO (4 : Int)).length : Int) = (1 : Int) → Q false)) ∧ (¬ix (betwN fiveO (3 : Int)) (3 : Int) = ix fiveO (4 : Int) → Q false)) ∧ (¬ix (betwN fiveO (3 : Int)) (0 : Int) = ix fiveO (2 : Int) → Q false)) ∧ (¬((betwN fiveO (3 : Int)).length : Int) = (4 : Int) → Q false)) ∧ (¬stepsN (Int.toNat (0 : Int)) (Int.toNat (5 : Int)) = (0 : Int) → Q false)) ∧ (¬stepsN (Int.toNat (5 : Int)) (Int.toNat (5 : Int)) = (0 : Int) → Q false)) ∧ (¬stepsN (Int.toNat (4 : Int)) (Int.toNat (5 : Int)) = (1 : Int) → Q false)) ∧ (¬stepsN (Int.toNat (3 : Int)) (Int.toNat (5 : Int)) = (4 : Int) → Q false)))) ∧ True) ∧ ((fiveO.length ≤ (1048576 : Nat) ∧ ((Ty.arr (32 : Nat) Ty.byte).kd.wf (rootS fiveO) → ((List.take (Int.toNat (4 : Int)) fiveO).length ≤ (1048576 : Nat) ∧ ((Ty.arr (32 : Nat) Ty.byte).kd.wf (rootS (List.take (Int.toNat (4 : Int)) fiveO)) → (Ty.int IntKind.i64).kd.wf (stepsN (Int.toNat (3 : Int)) (Int.toNat (5 : Int))) → (stepsN (Int.toNat (3 : Int)) (Int.toNat (5 : Int)) = (4 : Int) → (Ty.int IntKind.i64).kd.wf (stepsN (Int.toNat (4 : Int)) (Int.toNat (5 : Int))) → (stepsN (Int.toNat (4 : Int)) (Int.toNat (5 : Int)) = (1 : Int) → (Ty.int IntKind.i64).kd.wf (stepsN (Int.toNat (5 : Int)) (Int.toNat (5 : Int))) → (stepsN (Int.toNat (5 : Int)) (Int.toNat (5 : Int)) = (0 : Int) → (Ty.int IntKind.i64).kd.wf (stepsN (Int.toNat (0 : Int)) (Int.toNat (5 : Int))) → (stepsN (Int.toNat (0 : Int)) (Int.toNat (5 : Int)) = (0 : Int) → (((betwN fiveO (3 : Int)).length : Int) = (4 : Int) → ((0 : Int) ≤ (0 : Int) ∧ (0 : Int) < ((betwN fiveO (3 : Int)).length : Int)) ∧ ((0 : Int) ≤ (2 : Int) ∧ (2 : Int) < (fiveO.length : Int)) ∧ (ix (betwN fiveO (3 : Int)) (0 : Int) = ix fiveO (2 : Int) → ((0 : Int) ≤ (3 : Int) ∧ (3 : Int) < ((betwN fiveO (3 : Int)).length : Int)) ∧ ((0 : Int) ≤ (4 : Int) ∧ (4 : Int) < (fiveO.length : Int)) ∧ (ix (betwN fiveO (3 : Int)) (3 : Int) = ix fiveO (4 : Int) → (((betwN fiveO (4 : Int)).length : Int) = (1 : Int) → ((0 : Int) ≤ (0 : Int) ∧ (0 : Int) < ((betwN fiveO (4 : Int)).length : Int)) ∧ ((0 : Int) ≤ (4 : Int) ∧ (4 : Int) < (fiveO.length : Int)) ∧ (ix (betwN fiveO (4 : Int)) (0 : Int) = ix fiveO (4 : Int) → (betwN fiveO (4 : Int)).length ≤ (65536 : Nat) ∧ ((Ty.int IntKind.i64).kd.wf (if extendsB (4 : Int) (5 : Int) (rootS (List.take (Int.toNat (4 : Int)) fiveO)) (rootS fiveO) (betwN fiveO (4 : Int)) = true then (0 : Int) else (10 : Int)) → ((if extendsB (4 : Int) (5 : Int) (rootS (List.take (Int.toNat (4 : Int)) fiveO)) (rootS fiveO) (betwN fiveO (4 : Int)) = true then (0 : Int) else (10 : Int)) = (0 : Int) → (betwN fiveO (4 : Int)).length ≤ (65536 : Nat) ∧ ((Ty.int IntKind.i64).kd.wf (if extendsB (4 : Int) (5 : Int) (rootS fiveO) (rootS fiveO) (betwN fiveO (4 : Int)) = true then (0 : Int) else (10 : Int)) → ((if extendsB (4 : Int) (5 : Int) (rootS fiveO) (rootS fiveO) (betwN fiveO (4 : Int)) = true then (0 : Int) else (10 : Int)) = (10 : Int) → ([] : List (List UInt8)).length ≤ (1048576 : Nat) ∧ ((Ty.arr (32 : Nat) Ty.byte).kd.wf (rootS ([] : List (List UInt8))) → ([] : List (List UInt8)).length ≤ (65536 : Nat) ∧ ((Ty.int IntKind.i64).kd.wf (if extendsB (0 : Int) (5 : Int) (rootS ([] : List (List UInt8))) (rootS fiveO) ([] : List (List UInt8)) = true then (0 : Int) else (10 : Int)) → ((if extendsB (0 : Int) (5 : Int) (rootS ([] : List (List UInt8))) (rootS fiveO) ([] : List (List UInt8)) = true then (0 : Int) else (10 : Int)) = (0 : Int) → ([] : List (List UInt8)).length ≤ (65536 : Nat) ∧ ((Ty.int IntKind.i64).kd.wf (if extendsB (6 : Int) (5 : Int) (rootS (List.take (Int.toNat (4 : Int)) fiveO)) (rootS fiveO) ([] : List (List UInt8)) = true then (0 : Int) else (10 : Int)) → Q (decide ((if extendsB (6 : Int) (5 : Int) (rootS (List.take (Int.toNat (4 : Int)) fiveO)) (rootS fiveO) ([] : List (List UInt8)) = true then (0 : Int) else (10 : Int)) = (10 : Int))))) ∧ (¬(if extendsB (0 : Int) (5 : Int) (rootS ([] : List (List UInt8))) (rootS fiveO) ([] : List (List UInt8)) = true then (0 : Int) else (10 : Int)) = (0 : Int) → Q false)))) ∧ (¬(if extendsB (4 : Int) (5 : Int) (rootS fiveO) (rootS fiveO) (betwN fiveO (4 : Int)) = true then (0 : Int) else (10 : Int)) = (10 : Int) → Q false))) ∧ (¬(if extendsB (4 : Int) (5 : Int) (rootS (List.take (Int.toNat (4 : Int)) fiveO)) (rootS fiveO) (betwN fiveO (4 : Int)) = true then (0 : Int) else (10 : Int)) = (0 : Int) → Q false))) ∧ (¬ix (betwN fiveO (4 : Int)) (0 : Int) = ix fiveO (4 : Int) → Q false)) ∧ (¬((betwN fiveO (4 : Int)).length : Int) = (1 : Int) → Q false)) ∧ (¬ix (betwN fiveO (3 : Int)) (3 : Int) = ix fiveO (4 : Int) → Q false)) ∧ (¬ix (betwN fiveO (3 : Int)) (0 : Int) = ix fiveO (2 : Int) → Q false)) ∧ (¬((betwN fiveO (3 : Int)).length : Int) = (4 : Int) → Q false)) ∧ (¬stepsN (Int.toNat (0 : Int)) (Int.toNat (5 : Int)) = (0 : Int) → Q false)) ∧ (¬stepsN (Int.toNat (5 : Int)) (Int.toNat (5 : Int)) = (0 : Int) → Q false)) ∧ (¬stepsN (Int.toNat (4 : Int)) (Int.toNat (5 : Int)) = (1 : Int) → Q false)) ∧ (¬stepsN (Int.toNat (3 : Int)) (Int.toNat (5 : Int)) = (4 : Int) → Q false))) ∧ ((List.take (Int.toNat (4 : Int)) fiveO).length ≤ (1048576 : Nat) ∧ ((Ty.arr (32 : Nat) Ty.byte).kd.wf (rootS (List.take (Int.toNat (4 : Int)) fiveO)) → (Ty.int IntKind.i64).kd.wf (stepsN (Int.toNat (3 : Int)) (Int.toNat (5 : Int))) → (stepsN (Int.toNat (3 : Int)) (Int.toNat (5 : Int)) = (4 : Int) → (Ty.int IntKind.i64).kd.wf (stepsN (Int.toNat (4 : Int)) (Int.toNat (5 : Int))) → (stepsN (Int.toNat (4 : Int)) (Int.toNat (5 : Int)) = (1 : Int) → (Ty.int IntKind.i64).kd.wf (stepsN (Int.toNat (5 : Int)) (Int.toNat (5 : Int))) → (stepsN (Int.toNat (5 : Int)) (Int.toNat (5 : Int)) = (0 : Int) → (Ty.int IntKind.i64).kd.wf (stepsN (Int.toNat (0 : Int)) (Int.toNat (5 : Int))) → (stepsN (Int.toNat (0 : Int)) (Int.toNat (5 : Int)) = (0 : Int) → (((betwN fiveO (3 : Int)).length : Int) = (4 : Int) → ((0 : Int) ≤ (0 : Int) ∧ (0 : Int) < ((betwN fiveO (3 : Int)).length : Int)) ∧ ((0 : Int) ≤ (2 : Int) ∧ (2 : Int) < (fiveO.length : Int)) ∧ (ix (betwN fiveO (3 : Int)) (0 : Int) = ix fiveO (2 : Int) → ((0 : Int) ≤ (3 : Int) ∧ (3 : Int) < ((betwN fiveO (3 : Int)).length : Int)) ∧ ((0 : Int) ≤ (4 : Int) ∧ (4 : Int) < (fiveO.length : Int)) ∧ (ix (betwN fiveO (3 : Int)) (3 : Int) = ix fiveO (4 : Int) → (((betwN fiveO (4 : Int)).length : Int) = (1 : Int) → ((0 : Int) ≤ (0 : Int) ∧ (0 : Int) < ((betwN fiveO (4 : Int)).length : Int)) ∧ ((0 : Int) ≤ (4 : Int) ∧ (4 : Int) < (fiveO.length : Int)) ∧ (ix (betwN fiveO (4 : Int)) (0 : Int) = ix fiveO (4 : Int) → (betwN fiveO (4 : Int)).length ≤ (65536 : Nat) ∧ ((Ty.int IntKind.i64).kd.wf (if extendsB (4 : Int) (5 : Int) (rootS (List.take (Int.toNat (4 : Int)) fiveO)) (rootS fiveO) (betwN fiveO (4 : Int)) = true then (0 : Int) else (10 : Int)) → ((if extendsB (4 : Int) (5 : Int) (rootS (List.take (Int.toNat (4 : Int)) fiveO)) (rootS fiveO) (betwN fiveO (4 : Int)) = true then (0 : Int) else (10 : Int)) = (0 : Int) → (betwN fiveO (4 : Int)).length ≤ (65536 : Nat) ∧ ((Ty.int IntKind.i64).kd.wf (if extendsB (4 : Int) (5 : Int) (rootS fiveO) (rootS fiveO) (betwN fiveO (4 : Int)) = true then (0 : Int) else (10 : Int)) → ((if extendsB (4 : Int) (5 : Int) (rootS fiveO) (rootS fiveO) (betwN fiveO (4 : Int)) = true then (0 : Int) else (10 : Int)) = (10 : Int) → ([] : List (List UInt8)).length ≤ (1048576 : Nat) ∧ ((Ty.arr (32 : Nat) Ty.byte).kd.wf (rootS ([] : List (List UInt8))) → ([] : List (List UInt8)).length ≤ (65536 : Nat) ∧ ((Ty.int IntKind.i64).kd.wf (if extendsB (0 : Int) (5 : Int) (rootS ([] : List (List UInt8))) (rootS fiveO) ([] : List (List UInt8)) = true then (0 : Int) else (10 : Int)) → ((if extendsB (0 : Int) (5 : Int) (rootS ([] : List (List UInt8))) (rootS fiveO) ([] : List (List UInt8)) = true then (0 : Int) else (10 : Int)) = (0 : Int) → ([] : List (List UInt8)).length ≤ (65536 : Nat) ∧ ((Ty.int IntKind.i64).kd.wf (if extendsB (6 : Int) (5 : Int) (rootS (List.take (Int.toNat (4 : Int)) fiveO)) (rootS fiveO) ([] : List (List UInt8)) = true then (0 : Int) else (10 : Int)) → Q (decide ((if extendsB (6 : Int) (5 : Int) (rootS (List.take (Int.toNat (4 : Int)) fiveO)) (rootS fiveO) ([] : List (List UInt8)) = true then (0 : Int) else (10 : Int)) = (10 : Int))))) ∧ (¬(if extendsB (0 : Int) (5 : Int) (rootS ([] : List (List UInt8))) (rootS fiveO) ([] : List (List UInt8)) = true then (0 : Int) else (10 : Int)) = (0 : Int) → Q false)))) ∧ (¬(if extendsB (4 : Int) (5 : Int) (rootS fiveO) (rootS fiveO) (betwN fiveO (4 : Int)) = true then (0 : Int) else (10 : Int)) = (10 : Int) → Q false))) ∧ (¬(if extendsB (4 : Int) (5 : Int) (rootS (List.take (Int.toNat (4 : Int)) fiveO)) (rootS fiveO) (betwN fiveO (4 : Int)) = true then (0 : Int) else (10 : Int)) = (0 : Int) → Q false))) ∧ (¬ix (betwN fiveO (4 : Int)) (0 : Int) = ix fiveO (4 : Int) → Q false)) ∧ (¬((betwN fiveO (4 : Int)).length : Int) = (1 : Int) → Q false)) ∧ (¬ix (betwN fiveO (3 : Int)) (3 : Int) = ix fiveO (4 : Int) → Q false)) ∧ (¬ix (betwN fiveO (3 : Int)) (0 : Int) = ix fiveO (2 : Int) → Q false)) ∧ (¬((betwN fiveO (3 : Int)).length : Int) = (4 : Int) → Q false)) ∧ (¬stepsN (Int.toNat (0 : Int)) (Int.toNat (5 : Int)) = (0 : Int) → Q false)) ∧ (¬stepsN (Int.toNat (5 : Int)) (Int.toNat (5 : Int)) = (0 : Int) → Q false)) ∧ (¬stepsN (Int.toNat (4 : Int)) (Int.toNat (5 : Int)) = (1 : Int) → Q false)) ∧ (¬stepsN (Int.toNat (3 : Int)) (Int.toNat (5 : Int)) = (4 : Int) → Q false))) ∧ True)) ∧ (fiveO.length ≤ (1048576 : Nat) ∧ ((Ty.arr (32 : Nat) Ty.byte).kd.wf (rootS fiveO) → (List.take (Int.toNat (4 : Int)) fiveO).length ≤ (1048576 : Nat) ∧ ((Ty.arr (32 : Nat) Ty.byte).kd.wf (rootS (List.take (Int.toNat (4 : Int)) fiveO)) → (Ty.int IntKind.i64).kd.wf (stepsN (Int.toNat (3 : Int)) (Int.toNat (5 : Int))) → (stepsN (Int.toNat (3 : Int)) (Int.toNat (5 : Int)) = (4 : Int) → (Ty.int IntKind.i64).kd.wf (stepsN (Int.toNat (4 : Int)) (Int.toNat (5 : Int))) → (stepsN (Int.toNat (4 : Int)) (Int.toNat (5 : Int)) = (1 : Int) → (Ty.int IntKind.i64).kd.wf (stepsN (Int.toNat (5 : Int)) (Int.toNat (5 : Int))) → (stepsN (Int.toNat (5 : Int)) (Int.toNat (5 : Int)) = (0 : Int) → (Ty.int IntKind.i64).kd.wf (stepsN (Int.toNat (0 : Int)) (Int.toNat (5 : Int))) → (stepsN (Int.toNat (0 : Int)) (Int.toNat (5 : Int)) = (0 : Int) → (((betwN fiveO (3 : Int)).length : Int) = (4 : Int) → ((0 : Int) ≤ (0 : Int) ∧ (0 : Int) < ((betwN fiveO (3 : Int)).length : Int)) ∧ ((0 : Int) ≤ (2 : Int) ∧ (2 : Int) < (fiveO.length : Int)) ∧ (ix (betwN fiveO (3 : Int)) (0 : Int) = ix fiveO (2 : Int) → ((0 : Int) ≤ (3 : Int) ∧ (3 : Int) < ((betwN fiveO (3 : Int)).length : Int)) ∧ ((0 : Int) ≤ (4 : Int) ∧ (4 : Int) < (fiveO.length : Int)) ∧ (ix (betwN fiveO (3 : Int)) (3 : Int) = ix fiveO (4 : Int) → (((betwN fiveO (4 : Int)).length : Int) = (1 : Int) → ((0 : Int) ≤ (0 : Int) ∧ (0 : Int) < ((betwN fiveO (4 : Int)).length : Int)) ∧ ((0 : Int) ≤ (4 : Int) ∧ (4 : Int) < (fiveO.length : Int)) ∧ (ix (betwN fiveO (4 : Int)) (0 : Int) = ix fiveO (4 : Int) → (betwN fiveO (4 : Int)).length ≤ (65536 : Nat) ∧ ((Ty.int IntKind.i64).kd.wf (if extendsB (4 : Int) (5 : Int) (rootS (List.take (Int.toNat (4 : Int)) fiveO)) (rootS fiveO) (betwN fiveO (4 : Int)) = true then (0 : Int) else (10 : Int)) → ((if extendsB (4 : Int) (5 : Int) (rootS (List.take (Int.toNat (4 : Int)) fiveO)) (rootS fiveO) (betwN fiveO (4 : Int)) = true then (0 : Int) else (10 : Int)) = (0 : Int) → (betwN fiveO (4 : Int)).length ≤ (65536 : Nat) ∧ ((Ty.int IntKind.i64).kd.wf (if extendsB (4 : Int) (5 : Int) (rootS fiveO) (rootS fiveO) (betwN fiveO (4 : Int)) = true then (0 : Int) else (10 : Int)) → ((if extendsB (4 : Int) (5 : Int) (rootS fiveO) (rootS fiveO) (betwN fiveO (4 : Int)) = true then (0 : Int) else (10 : Int)) = (10 : Int) → ([] : List (List UInt8)).length ≤ (1048576 : Nat) ∧ ((Ty.arr (32 : Nat) Ty.byte).kd.wf (rootS ([] : List (List UInt8))) → ([] : List (List UInt8)).length ≤ (65536 : Nat) ∧ ((Ty.int IntKind.i64).kd.wf (if extendsB (0 : Int) (5 : Int) (rootS ([] : List (List UInt8))) (rootS fiveO) ([] : List (List UInt8)) = true then (0 : Int) else (10 : Int)) → ((if extendsB (0 : Int) (5 : Int) (rootS ([] : List (List UInt8))) (rootS fiveO) ([] : List (List UInt8)) = true then (0 : Int) else (10 : Int)) = (0 : Int) → ([] : List (List UInt8)).length ≤ (65536 : Nat) ∧ ((Ty.int IntKind.i64).kd.wf (if extendsB (6 : Int) (5 : Int) (rootS (List.take (Int.toNat (4 : Int)) fiveO)) (rootS fiveO) ([] : List (List UInt8)) = true then (0 : Int) else (10 : Int)) → Q (decide ((if extendsB (6 : Int) (5 : Int) (rootS (List.take (Int.toNat (4 : Int)) fiveO)) (rootS fiveO) ([] : List (List UInt8)) = true then (0 : Int) else (10 : Int)) = (10 : Int))))) ∧ (¬(if extendsB (0 : Int) (5 : Int) (rootS ([] : List (List UInt8))) (rootS fiveO) ([] : List (List UInt8)) = true then (0 : Int) else (10 : Int)) = (0 : Int) → Q false)))) ∧ (¬(if extendsB (4 : Int) (5 : Int) (rootS fiveO) (rootS fiveO) (betwN fiveO (4 : Int)) = true then (0 : Int) else (10 : Int)) = (10 : Int) → Q false))) ∧ (¬(if extendsB (4 : Int) (5 : Int) (rootS (List.take (Int.toNat (4 : Int)) fiveO)) (rootS fiveO) (betwN fiveO (4 : Int)) = true then (0 : Int) else (10 : Int)) = (0 : Int) → Q false))) ∧ (¬ix (betwN fiveO (4 : Int)) (0 : Int) = ix fiveO (4 : Int) → Q false)) ∧ (¬((betwN fiveO (4 : Int)).length : Int) = (1 : Int) → Q false)) ∧ (¬ix (betwN fiveO (3 : Int)) (3 : Int) = ix fiveO (4 : Int) → Q false)) ∧ (¬ix (betwN fiveO (3 : Int)) (0 : Int) = ix fiveO (2 : Int) → Q false)) ∧ (¬((betwN fiveO (3 : Int)).length : Int) = (4 : Int) → Q false)) ∧ (¬stepsN (Int.toNat (0 : Int)) (Int.toNat (5 : Int)) = (0 : Int) → Q false)) ∧ (¬stepsN (Int.toNat (5 : Int)) (Int.toNat (5 : Int)) = (0 : Int) → Q false)) ∧ (¬stepsN (Int.toNat (4 : Int)) (Int.toNat (5 : Int)) = (1 : Int) → Q false)) ∧ (¬stepsN (Int.toNat (3 : Int)) (Int.toNat (5 : Int)) = (4 : Int) → Q false)))) ∧ True) ∧ True))
theorem awake5_ok  : awake5_VC  (fun o0 => o0 = true) := by
  have l5 : fiveO.length = 5 := by rw [fiveO_eq]; rfl
  have b3 : betwN fiveO 3 = [[3, 0, 0, 0, 0, 0, 0, 0, 0, 0, 0, 0, 0, 0, 0, 0, 0, 0, 0, 0, 0, 0, 0, 0, 0, 0, 0, 0, 0, 0, 0, 0], [4, 0, 0, 0, 0, 0, 0, 0, 0, 0, 0, 0, 0, 0, 0, 0, 0, 0, 0, 0, 0, 0, 0, 0, 0, 0, 0, 0, 0, 0, 0, 0], sealOf 2 [[1, 0, 0, 0, 0, 0, 0, 0, 0, 0, 0, 0, 0, 0, 0, 0, 0, 0, 0, 0, 0, 0, 0, 0, 0, 0, 0, 0, 0, 0, 0, 0], [2, 0, 0, 0, 0, 0, 0, 0, 0, 0, 0, 0, 0, 0, 0, 0, 0, 0, 0, 0, 0, 0, 0, 0, 0, 0, 0, 0, 0, 0, 0, 0]], [5, 0, 0, 0, 0, 0, 0, 0, 0, 0, 0, 0, 0, 0, 0, 0, 0, 0, 0, 0, 0, 0, 0, 0, 0, 0, 0, 0, 0, 0, 0, 0]] := by rw [fiveO_eq, five_eq, b35]
  have b4 : betwN fiveO 4 = [[5, 0, 0, 0, 0, 0, 0, 0, 0, 0, 0, 0, 0, 0, 0, 0, 0, 0, 0, 0, 0, 0, 0, 0, 0, 0, 0, 0, 0, 0, 0, 0]] := by rw [fiveO_eq, five_eq, b45]
  have lb3 : (betwN fiveO 3).length = 4 := by rw [b3]; rfl
  have lb4 : (betwN fiveO 4).length = 1 := by rw [b4]; rfl
  have c1 : stepsN (Int.toNat (3 : Int)) (Int.toNat (5 : Int)) = (4 : Int) := s35
  have c2 : stepsN (Int.toNat (4 : Int)) (Int.toNat (5 : Int)) = (1 : Int) := s45
  have c3 : stepsN (Int.toNat (5 : Int)) (Int.toNat (5 : Int)) = (0 : Int) := s55
  have c4 : stepsN (Int.toNat (0 : Int)) (Int.toNat (5 : Int)) = (0 : Int) := s05
  have c5 : ((betwN fiveO (3 : Int)).length : Int) = (4 : Int) := by rw [lb3]; rfl
  have c6 : ix (betwN fiveO (3 : Int)) (0 : Int) = ix fiveO (2 : Int) := by rw [b3, fiveO_eq, five_eq]; rfl
  have c7 : ix (betwN fiveO (3 : Int)) (3 : Int) = ix fiveO (4 : Int) := by rw [b3, fiveO_eq, five_eq]; rfl
  have c8 : ((betwN fiveO (4 : Int)).length : Int) = (1 : Int) := by rw [lb4]; rfl
  have c9 : ix (betwN fiveO (4 : Int)) (0 : Int) = ix fiveO (4 : Int) := by rw [b4, fiveO_eq, five_eq]; rfl
  have x1 : extendsB (4 : Int) (5 : Int) (rootS (List.take (Int.toNat (4 : Int)) fiveO)) (rootS fiveO) (betwN fiveO (4 : Int)) = true := by
    have := extends_betw (l := fiveO) (m := 4) (by omega)
    rw [l5] at this
    exact this
  have x2 : extendsB (4 : Int) (5 : Int) (rootS fiveO) (rootS fiveO) (betwN fiveO (4 : Int)) = false := by rw [fiveO_eq]; exact e455
  have x3 : extendsB (0 : Int) (5 : Int) (rootS ([] : List (List UInt8))) (rootS fiveO) ([] : List (List UInt8)) = true := by
    rw [rootS_nil]
    unfold extendsB
    have e0 : Int.toNat 0 = 0 := rfl
    have e5 : Int.toNat 5 = 5 := rfl
    rw [e0, e5, s05, if_neg (by simp), if_pos rfl]
    exact decide_eq_true ⟨rfl, fun h => by cases h⟩
  have x4 : extendsB (6 : Int) (5 : Int) (rootS (List.take (Int.toNat (4 : Int)) fiveO)) (rootS fiveO) ([] : List (List UInt8)) = false := by
    unfold extendsB
    rw [if_pos (.inr (.inl (by decide)))]
  have lt : (List.take (Int.toNat (4 : Int)) fiveO).length ≤ (1048576 : Nat) := by rw [List.length_take]; omega
  unfold awake5_VC
  rw [x1, x2, x3, x4]
  clear x1 x2 x3 x4 b3 b4
  have d1 : ((if true = true then (0 : Int) else (10 : Int)) = (0 : Int)) := rfl
  have d2 : ((if false = true then (0 : Int) else (10 : Int)) = (10 : Int)) := rfl
  have n1 : ([] : List (List UInt8)).length ≤ (1048576 : Nat) := Nat.zero_le _
  have n2 : ([] : List (List UInt8)).length ≤ (65536 : Nat) := Nat.zero_le _
  repeat' first
    | with_reducible exact fun h => absurd c1 h
    | with_reducible exact fun h => absurd c2 h
    | with_reducible exact fun h => absurd c3 h
    | with_reducible exact fun h => absurd c4 h
    | with_reducible exact fun h => absurd c5 h
    | with_reducible exact fun h => absurd c6 h
    | with_reducible exact fun h => absurd c7 h
    | with_reducible exact fun h => absurd c8 h
    | with_reducible exact fun h => absurd c9 h
    | with_reducible exact fun h => absurd d1 h
    | with_reducible exact fun h => absurd d2 h
    | with_reducible exact decide_eq_true d2
    | with_reducible exact lt
    | with_reducible exact n1
    | with_reducible exact n2
    | with_reducible exact trivial
    | with_reducible refine And.intro ?_ ?_
    | (intro _)
    | omega
theorem awake5_eq : (∀ a, awake5_C.pre a → PM.wfP awake5_C.pm a (fvc awake5_X 200 32 awake5_C a (eqO awake5_C a))) = (∀ a : Unit, True → awake5_VC  (fun o0 => o0 = true)) := by kernel_rfl
theorem awake5_k : awake5_C.valid Try.prog 32 := ctr_of (X := awake5_X) (ok_of seat_ok (fun b hb => by cases hb; exact bkT_ok) fns_ok ⟨fiveF_k, BetweenO_k, BetweenR_k, RootN_k, Root_k, Steps_k, ExtendsN_k, Extends_k, trivial⟩) 200 (awake5_eq.mpr fun a hp  => @awake5_ok )
noncomputable def GrowShort_C : Ctr := ⟨[.v (.int .i64), .v (.int .i64)], [.v .bool], none, fun a => (fun (a0_m : Int) (a1_n : Int) => ((true, ()), (()))) a.1 a.2.1⟩
noncomputable def GrowShort_X : Fx := ⟨seat, some bkT, fns, [(35, Steps_C), (32, awake5_C)], [], [], []⟩
def GrowShort_VC (a0_m : Int) (a1_n : Int) (Q : Bool → Prop) : Prop :=
  (Ty.int IntKind.i64).kd.wf (stepsN a0_m.toNat a1_n.toNat) → (a0_m < (1 : Int) → (stepsN a0_m.toNat a1_n.toNat = (0 : Int) → Q true) ∧ (¬stepsN a0_m.toNat a1_n.toNat = (0 : Int) → Q false)) ∧ (¬a0_m < (1 : Int) → (a1_n ≤ a0_m → (stepsN a0_m.toNat a1_n.toNat = (0 : Int) → Q true) ∧ (¬stepsN a0_m.toNat a1_n.toNat = (0 : Int) → Q false)) ∧ (¬a1_n ≤ a0_m → ∃ (x0 : Int → Int → Prop), ∃ (x1 : Int → Int → Nat), x0 (0 : Int) (IntKind.i64.wrap (a1_n - (1 : Int))) ∧ ∀ (x2 x3 : Int), x0 x2 x3 → (Kd.int IntKind.i64).wf x2 → (Kd.int IntKind.i64).wf x3 → ((0 : Int) < x3 → x2 < (9223372036854775807 : Int) ∧ x0 (x2 + (1 : Int)) (IntKind.i64.wrap (x3.tdiv (2 : Int))) ∧ x1 (x2 + (1 : Int)) (IntKind.i64.wrap (x3.tdiv (2 : Int))) < x1 x2 x3) ∧ (¬(0 : Int) < x3 → ((1 : Int) ≤ stepsN a0_m.toNat a1_n.toNat → x2 < (9223372036854775807 : Int) ∧ (stepsN a0_m.toNat a1_n.toNat ≤ x2 + (1 : Int) → Q true) ∧ (¬stepsN a0_m.toNat a1_n.toNat ≤ x2 + (1 : Int) → Q false)) ∧ (¬(1 : Int) ≤ stepsN a0_m.toNat a1_n.toNat → Q false))))
theorem GrowShort_ok {a0_m : Int} {a1_n : Int} (w_0 : (Ty.kd (.int .i64)).wf a0_m) (w_1 : (Ty.kd (.int .i64)).wf a1_n) : GrowShort_VC a0_m a1_n (fun o0 => o0 = true) := by
  have hm1 : a0_m ≤ 9223372036854775807 := w_0.2
  have hn1 : a1_n ≤ 9223372036854775807 := w_1.2
  unfold GrowShort_VC
  intro _
  refine ⟨fun h => ⟨fun _ => rfl, fun hn => absurd ?_ hn⟩, fun h1 => ⟨fun h => ⟨fun _ => rfl, fun hn => absurd ?_ hn⟩, fun h2 => ?_⟩⟩
  · unfold stepsN
    rw [if_neg (by omega)]
  · unfold stepsN
    rcases Int.lt_or_le a1_n a0_m with h3 | h3
    · rw [if_neg (by omega)]
    · have e : a0_m.toNat = a1_n.toNat := by omega
      rw [if_pos (by omega), e, partsA_end (by omega), partsL_end (by omega)]
      rfl
  · have ew : IntKind.i64.wrap (a1_n - 1) = ((a1_n.toNat - 1 : Nat) : Int) := by
      rw [wrap_id (wf64 (by omega) (by omega))]
      omega
    rw [ew]
    have hw := partsL_w a1_n.toNat (m := a0_m.toNat) (n := a1_n.toNat) (w := 1) (Nat.le_refl _) (.inr rfl)
    have hne : 1 ≤ (partsA a0_m.toNat a1_n.toNat).length := by
      by_cases hm : a0_m.toNat ≤ half a1_n.toNat
      · rw [partsA_left (by omega) hm]; simp
      · rw [partsA_right (by omega) hm]; simp
    have hs : stepsN a0_m.toNat a1_n.toNat = ((partsA a0_m.toNat a1_n.toNat).length : Int) + 1 - (partsL a0_m.toNat a1_n.toNat 1).2.2 := by
      unfold stepsN
      rw [if_pos (by omega)]
    refine ⟨fun d x => ∃ (k y : Nat), d = (k : Int) ∧ x = (y : Int) ∧ y < 9223372036854775808 ∧ a1_n.toNat ≤ (y + 1) * 2 ^ k ∧ k + blen y ≤ 64, fun _ x => x.toNat, ⟨0, a1_n.toNat - 1, rfl, rfl, by omega, by omega, by have := blen_lt (n := a1_n.toNat - 1) 63 (by omega); omega⟩, ?_⟩
    rintro d x ⟨k, y, rfl, rfl, hy, hk, hb⟩ _ _
    have e2 : IntKind.i64.wrap ((y : Int).tdiv 2) = ((y / 2 : Nat) : Int) := by
      rw [Int.tdiv_eq_ediv_of_nonneg (by omega), wrap_id (wf64 (by omega) (by omega))]
      omega
    rw [e2]
    refine ⟨fun hlt => ⟨by omega, ⟨k + 1, y / 2, by omega, rfl, by omega, ?_, ?_⟩, by show ((y / 2 : Nat) : Int).toNat < (y : Int).toNat; omega⟩, fun hge => ⟨fun _ => ⟨by omega, fun _ => rfl, fun hn => absurd ?_ hn⟩, fun hn => absurd ?_ hn⟩⟩
    · have : (y + 1) ≤ 2 * (y / 2 + 1) := by omega
      calc a1_n.toNat ≤ (y + 1) * 2 ^ k := hk
        _ ≤ (2 * (y / 2 + 1)) * 2 ^ k := Nat.mul_le_mul_right _ this
        _ = (y / 2 + 1) * 2 ^ (k + 1) := by rw [Nat.pow_succ, Nat.mul_comm 2, Nat.mul_assoc, Nat.mul_comm 2]
    · have := blen_pos (n := y) (by omega)
      omega
    · have hy0 : y = 0 := by omega
      rw [hy0, Nat.zero_add, Nat.one_mul] at hk
      have := partsA_len k (m := a0_m.toNat) (n := a1_n.toNat) (by omega) (by omega)
      rw [hs]
      omega
    · rw [hs]
      omega
theorem GrowShort_eq : (∀ a, GrowShort_C.pre a → PM.wfP GrowShort_C.pm a (fvc GrowShort_X 200 14 GrowShort_C a (eqO GrowShort_C a))) = (∀ a : Int × Int × Unit, True → (Ty.kd (.int .i64)).wf a.1 → (Ty.kd (.int .i64)).wf a.2.1 → GrowShort_VC a.1 a.2.1 (fun o0 => o0 = true)) := by kernel_rfl
theorem GrowShort_k : GrowShort_C.valid Try.prog 14 := ctr_of (X := GrowShort_X) (ok_of seat_ok (fun b hb => by cases hb; exact bkT_ok) fns_ok ⟨Steps_k, awake5_k, trivial⟩) 200 (GrowShort_eq.mpr fun a hp w_0 w_1 => @GrowShort_ok a.1 a.2.1 w_0 w_1)
noncomputable def GrowShows_C : Ctr := ⟨[.v (.sl (.arr 32 .byte)), .v (.arr 32 .byte)], [.v .bool], none, fun a => (fun (a0_l : List (List UInt8)) (a1_other : List UInt8) => ((true, ()), (()))) a.1 a.2.1⟩
noncomputable def GrowShows_X : Fx := ⟨seat, some bkT, fns, [(32, awake5_C), (25, RootN_C), (25, Root_C), (33, BetweenO_C), (33, BetweenR_C), (37, ExtendsN_C), (37, Extends_C)], [], [], []⟩
def GrowShows_VC (a0_l : List (List UInt8)) (a1_other : List UInt8) (Q : Bool → Prop) : Prop :=
  ((60 : Int) < (a0_l.length : Int) → Q true) ∧ (¬(60 : Int) < (a0_l.length : Int) → a0_l.length ≤ (1048576 : Nat) ∧ ((Ty.arr (32 : Nat) Ty.byte).kd.wf (rootS a0_l) → ∃ (x0 : Bool → Int → Prop), ∃ (x1 : Bool → Int → Nat), x0 false (0 : Int) ∧ ∀ (x2 : Bool) (x3 : Int), x0 x2 x3 → (Kd.int IntKind.i64).wf x3 → (x3 ≤ (a0_l.length : Int) → ((0 : Int) ≤ x3 ∧ x3 ≤ (a0_l.length : Int)) ∧ (List.take x3.toNat a0_l).length ≤ (1048576 : Nat) ∧ ((Ty.arr (32 : Nat) Ty.byte).kd.wf (rootS (List.take x3.toNat a0_l)) → a0_l.length ≤ (1048576 : Nat) ∧ ((Ty.arr (32 : Nat) Ty.byte).kd.sl.wf (betwN a0_l x3) → (betwN a0_l x3).length ≤ (65536 : Nat) ∧ ((Ty.int IntKind.i64).kd.wf (if extendsB x3 (a0_l.length : Int) (rootS (List.take x3.toNat a0_l)) (rootS a0_l) (betwN a0_l x3) = true then (0 : Int) else (10 : Int)) → ((if extendsB x3 (a0_l.length : Int) (rootS (List.take x3.toNat a0_l)) (rootS a0_l) (betwN a0_l x3) = true then (0 : Int) else (10 : Int)) ≠ (0 : Int) → Q false) ∧ (¬(if extendsB x3 (a0_l.length : Int) (rootS (List.take x3.toNat a0_l)) (rootS a0_l) (betwN a0_l x3) = true then (0 : Int) else (10 : Int)) ≠ (0 : Int) → (a1_other ≠ rootS a0_l → ((0 : Int) < x3 → (betwN a0_l x3).length ≤ (65536 : Nat) ∧ ((Ty.int IntKind.i64).kd.wf (if extendsB x3 (a0_l.length : Int) (rootS (List.take x3.toNat a0_l)) a1_other (betwN a0_l x3) = true then (0 : Int) else (10 : Int)) → ((if extendsB x3 (a0_l.length : Int) (rootS (List.take x3.toNat a0_l)) a1_other (betwN a0_l x3) = true then (0 : Int) else (10 : Int)) = (0 : Int) → Q false) ∧ (¬(if extendsB x3 (a0_l.length : Int) (rootS (List.take x3.toNat a0_l)) a1_other (betwN a0_l x3) = true then (0 : Int) else (10 : Int)) = (0 : Int) → x3 < (9223372036854775807 : Int) ∧ x0 x2 (x3 + (1 : Int)) ∧ x1 x2 (x3 + (1 : Int)) < x1 x2 x3))) ∧ (¬(0 : Int) < x3 → x3 < (9223372036854775807 : Int) ∧ x0 x2 (x3 + (1 : Int)) ∧ x1 x2 (x3 + (1 : Int)) < x1 x2 x3)) ∧ (¬a1_other ≠ rootS a0_l → x3 < (9223372036854775807 : Int) ∧ x0 x2 (x3 + (1 : Int)) ∧ x1 x2 (x3 + (1 : Int)) < x1 x2 x3)))))) ∧ (¬x3 ≤ (a0_l.length : Int) → Q true)))
theorem GrowShows_ok {a0_l : List (List UInt8)} {a1_other : List UInt8} (w_0 : (Ty.kd (.sl (.arr 32 .byte))).wf a0_l) (w_1 : (Ty.kd (.arr 32 .byte)).wf a1_other) : GrowShows_VC a0_l a1_other (fun o0 => o0 = true) := by
  unfold GrowShows_VC
  refine ⟨fun _ => rfl, fun hl => ⟨by omega, fun _ => ?_⟩⟩
  refine ⟨fun _ i => ∃ j : Nat, i = (j : Int) ∧ j ≤ a0_l.length + 1, fun _ i => a0_l.length + 1 - i.toNat, ⟨0, rfl, Nat.zero_le _⟩, ?_⟩
  rintro b i ⟨j, rfl, hj⟩ _
  refine ⟨fun hle => ?_, fun _ => rfl⟩
  have hj2 : j ≤ a0_l.length := by omega
  have hb := betwN_len (l := a0_l) (m := (j : Int)) (by omega)
  have he := extends_betw (l := a0_l) hj2
  simp only [Int.toNat_natCast]
  have q1 : (if extendsB (j : Int) (a0_l.length : Int) (rootS (List.take j a0_l)) (rootS a0_l) (betwN a0_l (j : Int)) = true then (0 : Int) else (10 : Int)) = 0 := by rw [he]; rfl
  rw [q1]
  have fin : (j : Int) < 9223372036854775807 ∧ (∃ j' : Nat, (j : Int) + 1 = (j' : Int) ∧ j' ≤ a0_l.length + 1) ∧ a0_l.length + 1 - ((j : Int) + 1).toNat < a0_l.length + 1 - (j : Int).toNat := ⟨by omega, ⟨j + 1, by omega, by omega⟩, by omega⟩
  refine ⟨⟨by omega, by omega⟩, by rw [List.length_take]; omega, fun _ => ⟨by omega, fun _ => ⟨by omega, fun _ => ⟨fun h => absurd rfl h, fun _ => ⟨fun ho => ⟨fun h0 => ⟨by omega, fun _ => ⟨fun h => ?_, fun _ => fin⟩⟩, fun _ => fin⟩, fun _ => fin⟩⟩⟩⟩⟩
  exfalso
  have q2 : extendsB (j : Int) (a0_l.length : Int) (rootS (List.take j a0_l)) a1_other (betwN a0_l (j : Int)) = false := by
    rw [extends_other (by omega) hj2]
    exact decide_eq_false (fun hx => ho hx.symm)
  have q3 : (if extendsB (j : Int) (a0_l.length : Int) (rootS (List.take j a0_l)) a1_other (betwN a0_l (j : Int)) = true then (0 : Int) else (10 : Int)) = 10 := by rw [q2]; rfl
  rw [q3] at h
  exact absurd h (by decide)
theorem GrowShows_eq : (∀ a, GrowShows_C.pre a → PM.wfP GrowShows_C.pm a (fvc GrowShows_X 200 12 GrowShows_C a (eqO GrowShows_C a))) = (∀ a : (List (List UInt8)) × (List UInt8) × Unit, True → (Ty.kd (.sl (.arr 32 .byte))).wf a.1 → (Ty.kd (.arr 32 .byte)).wf a.2.1 → GrowShows_VC a.1 a.2.1 (fun o0 => o0 = true)) := by kernel_rfl
theorem GrowShows_k : GrowShows_C.valid Try.prog 12 := ctr_of (X := GrowShows_X) (ok_of seat_ok (fun b hb => by cases hb; exact bkT_ok) fns_ok ⟨awake5_k, RootN_k, Root_k, BetweenO_k, BetweenR_k, ExtendsN_k, Extends_k, trivial⟩) 200 (GrowShows_eq.mpr fun a hp w_0 w_1 => @GrowShows_ok a.1 a.2.1 w_0 w_1)
end Go.Proofs.Ytkffegaofdpkiaa

/-
  PLAIN 7: what the arguments of a statement are, told in the kinds of BASE: each argument that can be read is of its kind, over the ghost of the whole heap.
-/
set_option linter.unusedVariables false
namespace Go.Proofs.Ytkffegaofdpkiaa
open Go Go.RowKit Go.Inc Go.ChangeShapes Go.WideShapes Go.ChangeAt

theorem one_le {H : Type} (d : DataW H) : 1 ≤ Rows.uptoBulk d := by
  cases d with
  | lit l => cases l <;> simp [Rows.uptoBulk]
  | nil => simp [Rows.uptoBulk]
  | ptr d => simp [Rows.uptoBulk]
  | slice elems spare => simp [Rows.uptoBulk]
  | agg parts => simp [Rows.uptoBulk]
  | iface t d => simp [Rows.uptoBulk]
  | map entries => simp [Rows.uptoBulk]
  | held h => simp [Rows.uptoBulk]
theorem part_le {H : Type} {d : DataW H} {l : List (DataW H)} (h : d ∈ l) : Rows.uptoBulk d ≤ Rows.uptoBulkAll l := by
  induction l with
  | nil => cases h
  | cons x r ih =>
    simp only [Rows.uptoBulkAll]
    cases List.mem_cons.1 h with
    | inl e => subst e; omega
    | inr e => have := ih e; omega
theorem length_le {H : Type} (l : List (DataW H)) : l.length ≤ Rows.uptoBulkAll l := by
  induction l with
  | nil => simp [Rows.uptoBulkAll]
  | cons x r ih => have := one_le x; simp only [Rows.uptoBulkAll, List.length_cons]; omega
theorem small_of {H : Type} {l : List (DataW H)} (hk : Rows.uptoSmall H l = true) : Rows.uptoBulkAll l ≤ 1048576 := by
  simpa [Rows.uptoSmall] using hk

/-- the whole heap's rows, as they are -/
def GhostW (w : World) : Ghost := fun b => match w.heap[b]? with
  | some (.cells c t _) => some (t, c.toList)
  | _ => none
theorem Models.ofW (w : World) : Models w (GhostW w) := fun b t l h => by
  unfold GhostW at h
  split at h
  · rename_i c t' fr hh
    cases h
    exact ⟨c, fr, hh, List.prefix_refl _⟩
  · cases h
section
variable {P : Program} {α β : Type} {k : Kd α} {k' : Kd β} {t e : TypeId} {by_ : Nat} {S : α → Prop} {S' : β → Prop}
/-- so great a thing may be: every list has at most 1048576 members -/
def sm0 {α : Type} : α → Prop := fun _ => True
def smL {α : Type} (S : α → Prop) : List α → Prop := fun l => l.length ≤ 1048576 ∧ ∀ x ∈ l, S x
def smP {α β : Type} (S : α → Prop) (T : β → Prop) : α × β → Prop := fun x => S x.1 ∧ T x.2
def smO {α : Type} (S : α → Prop) : Option α → Prop := fun x => ∀ y, x = some y → S y
/-- Whatever can be read at type t, within the bound, is of kind k (and not too great). -/
def Rds (P : Program) (t : TypeId) (k : Kd α) (S : α → Prop) : Prop := ∀ (H : Type) (enc : TypeId × Value → H) (w : World) (base : Nat) (held : Bool) (fuel : Nat) (cs : List Value) (x : DataW H × List MemPlace),
  DataW.trod enc P w base (fun _ => true) held fuel t cs = some x → Rows.uptoBulk x.1 ≤ 1048576 → ∃ a, k.R (GhostW w) a cs ∧ S a
theorem cellsOf_ty (h : TyOk P t k by_) : P.cellsOf t = k.sz := by
  obtain ⟨i, z, hi, hs, _⟩ := h.info
  simp [Program.cellsOf, hi, hs]
theorem rds_int {ik : IntKind} (ht : P.underlying t = some (.int ik)) : Rds P t (Kd.int ik) sm0 := fun H enc w base held fuel cs x h hb => by
  obtain ⟨n, rfl, _, hw⟩ := DataW.trod_int ht h
  refine ⟨n, ⟨rfl, ?_⟩, trivial⟩
  simpa [Lit.wf] using hw
theorem rds_byte (ht : P.underlying t = some (.int .u8)) : Rds P t Kd.byte sm0 := fun H enc w base held fuel cs x h hb => by
  obtain ⟨n, rfl, _, hw⟩ := DataW.trod_int ht h
  have hw : 0 ≤ n ∧ n ≤ 255 := by simpa [Lit.wf, IntKind.min, IntKind.max, IntKind.signed, IntKind.bits] using hw
  refine ⟨UInt8.ofNat n.toNat, ?_, trivial⟩
  show [Value.int .u8 n] = [.int .u8 _]
  congr 2
  have : (UInt8.ofNat n.toNat).toNat = n.toNat := by simp; omega
  omega
theorem rds_bool (ht : P.underlying t = some .bool) : Rds P t Kd.bool sm0 := fun H enc w base held fuel cs x h hb => by
  obtain ⟨b, rfl, _⟩ := DataW.trod_bool ht h
  exact ⟨b, rfl, trivial⟩
theorem rds_str (ht : P.underlying t = some .string) : Rds P t Kd.str (smL sm0) := fun H enc w base held fuel cs x h hb => by
  obtain ⟨s, rfl, rfl, _⟩ := DataW.trod_string ht h
  simp only [Rows.uptoBulk] at hb
  exact ⟨s.data.toList, ⟨by simp, by simp only [LM]; omega⟩, by omega, fun _ _ => trivial⟩
/-- so many cells, one after another -/
theorem ghost_cells {w : World} {base n : Nat} {a : Addr} {cs : List Value} (h : w.cells? base a n = some cs) (hn : 0 < n) :
    a.spot = none ∧ ∃ e l, GhostW w a.block = some (e, l) ∧ a.off + n ≤ l.length ∧ (l.drop a.off).take n = cs := by
  unfold World.cells? at h
  split at h
  case isFalse => cases h
  case isTrue hb =>
  have hl := mapM_some_length h
  have hg := fun i (hi : i < n) => mapM_some_get h i i (by simp [hi])
  have h0 := hg 0 hn
  have hc0 : 0 < cs.length := by rw [hl]; simpa using hn
  rw [List.getElem?_eq_getElem hc0] at h0
  unfold World.cell? at h0
  have ea : ∀ i, (a.add i).block = a.block := fun i => by unfold Addr.add; split <;> rfl
  have eo : ∀ i, (a.add i).off = a.off + i := fun i => by unfold Addr.add; split <;> simp_all
  have ha0 : a.add 0 = a := by simp [Addr.add]
  rw [ha0] at h0
  cases hh : w.heap[a.block]? with
  | none => rw [hh] at h0; cases h0
  | some o =>
    rw [hh] at h0
    cases o with
    | cells c e fr =>
      simp only at h0
      split at h0
      · cases h0
      · rename_i hs
        have hs : a.spot = none := by simpa using hs
        refine ⟨hs, e, c.toList, by simp [GhostW, hh], ?_⟩
        have hgc : ∀ i, i < n → c[a.off + i]? = cs[i]? := fun i hi => by
          have := hg i hi
          unfold World.cell? at this
          rw [ea, eo, hh] at this
          have hs' : (a.add i).spot.isSome = false := by unfold Addr.add; split <;> simp_all
          simpa [hs'] using this
        have hlen : cs.length = n := by rw [hl]; simp
        have hbound : a.off + n ≤ c.toList.length := by
          have h1 := hgc (n - 1) (by omega)
          rw [List.getElem?_eq_getElem (by omega)] at h1
          have := (Array.getElem?_eq_some_iff.1 h1).1
          simp only [Array.length_toList]
          omega
        refine ⟨hbound, ?_⟩
        apply List.ext_getElem?
        intro i
        rcases Nat.lt_or_ge i n with hi | hi
        · rw [List.getElem?_take, if_pos hi, List.getElem?_drop, ← hgc i hi]
          simp
        · rw [List.getElem?_take, if_neg (by omega), List.getElem?_eq_none (by omega)]
    | _ => simp at h0
theorem RL_flat {R : α → List Value → Prop} : ∀ (n : Nat) (f : Nat → List Value), (∀ i, i < n → ∃ a, R a (f i) ∧ S a) → ∃ l, l.length = n ∧ RL R l ((List.range n).map f).flatten ∧ ∀ x ∈ l, S x
  | 0, f, _ => ⟨[], rfl, by simp [RL], by simp⟩
  | n + 1, f, h => by
    obtain ⟨l, hl, hR, hS⟩ := RL_flat n f (fun i hi => h i (by omega))
    obtain ⟨a, ha, hs⟩ := h n (by omega)
    refine ⟨l ++ [a], by simp [hl], ?_, fun x hx => (List.mem_append.1 hx).elim (hS x) (fun h => by rw [List.mem_singleton.1 h]; exact hs)⟩
    rw [List.range_succ]
    simp only [List.map_append, List.map_cons, List.map_nil, List.flatten_append, List.flatten_cons, List.flatten_nil, List.append_nil]
    exact RL.append hR (RL.single ha)
/-- a list cut into n parts of s each -/
theorem parts_flat (s : Nat) : ∀ (n : Nat) (l : List Value), n * s ≤ l.length → ((List.range n).map fun i => (l.drop (i * s)).take s).flatten = l.take (n * s)
  | 0, l, _ => by simp
  | n + 1, l, h => by
    have e : (n + 1) * s = n * s + s := Nat.succ_mul n s
    rw [List.range_succ]
    simp only [List.map_append, List.map_cons, List.map_nil, List.flatten_append, List.flatten_cons, List.flatten_nil, List.append_nil]
    rw [parts_flat s n l (by omega), e, List.take_add]
theorem rds_sl (ht : P.underlying t = some (.slice e)) (hT : TyOk P e k by_) (h0 : Nat.blt 0 k.sz = true) (hR : Rds P e k S) : Rds P t (Kd.sl k) (smL S) := fun H enc w base held fuel cs x h hb => by
  have h0 : 0 < k.sz := Nat.le_of_ble_eq_true h0
  rcases DataW.trod_slice ht h with ⟨rfl, rfl⟩ | ⟨a, len, cap, elems, rest, n, _, rfl, rfl, hbs, hl, hm, hlen, hel, _, _⟩
  · exact ⟨[], ⟨none, 0, rfl, by simp, by simp [LM], by simp, .inl rfl⟩, by simp, by simp⟩
  · rw [cellsOf_ty hT] at hel
    have hbulk : elems.length ≤ 1048576 := by
      have := length_le (elems.map (·.1))
      simp only [Rows.uptoBulk, List.length_map] at hb this
      omega
    have hparts : ∀ i, i < len → ∃ cs' y, w.cells? base (a.add (i * k.sz)) k.sz = some cs' ∧ DataW.trod enc P w base (fun _ => true) held n e cs' = some y ∧ Rows.uptoBulk y.1 ≤ 1048576 := fun i hi => by
      have h1 := hel i hi
      rw [List.getElem?_eq_getElem (by omega)] at h1
      obtain ⟨cs', h2, h3⟩ := Option.bind_eq_some_iff.1 h1
      refine ⟨cs', _, h2, h3, ?_⟩
      have := part_le (l := elems.map (·.1)) (d := (elems[i]'(by omega)).1) (List.mem_map.2 ⟨_, List.getElem_mem _, rfl⟩)
      simp only [Rows.uptoBulk] at hb
      omega
    rcases Nat.eq_zero_or_pos len with hz | hp
    · exact ⟨[], ⟨some a, cap, by simp [hz], by simp, by simp [LM], by simp, .inl rfl⟩, by simp, by simp⟩
    · obtain ⟨cs0, y0, hc0, _, _⟩ := hparts 0 hp
      rw [Nat.zero_mul, show a.add 0 = a by simp [Addr.add]] at hc0
      obtain ⟨hs, e', l, hg, _, _⟩ := ghost_cells hc0 h0
      have ea : a = ⟨a.block, a.off, none⟩ := by cases a; simp_all
      have key : ∀ i, i < len → a.off + i * k.sz + k.sz ≤ l.length ∧ w.cells? base (a.add (i * k.sz)) k.sz = some (((l.drop a.off).drop (i * k.sz)).take k.sz) := fun i hi => by
        obtain ⟨cs', y, hc, _, _⟩ := hparts i hi
        obtain ⟨_, e2, l2, hg2, hle, htk⟩ := ghost_cells hc h0
        rw [ea, add_lit] at hg2 hle htk
        simp only at hg2 hle htk
        rw [hg] at hg2
        cases hg2
        refine ⟨hle, ?_⟩
        rw [hc, List.drop_drop, ← htk]
      have hlast := (key (len - 1) (by omega)).1
      have hall : a.off + len * k.sz ≤ l.length := by
        have : len * k.sz = (len - 1) * k.sz + k.sz := by
          conv => lhs; rw [show len = (len - 1) + 1 by omega]
          exact Nat.succ_mul _ _
        omega
      obtain ⟨xs, hxl, hxR, hxS⟩ := RL_flat (S := S) (R := k.R (GhostW w)) len (fun i => ((l.drop a.off).drop (i * k.sz)).take k.sz) (fun i hi => by
        obtain ⟨cs', y, hc, ht', hb'⟩ := hparts i hi
        rw [(key i hi).2] at hc
        cases hc
        exact hR _ _ _ _ _ _ _ _ ht' hb')
      rw [parts_flat k.sz len (l.drop a.off) (by rw [List.length_drop]; omega)] at hxR
      refine ⟨xs, ⟨some a, cap, by rw [hxl], by omega, by simp only [LM]; omega, fun x hx => ?_, .inr ⟨a.block, e', l.take a.off, (l.drop a.off).take (len * k.sz), (l.drop a.off).drop (len * k.sz), ?_, ?_, hxR⟩⟩, by omega, hxS⟩
      · exact RL.all (p := k.wf) (fun _ _ => k.hwf) hxR x hx
      · rw [List.length_take, Nat.min_eq_left (by omega)]
        exact congrArg some ea
      · rw [hg, List.append_assoc, List.take_append_drop, List.take_append_drop]
theorem rds_arr {n by_' : Nat} (ht : P.underlying t = some (.array n e)) (hT : TyOk P e k by_) (hT' : TyOk P t (Kd.arr n k) by_') (hR : Rds P e k S) : Rds P t (Kd.arr n k) (smL S) := fun H enc w base held fuel cs x h hb => by
  obtain ⟨xs, m, _, rfl, hlen, hxl, hx⟩ := DataW.trod_array ht h
  rw [cellsOf_ty hT] at hx
  rw [cellsOf_ty hT'] at hlen
  have hlen : cs.length = n * k.sz := hlen
  obtain ⟨l, hl, hlR, hlS⟩ := RL_flat (S := S) (R := k.R (GhostW w)) n (fun i => (cs.drop (i * k.sz)).take k.sz) (fun i hi => by
    have h1 := hx i hi
    rw [List.getElem?_eq_getElem (by omega)] at h1
    refine hR _ _ _ _ _ _ _ _ h1 ?_
    have := part_le (l := xs.map (·.1)) (d := (xs[i]'(by omega)).1) (List.mem_map.2 ⟨_, List.getElem_mem _, rfl⟩)
    simp only [Rows.uptoBulk] at hb
    omega)
  rw [parts_flat k.sz n cs (by omega), List.take_of_length_le (by omega)] at hlR
  have hbulk : xs.length ≤ 1048576 := by
    have := length_le (xs.map (·.1))
    simp only [Rows.uptoBulk, List.length_map] at hb this
    omega
  exact ⟨l, ⟨hl, hlR⟩, by omega, hlS⟩
/-- the fields fs, read out of cs from off on, are of kind k -/
def RdsF (P : Program) (fs : List Field) (off : Nat) (k : Kd α) (S : α → Prop) : Prop := ∀ (H : Type) (enc : TypeId × Value → H) (w : World) (base : Nat) (held : Bool) (fuel : Nat) (cs : List Value),
  (∀ f ∈ fs, ∃ x : DataW H × List MemPlace, DataW.trod enc P w base (fun _ => true) held fuel f.type ((cs.drop f.offset).take (P.cellsOf f.type)) = some x ∧ Rows.uptoBulk x.1 ≤ 1048576) → ∃ a, k.R (GhostW w) a ((cs.drop off).take k.sz) ∧ S a
theorem rdsF_one {f : Field} {off : Nat} (hT : TyOk P f.type k by_) (ho : Nat.beq f.offset off = true) (hR : Rds P f.type k S) : RdsF P [f] off k S := fun H enc w base held fuel cs h => by
  obtain ⟨x, h1, h2⟩ := h f (.head _)
  rw [Nat.eq_of_beq_eq_true ho, cellsOf_ty hT] at h1
  exact hR _ _ _ _ _ _ _ _ h1 h2
theorem rdsF_cons {fs : List Field} {f : Field} {off : Nat} (hT : TyOk P f.type k by_) (ho : Nat.beq f.offset off = true) (hR : Rds P f.type k S) (hF : RdsF P fs (off + k.sz) k' S') : RdsF P (f :: fs) off (Kd.pr k k') (smP S S') := fun H enc w base held fuel cs h => by
  obtain ⟨b, hb, hbS⟩ := hF H enc w base held fuel cs (fun f hf => h f (.tail _ hf))
  obtain ⟨x, h1, h2⟩ := h f (.head _)
  rw [Nat.eq_of_beq_eq_true ho, cellsOf_ty hT] at h1
  obtain ⟨a, ha, haS⟩ := hR _ _ _ _ _ _ _ _ h1 h2
  refine ⟨(a, b), ⟨_, _, ?_, ha, hb⟩, haS, hbS⟩
  show (cs.drop off).take (k.sz + k'.sz) = _
  rw [List.take_add, List.drop_drop]
theorem rdsF_st {fs : List Field} {off : Nat} (hF : RdsF P fs off k S) : RdsF P fs off (Kd.st k) S := hF
theorem rds_struct {fs : Array Field} (ht : P.underlying t = some (.struct fs)) (hT : TyOk P t k by_) (hF : RdsF P fs.toList 0 k S) : Rds P t k S := fun H enc w base held fuel cs x h hb => by
  obtain ⟨xs, n, _, rfl, hlen, hxl, hx⟩ := DataW.trod_struct ht h
  rw [cellsOf_ty hT] at hlen
  obtain ⟨a, ha, haS⟩ := hF H enc w base held n cs (fun f hf => by
    obtain ⟨i, hi, rfl⟩ := List.getElem_of_mem hf
    have hi' : i < fs.size := by simpa using hi
    have h1 := hx i fs[i] (by simp [hi'])
    rw [List.getElem?_eq_getElem (by omega)] at h1
    refine ⟨xs[i]'(by omega), by simpa using h1, ?_⟩
    have := part_le (l := xs.map (·.1)) (d := (xs[i]'(by omega)).1) (List.mem_map.2 ⟨_, List.getElem_mem _, rfl⟩)
    simp only [Rows.uptoBulk] at hb
    omega)
  rw [List.drop_zero, List.take_of_length_le (by omega)] at ha
  exact ⟨a, ha, haS⟩
theorem rds_ptr (ht : P.underlying t = some (.pointer e)) (hT : TyOk P e k by_) (h0 : Nat.blt 0 k.sz = true) (hR : Rds P e k S) : Rds P t (Kd.ptr k) (smO S) := fun H enc w base held fuel cs x h hb => by
  have h0 : 0 < k.sz := Nat.le_of_ble_eq_true h0
  rcases DataW.trod_pointer ht h with ⟨rfl, rfl⟩ | ⟨a, cs', y, n, _, rfl, rfl, hc, hy⟩
  · exact ⟨none, rfl, fun y h => by cases h⟩
  · rw [cellsOf_ty hT] at hc
    simp only [Rows.uptoBulk] at hb
    obtain ⟨b, hb', hbS⟩ := hR _ _ _ _ _ _ _ _ hy (by omega)
    obtain ⟨hs, e', l, hg, hle, htk⟩ := ghost_cells hc h0
    refine ⟨some b, ⟨_, rfl, a.block, e', l.take a.off, cs', (l.drop a.off).drop k.sz, ?_, ?_, hb'⟩, fun y h => by cases h; exact hbS⟩
    · rw [List.length_take, Nat.min_eq_left (by omega)]
      cases a; simp_all
    · rw [hg, ← htk, List.append_assoc, List.take_append_drop, List.take_append_drop]

/-- an argument, opened -/
theorem open_arg {H : Type} {enc : TypeId × Value → H} {w : World} {r : Reach} {b0 base : Nat} {held : Bool} {v : Value} {d : DataW H} {ps : List MemPlace} (hR : Rds P t k S) (hT : TyOk P t k by_)
    (hval : Value.okWide P w r b0 t v) (h : DataW.Trod enc P w base (fun _ => true) held t v d ps) (hb : Rows.uptoBulk d ≤ 1048576) : ∃ a, k.V (GhostW w) a v ∧ S a := by
  obtain ⟨fuel, h⟩ := h
  obtain ⟨a, ha, haS⟩ := hR _ _ _ _ _ _ _ _ h hb
  refine ⟨a, ⟨v.cells.toList, ha, ?_⟩, haS⟩
  obtain ⟨dd, hd, hagg⟩ := hT.desc
  unfold Value.okWide at hval
  rw [hd] at hval
  cases hk : k.agg with
  | true =>
    rw [hk] at hagg
    have : ∃ cs, v = .agg cs := by
      cases dd <;> first | (cases hagg; done) | (obtain ⟨cs, rfl, _⟩ := hval; exact ⟨cs, rfl⟩)
    obtain ⟨cs, rfl⟩ := this
    simp [Value.cells]
  | false =>
    have hlen := k.len ha
    rw [k.hs hk] at hlen
    have hna : ∀ cs, v ≠ .agg cs := fun cs e => by
      subst e
      rw [hk] at hagg
      cases dd <;> first | (cases hagg; done) | (simp [Cell.okWide, hd, Cell.ok] at hval)
    cases v <;> first | rfl | exact absurd rfl (hna _)
end
section
variable {H : Type} {enc : TypeId × Value → H} {P : Program}
theorem below_of {w w' : World} {K K' : Ghost} (h : Ext NX w K w' K') : Below w.heap.size w w' := ⟨h.os, h.tape, h.output, h.size, fun b hb => h.heap b hb (fun x => x)⟩
theorem trodAll_same {W W' : World} {sp : Nat → Bool} (hl : laidOutB P = true) (hb : Below W.heap.size W W') : ∀ {ts : List TypeId} {vs : List Value} {ds : List (DataW H)} {ps : List MemPlace},
    (ts.all fun t => P.readableRec t && decide (t < P.types.size)) = true → DataW.TrodAll enc P W 0 (fun _ => true) true ts vs ds ps → (∀ p ∈ ps, p.block < W.heap.size) → (∀ p ∈ ps, sp p.block = true) → DataW.TrodAll enc P W' 0 sp true ts vs ds ps
  | [], [], [], ps, _, h, _, _ => h
  | t :: ts, v :: vs, d :: ds, ps, hr, ⟨p, q, h1, h2, e⟩, hlt, hs => by
    subst e
    simp only [List.all_cons, Bool.and_eq_true, decide_eq_true_eq] at hr
    exact ⟨p, q, WideElems.Trod_stays hl hr.1.1 hr.1.2 h1 (fun x hx => hb.same (hlt x (List.mem_append.2 (.inl hx)))) (fun x hx => hs x (List.mem_append.2 (.inl hx))),
      trodAll_same hl hb (ts := ts) hr.2 h2 (fun x hx => hlt x (List.mem_append.2 (.inr hx))) (fun x hx => hs x (List.mem_append.2 (.inr hx))), rfl⟩
  | [], _ :: _, _, _, _, h, _, _ => h.elim
  | [], [], _ :: _, _, _, h, _, _ => h.elim
  | _ :: _, [], _, _, _, h, _, _ => h.elim
  | _ :: _, _ :: _, [], _, _, h, _, _ => h.elim
/-- the end of a law's call: true, and all that was there is as it was -/
theorem post_true {f : Func} {s : ChangeSpec} {apart fresh handsOn again : Bool} {W W' : World} {args : Array Value} {ds gs : List (DataW H)} {before : List MemPlace} {tb : TypeId}
    (hW : DataW.Whole enc P f.params.toList s.vars apart W args.toList ds gs before) (hl : laidOutB P = true) (hr : (f.params.toList.all fun t => P.readableRec t && decide (t < P.types.size)) = true)
    (hrt : f.resultTypes = #[tb]) (htb : P.underlying tb = some .bool) (hs : s.vars = []) (hv : (s.fn H (ds ++ gs)).vars = []) (hres : (s.fn H (ds ++ gs)).results = [.lit (.bool true)]) (hargs : (s.fn H (ds ++ gs)).args = ds)
    (hb : Below W.heap.size W W') : s.post enc P f apart fresh handsOn again W args (.bool true) W' := by
  have hlt : ∀ p ∈ before, p.block < W.heap.size := fun p hp => hW.lt p hp
  have hW' := hW
  obtain ⟨p, q, hA, hV, e, hz, hn⟩ := hW'
  rw [hs] at hV
  have hq : q = [] ∧ gs = [] := by
    cases gs with
    | nil => exact ⟨hV, rfl⟩
    | cons g r => exact hV.elim
  obtain ⟨rfl, rfl⟩ := hq
  rw [List.append_nil] at e
  subst e
  have ht : ∀ (b : Nat) (sp : Nat → Bool) (hd : Bool), DataW.TrodAll enc P W' b sp hd f.resultTypes.toList ((Value.bool true).resultList f.resultTypes.size) (s.fn H (ds ++ [])).results [] := fun b sp hd => by
    rw [hres, hrt]
    exact ⟨[], [], shut_bool htb _, rfl, rfl⟩
  have ha : ∀ sp : Nat → Bool, (∀ p ∈ before, sp p.block = true) → DataW.TrodAll enc P W' 0 sp true f.params.toList args.toList (s.fn H (ds ++ [])).args before := fun sp hsp => by
    rw [hargs]
    exact trodAll_same hl hb hr hA hlt hsp
  have hvs : ∀ sp : Nat → Bool, DataW.TrodVars enc P W' sp s.vars (s.fn H (ds ++ [])).vars [] := fun sp => by
    rw [hs, hv]
    rfl
  have hold : ∀ p ∈ before, (fun b => decide (b < W.heap.size)) p.block = true := fun p hp => by simpa using hlt p hp
  refine ⟨ds, [], before, [], before, [], hW, ht _ _ _, ha _ hold, hvs _, World.keptBut_mono (fun p hp => ⟨hp, ?_⟩) (hb.frame (· ∈ before)), fun _ => ?_⟩
  · exact Or.inr (by simpa using hp)
  · refine ⟨?_, _, _, ([] ++ before) ++ [], ⟨[] ++ before, [], trodAll_append (ha _ (fun _ _ => rfl)) (ht _ _ _), hvs _, rfl, ?_, ?_⟩, ?_⟩
    · exact ok_one hrt rfl (okWide_bool_mk htb _)
    · intro b off hp
      have hin : MemPlace.cell b off ∈ before := by simpa using hp
      rw [hb.frozen (hlt _ hin)]
      exact hz b off hin
    · intro hap
      simpa using hn hap
    · intro p hp _
      simpa using hp
end
end Go.Proofs.Ytkffegaofdpkiaa
