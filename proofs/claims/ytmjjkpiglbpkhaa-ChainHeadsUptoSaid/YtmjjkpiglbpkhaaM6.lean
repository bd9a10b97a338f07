/- S7, P7. -/
import Derived.Test.YtmjjkpiglbpkhaaM5
import Derived.Test.YtmjjkpiglbpkhaaChecked
import Derived.Test.YtmjjkpiglbpkhaaRows
import Derived.Test.YtmjjkpiglbpkhaaM4
import Derived.WalkKit
import Derived.ProofKit
import Derived.OpenShut
import Derived.JoinedCond
import Derived.Carry
/- Each function that stands here: what it is asked and leaves (_C), its condition (_VC), that it holds (_ok), its contract (_c). -/
set_option linter.unusedVariables false
set_option maxRecDepth 100000
set_option maxHeartbeats 20000000
namespace Go.Proofs.Ytmjjkpiglbpkhaa
open Go Go.RowKit Go.Inc
noncomputable def RhalfNo_C : Ctr := ⟨[.v (.int .i64)], [.v (.int .i64)], some (fun a => (fun (a0_n : Int) => (False : Prop)) a.1), fun a => (fun (a0_n : Int) => (((0 : Int), ()), (()))) a.1⟩
theorem RhalfNo_k : RhalfNo_C.valid Try.prog 106 :=  fun a hp => hp.elim
noncomputable def RnodeNo_C : Ctr := ⟨[.v (.arr 32 .byte), .v (.arr 32 .byte)], [.v (.arr 32 .byte)], some (fun a => (fun (a0_a : List UInt8) (a1_b : List UInt8) => (False : Prop)) a.1 a.2.1), fun a => (fun (a0_a : List UInt8) (a1_b : List UInt8) => (((sealOf 2 []), ()), (()))) a.1 a.2.1⟩
theorem RnodeNo_k : RnodeNo_C.valid Try.prog 107 :=  fun a hp => hp.elim
noncomputable def RrootNo_C : Ctr := ⟨[.v (.sl (.arr 32 .byte))], [.v (.arr 32 .byte)], some (fun a => (fun (a0_l : List (List UInt8)) => (False : Prop)) a.1), fun a => (fun (a0_l : List (List UInt8)) => (((sealOf 2 []), ()), (()))) a.1⟩
theorem RrootNo_k : RrootNo_C.valid Try.prog 60 :=  fun a hp => hp.elim
noncomputable def RRoot0_C : Ctr := ⟨[.v (.sl (.arr 32 .byte))], [.v (.arr 32 .byte)], some (fun a => (fun (a0_l : List (List UInt8)) => (a0_l = [] : Prop)) a.1), fun a => (fun (a0_l : List (List UInt8)) => (((sealOf 2 []), ()), (()))) a.1⟩
noncomputable def RRoot0_X : Fx := ⟨seat, some bkT, fns, [(68, ROf_C), (106, RhalfNo_C), (60, RrootNo_C), (107, RnodeNo_C)], [], [], [(6, [0, 1, 2, 3, 4, 5, 6, 7, 8, 9, 10, 11, 12], [.o 0 2, .o 1 2, .o 2 2, .o 4 2, .o 5 2, .o 6 2, .o 3 0, .o 7 0, .o 8 0, .o 9 1])]⟩
def RRoot0_VC (a0_l : List (List UInt8)) (Q : (List UInt8) → Prop) : Prop :=
  ((a0_l.length : Int) = (0 : Int) → (1 : Nat) + blobRoom ([] : List (List UInt8)) ≤ (70368744177664 : Nat) ∧ ((Ty.arr (32 : Nat) Ty.byte).kd.wf (sealOf (2 : Int) ([] : List (List UInt8))) → Q (sealOf (2 : Int) ([] : List (List UInt8))))) ∧ (¬(a0_l.length : Int) = (0 : Int) → ((a0_l.length : Int) = (1 : Int) → ((0 : Int) ≤ (0 : Int) ∧ (0 : Int) < (a0_l.length : Int)) ∧ Q (ix a0_l (0 : Int))) ∧ (¬(a0_l.length : Int) = (1 : Int) → False ∧ ((Ty.int IntKind.i64).kd.wf (0 : Int) → ((0 : Int) ≤ (0 : Int) ∧ (0 : Int) ≤ (a0_l.length : Int)) ∧ ((0 : Int) ≤ (0 : Int) ∧ (0 : Int) ≤ (a0_l.length : Int)) ∧ False ∧ ((Ty.arr (32 : Nat) Ty.byte).kd.wf (sealOf (2 : Int) ([] : List (List UInt8))) → False ∧ ((Ty.arr (32 : Nat) Ty.byte).kd.wf (sealOf (2 : Int) ([] : List (List UInt8))) → False ∧ ((Ty.arr (32 : Nat) Ty.byte).kd.wf (sealOf (2 : Int) ([] : List (List UInt8))) → Q (sealOf (2 : Int) ([] : List (List UInt8)))))))))
theorem RRoot0_ok {a0_l : List (List UInt8)} (w_0 : (Ty.kd (.sl (.arr 32 .byte))).wf a0_l) (hp : a0_l = []) : RRoot0_VC a0_l (fun o0 => o0 = (sealOf 2 [])) := by
  subst hp
  unfold RRoot0_VC
  refine ⟨fun _ => ⟨by simp [blobRoom], fun _ => rfl⟩, fun h => absurd rfl h⟩
theorem RRoot0_eq : (∀ a, RRoot0_C.pre a → PM.wfP RRoot0_C.pm a (fvc RRoot0_X 200 60 RRoot0_C a (eqO RRoot0_C a))) = (∀ a : (List (List UInt8)) × Unit, ((a.1) = []) → (Ty.kd (.sl (.arr 32 .byte))).wf a.1 → RRoot0_VC a.1 (fun o0 => o0 = (sealOf 2 []))) := by kernel_rfl
theorem RRoot0_k : RRoot0_C.valid Try.prog 60 := ctr_of (X := RRoot0_X) (ok_of seat_ok (fun b hb => by cases hb; exact bkT_ok) fns_ok ⟨ROf_k, RhalfNo_k, RrootNo_k, RnodeNo_k, trivial⟩) 200 (RRoot0_eq.mpr fun a hp w_0 => @RRoot0_ok a.1 w_0 hp)
noncomputable def RleafNo_C : Ctr := ⟨[.v (.pr (.sl .byte) (.sl .byte))], [.v (.arr 32 .byte)], some (fun a => (fun (a0_p : (List UInt8) × List UInt8) => (False : Prop)) a.1), fun a => (fun (a0_p : (List UInt8) × List UInt8) => (((sealOf 2 []), ()), (()))) a.1⟩
theorem RleafNo_k : RleafNo_C.valid Try.prog 89 :=  fun a hp => hp.elim
noncomputable def RLeaves0_C : Ctr := ⟨[.v (.sl (.pr (.sl .byte) (.sl .byte)))], [.ow 24 (.arr 32 .byte)], some (fun a => (fun (a0_l : List ((List UInt8) × List UInt8)) => (a0_l = [] : Prop)) a.1), fun a => (fun (a0_l : List ((List UInt8) × List UInt8)) => ((([] : List (List UInt8)), ()), (()))) a.1⟩
noncomputable def RLeaves0_X : Fx := ⟨seat, some bkT, fns, [(89, RleafNo_C)], [], [], []⟩
def RLeaves0_VC (a0_l : List ((List UInt8) × List UInt8)) (Q : (List (List UInt8)) → Prop) : Prop :=
  ∃ (x0 : List (List UInt8) → Int → Prop), ∃ (x1 : List (List UInt8) → Int → Nat), x0 ([] : List (List UInt8)) (0 : Int) ∧ ∀ (x2 : List (List UInt8)) (x3 : Int), x0 x2 x3 → (Ty.arr (32 : Nat) Ty.byte).kd.sl.wf x2 → (Kd.int IntKind.i64).wf x3 → (x3 < (a0_l.length : Int) → ((0 : Int) ≤ x3 ∧ x3 < (a0_l.length : Int)) ∧ False ∧ ((Ty.arr (32 : Nat) Ty.byte).kd.wf (sealOf (2 : Int) ([] : List (List UInt8))) → (x2.length + (sealOf (2 : Int) ([] : List (List UInt8)) :: ([] : List (List UInt8))).length) * (32 : Nat) ≤ (140737488355328 : Nat) ∧ x3 < (9223372036854775807 : Int) ∧ x0 (x2 ++ sealOf (2 : Int) ([] : List (List UInt8)) :: ([] : List (List UInt8))) (x3 + (1 : Int)) ∧ x1 (x2 ++ sealOf (2 : Int) ([] : List (List UInt8)) :: ([] : List (List UInt8))) (x3 + (1 : Int)) < x1 x2 x3)) ∧ (¬x3 < (a0_l.length : Int) → Q x2)
theorem RLeaves0_ok {a0_l : List ((List UInt8) × List UInt8)} (w_0 : (Ty.kd (.sl (.pr (.sl .byte) (.sl .byte)))).wf a0_l) (hp : a0_l = []) : RLeaves0_VC a0_l (fun o0 => o0 = ([] : List (List UInt8))) := by
  subst hp
  unfold RLeaves0_VC
  refine ⟨fun o i => o = [] ∧ i = 0, fun _ _ => 0, ⟨rfl, rfl⟩, ?_⟩
  rintro o i ⟨rfl, rfl⟩ _ _
  exact ⟨fun h => absurd h (by decide), fun _ => rfl⟩
theorem RLeaves0_eq : (∀ a, RLeaves0_C.pre a → PM.wfP RLeaves0_C.pm a (fvc RLeaves0_X 200 92 RLeaves0_C a (eqO RLeaves0_C a))) = (∀ a : (List ((List UInt8) × List UInt8)) × Unit, ((a.1) = []) → (Ty.kd (.sl (.pr (.sl .byte) (.sl .byte)))).wf a.1 → RLeaves0_VC a.1 (fun o0 => o0 = ([] : List (List UInt8)))) := by kernel_rfl
theorem RLeaves0_k : RLeaves0_C.valid Try.prog 92 := ctr_of (X := RLeaves0_X) (ok_of seat_ok (fun b hb => by cases hb; exact bkT_ok) fns_ok ⟨RleafNo_k, trivial⟩) 200 (RLeaves0_eq.mpr fun a hp w_0 => @RLeaves0_ok a.1 w_0 hp)
noncomputable def RWhole_C : Ctr := ⟨[.v (.int .i64), .v (.arr 32 .byte)], [.v (.arr 32 .byte)], some (fun a => (fun (a0_n : Int) (a1_t : List UInt8) => (0 ≤ a0_n : Prop)) a.1 a.2.1), fun a => (fun (a0_n : Int) (a1_t : List UInt8) => (((sealOf 5 [numB a0_n.toNat, a1_t]), ()), (()))) a.1 a.2.1⟩
noncomputable def RWhole_X : Fx := ⟨seat, some bkT, fns, [(109, RNumber_C), (68, ROf_C)], [], [], [(1, [0, 1, 2], [.o 0 2, .o 1 2, .o 3 2, .o 2 0, .o 4 1, .o 5 1, .o 6 1])]⟩
def RWhole_VC (a0_n : Int) (a1_t : List UInt8) (Q : (List UInt8) → Prop) : Prop :=
  Ty.byte.kd.sl.wf (numB (IntKind.u64.wrap a0_n).toNat) → (1 : Nat) + blobRoom (numB (IntKind.u64.wrap a0_n).toNat :: a1_t :: ([] : List (List UInt8))) ≤ (70368744177664 : Nat) ∧ ((Ty.arr (32 : Nat) Ty.byte).kd.wf (sealOf (5 : Int) (numB (IntKind.u64.wrap a0_n).toNat :: a1_t :: ([] : List (List UInt8)))) → Q (sealOf (5 : Int) (numB (IntKind.u64.wrap a0_n).toNat :: a1_t :: ([] : List (List UInt8)))))
theorem RWhole_ok {a0_n : Int} {a1_t : List UInt8} (w_0 : (Ty.kd (.int .i64)).wf a0_n) (w_1 : (Ty.kd (.arr 32 .byte)).wf a1_t) (hp : 0 ≤ a0_n) : RWhole_VC a0_n a1_t (fun o0 => o0 = (sealOf 5 [numB a0_n.toNat, a1_t])) := by
  have e : IntKind.u64.wrap a0_n = a0_n := wrap_id ⟨hp, by have : a0_n ≤ 9223372036854775807 := w_0.2; show _ ≤ (18446744073709551615 : Int); omega⟩
  have hl := numB_length (n := a0_n.toNat) (by have : a0_n ≤ 9223372036854775807 := w_0.2; omega)
  have ht : a1_t.length = 32 := w_1.1
  unfold RWhole_VC
  rw [e]
  exact fun _ => ⟨by simp [blobRoom]; omega, fun _ => rfl⟩
theorem RWhole_eq : (∀ a, RWhole_C.pre a → PM.wfP RWhole_C.pm a (fvc RWhole_X 200 90 RWhole_C a (eqO RWhole_C a))) = (∀ a : Int × (List UInt8) × Unit, (0 ≤ (a.1)) → (Ty.kd (.int .i64)).wf a.1 → (Ty.kd (.arr 32 .byte)).wf a.2.1 → RWhole_VC a.1 a.2.1 (fun o0 => o0 = (sealOf 5 [numB (a.1).toNat, (a.2.1)]))) := by kernel_rfl
theorem RWhole_k : RWhole_C.valid Try.prog 90 := ctr_of (X := RWhole_X) (ok_of seat_ok (fun b hb => by cases hb; exact bkT_ok) fns_ok ⟨RNumber_k, ROf_k, trivial⟩) 200 (RWhole_eq.mpr fun a hp w_0 w_1 => @RWhole_ok a.1 a.2.1 w_0 w_1 hp)
noncomputable def RRoot6_C : Ctr := ⟨[.v (.sl (.pr (.sl .byte) (.sl .byte)))], [.v (.arr 32 .byte)], some (fun a => (fun (a0_l : List ((List UInt8) × List UInt8)) => (a0_l = [] : Prop)) a.1), fun a => (fun (a0_l : List ((List UInt8) × List UInt8)) => ((noneR, ()), (()))) a.1⟩
noncomputable def RRoot6_X : Fx := ⟨seat, some bkT, fns, [(92, RLeaves0_C), (60, RRoot0_C), (90, RWhole_C)], [], [], []⟩
def RRoot6_VC (a0_l : List ((List UInt8) × List UInt8)) (Q : (List UInt8) → Prop) : Prop :=
  a0_l = ([] : List (List UInt8 × List UInt8)) ∧ ((Ty.arr (32 : Nat) Ty.byte).kd.sl.wf ([] : List (List UInt8)) → ([] : List (List UInt8)) = ([] : List (List UInt8)) ∧ ((Ty.arr (32 : Nat) Ty.byte).kd.wf (sealOf (2 : Int) ([] : List (List UInt8))) → (0 : Int) ≤ (a0_l.length : Int) ∧ ((Ty.arr (32 : Nat) Ty.byte).kd.wf (sealOf (5 : Int) (numB (a0_l.length : Int).toNat :: sealOf (2 : Int) ([] : List (List UInt8)) :: ([] : List (List UInt8)))) → Q (sealOf (5 : Int) (numB (a0_l.length : Int).toNat :: sealOf (2 : Int) ([] : List (List UInt8)) :: ([] : List (List UInt8)))))))
theorem RRoot6_ok {a0_l : List ((List UInt8) × List UInt8)} (w_0 : (Ty.kd (.sl (.pr (.sl .byte) (.sl .byte)))).wf a0_l) (hp : a0_l = []) : RRoot6_VC a0_l (fun o0 => o0 = noneR) := by
  subst hp
  unfold RRoot6_VC
  exact ⟨rfl, fun _ => ⟨rfl, fun _ => ⟨by decide, fun _ => rfl⟩⟩⟩
theorem RRoot6_eq : (∀ a, RRoot6_C.pre a → PM.wfP RRoot6_C.pm a (fvc RRoot6_X 200 42 RRoot6_C a (eqO RRoot6_C a))) = (∀ a : (List ((List UInt8) × List UInt8)) × Unit, ((a.1) = []) → (Ty.kd (.sl (.pr (.sl .byte) (.sl .byte)))).wf a.1 → RRoot6_VC a.1 (fun o0 => o0 = noneR)) := by kernel_rfl
theorem RRoot6_k : RRoot6_C.valid Try.prog 42 := ctr_of (X := RRoot6_X) (ok_of seat_ok (fun b hb => by cases hb; exact bkT_ok) fns_ok ⟨RLeaves0_k, RRoot0_k, RWhole_k, trivial⟩) 200 (RRoot6_eq.mpr fun a hp w_0 => @RRoot6_ok a.1 w_0 hp)
noncomputable def RSeal9_C : Ctr := ⟨[.v (.sl .str)], [.v (.arr 32 .byte)], some (fun a => (fun (a0_stops : List (List UInt8)) => (a0_stops.length ≤ 1048576 ∧ 1 + blobRoom a0_stops ≤ 70368744177664 : Prop)) a.1), fun a => (fun (a0_stops : List (List UInt8)) => (((sealOf 8 a0_stops), ()), (()))) a.1⟩
noncomputable def RSeal9_X : Fx := ⟨seat, some bkT, fns, [(68, ROf_C)], [], [], []⟩
def RSeal9_VC (a0_stops : List (List UInt8)) (Q : (List UInt8) → Prop) : Prop :=
  ∃ (x0 : List (List UInt8) → Int → Prop), ∃ (x1 : List (List UInt8) → Int → Nat), x0 ([] : List (List UInt8)) (0 : Int) ∧ ∀ (x2 : List (List UInt8)) (x3 : Int), x0 x2 x3 → Ty.byte.sl.kd.sl.wf x2 → (Kd.int IntKind.i64).wf x3 → (x3 < (a0_stops.length : Int) → ((0 : Int) ≤ x3 ∧ x3 < (a0_stops.length : Int)) ∧ (x2.length + (ix a0_stops x3 :: ([] : List (List UInt8))).length) * (24 : Nat) ≤ (140737488355328 : Nat) ∧ x3 < (9223372036854775807 : Int) ∧ x0 (x2 ++ ix a0_stops x3 :: ([] : List (List UInt8))) (x3 + (1 : Int)) ∧ x1 (x2 ++ ix a0_stops x3 :: ([] : List (List UInt8))) (x3 + (1 : Int)) < x1 x2 x3) ∧ (¬x3 < (a0_stops.length : Int) → (1 : Nat) + blobRoom x2 ≤ (70368744177664 : Nat) ∧ ((Ty.arr (32 : Nat) Ty.byte).kd.wf (sealOf (8 : Int) x2) → Q (sealOf (8 : Int) x2)))
theorem RSeal9_ok {a0_stops : List (List UInt8)} (w_0 : (Ty.kd (.sl .str)).wf a0_stops) (hp : a0_stops.length ≤ 1048576 ∧ 1 + blobRoom a0_stops ≤ 70368744177664) : RSeal9_VC a0_stops (fun o0 => o0 = (sealOf 8 a0_stops)) := by
  have hp1 := hp.1
  unfold RSeal9_VC
  refine ⟨fun parts i => ∃ j : Nat, i = (j : Int) ∧ j ≤ a0_stops.length ∧ parts = a0_stops.take j, fun _ i => a0_stops.length - i.toNat, ⟨0, rfl, by omega, rfl⟩, ?_⟩
  rintro parts i ⟨j, rfl, hj, rfl⟩ _ _
  refine ⟨fun hlt => ⟨⟨by omega, hlt⟩, by simp only [List.length_take, List.length_cons, List.length_nil]; omega, by omega, ⟨j + 1, by omega, by omega, (take_step hlt).symm⟩, by show a0_stops.length - ((j : Int) + 1).toNat < a0_stops.length - (j : Int).toNat; omega⟩, fun hge => ?_⟩
  have : j = a0_stops.length := by omega
  subst this
  rw [List.take_length]
  exact ⟨hp.2, fun _ => rfl⟩
theorem RSeal9_eq : (∀ a, RSeal9_C.pre a → PM.wfP RSeal9_C.pm a (fvc RSeal9_X 200 61 RSeal9_C a (eqO RSeal9_C a))) = (∀ a : (List (List UInt8)) × Unit, ((a.1).length ≤ 1048576 ∧ 1 + blobRoom (a.1) ≤ 70368744177664) → (Ty.kd (.sl .str)).wf a.1 → RSeal9_VC a.1 (fun o0 => o0 = (sealOf 8 (a.1)))) := by kernel_rfl
theorem RSeal9_k : RSeal9_C.valid Try.prog 61 := ctr_of (X := RSeal9_X) (ok_of seat_ok (fun b hb => by cases hb; exact bkT_ok) fns_ok ⟨ROf_k, trivial⟩) 200 (RSeal9_eq.mpr fun a hp w_0 => @RSeal9_ok a.1 w_0 hp)
noncomputable def RFirst_C : Ctr := ⟨[.v (.sl .str)], [.v (.pr (.int .u64) (.pr (.arr 32 .byte) (.pr (.arr 32 .byte) (.pr (.arr 32 .byte) (.pr (.arr 32 .byte) (.arr 32 .byte))))))], some (fun a => (fun (a0_stops : List (List UInt8)) => (a0_stops.length ≤ 1048576 ∧ 1 + blobRoom a0_stops ≤ 70368744177664 : Prop)) a.1), fun a => (fun (a0_stops : List (List UInt8)) => (((firstH a0_stops), ()), (()))) a.1⟩
noncomputable def RFirst_X : Fx := ⟨seat, some bkT, fns, [(42, RRoot6_C), (60, RRoot0_C), (61, RSeal9_C)], [], [], []⟩
def RFirst_VC (a0_stops : List (List UInt8)) (Q : (Int × (List UInt8) × (List UInt8) × (List UInt8) × (List UInt8) × List UInt8) → Prop) : Prop :=
  ([] : List (List UInt8 × List UInt8)) = ([] : List (List UInt8 × List UInt8)) ∧ ((Ty.arr (32 : Nat) Ty.byte).kd.wf noneR → ([] : List (List UInt8)) = ([] : List (List UInt8)) ∧ ((Ty.arr (32 : Nat) Ty.byte).kd.wf (sealOf (2 : Int) ([] : List (List UInt8))) → (a0_stops.length ≤ (1048576 : Nat) ∧ (1 : Nat) + blobRoom a0_stops ≤ (70368744177664 : Nat)) ∧ ((Ty.arr (32 : Nat) Ty.byte).kd.wf (sealOf (8 : Int) a0_stops) → Q (((Ty.int IntKind.u64).pr ((Ty.arr (32 : Nat) Ty.byte).pr ((Ty.arr (32 : Nat) Ty.byte).pr ((Ty.arr (32 : Nat) Ty.byte).pr ((Ty.arr (32 : Nat) Ty.byte).pr (Ty.arr (32 : Nat) Ty.byte)))))).kd.z.fst, ((Ty.int IntKind.u64).pr ((Ty.arr (32 : Nat) Ty.byte).pr ((Ty.arr (32 : Nat) Ty.byte).pr ((Ty.arr (32 : Nat) Ty.byte).pr ((Ty.arr (32 : Nat) Ty.byte).pr (Ty.arr (32 : Nat) Ty.byte)))))).kd.z.snd.fst, noneR, noneR, sealOf (2 : Int) ([] : List (List UInt8)), sealOf (8 : Int) a0_stops))))
theorem RFirst_ok {a0_stops : List (List UInt8)} (w_0 : (Ty.kd (.sl .str)).wf a0_stops) (hp : a0_stops.length ≤ 1048576 ∧ 1 + blobRoom a0_stops ≤ 70368744177664) : RFirst_VC a0_stops (fun o0 => o0 = (firstH a0_stops)) := by
  unfold RFirst_VC
  exact ⟨rfl, fun _ => ⟨rfl, fun _ => ⟨hp, fun _ => rfl⟩⟩⟩
theorem RFirst_eq : (∀ a, RFirst_C.pre a → PM.wfP RFirst_C.pm a (fvc RFirst_X 200 16 RFirst_C a (eqO RFirst_C a))) = (∀ a : (List (List UInt8)) × Unit, ((a.1).length ≤ 1048576 ∧ 1 + blobRoom (a.1) ≤ 70368744177664) → (Ty.kd (.sl .str)).wf a.1 → RFirst_VC a.1 (fun o0 => o0 = (firstH (a.1)))) := by kernel_rfl
theorem RFirst_k : RFirst_C.valid Try.prog 16 := ctr_of (X := RFirst_X) (ok_of seat_ok (fun b hb => by cases hb; exact bkT_ok) fns_ok ⟨RRoot6_k, RRoot0_k, RSeal9_k, trivial⟩) 200 (RFirst_eq.mpr fun a hp w_0 => @RFirst_ok a.1 w_0 hp)
noncomputable def RHBytes_C : Ctr := ⟨[.v (.pr (.int .u64) (.pr (.arr 32 .byte) (.pr (.arr 32 .byte) (.pr (.arr 32 .byte) (.pr (.arr 32 .byte) (.arr 32 .byte))))))], [.ow 5 .byte], none, fun a => (fun (a0_h : Int × (List UInt8) × (List UInt8) × (List UInt8) × (List UInt8) × List UInt8) => (((hdBytes a0_h), ()), (()))) a.1⟩
noncomputable def RHBytes_X : Fx := ⟨seat, some bkT, fns, [(65, RNums_C), (66, RSums_C)], [], [], []⟩
def RHBytes_VC (a0_h : Int × (List UInt8) × (List UInt8) × (List UInt8) × (List UInt8) × List UInt8) (Q : (List UInt8) → Prop) : Prop :=
  ([] : List UInt8).length + (9 : Nat) * (a0_h.fst :: ([] : List Int)).length ≤ (140737488355328 : Nat) ∧ (Ty.byte.kd.sl.wf (([] : List UInt8) ++ numAll (a0_h.fst :: ([] : List Int))) → ((([] : List UInt8) ++ numAll (a0_h.fst :: ([] : List Int))).length + (32 : Nat) * (a0_h.snd.fst :: a0_h.snd.snd.fst :: a0_h.snd.snd.snd.fst :: a0_h.snd.snd.snd.snd.fst :: a0_h.snd.snd.snd.snd.snd :: ([] : List (List UInt8))).length ≤ (140737488355328 : Nat) ∧ ∀ (x0 : List UInt8), x0 ∈ a0_h.snd.fst :: a0_h.snd.snd.fst :: a0_h.snd.snd.snd.fst :: a0_h.snd.snd.snd.snd.fst :: a0_h.snd.snd.snd.snd.snd :: ([] : List (List UInt8)) → x0.length = (32 : Nat)) ∧ (Ty.byte.kd.sl.wf (([] : List UInt8) ++ numAll (a0_h.fst :: ([] : List Int)) ++ (a0_h.snd.fst :: a0_h.snd.snd.fst :: a0_h.snd.snd.snd.fst :: a0_h.snd.snd.snd.snd.fst :: a0_h.snd.snd.snd.snd.snd :: ([] : List (List UInt8))).flatten) → Q (([] : List UInt8) ++ numAll (a0_h.fst :: ([] : List Int)) ++ (a0_h.snd.fst :: a0_h.snd.snd.fst :: a0_h.snd.snd.snd.fst :: a0_h.snd.snd.snd.snd.fst :: a0_h.snd.snd.snd.snd.snd :: ([] : List (List UInt8))).flatten)))
theorem RHBytes_ok {a0_h : Int × (List UInt8) × (List UInt8) × (List UInt8) × (List UInt8) × List UInt8} (w_0 : (Ty.kd (.pr (.int .u64) (.pr (.arr 32 .byte) (.pr (.arr 32 .byte) (.pr (.arr 32 .byte) (.pr (.arr 32 .byte) (.arr 32 .byte))))))).wf a0_h) : RHBytes_VC a0_h (fun o0 => o0 = (hdBytes a0_h)) := by
  have hh : HdWf a0_h := ⟨w_0.1.1, w_0.1.2, w_0.2.1.1, w_0.2.2.1.1, w_0.2.2.2.1.1, w_0.2.2.2.2.1.1, w_0.2.2.2.2.2.1⟩
  have hn := numB_length (n := a0_h.1.toNat) (by have := hh.n1; omega)
  unfold RHBytes_VC
  refine ⟨by simp, fun _ => ⟨⟨by simp [numAll]; omega, fun x hx => ?_⟩, fun _ => ?_⟩⟩
  · simp only [List.mem_cons, List.not_mem_nil, or_false] at hx
    rcases hx with rfl | rfl | rfl | rfl | rfl
    · exact hh.a
    · exact hh.b
    · exact hh.c
    · exact hh.d
    · exact hh.e
  · show _ = hdBytes a0_h
    simp [numAll, hdBytes]
theorem RHBytes_eq : (∀ a, RHBytes_C.pre a → PM.wfP RHBytes_C.pm a (fvc RHBytes_X 200 18 RHBytes_C a (eqO RHBytes_C a))) = (∀ a : (Int × (List UInt8) × (List UInt8) × (List UInt8) × (List UInt8) × List UInt8) × Unit, True → (Ty.kd (.pr (.int .u64) (.pr (.arr 32 .byte) (.pr (.arr 32 .byte) (.pr (.arr 32 .byte) (.pr (.arr 32 .byte) (.arr 32 .byte))))))).wf a.1 → RHBytes_VC a.1 (fun o0 => o0 = (hdBytes (a.1)))) := by kernel_rfl
theorem RHBytes_k : RHBytes_C.valid Try.prog 18 := ctr_of (X := RHBytes_X) (ok_of seat_ok (fun b hb => by cases hb; exact bkT_ok) fns_ok ⟨RNums_k, RSums_k, trivial⟩) 200 (RHBytes_eq.mpr fun a hp w_0 => @RHBytes_ok a.1 w_0)
noncomputable def RDigest_C : Ctr := ⟨[.v (.pr (.int .u64) (.pr (.arr 32 .byte) (.pr (.arr 32 .byte) (.pr (.arr 32 .byte) (.pr (.arr 32 .byte) (.arr 32 .byte))))))], [.v (.arr 32 .byte)], none, fun a => (fun (a0_h : Int × (List UInt8) × (List UInt8) × (List UInt8) × (List UInt8) × List UInt8) => (((sealOf 6 [hdBytes a0_h]), ()), (()))) a.1⟩
noncomputable def RDigest_X : Fx := ⟨seat, some bkT, fns, [(18, RHBytes_C), (68, ROf_C)], [], [], []⟩
def RDigest_VC (a0_h : Int × (List UInt8) × (List UInt8) × (List UInt8) × (List UInt8) × List UInt8) (Q : (List UInt8) → Prop) : Prop :=
  Ty.byte.kd.sl.wf (hdBytes a0_h) → (1 : Nat) + blobRoom (hdBytes a0_h :: ([] : List (List UInt8))) ≤ (70368744177664 : Nat) ∧ ((Ty.arr (32 : Nat) Ty.byte).kd.wf (sealOf (6 : Int) (hdBytes a0_h :: ([] : List (List UInt8)))) → Q (sealOf (6 : Int) (hdBytes a0_h :: ([] : List (List UInt8)))))
theorem RDigest_ok {a0_h : Int × (List UInt8) × (List UInt8) × (List UInt8) × (List UInt8) × List UInt8} (w_0 : (Ty.kd (.pr (.int .u64) (.pr (.arr 32 .byte) (.pr (.arr 32 .byte) (.pr (.arr 32 .byte) (.pr (.arr 32 .byte) (.arr 32 .byte))))))).wf a0_h) : RDigest_VC a0_h (fun o0 => o0 = (sealOf 6 [hdBytes a0_h])) := by
  have hh : HdWf a0_h := ⟨w_0.1.1, w_0.1.2, w_0.2.1.1, w_0.2.2.1.1, w_0.2.2.2.1.1, w_0.2.2.2.2.1.1, w_0.2.2.2.2.2.1⟩
  have hl := hdBytes_len hh
  unfold RDigest_VC
  exact fun _ => ⟨by simp [blobRoom]; omega, fun _ => rfl⟩
theorem RDigest_eq : (∀ a, RDigest_C.pre a → PM.wfP RDigest_C.pm a (fvc RDigest_X 200 20 RDigest_C a (eqO RDigest_C a))) = (∀ a : (Int × (List UInt8) × (List UInt8) × (List UInt8) × (List UInt8) × List UInt8) × Unit, True → (Ty.kd (.pr (.int .u64) (.pr (.arr 32 .byte) (.pr (.arr 32 .byte) (.pr (.arr 32 .byte) (.pr (.arr 32 .byte) (.arr 32 .byte))))))).wf a.1 → RDigest_VC a.1 (fun o0 => o0 = (sealOf 6 [hdBytes (a.1)]))) := by kernel_rfl
theorem RDigest_k : RDigest_C.valid Try.prog 20 := ctr_of (X := RDigest_X) (ok_of seat_ok (fun b hb => by cases hb; exact bkT_ok) fns_ok ⟨RHBytes_k, ROf_k, trivial⟩) 200 (RDigest_eq.mpr fun a hp w_0 => @RDigest_ok a.1 w_0)
noncomputable def RNext_C : Ctr := ⟨[.v (.pr (.int .u64) (.pr (.arr 32 .byte) (.pr (.arr 32 .byte) (.pr (.arr 32 .byte) (.pr (.arr 32 .byte) (.arr 32 .byte)))))), .v (.arr 32 .byte), .v (.arr 32 .byte), .v (.arr 32 .byte)], [.v (.pr (.int .u64) (.pr (.arr 32 .byte) (.pr (.arr 32 .byte) (.pr (.arr 32 .byte) (.pr (.arr 32 .byte) (.arr 32 .byte))))))], none, fun a => (fun (a0_h : Int × (List UInt8) × (List UInt8) × (List UInt8) × (List UInt8) × List UInt8) (a1_tables : List UInt8) (a2_index : List UInt8) (a3_history : List UInt8) => (((nextH a0_h a1_tables a2_index a3_history), ()), (()))) a.1 a.2.1 a.2.2.1 a.2.2.2.1⟩
noncomputable def RNext_X : Fx := ⟨seat, some bkT, fns, [(20, RDigest_C)], [], [], [(4, [0, 1, 2, 3, 4, 5, 6, 7, 8, 9, 10, 11, 12], [.o 0 2, .o 1 2, .o 3 2, .o 4 2, .o 5 2, .o 6 2, .o 7 2, .o 2 0, .o 8 2, .o 9 1])]⟩
def RNext_VC (a0_h : Int × (List UInt8) × (List UInt8) × (List UInt8) × (List UInt8) × List UInt8) (a1_tables : List UInt8) (a2_index : List UInt8) (a3_history : List UInt8) (Q : (Int × (List UInt8) × (List UInt8) × (List UInt8) × (List UInt8) × List UInt8) → Prop) : Prop :=
  (a0_h.fst < (4611686018427387903 : Int) → (Ty.arr (32 : Nat) Ty.byte).kd.wf (sealOf (6 : Int) (hdBytes a0_h :: ([] : List (List UInt8)))) → Q (IntKind.u64.wrap (a0_h.fst + (1 : Int)), sealOf (6 : Int) (hdBytes a0_h :: ([] : List (List UInt8))), a1_tables, a2_index, a3_history, a0_h.snd.snd.snd.snd.snd)) ∧ (¬a0_h.fst < (4611686018427387903 : Int) → (Ty.arr (32 : Nat) Ty.byte).kd.wf (sealOf (6 : Int) (hdBytes a0_h :: ([] : List (List UInt8)))) → Q (a0_h.fst, sealOf (6 : Int) (hdBytes a0_h :: ([] : List (List UInt8))), a1_tables, a2_index, a3_history, a0_h.snd.snd.snd.snd.snd))
theorem RNext_ok {a0_h : Int × (List UInt8) × (List UInt8) × (List UInt8) × (List UInt8) × List UInt8} {a1_tables : List UInt8} {a2_index : List UInt8} {a3_history : List UInt8} (w_0 : (Ty.kd (.pr (.int .u64) (.pr (.arr 32 .byte) (.pr (.arr 32 .byte) (.pr (.arr 32 .byte) (.pr (.arr 32 .byte) (.arr 32 .byte))))))).wf a0_h) (w_1 : (Ty.kd (.arr 32 .byte)).wf a1_tables) (w_2 : (Ty.kd (.arr 32 .byte)).wf a2_index) (w_3 : (Ty.kd (.arr 32 .byte)).wf a3_history) : RNext_VC a0_h a1_tables a2_index a3_history (fun o0 => o0 = (nextH a0_h a1_tables a2_index a3_history)) := by
  have h0 : 0 ≤ a0_h.1 := w_0.1.1
  unfold RNext_VC
  refine ⟨fun h _ => ?_, fun h _ => ?_⟩
  · have e : IntKind.u64.wrap (a0_h.1 + 1) = a0_h.1 + 1 := wrap_id ⟨by show (0 : Int) ≤ _; omega, by show _ ≤ (18446744073709551615 : Int); omega⟩
    show _ = nextH a0_h a1_tables a2_index a3_history
    rw [e, nextH, if_pos h]
  · show _ = nextH a0_h a1_tables a2_index a3_history
    rw [nextH, if_neg h]
theorem RNext_eq : (∀ a, RNext_C.pre a → PM.wfP RNext_C.pm a (fvc RNext_X 200 22 RNext_C a (eqO RNext_C a))) = (∀ a : (Int × (List UInt8) × (List UInt8) × (List UInt8) × (List UInt8) × List UInt8) × (List UInt8) × (List UInt8) × (List UInt8) × Unit, True → (Ty.kd (.pr (.int .u64) (.pr (.arr 32 .byte) (.pr (.arr 32 .byte) (.pr (.arr 32 .byte) (.pr (.arr 32 .byte) (.arr 32 .byte))))))).wf a.1 → (Ty.kd (.arr 32 .byte)).wf a.2.1 → (Ty.kd (.arr 32 .byte)).wf a.2.2.1 → (Ty.kd (.arr 32 .byte)).wf a.2.2.2.1 → RNext_VC a.1 a.2.1 a.2.2.1 a.2.2.2.1 (fun o0 => o0 = (nextH (a.1) (a.2.1) (a.2.2.1) (a.2.2.2.1)))) := by kernel_rfl
theorem RNext_k : RNext_C.valid Try.prog 22 := ctr_of (X := RNext_X) (ok_of seat_ok (fun b hb => by cases hb; exact bkT_ok) fns_ok ⟨RDigest_k, trivial⟩) 200 (RNext_eq.mpr fun a hp w_0 w_1 w_2 w_3 => @RNext_ok a.1 a.2.1 a.2.2.1 a.2.2.2.1 w_0 w_1 w_2 w_3)
noncomputable def ChainHeads_C : Ctr := ⟨[.v (.sl .str), .v (.pr (.int .u64) (.pr (.arr 32 .byte) (.pr (.arr 32 .byte) (.pr (.arr 32 .byte) (.pr (.arr 32 .byte) (.arr 32 .byte)))))), .v (.pr (.arr 32 .byte) (.pr (.arr 32 .byte) (.arr 32 .byte)))], [.v .bool], none, fun a => (fun (a0_stops : List (List UInt8)) (a1_h : Int × (List UInt8) × (List UInt8) × (List UInt8) × (List UInt8) × List UInt8) (a2_r : (List UInt8) × (List UInt8) × List UInt8) => ((true, ()), (()))) a.1 a.2.1 a.2.2.1⟩
noncomputable def ChainHeads_X : Fx := ⟨seat, some bkT, fns, [(14, awake15_C), (15, CFirst_C), (16, RFirst_C), (17, CBytes_C), (18, RHBytes_C), (19, CDigestN_C), (19, CDigest_C), (20, RDigest_C), (21, CNextN_C), (21, CNext_C), (22, RNext_C)], [], [], [(8, [], [.o 0 2, .o 2 2, .o 1 0, .o 3 0, .o 4 2, .o 5 2, .o 6 2, .o 9 2, .o 7 0, .o 8 2, .o 10 0, .o 11 2, .o 12 2, .o 13 2, .o 14 2, .o 15 2, .o 17 2, .o 19 3, .o 16 0, .o 18 1, .o 20 1, .o 21 3, .o 22 3]), (10, [], [.o 0 2, .o 1 2, .o 2 2, .o 3 2, .o 4 2, .o 5 2, .o 6 2, .o 8 2, .o 9 2, .o 10 2, .o 11 2, .o 12 2, .o 13 2, .o 14 2, .o 7 0, .o 15 0, .o 16 2, .o 17 2, .o 18 0, .o 19 2, .o 20 2])]⟩
def ChainHeads_VC (a0_stops : List (List UInt8)) (a1_h : Int × (List UInt8) × (List UInt8) × (List UInt8) × (List UInt8) × List UInt8) (a2_r : (List UInt8) × (List UInt8) × List UInt8) (Q : Bool → Prop) : Prop :=
  ((100 : Int) < (a0_stops.length : Int) → Q true) ∧ (¬(100 : Int) < (a0_stops.length : Int) → ∃ (x0 : Bool → Int → Prop), ∃ (x1 : Bool → Int → Nat), x0 false (0 : Int) ∧ ∀ (x2 : Bool) (x3 : Int), x0 x2 x3 → (Kd.int IntKind.i64).wf x3 → (x3 < (a0_stops.length : Int) → ((0 : Int) ≤ x3 ∧ x3 < (a0_stops.length : Int)) ∧ ((1000 : Int) < ((ix a0_stops x3).length : Int) → Q true) ∧ (¬(1000 : Int) < ((ix a0_stops x3).length : Int) → x3 < (9223372036854775807 : Int) ∧ x0 x2 (x3 + (1 : Int)) ∧ x1 x2 (x3 + (1 : Int)) < x1 x2 x3)) ∧ (¬x3 < (a0_stops.length : Int) → ((none : Option (List Nt × Int)) = (none : Option (List Nt × Int)) ∧ a0_stops.length ≤ (1048576 : Nat) ∧ (1 : Nat) + blobRoom a0_stops ≤ (140737488355328 : Nat)) ∧ (((Ty.int IntKind.u64).pr ((Ty.arr (32 : Nat) Ty.byte).pr ((Ty.arr (32 : Nat) Ty.byte).pr ((Ty.arr (32 : Nat) Ty.byte).pr ((Ty.arr (32 : Nat) Ty.byte).pr (Ty.arr (32 : Nat) Ty.byte)))))).kd.wf (firstH a0_stops) → (a0_stops.length ≤ (1048576 : Nat) ∧ (1 : Nat) + blobRoom a0_stops ≤ (70368744177664 : Nat)) ∧ (((Ty.int IntKind.u64).pr ((Ty.arr (32 : Nat) Ty.byte).pr ((Ty.arr (32 : Nat) Ty.byte).pr ((Ty.arr (32 : Nat) Ty.byte).pr ((Ty.arr (32 : Nat) Ty.byte).pr (Ty.arr (32 : Nat) Ty.byte)))))).kd.wf (firstH a0_stops) → (firstH a0_stops ≠ firstH a0_stops → Q false) ∧ (¬firstH a0_stops ≠ firstH a0_stops → Ty.byte.kd.sl.wf (hdBytes a1_h) → Ty.byte.kd.sl.wf (hdBytes a1_h) → (hdBytes a1_h ≠ hdBytes a1_h → Q false) ∧ (¬hdBytes a1_h ≠ hdBytes a1_h → bookRoom (some (([] : List Nt), (0 : Int))) ∧ ((Ty.arr (32 : Nat) Ty.byte).kd.wf (sealOf (6 : Int) (hdBytes a1_h :: ([] : List (List UInt8)))) → (Ty.arr (32 : Nat) Ty.byte).kd.wf (sealOf (6 : Int) (hdBytes a1_h :: ([] : List (List UInt8)))) → (sealOf (6 : Int) (hdBytes a1_h :: ([] : List (List UInt8))) ≠ sealOf (6 : Int) (hdBytes a1_h :: ([] : List (List UInt8))) → Q false) ∧ (¬sealOf (6 : Int) (hdBytes a1_h :: ([] : List (List UInt8))) ≠ sealOf (6 : Int) (hdBytes a1_h :: ([] : List (List UInt8))) → ((Ty.int IntKind.u64).pr ((Ty.arr (32 : Nat) Ty.byte).pr ((Ty.arr (32 : Nat) Ty.byte).pr ((Ty.arr (32 : Nat) Ty.byte).pr ((Ty.arr (32 : Nat) Ty.byte).pr (Ty.arr (32 : Nat) Ty.byte)))))).kd.wf (nextO a1_h a2_r.fst a2_r.snd.fst a2_r.snd.snd) → ((Ty.int IntKind.u64).pr ((Ty.arr (32 : Nat) Ty.byte).pr ((Ty.arr (32 : Nat) Ty.byte).pr ((Ty.arr (32 : Nat) Ty.byte).pr ((Ty.arr (32 : Nat) Ty.byte).pr (Ty.arr (32 : Nat) Ty.byte)))))).kd.wf (nextH a1_h a2_r.fst a2_r.snd.fst a2_r.snd.snd) → (nextO a1_h a2_r.fst a2_r.snd.fst a2_r.snd.snd = nextH a1_h a2_r.fst a2_r.snd.fst a2_r.snd.snd → Q true) ∧ (¬nextO a1_h a2_r.fst a2_r.snd.fst a2_r.snd.snd = nextH a1_h a2_r.fst a2_r.snd.fst a2_r.snd.snd → Q false)))))))))
theorem ChainHeads_ok {a0_stops : List (List UInt8)} {a1_h : Int × (List UInt8) × (List UInt8) × (List UInt8) × (List UInt8) × List UInt8} {a2_r : (List UInt8) × (List UInt8) × List UInt8} (w_0 : (Ty.kd (.sl .str)).wf a0_stops) (w_1 : (Ty.kd (.pr (.int .u64) (.pr (.arr 32 .byte) (.pr (.arr 32 .byte) (.pr (.arr 32 .byte) (.pr (.arr 32 .byte) (.arr 32 .byte))))))).wf a1_h) (w_2 : (Ty.kd (.pr (.arr 32 .byte) (.pr (.arr 32 .byte) (.arr 32 .byte)))).wf a2_r) : ChainHeads_VC a0_stops a1_h a2_r (fun o0 => o0 = true) := by
  unfold ChainHeads_VC
  refine ⟨fun _ => rfl, fun hl => ⟨fun r i => ∃ j : Nat, i = (j : Int) ∧ j ≤ a0_stops.length ∧ ∀ x ∈ a0_stops.take j, x.length ≤ 1000, fun _ i => a0_stops.length - i.toNat, ⟨0, rfl, by omega, by simp⟩, ?_⟩⟩
  rintro r i ⟨j, rfl, hj, hs⟩ _
  refine ⟨fun hlt => ⟨⟨by omega, hlt⟩, fun _ => rfl, fun hx => ⟨by omega, ⟨j + 1, by omega, by omega, fun x hx2 => ?_⟩, by show a0_stops.length - ((j : Int) + 1).toNat < a0_stops.length - (j : Int).toNat; omega⟩⟩, fun hge => ?_⟩
  · rw [take_step hlt] at hx2
    rcases List.mem_append.1 hx2 with h | h
    · exact hs x h
    · rw [List.mem_singleton.1 h]
      omega
  · have hj : j = a0_stops.length := by omega
    subst hj
    rw [List.take_length] at hs
    have hroom : ∀ l : List (List UInt8), (∀ x ∈ l, x.length ≤ 1000) → blobRoom l ≤ 1009 * l.length := by
      intro l
      induction l with
      | nil => intro _; simp [blobRoom]
      | cons x l ih =>
        intro h
        have h1 := ih fun z hz => h z (List.mem_cons_of_mem _ hz)
        have h2 := h x List.mem_cons_self
        unfold blobRoom at *
        simp only [List.map_cons, List.sum_cons, List.length_cons]
        omega
    have hr := hroom a0_stops hs
    have hN : nextO a1_h a2_r.1 a2_r.2.1 a2_r.2.2 = nextH a1_h a2_r.1 a2_r.2.1 a2_r.2.2 := by rw [nextO_eq]
    have hb : bookRoom (some (([] : List Nt), (0 : Int))) := fun y hy => by
      cases hy
      decide
    exact ⟨⟨rfl, by omega, by omega⟩, fun _ => ⟨⟨by omega, by omega⟩, fun _ => ⟨fun h => absurd rfl h, fun _ _ _ => ⟨fun h => absurd rfl h, fun _ => ⟨hb, fun _ _ => ⟨fun h => absurd rfl h, fun _ _ _ => ⟨fun _ => rfl, fun h => absurd hN h⟩⟩⟩⟩⟩⟩⟩
theorem ChainHeads_eq : (∀ a, ChainHeads_C.pre a → PM.wfP ChainHeads_C.pm a (fvc ChainHeads_X 200 3 ChainHeads_C a (eqO ChainHeads_C a))) = (∀ a : (List (List UInt8)) × (Int × (List UInt8) × (List UInt8) × (List UInt8) × (List UInt8) × List UInt8) × ((List UInt8) × (List UInt8) × List UInt8) × Unit, True → (Ty.kd (.sl .str)).wf a.1 → (Ty.kd (.pr (.int .u64) (.pr (.arr 32 .byte) (.pr (.arr 32 .byte) (.pr (.arr 32 .byte) (.pr (.arr 32 .byte) (.arr 32 .byte))))))).wf a.2.1 → (Ty.kd (.pr (.arr 32 .byte) (.pr (.arr 32 .byte) (.arr 32 .byte)))).wf a.2.2.1 → ChainHeads_VC a.1 a.2.1 a.2.2.1 (fun o0 => o0 = true)) := by kernel_rfl
theorem ChainHeads_k : ChainHeads_C.valid Try.prog 3 := ctr_of (X := ChainHeads_X) (ok_of seat_ok (fun b hb => by cases hb; exact bkT_ok) fns_ok ⟨awake15_k, CFirst_k, RFirst_k, CBytes_k, RHBytes_k, CDigestN_k, CDigest_k, RDigest_k, CNextN_k, CNext_k, RNext_k, trivial⟩) 200 (ChainHeads_eq.mpr fun a hp w_0 w_1 w_2 => @ChainHeads_ok a.1 a.2.1 a.2.2.1 w_0 w_1 w_2)
end Go.Proofs.Ytmjjkpiglbpkhaa

/-
  PLAIN 7: what the arguments of a statement are, told in the kinds of BASE: each argument that can be read is of its kind, over the ghost of the whole heap.
-/
set_option linter.unusedVariables false
namespace Go.Proofs.Ytmjjkpiglbpkhaa
open Go Go.RowKit Go.Inc Go.ChangeShapes Go.WideShapes Go.ChangeAt

theorem one_le {H : Type} (d : DataW H) : 1 ≤ Rows.uptoBulk d := by
  cases d with
  | lit l => cases l <;> simp [Rows.uptoBulk]
  | nil => simp [Rows.uptoBulk]
  | ptr d => simp [Rows.uptoBulk]
  | slice elems spare => simp [Rows.uptoBulk]
  | agg parts => simp [Rows.uptoBulk]
  | iface t d => simp [Rows.uptoBulk]
  | map entries => simp [Rows.uptoBulk]
  | held h => simp [Rows.uptoBulk]
theorem part_le {H : Type} {d : DataW H} {l : List (DataW H)} (h : d ∈ l) : Rows.uptoBulk d ≤ Rows.uptoBulkAll l := by
  induction l with
  | nil => cases h
  | cons x r ih =>
    simp only [Rows.uptoBulkAll]
    cases List.mem_cons.1 h with
    | inl e => subst e; omega
    | inr e => have := ih e; omega
theorem length_le {H : Type} (l : List (DataW H)) : l.length ≤ Rows.uptoBulkAll l := by
  induction l with
  | nil => simp [Rows.uptoBulkAll]
  | cons x r ih => have := one_le x; simp only [Rows.uptoBulkAll, List.length_cons]; omega
theorem small_of {H : Type} {l : List (DataW H)} (hk : Rows.uptoSmall H l = true) : Rows.uptoBulkAll l ≤ 1048576 := by
  simpa [Rows.uptoSmall] using hk

/-- the whole heap's rows, as they are -/
def GhostW (w : World) : Ghost := fun b => match w.heap[b]? with
  | some (.cells c t _) => some (t, c.toList)
  | _ => none
theorem Models.ofW (w : World) : Models w (GhostW w) := fun b t l h => by
  unfold GhostW at h
  split at h
  · rename_i c t' fr hh
    cases h
    exact ⟨c, fr, hh, List.prefix_refl _⟩
  · cases h
section
variable {P : Program} {α β : Type} {k : Kd α} {k' : Kd β} {t e : TypeId} {by_ : Nat} {S : α → Prop} {S' : β → Prop}
/-- so great a thing may be: every list has at most 1048576 members -/
def sm0 {α : Type} : α → Prop := fun _ => True
def smL {α : Type} (S : α → Prop) : List α → Prop := fun l => l.length ≤ 1048576 ∧ ∀ x ∈ l, S x
def smP {α β : Type} (S : α → Prop) (T : β → Prop) : α × β → Prop := fun x => S x.1 ∧ T x.2
/-- Whatever can be read at type t, within the bound, is of kind k (and not too great). -/
def Rds (P : Program) (t : TypeId) (k : Kd α) (S : α → Prop) : Prop := ∀ (H : Type) (enc : TypeId × Value → H) (w : World) (base : Nat) (held : Bool) (fuel : Nat) (cs : List Value) (x : DataW H × List MemPlace),
  DataW.trod enc P w base (fun _ => true) held fuel t cs = some x → Rows.uptoBulk x.1 ≤ 1048576 → ∃ a, k.R (GhostW w) a cs ∧ S a
theorem cellsOf_ty (h : TyOk P t k by_) : P.cellsOf t = k.sz := by
  obtain ⟨i, z, hi, hs, _⟩ := h.info
  simp [Program.cellsOf, hi, hs]
theorem rds_int {ik : IntKind} (ht : P.underlying t = some (.int ik)) : Rds P t (Kd.int ik) sm0 := fun H enc w base held fuel cs x h hb => by
  obtain ⟨n, rfl, _, hw⟩ := DataW.trod_int ht h
  refine ⟨n, ⟨rfl, ?_⟩, trivial⟩
  simpa [Lit.wf] using hw
theorem rds_byte (ht : P.underlying t = some (.int .u8)) : Rds P t Kd.byte sm0 := fun H enc w base held fuel cs x h hb => by
  obtain ⟨n, rfl, _, hw⟩ := DataW.trod_int ht h
  have hw : 0 ≤ n ∧ n ≤ 255 := by simpa [Lit.wf, IntKind.min, IntKind.max, IntKind.signed, IntKind.bits] using hw
  refine ⟨UInt8.ofNat n.toNat, ?_, trivial⟩
  show [Value.int .u8 n] = [.int .u8 _]
  congr 2
  have : (UInt8.ofNat n.toNat).toNat = n.toNat := by simp; omega
  omega
theorem rds_str (ht : P.underlying t = some .string) : Rds P t Kd.str (smL sm0) := fun H enc w base held fuel cs x h hb => by
  obtain ⟨s, rfl, rfl, _⟩ := DataW.trod_string ht h
  simp only [Rows.uptoBulk] at hb
  exact ⟨s.data.toList, ⟨by simp, by simp only [LM]; omega⟩, by omega, fun _ _ => trivial⟩
/-- so many cells, one after another -/
theorem ghost_cells {w : World} {base n : Nat} {a : Addr} {cs : List Value} (h : w.cells? base a n = some cs) (hn : 0 < n) :
    a.spot = none ∧ ∃ e l, GhostW w a.block = some (e, l) ∧ a.off + n ≤ l.length ∧ (l.drop a.off).take n = cs := by
  unfold World.cells? at h
  split at h
  case isFalse => cases h
  case isTrue hb =>
  have hl := mapM_some_length h
  have hg := fun i (hi : i < n) => mapM_some_get h i i (by simp [hi])
  have h0 := hg 0 hn
  have hc0 : 0 < cs.length := by rw [hl]; simpa using hn
  rw [List.getElem?_eq_getElem hc0] at h0
  unfold World.cell? at h0
  have ea : ∀ i, (a.add i).block = a.block := fun i => by unfold Addr.add; split <;> rfl
  have eo : ∀ i, (a.add i).off = a.off + i := fun i => by unfold Addr.add; split <;> simp_all
  have ha0 : a.add 0 = a := by simp [Addr.add]
  rw [ha0] at h0
  cases hh : w.heap[a.block]? with
  | none => rw [hh] at h0; cases h0
  | some o =>
    rw [hh] at h0
    cases o with
    | cells c e fr =>
      simp only at h0
      split at h0
      · cases h0
      · rename_i hs
        have hs : a.spot = none := by simpa using hs
        refine ⟨hs, e, c.toList, by simp [GhostW, hh], ?_⟩
        have hgc : ∀ i, i < n → c[a.off + i]? = cs[i]? := fun i hi => by
          have := hg i hi
          unfold World.cell? at this
          rw [ea, eo, hh] at this
          have hs' : (a.add i).spot.isSome = false := by unfold Addr.add; split <;> simp_all
          simpa [hs'] using this
        have hlen : cs.length = n := by rw [hl]; simp
        have hbound : a.off + n ≤ c.toList.length := by
          have h1 := hgc (n - 1) (by omega)
          rw [List.getElem?_eq_getElem (by omega)] at h1
          have := (Array.getElem?_eq_some_iff.1 h1).1
          simp only [Array.length_toList]
          omega
        refine ⟨hbound, ?_⟩
        apply List.ext_getElem?
        intro i
        rcases Nat.lt_or_ge i n with hi | hi
        · rw [List.getElem?_take, if_pos hi, List.getElem?_drop, ← hgc i hi]
          simp
        · rw [List.getElem?_take, if_neg (by omega), List.getElem?_eq_none (by omega)]
    | _ => simp at h0
theorem RL_flat {R : α → List Value → Prop} : ∀ (n : Nat) (f : Nat → List Value), (∀ i, i < n → ∃ a, R a (f i) ∧ S a) → ∃ l, l.length = n ∧ RL R l ((List.range n).map f).flatten ∧ ∀ x ∈ l, S x
  | 0, f, _ => ⟨[], rfl, by simp [RL], by simp⟩
  | n + 1, f, h => by
    obtain ⟨l, hl, hR, hS⟩ := RL_flat n f (fun i hi => h i (by omega))
    obtain ⟨a, ha, hs⟩ := h n (by omega)
    refine ⟨l ++ [a], by simp [hl], ?_, fun x hx => (List.mem_append.1 hx).elim (hS x) (fun h => by rw [List.mem_singleton.1 h]; exact hs)⟩
    rw [List.range_succ]
    simp only [List.map_append, List.map_cons, List.map_nil, List.flatten_append, List.flatten_cons, List.flatten_nil, List.append_nil]
    exact RL.append hR (RL.single ha)
/-- a list cut into n parts of s each -/
theorem parts_flat (s : Nat) : ∀ (n : Nat) (l : List Value), n * s ≤ l.length → ((List.range n).map fun i => (l.drop (i * s)).take s).flatten = l.take (n * s)
  | 0, l, _ => by simp
  | n + 1, l, h => by
    have e : (n + 1) * s = n * s + s := Nat.succ_mul n s
    rw [List.range_succ]
    simp only [List.map_append, List.map_cons, List.map_nil, List.flatten_append, List.flatten_cons, List.flatten_nil, List.append_nil]
    rw [parts_flat s n l (by omega), e, List.take_add]
theorem rds_sl (ht : P.underlying t = some (.slice e)) (hT : TyOk P e k by_) (h0 : Nat.blt 0 k.sz = true) (hR : Rds P e k S) : Rds P t (Kd.sl k) (smL S) := fun H enc w base held fuel cs x h hb => by
  have h0 : 0 < k.sz := Nat.le_of_ble_eq_true h0
  rcases DataW.trod_slice ht h with ⟨rfl, rfl⟩ | ⟨a, len, cap, elems, rest, n, _, rfl, rfl, hbs, hl, hm, hlen, hel, _, _⟩
  · exact ⟨[], ⟨none, 0, rfl, by simp, by simp [LM], by simp, .inl rfl⟩, by simp, by simp⟩
  · rw [cellsOf_ty hT] at hel
    have hbulk : elems.length ≤ 1048576 := by
      have := length_le (elems.map (·.1))
      simp only [Rows.uptoBulk, List.length_map] at hb this
      omega
    have hparts : ∀ i, i < len → ∃ cs' y, w.cells? base (a.add (i * k.sz)) k.sz = some cs' ∧ DataW.trod enc P w base (fun _ => true) held n e cs' = some y ∧ Rows.uptoBulk y.1 ≤ 1048576 := fun i hi => by
      have h1 := hel i hi
      rw [List.getElem?_eq_getElem (by omega)] at h1
      obtain ⟨cs', h2, h3⟩ := Option.bind_eq_some_iff.1 h1
      refine ⟨cs', _, h2, h3, ?_⟩
      have := part_le (l := elems.map (·.1)) (d := (elems[i]'(by omega)).1) (List.mem_map.2 ⟨_, List.getElem_mem _, rfl⟩)
      simp only [Rows.uptoBulk] at hb
      omega
    rcases Nat.eq_zero_or_pos len with hz | hp
    · exact ⟨[], ⟨some a, cap, by simp [hz], by simp, by simp [LM], by simp, .inl rfl⟩, by simp, by simp⟩
    · obtain ⟨cs0, y0, hc0, _, _⟩ := hparts 0 hp
      rw [Nat.zero_mul, show a.add 0 = a by simp [Addr.add]] at hc0
      obtain ⟨hs, e', l, hg, _, _⟩ := ghost_cells hc0 h0
      have ea : a = ⟨a.block, a.off, none⟩ := by cases a; simp_all
      have key : ∀ i, i < len → a.off + i * k.sz + k.sz ≤ l.length ∧ w.cells? base (a.add (i * k.sz)) k.sz = some (((l.drop a.off).drop (i * k.sz)).take k.sz) := fun i hi => by
        obtain ⟨cs', y, hc, _, _⟩ := hparts i hi
        obtain ⟨_, e2, l2, hg2, hle, htk⟩ := ghost_cells hc h0
        rw [ea, add_lit] at hg2 hle htk
        simp only at hg2 hle htk
        rw [hg] at hg2
        cases hg2
        refine ⟨hle, ?_⟩
        rw [hc, List.drop_drop, ← htk]
      have hlast := (key (len - 1) (by omega)).1
      have hall : a.off + len * k.sz ≤ l.length := by
        have : len * k.sz = (len - 1) * k.sz + k.sz := by
          conv => lhs; rw [show len = (len - 1) + 1 by omega]
          exact Nat.succ_mul _ _
        omega
      obtain ⟨xs, hxl, hxR, hxS⟩ := RL_flat (S := S) (R := k.R (GhostW w)) len (fun i => ((l.drop a.off).drop (i * k.sz)).take k.sz) (fun i hi => by
        obtain ⟨cs', y, hc, ht', hb'⟩ := hparts i hi
        rw [(key i hi).2] at hc
        cases hc
        exact hR _ _ _ _ _ _ _ _ ht' hb')
      rw [parts_flat k.sz len (l.drop a.off) (by rw [List.length_drop]; omega)] at hxR
      refine ⟨xs, ⟨some a, cap, by rw [hxl], by omega, by simp only [LM]; omega, fun x hx => ?_, .inr ⟨a.block, e', l.take a.off, (l.drop a.off).take (len * k.sz), (l.drop a.off).drop (len * k.sz), ?_, ?_, hxR⟩⟩, by omega, hxS⟩
      · exact RL.all (p := k.wf) (fun _ _ => k.hwf) hxR x hx
      · rw [List.length_take, Nat.min_eq_left (by omega)]
        exact congrArg some ea
      · rw [hg, List.append_assoc, List.take_append_drop, List.take_append_drop]
theorem rds_arr {n by_' : Nat} (ht : P.underlying t = some (.array n e)) (hT : TyOk P e k by_) (hT' : TyOk P t (Kd.arr n k) by_') (hR : Rds P e k S) : Rds P t (Kd.arr n k) (smL S) := fun H enc w base held fuel cs x h hb => by
  obtain ⟨xs, m, _, rfl, hlen, hxl, hx⟩ := DataW.trod_array ht h
  rw [cellsOf_ty hT] at hx
  rw [cellsOf_ty hT'] at hlen
  have hlen : cs.length = n * k.sz := hlen
  obtain ⟨l, hl, hlR, hlS⟩ := RL_flat (S := S) (R := k.R (GhostW w)) n (fun i => (cs.drop (i * k.sz)).take k.sz) (fun i hi => by
    have h1 := hx i hi
    rw [List.getElem?_eq_getElem (by omega)] at h1
    refine hR _ _ _ _ _ _ _ _ h1 ?_
    have := part_le (l := xs.map (·.1)) (d := (xs[i]'(by omega)).1) (List.mem_map.2 ⟨_, List.getElem_mem _, rfl⟩)
    simp only [Rows.uptoBulk] at hb
    omega)
  rw [parts_flat k.sz n cs (by omega), List.take_of_length_le (by omega)] at hlR
  have hbulk : xs.length ≤ 1048576 := by
    have := length_le (xs.map (·.1))
    simp only [Rows.uptoBulk, List.length_map] at hb this
    omega
  exact ⟨l, ⟨hl, hlR⟩, by omega, hlS⟩
/-- the fields fs, read out of cs from off on, are of kind k -/
def RdsF (P : Program) (fs : List Field) (off : Nat) (k : Kd α) (S : α → Prop) : Prop := ∀ (H : Type) (enc : TypeId × Value → H) (w : World) (base : Nat) (held : Bool) (fuel : Nat) (cs : List Value),
  (∀ f ∈ fs, ∃ x : DataW H × List MemPlace, DataW.trod enc P w base (fun _ => true) held fuel f.type ((cs.drop f.offset).take (P.cellsOf f.type)) = some x ∧ Rows.uptoBulk x.1 ≤ 1048576) → ∃ a, k.R (GhostW w) a ((cs.drop off).take k.sz) ∧ S a
theorem rdsF_one {f : Field} {off : Nat} (hT : TyOk P f.type k by_) (ho : Nat.beq f.offset off = true) (hR : Rds P f.type k S) : RdsF P [f] off k S := fun H enc w base held fuel cs h => by
  obtain ⟨x, h1, h2⟩ := h f (.head _)
  rw [Nat.eq_of_beq_eq_true ho, cellsOf_ty hT] at h1
  exact hR _ _ _ _ _ _ _ _ h1 h2
theorem rdsF_cons {fs : List Field} {f : Field} {off : Nat} (hT : TyOk P f.type k by_) (ho : Nat.beq f.offset off = true) (hR : Rds P f.type k S) (hF : RdsF P fs (off + k.sz) k' S') : RdsF P (f :: fs) off (Kd.pr k k') (smP S S') := fun H enc w base held fuel cs h => by
  obtain ⟨b, hb, hbS⟩ := hF H enc w base held fuel cs (fun f hf => h f (.tail _ hf))
  obtain ⟨x, h1, h2⟩ := h f (.head _)
  rw [Nat.eq_of_beq_eq_true ho, cellsOf_ty hT] at h1
  obtain ⟨a, ha, haS⟩ := hR _ _ _ _ _ _ _ _ h1 h2
  refine ⟨(a, b), ⟨_, _, ?_, ha, hb⟩, haS, hbS⟩
  show (cs.drop off).take (k.sz + k'.sz) = _
  rw [List.take_add, List.drop_drop]
theorem rds_struct {fs : Array Field} (ht : P.underlying t = some (.struct fs)) (hT : TyOk P t k by_) (hF : RdsF P fs.toList 0 k S) : Rds P t k S := fun H enc w base held fuel cs x h hb => by
  obtain ⟨xs, n, _, rfl, hlen, hxl, hx⟩ := DataW.trod_struct ht h
  rw [cellsOf_ty hT] at hlen
  obtain ⟨a, ha, haS⟩ := hF H enc w base held n cs (fun f hf => by
    obtain ⟨i, hi, rfl⟩ := List.getElem_of_mem hf
    have hi' : i < fs.size := by simpa using hi
    have h1 := hx i fs[i] (by simp [hi'])
    rw [List.getElem?_eq_getElem (by omega)] at h1
    refine ⟨xs[i]'(by omega), by simpa using h1, ?_⟩
    have := part_le (l := xs.map (·.1)) (d := (xs[i]'(by omega)).1) (List.mem_map.2 ⟨_, List.getElem_mem _, rfl⟩)
    simp only [Rows.uptoBulk] at hb
    omega)
  rw [List.drop_zero, List.take_of_length_le (by omega)] at ha
  exact ⟨a, ha, haS⟩
/-- an argument, opened -/
theorem open_arg {H : Type} {enc : TypeId × Value → H} {w : World} {r : Reach} {b0 base : Nat} {held : Bool} {v : Value} {d : DataW H} {ps : List MemPlace} (hR : Rds P t k S) (hT : TyOk P t k by_)
    (hval : Value.okWide P w r b0 t v) (h : DataW.Trod enc P w base (fun _ => true) held t v d ps) (hb : Rows.uptoBulk d ≤ 1048576) : ∃ a, k.V (GhostW w) a v ∧ S a := by
  obtain ⟨fuel, h⟩ := h
  obtain ⟨a, ha, haS⟩ := hR _ _ _ _ _ _ _ _ h hb
  refine ⟨a, ⟨v.cells.toList, ha, ?_⟩, haS⟩
  obtain ⟨dd, hd, hagg⟩ := hT.desc
  unfold Value.okWide at hval
  rw [hd] at hval
  cases hk : k.agg with
  | true =>
    rw [hk] at hagg
    have : ∃ cs, v = .agg cs := by
      cases dd <;> first | (cases hagg; done) | (obtain ⟨cs, rfl, _⟩ := hval; exact ⟨cs, rfl⟩)
    obtain ⟨cs, rfl⟩ := this
    simp [Value.cells]
  | false =>
    have hlen := k.len ha
    rw [k.hs hk] at hlen
    have hna : ∀ cs, v ≠ .agg cs := fun cs e => by
      subst e
      rw [hk] at hagg
      cases dd <;> first | (cases hagg; done) | (simp [Cell.okWide, hd, Cell.ok] at hval)
    cases v <;> first | rfl | exact absurd rfl (hna _)
end
section
variable {H : Type} {enc : TypeId × Value → H} {P : Program}
theorem below_of {w w' : World} {K K' : Ghost} (h : Ext NX w K w' K') : Below w.heap.size w w' := ⟨h.os, h.tape, h.output, h.size, fun b hb => h.heap b hb (fun x => x)⟩
theorem trodAll_same {W W' : World} {sp : Nat → Bool} (hl : laidOutB P = true) (hb : Below W.heap.size W W') : ∀ {ts : List TypeId} {vs : List Value} {ds : List (DataW H)} {ps : List MemPlace},
    (ts.all fun t => P.readableRec t && decide (t < P.types.size)) = true → DataW.TrodAll enc P W 0 (fun _ => true) true ts vs ds ps → (∀ p ∈ ps, p.block < W.heap.size) → (∀ p ∈ ps, sp p.block = true) → DataW.TrodAll enc P W' 0 sp true ts vs ds ps
  | [], [], [], ps, _, h, _, _ => h
  | t :: ts, v :: vs, d :: ds, ps, hr, ⟨p, q, h1, h2, e⟩, hlt, hs => by
    subst e
    simp only [List.all_cons, Bool.and_eq_true, decide_eq_true_eq] at hr
    exact ⟨p, q, WideElems.Trod_stays hl hr.1.1 hr.1.2 h1 (fun x hx => hb.same (hlt x (List.mem_append.2 (.inl hx)))) (fun x hx => hs x (List.mem_append.2 (.inl hx))),
      trodAll_same hl hb (ts := ts) hr.2 h2 (fun x hx => hlt x (List.mem_append.2 (.inr hx))) (fun x hx => hs x (List.mem_append.2 (.inr hx))), rfl⟩
  | [], _ :: _, _, _, _, h, _, _ => h.elim
  | [], [], _ :: _, _, _, h, _, _ => h.elim
  | _ :: _, [], _, _, _, h, _, _ => h.elim
  | _ :: _, _ :: _, [], _, _, h, _, _ => h.elim
/-- the end of a law's call: true, and all that was there is as it was -/
theorem post_true {f : Func} {s : ChangeSpec} {apart fresh handsOn again : Bool} {W W' : World} {args : Array Value} {ds gs : List (DataW H)} {before : List MemPlace} {tb : TypeId}
    (hW : DataW.Whole enc P f.params.toList s.vars apart W args.toList ds gs before) (hl : laidOutB P = true) (hr : (f.params.toList.all fun t => P.readableRec t && decide (t < P.types.size)) = true)
    (hrt : f.resultTypes = #[tb]) (htb : P.underlying tb = some .bool) (hs : s.vars = []) (hv : (s.fn H (ds ++ gs)).vars = []) (hres : (s.fn H (ds ++ gs)).results = [.lit (.bool true)]) (hargs : (s.fn H (ds ++ gs)).args = ds)
    (hb : Below W.heap.size W W') : s.post enc P f apart fresh handsOn again W args (.bool true) W' := by
  have hlt : ∀ p ∈ before, p.block < W.heap.size := fun p hp => hW.lt p hp
  have hW' := hW
  obtain ⟨p, q, hA, hV, e, hz, hn⟩ := hW'
  rw [hs] at hV
  have hq : q = [] ∧ gs = [] := by
    cases gs with
    | nil => exact ⟨hV, rfl⟩
    | cons g r => exact hV.elim
  obtain ⟨rfl, rfl⟩ := hq
  rw [List.append_nil] at e
  subst e
  have ht : ∀ (b : Nat) (sp : Nat → Bool) (hd : Bool), DataW.TrodAll enc P W' b sp hd f.resultTypes.toList ((Value.bool true).resultList f.resultTypes.size) (s.fn H (ds ++ [])).results [] := fun b sp hd => by
    rw [hres, hrt]
    exact ⟨[], [], shut_bool htb _, rfl, rfl⟩
  have ha : ∀ sp : Nat → Bool, (∀ p ∈ before, sp p.block = true) → DataW.TrodAll enc P W' 0 sp true f.params.toList args.toList (s.fn H (ds ++ [])).args before := fun sp hsp => by
    rw [hargs]
    exact trodAll_same hl hb hr hA hlt hsp
  have hvs : ∀ sp : Nat → Bool, DataW.TrodVars enc P W' sp s.vars (s.fn H (ds ++ [])).vars [] := fun sp => by
    rw [hs, hv]
    rfl
  have hold : ∀ p ∈ before, (fun b => decide (b < W.heap.size)) p.block = true := fun p hp => by simpa using hlt p hp
  refine ⟨ds, [], before, [], before, [], hW, ht _ _ _, ha _ hold, hvs _, World.keptBut_mono (fun p hp => ⟨hp, ?_⟩) (hb.frame (· ∈ before)), fun _ => ?_⟩
  · exact Or.inr (by simpa using hp)
  · refine ⟨?_, _, _, ([] ++ before) ++ [], ⟨[] ++ before, [], trodAll_append (ha _ (fun _ _ => rfl)) (ht _ _ _), hvs _, rfl, ?_, ?_⟩, ?_⟩
    · exact ok_one hrt rfl (okWide_bool_mk htb _)
    · intro b off hp
      have hin : MemPlace.cell b off ∈ before := by simpa using hp
      rw [hb.frozen (hlt _ hin)]
      exact hz b off hin
    · intro hap
      simpa using hn hap
    · intro p hp _
      simpa using hp
end
end Go.Proofs.Ytmjjkpiglbpkhaa
