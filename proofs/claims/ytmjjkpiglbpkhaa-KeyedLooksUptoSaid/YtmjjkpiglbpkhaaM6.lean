/- S4, S5, E30, S6, S7, S8, S9. -/
import Derived.Test.YtmjjkpiglbpkhaaM5
import Derived.Test.YtmjjkpiglbpkhaaChecked
import Derived.Test.YtmjjkpiglbpkhaaM4
set_option linter.unusedVariables false
set_option maxRecDepth 100000
set_option maxHeartbeats 20000000
namespace Go.Proofs.Ytmjjkpiglbpkhaa
open Go Go.RowKit Go.Inc
noncomputable def qf3 : Ctr := ⟨[.v (.int .i64)], [.v (.int .i64)], none, fun a => (fun (a0_n : Int) => ((((half a0_n.toNat : Nat) : Int), ()), (()))) a.1⟩
noncomputable def qsU : Fx := ⟨seat, some bkT, fns, [], [], [], []⟩
def qkp (a0_n : Int) (Q : Int → Prop) : Prop :=
 (a0_n < (2 : Int) → Q (0 : Int)) ∧ (¬a0_n < (2 : Int) → ∃ (x0 : Int → Prop), ∃ (x1 : Int → Nat), x0 (1 : Int) ∧ ∀ (x2 : Int), x0 x2 → (Kd.int IntKind.i64).wf x2 → (x2 ≤ IntKind.i64.wrap ((IntKind.i64.wrap (a0_n - (1 : Int))).tdiv (2 : Int)) → x0 (IntKind.i64.wrap (x2 * (2 : Int))) ∧ x1 (IntKind.i64.wrap (x2 * (2 : Int))) < x1 x2) ∧ (¬x2 ≤ IntKind.i64.wrap ((IntKind.i64.wrap (a0_n - (1 : Int))).tdiv (2 : Int)) → Q x2))
theorem qtO {a0_n : Int} (w_0 : (Ty.kd (.int .i64)).wf a0_n) : qkp a0_n (fun o0 => o0 = ((half a0_n.toNat : Nat) : Int)) := by
 have hn1 : a0_n ≤ 9223372036854775807 := w_0.2
 unfold qkp
 refine ⟨fun h => ?_, fun h => ?_⟩
 ·rw [qhT (by omega)]
  rfl
 ·have e1 : IntKind.i64.wrap (a0_n - 1) = a0_n - 1 := qak (wf64 (by omega) (by omega))
  have e2 : (a0_n - 1).tdiv 2 = (a0_n - 1) / 2 := Int.tdiv_eq_ediv_of_nonneg (by omega)
  have e3 : IntKind.i64.wrap ((a0_n - 1) / 2) = (a0_n - 1) / 2 := qak (wf64 (by omega) (by omega))
  rw [e1, e2, e3]
  refine ⟨fun h => ∃ j p : Nat, p = 2 ^ j ∧ h = (p : Int) ∧ (p : Int) < a0_n, fun h => (a0_n - h).toNat, ⟨0, 1, rfl, rfl, by omega⟩, ?_⟩
  rintro x ⟨j, p, hp, rfl, hlt⟩ _
  have hp1 : 1 ≤ p := by rw [hp]; exact Nat.one_le_two_pow
  refine ⟨fun hle => ?_, fun hgt => ?_⟩
  ·have e4 : IntKind.i64.wrap ((p : Int) * 2) = ((2 * p : Nat) : Int) := by
    rw [qak (wf64 (by omega) (by omega))]
    omega
   rw [e4]
   exact ⟨⟨j + 1, 2 * p, by rw [hp, Nat.pow_succ]; omega, rfl, by omega⟩, by show (a0_n - ((2 * p : Nat) : Int)).toNat < (a0_n - (p : Int)).toNat; omega⟩
  ·have := qkZ (n := a0_n.toNat) (j := j) (by rw [← hp]; omega) (by rw [Nat.pow_succ, ← hp]; omega)
   show (p : Int) = ((half a0_n.toNat : Nat) : Int)
   rw [this, ← hp]
theorem qtN : (∀ a, qf3.pre a → PM.wfP qf3.pm a (fvc qsU 200 105 qf3 a (eqO qf3 a))) = (∀ a : Int × Unit, True → (Ty.kd (.int .i64)).wf a.1 → qkp a.1 (fun o0 => o0 = ((half (a.1).toNat : Nat) : Int))) := by kernel_rfl
theorem qnT : qf3.valid Try.prog 105 := qar (X := qsU) (qaH qai (fun b hb => by cases hb; exact qap) qaq trivial) 200 (qtN.mpr fun a hp w_0 => @qtO a.1 w_0)
noncomputable def qeH : Ctr := ⟨[.bk 146 true, .v (.sl (.arr 32 .byte))], [.v (.arr 32 .byte)], some (fun a => (fun (a0_k : qaj) (a1_l : List (List UInt8)) => (a1_l.length ≤ 1048576 ∧ qaJ a0_k : Prop)) a.1 a.2.1), fun a => (fun (a0_k : qaj) (a1_l : List (List UInt8)) => (((qal 2 a1_l), ()), ((qaB a0_k 2 a1_l), ()))) a.1 a.2.1⟩
noncomputable def qqi : Fx := ⟨seat, some bkT, fns, [(67, Of_C)], [], [], []⟩
def qjc (a0_k : qaj) (a1_l : List (List UInt8)) (Q : (List UInt8) → qaj → Prop) : Prop :=
 ∃ (x0 : List (List UInt8) → Int → Prop), ∃ (x1 : List (List UInt8) → Int → Nat), x0 ([] : List (List UInt8)) (0 : Int) ∧ ∀ (x2 : List (List UInt8)) (x3 : Int), x0 x2 x3 → Ty.byte.sl.kd.sl.wf x2 → (Kd.int IntKind.i64).wf x3 → (x3 < (a1_l.length : Int) → ((0 : Int) ≤ x3 ∧ x3 < (a1_l.length : Int)) ∧ (x2.length + (ix a1_l x3 :: ([] : List (List UInt8))).length) * (24 : Nat) ≤ (140737488355328 : Nat) ∧ x3 < (9223372036854775807 : Int) ∧ x0 (x2 ++ ix a1_l x3 :: ([] : List (List UInt8))) (x3 + (1 : Int)) ∧ x1 (x2 ++ ix a1_l x3 :: ([] : List (List UInt8))) (x3 + (1 : Int)) < x1 x2 x3) ∧ (¬x3 < (a1_l.length : Int) → ((1 : Nat) + qah x2 ≤ (140737488355328 : Nat) ∧ qaJ a0_k) ∧ ((Ty.arr (32 : Nat) Ty.byte).kd.wf (qal (2 : Int) x2) → Q (qal (2 : Int) x2) (qaB a0_k (2 : Int) x2)))
theorem qsG {a0_k : qaj} {a1_l : List (List UInt8)} (w_0 : (Ty.kd (.sl (.arr 32 .byte))).wf a1_l) (hp : a1_l.length ≤ 1048576 ∧ qaJ a0_k) : qjc a0_k a1_l (fun o0 o1 => o0 = (qal 2 a1_l) ∧ o1 = (qaB a0_k 2 a1_l)) := by
 unfold qjc
 refine ⟨fun parts i => ∃ j : Nat, i = (j : Int) ∧ j ≤ a1_l.length ∧ parts = a1_l.take j, fun _ i => a1_l.length - i.toNat, ⟨0, rfl, by omega, rfl⟩, ?_⟩
 rintro parts i ⟨j, rfl, hj, rfl⟩ _ _
 have hp1 := hp.1
 refine ⟨fun hlt => ⟨⟨by omega, hlt⟩, by simp only [List.length_take, List.length_cons, List.length_nil]; omega, by omega, ⟨j + 1, by omega, by omega, (qb9 hlt).symm⟩, by show a1_l.length - ((j : Int) + 1).toNat < a1_l.length - (j : Int).toNat; omega⟩, fun hge => ?_⟩
 have : j = a1_l.length := by omega
 subst this
 rw [List.take_length]
 have hr := qfu (l := a1_l) (fun x hx => (w_0.2 x hx).1)
 exact ⟨⟨by omega, hp.2⟩, fun _ => ⟨rfl, rfl⟩⟩
theorem qsF : (∀ a, qeH.pre a → PM.wfP qeH.pm a (fvc qqi 200 104 qeH a (eqO qeH a))) = (∀ a : qaj × (List (List UInt8)) × Unit, ((a.2.1).length ≤ 1048576 ∧ qaJ (a.1)) → (Ty.kd (.sl (.arr 32 .byte))).wf a.2.1 → qjc a.1 a.2.1 (fun o0 o1 => o0 = (qal 2 (a.2.1)) ∧ o1 = (qaB (a.1) 2 (a.2.1)))) := by kernel_rfl
theorem qqj : qeH.valid Try.prog 104 := qar (X := qqi) (qaH qai (fun b hb => by cases hb; exact qap) qaq ⟨Of_k, trivial⟩) 200 (qsF.mpr fun a hp w_0 => @qsG a.1 a.2.1 w_0 hp)
noncomputable def qlS : Ctr := ⟨[.bk 146 true, .v (.sl (.arr 32 .byte))], [.v (.arr 32 .byte)], some (fun a => (fun (a0_k : qaj) (a1_l : List (List UInt8)) => (a1_l.length ≤ 1048576 ∧ qaf a0_k a1_l.length : Prop)) a.1 a.2.1), fun a => (fun (a0_k : qaj) (a1_l : List (List UInt8)) => (((qaD a1_l), ()), ((qaX a0_k a1_l), ()))) a.1 a.2.1⟩
noncomputable def qfo (nn : Nat) : Ctr := ⟨[.bk 146 true, .v (.sl (.arr 32 .byte))], [.v (.arr 32 .byte)], some (fun a => (fun (a0_k : qaj) (a1_l : List (List UInt8)) => ((a1_l.length ≤ 1048576 ∧ qaf a0_k a1_l.length) ∧ a1_l.length < nn : Prop)) a.1 a.2.1), fun a => (fun (a0_k : qaj) (a1_l : List (List UInt8)) => (((qaD a1_l), ()), ((qaX a0_k a1_l), ()))) a.1 a.2.1⟩
noncomputable def qsZ (nn : Nat) : Fx := ⟨seat, some bkT, fns, [(58, qfo nn), (104, qeH), (105, qf3)], [], [], [(8, [0, 1], [.o 0 3, .o 1 3, .o 2 2, .o 3 2, .o 4 2, .o 5 2, .o 6 1, .o 7 1, .o 8 1, .o 9 1])]⟩
def qkC (nn : Nat) (a0_k : qaj) (a1_l : List (List UInt8)) (Q : (List UInt8) → qaj → Prop) : Prop :=
 ((a1_l.length : Int) = (0 : Int) → (([] : List (List UInt8)).length ≤ (1048576 : Nat) ∧ qaJ a0_k) ∧ ((Ty.arr (32 : Nat) Ty.byte).kd.wf (qal (2 : Int) ([] : List (List UInt8))) → Q (qal (2 : Int) ([] : List (List UInt8))) (qaB a0_k (2 : Int) ([] : List (List UInt8))))) ∧ (¬(a1_l.length : Int) = (0 : Int) → ((a1_l.length : Int) = (1 : Int) → ((0 : Int) ≤ (0 : Int) ∧ (0 : Int) < (a1_l.length : Int)) ∧ Q (ix a1_l (0 : Int)) a0_k) ∧ (¬(a1_l.length : Int) = (1 : Int) → (Ty.int IntKind.i64).kd.wf (half (a1_l.length : Int).toNat : Int) → ((0 : Int) ≤ (half (a1_l.length : Int).toNat : Int) ∧ (half (a1_l.length : Int).toNat : Int) ≤ (a1_l.length : Int)) ∧ (((List.take (half (a1_l.length : Int).toNat : Int).toNat a1_l).length ≤ (1048576 : Nat) ∧ qaf a0_k (List.take (half (a1_l.length : Int).toNat : Int).toNat a1_l).length) ∧ (List.take (half (a1_l.length : Int).toNat : Int).toNat a1_l).length < nn) ∧ ((Ty.arr (32 : Nat) Ty.byte).kd.wf (qaD (List.take (half (a1_l.length : Int).toNat : Int).toNat a1_l)) → ((0 : Int) ≤ (half (a1_l.length : Int).toNat : Int) ∧ (half (a1_l.length : Int).toNat : Int) ≤ (a1_l.length : Int)) ∧ (((List.drop (half (a1_l.length : Int).toNat : Int).toNat a1_l).length ≤ (1048576 : Nat) ∧ qaf (qaX a0_k (List.take (half (a1_l.length : Int).toNat : Int).toNat a1_l)) (List.drop (half (a1_l.length : Int).toNat : Int).toNat a1_l).length) ∧ (List.drop (half (a1_l.length : Int).toNat : Int).toNat a1_l).length < nn) ∧ ((Ty.arr (32 : Nat) Ty.byte).kd.wf (qaD (List.drop (half (a1_l.length : Int).toNat : Int).toNat a1_l)) → ((qaD (List.take (half (a1_l.length : Int).toNat : Int).toNat a1_l) :: qaD (List.drop (half (a1_l.length : Int).toNat : Int).toNat a1_l) :: ([] : List (List UInt8))).length ≤ (1048576 : Nat) ∧ qaJ (qaX (qaX a0_k (List.take (half (a1_l.length : Int).toNat : Int).toNat a1_l)) (List.drop (half (a1_l.length : Int).toNat : Int).toNat a1_l))) ∧ ((Ty.arr (32 : Nat) Ty.byte).kd.wf (qal (2 : Int) (qaD (List.take (half (a1_l.length : Int).toNat : Int).toNat a1_l) :: qaD (List.drop (half (a1_l.length : Int).toNat : Int).toNat a1_l) :: ([] : List (List UInt8)))) → Q (qal (2 : Int) (qaD (List.take (half (a1_l.length : Int).toNat : Int).toNat a1_l) :: qaD (List.drop (half (a1_l.length : Int).toNat : Int).toNat a1_l) :: ([] : List (List UInt8)))) (qaB (qaX (qaX a0_k (List.take (half (a1_l.length : Int).toNat : Int).toNat a1_l)) (List.drop (half (a1_l.length : Int).toNat : Int).toNat a1_l)) (2 : Int) (qaD (List.take (half (a1_l.length : Int).toNat : Int).toNat a1_l) :: qaD (List.drop (half (a1_l.length : Int).toNat : Int).toNat a1_l) :: ([] : List (List UInt8)))))))))
theorem que {nn : Nat} {a0_k : qaj} {a1_l : List (List UInt8)} (w_0 : (Ty.kd (.sl (.arr 32 .byte))).wf a1_l) (hp : (a1_l.length ≤ 1048576 ∧ qaf a0_k a1_l.length) ∧ a1_l.length < nn + 1) : qkC nn a0_k a1_l (fun o0 o1 => o0 = (qaD a1_l) ∧ o1 = (qaX a0_k a1_l)) := by
 unfold qkC
 simp only [Int.toNat_natCast]
 refine ⟨fun h => ⟨⟨by simp, hp.1.2.room⟩, fun _ => ?_⟩, fun h => ⟨fun h1 => ⟨⟨by omega, by omega⟩, ?_⟩, fun h1 _ => ?_⟩⟩
 ·have e : a1_l = [] := List.length_eq_zero_iff.1 (by omega)
  subst e
  rw [qhf, qbi]
  exact ⟨rfl, rfl⟩
 ·obtain ⟨x, rfl⟩ := List.length_eq_one_iff.1 (by omega : a1_l.length = 1)
  rw [qdL, qbY]
  exact ⟨rfl, rfl⟩
 ·have b2 : 2 ≤ a1_l.length := by omega
  have a1 := qaR b2
  have a2 := qa1 b2
  have hp1 := hp.1.1
  have hp2 := hp.2
  have l1 : (a1_l.take (half a1_l.length)).length = half a1_l.length := by rw [List.length_take]; omega
  have l2 : (a1_l.drop (half a1_l.length)).length = a1_l.length - half a1_l.length := List.length_drop
  have u1 : qaf a0_k (a1_l.take (half a1_l.length)).length := hp.1.2.le (by omega)
  have u2 : qaf (qaX a0_k (a1_l.take (half a1_l.length))) (a1_l.drop (half a1_l.length)).length := qaf.root _ (Nat.le_refl _) (by omega) (hp.1.2.le (by omega))
  have u3 := (qaf.root (n := 0) (l := a1_l.drop (half a1_l.length)) _ (Nat.le_refl _) (by omega) (u2.le (by omega))).room
  refine ⟨⟨by omega, by omega⟩, ⟨⟨by omega, u1⟩, by omega⟩, fun _ => ⟨⟨by omega, by omega⟩, ⟨⟨by omega, u2⟩, by omega⟩, fun _ => ⟨⟨by simp, u3⟩, fun _ => ?_⟩⟩⟩
  rw [qcu b2, qbG _ b2]
  exact ⟨rfl, rfl⟩
theorem qud (nn : Nat) : (∀ a, (qfo (nn + 1)).pre a → PM.wfP (qfo (nn + 1)).pm a (fvc (qsZ nn) 200 58 (qfo (nn + 1)) a (eqO (qfo (nn + 1)) a))) = (∀ a : qaj × (List (List UInt8)) × Unit, (((a.2.1).length ≤ 1048576 ∧ qaf (a.1) (a.2.1).length) ∧ (a.2.1).length < nn + 1) → (Ty.kd (.sl (.arr 32 .byte))).wf a.2.1 → qkC nn a.1 a.2.1 (fun o0 o1 => o0 = (qaD (a.2.1)) ∧ o1 = (qaX (a.1) (a.2.1)))) := by kernel_rfl
theorem qov : ∀ nn, (qfo nn).valid Try.prog 58
 | 0 => fun a hp => absurd (And.right hp) (Nat.not_lt_zero _)
 | nn + 1 => qar (X := qsZ nn) (qaH qai (fun b hb => by cases hb; exact qap) qaq ⟨qov nn, qqj, qnT, trivial⟩) 200 ((qud nn).mpr fun a hp w_0 => @que nn a.1 a.2.1 w_0 hp)
theorem qlT : qlS.valid Try.prog 58 := qhm qov (fun a hp => ⟨_, And.intro hp (Nat.lt_succ_self _)⟩)
noncomputable def qiv : Ctr := ⟨[.nil, .v (.sl (.arr 32 .byte))], [.v (.arr 32 .byte)], some (fun a => (fun (a1_l : List (List UInt8)) => (a1_l.length ≤ 1048576 : Prop)) a.2.1), fun a => (fun (a1_l : List (List UInt8)) => (((qaD a1_l), ()), (()))) a.2.1⟩
theorem qkB : qiv.valid Try.prog 58 :=
 qwI qlT (fun _ => rfl) (fun a θ θ' n n' K vs h => by
  obtain ⟨v0, vs, rfl, h0, h⟩ := h
  exact ⟨v0, _, rfl, SVal.of_rel (t := .sl (.arr 32 .byte)) (qdr (t := .sl (.arr 32 .byte)) h0 rfl), h⟩) (fun _ => rfl) (fun a hp => ⟨hp, fun y h => by cases h⟩) (fun a _ => rfl)
noncomputable def qdP : Ctr := ⟨[.v (.int .i64), .v (.int .i64)], [.v .bool], none, fun a => (fun (a0_n : Int) (a1_at : Int) => ((decide (0 ≤ a1_at ∧ a1_at < a0_n), ()), (()))) a.1 a.2.1⟩
noncomputable def qqb : Fx := ⟨seat, some bkT, fns, [], [], [], []⟩
def qjb (a0_n : Int) (a1_at : Int) (Q : Bool → Prop) : Prop :=
 ((0 : Int) ≤ a1_at → Q (decide (a1_at < a0_n))) ∧ (¬(0 : Int) ≤ a1_at → Q false)
theorem qsz {a0_n : Int} {a1_at : Int} (w_0 : (Ty.kd (.int .i64)).wf a0_n) (w_1 : (Ty.kd (.int .i64)).wf a1_at) : qjb a0_n a1_at (fun o0 => o0 = decide (0 ≤ a1_at ∧ a1_at < a0_n)) := by
 unfold qjb
 exact ⟨fun h => by simp [h], fun h => by simp [h]⟩
theorem qsy : (∀ a, qdP.pre a → PM.wfP qdP.pm a (fvc qqb 200 115 qdP a (eqO qdP a))) = (∀ a : Int × Int × Unit, True → (Ty.kd (.int .i64)).wf a.1 → (Ty.kd (.int .i64)).wf a.2.1 → qjb a.1 a.2.1 (fun o0 => o0 = decide (0 ≤ (a.2.1) ∧ (a.2.1) < (a.1)))) := by kernel_rfl
theorem qlp : qdP.valid Try.prog 115 := qar (X := qqb) (qaH qai (fun b hb => by cases hb; exact qap) qaq trivial) 200 (qsy.mpr fun a hp w_0 w_1 => @qsz a.1 a.2.1 w_0 w_1)
noncomputable def qdM : ICtr := ⟨fun xs => match xs with
 | [a0_n, a1_at] => (0 ≤ a1_at ∧ a1_at < a0_n : Prop)
 | _ => False, fun xs => match xs with
 | [a0_n, a1_at] => (qaA a0_n.toNat a1_at.toNat : List Int)
 | _ => []⟩
noncomputable def qp8 : Fx := ⟨seat, some bkT, fns, [(105, qf3)], [], [], [(7, [0], [.o 0 2, .o 1 2, .o 2 2, .o 3 3, .o 4 3, .o 5 3, .o 6 1, .z 7])]⟩
def qi9 (a0_n : Int) (a1_at : Int) : Prop :=
 ∃ (x0 : Nat → List Int → Prop), ∃ (x1 : List Int → Nat), x0 (0 : Nat) (a0_n :: a1_at :: ([] : List Int)) ∧ ∀ (x2 x3 : Nat) (x4 : Int), (Kd.int IntKind.i64).wf x4 → ∀ (x6 : Int), (Kd.int IntKind.i64).wf x6 → x0 x3 (x4 :: x6 :: ([] : List Int)) → ((1 : Int) < x4 → (Ty.int IntKind.i64).kd.wf (half x4.toNat : Int) → ((half x4.toNat : Int) ≤ x6 → (x2 = x2 ∧ (qaA a0_n.toNat a1_at.toNat)[x3]? = some (1 : Int)) ∧ x2 = x2 ∧ x0 (x3 + (1 : Nat)) (IntKind.i64.wrap (x4 - (half x4.toNat : Int)) :: IntKind.i64.wrap (x6 - (half x4.toNat : Int)) :: ([] : List Int)) ∧ x1 (IntKind.i64.wrap (x4 - (half x4.toNat : Int)) :: IntKind.i64.wrap (x6 - (half x4.toNat : Int)) :: ([] : List Int)) < x1 (x4 :: x6 :: ([] : List Int))) ∧ (¬(half x4.toNat : Int) ≤ x6 → (x2 = x2 ∧ (qaA a0_n.toNat a1_at.toNat)[x3]? = some (0 : Int)) ∧ x2 = x2 ∧ x0 (x3 + (1 : Nat)) ((half x4.toNat : Int) :: x6 :: ([] : List Int)) ∧ x1 ((half x4.toNat : Int) :: x6 :: ([] : List Int)) < x1 (x4 :: x6 :: ([] : List Int)))) ∧ (¬(1 : Int) < x4 → x3 = (qaA a0_n.toNat a1_at.toNat).length)
theorem qmJ {a0_n : Int} {a1_at : Int} (hp : 0 ≤ a1_at ∧ a1_at < a0_n) : (∀ x ∈ (qaA a0_n.toNat a1_at.toNat : List Int), (Kd.int .i64).wf x) ∧ qi9 a0_n a1_at := by
 refine ⟨fun x hx => ?_, ?_⟩
 ·rcases qfT _ (Nat.le_refl _) x hx with rfl | rfl <;> exact wf64 (by omega) (by omega)
 unfold qi9
 refine ⟨fun j ys => (∀ y ∈ ys, (Kd.int .i64).wf y) → sdI a0_n (qaA a0_n.toNat a1_at.toNat) j (ys.getD 0 0) (ys.getD 1 0), fun ys => (ys.getD 0 0).toNat, fun _ => ⟨hp.1, hp.2, Int.le_refl _, Nat.zero_le _, rfl⟩, ?_⟩
 intro x2 j n hn a ha hI
 have hI : sdI a0_n (qaA a0_n.toNat a1_at.toNat) j n a := hI (by
  intro y hy
  rcases List.mem_cons.1 hy with rfl | hy
  ·exact hn
  rcases List.mem_cons.1 hy with rfl | hy
  ·exact ha
  ·cases hy)
 have hn1 := hn.1
 have hn2 := hn.2
 have ha1 := ha.1
 have ha2 := ha.2
 refine ⟨fun hlt _ => ?_, fun hge => qu1 hI hge⟩
 obtain ⟨b1, b2, b3, b4, b5⟩ := qss hI hlt
 have c1 := hI.1
 have c2 := hI.2.1
 refine ⟨fun hle => ?_, fun hgt => ?_⟩
 ·obtain ⟨d1, d2⟩ := b4 hle
  have e1 : IntKind.i64.wrap (n - ((half n.toNat : Nat) : Int)) = n - ((half n.toNat : Nat) : Int) := qak (wf64 (by have : (IntKind.i64.min : Int) = -9223372036854775808 := rfl; omega) (by have : (IntKind.i64.max : Int) = 9223372036854775807 := rfl; omega))
  have e2 : IntKind.i64.wrap (a - ((half n.toNat : Nat) : Int)) = a - ((half n.toNat : Nat) : Int) := qak (wf64 (by omega) (by have : (IntKind.i64.max : Int) = 9223372036854775807 := rfl; omega))
  rw [e1, e2]
  refine ⟨⟨rfl, d1⟩, ?_⟩
  have g : x2 = x2 ∧ ((∀ y ∈ ([n - ((half n.toNat : Nat) : Int), a - ((half n.toNat : Nat) : Int)] : List Int), (Kd.int .i64).wf y) → sdI a0_n (qaA a0_n.toNat a1_at.toNat) (j + 1) (n - ((half n.toNat : Nat) : Int)) (a - ((half n.toNat : Nat) : Int))) ∧ (n - ((half n.toNat : Nat) : Int)).toNat < n.toNat := ⟨rfl, fun _ => d2, by omega⟩
  exact g
 ·obtain ⟨d1, d2⟩ := b5 hgt
  exact ⟨⟨rfl, d1⟩, rfl, fun _ => d2, by show ((half n.toNat : Nat) : Int).toNat < n.toNat; omega⟩
theorem qst (a0_n : Int) (a1_at : Int) : (itVC qp8 200 131 qdM [a0_n, a1_at]) = qi9 a0_n a1_at := by kernel_rfl
theorem qlm : qdM.valid Try.prog 131 := quK (X := qp8) (fuel := 200) (qaH qai (fun b hb => by cases hb; exact qap) qaq ⟨qnT, trivial⟩) fun xs hp => match xs, hp with
 | [a0_n, a1_at], hp => ⟨(qmJ hp).1, (qst a0_n a1_at).mpr (qmJ hp).2⟩
 | [], hp => hp.elim
 | [_], hp => hp.elim
 | _ :: _ :: _ :: _, hp => hp.elim
noncomputable def qfa : Ctr := ⟨[.v (.int .i64), .v (.int .i64)], [.v (.int .i64)], none, fun a => (fun (a0_n : Int) (a1_at : Int) => (((qcW a0_n a1_at), ()), (()))) a.1 a.2.1⟩
noncomputable def qnL : Fx := ⟨seat, some bkT, fns, [(115, qdP)], [117, 118, 130], [(3, [3], [])], []⟩
def qid (a0_n : Int) (a1_at : Int) (Q : Int → Prop) : Prop :=
 (¬decide ((0 : Int) ≤ a1_at ∧ a1_at < a0_n) = true → Q (0 : Int)) ∧ (decide ((0 : Int) ≤ a1_at ∧ a1_at < a0_n) = true → ((0 : Int) ≤ a1_at ∧ a1_at < a0_n) ∧ ∃ (x0 : Nat → List Int → Unit → Prop), x0 (0 : Nat) ([] : List Int) (Ty.hsl (3 : Nat) (Ty.int IntKind.i64)).kd.z ∧ (∀ (x1 : Nat) (x2 : Int), (qaA a0_n.toNat a1_at.toNat)[x1]? = some x2 → (Kd.int IntKind.i64).wf x2 → ∀ (x5 : List Int) (x6 : Unit), x0 x1 x5 x6 → (Ty.int IntKind.i64).kd.sl.wf x5 → (x5.length + (x2 :: ([] : List Int)).length) * (8 : Nat) ≤ (140737488355328 : Nat) ∧ x0 (x1 + (1 : Nat)) (x5 ++ x2 :: ([] : List Int)) x6) ∧ ∀ (x1 : List Int) (x2 : Unit), x0 (qaA a0_n.toNat a1_at.toNat).length x1 x2 → (Ty.int IntKind.i64).kd.sl.wf x1 → Q (x1.length : Int))
theorem qqK {a0_n : Int} {a1_at : Int} (w_0 : (Ty.kd (.int .i64)).wf a0_n) (w_1 : (Ty.kd (.int .i64)).wf a1_at) : qid a0_n a1_at (fun o0 => o0 = (qcW a0_n a1_at)) := by
 have hn1 : a0_n ≤ 9223372036854775807 := w_0.2
 unfold qid
 refine ⟨fun h => ?_, fun h => ?_⟩
 ·have h' : ¬ ((0 : Int) ≤ a1_at ∧ a1_at < a0_n) := fun hh => h (decide_eq_true hh)
  show (0 : Int) = qcW a0_n a1_at
  rw [qcW, if_neg h']
 ·have h' := of_decide_eq_true h
  refine ⟨h', fun j l _ => l = (qaA a0_n.toNat a1_at.toNat).take j, rfl, ?_, ?_⟩
  ·rintro j x hx _ l u rfl hw
   have hj := (List.getElem?_eq_some_iff.1 hx).1
   have hlen := qck 63 (n := a0_n.toNat) (a := a1_at.toNat) (by omega)
   refine ⟨by rw [List.length_take]; simp only [List.length_cons, List.length_nil]; omega, ?_⟩
   show List.take j _ ++ [x] = List.take (j + 1) _
   rw [List.take_add_one, hx]
   rfl
  ·rintro l u rfl _
   show ((List.take _ (qaA a0_n.toNat a1_at.toNat)).length : Int) = qcW a0_n a1_at
   rw [List.take_length, qcW, if_pos h']
theorem qqJ : (∀ a, qfa.pre a → PM.wfP qfa.pm a (fvcR qnL [(131, qdM)] 200 116 qfa a (eqO qfa a))) = (∀ a : Int × Int × Unit, True → (Ty.kd (.int .i64)).wf a.1 → (Ty.kd (.int .i64)).wf a.2.1 → qid a.1 a.2.1 (fun o0 => o0 = (qcW (a.1) (a.2.1)))) := by kernel_rfl
theorem qtE : qfa.valid Try.prog 116 := qkR (X := qnL) (qaH qai (fun b hb => by cases hb; exact qap) qaq ⟨qlp, trivial⟩) (its := [(131, qdM)]) ⟨qlm, trivial⟩ 200 (qqJ.mpr fun a hp w_0 w_1 => @qqK a.1 a.2.1 w_0 w_1)
noncomputable def qfn : Ctr := ⟨[.rw 24 (.arr 32 .byte) true], [], none, fun a => (fun (a0_s : List (List UInt8)) => ((()), (a0_s.reverse, ()))) a.1⟩
noncomputable def qou : Fx := ⟨seat, some bkT, fns, [], [], [(1, [0], [])], [(3, [0], [.o 0 2, .o 1 2, .o 2 3, .o 3 3, .o 4 2, .o 5 2, .o 6 2, .o 7 2, .o 8 2, .o 9 2, .o 10 2, .o 11 2, .o 12 2, .o 13 1, .o 14 3, .o 15 1])]⟩
def qiu (a0_s : List (List UInt8)) (Q : (List (List UInt8)) → Prop) : Prop :=
 ∃ (x0 : Int → Int → List (List UInt8) → Prop), ∃ (x1 : Int → Int → List (List UInt8) → Nat), x0 (0 : Int) (IntKind.i64.wrap ((a0_s.length : Int) - (1 : Int))) a0_s ∧ ∀ (x2 x3 : Int) (x4 : List (List UInt8)), x0 x2 x3 x4 → (Kd.int IntKind.i64).wf x2 → (Kd.int IntKind.i64).wf x3 → (Ty.arr (32 : Nat) Ty.byte).kd.sl.wf x4 → (x2 < x3 → ((0 : Int) ≤ x3 ∧ x3 < (x4.length : Int)) ∧ ((0 : Int) ≤ x2 ∧ x2 < (x4.length : Int)) ∧ ((0 : Int) ≤ x2 ∧ x2 < (x4.length : Int)) ∧ ((0 : Int) ≤ x3 ∧ x3 < ((x4.set x2.toNat (ix x4 x3)).length : Int)) ∧ x2 < (9223372036854775807 : Int) ∧ x0 (x2 + (1 : Int)) (IntKind.i64.wrap (x3 - (1 : Int))) ((x4.set x2.toNat (ix x4 x3)).set x3.toNat (ix x4 x2)) ∧ x1 (x2 + (1 : Int)) (IntKind.i64.wrap (x3 - (1 : Int))) ((x4.set x2.toNat (ix x4 x3)).set x3.toNat (ix x4 x2)) < x1 x2 x3 x4) ∧ (¬x2 < x3 → Q x4)
theorem qro {a0_s : List (List UInt8)} (w_0 : (Ty.kd (.sl (.arr 32 .byte))).wf a0_s) : qiu a0_s (fun o0 => o0 = a0_s.reverse) := by
 have hL : a0_s.length ≤ LM := w_0.1
 unfold LM at hL
 unfold qiu
 refine ⟨fun i j x => ∃ k : Nat, i = (k : Int) ∧ j = (a0_s.length : Int) - 1 - (k : Int) ∧ 2 * k ≤ a0_s.length + 1 ∧ x.length = a0_s.length ∧ ∀ t, t < a0_s.length → x[t]? = if t < k ∨ a0_s.length ≤ t + k then a0_s[a0_s.length - 1 - t]? else a0_s[t]?, fun i j _ => (j - i + 1).toNat,
  ⟨0, rfl, by rw [qak (wf64 (by omega) (by omega))]; omega, by omega, rfl, fun t ht => by rw [if_neg (by omega)]⟩, ?_⟩
 rintro i j x ⟨k, rfl, rfl, hk, hl, hx⟩ _ _ _
 refine ⟨fun hlt => ?_, fun hge => ?_⟩
 ·have hk1 : k < a0_s.length - 1 - k := by omega
  have ej : (a0_s.length : Int) - 1 - (k : Int) = ((a0_s.length - 1 - k : Nat) : Int) := by omega
  have ew : IntKind.i64.wrap ((a0_s.length : Int) - 1 - (k : Int) - 1) = (a0_s.length : Int) - 1 - ((k + 1 : Nat) : Int) := by
   rw [qak (wf64 (by omega) (by omega))]
   omega
  rw [ew, ej]
  simp only [Int.toNat_natCast]
  have hxk := hx k (by omega)
  rw [if_neg (by omega)] at hxk
  have hxj := hx (a0_s.length - 1 - k) (by omega)
  rw [if_neg (by omega)] at hxj
  have i0 : some (ix x (k : Int)) = a0_s[k]? := by rw [ixN (by omega), ← List.getElem?_eq_getElem, hxk]
  have i1 : some (ix x ((a0_s.length - 1 - k : Nat) : Int)) = a0_s[a0_s.length - 1 - k]? := by rw [ixN (by omega), ← List.getElem?_eq_getElem, hxj]
  refine ⟨⟨by omega, by omega⟩, ⟨by omega, by omega⟩, ⟨by omega, by omega⟩, ⟨by omega, by rw [List.length_set]; omega⟩, by omega, ⟨k + 1, by omega, rfl, by omega, by rw [List.length_set, List.length_set, hl], fun t ht => ?_⟩, ?_⟩
  ·by_cases t1 : a0_s.length - 1 - k = t
   ·subst t1
    rw [List.getElem?_set_self (by rw [List.length_set]; omega), i0, if_pos (by omega)]
    congr 1
    omega
   ·rw [List.getElem?_set_ne t1]
    by_cases t2 : k = t
    ·subst t2
     rw [List.getElem?_set_self (by omega), i1, if_pos (by omega)]
    ·rw [List.getElem?_set_ne t2, hx t ht]
     have : (t < k ∨ a0_s.length ≤ t + k) ↔ (t < k + 1 ∨ a0_s.length ≤ t + (k + 1)) := by omega
     simp only [this]
  ·show ((a0_s.length : Int) - 1 - ((k + 1 : Nat) : Int) - ((k : Int) + 1) + 1).toNat < (((a0_s.length - 1 - k : Nat) : Int) - (k : Int) + 1).toNat
   omega
 ·show x = a0_s.reverse
  apply List.ext_getElem?
  intro t
  rcases Nat.lt_or_ge t a0_s.length with ht | ht
  ·rw [hx t ht, List.getElem?_reverse ht]
   split
   ·rfl
   ·have : t = a0_s.length - 1 - t := by omega
    exact congrArg (fun q => a0_s[q]?) this
  ·rw [List.getElem?_eq_none (by omega), List.getElem?_eq_none (by rw [List.length_reverse]; omega)]
theorem qrn : (∀ a, qfn.pre a → PM.wfP qfn.pm a (fvc qou 200 119 qfn a (eqO qfn a))) = (∀ a : (List (List UInt8)) × Unit, True → (Ty.kd (.sl (.arr 32 .byte))).wf a.1 → qiu a.1 (fun o0 => o0 = (a.1).reverse)) := by kernel_rfl
theorem quc : qfn.valid Try.prog 119 := qar (X := qou) (qaH qai (fun b hb => by cases hb; exact qap) qaq trivial) 200 (qrn.mpr fun a hp w_0 => @qro a.1 w_0)
noncomputable def qff : Ctr := ⟨[.nil, .v (.sl (.arr 32 .byte)), .v (.int .i64)], [.rw 24 (.arr 32 .byte)], some (fun a => (fun (a1_l : List (List UInt8)) (a2_at : Int) => (a1_l.length ≤ 1048576 : Prop)) a.2.1 a.2.2.1), fun a => (fun (a1_l : List (List UInt8)) (a2_at : Int) => (((qbR a1_l a2_at), ()), (()))) a.2.1 a.2.2.1⟩
noncomputable def qnZ : Fx := ⟨{ seat with rws := [24] }, some bkT, fns, [(115, qdP), (105, qf3), (58, qiv), (58, qlS), (119, qfn)], [118], [(6, [2, 4], [])], [(8, [4, 7], [.o 0 2, .o 1 2, .o 2 2, .o 3 2, .o 4 2, .o 8 3, .o 9 3, .o 10 3, .o 5 0, .o 6 0, .o 7 1, .o 11 1, .z 12]), (9, [4, 7], [.o 0 2, .o 1 2, .o 2 2, .o 3 2, .o 4 2, .o 8 3, .o 9 3, .o 10 3, .o 5 0, .o 6 0, .o 7 1, .o 11 1, .z 12])]⟩
def qii (a1_l : List (List UInt8)) (a2_at : Int) (Q : (List (List UInt8)) → Prop) : Prop :=
 (¬decide ((0 : Int) ≤ a2_at ∧ a2_at < (a1_l.length : Int)) = true → Q ([] : List (List UInt8))) ∧ (decide ((0 : Int) ≤ a2_at ∧ a2_at < (a1_l.length : Int)) = true → ((0 : Int) ≤ a2_at ∧ a2_at < (a1_l.length : Int)) ∧ ∃ (x0 : Nat → List (List UInt8) → List (List UInt8) → Unit → Prop), x0 (0 : Nat) a1_l ([] : List (List UInt8)) (Ty.hsl (24 : Nat) (Ty.arr (32 : Nat) Ty.byte)).kd.z ∧ (∀ (x1 : Nat) (x2 : Int), (qaA (a1_l.length : Int).toNat a2_at.toNat)[x1]? = some x2 → (Kd.int IntKind.i64).wf x2 → ∀ (x5 x6 : List (List UInt8)) (x7 : Unit), x0 x1 x5 x6 x7 → (Ty.arr (32 : Nat) Ty.byte).sl.kd.wf x5 → (Ty.arr (32 : Nat) Ty.byte).kd.sl.wf x6 → (Ty.int IntKind.i64).kd.wf (half (x5.length : Int).toNat : Int) → (x2 = (0 : Int) → ((0 : Int) ≤ (half (x5.length : Int).toNat : Int) ∧ (half (x5.length : Int).toNat : Int) ≤ (x5.length : Int)) ∧ ((0 : Int) ≤ (half (x5.length : Int).toNat : Int) ∧ (half (x5.length : Int).toNat : Int) ≤ (x5.length : Int)) ∧ (List.drop (half (x5.length : Int).toNat : Int).toNat x5).length ≤ (1048576 : Nat) ∧ ((Ty.arr (32 : Nat) Ty.byte).kd.wf (qaD (List.drop (half (x5.length : Int).toNat : Int).toNat x5)) → (x6.length + (qaD (List.drop (half (x5.length : Int).toNat : Int).toNat x5) :: ([] : List (List UInt8))).length) * (32 : Nat) ≤ (140737488355328 : Nat) ∧ x0 (x1 + (1 : Nat)) (List.take (half (x5.length : Int).toNat : Int).toNat x5) (x6 ++ qaD (List.drop (half (x5.length : Int).toNat : Int).toNat x5) :: ([] : List (List UInt8))) x7)) ∧ (¬x2 = (0 : Int) → ((0 : Int) ≤ (half (x5.length : Int).toNat : Int) ∧ (half (x5.length : Int).toNat : Int) ≤ (x5.length : Int)) ∧ ((0 : Int) ≤ (half (x5.length : Int).toNat : Int) ∧ (half (x5.length : Int).toNat : Int) ≤ (x5.length : Int)) ∧ (List.take (half (x5.length : Int).toNat : Int).toNat x5).length ≤ (1048576 : Nat) ∧ ((Ty.arr (32 : Nat) Ty.byte).kd.wf (qaD (List.take (half (x5.length : Int).toNat : Int).toNat x5)) → (x6.length + (qaD (List.take (half (x5.length : Int).toNat : Int).toNat x5) :: ([] : List (List UInt8))).length) * (32 : Nat) ≤ (140737488355328 : Nat) ∧ x0 (x1 + (1 : Nat)) (List.drop (half (x5.length : Int).toNat : Int).toNat x5) (x6 ++ qaD (List.take (half (x5.length : Int).toNat : Int).toNat x5) :: ([] : List (List UInt8))) x7))) ∧ ∀ (x1 x2 : List (List UInt8)) (x3 : Unit), x0 (qaA (a1_l.length : Int).toNat a2_at.toNat).length x1 x2 x3 → (Ty.arr (32 : Nat) Ty.byte).sl.kd.wf x1 → (Ty.arr (32 : Nat) Ty.byte).kd.sl.wf x2 → Q x2.reverse)
theorem qqV {a1_l : List (List UInt8)} {a2_at : Int} (w_0 : (Ty.kd (.sl (.arr 32 .byte))).wf a1_l) (w_1 : (Ty.kd (.int .i64)).wf a2_at) (hp : a1_l.length ≤ 1048576) : qii a1_l a2_at (fun o0 => o0 = (qbR a1_l a2_at)) := by
 unfold qii
 simp only [Int.toNat_natCast]
 refine ⟨fun h => ?_, fun h => ⟨of_decide_eq_true h, ?_⟩⟩
 ·have h' : ¬ ((0 : Int) ≤ a2_at ∧ a2_at < (a1_l.length : Int)) := fun hh => h (decide_eq_true hh)
  show [] = qbR a1_l a2_at
  rw [qbR, if_neg h']
 have h' := of_decide_eq_true h
 have hS := qck 20 (n := a1_l.length) (a := a2_at.toNat) (by omega)
 have ht := qdu _ (l := a1_l) (a := a2_at.toNat) (Nat.le_refl _)
 generalize hL : qaA a1_l.length a2_at.toNat = L at hS ht ⊢
 refine ⟨fun j l out _ => ∃ a : Nat, a < l.length ∧ l.length ≤ a1_l.length ∧ out.length = j ∧ out ++ topL l a = topL a1_l a2_at.toNat ∧ L.drop j = qaA l.length a ∧ j ≤ L.length, ⟨a2_at.toNat, by omega, Nat.le_refl _, rfl, rfl, hL.symm, Nat.zero_le _⟩, ?_, ?_⟩
 ·rintro j x hx _ l out u ⟨a, h1, h2, h3, h4, h5, h6⟩ _ _ _
  obtain ⟨hj, hxe⟩ := List.getElem?_eq_some_iff.1 hx
  rw [List.drop_eq_getElem_cons hj, hxe] at h5
  have hl : 1 < l.length := by
   apply Classical.byContradiction
   intro hn
   rw [qaU hn] at h5
   cases h5
  have a1 := qaR (n := l.length) (by omega)
  have a2 := qa1 (n := l.length) (by omega)
  have l1 : (l.take (half l.length)).length = half l.length := by rw [List.length_take]; omega
  have l2 : (l.drop (half l.length)).length = l.length - half l.length := List.length_drop
  rcases Nat.lt_or_ge a (half l.length) with ha | ha
  ·rw [qbe hl ha] at h5
   obtain ⟨h7, h8⟩ := List.cons.inj h5
   rw [qe9 hl ha] at h4
   refine ⟨fun _ => ⟨⟨by omega, by omega⟩, ⟨by omega, by omega⟩, by omega, fun _ => ⟨by simp only [List.length_cons, List.length_nil]; omega, ⟨a, by omega, by omega, by simp [h3], by rw [← h4]; simp, by rw [l1]; exact h8, hj⟩⟩⟩, fun hn => absurd h7 hn⟩
  ·rw [qa3 hl ha] at h5
   obtain ⟨h7, h8⟩ := List.cons.inj h5
   rw [qeh hl ha] at h4
   refine ⟨fun hn => absurd (h7.symm.trans hn) (by decide), fun _ => ⟨⟨by omega, by omega⟩, ⟨by omega, by omega⟩, by omega, fun _ => ⟨by simp only [List.length_cons, List.length_nil]; omega, ⟨a - half l.length, by omega, by omega, by simp [h3], by rw [← h4]; simp, by rw [l2]; exact h8, hj⟩⟩⟩⟩
 ·rintro l out u ⟨a, h1, h2, h3, h4, h5, h6⟩ _ _
  rw [List.drop_length] at h5
  rw [qe8 (qfU h5.symm), List.append_nil] at h4
  show out.reverse = qbR a1_l a2_at
  rw [qbR, if_pos h', h4]
theorem qqU : (∀ a, qff.pre a → PM.wfP qff.pm a (fvcR qnZ [(131, qdM)] 200 84 qff a (eqO qff a))) = (∀ a : Unit × (List (List UInt8)) × Int × Unit, ((a.2.1).length ≤ 1048576) → (Ty.kd (.sl (.arr 32 .byte))).wf a.2.1 → (Ty.kd (.int .i64)).wf a.2.2.1 → qii a.2.1 a.2.2.1 (fun o0 => o0 = (qbR (a.2.1) (a.2.2.1)))) := by kernel_rfl
theorem qn0 : qff.valid Try.prog 84 := qkR (X := qnZ) (qaH (qai.rows [24]) (fun b hb => by cases hb; exact qap) qaq ⟨qlp, qnT, qkB, qlT, quc, trivial⟩) (its := [(131, qdM)]) ⟨qlm, trivial⟩ 200 (qqU.mpr fun a hp w_0 w_1 => @qqV a.2.1 a.2.2.1 w_0 w_1 hp)
noncomputable def qnY : Ctr := ⟨[.nil, .v (.sl (.arr 32 .byte)), .v (.int .i64)], [.ow 24 (.arr 32 .byte)], some (fun a => (fun (a1_l : List (List UInt8)) (a2_at : Int) => (a1_l.length ≤ 1048576 : Prop)) a.2.1 a.2.2.1), fun a => (fun (a1_l : List (List UInt8)) (a2_at : Int) => (((qbR a1_l a2_at), ()), (()))) a.2.1 a.2.2.1⟩
theorem qtT : qnY.valid Try.prog 84 := qmz qn0
noncomputable def qhF : Ctr := ⟨[.bk 146 true, .v (.int .i64), .v (.int .i64), .v (.arr 32 .byte), .v (.sl (.arr 32 .byte))], [.v (.arr 32 .byte), .v (.int .i64)], some (fun a => (fun (a0_k : qaj) (a1_n : Int) (a2_at : Int) (a3_leaf : List UInt8) (a4_path : List (List UInt8)) => (a4_path.length ≤ 1048576 ∧ qaf a0_k a4_path.length : Prop)) a.1 a.2.1 a.2.2.1 a.2.2.2.1 a.2.2.2.2.1), fun a => (fun (a0_k : qaj) (a1_n : Int) (a2_at : Int) (a3_leaf : List UInt8) (a4_path : List (List UInt8)) => (((qaG a1_n a2_at a3_leaf a4_path), (qhw a1_n a2_at a4_path), ()), ((leadK a0_k a1_n a2_at a3_leaf a4_path), ()))) a.1 a.2.1 a.2.2.1 a.2.2.2.1 a.2.2.2.2.1⟩
noncomputable def qsV : Fx := ⟨seat, some bkT, fns, [(115, qdP), (116, qfa), (104, qeH)], [117, 118, 130], [(3, [6], []), (5, [0, 1], [])], []⟩
def qkr (a0_k : qaj) (a1_n : Int) (a2_at : Int) (a3_leaf : List UInt8) (a4_path : List (List UInt8)) (Q : (List UInt8) → Int → qaj → Prop) : Prop :=
 (¬decide ((0 : Int) ≤ a2_at ∧ a2_at < a1_n) = true → Q (List.replicate (32 : Nat) Ty.byte.kd.z) (10 : Int) a0_k) ∧ (decide ((0 : Int) ≤ a2_at ∧ a2_at < a1_n) = true → (Ty.int IntKind.i64).kd.wf (qcW a1_n a2_at) → ((a4_path.length : Int) ≠ qcW a1_n a2_at → Q (List.replicate (32 : Nat) Ty.byte.kd.z) (10 : Int) a0_k) ∧ (¬(a4_path.length : Int) ≠ qcW a1_n a2_at → ((0 : Int) ≤ a2_at ∧ a2_at < a1_n) ∧ ∃ (x0 : Nat → List Int → Unit → Prop), x0 (0 : Nat) ([] : List Int) (Ty.hsl (3 : Nat) (Ty.int IntKind.i64)).kd.z ∧ (∀ (x1 : Nat) (x2 : Int), (qaA a1_n.toNat a2_at.toNat)[x1]? = some x2 → (Kd.int IntKind.i64).wf x2 → ∀ (x5 : List Int) (x6 : Unit), x0 x1 x5 x6 → (Ty.int IntKind.i64).kd.sl.wf x5 → (x5.length + (x2 :: ([] : List Int)).length) * (8 : Nat) ≤ (140737488355328 : Nat) ∧ x0 (x1 + (1 : Nat)) (x5 ++ x2 :: ([] : List Int)) x6) ∧ ∀ (x1 : List Int) (x2 : Unit), x0 (qaA a1_n.toNat a2_at.toNat).length x1 x2 → (Ty.int IntKind.i64).kd.sl.wf x1 → ∃ (x5 : Int → qaj → List UInt8 → Prop), ∃ (x6 : Int → qaj → List UInt8 → Nat), x5 (0 : Int) a0_k a3_leaf ∧ ∀ (x7 : Int) (x8 : qaj) (x9 : List UInt8), x5 x7 x8 x9 → (Kd.int IntKind.i64).wf x7 → (Ty.arr (32 : Nat) Ty.byte).kd.wf x9 → (x7 < (a4_path.length : Int) → ((0 : Int) ≤ x7 ∧ x7 < (a4_path.length : Int)) ∧ ((0 : Int) ≤ IntKind.i64.wrap (IntKind.i64.wrap ((x1.length : Int) - (1 : Int)) - x7) ∧ IntKind.i64.wrap (IntKind.i64.wrap ((x1.length : Int) - (1 : Int)) - x7) < (x1.length : Int)) ∧ (ix x1 (IntKind.i64.wrap (IntKind.i64.wrap ((x1.length : Int) - (1 : Int)) - x7)) = (0 : Int) → ((x9 :: ix a4_path x7 :: ([] : List (List UInt8))).length ≤ (1048576 : Nat) ∧ qaJ x8) ∧ ((Ty.arr (32 : Nat) Ty.byte).kd.wf (qal (2 : Int) (x9 :: ix a4_path x7 :: ([] : List (List UInt8)))) → x7 < (9223372036854775807 : Int) ∧ x5 (x7 + (1 : Int)) (qaB x8 (2 : Int) (x9 :: ix a4_path x7 :: ([] : List (List UInt8)))) (qal (2 : Int) (x9 :: ix a4_path x7 :: ([] : List (List UInt8)))) ∧ x6 (x7 + (1 : Int)) (qaB x8 (2 : Int) (x9 :: ix a4_path x7 :: ([] : List (List UInt8)))) (qal (2 : Int) (x9 :: ix a4_path x7 :: ([] : List (List UInt8)))) < x6 x7 x8 x9)) ∧ (¬ix x1 (IntKind.i64.wrap (IntKind.i64.wrap ((x1.length : Int) - (1 : Int)) - x7)) = (0 : Int) → ((ix a4_path x7 :: x9 :: ([] : List (List UInt8))).length ≤ (1048576 : Nat) ∧ qaJ x8) ∧ ((Ty.arr (32 : Nat) Ty.byte).kd.wf (qal (2 : Int) (ix a4_path x7 :: x9 :: ([] : List (List UInt8)))) → x7 < (9223372036854775807 : Int) ∧ x5 (x7 + (1 : Int)) (qaB x8 (2 : Int) (ix a4_path x7 :: x9 :: ([] : List (List UInt8)))) (qal (2 : Int) (ix a4_path x7 :: x9 :: ([] : List (List UInt8)))) ∧ x6 (x7 + (1 : Int)) (qaB x8 (2 : Int) (ix a4_path x7 :: x9 :: ([] : List (List UInt8)))) (qal (2 : Int) (ix a4_path x7 :: x9 :: ([] : List (List UInt8)))) < x6 x7 x8 x9))) ∧ (¬x7 < (a4_path.length : Int) → Q x9 (0 : Int) x8)))
theorem qtR {a0_k : qaj} {a1_n : Int} {a2_at : Int} {a3_leaf : List UInt8} {a4_path : List (List UInt8)} (w_0 : (Ty.kd (.int .i64)).wf a1_n) (w_1 : (Ty.kd (.int .i64)).wf a2_at) (w_2 : (Ty.kd (.arr 32 .byte)).wf a3_leaf) (w_3 : (Ty.kd (.sl (.arr 32 .byte))).wf a4_path) (hp : a4_path.length ≤ 1048576 ∧ qaf a0_k a4_path.length) : qkr a0_k a1_n a2_at a3_leaf a4_path (fun o0 o1 o2 => o0 = (qaG a1_n a2_at a3_leaf a4_path) ∧ o1 = (qhw a1_n a2_at a4_path) ∧ o2 = (leadK a0_k a1_n a2_at a3_leaf a4_path)) := by
 have hn1 : a1_n ≤ 9223372036854775807 := w_0.2
 have bad : qaM a1_n a2_at a4_path = false → List.replicate (32 : Nat) Ty.byte.kd.z = qaG a1_n a2_at a3_leaf a4_path ∧ (10 : Int) = qhw a1_n a2_at a4_path ∧ a0_k = leadK a0_k a1_n a2_at a3_leaf a4_path := fun h => by
  unfold qaG qhw leadK
  rw [h]
  exact ⟨rfl, rfl, rfl⟩
 unfold qkr
 refine ⟨fun h => bad (decide_eq_false fun hh => h (decide_eq_true hh.1)), fun h _ => ?_⟩
 have h' := of_decide_eq_true h
 have hd : qcW a1_n a2_at = ((qaA a1_n.toNat a2_at.toNat).length : Int) := by unfold qcW; rw [if_pos h']
 refine ⟨fun hne => bad (decide_eq_false fun hh => hne (by rw [hd, hh.2])), fun hlen => ?_⟩
 have hP : a4_path.length = (qaA a1_n.toNat a2_at.toNat).length := by
  have : (a4_path.length : Int) = qcW a1_n a2_at := Classical.byContradiction hlen
  omega
 have hb : qaM a1_n a2_at a4_path = true := decide_eq_true ⟨h', hP⟩
 have hS := qck 63 (n := a1_n.toNat) (a := a2_at.toNat) (by omega)
 refine ⟨h', fun j l _ => l = (qaA a1_n.toNat a2_at.toNat).take j, rfl, ?_, ?_⟩
 ·rintro j x hx _ l u rfl hw
  have hj := (List.getElem?_eq_some_iff.1 hx).1
  refine ⟨by rw [List.length_take]; simp only [List.length_cons, List.length_nil]; omega, ?_⟩
  show List.take j _ ++ [x] = List.take (j + 1) _
  rw [List.take_add_one, hx]
  rfl
 ·rintro l u rfl _
  rw [List.take_length]
  unfold qaG qhw leadK
  rw [hb, if_pos rfl, if_pos rfl, if_pos rfl]
  generalize qaA a1_n.toNat a2_at.toNat = S at hP hS ⊢
  refine ⟨fun i x s => ∃ j : Nat, i = (j : Int) ∧ j ≤ a4_path.length ∧ qaf x (a4_path.length - j) ∧ qcX (S.reverse.drop j) (a4_path.drop j) s = qcX S.reverse a4_path a3_leaf ∧ foldK (S.reverse.drop j) (a4_path.drop j) s x = foldK S.reverse a4_path a3_leaf a0_k, fun i _ _ => ((a4_path.length : Int) - i).toNat, ⟨0, rfl, Nat.zero_le _, hp.2, rfl, rfl⟩, ?_⟩
  rintro i x s ⟨j, rfl, hj, hu, e1, e2⟩ _ _
  refine ⟨fun hlt => ?_, fun hge => ?_⟩
  ·have hj1 : j < a4_path.length := by omega
   have hr : j < S.reverse.length := by rw [List.length_reverse]; omega
   have ew : IntKind.i64.wrap (IntKind.i64.wrap ((S.length : Int) - 1) - (j : Int)) = ((S.length - 1 - j : Nat) : Int) := by
    rw [qak (a := (S.length : Int) - 1) (wf64 (by omega) (by omega)), qak (wf64 (by omega) (by omega))]
    omega
   have ev : ix S ((S.length - 1 - j : Nat) : Int) = S.reverse[j] := by rw [ixN (by omega), List.getElem_reverse]
   rw [List.drop_eq_getElem_cons hr, List.drop_eq_getElem_cons hj1] at e1 e2
   rw [ew, ev, ixN hj1]
   simp only [qcX, foldK] at e1 e2
   have hu' : qaf x ((a4_path.length - (j + 1)) + 1) := hu.le (by omega)
   refine ⟨⟨by omega, hlt⟩, ⟨by omega, by omega⟩, fun h0 => ?_, fun h0 => ?_⟩
   ·rw [if_pos h0] at e1 e2
    rw [if_pos h0] at e2
    exact ⟨⟨by simp, hu.room⟩, fun _ => ⟨by omega, ⟨j + 1, by omega, hj1, hu'.of _ _, e1, e2⟩, by show ((a4_path.length : Int) - ((j : Int) + 1)).toNat < ((a4_path.length : Int) - (j : Int)).toNat; omega⟩⟩
   ·rw [if_neg h0] at e1 e2
    rw [if_neg h0] at e2
    exact ⟨⟨by simp, hu.room⟩, fun _ => ⟨by omega, ⟨j + 1, by omega, hj1, hu'.of _ _, e1, e2⟩, by show ((a4_path.length : Int) - ((j : Int) + 1)).toNat < ((a4_path.length : Int) - (j : Int)).toNat; omega⟩⟩
  ·have hj1 : j = a4_path.length := by omega
   rw [hj1, List.drop_length] at e1 e2
   have er : S.reverse.drop a4_path.length = [] := List.drop_eq_nil_of_le (by rw [List.length_reverse]; omega)
   rw [er] at e1 e2
   exact ⟨e1, rfl, e2⟩
theorem qtQ : (∀ a, qhF.pre a → PM.wfP qhF.pm a (fvcR qsV [(131, qdM)] 200 78 qhF a (eqO qhF a))) = (∀ a : qaj × Int × Int × (List UInt8) × (List (List UInt8)) × Unit, ((a.2.2.2.2.1).length ≤ 1048576 ∧ qaf (a.1) (a.2.2.2.2.1).length) → (Ty.kd (.int .i64)).wf a.2.1 → (Ty.kd (.int .i64)).wf a.2.2.1 → (Ty.kd (.arr 32 .byte)).wf a.2.2.2.1 → (Ty.kd (.sl (.arr 32 .byte))).wf a.2.2.2.2.1 → qkr a.1 a.2.1 a.2.2.1 a.2.2.2.1 a.2.2.2.2.1 (fun o0 o1 o2 => o0 = (qaG (a.2.1) (a.2.2.1) (a.2.2.2.1) (a.2.2.2.2.1)) ∧ o1 = (qhw (a.2.1) (a.2.2.1) (a.2.2.2.2.1)) ∧ o2 = (leadK (a.1) (a.2.1) (a.2.2.1) (a.2.2.2.1) (a.2.2.2.2.1)))) := by kernel_rfl
theorem qvu : qhF.valid Try.prog 78 := qkR (X := qsV) (qaH qai (fun b hb => by cases hb; exact qap) qaq ⟨qlp, qtE, qqj, trivial⟩) (its := [(131, qdM)]) ⟨qlm, trivial⟩ 200 (qtQ.mpr fun a hp w_0 w_1 w_2 w_3 => @qtR a.1 a.2.1 a.2.2.1 a.2.2.2.1 a.2.2.2.2.1 w_0 w_1 w_2 w_3 hp)
end Go.Proofs.Ytmjjkpiglbpkhaa

set_option linter.unusedVariables false
set_option maxRecDepth 100000
set_option maxHeartbeats 20000000
namespace Go.Proofs.Ytmjjkpiglbpkhaa
open Go Go.RowKit Go.Inc
noncomputable def qg2 : Ctr := ⟨[.v (.sl (.pr (.sl .byte) (.sl .byte)))], [.v .bool], none, fun a => (fun (a0_l : List ((List UInt8) × List UInt8)) => (((mayK a0_l), ()), (()))) a.1⟩
noncomputable def qte : Fx := ⟨seat, some bkT, fns, [(75, qqG)], [], [], [(4, [], [.o 0 2, .o 1 2, .o 2 2, .o 3 2, .o 4 2, .o 5 2, .o 6 2, .o 7 2, .o 8 2, .o 9 2, .o 10 2, .o 11 0, .o 12 2])]⟩
def qk6 (a0_l : List ((List UInt8) × List UInt8)) (Q : Bool → Prop) : Prop :=
 ∃ (x0 : Bool → Int → Prop), ∃ (x1 : Bool → Int → Nat), x0 false (1 : Int) ∧ ∀ (x2 : Bool) (x3 : Int), x0 x2 x3 → (Kd.int IntKind.i64).wf x3 → (x3 < (a0_l.length : Int) → ((0 : Int) ≤ IntKind.i64.wrap (x3 - (1 : Int)) ∧ IntKind.i64.wrap (x3 - (1 : Int)) < (a0_l.length : Int)) ∧ ((0 : Int) ≤ x3 ∧ x3 < (a0_l.length : Int)) ∧ ((Ty.int IntKind.i64).kd.wf (cmpB (ix a0_l (IntKind.i64.wrap (x3 - (1 : Int)))).fst (ix a0_l x3).fst) → ((0 : Int) ≤ cmpB (ix a0_l (IntKind.i64.wrap (x3 - (1 : Int)))).fst (ix a0_l x3).fst → Q false) ∧ (¬(0 : Int) ≤ cmpB (ix a0_l (IntKind.i64.wrap (x3 - (1 : Int)))).fst (ix a0_l x3).fst → x3 < (9223372036854775807 : Int) ∧ x0 x2 (x3 + (1 : Int)) ∧ x1 x2 (x3 + (1 : Int)) < x1 x2 x3))) ∧ (¬x3 < (a0_l.length : Int) → Q true)
theorem quN {a0_l : List ((List UInt8) × List UInt8)} (w_0 : (Ty.kd (.sl (.pr (.sl .byte) (.sl .byte)))).wf a0_l) : qk6 a0_l (fun o0 => o0 = (mayK a0_l)) := by
 unfold qk6
 have hl : (a0_l.length : Int) ≤ 281474976710656 := by have := w_0.1; unfold LM at this; omega
 refine ⟨fun _ i => 1 ≤ i ∧ ∀ (t : Nat) (h : t + 1 < a0_l.length), (t : Int) + 1 < i → sless a0_l[t].1 a0_l[t + 1].1 = true, fun _ i => ((a0_l.length : Int) - i).toNat, ⟨by omega, fun t h ht => by omega⟩, ?_⟩
 rintro b i ⟨h1, h2⟩ hw
 refine ⟨fun hlt => ?_, fun hge => ?_⟩
 ·obtain ⟨j, rfl⟩ : ∃ j : Nat, i = ((j + 1 : Nat) : Int) := ⟨i.toNat - 1, by omega⟩
  have hj : j + 1 < a0_l.length := by omega
  have e : IntKind.i64.wrap (((j + 1 : Nat) : Int) - 1) = (j : Int) := by rw [show ((j + 1 : Nat) : Int) - 1 = (j : Int) from by omega]; exact qak (wf64 (by omega) (by omega))
  rw [e, ixN (by omega : j < a0_l.length), ixN hj]
  refine ⟨⟨by omega, by omega⟩, ⟨by omega, by omega⟩, fun _ => ⟨fun hc => ?_, fun hc => ⟨by omega, ⟨by omega, fun t ht hti => ?_⟩, by dsimp only; omega⟩⟩⟩
  ·cases hm : mayK a0_l with
   | false => rfl
   | true =>
     have := qcb.2 (qcr (by omega) hj hm (Nat.lt_succ_self j))
     omega
  ·by_cases he : t = j
   ·subst he
    exact qcb.1 (by omega)
   ·exact h2 t ht (by omega)
 ·cases hm : mayK a0_l with
  | true => rfl
  | false =>
    obtain ⟨t, ht, hs⟩ := qhZ hm
    rw [h2 t ht (by omega)] at hs
    cases hs
theorem quM : (∀ a, qg2.pre a → PM.wfP qg2.pm a (fvc qte 200 29 qg2 a (eqO qg2 a))) = (∀ a : (List ((List UInt8) × List UInt8)) × Unit, True → (Ty.kd (.sl (.pr (.sl .byte) (.sl .byte)))).wf a.1 → qk6 a.1 (fun o0 => o0 = (mayK (a.1)))) := by kernel_rfl
theorem qtf : qg2.valid Try.prog 29 := qar (X := qte) (qaH qai (fun b hb => by cases hb; exact qap) qaq ⟨qtD, trivial⟩) 200 (quM.mpr fun a hp w_0 => @quN a.1 w_0)
noncomputable def qex : Ctr := ⟨[.bk 146 true, .v (.pr (.sl .byte) (.sl .byte))], [.v (.arr 32 .byte)], some (fun a => (fun (a0_k : qaj) (a1_p : (List UInt8) × List UInt8) => (a1_p.1.length + a1_p.2.length ≤ 70368744177664 ∧ qaJ a0_k : Prop)) a.1 a.2.1), fun a => (fun (a0_k : qaj) (a1_p : (List UInt8) × List UInt8) => (((qaK a1_p), ()), ((qaB a0_k 4 [a1_p.1, a1_p.2]), ()))) a.1 a.2.1⟩
noncomputable def qpz : Fx := ⟨seat, some bkT, fns, [(67, Of_C)], [], [], []⟩
def qiW (a0_k : qaj) (a1_p : (List UInt8) × List UInt8) (Q : (List UInt8) → qaj → Prop) : Prop :=
 ((1 : Nat) + qah (a1_p.fst :: a1_p.snd :: ([] : List (List UInt8))) ≤ (140737488355328 : Nat) ∧ qaJ a0_k) ∧ ((Ty.arr (32 : Nat) Ty.byte).kd.wf (qal (4 : Int) (a1_p.fst :: a1_p.snd :: ([] : List (List UInt8)))) → Q (qal (4 : Int) (a1_p.fst :: a1_p.snd :: ([] : List (List UInt8)))) (qaB a0_k (4 : Int) (a1_p.fst :: a1_p.snd :: ([] : List (List UInt8)))))
theorem qsc {a0_k : qaj} {a1_p : (List UInt8) × List UInt8} (w_0 : (Ty.kd (.pr (.sl .byte) (.sl .byte))).wf a1_p) (hp : a1_p.1.length + a1_p.2.length ≤ 70368744177664 ∧ qaJ a0_k) : qiW a0_k a1_p (fun o0 o1 => o0 = (qaK a1_p) ∧ o1 = (qaB a0_k 4 [a1_p.1, a1_p.2])) := by
 unfold qiW
 exact ⟨⟨by simp [qah]; omega, hp.2⟩, fun _ => ⟨rfl, rfl⟩⟩
theorem qsb : (∀ a, qex.pre a → PM.wfP qex.pm a (fvc qpz 200 79 qex a (eqO qex a))) = (∀ a : qaj × ((List UInt8) × List UInt8) × Unit, ((a.2.1).1.length + (a.2.1).2.length ≤ 70368744177664 ∧ qaJ (a.1)) → (Ty.kd (.pr (.sl .byte) (.sl .byte))).wf a.2.1 → qiW a.1 a.2.1 (fun o0 o1 => o0 = (qaK (a.2.1)) ∧ o1 = (qaB (a.1) 4 [(a.2.1).1, (a.2.1).2]))) := by kernel_rfl
theorem qpA : qex.valid Try.prog 79 := qar (X := qpz) (qaH qai (fun b hb => by cases hb; exact qap) qaq ⟨Of_k, trivial⟩) 200 (qsb.mpr fun a hp w_0 => @qsc a.1 a.2.1 w_0 hp)
noncomputable def qcp : Ctr := ⟨[.bk 146 true, .v (.sl (.pr (.sl .byte) (.sl .byte)))], [.ow 24 (.arr 32 .byte)], some (fun a => (fun (a0_k : qaj) (a1_l : List ((List UInt8) × List UInt8)) => ((a1_l.length ≤ 65536 ∧ (∀ p ∈ a1_l, p.1.length + p.2.length ≤ 70368744177664)) ∧ qaf a0_k a1_l.length : Prop)) a.1 a.2.1), fun a => (fun (a0_k : qaj) (a1_l : List ((List UInt8) × List UInt8)) => (((qam a1_l), ()), ((qaS a0_k a1_l), ()))) a.1 a.2.1⟩
noncomputable def qjQ : Fx := ⟨seat, some bkT, fns, [(79, qex)], [], [(3, [0], [])], []⟩
def qfL (a0_k : qaj) (a1_l : List ((List UInt8) × List UInt8)) (Q : (List (List UInt8)) → qaj → Prop) : Prop :=
 ∃ (x0 : List (List UInt8) → Int → qaj → Prop), ∃ (x1 : List (List UInt8) → Int → qaj → Nat), x0 ([] : List (List UInt8)) (0 : Int) a0_k ∧ ∀ (x2 : List (List UInt8)) (x3 : Int) (x4 : qaj), x0 x2 x3 x4 → (Ty.arr (32 : Nat) Ty.byte).kd.sl.wf x2 → (Kd.int IntKind.i64).wf x3 → (x3 < (a1_l.length : Int) → ((0 : Int) ≤ x3 ∧ x3 < (a1_l.length : Int)) ∧ ((ix a1_l x3).fst.length + (ix a1_l x3).snd.length ≤ (70368744177664 : Nat) ∧ qaJ x4) ∧ ((Ty.arr (32 : Nat) Ty.byte).kd.wf (qaK (ix a1_l x3)) → (x2.length + (qaK (ix a1_l x3) :: ([] : List (List UInt8))).length) * (32 : Nat) ≤ (140737488355328 : Nat) ∧ x3 < (9223372036854775807 : Int) ∧ x0 (x2 ++ qaK (ix a1_l x3) :: ([] : List (List UInt8))) (x3 + (1 : Int)) (qaB x4 (4 : Int) ((ix a1_l x3).fst :: (ix a1_l x3).snd :: ([] : List (List UInt8)))) ∧ x1 (x2 ++ qaK (ix a1_l x3) :: ([] : List (List UInt8))) (x3 + (1 : Int)) (qaB x4 (4 : Int) ((ix a1_l x3).fst :: (ix a1_l x3).snd :: ([] : List (List UInt8)))) < x1 x2 x3 x4)) ∧ (¬x3 < (a1_l.length : Int) → Q x2 x4)
theorem qng {a0_k : qaj} {a1_l : List ((List UInt8) × List UInt8)} (w_0 : (Ty.kd (.sl (.pr (.sl .byte) (.sl .byte)))).wf a1_l) (hp : (a1_l.length ≤ 65536 ∧ (∀ p ∈ a1_l, p.1.length + p.2.length ≤ 70368744177664)) ∧ qaf a0_k a1_l.length) : qfL a0_k a1_l (fun o0 o1 => o0 = (qam a1_l) ∧ o1 = (qaS a0_k a1_l)) := by
 unfold qfL
 obtain ⟨⟨hl, hs⟩, hb⟩ := hp
 refine ⟨fun out i k => ∃ j : Nat, i = (j : Int) ∧ j ≤ a1_l.length ∧ out = qam (a1_l.take j) ∧ k = qaS a0_k (a1_l.take j) ∧ qaf k (a1_l.length - j), fun _ i _ => ((a1_l.length : Int) - i).toNat, ⟨0, rfl, Nat.zero_le _, rfl, rfl, hb⟩, ?_⟩
 rintro out i k ⟨j, rfl, hj, rfl, rfl, hk⟩ _ _
 refine ⟨fun hlt => ?_, fun hge => ?_⟩
 ·have hj' : j < a1_l.length := by omega
  have e : a1_l.take (j + 1) = a1_l.take j ++ [a1_l[j]] := by rw [List.take_add_one, List.getElem?_eq_getElem hj']; rfl
  have hu : qaf (qaS a0_k (a1_l.take j)) ((a1_l.length - (j + 1)) + 1) := hk.le (by omega)
  rw [ixN hj']
  refine ⟨⟨by omega, by omega⟩, ⟨hs _ (List.getElem_mem hj'), hu.room⟩, fun _ => ⟨by rw [qaP, List.length_take]; simp; omega, by omega, ⟨j + 1, rfl, hj', ?_, ?_, hu.of _ _⟩, by dsimp only; omega⟩⟩
  ·rw [e]; unfold qam; rw [List.map_append]; rfl
  ·rw [e]; unfold qaS; rw [List.foldl_append]; rfl
 ·obtain rfl : j = a1_l.length := by omega
  rw [List.take_length]
  exact ⟨rfl, rfl⟩
theorem qnf : (∀ a, qcp.pre a → PM.wfP qcp.pm a (fvc qjQ 200 81 qcp a (eqO qcp a))) = (∀ a : qaj × (List ((List UInt8) × List UInt8)) × Unit, (((a.2.1).length ≤ 65536 ∧ (∀ p ∈ (a.2.1), p.1.length + p.2.length ≤ 70368744177664)) ∧ qaf (a.1) (a.2.1).length) → (Ty.kd (.sl (.pr (.sl .byte) (.sl .byte)))).wf a.2.1 → qfL a.1 a.2.1 (fun o0 o1 => o0 = (qam (a.2.1)) ∧ o1 = (qaS (a.1) (a.2.1)))) := by kernel_rfl
theorem qjR : qcp.valid Try.prog 81 := qar (X := qjQ) (qaH qai (fun b hb => by cases hb; exact qap) qaq ⟨qpA, trivial⟩) 200 (qnf.mpr fun a hp w_0 => @qng a.1 a.2.1 w_0 hp)
noncomputable def qdm : Ctr := ⟨[.bk 146 true, .v (.int .i64), .v (.arr 32 .byte)], [.v (.arr 32 .byte)], some (fun a => (fun (a0_k : qaj) (a1_n : Int) (a2_t : List UInt8) => (0 ≤ a1_n ∧ qaJ a0_k : Prop)) a.1 a.2.1 a.2.2.1), fun a => (fun (a0_k : qaj) (a1_n : Int) (a2_t : List UInt8) => (((qbr a1_n a2_t), ()), ((qaB a0_k 5 [numB a1_n.toNat, a2_t]), ()))) a.1 a.2.1 a.2.2.1⟩
noncomputable def qms : Fx := ⟨seat, some bkT, fns, [(62, qku), (67, Of_C)], [], [], [(1, [0, 1, 2], [.o 0 3, .o 1 2, .o 2 2, .o 5 2, .o 3 0, .o 4 0, .o 6 1, .o 7 1, .o 8 1])]⟩
def qg4 (a0_k : qaj) (a1_n : Int) (a2_t : List UInt8) (Q : (List UInt8) → qaj → Prop) : Prop :=
 ([] : List UInt8).length + (9 : Nat) * (IntKind.u64.wrap a1_n :: ([] : List Int)).length ≤ (140737488355328 : Nat) ∧ (Ty.byte.kd.sl.wf (([] : List UInt8) ++ qbb (IntKind.u64.wrap a1_n :: ([] : List Int))) → ((1 : Nat) + qah ((([] : List UInt8) ++ qbb (IntKind.u64.wrap a1_n :: ([] : List Int))) :: a2_t :: ([] : List (List UInt8))) ≤ (140737488355328 : Nat) ∧ qaJ a0_k) ∧ ((Ty.arr (32 : Nat) Ty.byte).kd.wf (qal (5 : Int) ((([] : List UInt8) ++ qbb (IntKind.u64.wrap a1_n :: ([] : List Int))) :: a2_t :: ([] : List (List UInt8)))) → Q (qal (5 : Int) ((([] : List UInt8) ++ qbb (IntKind.u64.wrap a1_n :: ([] : List Int))) :: a2_t :: ([] : List (List UInt8)))) (qaB a0_k (5 : Int) ((([] : List UInt8) ++ qbb (IntKind.u64.wrap a1_n :: ([] : List Int))) :: a2_t :: ([] : List (List UInt8))))))
theorem qpD {a0_k : qaj} {a1_n : Int} {a2_t : List UInt8} (w_0 : (Ty.kd (.int .i64)).wf a1_n) (w_1 : (Ty.kd (.arr 32 .byte)).wf a2_t) (hp : 0 ≤ a1_n ∧ qaJ a0_k) : qg4 a0_k a1_n a2_t (fun o0 o1 => o0 = (qbr a1_n a2_t) ∧ o1 = (qaB a0_k 5 [numB a1_n.toNat, a2_t])) := by
 have e : IntKind.u64.wrap a1_n = a1_n := qak ⟨hp.1, by have : a1_n ≤ 9223372036854775807 := w_0.2; show _ ≤ (18446744073709551615 : Int); omega⟩
 have hl := qbp (n := a1_n.toNat) (by have : a1_n ≤ 9223372036854775807 := w_0.2; omega)
 have ht : a2_t.length = 32 := w_1.1
 unfold qg4
 rw [e]
 refine ⟨by simp, fun _ => ⟨⟨by simp [qah, qbb]; omega, hp.2⟩, fun _ => ?_⟩⟩
 simp [qbb, qbr]
theorem qpC : (∀ a, qdm.pre a → PM.wfP qdm.pm a (fvc qms 200 80 qdm a (eqO qdm a))) = (∀ a : qaj × Int × (List UInt8) × Unit, (0 ≤ (a.2.1) ∧ qaJ (a.1)) → (Ty.kd (.int .i64)).wf a.2.1 → (Ty.kd (.arr 32 .byte)).wf a.2.2.1 → qg4 a.1 a.2.1 a.2.2.1 (fun o0 o1 => o0 = (qbr (a.2.1) (a.2.2.1)) ∧ o1 = (qaB (a.1) 5 [numB (a.2.1).toNat, (a.2.2.1)]))) := by kernel_rfl
theorem qmt : qdm.valid Try.prog 80 := qar (X := qms) (qaH qai (fun b hb => by cases hb; exact qap) qaq ⟨qvC, Of_k, trivial⟩) 200 (qpC.mpr fun a hp w_0 w_1 => @qpD a.1 a.2.1 a.2.2.1 w_0 w_1 hp)
noncomputable def qfJ : Ctr := ⟨[.bk 146 true, .v (.sl (.pr (.sl .byte) (.sl .byte)))], [.v (.arr 32 .byte)], some (fun a => (fun (a0_k : qaj) (a1_l : List ((List UInt8) × List UInt8)) => ((a1_l.length ≤ 65536 ∧ (∀ p ∈ a1_l, p.1.length + p.2.length ≤ 70368744177664)) ∧ qaf a0_k (2 * a1_l.length + 2) : Prop)) a.1 a.2.1), fun a => (fun (a0_k : qaj) (a1_l : List ((List UInt8) × List UInt8)) => (((qa4 a1_l), ()), ((qhe a0_k a1_l), ()))) a.1 a.2.1⟩
noncomputable def qps : Fx := ⟨seat, some bkT, fns, [(81, qcp), (58, qiv), (58, qlS), (80, qdm)], [], [], []⟩
def qiU (a0_k : qaj) (a1_l : List ((List UInt8) × List UInt8)) (Q : (List UInt8) → qaj → Prop) : Prop :=
 ((a1_l.length ≤ (65536 : Nat) ∧ ∀ (x0 : List UInt8 × List UInt8), x0 ∈ a1_l → x0.fst.length + x0.snd.length ≤ (70368744177664 : Nat)) ∧ qaf a0_k a1_l.length) ∧ ((Ty.arr (32 : Nat) Ty.byte).kd.sl.wf (qam a1_l) → ((qam a1_l).length ≤ (1048576 : Nat) ∧ qaf (qaS a0_k a1_l) (qam a1_l).length) ∧ ((Ty.arr (32 : Nat) Ty.byte).kd.wf (qaD (qam a1_l)) → ((0 : Int) ≤ (a1_l.length : Int) ∧ qaJ (qaX (qaS a0_k a1_l) (qam a1_l))) ∧ ((Ty.arr (32 : Nat) Ty.byte).kd.wf (qbr (a1_l.length : Int) (qaD (qam a1_l))) → Q (qbr (a1_l.length : Int) (qaD (qam a1_l))) (qaB (qaX (qaS a0_k a1_l) (qam a1_l)) (5 : Int) (numB (a1_l.length : Int).toNat :: qaD (qam a1_l) :: ([] : List (List UInt8)))))))
theorem qr7 {a0_k : qaj} {a1_l : List ((List UInt8) × List UInt8)} (w_0 : (Ty.kd (.sl (.pr (.sl .byte) (.sl .byte)))).wf a1_l) (hp : (a1_l.length ≤ 65536 ∧ (∀ p ∈ a1_l, p.1.length + p.2.length ≤ 70368744177664)) ∧ qaf a0_k (2 * a1_l.length + 2)) : qiU a0_k a1_l (fun o0 o1 => o0 = (qa4 a1_l) ∧ o1 = (qhe a0_k a1_l)) := by
 unfold qiU
 obtain ⟨⟨hl, hs⟩, hb⟩ := hp
 have hb1 : qaf (qaS a0_k a1_l) (a1_l.length + 2) := qaf.leaves (l := a1_l) (n := a1_l.length + 2) (hb.le (by omega))
 refine ⟨⟨⟨hl, hs⟩, hb.le (by omega)⟩, fun _ => ⟨⟨by rw [qaP]; omega, by rw [qaP]; exact hb1.le (by omega)⟩, fun _ => ⟨⟨by omega, ?_⟩, fun _ => ⟨rfl, rfl⟩⟩⟩⟩
 by_cases h0 : 1 ≤ (qam a1_l).length
 ·exact (qaf.root (n := 0) (qam a1_l).length (Nat.le_refl _) h0 (hb1.le (by rw [qaP]; omega))).room
 ·have e : qam a1_l = [] := List.length_eq_zero_iff.1 (by omega)
  rw [e, qbi]
  exact ((hb1.le (by omega) : qaf (qaS a0_k a1_l) (0 + 1)).of _ _).room
theorem qr6 : (∀ a, qfJ.pre a → PM.wfP qfJ.pm a (fvc qps 200 32 qfJ a (eqO qfJ a))) = (∀ a : qaj × (List ((List UInt8) × List UInt8)) × Unit, (((a.2.1).length ≤ 65536 ∧ (∀ p ∈ (a.2.1), p.1.length + p.2.length ≤ 70368744177664)) ∧ qaf (a.1) (2 * (a.2.1).length + 2)) → (Ty.kd (.sl (.pr (.sl .byte) (.sl .byte)))).wf a.2.1 → qiU a.1 a.2.1 (fun o0 o1 => o0 = (qa4 (a.2.1)) ∧ o1 = (qhe (a.1) (a.2.1)))) := by kernel_rfl
theorem qpt : qfJ.valid Try.prog 32 := qar (X := qps) (qaH qai (fun b hb => by cases hb; exact qap) qaq ⟨qjR, qkB, qlT, qmt, trivial⟩) 200 (qr6.mpr fun a hp w_0 => @qr7 a.1 a.2.1 w_0 hp)
noncomputable def qdl : Ctr := ⟨[.v (.pr (.sl .byte) (.sl .byte)), .v (.sl .byte)], [.v (.int .i64)], none, fun a => (fun (a0_p : (List UInt8) × List UInt8) (a1_key : List UInt8) => (((cmpB a0_p.1 a1_key), ()), (()))) a.1 a.2.1⟩
noncomputable def qmq : Fx := ⟨seat, some bkT, fns, [(75, qqG)], [], [], []⟩
def qg3 (a0_p : (List UInt8) × List UInt8) (a1_key : List UInt8) (Q : Int → Prop) : Prop :=
 (Ty.int IntKind.i64).kd.wf (cmpB a0_p.fst a1_key) → Q (cmpB a0_p.fst a1_key)
theorem qpv {a0_p : (List UInt8) × List UInt8} {a1_key : List UInt8} (w_0 : (Ty.kd (.pr (.sl .byte) (.sl .byte))).wf a0_p) (w_1 : (Ty.kd (.sl .byte)).wf a1_key) : qg3 a0_p a1_key (fun o0 => o0 = (cmpB a0_p.1 a1_key)) := by
 unfold qg3
 exact fun _ => rfl
theorem qpu : (∀ a, qdl.pre a → PM.wfP qdl.pm a (fvc qmq 200 83 qdl a (eqO qdl a))) = (∀ a : ((List UInt8) × List UInt8) × (List UInt8) × Unit, True → (Ty.kd (.pr (.sl .byte) (.sl .byte))).wf a.1 → (Ty.kd (.sl .byte)).wf a.2.1 → qg3 a.1 a.2.1 (fun o0 => o0 = (cmpB (a.1).1 (a.2.1)))) := by kernel_rfl
theorem qmr : qdl.valid Try.prog 83 := qar (X := qmq) (qaH qai (fun b hb => by cases hb; exact qap) qaq ⟨qtD, trivial⟩) 200 (qpu.mpr fun a hp w_0 w_1 => @qpv a.1 a.2.1 w_0 w_1)
noncomputable def qhB : Ctr := ⟨[.v (.sl (.pr (.sl .byte) (.sl .byte))), .v (.sl .byte), .fn 83 []], [.v (.int .i64), .v .bool], some (fun a => (fun (a0_x : List ((List UInt8) × List UInt8)) (a1_target : List UInt8) => (mayK a0_x = true ∧ a0_x.length ≤ 1048576 : Prop)) a.1 a.2.1), fun a => (fun (a0_x : List ((List UInt8) × List UInt8)) (a1_target : List UInt8) => ((((lowK a0_x a1_target : Nat) : Int), (isK a0_x a1_target), ()), (()))) a.1 a.2.1⟩
noncomputable def qsQ : Fx := ⟨seat, some bkT, fns, [(83, qdl)], [], [], []⟩
def qkl (a0_x : List ((List UInt8) × List UInt8)) (a1_target : List UInt8) (Q : Int → Bool → Prop) : Prop :=
 ∃ (x0 : Int → Int → Prop), ∃ (x1 : Int → Int → Nat), x0 (0 : Int) (a0_x.length : Int) ∧ ∀ (x2 x3 : Int), x0 x2 x3 → (Kd.int IntKind.i64).wf x2 → (Kd.int IntKind.i64).wf x3 → (x2 < x3 → ((0 : Int) ≤ IntKind.i64.wrap (shr IntKind.u64 (IntKind.u64.wrap (IntKind.i64.wrap (x2 + x3))) (1 : Int)) ∧ IntKind.i64.wrap (shr IntKind.u64 (IntKind.u64.wrap (IntKind.i64.wrap (x2 + x3))) (1 : Int)) < (a0_x.length : Int)) ∧ ((Ty.int IntKind.i64).kd.wf (cmpB (ix a0_x (IntKind.i64.wrap (shr IntKind.u64 (IntKind.u64.wrap (IntKind.i64.wrap (x2 + x3))) (1 : Int)))).fst a1_target) → (cmpB (ix a0_x (IntKind.i64.wrap (shr IntKind.u64 (IntKind.u64.wrap (IntKind.i64.wrap (x2 + x3))) (1 : Int)))).fst a1_target < (0 : Int) → x0 (IntKind.i64.wrap (IntKind.i64.wrap (shr IntKind.u64 (IntKind.u64.wrap (IntKind.i64.wrap (x2 + x3))) (1 : Int)) + (1 : Int))) x3 ∧ x1 (IntKind.i64.wrap (IntKind.i64.wrap (shr IntKind.u64 (IntKind.u64.wrap (IntKind.i64.wrap (x2 + x3))) (1 : Int)) + (1 : Int))) x3 < x1 x2 x3) ∧ (¬cmpB (ix a0_x (IntKind.i64.wrap (shr IntKind.u64 (IntKind.u64.wrap (IntKind.i64.wrap (x2 + x3))) (1 : Int)))).fst a1_target < (0 : Int) → x0 x2 (IntKind.i64.wrap (shr IntKind.u64 (IntKind.u64.wrap (IntKind.i64.wrap (x2 + x3))) (1 : Int))) ∧ x1 x2 (IntKind.i64.wrap (shr IntKind.u64 (IntKind.u64.wrap (IntKind.i64.wrap (x2 + x3))) (1 : Int))) < x1 x2 x3))) ∧ (¬x2 < x3 → (x2 < (a0_x.length : Int) → ((0 : Int) ≤ x2 ∧ x2 < (a0_x.length : Int)) ∧ ((Ty.int IntKind.i64).kd.wf (cmpB (ix a0_x x2).fst a1_target) → Q x2 (decide (cmpB (ix a0_x x2).fst a1_target = (0 : Int))))) ∧ (¬x2 < (a0_x.length : Int) → Q x2 false))
theorem qty {a0_x : List ((List UInt8) × List UInt8)} {a1_target : List UInt8} (w_0 : (Ty.kd (.sl (.pr (.sl .byte) (.sl .byte)))).wf a0_x) (w_1 : (Ty.kd (.sl .byte)).wf a1_target) (hp : mayK a0_x = true ∧ a0_x.length ≤ 1048576) : qkl a0_x a1_target (fun o0 o1 => o0 = ((lowK a0_x a1_target : Nat) : Int) ∧ o1 = (isK a0_x a1_target)) := by
 unfold qkl
 obtain ⟨hm, hl⟩ := hp
 have mid : ∀ i j : Nat, i < j → j ≤ a0_x.length → IntKind.i64.wrap (shr IntKind.u64 (IntKind.u64.wrap (IntKind.i64.wrap ((i : Int) + (j : Int)))) (1 : Int)) = (((i + j) / 2 : Nat) : Int) := fun i j h1 h2 => by
  rw [qak (ik := .i64) (a := (i : Int) + (j : Int)) (wf64 (by omega) (by omega)), show ((i : Int) + (j : Int)) = ((i + j : Nat) : Int) from by omega, qak (ik := .u64) ⟨by show (0 : Int) ≤ _; omega, by show _ ≤ (18446744073709551615 : Int); omega⟩]
  have := qhh (n := i + j) (k := 1) (by decide)
  rw [show ((1 : Nat) : Int) = 1 from rfl] at this
  rw [this]
  exact qak (wf64 (by omega) (by omega))
 refine ⟨fun x y => ∃ i j : Nat, x = (i : Int) ∧ y = (j : Int) ∧ i ≤ j ∧ j ≤ a0_x.length ∧ (∀ (t : Nat) (h : t < a0_x.length), t < i → sless a0_x[t].1 a1_target = true) ∧ (∀ (t : Nat) (h : t < a0_x.length), j ≤ t → sless a0_x[t].1 a1_target = false), fun x y => (y - x).toNat, ⟨0, a0_x.length, rfl, rfl, Nat.zero_le _, Nat.le_refl _, fun t h ht => by omega, fun t h ht => by omega⟩, ?_⟩
 rintro x y ⟨i, j, rfl, rfl, hij, hj, h1, h2⟩ _ _
 refine ⟨fun hlt => ?_, fun hge => ?_⟩
 ·have hij' : i < j := by omega
  rw [mid i j hij' hj]
  have b1 : i ≤ (i + j) / 2 := by omega
  have b2 : (i + j) / 2 < j := by omega
  generalize (i + j) / 2 = h at b1 b2 ⊢
  have hh : h < a0_x.length := by omega
  rw [ixN hh]
  have e : IntKind.i64.wrap ((h : Int) + 1) = ((h + 1 : Nat) : Int) := by rw [show (h : Int) + 1 = ((h + 1 : Nat) : Int) from by omega]; exact qak (wf64 (by omega) (by omega))
  rw [e]
  refine ⟨⟨by omega, by omega⟩, fun _ => ⟨fun hc => ⟨⟨h + 1, j, rfl, rfl, by omega, hj, fun t ht hti => ?_, h2⟩, by dsimp only; omega⟩, fun hc => ⟨⟨i, h, rfl, rfl, b1, by omega, h1, fun t ht hti => ?_⟩, by dsimp only; omega⟩⟩⟩
  ·have hs := qcb.1 hc
   by_cases he : t = h
   ·subst he; exact hs
   ·exact qbf (qcr ht hh hm (by omega)) hs
  ·cases hs : sless a0_x[t].1 a1_target with
   | false => rfl
   | true =>
     refine absurd (qcb.2 ?_) hc
     by_cases he : t = h
     ·subst he; exact hs
     ·exact qbf (qcr hh ht hm (by omega)) hs
 ·obtain rfl : i = j := by omega
  have hlow : lowK a0_x a1_target = i := qiY hj h1 (fun h => h2 i h (Nat.le_refl i))
  refine ⟨fun h => ⟨⟨by omega, by omega⟩, fun _ => ⟨by rw [hlow], ?_⟩⟩, fun h => ⟨by rw [hlow], ?_⟩⟩
  ·unfold isK
   rw [hlow, ixN (by omega : i < a0_x.length)]
   simp only [show i < a0_x.length from by omega, decide_true, Bool.true_and]
   exact decide_eq_decide.2 qfv
  ·unfold isK
   rw [hlow]
   simp only [show ¬ i < a0_x.length from by omega, decide_false, Bool.false_and]
theorem qtx : (∀ a, qhB.pre a → PM.wfP qhB.pm a (fvc qsQ 200 82 qhB a (eqO qhB a))) = (∀ a : (List ((List UInt8) × List UInt8)) × (List UInt8) × Unit × Unit, (mayK (a.1) = true ∧ (a.1).length ≤ 1048576) → (Ty.kd (.sl (.pr (.sl .byte) (.sl .byte)))).wf a.1 → (Ty.kd (.sl .byte)).wf a.2.1 → qkl a.1 a.2.1 (fun o0 o1 => o0 = ((lowK (a.1) (a.2.1) : Nat) : Int) ∧ o1 = (isK (a.1) (a.2.1)))) := by kernel_rfl
theorem qvo : qhB.valid Try.prog 82 := qar (X := qsQ) (qaH qai (fun b hb => by cases hb; exact qap) qaq ⟨qmr, trivial⟩) 200 (qtx.mpr fun a hp w_0 w_1 => @qty a.1 a.2.1 w_0 w_1 hp)
noncomputable def qfK : Ctr := ⟨[.nil, .v (.sl (.pr (.sl .byte) (.sl .byte))), .v (.sl .byte)], [.v (.pr (.int .i64) (.sl (.pr (.int .i64) (.pr (.pr (.sl .byte) (.sl .byte)) (.sl (.arr 32 .byte))))))], some (fun a => (fun (a1_l : List ((List UInt8) × List UInt8)) (a2_key : List UInt8) => (a1_l.length ≤ 65536 ∧ (∀ p ∈ a1_l, p.1.length + p.2.length ≤ 70368744177664) : Prop)) a.2.1 a.2.2.1), fun a => (fun (a1_l : List ((List UInt8) × List UInt8)) (a2_key : List UInt8) => (((qaI a1_l a2_key), ()), (()))) a.2.1 a.2.2.1⟩
noncomputable def qpw : Fx := ⟨{ seat with rws := [3000011, 4000037] }, some bkT, fns, [(29, qg2), (82, qhB), (83, qdl), (81, qcp), (84, qnY), (84, qff), (69, qc9)], [], [(10, [2], [])], [(13, [7], [.o 0 2, .o 1 2, .o 2 2, .o 3 2, .o 4 2, .o 6 2, .o 7 2, .o 8 2, .o 9 2, .o 10 2, .o 5 0, .o 12 2, .o 13 2, .o 11 0, .o 14 1, .o 15 3, .o 16 3, .o 17 1])]⟩
def qiV (a1_l : List ((List UInt8) × List UInt8)) (a2_key : List UInt8) (Q : (Int × List (Int × ((List UInt8) × List UInt8) × List (List UInt8))) → Prop) : Prop :=
 (¬mayK a1_l = true → Q ((Ty.int IntKind.i64).pr ((Ty.int IntKind.i64).pr ((Ty.byte.sl.pr Ty.byte.sl).pr (Ty.arr (32 : Nat) Ty.byte).sl)).sl).kd.z) ∧ (mayK a1_l = true → (mayK a1_l = true ∧ a1_l.length ≤ (1048576 : Nat)) ∧ ((Ty.int IntKind.i64).kd.wf (lowK a1_l a2_key : Int) → (isK a1_l a2_key = true → ((a1_l.length ≤ (65536 : Nat) ∧ ∀ (x0 : List UInt8 × List UInt8), x0 ∈ a1_l → x0.fst.length + x0.snd.length ≤ (70368744177664 : Nat)) ∧ qaf (none : Option (List Nt × Int)) a1_l.length) ∧ ((Ty.arr (32 : Nat) Ty.byte).kd.sl.wf (qam a1_l) → ∃ (x0 : Int → List (Int × (List UInt8 × List UInt8) × List (List UInt8)) → Int × Unit → Prop), ∃ (x1 : Int → List (Int × (List UInt8 × List UInt8) × List (List UInt8)) → Int × Unit → Nat), x0 (lowK a1_l a2_key : Int) ([] : List (Int × (List UInt8 × List UInt8) × List (List UInt8))) ((a1_l.length : Int), ()) ∧ ∀ (x2 : Int) (x3 : List (Int × (List UInt8 × List UInt8) × List (List UInt8))) (x4 : Int × Unit), x0 x2 x3 x4 → (Kd.int IntKind.i64).wf x2 → ((Ty.int IntKind.i64).pr ((Ty.byte.sl.pr Ty.byte.sl).pr (Ty.arr (32 : Nat) Ty.byte).sl)).kd.sl.wf x3 → ((x2 < bif false then max (IntKind.i64.wrap ((lowK a1_l a2_key : Int) + (1 : Int))) (a1_l.length : Int) else min (IntKind.i64.wrap ((lowK a1_l a2_key : Int) + (1 : Int))) (a1_l.length : Int)) → (qam a1_l).length ≤ (1048576 : Nat) ∧ ((Ty.arr (32 : Nat) Ty.byte).kd.sl.wf (qbR (qam a1_l) x2) → ((0 : Int) ≤ x2 ∧ x2 < (a1_l.length : Int)) ∧ ((0 : Int) ≤ x2 ∧ x2 < (a1_l.length : Int)) ∧ (ix a1_l x2).fst.length ≤ (140737488355328 : Nat) ∧ (Ty.byte.kd.sl.wf (ix a1_l x2).fst → (ix a1_l x2).snd.length ≤ (140737488355328 : Nat) ∧ (Ty.byte.kd.sl.wf (ix a1_l x2).snd → (x3.length + ((x2, ((ix a1_l x2).fst, (ix a1_l x2).snd), qbR (qam a1_l) x2) :: ([] : List (Int × (List UInt8 × List UInt8) × List (List UInt8)))).length) * (80 : Nat) ≤ (140737488355328 : Nat) ∧ x2 < (9223372036854775807 : Int) ∧ x0 (x2 + (1 : Int)) (x3 ++ (x2, ((ix a1_l x2).fst, (ix a1_l x2).snd), qbR (qam a1_l) x2) :: ([] : List (Int × (List UInt8 × List UInt8) × List (List UInt8)))) (x4.fst, x4.snd) ∧ x1 (x2 + (1 : Int)) (x3 ++ (x2, ((ix a1_l x2).fst, (ix a1_l x2).snd), qbR (qam a1_l) x2) :: ([] : List (Int × (List UInt8 × List UInt8) × List (List UInt8)))) (x4.fst, x4.snd) < x1 x2 x3 x4)))) ∧ ((¬x2 < bif false then max (IntKind.i64.wrap ((lowK a1_l a2_key : Int) + (1 : Int))) (a1_l.length : Int) else min (IntKind.i64.wrap ((lowK a1_l a2_key : Int) + (1 : Int))) (a1_l.length : Int)) → Q (x4.fst, x3)))) ∧ (isK a1_l a2_key = false → ((a1_l.length ≤ (65536 : Nat) ∧ ∀ (x0 : List UInt8 × List UInt8), x0 ∈ a1_l → x0.fst.length + x0.snd.length ≤ (70368744177664 : Nat)) ∧ qaf (none : Option (List Nt × Int)) a1_l.length) ∧ ((Ty.arr (32 : Nat) Ty.byte).kd.sl.wf (qam a1_l) → ∃ (x0 : Int → List (Int × (List UInt8 × List UInt8) × List (List UInt8)) → Int × Unit → Prop), ∃ (x1 : Int → List (Int × (List UInt8 × List UInt8) × List (List UInt8)) → Int × Unit → Nat), x0 (bif true then max (IntKind.i64.wrap ((lowK a1_l a2_key : Int) - (1 : Int))) (0 : Int) else min (IntKind.i64.wrap ((lowK a1_l a2_key : Int) - (1 : Int))) (0 : Int)) ([] : List (Int × (List UInt8 × List UInt8) × List (List UInt8))) ((a1_l.length : Int), ()) ∧ ∀ (x2 : Int) (x3 : List (Int × (List UInt8 × List UInt8) × List (List UInt8))) (x4 : Int × Unit), x0 x2 x3 x4 → (Kd.int IntKind.i64).wf x2 → ((Ty.int IntKind.i64).pr ((Ty.byte.sl.pr Ty.byte.sl).pr (Ty.arr (32 : Nat) Ty.byte).sl)).kd.sl.wf x3 → ((x2 < bif false then max (IntKind.i64.wrap ((lowK a1_l a2_key : Int) + (1 : Int))) (a1_l.length : Int) else min (IntKind.i64.wrap ((lowK a1_l a2_key : Int) + (1 : Int))) (a1_l.length : Int)) → (qam a1_l).length ≤ (1048576 : Nat) ∧ ((Ty.arr (32 : Nat) Ty.byte).kd.sl.wf (qbR (qam a1_l) x2) → ((0 : Int) ≤ x2 ∧ x2 < (a1_l.length : Int)) ∧ ((0 : Int) ≤ x2 ∧ x2 < (a1_l.length : Int)) ∧ (ix a1_l x2).fst.length ≤ (140737488355328 : Nat) ∧ (Ty.byte.kd.sl.wf (ix a1_l x2).fst → (ix a1_l x2).snd.length ≤ (140737488355328 : Nat) ∧ (Ty.byte.kd.sl.wf (ix a1_l x2).snd → (x3.length + ((x2, ((ix a1_l x2).fst, (ix a1_l x2).snd), qbR (qam a1_l) x2) :: ([] : List (Int × (List UInt8 × List UInt8) × List (List UInt8)))).length) * (80 : Nat) ≤ (140737488355328 : Nat) ∧ x2 < (9223372036854775807 : Int) ∧ x0 (x2 + (1 : Int)) (x3 ++ (x2, ((ix a1_l x2).fst, (ix a1_l x2).snd), qbR (qam a1_l) x2) :: ([] : List (Int × (List UInt8 × List UInt8) × List (List UInt8)))) (x4.fst, x4.snd) ∧ x1 (x2 + (1 : Int)) (x3 ++ (x2, ((ix a1_l x2).fst, (ix a1_l x2).snd), qbR (qam a1_l) x2) :: ([] : List (Int × (List UInt8 × List UInt8) × List (List UInt8)))) (x4.fst, x4.snd) < x1 x2 x3 x4)))) ∧ ((¬x2 < bif false then max (IntKind.i64.wrap ((lowK a1_l a2_key : Int) + (1 : Int))) (a1_l.length : Int) else min (IntKind.i64.wrap ((lowK a1_l a2_key : Int) + (1 : Int))) (a1_l.length : Int)) → Q (x4.fst, x3))))))
theorem qr9 {a1_l : List ((List UInt8) × List UInt8)} {a2_key : List UInt8} (w_0 : (Ty.kd (.sl (.pr (.sl .byte) (.sl .byte)))).wf a1_l) (w_1 : (Ty.kd (.sl .byte)).wf a2_key) (hp : a1_l.length ≤ 65536 ∧ (∀ p ∈ a1_l, p.1.length + p.2.length ≤ 70368744177664)) : qiV a1_l a2_key (fun o0 => o0 = (qaI a1_l a2_key)) := by
 unfold qiV
 obtain ⟨hl, hs⟩ := hp
 have hw : ∀ m : Int, -1 ≤ m → m ≤ 65537 → IntKind.i64.wrap m = m := fun m h1 h2 => qak (wf64 (by omega) (by omega))
 refine ⟨fun hm => ?_, fun hm => ⟨⟨hm, by omega⟩, fun _ => ?_⟩⟩
 ·unfold qaI
  rw [if_neg hm]
  rfl
 have hlow := qk9 a1_l a2_key
 have eto : (bif false then max (IntKind.i64.wrap ((lowK a1_l a2_key : Int) + (1 : Int))) (a1_l.length : Int) else min (IntKind.i64.wrap ((lowK a1_l a2_key : Int) + (1 : Int))) (a1_l.length : Int)) = ((toK a1_l a2_key : Nat) : Int) := by
  rw [hw _ (by omega) (by omega)]
  show min _ _ = _
  unfold toK
  omega
 have efr : (bif true then max (IntKind.i64.wrap ((lowK a1_l a2_key : Int) - (1 : Int))) (0 : Int) else min (IntKind.i64.wrap ((lowK a1_l a2_key : Int) - (1 : Int))) (0 : Int)) = ((lowK a1_l a2_key - 1 : Nat) : Int) := by
  rw [hw _ (by omega) (by omega)]
  show max _ _ = _
  omega
 rw [eto, efr]
 have hto : toK a1_l a2_key ≤ a1_l.length := by unfold toK; omega
 have hft : qbz a1_l a2_key ≤ toK a1_l a2_key := by
  unfold qbz toK
  cases hi : isK a1_l a2_key with
  | true =>
    have : lowK a1_l a2_key < a1_l.length := by
     unfold isK at hi
     simp only [Bool.and_eq_true, decide_eq_true_eq] at hi
     exact hi.1
    simp only [if_true]
    omega
  | false => simp only [Bool.false_eq_true, if_false]; omega
 have step : ∀ (x0 : Int → List (Int × (List UInt8 × List UInt8) × List (List UInt8)) → Int × Unit → Prop) (x1 : Int → List (Int × (List UInt8 × List UInt8) × List (List UInt8)) → Int × Unit → Nat),
  (x0 = fun i out c => ∃ j : Nat, i = (j : Int) ∧ qbz a1_l a2_key ≤ j ∧ j ≤ toK a1_l a2_key ∧ out = (List.range' (qbz a1_l a2_key) (j - qbz a1_l a2_key)).map (qdN a1_l) ∧ c = ((a1_l.length : Int), ())) →
  (x1 = fun i _ _ => ((a1_l.length : Int) - i).toNat) → ∀ x2 x3 x4, x0 x2 x3 x4 → (x2 < ((toK a1_l a2_key : Nat) : Int) → (qam a1_l).length ≤ (1048576 : Nat) ∧ ((0 : Int) ≤ x2 ∧ x2 < (a1_l.length : Int)) ∧ (ix a1_l x2).fst.length ≤ (140737488355328 : Nat) ∧ (ix a1_l x2).snd.length ≤ (140737488355328 : Nat) ∧ (x3.length + ((x2, ((ix a1_l x2).fst, (ix a1_l x2).snd), qbR (qam a1_l) x2) :: ([] : List (Int × (List UInt8 × List UInt8) × List (List UInt8)))).length) * (80 : Nat) ≤ (140737488355328 : Nat) ∧ x2 < (9223372036854775807 : Int) ∧ x0 (x2 + (1 : Int)) (x3 ++ (x2, ((ix a1_l x2).fst, (ix a1_l x2).snd), qbR (qam a1_l) x2) :: ([] : List (Int × (List UInt8 × List UInt8) × List (List UInt8)))) (x4.fst, x4.snd) ∧ x1 (x2 + (1 : Int)) (x3 ++ (x2, ((ix a1_l x2).fst, (ix a1_l x2).snd), qbR (qam a1_l) x2) :: ([] : List (Int × (List UInt8 × List UInt8) × List (List UInt8)))) (x4.fst, x4.snd) < x1 x2 x3 x4) ∧ (¬ x2 < ((toK a1_l a2_key : Nat) : Int) → (x4.fst, x3) = qaI a1_l a2_key) := by
  intro x0 x1 e0 e1 x2 x3 x4 hI
  rw [e0] at hI
  obtain ⟨j, rfl, h1, h2, rfl, rfl⟩ := hI
  refine ⟨fun hlt => ?_, fun hge => ?_⟩
  ·have hj : j < a1_l.length := by omega
   have hsz := hs _ (List.getElem_mem hj)
   have er : List.range' (qbz a1_l a2_key) (j + 1 - qbz a1_l a2_key) = List.range' (qbz a1_l a2_key) (j - qbz a1_l a2_key) ++ [j] := by
    rw [show j + 1 - qbz a1_l a2_key = (j - qbz a1_l a2_key) + 1 from by omega, List.range'_concat]
    congr 2
    omega
   refine ⟨by rw [qaP]; omega, ⟨by omega, by omega⟩, by rw [ixN hj]; omega, by rw [ixN hj]; omega, ?_, by omega, ?_, by rw [e1]; dsimp only; omega⟩
   ·simp only [List.length_map, List.length_range', List.length_cons, List.length_nil]
    omega
   ·rw [e0]
    refine ⟨j + 1, rfl, by omega, by omega, ?_, rfl⟩
    rw [er, List.map_append]
    rfl
  ·obtain rfl : j = toK a1_l a2_key := by omega
   unfold qaI
   rw [if_pos hm]
 obtain ⟨I, eI⟩ : ∃ I : Int → List (Int × (List UInt8 × List UInt8) × List (List UInt8)) → Int × Unit → Prop, I = fun i out c => ∃ j : Nat, i = (j : Int) ∧ qbz a1_l a2_key ≤ j ∧ j ≤ toK a1_l a2_key ∧ out = (List.range' (qbz a1_l a2_key) (j - qbz a1_l a2_key)).map (qdN a1_l) ∧ c = ((a1_l.length : Int), ()) := ⟨_, rfl⟩
 obtain ⟨M, eM⟩ : ∃ M : Int → List (Int × (List UInt8 × List UInt8) × List (List UInt8)) → Int × Unit → Nat, M = fun i _ _ => ((a1_l.length : Int) - i).toNat := ⟨_, rfl⟩
 have beg : ∀ k : Nat, qbz a1_l a2_key = k → I (k : Int) [] ((a1_l.length : Int), ()) := fun k hk => by
  rw [eI]
  exact ⟨k, rfl, by omega, by omega, by rw [hk, Nat.sub_self]; rfl, rfl⟩
 have fin := step I M eI eM
 refine ⟨fun hi => ⟨⟨⟨hl, hs⟩, fun y h => by cases h⟩, fun _ => ⟨I, M, beg _ (by unfold qbz; rw [if_pos hi]), fun x2 x3 x4 hI _ _ => ?_⟩⟩, fun hi => ⟨⟨⟨hl, hs⟩, fun y h => by cases h⟩, fun _ => ⟨I, M, beg _ (by unfold qbz; rw [if_neg (by simp [hi])]), fun x2 x3 x4 hI _ _ => ?_⟩⟩⟩
 ·obtain ⟨s1, s2⟩ := fin x2 x3 x4 hI
  refine ⟨fun hlt => ?_, s2⟩
  obtain ⟨a1, a2, a3, a4, a5, a6, a7, a8⟩ := s1 hlt
  exact ⟨a1, fun _ => ⟨a2, a2, a3, fun _ => ⟨a4, fun _ => ⟨a5, a6, a7, a8⟩⟩⟩⟩
 ·obtain ⟨s1, s2⟩ := fin x2 x3 x4 hI
  refine ⟨fun hlt => ?_, s2⟩
  obtain ⟨a1, a2, a3, a4, a5, a6, a7, a8⟩ := s1 hlt
  exact ⟨a1, fun _ => ⟨a2, a2, a3, fun _ => ⟨a4, fun _ => ⟨a5, a6, a7, a8⟩⟩⟩⟩
theorem qr8 : (∀ a, qfK.pre a → PM.wfP qfK.pm a (fvc qpw 200 33 qfK a (eqO qfK a))) = (∀ a : Unit × (List ((List UInt8) × List UInt8)) × (List UInt8) × Unit, ((a.2.1).length ≤ 65536 ∧ (∀ p ∈ (a.2.1), p.1.length + p.2.length ≤ 70368744177664)) → (Ty.kd (.sl (.pr (.sl .byte) (.sl .byte)))).wf a.2.1 → (Ty.kd (.sl .byte)).wf a.2.2.1 → qiV a.2.1 a.2.2.1 (fun o0 => o0 = (qaI (a.2.1) (a.2.2.1)))) := by kernel_rfl
theorem quO : qfK.valid Try.prog 33 := qar (X := qpw) (qaH (qai.rows [3000011, 4000037]) (fun b hb => by cases hb; exact qap) qaq ⟨qtf, qvo, qmr, qjR, qtT, qn0, qgw, trivial⟩) 200 (qr8.mpr fun a hp w_0 w_1 => @qr9 a.2.1 a.2.2.1 w_0 w_1 hp)
def qgn (a0_key : List UInt8) (a1_s : Int × List (Int × ((List UInt8) × List UInt8) × List (List UInt8))) (Q : Bool → Bool → Prop) : Prop :=
 (((0 : Int) ≤ (ix a1_s.snd (0 : Int)).fst → ((ix a1_s.snd (0 : Int)).fst < (ix a1_s.snd (1 : Int)).fst → (IntKind.i64.wrap ((ix a1_s.snd (1 : Int)).fst - (ix a1_s.snd (0 : Int)).fst) = (1 : Int) → (Ty.int IntKind.i64).kd.wf (cmpB (ix a1_s.snd (0 : Int)).snd.fst.fst a0_key) → (cmpB (ix a1_s.snd (0 : Int)).snd.fst.fst a0_key < (0 : Int) → (Ty.int IntKind.i64).kd.wf (cmpB a0_key (ix a1_s.snd (1 : Int)).snd.fst.fst) → Q false (decide (cmpB a0_key (ix a1_s.snd (1 : Int)).snd.fst.fst < (0 : Int)))) ∧ (¬cmpB (ix a1_s.snd (0 : Int)).snd.fst.fst a0_key < (0 : Int) → Q false false)) ∧ (¬IntKind.i64.wrap ((ix a1_s.snd (1 : Int)).fst - (ix a1_s.snd (0 : Int)).fst) = (1 : Int) → Q false false)) ∧ (¬(ix a1_s.snd (0 : Int)).fst < (ix a1_s.snd (1 : Int)).fst → Q false false)) ∧ (¬(0 : Int) ≤ (ix a1_s.snd (0 : Int)).fst → Q false false))
noncomputable def qfM : Ctr := ⟨[.v (.sl .byte), .v (.pr (.int .i64) (.sl (.pr (.int .i64) (.pr (.pr (.sl .byte) (.sl .byte)) (.sl (.arr 32 .byte))))))], [.v .bool, .v .bool], none, fun a => (fun (a0_key : List UInt8) (a1_s : Int × List (Int × ((List UInt8) × List UInt8) × List (List UInt8))) => (((qds a0_key a1_s).1, (qds a0_key a1_s).2, ()), (()))) a.1 a.2.1⟩
noncomputable def qpB : Fx := ⟨seat, some bkT, fns, [(75, qqG)], [], [], [(4, [], [.o 0 2, .o 1 2, .o 2 2, .o 3 2, .o 4 2]), (7, [], [.o 0 2, .o 1 2, .o 2 2, .o 3 2, .o 4 2, .o 5 2, .o 6 2, .o 7 2, .o 8 2, .o 9 2, .o 10 2, .o 11 2, .o 12 2, .o 13 2, .o 14 2, .o 15 2, .o 16 2, .o 17 2, .o 18 2, .o 19 2, .o 20 2, .o 21 2, .o 22 2, .o 23 2, .o 24 2, .o 25 2, .o 26 2, .o 27 2, .o 28 2, .o 29 2, .o 30 2]), (9, [1, 2], [.o 0 2, .o 1 2, .o 2 2, .o 3 3, .o 4 3, .o 5 3, .par [6, 7] (.alt 6 0 (.one 7 0 .fin) (.alt 7 0 (.one 6 0 .fin) .fin)), .o 8 1, .o 9 1])]⟩
def qiX (a0_key : List UInt8) (a1_s : Int × List (Int × ((List UInt8) × List UInt8) × List (List UInt8))) (Q : Bool → Bool → Prop) : Prop :=
 ((a1_s.snd.length : Int) = (0 : Int) → Q false (decide (a1_s.fst = (0 : Int)))) ∧ (¬(a1_s.snd.length : Int) = (0 : Int) → ((a1_s.snd.length : Int) = (1 : Int) → ((0 : Int) ≤ (0 : Int) ∧ (0 : Int) < (a1_s.snd.length : Int)) ∧ ((Ty.int IntKind.i64).kd.wf (cmpB a0_key (ix a1_s.snd (0 : Int)).snd.fst.fst) → (cmpB a0_key (ix a1_s.snd (0 : Int)).snd.fst.fst = (0 : Int) → Q (decide (cmpB a0_key (ix a1_s.snd (0 : Int)).snd.fst.fst = (0 : Int))) true) ∧ (¬cmpB a0_key (ix a1_s.snd (0 : Int)).snd.fst.fst = (0 : Int) → (cmpB a0_key (ix a1_s.snd (0 : Int)).snd.fst.fst < (0 : Int) → ((0 : Int) ≤ (0 : Int) ∧ (0 : Int) < (a1_s.snd.length : Int)) ∧ ((ix a1_s.snd (0 : Int)).fst = (0 : Int) → Q (decide (cmpB a0_key (ix a1_s.snd (0 : Int)).snd.fst.fst = (0 : Int))) true) ∧ (¬(ix a1_s.snd (0 : Int)).fst = (0 : Int) → ((0 : Int) < cmpB a0_key (ix a1_s.snd (0 : Int)).snd.fst.fst → ((0 : Int) ≤ (0 : Int) ∧ (0 : Int) < (a1_s.snd.length : Int)) ∧ Q (decide (cmpB a0_key (ix a1_s.snd (0 : Int)).snd.fst.fst = (0 : Int))) (decide ((ix a1_s.snd (0 : Int)).fst = IntKind.i64.wrap (a1_s.fst - (1 : Int))))) ∧ (¬(0 : Int) < cmpB a0_key (ix a1_s.snd (0 : Int)).snd.fst.fst → Q (decide (cmpB a0_key (ix a1_s.snd (0 : Int)).snd.fst.fst = (0 : Int))) false))) ∧ (¬cmpB a0_key (ix a1_s.snd (0 : Int)).snd.fst.fst < (0 : Int) → ((0 : Int) < cmpB a0_key (ix a1_s.snd (0 : Int)).snd.fst.fst → ((0 : Int) ≤ (0 : Int) ∧ (0 : Int) < (a1_s.snd.length : Int)) ∧ Q (decide (cmpB a0_key (ix a1_s.snd (0 : Int)).snd.fst.fst = (0 : Int))) (decide ((ix a1_s.snd (0 : Int)).fst = IntKind.i64.wrap (a1_s.fst - (1 : Int))))) ∧ (¬(0 : Int) < cmpB a0_key (ix a1_s.snd (0 : Int)).snd.fst.fst → Q (decide (cmpB a0_key (ix a1_s.snd (0 : Int)).snd.fst.fst = (0 : Int))) false))))) ∧ (¬(a1_s.snd.length : Int) = (1 : Int) → ((a1_s.snd.length : Int) = (2 : Int) → ((0 : Int) ≤ (0 : Int) ∧ (0 : Int) < (a1_s.snd.length : Int)) ∧ ((0 : Int) ≤ (1 : Int) ∧ (1 : Int) < (a1_s.snd.length : Int)) ∧ (qgn a0_key a1_s Q) ∧ (qgn a0_key a1_s Q) ∧ True) ∧ (¬(a1_s.snd.length : Int) = (2 : Int) → Q false false)))
theorem qse {a0_key : List UInt8} {a1_s : Int × List (Int × ((List UInt8) × List UInt8) × List (List UInt8))} (w_0 : (Ty.kd (.sl .byte)).wf a0_key) (w_1 : (Ty.kd (.pr (.int .i64) (.sl (.pr (.int .i64) (.pr (.pr (.sl .byte) (.sl .byte)) (.sl (.arr 32 .byte))))))).wf a1_s) : qiX a0_key a1_s (fun o0 o1 => o0 = (qds a0_key a1_s).1 ∧ o1 = (qds a0_key a1_s).2) := by
 obtain ⟨n, l⟩ := a1_s
 unfold qiX
 refine ⟨fun h => ?_, fun h0 => ⟨fun h1 => ?_, fun h1 => ⟨fun h2 => ?_, fun h2 => ?_⟩⟩⟩
 ·obtain rfl : l = [] := List.length_eq_zero_iff.1 (by have h : (l.length : Int) = 0 := h; omega)
  exact ⟨rfl, rfl⟩
 ·obtain ⟨a, rfl⟩ := List.length_eq_one_iff.1 (show l.length = 1 by have h1 : (l.length : Int) = 1 := h1; omega)
  have e : ix [a] 0 = a := rfl
  simp only [e]
  generalize hc : cmpB a0_key a.2.1.1 = c
  have s1 : (qds a0_key (n, [a])).1 = decide (c = 0) := by rw [← hc]; rfl
  have s2 : (qds a0_key (n, [a])).2 = decide (c = 0 ∨ c < 0 ∧ a.1 = 0 ∨ 0 < c ∧ a.1 = IntKind.i64.wrap (n - 1)) := by rw [← hc]; rfl
  rw [s1, s2]
  have b : (0 : Int) ≤ 0 ∧ (0 : Int) < (([a] : List Sp).length : Int) := by simp
  refine ⟨b, fun _ => ⟨fun g1 => ⟨rfl, (decide_eq_true (.inl g1)).symm⟩, fun g1 => ⟨fun g2 => ⟨b, fun g3 => ⟨rfl, (decide_eq_true (.inr (.inl ⟨g2, g3⟩))).symm⟩, fun g3 => ⟨fun g4 => by omega, fun g4 => ⟨rfl, (decide_eq_false (by omega)).symm⟩⟩⟩, fun g2 => ⟨fun g3 => ⟨b, rfl, decide_eq_decide.2 (by constructor <;> intro h <;> omega)⟩, fun g3 => by omega⟩⟩⟩⟩
 ·obtain ⟨a, b, rfl⟩ : ∃ a b, l = [a, b] := by
   rcases l with _ | ⟨a, _ | ⟨b, _ | ⟨c, l⟩⟩⟩
   ·simp at h2
   ·simp at h2
   ·exact ⟨a, b, rfl⟩
   ·have h2 : ((l.length + 1 + 1 + 1 : Nat) : Int) = 2 := h2
    omega
  have e : ix [a, b] 0 = a := rfl
  have e' : ix [a, b] 1 = b := rfl
  have wa : a.1 ≤ 9223372036854775807 := (w_1.2.2 a (by simp)).1.2
  have wb : b.1 ≤ 9223372036854775807 := (w_1.2.2 b (by simp)).1.2
  have key : qgn a0_key (n, [a, b]) (fun o0 o1 => o0 = (qds a0_key (n, [a, b])).1 ∧ o1 = (qds a0_key (n, [a, b])).2) := by
   unfold qgn
   simp only [e, e']
   have s1 : (qds a0_key (n, [a, b])).1 = false := rfl
   have s2 : (qds a0_key (n, [a, b])).2 = decide (0 ≤ a.1 ∧ a.1 < b.1 ∧ b.1 - a.1 = 1 ∧ cmpB a.2.1.1 a0_key < 0 ∧ cmpB a0_key b.2.1.1 < 0) := rfl
   rw [s1, s2]
   refine ⟨fun g1 => ⟨fun g2 => ?_, fun g2 => ⟨rfl, (decide_eq_false (by omega)).symm⟩⟩, fun g1 => ⟨rfl, (decide_eq_false (by omega)).symm⟩⟩
   have ew : IntKind.i64.wrap (b.1 - a.1) = b.1 - a.1 := qak (wf64 (by omega) (by omega))
   rw [ew]
   refine ⟨fun g3 _ => ⟨fun g4 _ => ⟨rfl, decide_eq_decide.2 (by constructor <;> intro h <;> omega)⟩, fun g4 => ⟨rfl, (decide_eq_false (by omega)).symm⟩⟩, fun g3 => ⟨rfl, (decide_eq_false (by omega)).symm⟩⟩
  exact ⟨by simp, by simp, key, key, trivial⟩
 ·match l, h0, h1, h2 with
  | [], h0, h1, h2 => simp at h0
  | [a], h0, h1, h2 => simp at h1
  | [a, b], h0, h1, h2 => simp at h2
  | a :: b :: c :: l, h0, h1, h2 => exact ⟨rfl, rfl⟩
theorem qsd : (∀ a, qfM.pre a → PM.wfP qfM.pm a (fvc qpB 200 77 qfM a (eqO qfM a))) = (∀ a : (List UInt8) × (Int × List (Int × ((List UInt8) × List UInt8) × List (List UInt8))) × Unit, True → (Ty.kd (.sl .byte)).wf a.1 → (Ty.kd (.pr (.int .i64) (.sl (.pr (.int .i64) (.pr (.pr (.sl .byte) (.sl .byte)) (.sl (.arr 32 .byte))))))).wf a.2.1 → qiX a.1 a.2.1 (fun o0 o1 => o0 = (qds (a.1) (a.2.1)).1 ∧ o1 = (qds (a.1) (a.2.1)).2)) := by kernel_rfl
theorem quQ : qfM.valid Try.prog 77 := qar (X := qpB) (qaH qai (fun b hb => by cases hb; exact qap) qaq ⟨qtD, trivial⟩) 200 (qsd.mpr fun a hp w_0 w_1 => @qse a.1 a.2.1 w_0 w_1)
noncomputable def qmp : Ctr := ⟨[.nil, .v (.sl (.pr (.sl .byte) (.sl .byte)))], [.v (.arr 32 .byte)], some (fun a => (fun (a1_l : List ((List UInt8) × List UInt8)) => (a1_l.length ≤ 65536 ∧ (∀ p ∈ a1_l, p.1.length + p.2.length ≤ 70368744177664) : Prop)) a.2.1), fun a => (fun (a1_l : List ((List UInt8) × List UInt8)) => (((qa4 a1_l), ()), (()))) a.2.1⟩
theorem qr5 : qmp.valid Try.prog 32 :=
 qwI qpt (fun _ => rfl) (fun a θ θ' n n' K vs h => by
  obtain ⟨v0, vs, rfl, h0, h⟩ := h
  exact ⟨v0, _, rfl, SVal.of_rel (t := .sl (.pr (.sl .byte) (.sl .byte))) (qdr (t := .sl (.pr (.sl .byte) (.sl .byte))) h0 rfl), h⟩) (fun _ => rfl) (fun a hp => ⟨hp, fun y h => by cases h⟩) (fun a _ => rfl)
end Go.Proofs.Ytmjjkpiglbpkhaa

set_option linter.unusedVariables false
namespace Go.Inc
open Go Go.RowKit
section
variable {P : Program} {f : FuncId} {pm : List PM} {rm : List RM} {e : Nat}
end
end Go.Inc

set_option linter.unusedVariables false
set_option maxRecDepth 100000
set_option maxHeartbeats 20000000
namespace Go.Proofs.Ytmjjkpiglbpkhaa
open Go Go.RowKit Go.Inc
end Go.Proofs.Ytmjjkpiglbpkhaa

set_option linter.unusedVariables false
set_option maxRecDepth 100000
set_option maxHeartbeats 20000000
namespace Go.Proofs.Ytmjjkpiglbpkhaa
open Go Go.RowKit Go.Inc
noncomputable def qia : Ctr := ⟨[.v (.pr (.int .i64) (.sl (.pr (.int .i64) (.pr (.pr (.sl .byte) (.sl .byte)) (.sl (.arr 32 .byte))))))], [.v .bool], none, fun a => (fun (a0_s : Int × List (Int × ((List UInt8) × List UInt8) × List (List UInt8))) => (((qnB a0_s), ()), (()))) a.1⟩
noncomputable def qtw : Fx := ⟨seat, some bkT, fns, [], [], [], []⟩
def qly (a0_s : Int × List (Int × ((List UInt8) × List UInt8) × List (List UInt8))) (Q : Bool → Prop) : Prop :=
 ∃ (x0 : Int → Int → Prop), ∃ (x1 : Int → Int → Nat), x0 (100000 : Int) (0 : Int) ∧ ∀ (x2 x3 : Int), x0 x2 x3 → (Kd.int IntKind.i64).wf x2 → (Kd.int IntKind.i64).wf x3 → (x3 < (a0_s.snd.length : Int) → (x3 ≤ (10 : Int) → ((0 : Int) ≤ x2 → ((0 : Int) ≤ x3 ∧ x3 < (a0_s.snd.length : Int)) ∧ x3 < (9223372036854775807 : Int) ∧ x0 (IntKind.i64.wrap (x2 - IntKind.i64.wrap (IntKind.i64.wrap ((bif false then max ((ix a0_s.snd x3).snd.fst.fst.length : Int) (200000 : Int) else min ((ix a0_s.snd x3).snd.fst.fst.length : Int) (200000 : Int)) + bif false then max ((ix a0_s.snd x3).snd.fst.snd.length : Int) (200000 : Int) else min ((ix a0_s.snd x3).snd.fst.snd.length : Int) (200000 : Int)) + IntKind.i64.wrap ((1000 : Int) * bif false then max ((ix a0_s.snd x3).snd.snd.length : Int) (200 : Int) else min ((ix a0_s.snd x3).snd.snd.length : Int) (200 : Int))))) (x3 + (1 : Int)) ∧ x1 (IntKind.i64.wrap (x2 - IntKind.i64.wrap (IntKind.i64.wrap ((bif false then max ((ix a0_s.snd x3).snd.fst.fst.length : Int) (200000 : Int) else min ((ix a0_s.snd x3).snd.fst.fst.length : Int) (200000 : Int)) + bif false then max ((ix a0_s.snd x3).snd.fst.snd.length : Int) (200000 : Int) else min ((ix a0_s.snd x3).snd.fst.snd.length : Int) (200000 : Int)) + IntKind.i64.wrap ((1000 : Int) * bif false then max ((ix a0_s.snd x3).snd.snd.length : Int) (200 : Int) else min ((ix a0_s.snd x3).snd.snd.length : Int) (200 : Int))))) (x3 + (1 : Int)) < x1 x2 x3) ∧ (¬(0 : Int) ≤ x2 → ((10 : Int) < (a0_s.snd.length : Int) → Q true) ∧ (¬(10 : Int) < (a0_s.snd.length : Int) → Q (decide (x2 < (0 : Int)))))) ∧ (¬x3 ≤ (10 : Int) → ((10 : Int) < (a0_s.snd.length : Int) → Q true) ∧ (¬(10 : Int) < (a0_s.snd.length : Int) → Q (decide (x2 < (0 : Int)))))) ∧ (¬x3 < (a0_s.snd.length : Int) → ((10 : Int) < (a0_s.snd.length : Int) → Q true) ∧ (¬(10 : Int) < (a0_s.snd.length : Int) → Q (decide (x2 < (0 : Int)))))
theorem qvn {a0_s : Int × List (Int × ((List UInt8) × List UInt8) × List (List UInt8))} (w_0 : (Ty.kd (.pr (.int .i64) (.sl (.pr (.int .i64) (.pr (.pr (.sl .byte) (.sl .byte)) (.sl (.arr 32 .byte))))))).wf a0_s) : qly a0_s (fun o0 => o0 = (qnB a0_s)) := by
 obtain ⟨n, l⟩ := a0_s
 unfold qly
 dsimp only
 have hpos : ∀ x ∈ l.map szW, 0 ≤ x := fun x hx => by obtain ⟨q, _, rfl⟩ := List.mem_map.1 hx; exact qln q
 have hl : l.length ≤ 281474976710656 := w_0.2.1
 refine ⟨fun left i => ∃ j : Nat, i = (j : Int) ∧ j ≤ l.length ∧ j ≤ 11 ∧ left = 100000 - totI ((l.map szW).take j) ∧ -700000 ≤ left ∧ left ≤ 100000, fun _ i => ((l.length : Int) - i).toNat, ⟨0, rfl, Nat.zero_le _, by omega, by simp [totI], by omega, by omega⟩, ?_⟩
 rintro left i ⟨j, rfl, hj, hc, hleft, hlo, hhi⟩ _ _
 have big : (10 : Int) < (l.length : Int) → true = decide (10 < l.length ∨ 100000 < totI (l.map szW)) := fun h => (decide_eq_true (.inl (by omega))).symm
 have neg : left < 0 → ¬ (10 : Int) < (l.length : Int) → decide (left < 0) = decide (10 < l.length ∨ 100000 < totI (l.map szW)) := fun h hb => by
  have h1 := qgb j hpos
  rw [decide_eq_true h]
  exact (decide_eq_true (.inr (by omega))).symm
 have all : j = l.length → ¬ (10 : Int) < (l.length : Int) → decide (left < 0) = decide (10 < l.length ∨ 100000 < totI (l.map szW)) := fun h hb => by
  rw [h, List.take_of_length_le (by rw [List.length_map]; exact Nat.le_refl _)] at hleft
  exact decide_eq_decide.2 ⟨fun hn => .inr (by omega), fun hn => by omega⟩
 refine ⟨fun hlt => ⟨fun h100 => ⟨fun h0 => ?_, fun h0 => ⟨big, neg (by omega)⟩⟩, fun h100 => ⟨big, fun hb => absurd hb (by omega)⟩⟩, fun hge => ⟨big, all (by omega)⟩⟩
 have hj' : j < l.length := by omega
 have htk := qkd (l := l.map szW) (i := j) (by rw [List.length_map]; exact hj')
 rw [List.getElem_map] at htk
 have hsz : szW l[j] = min (l[j].2.1.1.length : Int) 200000 + min (l[j].2.1.2.length : Int) 200000 + 1000 * min (l[j].2.2.length : Int) 200 := rfl
 have h1 := qln l[j]
 rw [ixN hj']
 simp only [cond_false]
 have w0 : IntKind.i64.wrap (1000 * min (l[j].2.2.length : Int) 200) = 1000 * min (l[j].2.2.length : Int) 200 := qak (wf64 (by omega) (by omega))
 have w1 : IntKind.i64.wrap (min (l[j].2.1.1.length : Int) 200000 + min (l[j].2.1.2.length : Int) 200000 + 1000 * min (l[j].2.2.length : Int) 200) = szW l[j] := by
  rw [hsz]
  exact qak (wf64 (by omega) (by omega))
 have w3 : IntKind.i64.wrap (min (l[j].2.1.1.length : Int) 200000 + min (l[j].2.1.2.length : Int) 200000) = min (l[j].2.1.1.length : Int) 200000 + min (l[j].2.1.2.length : Int) 200000 := qak (wf64 (by omega) (by omega))
 have w2 : IntKind.i64.wrap (left - szW l[j]) = left - szW l[j] := qak (wf64 (by omega) (by omega))
 rw [w0]
 first | rw [w1, w2] | rw [w3, w1, w2]
 exact ⟨⟨by omega, by show (j : Int) < (l.length : Int); omega⟩, by omega, ⟨j + 1, rfl, hj', by omega, by omega, by omega, by omega⟩, by omega⟩
theorem qvm : (∀ a, qia.pre a → PM.wfP qia.pm a (fvc qtw 200 35 qia a (eqO qia a))) = (∀ a : (Int × List (Int × ((List UInt8) × List UInt8) × List (List UInt8))) × Unit, True → (Ty.kd (.pr (.int .i64) (.sl (.pr (.int .i64) (.pr (.pr (.sl .byte) (.sl .byte)) (.sl (.arr 32 .byte))))))).wf a.1 → qly a.1 (fun o0 => o0 = (qnB (a.1)))) := by kernel_rfl
theorem qw4 : qia.valid Try.prog 35 := qar (X := qtw) (qaH qai (fun b hb => by cases hb; exact qap) qaq trivial) 200 (qvm.mpr fun a hp w_0 => @qvn a.1 w_0)
noncomputable def qeg : Ctr := ⟨[], [.ow 57 (.pr (.sl .byte) (.sl .byte))], none, fun _ => ((qac, ()), (()))⟩
noncomputable def qmN : Fx := ⟨seat, some bkT, fns, [], [], [], []⟩
def qkc (Q : (List ((List UInt8) × List UInt8)) → Prop) : Prop :=
 toB (98 : Int) :: ([] : List UInt8) ≠ ([] : List UInt8) ∧ toB (49 : Int) :: ([] : List UInt8) ≠ ([] : List UInt8) ∧ toB (100 : Int) :: ([] : List UInt8) ≠ ([] : List UInt8) ∧ toB (50 : Int) :: ([] : List UInt8) ≠ ([] : List UInt8) ∧ toB (102 : Int) :: ([] : List UInt8) ≠ ([] : List UInt8) ∧ toB (51 : Int) :: ([] : List UInt8) ≠ ([] : List UInt8) ∧ Q ((toB (98 : Int) :: ([] : List UInt8), toB (49 : Int) :: ([] : List UInt8)) :: (toB (100 : Int) :: ([] : List UInt8), toB (50 : Int) :: ([] : List UInt8)) :: (toB (102 : Int) :: ([] : List UInt8), toB (51 : Int) :: ([] : List UInt8)) :: ([] : List (List UInt8 × List UInt8)))
theorem qqd  : qkc  (fun o0 => o0 = qac) := by
 exact ⟨by simp, by simp, by simp, by simp, by simp, by simp, rfl⟩
theorem qqc : (∀ a, qeg.pre a → PM.wfP qeg.pm a (fvc qmN 200 76 qeg a (eqO qeg a))) = (∀ a : Unit, True → qkc  (fun o0 => o0 = qac)) := by kernel_rfl
theorem qsA : qeg.valid Try.prog 76 := qar (X := qmN) (qaH qai (fun b hb => by cases hb; exact qap) qaq trivial) 200 (qqc.mpr fun a hp  => @qqd )
def qmK : List UInt8 := [50]
end Go.Proofs.Ytmjjkpiglbpkhaa

set_option linter.unusedVariables false
set_option maxRecDepth 100000
set_option maxHeartbeats 20000000
namespace Go.Proofs.Ytmjjkpiglbpkhaa
open Go Go.RowKit Go.Inc
noncomputable def qdT : Ctr := ⟨[.v (.sl .byte)], [.rw 5 .byte], some (fun a => (fun (a0_s : List UInt8) => (a0_s.length ≤ 140737488355328 : Prop)) a.1), fun a => (fun (a0_s : List UInt8) => ((a0_s, ()), (()))) a.1⟩
noncomputable def qlB : Fx := ⟨{ seat with rws := [5, 1000005] }, some bkT, fns, [], [], [], []⟩
def qgv (a0_s : List UInt8) (Q : (List UInt8) → Prop) : Prop :=
 ∀ (x0 : Bool), (x0 = true → a0_s = ([] : List UInt8)) → (x0 = true → Q ([] : List UInt8)) ∧ (x0 = false → (([] : List UInt8).length + a0_s.length) * (1 : Nat) ≤ (140737488355328 : Nat) ∧ Q (([] : List UInt8) ++ a0_s))
theorem qnI {a0_s : List UInt8} (w_0 : (Ty.kd (.sl .byte)).wf a0_s) (hp : a0_s.length ≤ 140737488355328) : qgv a0_s (fun o0 => o0 = a0_s) := by
 unfold qgv
 intro r hr
 refine ⟨fun h => ?_, fun _ => ⟨?_, rfl⟩⟩
 ·rw [hr h]
 ·simpa using hp
theorem qnH : (∀ a, qdT.pre a → PM.wfP qdT.pm a (fvc qlB 200 69 qdT a (eqO qdT a))) = (∀ a : (List UInt8) × Unit, ((a.1).length ≤ 140737488355328) → (Ty.kd (.sl .byte)).wf a.1 → qgv a.1 (fun o0 => o0 = (a.1))) := by kernel_rfl
theorem qqD : qdT.valid Try.prog 69 := qar (X := qlB) (qaH (qai.rows [5, 1000005]) (fun b hb => by cases hb; exact qap) qaq trivial) 200 (qnH.mpr fun a hp w_0 => @qnI a.1 w_0 hp)
def qdE (a1_root : List UInt8) (a2_key : List UInt8) (a3_s : Int × List (Int × ((List UInt8) × List UInt8) × List (List UInt8))) (Q : (List UInt8) → Bool → Int → Prop) (x0 : List UInt8 → Bool → Int → Int → List UInt8 → Prop) (x1 : List UInt8 → Bool → Int → Int → List UInt8 → Nat) (x2 : List UInt8) (x3 : Bool) (x4 : Int) (x5 : Int) (x6 : List UInt8) : Prop :=
 ((Ty.arr (32 : Nat) Ty.byte).kd.wf (qaG a3_s.fst (ix a3_s.snd x5).fst (qaK (ix a3_s.snd x5).snd.fst) (ix a3_s.snd x5).snd.snd) → (Ty.int IntKind.i64).kd.wf (qhw a3_s.fst (ix a3_s.snd x5).fst (ix a3_s.snd x5).snd.snd) → (qhw a3_s.fst (ix a3_s.snd x5).fst (ix a3_s.snd x5).snd.snd ≠ (0 : Int) → Q ([] : List UInt8) false (10 : Int)) ∧ (¬qhw a3_s.fst (ix a3_s.snd x5).fst (ix a3_s.snd x5).snd.snd ≠ (0 : Int) → ((0 : Int) < x5 → (qaG a3_s.fst (ix a3_s.snd x5).fst (qaK (ix a3_s.snd x5).snd.fst) (ix a3_s.snd x5).snd.snd ≠ x6 → Q ([] : List UInt8) false (10 : Int)) ∧ (¬qaG a3_s.fst (ix a3_s.snd x5).fst (qaK (ix a3_s.snd x5).snd.fst) (ix a3_s.snd x5).snd.snd ≠ x6 → x5 < (9223372036854775807 : Int) ∧ x0 x2 x3 x4 (x5 + (1 : Int)) (qaG a3_s.fst (ix a3_s.snd x5).fst (qaK (ix a3_s.snd x5).snd.fst) (ix a3_s.snd x5).snd.snd) ∧ x1 x2 x3 x4 (x5 + (1 : Int)) (qaG a3_s.fst (ix a3_s.snd x5).fst (qaK (ix a3_s.snd x5).snd.fst) (ix a3_s.snd x5).snd.snd) < x1 x2 x3 x4 x5 x6)) ∧ (¬(0 : Int) < x5 → x5 < (9223372036854775807 : Int) ∧ x0 x2 x3 x4 (x5 + (1 : Int)) (qaG a3_s.fst (ix a3_s.snd x5).fst (qaK (ix a3_s.snd x5).snd.fst) (ix a3_s.snd x5).snd.snd) ∧ x1 x2 x3 x4 (x5 + (1 : Int)) (qaG a3_s.fst (ix a3_s.snd x5).fst (qaK (ix a3_s.snd x5).snd.fst) (ix a3_s.snd x5).snd.snd) < x1 x2 x3 x4 x5 x6)))
def qeV (a1_root : List UInt8) (a2_key : List UInt8) (a3_s : Int × List (Int × ((List UInt8) × List UInt8) × List (List UInt8))) (Q : (List UInt8) → Bool → Int → Prop) (x0 : List UInt8 → Bool → Int → Int → List UInt8 → Prop) (x1 : List UInt8 → Bool → Int → Int → List UInt8 → Nat) (x2 : List UInt8) (x3 : Bool) (x4 : Int) (x5 : Int) (x6 : List UInt8) : Prop :=
 (x5 < (a3_s.snd.length : Int) → ((0 : Int) ≤ x5 ∧ x5 < (a3_s.snd.length : Int)) ∧ (((ix a3_s.snd x5).snd.fst.fst.length + (ix a3_s.snd x5).snd.fst.snd.length ≤ (70368744177664 : Nat) ∧ qaJ (none : Option (List Nt × Int))) ∧ ((Ty.arr (32 : Nat) Ty.byte).kd.wf (qaK (ix a3_s.snd x5).snd.fst) → (((ix a3_s.snd x5).snd.snd.length ≤ (1048576 : Nat) ∧ qaf (none : Option (List Nt × Int)) (ix a3_s.snd x5).snd.snd.length) ∧ (qdE a1_root a2_key a3_s Q x0 x1 x2 x3 x4 x5 x6)) ∧ (((ix a3_s.snd x5).snd.snd.length ≤ (1048576 : Nat) ∧ qaf (none : Option (List Nt × Int)) (ix a3_s.snd x5).snd.snd.length) ∧ (qdE a1_root a2_key a3_s Q x0 x1 x2 x3 x4 x5 x6)) ∧ True)) ∧ (((ix a3_s.snd x5).snd.fst.fst.length + (ix a3_s.snd x5).snd.fst.snd.length ≤ (70368744177664 : Nat) ∧ qaJ (none : Option (List Nt × Int))) ∧ ((Ty.arr (32 : Nat) Ty.byte).kd.wf (qaK (ix a3_s.snd x5).snd.fst) → ((ix a3_s.snd x5).snd.snd.length ≤ (1048576 : Nat) ∧ qaf (none : Option (List Nt × Int)) (ix a3_s.snd x5).snd.snd.length) ∧ (qdE a1_root a2_key a3_s Q x0 x1 x2 x3 x4 x5 x6))) ∧ True)
def qeW (a1_root : List UInt8) (a2_key : List UInt8) (a3_s : Int × List (Int × ((List UInt8) × List UInt8) × List (List UInt8))) (Q : (List UInt8) → Bool → Int → Prop) (x5 : Int) (x6 : List UInt8) : Prop :=
 (¬x5 < (a3_s.snd.length : Int) → ((0 : Int) ≤ a3_s.fst ∧ qaJ (none : Option (List Nt × Int))) ∧ ((Ty.arr (32 : Nat) Ty.byte).kd.wf (qbr a3_s.fst x6) → (qbr a3_s.fst x6 ≠ a1_root → Q ([] : List UInt8) false (10 : Int)) ∧ (¬qbr a3_s.fst x6 ≠ a1_root → (¬(qds a2_key a3_s).fst = true → Q ([] : List UInt8) false (0 : Int)) ∧ ((qds a2_key a3_s).fst = true → ((0 : Int) ≤ (0 : Int) ∧ (0 : Int) < (a3_s.snd.length : Int)) ∧ (ix a3_s.snd (0 : Int)).snd.fst.snd.length ≤ (140737488355328 : Nat) ∧ (Ty.byte.kd.sl.wf (ix a3_s.snd (0 : Int)).snd.fst.snd → Q (ix a3_s.snd (0 : Int)).snd.fst.snd true (0 : Int))))))
noncomputable def qdk : Ctr := ⟨[.nil, .v (.arr 32 .byte), .v (.sl .byte), .v (.pr (.int .i64) (.sl (.pr (.int .i64) (.pr (.pr (.sl .byte) (.sl .byte)) (.sl (.arr 32 .byte))))))], [.rw 5 .byte, .v .bool, .v (.int .i64)], some (fun a => (fun (a1_root : List UInt8) (a2_key : List UInt8) (a3_s : Int × List (Int × ((List UInt8) × List UInt8) × List (List UInt8))) => (∀ x ∈ a3_s.2, (x.2.1.1.length + x.2.1.2.length ≤ 70368744177664 ∧ x.2.2.length ≤ 65536) : Prop)) a.2.1 a.2.2.1 a.2.2.2.1), fun a => (fun (a1_root : List UInt8) (a2_key : List UInt8) (a3_s : Int × List (Int × ((List UInt8) × List UInt8) × List (List UInt8))) => (((qaZ a1_root a2_key a3_s), (qa5 a1_root a2_key a3_s), (qaN a1_root a2_key a3_s), ()), (()))) a.2.1 a.2.2.1 a.2.2.2.1⟩
noncomputable def qmn : Fx := ⟨{ seat with rws := [5] }, some bkT, fns, [(77, qfM), (58, qiv), (58, qlS), (79, qex), (78, qhF), (80, qdm), (69, qdT)], [], [(8, [2], [])], [(10, [], [.o 0 2, .o 1 2, .o 2 2, .o 3 2, .o 4 2, .o 5 2, .o 6 2, .o 7 2, .o 9 2, .o 10 2, .par [8, 11, 12, 13, 14, 15] (.alt 8 0 (.alt 11 0 (.one 12 2 (.one 13 2 (.one 14 3 (.one 15 0 .fin)))) (.alt 15 0 (.one 11 0 (.one 12 2 (.one 13 2 (.one 14 3 .fin)))) .fin)) (.alt 15 0 (.one 8 0 (.one 11 0 (.one 12 2 (.one 13 2 (.one 14 3 .fin))))) .fin)), .o 16 1, .o 17 3]), (15, [], [.o 0 2, .o 1 2, .o 2 2, .o 3 2, .o 5 2, .o 4 0, .o 6 2, .o 7 2])]⟩
def qg1 (a1_root : List UInt8) (a2_key : List UInt8) (a3_s : Int × List (Int × ((List UInt8) × List UInt8) × List (List UInt8))) (Q : (List UInt8) → Bool → Int → Prop) : Prop :=
 (¬(qds a2_key a3_s).snd = true → Q ([] : List UInt8) false (10 : Int)) ∧ ((qds a2_key a3_s).snd = true → (a3_s.fst < (0 : Int) → Q ([] : List UInt8) false (10 : Int)) ∧ (¬a3_s.fst < (0 : Int) → (a3_s.fst = (0 : Int) → ([] : List (List UInt8)).length ≤ (1048576 : Nat) ∧ ((Ty.arr (32 : Nat) Ty.byte).kd.wf (qaD ([] : List (List UInt8))) → ∃ (x0 : List UInt8 → Bool → Int → Int → List UInt8 → Prop), ∃ (x1 : List UInt8 → Bool → Int → Int → List UInt8 → Nat), x0 ([] : List UInt8) false (0 : Int) (0 : Int) (qaD ([] : List (List UInt8))) ∧ ∀ (x2 : List UInt8) (x3 : Bool) (x4 x5 : Int) (x6 : List UInt8), x0 x2 x3 x4 x5 x6 → Ty.byte.kd.sl.wf x2 → (Kd.int IntKind.i64).wf x4 → (Kd.int IntKind.i64).wf x5 → (Ty.arr (32 : Nat) Ty.byte).kd.wf x6 → (qeV a1_root a2_key a3_s Q x0 x1 x2 x3 x4 x5 x6) ∧ (qeW a1_root a2_key a3_s Q x5 x6))) ∧ (¬a3_s.fst = (0 : Int) → ∃ (x0 : List UInt8 → Bool → Int → Int → List UInt8 → Prop), ∃ (x1 : List UInt8 → Bool → Int → Int → List UInt8 → Nat), x0 ([] : List UInt8) false (0 : Int) (0 : Int) (Ty.arr (32 : Nat) Ty.byte).kd.z ∧ ∀ (x2 : List UInt8) (x3 : Bool) (x4 x5 : Int) (x6 : List UInt8), x0 x2 x3 x4 x5 x6 → Ty.byte.kd.sl.wf x2 → (Kd.int IntKind.i64).wf x4 → (Kd.int IntKind.i64).wf x5 → (Ty.arr (32 : Nat) Ty.byte).kd.wf x6 → (qeV a1_root a2_key a3_s Q x0 x1 x2 x3 x4 x5 x6) ∧ (qeW a1_root a2_key a3_s Q x5 x6))))
theorem qpr {a1_root : List UInt8} {a2_key : List UInt8} {a3_s : Int × List (Int × ((List UInt8) × List UInt8) × List (List UInt8))} (w_0 : (Ty.kd (.arr 32 .byte)).wf a1_root) (w_1 : (Ty.kd (.sl .byte)).wf a2_key) (w_2 : (Ty.kd (.pr (.int .i64) (.sl (.pr (.int .i64) (.pr (.pr (.sl .byte) (.sl .byte)) (.sl (.arr 32 .byte))))))).wf a3_s) (hp : ∀ x ∈ a3_s.2, (x.2.1.1.length + x.2.1.2.length ≤ 70368744177664 ∧ x.2.2.length ≤ 65536)) : qg1 a1_root a2_key a3_s (fun o0 o1 o2 => o0 = (qaZ a1_root a2_key a3_s) ∧ o1 = (qa5 a1_root a2_key a3_s) ∧ o2 = (qaN a1_root a2_key a3_s)) := by
 obtain ⟨n, l⟩ := a3_s
 have hs : ∀ x ∈ l, x.2.1.1.length + x.2.1.2.length ≤ 70368744177664 ∧ x.2.2.length ≤ 65536 := hp
 have hwn : (Kd.int .i64).wf n := w_2.1
 unfold qg1
 refine ⟨fun h => ?_, fun hok => ⟨fun hn => ?_, fun hn => ?_⟩⟩
 ·have e : qdn a1_root a2_key (n, l) = none := if_neg (fun hc => h (by rw [qmF hc.2 hwn]; exact hc.1))
  unfold qaZ qa5 qaN
  rw [e]
  exact ⟨rfl, rfl, rfl⟩
 ·have e : qdn a1_root a2_key (n, l) = none := if_neg (fun hc => by have h1 : 0 ≤ n := hc.2; have hn : n < 0 := hn; omega)
  unfold qaZ qa5 qaN
  rw [e]
  exact ⟨rfl, rfl, rfl⟩
 have hn0 : 0 ≤ n := by have hn : ¬ n < 0 := hn; omega
 have eW : qds a2_key (n, l) = qbH a2_key (n, l) := qmF hn0 hwn
 rw [eW] at hok
 have hsay : (qbH a2_key (n, l)).2 = true ∧ 0 ≤ n := ⟨hok, hn0⟩
 have hl2 : l.length ≤ 2 := by
  rcases l with _ | ⟨a, _ | ⟨b, _ | ⟨c, l⟩⟩⟩
  ·simp
  ·simp
  ·simp
  ·cases hok
 have eO : qdn a1_root a2_key (n, l) = (match goK n true l (begK n) with
  | some t => if qbr n t = a1_root then some (qbH a2_key (n, l)).1 else none
  | none => none) := if_pos hsay
 have nr : qaJ (none : qaj) := fun y h => by cases h
 have nu : ∀ k, qaf (none : qaj) k := fun k y h => by cases h
 have fail : goK n true l (begK n) = none → ([] = qaZ a1_root a2_key (n, l) ∧ false = qa5 a1_root a2_key (n, l) ∧ (10 : Int) = qaN a1_root a2_key (n, l)) := fun hg => by
  rw [hg] at eO
  unfold qaZ qa5 qaN
  rw [eO]
  exact ⟨rfl, rfl, rfl⟩
 have step : ∀ (x0 : List UInt8 → Bool → Int → Int → List UInt8 → Prop) (x1 : List UInt8 → Bool → Int → Int → List UInt8 → Nat),
  (x0 = fun x2 x3 x4 x5 x7 => ∃ j : Nat, x5 = (j : Int) ∧ j ≤ l.length ∧ goK n (decide (j = 0)) (l.drop j) x7 = goK n true l (begK n)) →
  (x1 = fun _ _ _ x5 _ => ((l.length : Int) - x5).toNat) → ∀ (x2 : List UInt8) (x3 : Bool) (x4 x5 : Int) (x7 : List UInt8), x0 x2 x3 x4 x5 x7 → qeV a1_root a2_key (n, l) (fun o0 o1 o2 => o0 = (qaZ a1_root a2_key (n, l)) ∧ o1 = (qa5 a1_root a2_key (n, l)) ∧ o2 = (qaN a1_root a2_key (n, l))) x0 x1 x2 x3 x4 x5 x7 ∧ qeW a1_root a2_key (n, l) (fun o0 o1 o2 => o0 = (qaZ a1_root a2_key (n, l)) ∧ o1 = (qa5 a1_root a2_key (n, l)) ∧ o2 = (qaN a1_root a2_key (n, l))) x5 x7 := by
  intro x0 x1 e0 e1 x2 x3 x4 x5 x7 hI
  rw [e0] at hI
  obtain ⟨j, rfl, hj, hg⟩ := hI
  refine ⟨?_, ?_⟩
  ·unfold qeV
   intro hlt
   have hj' : j < l.length := by have hlt : (j : Int) < (l.length : Int) := hlt; omega
   have eix : ix l (j : Int) = l[j] := ixN hj'
   have hsz := hs _ (List.getElem_mem hj')
   rw [List.drop_eq_getElem_cons hj'] at hg
   have k1 : qdE a1_root a2_key (n, l) (fun o0 o1 o2 => o0 = (qaZ a1_root a2_key (n, l)) ∧ o1 = (qa5 a1_root a2_key (n, l)) ∧ o2 = (qaN a1_root a2_key (n, l))) x0 x1 x2 x3 x4 (j : Int) x7 := by
    unfold qdE
    simp only [eix]
    intro _ _
    have hgo : goK n (decide (j = 0)) (l[j] :: l.drop (j + 1)) x7 = if qaM n l[j].1 l[j].2.2 = true ∧ (decide (j = 0) = true ∨ qaG n l[j].1 (qaK l[j].2.1) l[j].2.2 = x7) then goK n false (l.drop (j + 1)) (qaG n l[j].1 (qaK l[j].2.1) l[j].2.2) else none := rfl
    have bad : ¬ (qaM n l[j].1 l[j].2.2 = true ∧ (decide (j = 0) = true ∨ qaG n l[j].1 (qaK l[j].2.1) l[j].2.2 = x7)) → ([] = qaZ a1_root a2_key (n, l) ∧ false = qa5 a1_root a2_key (n, l) ∧ (10 : Int) = qaN a1_root a2_key (n, l)) := fun hc => by
     rw [hgo, if_neg hc] at hg
     exact fail hg.symm
    have good : (qaM n l[j].1 l[j].2.2 = true ∧ (decide (j = 0) = true ∨ qaG n l[j].1 (qaK l[j].2.1) l[j].2.2 = x7)) → (j : Int) < 9223372036854775807 ∧ x0 x2 x3 x4 ((j : Int) + 1) (qaG n l[j].1 (qaK l[j].2.1) l[j].2.2) ∧ x1 x2 x3 x4 ((j : Int) + 1) (qaG n l[j].1 (qaK l[j].2.1) l[j].2.2) < x1 x2 x3 x4 (j : Int) x7 := fun hc => by
     rw [hgo, if_pos hc] at hg
     rw [e0, e1]
     exact ⟨by omega, ⟨j + 1, rfl, hj', hg⟩, by dsimp only; omega⟩
    have el : qhw n l[j].1 l[j].2.2 = if qaM n l[j].1 l[j].2.2 = true then 0 else 10 := rfl
    rw [el]
    by_cases hB : qaM n l[j].1 l[j].2.2 = true
    ·rw [if_pos hB]
     refine ⟨fun h => absurd rfl h, fun _ => ⟨fun hp => ⟨fun hne => bad ?_, fun he => good ⟨hB, .inr (Classical.not_not.1 he)⟩⟩, fun hp => good ⟨hB, .inl (decide_eq_true (by omega))⟩⟩⟩
     rintro ⟨_, h | h⟩
     ·have := of_decide_eq_true h; omega
     ·exact hne h
    ·rw [if_neg hB]
     exact ⟨fun _ => bad fun hc => hB hc.1, fun h => absurd (by decide : (10 : Int) ≠ 0) h⟩
   have b : (0 : Int) ≤ (j : Int) ∧ (j : Int) < ((l.length : Nat) : Int) := ⟨by omega, by omega⟩
   simp only [eix]
   have p16 : l[j].2.2.length ≤ 1048576 := by omega
   exact ⟨b, ⟨⟨hsz.1, nr⟩, fun _ => ⟨⟨⟨p16, nu _⟩, k1⟩, ⟨⟨p16, nu _⟩, k1⟩, trivial⟩⟩, ⟨⟨hsz.1, nr⟩, fun _ => ⟨⟨p16, nu _⟩, k1⟩⟩, trivial⟩
  ·unfold qeW
   intro hge
   obtain rfl : j = l.length := by have hge : ¬ (j : Int) < (l.length : Int) := hge; omega
   rw [List.drop_length] at hg
   have hg : some x7 = goK n true l (begK n) := hg
   rw [← hg] at eO
   have eO : qdn a1_root a2_key (n, l) = if qbr n x7 = a1_root then some (qbH a2_key (n, l)).1 else none := eO
   rw [eW]
   refine ⟨⟨hn0, nr⟩, fun _ => ⟨fun hne => ?_, fun he => ⟨fun hf => ?_, fun ht => ⟨⟨by omega, ?_⟩, ?_, fun _ => ?_⟩⟩⟩⟩
   ·rw [if_neg hne] at eO
    unfold qaZ qa5 qaN
    rw [eO]
    exact ⟨rfl, rfl, rfl⟩
   ·rw [if_pos (Classical.not_not.1 he), Bool.eq_false_iff.2 hf] at eO
    unfold qaZ qa5 qaN
    rw [eO]
    exact ⟨rfl, rfl, rfl⟩
   ·rcases l with _ | ⟨a, l⟩
    ·cases ht
    ·simp
   ·have hp : 0 < l.length := by
     rcases l with _ | ⟨a, l⟩
     ·cases ht
     ·simp
    have := hs _ (List.getElem_mem hp)
    rw [show ix (n, l).2 (0 : Int) = l[0] from ixN (j := 0) hp]
    omega
   ·rw [if_pos (Classical.not_not.1 he), ht] at eO
    unfold qaZ qa5 qaN
    rw [eO]
    exact ⟨rfl, rfl, rfl⟩
 refine ⟨fun h0 => ⟨by simp, fun _ => ⟨_, _, ?_, fun x2 x3 x4 x5 x7 hI _ _ _ _ => step _ _ rfl rfl x2 x3 x4 x5 x7 hI⟩⟩, fun h0 => ⟨_, _, ?_, fun x2 x3 x4 x5 x7 hI _ _ _ _ => step _ _ rfl rfl x2 x3 x4 x5 x7 hI⟩⟩
 ·have h0 : n = 0 := h0
  have e1 : begK n = qaD [] := if_pos h0
  exact ⟨0, rfl, Nat.zero_le _, by rw [e1]; rfl⟩
 ·have h0 : ¬ n = 0 := h0
  have e1 : begK n = sm0L := if_neg h0
  exact ⟨0, rfl, Nat.zero_le _, by rw [e1]; rfl⟩
theorem qpq : (∀ a, qdk.pre a → PM.wfP qdk.pm a (fvc qmn 200 31 qdk a (eqO qdk a))) = (∀ a : Unit × (List UInt8) × (List UInt8) × (Int × List (Int × ((List UInt8) × List UInt8) × List (List UInt8))) × Unit, (∀ x ∈ (a.2.2.2.1).2, (x.2.1.1.length + x.2.1.2.length ≤ 70368744177664 ∧ x.2.2.length ≤ 65536)) → (Ty.kd (.arr 32 .byte)).wf a.2.1 → (Ty.kd (.sl .byte)).wf a.2.2.1 → (Ty.kd (.pr (.int .i64) (.sl (.pr (.int .i64) (.pr (.pr (.sl .byte) (.sl .byte)) (.sl (.arr 32 .byte))))))).wf a.2.2.2.1 → qg1 a.2.1 a.2.2.1 a.2.2.2.1 (fun o0 o1 o2 => o0 = (qaZ (a.2.1) (a.2.2.1) (a.2.2.2.1)) ∧ o1 = (qa5 (a.2.1) (a.2.2.1) (a.2.2.2.1)) ∧ o2 = (qaN (a.2.1) (a.2.2.1) (a.2.2.2.1)))) := by kernel_rfl
theorem qmo : qdk.valid Try.prog 31 := qar (X := qmn) (qaH (qai.rows [5]) (fun b hb => by cases hb; exact qap) qaq ⟨quQ, qkB, qlT, qpA, qvu, qmt, qqD, trivial⟩) 200 (qpq.mpr fun a hp w_0 w_1 w_2 => @qpr a.2.1 a.2.2.1 a.2.2.2.1 w_0 w_1 w_2 hp)
end Go.Proofs.Ytmjjkpiglbpkhaa

set_option linter.unusedVariables false
set_option maxRecDepth 100000
set_option maxHeartbeats 20000000
namespace Go.Proofs.Ytmjjkpiglbpkhaa
open Go Go.RowKit Go.Inc
noncomputable def qeB : Ctr := ⟨[.v (.int .i64)], [.v (.int .u32)], some (fun a => (fun (a0_n : Int) => ((0 : Int) ≤ a0_n ∧ a0_n ≤ (31 : Int) : Prop)) a.1), fun a => (fun (a0_n : Int) => (((2 ^ a0_n.toNat : Int), ()), (()))) a.1⟩
noncomputable def qpV : Fx := ⟨seat, some bkT, fns, [], [], [], []⟩
def qi5 (a0_n : Int) (Q : Int → Prop) : Prop :=
 ∃ (x0 : Int → Int → Prop), ∃ (x1 : Int → Int → Nat), x0 (1 : Int) (0 : Int) ∧ ∀ (x2 x3 : Int), x0 x2 x3 → (Kd.int IntKind.u32).wf x2 → (Kd.int IntKind.i64).wf x3 → (x3 < a0_n → x3 < (9223372036854775807 : Int) ∧ x0 (IntKind.u32.wrap ((2 : Int) * x2)) (x3 + (1 : Int)) ∧ x1 (IntKind.u32.wrap ((2 : Int) * x2)) (x3 + (1 : Int)) < x1 x2 x3) ∧ (¬x3 < a0_n → Q x2)
theorem qsl {a0_n : Int} (w_0 : (Ty.kd (.int .i64)).wf a0_n) (hp : (0 : Int) ≤ a0_n ∧ a0_n ≤ (31 : Int)) : qi5 a0_n (fun o0 => o0 = (2 ^ a0_n.toNat : Int)) := by
 unfold qi5
 refine ⟨fun x i => ∃ j : Nat, i = (j : Int) ∧ (j : Int) ≤ a0_n ∧ x = ((2 ^ j : Nat) : Int), fun _ i => (a0_n - i).toNat, ⟨0, rfl, by omega, rfl⟩, ?_⟩
 rintro x i ⟨j, rfl, hj, rfl⟩ _ _
 refine ⟨fun hlt => ⟨by omega, ⟨j + 1, by omega, by omega, ?_⟩, by show (a0_n - ((j : Int) + 1)).toNat < (a0_n - (j : Int)).toNat; omega⟩, fun hge => ?_⟩
 ·have hp : 2 ^ (j + 1) ≤ 2 ^ 31 := Nat.pow_le_pow_right (by omega) (by omega)
  have e : 2 * ((2 ^ j : Nat) : Int) = ((2 ^ (j + 1) : Nat) : Int) := by rw [Nat.pow_succ]; omega
  rw [e, qbj (by omega)]
 ·have : a0_n.toNat = j := by omega
  rw [this]
  simp
theorem qsk : (∀ a, qeB.pre a → PM.wfP qeB.pm a (fvc qpV 200 129 qeB a (eqO qeB a))) = (∀ a : Int × Unit, ((0 : Int) ≤ (a.1) ∧ (a.1) ≤ (31 : Int)) → (Ty.kd (.int .i64)).wf a.1 → qi5 a.1 (fun o0 => o0 = (2 ^ (a.1).toNat : Int))) := by kernel_rfl
theorem qpW : qeB.valid Try.prog 129 := qar (X := qpV) (qaH qai (fun b hb => by cases hb; exact qap) qaq trivial) 200 (qsk.mpr fun a hp w_0 => @qsl a.1 w_0 hp)
noncomputable def qhk : Ctr := ⟨[.v (.int .u32), .v (.int .i64)], [.v (.int .u32)], some (fun a => (fun (a0_x : Int) (a1_n : Int) => ((1 : Int) ≤ a1_n ∧ a1_n ≤ (31 : Int) : Prop)) a.1 a.2.1), fun a => (fun (a0_x : Int) (a1_n : Int) => (((qav a0_x a1_n), ()), (()))) a.1 a.2.1⟩
noncomputable def qtq : Fx := ⟨seat, some bkT, fns, [(129, qeB)], [], [], [(1, [], [.o 0 2, .o 1 2, .o 4 2, .o 5 2, .o 8 2, .o 9 2, .o 2 0, .o 3 2, .o 6 0, .o 7 2, .o 10 0, .o 11 2, .o 12 2, .o 13 2])]⟩
def qls (a0_x : Int) (a1_n : Int) (Q : Int → Prop) : Prop :=
 ((0 : Int) ≤ a1_n ∧ a1_n ≤ (31 : Int)) ∧ ((Ty.int IntKind.u32).kd.wf ((2 : Int) ^ a1_n.toNat) → (2 : Int) ^ a1_n.toNat ≠ (0 : Int) ∧ ((0 : Int) ≤ a1_n ∧ a1_n ≤ (31 : Int)) ∧ ((Ty.int IntKind.u32).kd.wf ((2 : Int) ^ a1_n.toNat) → (2 : Int) ^ a1_n.toNat ≠ (0 : Int) ∧ ((0 : Int) ≤ IntKind.i64.wrap ((32 : Int) - a1_n) ∧ IntKind.i64.wrap ((32 : Int) - a1_n) ≤ (31 : Int)) ∧ ((Ty.int IntKind.u32).kd.wf ((2 : Int) ^ (IntKind.i64.wrap ((32 : Int) - a1_n)).toNat) → Q (IntKind.u32.wrap (IntKind.u32.wrap (a0_x.tdiv ((2 : Int) ^ a1_n.toNat)) + IntKind.u32.wrap (a0_x.tmod ((2 : Int) ^ a1_n.toNat) * (2 : Int) ^ (IntKind.i64.wrap ((32 : Int) - a1_n)).toNat))))))
theorem qu9 {a0_x : Int} {a1_n : Int} (w_0 : (Ty.kd (.int .u32)).wf a0_x) (w_1 : (Ty.kd (.int .i64)).wf a1_n) (hp : (1 : Int) ≤ a1_n ∧ a1_n ≤ (31 : Int)) : qls a0_x a1_n (fun o0 => o0 = (qav a0_x a1_n)) := by
 have w : IntKind.i64.wrap (32 - a1_n) = 32 - a1_n := qak (wf64 (by omega) (by omega))
 have hp : ∀ k : Nat, (2 ^ k : Int) ≠ 0 := fun k => by
  have : (2 ^ k : Int) = ((2 ^ k : Nat) : Int) := by simp
  rw [this]
  have := Nat.two_pow_pos k
  omega
 unfold qls
 rw [w]
 exact ⟨by omega, fun _ => ⟨hp _, by omega, fun _ => ⟨hp _, by omega, fun _ => rfl⟩⟩⟩
theorem qu8 : (∀ a, qhk.pre a → PM.wfP qhk.pm a (fvc qtq 200 143 qhk a (eqO qhk a))) = (∀ a : Int × Int × Unit, ((1 : Int) ≤ (a.2.1) ∧ (a.2.1) ≤ (31 : Int)) → (Ty.kd (.int .u32)).wf a.1 → (Ty.kd (.int .i64)).wf a.2.1 → qls a.1 a.2.1 (fun o0 => o0 = (qav (a.1) (a.2.1)))) := by kernel_rfl
theorem qtr : qhk.valid Try.prog 143 := qar (X := qtq) (qaH qai (fun b hb => by cases hb; exact qap) qaq ⟨qpW, trivial⟩) 200 (qu8.mpr fun a hp w_0 w_1 => @qu9 a.1 a.2.1 w_0 w_1 hp)
noncomputable def qeG : Ctr := ⟨[.v (.int .u32), .v (.int .u32), .v (.int .u32)], [.v (.int .u32)], none, fun a => (fun (a0_a : Int) (a1_b : Int) (a2_c : Int) => (((bxor .u32 (bxor .u32 a0_a a1_b) a2_c), ()), (()))) a.1 a.2.1 a.2.2.1⟩
noncomputable def qqe : Fx := ⟨seat, some bkT, fns, [], [], [], []⟩
def qmO (a0_a : Int) (a1_b : Int) (a2_c : Int) (Q : Int → Prop) : Prop :=
 Q (bxor IntKind.u32 (bxor IntKind.u32 a0_a a1_b) a2_c)
theorem qsD {a0_a : Int} {a1_b : Int} {a2_c : Int} (w_0 : (Ty.kd (.int .u32)).wf a0_a) (w_1 : (Ty.kd (.int .u32)).wf a1_b) (w_2 : (Ty.kd (.int .u32)).wf a2_c) : qmO a0_a a1_b a2_c (fun o0 => o0 = (bxor .u32 (bxor .u32 a0_a a1_b) a2_c)) := by
 rfl
theorem qsC : (∀ a, qeG.pre a → PM.wfP qeG.pm a (fvc qqe 200 142 qeG a (eqO qeG a))) = (∀ a : Int × Int × Int × Unit, True → (Ty.kd (.int .u32)).wf a.1 → (Ty.kd (.int .u32)).wf a.2.1 → (Ty.kd (.int .u32)).wf a.2.2.1 → qmO a.1 a.2.1 a.2.2.1 (fun o0 => o0 = (bxor .u32 (bxor .u32 (a.1) (a.2.1)) (a.2.2.1)))) := by kernel_rfl
theorem qqf : qeG.valid Try.prog 142 := qar (X := qqe) (qaH qai (fun b hb => by cases hb; exact qap) qaq trivial) 200 (qsC.mpr fun a hp w_0 w_1 w_2 => @qsD a.1 a.2.1 a.2.2.1 w_0 w_1 w_2)
noncomputable def qbX : Ctr := ⟨[], [.ow 189 (.int .u32)], none, fun _ => ((shaK, ()), (()))⟩
noncomputable def qgS : Fx := ⟨seat, some bkT, fns, [], [], [], []⟩
def qf5 (Q : (List Int) → Prop) : Prop :=
 Q ((1116352408 : Int) :: (1899447441 : Int) :: (3049323471 : Int) :: (3921009573 : Int) :: (961987163 : Int) :: (1508970993 : Int) :: (2453635748 : Int) :: (2870763221 : Int) :: (3624381080 : Int) :: (310598401 : Int) :: (607225278 : Int) :: (1426881987 : Int) :: (1925078388 : Int) :: (2162078206 : Int) :: (2614888103 : Int) :: (3248222580 : Int) :: (3835390401 : Int) :: (4022224774 : Int) :: (264347078 : Int) :: (604807628 : Int) :: (770255983 : Int) :: (1249150122 : Int) :: (1555081692 : Int) :: (1996064986 : Int) :: (2554220882 : Int) :: (2821834349 : Int) :: (2952996808 : Int) :: (3210313671 : Int) :: (3336571891 : Int) :: (3584528711 : Int) :: (113926993 : Int) :: (338241895 : Int) :: (666307205 : Int) :: (773529912 : Int) :: (1294757372 : Int) :: (1396182291 : Int) :: (1695183700 : Int) :: (1986661051 : Int) :: (2177026350 : Int) :: (2456956037 : Int) :: (2730485921 : Int) :: (2820302411 : Int) :: (3259730800 : Int) :: (3345764771 : Int) :: (3516065817 : Int) :: (3600352804 : Int) :: (4094571909 : Int) :: (275423344 : Int) :: (430227734 : Int) :: (506948616 : Int) :: (659060556 : Int) :: (883997877 : Int) :: (958139571 : Int) :: (1322822218 : Int) :: (1537002063 : Int) :: (1747873779 : Int) :: (1955562222 : Int) :: (2024104815 : Int) :: (2227730452 : Int) :: (2361852424 : Int) :: (2428436474 : Int) :: (2756734187 : Int) :: (3204031479 : Int) :: (3329325298 : Int) :: ([] : List Int))
theorem qjA  : qf5  (fun o0 => o0 = shaK) := by
 rfl
theorem qjz : (∀ a, qbX.pre a → PM.wfP qbX.pm a (fvc qgS 200 141 qbX a (eqO qbX a))) = (∀ a : Unit, True → qf5  (fun o0 => o0 = shaK)) := by kernel_rfl
theorem qkP : qbX.valid Try.prog 141 := qar (X := qgS) (qaH qai (fun b hb => by cases hb; exact qap) qaq trivial) 200 (qjz.mpr fun a hp  => @qjA )
noncomputable def qcM : Ctr := ⟨[.v (.sl .byte)], [.ow 5 .byte], some (fun a => (fun (a0_b : List UInt8) => (a0_b.length ≤ 70368744177664 : Prop)) a.1), fun a => (fun (a0_b : List UInt8) => (((qc0 a0_b), ()), (()))) a.1⟩
noncomputable def qjo : Fx := ⟨seat, some bkT, fns, [], [], [], []⟩
def qfe (a0_b : List UInt8) (Q : (List UInt8) → Prop) : Prop :=
 (([] : List UInt8).length + a0_b.length) * (1 : Nat) ≤ (140737488355328 : Nat) ∧ ((([] : List UInt8) ++ a0_b).length + (toB (128 : Int) :: ([] : List UInt8)).length) * (1 : Nat) ≤ (140737488355328 : Nat) ∧ ∃ (x0 : List UInt8 → Prop), ∃ (x1 : List UInt8 → Nat), x0 (([] : List UInt8) ++ a0_b ++ toB (128 : Int) :: ([] : List UInt8)) ∧ ∀ (x2 : List UInt8), x0 x2 → Ty.byte.kd.sl.wf x2 → ((x2.length : Int).tmod (64 : Int) ≠ (56 : Int) → (x2.length + (toB (0 : Int) :: ([] : List UInt8)).length) * (1 : Nat) ≤ (140737488355328 : Nat) ∧ x0 (x2 ++ toB (0 : Int) :: ([] : List UInt8)) ∧ x1 (x2 ++ toB (0 : Int) :: ([] : List UInt8)) < x1 x2) ∧ (¬(x2.length : Int).tmod (64 : Int) ≠ (56 : Int) → ∃ (x6 : Int → List UInt8 → Int → Prop), ∃ (x7 : Int → List UInt8 → Int → Nat), x6 (IntKind.u64.wrap ((8 : Int) * IntKind.u64.wrap (a0_b.length : Int))) ([] : List UInt8) (0 : Int) ∧ ∀ (x8 : Int) (x9 : List UInt8) (x10 : Int), x6 x8 x9 x10 → (Kd.int IntKind.u64).wf x8 → Ty.byte.kd.sl.wf x9 → (Kd.int IntKind.i64).wf x10 → (x10 < (8 : Int) → ((toB (IntKind.u8.wrap (x8.tmod (256 : Int))) :: ([] : List UInt8)).length + x9.length) * (1 : Nat) ≤ (140737488355328 : Nat) ∧ x10 < (9223372036854775807 : Int) ∧ x6 (IntKind.u64.wrap (x8.tdiv (256 : Int))) (toB (IntKind.u8.wrap (x8.tmod (256 : Int))) :: ([] : List UInt8) ++ x9) (x10 + (1 : Int)) ∧ x7 (IntKind.u64.wrap (x8.tdiv (256 : Int))) (toB (IntKind.u8.wrap (x8.tmod (256 : Int))) :: ([] : List UInt8) ++ x9) (x10 + (1 : Int)) < x7 x8 x9 x10) ∧ (¬x10 < (8 : Int) → (x2.length + x9.length) * (1 : Nat) ≤ (140737488355328 : Nat) ∧ Q (x2 ++ x9)))
theorem qmX {a0_b : List UInt8} (w_0 : (Ty.kd (.sl .byte)).wf a0_b) (hp : a0_b.length ≤ 70368744177664) : qfe a0_b (fun o0 => o0 = (qc0 a0_b)) := by
 have hz : qba a0_b.length < 64 ∧ (a0_b.length + 1 + qba a0_b.length) % 64 = 56 := by unfold qba; omega
 have hzm : ∀ k, k < qba a0_b.length → (a0_b.length + 1 + k) % 64 ≠ 56 := fun k hk => by unfold qba at hk; omega
 have hb0 : toB 0 = 0 := by decide
 have wu : ∀ a : Int, 0 ≤ a → a ≤ 18446744073709551615 → IntKind.u64.wrap a = a := fun a h1 h2 => qak ⟨by show (0 : Int) ≤ _; omega, by show _ ≤ (18446744073709551615 : Int); omega⟩
 unfold qfe
 rw [hb0, wu (a0_b.length : Int) (by omega) (by omega), wu (8 * (a0_b.length : Int)) (by omega) (by omega)]
 simp only [List.nil_append]
 refine ⟨by simp; omega, by simp; omega, fun m => ∃ k, k ≤ qba a0_b.length ∧ m = a0_b ++ [toB 128] ++ List.replicate k 0, fun m => qba a0_b.length - (m.length - (a0_b.length + 1)), ⟨0, by omega, by simp⟩, ?_⟩
 rintro m ⟨k, hk, rfl⟩ _
 have hl : (a0_b ++ [toB 128] ++ List.replicate k 0).length = a0_b.length + 1 + k := by simp; omega
 have hmod : Int.tmod ((a0_b ++ [toB 128] ++ List.replicate k 0).length : Int) 64 = (((a0_b.length + 1 + k) % 64 : Nat) : Int) := by
  rw [hl, Int.tmod_eq_emod_of_nonneg (by omega)]
  omega
 rw [hmod]
 refine ⟨fun hne => ⟨by simp; omega, ⟨k + 1, ?_, ?_⟩, ?_⟩, fun heq => ?_⟩
 ·rcases Nat.lt_or_eq_of_le hk with h | h
  ·omega
  ·exfalso; apply hne; rw [h, hz.2]; rfl
 ·rw [List.replicate_succ']; simp
 ·rcases Nat.lt_or_eq_of_le hk with h | h
  ·simp only [List.length_append, List.length_cons, List.length_nil, List.length_replicate]
   omega
  ·exfalso; apply hne; rw [h, hz.2]; rfl
 ·have hk' : k = qba a0_b.length := by
   rcases Nat.lt_or_eq_of_le hk with h | h
   ·exact absurd (hzm k h) (by intro hx; apply heq; intro hy; apply hx; omega)
   ·exact h
  subst hk'
  refine ⟨fun n last i => ∃ j : Nat, j ≤ 8 ∧ i = (j : Int) ∧ n = ((8 * a0_b.length / 2 ^ (8 * j) : Nat) : Int) ∧ last = be (8 * a0_b.length) j, fun _ _ i => 8 - i.toNat, ⟨0, by omega, rfl, by simp, rfl⟩, ?_⟩
  rintro n last i ⟨j, hj, rfl, rfl, rfl⟩ _ _ _
  have hle : 8 * a0_b.length / 2 ^ (8 * j) ≤ 8 * a0_b.length := Nat.div_le_self _ _
  refine ⟨fun hlt => ⟨by simp [qaQ]; omega, by omega, ⟨j + 1, by omega, by omega, ?_, ?_⟩, ?_⟩, fun hge => ⟨?_, ?_⟩⟩
  ·have e : (8 * a0_b.length) / 2 ^ (8 * (j + 1)) = 8 * a0_b.length / 2 ^ (8 * j) / 256 := by
    rw [Nat.div_div_eq_div_mul, show 8 * (j + 1) = 8 * j + 8 by omega, Nat.pow_add]
   rw [e]
   generalize 8 * a0_b.length / 2 ^ (8 * j) = A at *
   rw [show (256 : Int) = ((256 : Nat) : Int) from rfl, ← Int.ofNat_tdiv, wu _ (by omega) (by omega)]
  ·show toB (IntKind.u8.wrap (Int.tmod _ 256)) :: be _ j = UInt8.ofNat (8 * a0_b.length / 2 ^ (8 * j)) :: be _ j
   congr 1
   generalize 8 * a0_b.length / 2 ^ (8 * j) = A
   rw [show (256 : Int) = ((256 : Nat) : Int) from rfl, ← Int.ofNat_tmod, qak ⟨by show (0 : Int) ≤ _; omega, by show _ ≤ (255 : Int); omega⟩]
   unfold toB
   rw [Int.toNat_natCast]
   apply UInt8.toNat_inj.1
   simp
  ·show 8 - ((j : Int) + 1).toNat < 8 - (j : Int).toNat
   omega
  ·simp [qaQ]; omega
  ·have : j = 8 := by omega
   subst this
   simp [qc0]
theorem qmW : (∀ a, qcM.pre a → PM.wfP qcM.pm a (fvc qjo 200 126 qcM a (eqO qcM a))) = (∀ a : (List UInt8) × Unit, ((a.1).length ≤ 70368744177664) → (Ty.kd (.sl .byte)).wf a.1 → qfe a.1 (fun o0 => o0 = (qc0 (a.1)))) := by kernel_rfl
theorem qnW : qcM.valid Try.prog 126 := qar (X := qjo) (qaH qai (fun b hb => by cases hb; exact qap) qaq trivial) 200 (qmW.mpr fun a hp w_0 => @qmX a.1 w_0 hp)
noncomputable def qcj : Ctr := ⟨[.v (.sl .byte)], [.ow 189 (.int .u32)], some (fun a => (fun (a0_b : List UInt8) => (a0_b.length = 64 : Prop)) a.1), fun a => (fun (a0_b : List UInt8) => (((qaE a0_b 64), ()), (()))) a.1⟩
noncomputable def qh5 : Fx := ⟨seat, some bkT, fns, [(143, qhk), (142, qeG)], [], [], [(14, [], [.o 0 2, .o 1 2, .o 2 2, .o 3 2, .o 4 2, .o 5 2, .o 6 2, .o 7 2, .o 8 2, .o 9 2, .o 10 2, .o 11 2]), (17, [0, 1, 2, 3, 4, 5, 6, 7, 8, 9, 10, 11, 12], [.o 0 2, .o 1 2, .o 2 2, .o 3 2, .o 4 2, .o 5 2, .o 6 2, .o 7 2, .o 8 2, .o 9 2, .o 10 2, .o 11 2, .o 12 2, .o 13 2, .o 14 2, .o 15 2, .o 16 0, .o 17 1, .o 18 3])]⟩
def qeD (a0_b : List UInt8) (Q : (List Int) → Prop) : Prop :=
 ∃ (x0 : List Int → Int → Prop), ∃ (x1 : List Int → Int → Nat), x0 ([] : List Int) (0 : Int) ∧ ∀ (x2 : List Int) (x3 : Int), x0 x2 x3 → (Ty.int IntKind.u32).kd.sl.wf x2 → (Kd.int IntKind.i64).wf x3 → (x3 < (16 : Int) → ∃ (x8 : Int → Int → Prop), ∃ (x9 : Int → Int → Nat), x8 (0 : Int) (0 : Int) ∧ ∀ (x10 x11 : Int), x8 x10 x11 → (Kd.int IntKind.u32).wf x10 → (Kd.int IntKind.i64).wf x11 → (x11 < (4 : Int) → ((0 : Int) ≤ IntKind.i64.wrap (IntKind.i64.wrap ((4 : Int) * x3) + x11) ∧ IntKind.i64.wrap (IntKind.i64.wrap ((4 : Int) * x3) + x11) < (a0_b.length : Int)) ∧ x11 < (9223372036854775807 : Int) ∧ x8 (IntKind.u32.wrap (IntKind.u32.wrap ((256 : Int) * x10) + bI (ix a0_b (IntKind.i64.wrap (IntKind.i64.wrap ((4 : Int) * x3) + x11))))) (x11 + (1 : Int)) ∧ x9 (IntKind.u32.wrap (IntKind.u32.wrap ((256 : Int) * x10) + bI (ix a0_b (IntKind.i64.wrap (IntKind.i64.wrap ((4 : Int) * x3) + x11))))) (x11 + (1 : Int)) < x9 x10 x11) ∧ (¬x11 < (4 : Int) → (x2.length + (x10 :: ([] : List Int)).length) * (4 : Nat) ≤ (140737488355328 : Nat) ∧ x3 < (9223372036854775807 : Int) ∧ x0 (x2 ++ x10 :: ([] : List Int)) (x3 + (1 : Int)) ∧ x1 (x2 ++ x10 :: ([] : List Int)) (x3 + (1 : Int)) < x1 x2 x3)) ∧ (¬x3 < (16 : Int) → ∃ (x8 : List Int → Int → Prop), ∃ (x9 : List Int → Int → Nat), x8 x2 (16 : Int) ∧ ∀ (x10 : List Int) (x11 : Int), x8 x10 x11 → (Ty.int IntKind.u32).kd.sl.wf x10 → (Kd.int IntKind.i64).wf x11 → (x11 < (64 : Int) → ((0 : Int) ≤ IntKind.i64.wrap (x11 - (15 : Int)) ∧ IntKind.i64.wrap (x11 - (15 : Int)) < (x10.length : Int)) ∧ ((0 : Int) ≤ IntKind.i64.wrap (x11 - (2 : Int)) ∧ IntKind.i64.wrap (x11 - (2 : Int)) < (x10.length : Int)) ∧ ((1 : Int) ≤ (7 : Int) ∧ (7 : Int) ≤ (31 : Int)) ∧ ((Ty.int IntKind.u32).kd.wf (qav (ix x10 (IntKind.i64.wrap (x11 - (15 : Int)))) (7 : Int)) → ((1 : Int) ≤ (18 : Int) ∧ (18 : Int) ≤ (31 : Int)) ∧ ((Ty.int IntKind.u32).kd.wf (qav (ix x10 (IntKind.i64.wrap (x11 - (15 : Int)))) (18 : Int)) → (Ty.int IntKind.u32).kd.wf (bxor IntKind.u32 (bxor IntKind.u32 (qav (ix x10 (IntKind.i64.wrap (x11 - (15 : Int)))) (7 : Int)) (qav (ix x10 (IntKind.i64.wrap (x11 - (15 : Int)))) (18 : Int))) (IntKind.u32.wrap ((ix x10 (IntKind.i64.wrap (x11 - (15 : Int)))).tdiv (8 : Int)))) → ((1 : Int) ≤ (17 : Int) ∧ (17 : Int) ≤ (31 : Int)) ∧ ((Ty.int IntKind.u32).kd.wf (qav (ix x10 (IntKind.i64.wrap (x11 - (2 : Int)))) (17 : Int)) → ((1 : Int) ≤ (19 : Int) ∧ (19 : Int) ≤ (31 : Int)) ∧ ((Ty.int IntKind.u32).kd.wf (qav (ix x10 (IntKind.i64.wrap (x11 - (2 : Int)))) (19 : Int)) → (Ty.int IntKind.u32).kd.wf (bxor IntKind.u32 (bxor IntKind.u32 (qav (ix x10 (IntKind.i64.wrap (x11 - (2 : Int)))) (17 : Int)) (qav (ix x10 (IntKind.i64.wrap (x11 - (2 : Int)))) (19 : Int))) (IntKind.u32.wrap ((ix x10 (IntKind.i64.wrap (x11 - (2 : Int)))).tdiv (1024 : Int)))) → ((0 : Int) ≤ IntKind.i64.wrap (x11 - (16 : Int)) ∧ IntKind.i64.wrap (x11 - (16 : Int)) < (x10.length : Int)) ∧ ((0 : Int) ≤ IntKind.i64.wrap (x11 - (7 : Int)) ∧ IntKind.i64.wrap (x11 - (7 : Int)) < (x10.length : Int)) ∧ (x10.length + (IntKind.u32.wrap (IntKind.u32.wrap (IntKind.u32.wrap (ix x10 (IntKind.i64.wrap (x11 - (16 : Int))) + bxor IntKind.u32 (bxor IntKind.u32 (qav (ix x10 (IntKind.i64.wrap (x11 - (15 : Int)))) (7 : Int)) (qav (ix x10 (IntKind.i64.wrap (x11 - (15 : Int)))) (18 : Int))) (IntKind.u32.wrap ((ix x10 (IntKind.i64.wrap (x11 - (15 : Int)))).tdiv (8 : Int)))) + ix x10 (IntKind.i64.wrap (x11 - (7 : Int)))) + bxor IntKind.u32 (bxor IntKind.u32 (qav (ix x10 (IntKind.i64.wrap (x11 - (2 : Int)))) (17 : Int)) (qav (ix x10 (IntKind.i64.wrap (x11 - (2 : Int)))) (19 : Int))) (IntKind.u32.wrap ((ix x10 (IntKind.i64.wrap (x11 - (2 : Int)))).tdiv (1024 : Int)))) :: ([] : List Int)).length) * (4 : Nat) ≤ (140737488355328 : Nat) ∧ x11 < (9223372036854775807 : Int) ∧ x8 (x10 ++ IntKind.u32.wrap (IntKind.u32.wrap (IntKind.u32.wrap (ix x10 (IntKind.i64.wrap (x11 - (16 : Int))) + bxor IntKind.u32 (bxor IntKind.u32 (qav (ix x10 (IntKind.i64.wrap (x11 - (15 : Int)))) (7 : Int)) (qav (ix x10 (IntKind.i64.wrap (x11 - (15 : Int)))) (18 : Int))) (IntKind.u32.wrap ((ix x10 (IntKind.i64.wrap (x11 - (15 : Int)))).tdiv (8 : Int)))) + ix x10 (IntKind.i64.wrap (x11 - (7 : Int)))) + bxor IntKind.u32 (bxor IntKind.u32 (qav (ix x10 (IntKind.i64.wrap (x11 - (2 : Int)))) (17 : Int)) (qav (ix x10 (IntKind.i64.wrap (x11 - (2 : Int)))) (19 : Int))) (IntKind.u32.wrap ((ix x10 (IntKind.i64.wrap (x11 - (2 : Int)))).tdiv (1024 : Int)))) :: ([] : List Int)) (x11 + (1 : Int)) ∧ x9 (x10 ++ IntKind.u32.wrap (IntKind.u32.wrap (IntKind.u32.wrap (ix x10 (IntKind.i64.wrap (x11 - (16 : Int))) + bxor IntKind.u32 (bxor IntKind.u32 (qav (ix x10 (IntKind.i64.wrap (x11 - (15 : Int)))) (7 : Int)) (qav (ix x10 (IntKind.i64.wrap (x11 - (15 : Int)))) (18 : Int))) (IntKind.u32.wrap ((ix x10 (IntKind.i64.wrap (x11 - (15 : Int)))).tdiv (8 : Int)))) + ix x10 (IntKind.i64.wrap (x11 - (7 : Int)))) + bxor IntKind.u32 (bxor IntKind.u32 (qav (ix x10 (IntKind.i64.wrap (x11 - (2 : Int)))) (17 : Int)) (qav (ix x10 (IntKind.i64.wrap (x11 - (2 : Int)))) (19 : Int))) (IntKind.u32.wrap ((ix x10 (IntKind.i64.wrap (x11 - (2 : Int)))).tdiv (1024 : Int)))) :: ([] : List Int)) (x11 + (1 : Int)) < x9 x10 x11))))) ∧ (¬x11 < (64 : Int) → Q x10))
theorem qlk {a0_b : List UInt8} (w_0 : (Ty.kd (.sl .byte)).wf a0_b) (hp : a0_b.length = 64) : qeD a0_b (fun o0 => o0 = (qaE a0_b 64)) := by
 have w64 : ∀ a : Int, -1000 ≤ a → a ≤ 1000 → IntKind.i64.wrap a = a := fun a h1 h2 => qak (wf64 (by omega) (by omega))
 have hacc : ∀ (i : Int) (m : Nat), 0 ≤ accB a0_b i m ∧ accB a0_b i m < 256 ^ m := fun i m => by
  induction m with
  | zero => simp [accB]
  | succ m ih =>
    have hb := qm7 (ix a0_b (4 * i + (m : Int)))
    have e : (256 : Int) ^ (m + 1) = 256 * 256 ^ m := by rw [Int.pow_succ, Int.mul_comm]
    simp only [accB]
    rw [e]
    generalize (256 : Int) ^ m = Z at *
    omega
 unfold qeD
 refine ⟨fun w i => ∃ n : Nat, i = (n : Int) ∧ n ≤ 16 ∧ w = (qaE a0_b n).take n, fun _ i => 16 - i.toNat, ⟨0, rfl, by omega, by simp⟩, ?_⟩
 rintro w i ⟨n, rfl, hn, rfl⟩ _ _
 refine ⟨fun hlt => ?_, fun hge => ?_⟩
 ·refine ⟨fun x j => ∃ m : Nat, j = (m : Int) ∧ m ≤ 4 ∧ x = accB a0_b n m, fun _ j => 4 - j.toNat, ⟨0, rfl, by omega, rfl⟩, ?_⟩
  rintro x j ⟨m, rfl, hm, rfl⟩ _ _
  have e4 : IntKind.i64.wrap (IntKind.i64.wrap (4 * (n : Int)) + (m : Int)) = 4 * (n : Int) + (m : Int) := by rw [w64 (4 * (n : Int)) (by omega) (by omega), w64 _ (by omega) (by omega)]
  rw [e4]
  refine ⟨fun hj => ⟨⟨by omega, by omega⟩, by omega, ⟨m + 1, by omega, by omega, ?_⟩, by show 4 - ((m : Int) + 1).toNat < 4 - (m : Int).toNat; omega⟩, fun hj => ?_⟩
  ·have h1 := hacc n m
   have hb := qm7 (ix a0_b (4 * (n : Int) + (m : Int)))
   have h2 : (256 : Int) ^ m ≤ 16777216 := by
    rcases (by omega : m = 0 ∨ m = 1 ∨ m = 2 ∨ m = 3) with h | h | h | h <;> rw [h] <;> decide
   simp only [accB]
   rw [wr32 (256 * _), wr32]
   omega
  ·have : m = 4 := by omega
   subst this
   have hl := qc8 a0_b n
   refine ⟨by simp only [List.length_append, List.length_take, List.length_cons, List.length_nil]; omega, by omega, ⟨n + 1, by omega, by omega, ?_⟩, by show 16 - ((n : Int) + 1).toNat < 16 - (n : Int).toNat; omega⟩
   rw [qhn _ (by omega), if_pos (by omega), qnC]
 ·have hn16 : n = 16 := by omega
  subst hn16
  refine ⟨fun w i => ∃ n : Nat, i = (n : Int) ∧ 16 ≤ n ∧ n ≤ 64 ∧ w = (qaE a0_b n).take n, fun _ i => 64 - i.toNat, ⟨16, rfl, by omega, by omega, rfl⟩, ?_⟩
  rintro w i ⟨n, rfl, hn1, hn2, rfl⟩ hwf _
  have hl := qc8 a0_b n
  have hlt : ((qaE a0_b n).take n).length = n := by rw [List.length_take]; omega
  refine ⟨fun hlt64 => ?_, fun hge64 => ?_⟩
  ·rw [w64 ((n : Int) - 15) (by omega) (by omega), w64 ((n : Int) - 2) (by omega) (by omega), w64 ((n : Int) - 16) (by omega) (by omega), w64 ((n : Int) - 7) (by omega) (by omega), hlt]
   have hx : ∀ d : Int, 0 < d → d ≤ 16 → 0 ≤ ix ((qaE a0_b n).take n) ((n : Int) - d) ∧ ix ((qaE a0_b n).take n) ((n : Int) - d) < 4294967296 := fun d h1 h2 => wf32 (hwf.2 _ (qeU (by omega) (by rw [hlt]; omega)))
   have ht : ∀ d : Int, 0 < d → d ≤ 16 → ix ((qaE a0_b n).take n) ((n : Int) - d) = ix (qaE a0_b n) ((n : Int) - d) := fun d h1 h2 => quL (by omega)
   refine ⟨by omega, by omega, by omega, fun _ => ⟨by omega, fun _ _ => ⟨by omega, fun _ => ⟨by omega, fun _ _ => ⟨by omega, by omega, ?_, by omega, ⟨n + 1, by omega, by omega, by omega, ?_⟩, by show 64 - ((n : Int) + 1).toNat < 64 - (n : Int).toNat; omega⟩⟩⟩⟩⟩
   ·simp only [List.length_cons, List.length_nil]; omega
   ·rw [qhn _ (by omega), if_neg (by omega)]
    congr 2
    have x15 := hx 15 (by omega) (by omega)
    have x2 := hx 2 (by omega) (by omega)
    unfold qqB
    rw [← ht 15 (by omega) (by omega), ← ht 2 (by omega) (by omega), ← ht 16 (by omega) (by omega), ← ht 7 (by omega) (by omega), qw0 x15, qw1 x2,
     show (3 : Int) = ((3 : Nat) : Int) from rfl, show (10 : Int) = ((10 : Nat) : Int) from rfl, qmG x15 3 (by omega), qmG x2 10 (by omega)]
    show IntKind.u32.wrap (IntKind.u32.wrap (IntKind.u32.wrap (_ + bxor .u32 _ (IntKind.u32.wrap (Int.tdiv _ 8))) + _) + bxor .u32 _ (IntKind.u32.wrap (Int.tdiv _ 1024))) = IntKind.u32.wrap (IntKind.u32.wrap (IntKind.u32.wrap (_ + _) + bxor .u32 _ (IntKind.u32.wrap (Int.tdiv _ 8))) + bxor .u32 _ (IntKind.u32.wrap (Int.tdiv _ 1024)))
    generalize bxor .u32 _ (IntKind.u32.wrap (Int.tdiv _ 8)) = S
    generalize bxor .u32 _ (IntKind.u32.wrap (Int.tdiv _ 1024)) = T
    simp only [wr32]
    omega
  ·have : n = 64 := by omega
   subst this
   rw [List.take_of_length_le (by omega)]
theorem qlj : (∀ a, qcj.pre a → PM.wfP qcj.pm a (fvc qh5 200 140 qcj a (eqO qcj a))) = (∀ a : (List UInt8) × Unit, ((a.1).length = 64) → (Ty.kd (.sl .byte)).wf a.1 → qeD a.1 (fun o0 => o0 = (qaE (a.1) 64))) := by kernel_rfl
theorem qno : qcj.valid Try.prog 140 := qar (X := qh5) (qaH qai (fun b hb => by cases hb; exact qap) qaq ⟨qtr, qqf, trivial⟩) 200 (qlj.mpr fun a hp w_0 => @qlk a.1 w_0 hp)
noncomputable def qdS : Ctr := ⟨[.v (.sl (.int .u32)), .v (.sl .byte)], [.rw 189 (.int .u32)], some (fun a => (fun (a0_old : List Int) (a1_b : List UInt8) => (a0_old.length = 8 ∧ a1_b.length = 64 : Prop)) a.1 a.2.1), fun a => (fun (a0_old : List Int) (a1_b : List UInt8) => (((qbZ a0_old a1_b), ()), (()))) a.1 a.2.1⟩
noncomputable def qlz : Fx := ⟨{ seat with rws := [1000189] }, some bkT, fns, [(140, qcj), (141, qbX), (143, qhk), (142, qeG)], [], [(13, [4], [])], [(6, [], [.o 0 2, .o 1 2, .o 2 2, .o 3 2, .o 4 2, .o 5 2, .o 6 2, .o 7 2]), (7, [], [.o 0 2, .o 1 2, .o 2 2, .o 3 2, .o 5 2, .o 7 2, .o 11 2, .o 12 2, .o 13 2, .o 14 2, .o 15 2, .o 16 2, .o 17 2, .o 18 2, .o 19 2, .o 20 2, .o 21 2, .o 22 2, .o 24 2, .o 25 2, .o 26 2, .o 27 2, .o 29 2, .o 30 2, .o 31 2, .o 32 2, .o 4 0, .o 6 0, .o 8 0, .o 9 0, .o 10 2, .o 23 2, .o 28 2, .o 33 2, .o 34 2]), (8, [], [.o 0 2, .o 1 2, .o 2 2, .o 3 2, .o 4 2, .o 5 2, .o 6 2, .o 7 2, .o 8 2, .o 9 2, .o 10 2, .o 11 2, .o 12 2, .o 13 2, .o 14 2, .o 15 2, .o 16 2, .o 17 2, .o 18 2, .o 19 2]), (15, [4], [.o 0 2, .o 1 2, .o 2 2, .o 3 2, .o 4 2, .o 5 2, .o 6 2, .o 7 2, .o 8 2, .o 9 2, .o 10 2, .o 11 2, .o 12 1])]⟩
def qgu (a0_old : List Int) (a1_b : List UInt8) (Q : (List Int) → Prop) : Prop :=
 (([] : List Int).length + a0_old.length) * (4 : Nat) ≤ (140737488355328 : Nat) ∧ a1_b.length = (64 : Nat) ∧ ((Ty.int IntKind.u32).kd.sl.wf (qaE a1_b (64 : Nat)) → (Ty.int IntKind.u32).kd.sl.wf shaK → ∃ (x0 : List Int → Int → Prop), ∃ (x1 : List Int → Int → Nat), x0 (([] : List Int) ++ a0_old) (0 : Int) ∧ ∀ (x2 : List Int) (x3 : Int), x0 x2 x3 → (Ty.int IntKind.u32).kd.sl.wf x2 → (Kd.int IntKind.i64).wf x3 → (x3 < (64 : Int) → ((0 : Int) ≤ (0 : Int) ∧ (0 : Int) < (x2.length : Int)) ∧ ((0 : Int) ≤ (4 : Int) ∧ (4 : Int) < (x2.length : Int)) ∧ ((0 : Int) ≤ (7 : Int) ∧ (7 : Int) < (x2.length : Int)) ∧ ((0 : Int) ≤ (5 : Int) ∧ (5 : Int) < (x2.length : Int)) ∧ ((0 : Int) ≤ (6 : Int) ∧ (6 : Int) < (x2.length : Int)) ∧ ((0 : Int) ≤ x3 ∧ x3 < (shaK.length : Int)) ∧ ((0 : Int) ≤ x3 ∧ x3 < ((qaE a1_b (64 : Nat)).length : Int)) ∧ ((1 : Int) ≤ (6 : Int) ∧ (6 : Int) ≤ (31 : Int)) ∧ ((Ty.int IntKind.u32).kd.wf (qav (ix x2 (4 : Int)) (6 : Int)) → ((1 : Int) ≤ (11 : Int) ∧ (11 : Int) ≤ (31 : Int)) ∧ ((Ty.int IntKind.u32).kd.wf (qav (ix x2 (4 : Int)) (11 : Int)) → ((1 : Int) ≤ (25 : Int) ∧ (25 : Int) ≤ (31 : Int)) ∧ ((Ty.int IntKind.u32).kd.wf (qav (ix x2 (4 : Int)) (25 : Int)) → (Ty.int IntKind.u32).kd.wf (bxor IntKind.u32 (bxor IntKind.u32 (qav (ix x2 (4 : Int)) (6 : Int)) (qav (ix x2 (4 : Int)) (11 : Int))) (qav (ix x2 (4 : Int)) (25 : Int))) → ((0 : Int) ≤ (1 : Int) ∧ (1 : Int) < (x2.length : Int)) ∧ ((0 : Int) ≤ (2 : Int) ∧ (2 : Int) < (x2.length : Int)) ∧ ((0 : Int) ≤ (1 : Int) ∧ (1 : Int) < (x2.length : Int)) ∧ ((0 : Int) ≤ (2 : Int) ∧ (2 : Int) < (x2.length : Int)) ∧ ((1 : Int) ≤ (2 : Int) ∧ (2 : Int) ≤ (31 : Int)) ∧ ((Ty.int IntKind.u32).kd.wf (qav (ix x2 (0 : Int)) (2 : Int)) → ((1 : Int) ≤ (13 : Int) ∧ (13 : Int) ≤ (31 : Int)) ∧ ((Ty.int IntKind.u32).kd.wf (qav (ix x2 (0 : Int)) (13 : Int)) → ((1 : Int) ≤ (22 : Int) ∧ (22 : Int) ≤ (31 : Int)) ∧ ((Ty.int IntKind.u32).kd.wf (qav (ix x2 (0 : Int)) (22 : Int)) → (Ty.int IntKind.u32).kd.wf (bxor IntKind.u32 (bxor IntKind.u32 (qav (ix x2 (0 : Int)) (2 : Int)) (qav (ix x2 (0 : Int)) (13 : Int))) (qav (ix x2 (0 : Int)) (22 : Int))) → ((0 : Int) ≤ (3 : Int) ∧ (3 : Int) < (x2.length : Int)) ∧ ((0 : Int) ≤ (3 : Int) ∧ (3 : Int) < (x2.length : Int)) ∧ ((0 : Int) ≤ (0 : Int) ∧ (0 : Int) ≤ (7 : Int) ∧ (7 : Int) ≤ ((x2.set (Int.toNat (3 : Int)) (IntKind.u32.wrap (ix x2 (3 : Int) + IntKind.u32.wrap (IntKind.u32.wrap (IntKind.u32.wrap (IntKind.u32.wrap (ix x2 (7 : Int) + bxor IntKind.u32 (bxor IntKind.u32 (qav (ix x2 (4 : Int)) (6 : Int)) (qav (ix x2 (4 : Int)) (11 : Int))) (qav (ix x2 (4 : Int)) (25 : Int))) + bor IntKind.u32 (band IntKind.u32 (ix x2 (4 : Int)) (ix x2 (5 : Int))) (band IntKind.u32 (bxor IntKind.u32 (4294967295 : Int) (ix x2 (4 : Int))) (ix x2 (6 : Int)))) + ix shaK x3) + ix (qaE a1_b (64 : Nat)) x3)))).length : Int)) ∧ ((IntKind.u32.wrap (IntKind.u32.wrap (IntKind.u32.wrap (IntKind.u32.wrap (IntKind.u32.wrap (ix x2 (7 : Int) + bxor IntKind.u32 (bxor IntKind.u32 (qav (ix x2 (4 : Int)) (6 : Int)) (qav (ix x2 (4 : Int)) (11 : Int))) (qav (ix x2 (4 : Int)) (25 : Int))) + bor IntKind.u32 (band IntKind.u32 (ix x2 (4 : Int)) (ix x2 (5 : Int))) (band IntKind.u32 (bxor IntKind.u32 (4294967295 : Int) (ix x2 (4 : Int))) (ix x2 (6 : Int)))) + ix shaK x3) + ix (qaE a1_b (64 : Nat)) x3) + IntKind.u32.wrap (bxor IntKind.u32 (bxor IntKind.u32 (qav (ix x2 (0 : Int)) (2 : Int)) (qav (ix x2 (0 : Int)) (13 : Int))) (qav (ix x2 (0 : Int)) (22 : Int)) + bor IntKind.u32 (bor IntKind.u32 (band IntKind.u32 (ix x2 (0 : Int)) (ix x2 (1 : Int))) (band IntKind.u32 (ix x2 (0 : Int)) (ix x2 (2 : Int)))) (band IntKind.u32 (ix x2 (1 : Int)) (ix x2 (2 : Int))))) :: ([] : List Int)).length + (List.drop (Int.toNat (0 : Int)) (List.take (Int.toNat (7 : Int)) (x2.set (Int.toNat (3 : Int)) (IntKind.u32.wrap (ix x2 (3 : Int) + IntKind.u32.wrap (IntKind.u32.wrap (IntKind.u32.wrap (IntKind.u32.wrap (ix x2 (7 : Int) + bxor IntKind.u32 (bxor IntKind.u32 (qav (ix x2 (4 : Int)) (6 : Int)) (qav (ix x2 (4 : Int)) (11 : Int))) (qav (ix x2 (4 : Int)) (25 : Int))) + bor IntKind.u32 (band IntKind.u32 (ix x2 (4 : Int)) (ix x2 (5 : Int))) (band IntKind.u32 (bxor IntKind.u32 (4294967295 : Int) (ix x2 (4 : Int))) (ix x2 (6 : Int)))) + ix shaK x3) + ix (qaE a1_b (64 : Nat)) x3)))))).length) * (4 : Nat) ≤ (140737488355328 : Nat) ∧ x3 < (9223372036854775807 : Int) ∧ x0 (IntKind.u32.wrap (IntKind.u32.wrap (IntKind.u32.wrap (IntKind.u32.wrap (IntKind.u32.wrap (ix x2 (7 : Int) + bxor IntKind.u32 (bxor IntKind.u32 (qav (ix x2 (4 : Int)) (6 : Int)) (qav (ix x2 (4 : Int)) (11 : Int))) (qav (ix x2 (4 : Int)) (25 : Int))) + bor IntKind.u32 (band IntKind.u32 (ix x2 (4 : Int)) (ix x2 (5 : Int))) (band IntKind.u32 (bxor IntKind.u32 (4294967295 : Int) (ix x2 (4 : Int))) (ix x2 (6 : Int)))) + ix shaK x3) + ix (qaE a1_b (64 : Nat)) x3) + IntKind.u32.wrap (bxor IntKind.u32 (bxor IntKind.u32 (qav (ix x2 (0 : Int)) (2 : Int)) (qav (ix x2 (0 : Int)) (13 : Int))) (qav (ix x2 (0 : Int)) (22 : Int)) + bor IntKind.u32 (bor IntKind.u32 (band IntKind.u32 (ix x2 (0 : Int)) (ix x2 (1 : Int))) (band IntKind.u32 (ix x2 (0 : Int)) (ix x2 (2 : Int)))) (band IntKind.u32 (ix x2 (1 : Int)) (ix x2 (2 : Int))))) :: ([] : List Int) ++ List.drop (Int.toNat (0 : Int)) (List.take (Int.toNat (7 : Int)) (x2.set (Int.toNat (3 : Int)) (IntKind.u32.wrap (ix x2 (3 : Int) + IntKind.u32.wrap (IntKind.u32.wrap (IntKind.u32.wrap (IntKind.u32.wrap (ix x2 (7 : Int) + bxor IntKind.u32 (bxor IntKind.u32 (qav (ix x2 (4 : Int)) (6 : Int)) (qav (ix x2 (4 : Int)) (11 : Int))) (qav (ix x2 (4 : Int)) (25 : Int))) + bor IntKind.u32 (band IntKind.u32 (ix x2 (4 : Int)) (ix x2 (5 : Int))) (band IntKind.u32 (bxor IntKind.u32 (4294967295 : Int) (ix x2 (4 : Int))) (ix x2 (6 : Int)))) + ix shaK x3) + ix (qaE a1_b (64 : Nat)) x3)))))) (x3 + (1 : Int)) ∧ x1 (IntKind.u32.wrap (IntKind.u32.wrap (IntKind.u32.wrap (IntKind.u32.wrap (IntKind.u32.wrap (ix x2 (7 : Int) + bxor IntKind.u32 (bxor IntKind.u32 (qav (ix x2 (4 : Int)) (6 : Int)) (qav (ix x2 (4 : Int)) (11 : Int))) (qav (ix x2 (4 : Int)) (25 : Int))) + bor IntKind.u32 (band IntKind.u32 (ix x2 (4 : Int)) (ix x2 (5 : Int))) (band IntKind.u32 (bxor IntKind.u32 (4294967295 : Int) (ix x2 (4 : Int))) (ix x2 (6 : Int)))) + ix shaK x3) + ix (qaE a1_b (64 : Nat)) x3) + IntKind.u32.wrap (bxor IntKind.u32 (bxor IntKind.u32 (qav (ix x2 (0 : Int)) (2 : Int)) (qav (ix x2 (0 : Int)) (13 : Int))) (qav (ix x2 (0 : Int)) (22 : Int)) + bor IntKind.u32 (bor IntKind.u32 (band IntKind.u32 (ix x2 (0 : Int)) (ix x2 (1 : Int))) (band IntKind.u32 (ix x2 (0 : Int)) (ix x2 (2 : Int)))) (band IntKind.u32 (ix x2 (1 : Int)) (ix x2 (2 : Int))))) :: ([] : List Int) ++ List.drop (Int.toNat (0 : Int)) (List.take (Int.toNat (7 : Int)) (x2.set (Int.toNat (3 : Int)) (IntKind.u32.wrap (ix x2 (3 : Int) + IntKind.u32.wrap (IntKind.u32.wrap (IntKind.u32.wrap (IntKind.u32.wrap (ix x2 (7 : Int) + bxor IntKind.u32 (bxor IntKind.u32 (qav (ix x2 (4 : Int)) (6 : Int)) (qav (ix x2 (4 : Int)) (11 : Int))) (qav (ix x2 (4 : Int)) (25 : Int))) + bor IntKind.u32 (band IntKind.u32 (ix x2 (4 : Int)) (ix x2 (5 : Int))) (band IntKind.u32 (bxor IntKind.u32 (4294967295 : Int) (ix x2 (4 : Int))) (ix x2 (6 : Int)))) + ix shaK x3) + ix (qaE a1_b (64 : Nat)) x3)))))) (x3 + (1 : Int)) < x1 x2 x3))))))) ∧ (¬x3 < (64 : Int) → ∃ (x8 : Int → List Int → Prop), ∃ (x9 : Int → List Int → Nat), x8 (0 : Int) x2 ∧ ∀ (x10 : Int) (x11 : List Int), x8 x10 x11 → (Kd.int IntKind.i64).wf x10 → (Ty.int IntKind.u32).kd.sl.wf x11 → (x10 < (8 : Int) → ((0 : Int) ≤ x10 ∧ x10 < (x11.length : Int)) ∧ ((0 : Int) ≤ x10 ∧ x10 < (a0_old.length : Int)) ∧ ((0 : Int) ≤ x10 ∧ x10 < (x11.length : Int)) ∧ x10 < (9223372036854775807 : Int) ∧ x8 (x10 + (1 : Int)) (x11.set x10.toNat (IntKind.u32.wrap (ix x11 x10 + ix a0_old x10))) ∧ x9 (x10 + (1 : Int)) (x11.set x10.toNat (IntKind.u32.wrap (ix x11 x10 + ix a0_old x10))) < x9 x10 x11) ∧ (¬x10 < (8 : Int) → Q x11)))
theorem qnF {a0_old : List Int} {a1_b : List UInt8} (w_0 : (Ty.kd (.sl (.int .u32))).wf a0_old) (w_1 : (Ty.kd (.sl .byte)).wf a1_b) (hp : a0_old.length = 8 ∧ a1_b.length = 64) : qgu a0_old a1_b (fun o0 => o0 = (qbZ a0_old a1_b)) := by
 obtain ⟨hp1, hp2⟩ := hp
 have w64 : ∀ a : Int, -1000 ≤ a → a ≤ 1000 → IntKind.i64.wrap a = a := fun a h1 h2 => qak (wf64 (by omega) (by omega))
 have hk : shaK.length = 64 := by decide
 have hwl := qc8 a1_b 64
 have hrl : ∀ n, (qbE (qaE a1_b 64) a0_old n).length = 8 := fun n => by
  cases n with
  | zero => exact hp1
  | succ n => rfl
 unfold qgu
 simp only [List.nil_append]
 refine ⟨by simp; omega, hp2, fun _ _ => ⟨fun x i => ∃ n : Nat, i = (n : Int) ∧ n ≤ 64 ∧ x = qbE (qaE a1_b 64) a0_old n, fun _ i => 64 - i.toNat, ⟨0, rfl, by omega, rfl⟩, ?_⟩⟩
 rintro x i ⟨n, rfl, hn, rfl⟩ hwf _
 have hx := hrl n
 refine ⟨fun hlt => ?_, fun hge => ?_⟩
 ·have x4 := wf32 (hwf.2 _ (qeU (l := qbE (qaE a1_b 64) a0_old n) (i := 4) (by omega) (by rw [hx]; decide)))
  have x0 := wf32 (hwf.2 _ (qeU (l := qbE (qaE a1_b 64) a0_old n) (i := 0) (by omega) (by rw [hx]; decide)))
  have hnext : qbE (qaE a1_b 64) a0_old (n + 1) = qp2 (qaE a1_b 64) (qbE (qaE a1_b 64) a0_old n) n := rfl
  rw [← qwY x4, ← qwZ x0, qxI, qwC]
  generalize hX : qbE (qaE a1_b 64) a0_old n = X at *
  rw [hx, hk, hwl]
  refine ⟨by omega, by omega, by omega, by omega, by omega, by omega, by omega, by omega, fun _ => ⟨by omega, fun _ => ⟨by omega, fun _ _ => ?_⟩⟩⟩
  refine ⟨by omega, by omega, by omega, by omega, by omega, fun _ => ⟨by omega, fun _ => ⟨by omega, fun _ _ => ?_⟩⟩⟩
  refine ⟨by omega, by omega, ?_, ?_, by omega, ⟨n + 1, by omega, by omega, ?_⟩, (by show 64 - ((n : Int) + 1).toNat < 64 - (n : Int).toNat; omega)⟩
  ·rw [List.length_set, hx]; decide
  ·simp only [List.length_cons, List.length_nil, List.length_drop, List.length_take, List.length_set, hx]; decide
  ·rw [hnext]
   match X, hx with
   | [y0, y1, y2, y3, y4, y5, y6, y7], _ => rfl
 ·have hn64 : n = 64 := by omega
  subst hn64
  have hT : qbZ a0_old a1_b = addN a0_old (qbE (qaE a1_b 64) a0_old 64) 8 := by unfold qbZ; rfl
  rw [hT]
  have hTl : (addN a0_old (qbE (qaE a1_b 64) a0_old 64) 8).length = 8 := by rw [qgf, hp1]
  have hadd := qrz (x := qbE (qaE a1_b 64) a0_old 64) hp1
  clear hrl hT hwf hn hge
  generalize qbE (qaE a1_b 64) a0_old 64 = R at *
  refine ⟨fun i x => ∃ n : Nat, i = (n : Int) ∧ n ≤ 8 ∧ x.length = 8 ∧ ∀ j : Nat, j < 8 → x[j]? = if j < n then (addN a0_old R 8)[j]? else R[j]?, fun i _ => 8 - i.toNat, ⟨0, rfl, by omega, hx, fun j hj => by rw [if_neg (by omega)]⟩, ?_⟩
  rintro i x ⟨n, rfl, hn, hxl, hxj⟩ _ _
  refine ⟨fun hlt => ⟨by omega, by omega, by omega, by omega, ⟨n + 1, by omega, by omega, by rw [List.length_set]; exact hxl, fun j hj => ?_⟩, by show 8 - ((n : Int) + 1).toNat < 8 - (n : Int).toNat; omega⟩, fun hge => ?_⟩
  ·have hi : ix x (n : Int) = ix R (n : Int) := by
    have h := hxj n (by omega)
    rw [if_neg (by omega)] at h
    unfold ix
    simp only [List.getD_eq_getElem?_getD, Int.toNat_natCast]
    rw [h]
   rw [hi, List.getElem?_set, Int.toNat_natCast]
   by_cases h : n = j
   ·subst h
    rw [if_pos rfl, if_pos (by omega), if_pos (by omega), hadd 8 n (by omega) (by omega), if_pos (by omega), Int.add_comm]
   ·rw [if_neg h, hxj j hj]
    by_cases h2 : j < n
    ·rw [if_pos h2, if_pos (by omega)]
    ·rw [if_neg h2, if_neg (by omega)]
  ·have hn8 : n = 8 := by omega
   subst hn8
   apply List.ext_getElem?
   intro j
   by_cases hj : j < 8
   ·rw [hxj j hj, if_pos hj]
   ·rw [List.getElem?_eq_none (by omega), List.getElem?_eq_none (by omega)]
theorem qnE : (∀ a, qdS.pre a → PM.wfP qdS.pm a (fvc qlz 200 128 qdS a (eqO qdS a))) = (∀ a : (List Int) × (List UInt8) × Unit, ((a.1).length = 8 ∧ (a.2.1).length = 64) → (Ty.kd (.sl (.int .u32))).wf a.1 → (Ty.kd (.sl .byte)).wf a.2.1 → qgu a.1 a.2.1 (fun o0 => o0 = (qbZ (a.1) (a.2.1)))) := by kernel_rfl
theorem qlA : qdS.valid Try.prog 128 := qar (X := qlz) (qaH (qai.rows [1000189]) (fun b hb => by cases hb; exact qap) qaq ⟨qno, qkP, qtr, qqf, trivial⟩) 200 (qnE.mpr fun a hp w_0 w_1 => @qnF a.1 a.2.1 w_0 w_1 hp)
noncomputable def qnG : Ctr := ⟨[.v (.sl (.int .u32)), .v (.sl .byte)], [.ow 189 (.int .u32)], some (fun a => (fun (a0_old : List Int) (a1_b : List UInt8) => (a0_old.length = 8 ∧ a1_b.length = 64 : Prop)) a.1 a.2.1), fun a => (fun (a0_old : List Int) (a1_b : List UInt8) => (((qbZ a0_old a1_b), ()), (()))) a.1 a.2.1⟩
theorem qtB : qnG.valid Try.prog 128 := qmz qlA
noncomputable def qhI : Ctr := ⟨[.v (.sl (.sl .byte))], [.ow 5 .byte], some (fun a => (fun (a0_parts : List (List UInt8)) => (a0_parts.flatten.length ≤ 70368744177664 : Prop)) a.1), fun a => (fun (a0_parts : List (List UInt8)) => ((a0_parts.flatten, ()), (()))) a.1⟩
noncomputable def qsX : Fx := ⟨seat, some bkT, fns, [], [], [], []⟩
def qkx (a0_parts : List (List UInt8)) (Q : (List UInt8) → Prop) : Prop :=
 ∃ (x0 : List UInt8 → Int → Prop), ∃ (x1 : List UInt8 → Int → Nat), x0 ([] : List UInt8) (0 : Int) ∧ ∀ (x2 : List UInt8) (x3 : Int), x0 x2 x3 → Ty.byte.kd.sl.wf x2 → (Kd.int IntKind.i64).wf x3 → (x3 < (a0_parts.length : Int) → ((0 : Int) ≤ x3 ∧ x3 < (a0_parts.length : Int)) ∧ (x2.length + (ix a0_parts x3).length) * (1 : Nat) ≤ (140737488355328 : Nat) ∧ x3 < (9223372036854775807 : Int) ∧ x0 (x2 ++ ix a0_parts x3) (x3 + (1 : Int)) ∧ x1 (x2 ++ ix a0_parts x3) (x3 + (1 : Int)) < x1 x2 x3) ∧ (¬x3 < (a0_parts.length : Int) → Q x2)
theorem qtW {a0_parts : List (List UInt8)} (w_0 : (Ty.kd (.sl (.sl .byte))).wf a0_parts) (hp : a0_parts.flatten.length ≤ 70368744177664) : qkx a0_parts (fun o0 => o0 = a0_parts.flatten) := by
 have hL : a0_parts.length ≤ LM := w_0.1
 unfold LM at hL
 unfold qkx
 refine ⟨fun out i => ∃ j : Nat, i = (j : Int) ∧ j ≤ a0_parts.length ∧ out = (a0_parts.take j).flatten, fun _ i => a0_parts.length - i.toNat, ⟨0, rfl, by omega, by simp⟩, ?_⟩
 rintro out i ⟨j, rfl, hj, rfl⟩ _ _
 refine ⟨fun hlt => ⟨⟨by omega, hlt⟩, ?_, by omega, ⟨j + 1, by omega, by omega, (qdC hlt).symm⟩, ?_⟩, fun hge => ?_⟩
 ·have h1 := qgV (l := a0_parts) (j + 1)
  rw [qdC hlt, List.length_append] at h1
  omega
 ·show a0_parts.length - ((j : Int) + 1).toNat < a0_parts.length - (j : Int).toNat
  omega
 ·have : j = a0_parts.length := by omega
  subst this
  rw [List.take_length]
theorem qtV : (∀ a, qhI.pre a → PM.wfP qhI.pm a (fvc qsX 200 127 qhI a (eqO qhI a))) = (∀ a : (List (List UInt8)) × Unit, ((a.1).flatten.length ≤ 70368744177664) → (Ty.kd (.sl (.sl .byte))).wf a.1 → qkx a.1 (fun o0 => o0 = (a.1).flatten)) := by kernel_rfl
theorem qvH : qhI.valid Try.prog 127 := qar (X := qsX) (qaH qai (fun b hb => by cases hb; exact qap) qaq trivial) 200 (qtV.mpr fun a hp w_0 => @qtW a.1 w_0 hp)
noncomputable def qhJ : Ctr := ⟨[.v (.sl (.sl .byte))], [.v (.arr 32 .byte)], some (fun a => (fun (a0_parts : List (List UInt8)) => (a0_parts.flatten.length ≤ 70368744177664 : Prop)) a.1), fun a => (fun (a0_parts : List (List UInt8)) => (((qa0 a0_parts), ()), (()))) a.1⟩
noncomputable def qsY : Fx := ⟨seat, some bkT, fns, [(127, qhI), (126, qcM), (128, qnG), (128, qdS), (129, qeB)], [], [(9, [5], [])], [(11, [5], [.o 0 2, .o 1 2, .o 2 2, .o 3 2, .o 4 2, .o 5 2, .o 6 2, .o 7 2, .o 8 2, .o 9 2, .o 10 0, .o 11 2, .o 12 2, .o 13 2, .o 14 2, .o 15 1])]⟩
def qkA (a0_parts : List (List UInt8)) (Q : (List UInt8) → Prop) : Prop :=
 a0_parts.flatten.length ≤ (70368744177664 : Nat) ∧ (Ty.byte.kd.sl.wf a0_parts.flatten → a0_parts.flatten.length ≤ (70368744177664 : Nat) ∧ (Ty.byte.kd.sl.wf (qc0 a0_parts.flatten) → ∃ (x0 : List Int → Int → Prop), ∃ (x1 : List Int → Int → Nat), x0 ((1779033703 : Int) :: (3144134277 : Int) :: (1013904242 : Int) :: (2773480762 : Int) :: (1359893119 : Int) :: (2600822924 : Int) :: (528734635 : Int) :: (1541459225 : Int) :: ([] : List Int)) (0 : Int) ∧ ∀ (x2 : List Int) (x3 : Int), x0 x2 x3 → (Ty.int IntKind.u32).kd.sl.wf x2 → (Kd.int IntKind.i64).wf x3 → (x3 < ((qc0 a0_parts.flatten).length : Int) → ((0 : Int) ≤ x3 ∧ x3 ≤ IntKind.i64.wrap (x3 + (64 : Int)) ∧ IntKind.i64.wrap (x3 + (64 : Int)) ≤ ((qc0 a0_parts.flatten).length : Int)) ∧ (x2.length = (8 : Nat) ∧ (List.drop x3.toNat (List.take (IntKind.i64.wrap (x3 + (64 : Int))).toNat (qc0 a0_parts.flatten))).length = (64 : Nat)) ∧ ((Ty.int IntKind.u32).kd.sl.wf (qbZ x2 (List.drop x3.toNat (List.take (IntKind.i64.wrap (x3 + (64 : Int))).toNat (qc0 a0_parts.flatten)))) → x0 (qbZ x2 (List.drop x3.toNat (List.take (IntKind.i64.wrap (x3 + (64 : Int))).toNat (qc0 a0_parts.flatten)))) (IntKind.i64.wrap (x3 + (64 : Int))) ∧ x1 (qbZ x2 (List.drop x3.toNat (List.take (IntKind.i64.wrap (x3 + (64 : Int))).toNat (qc0 a0_parts.flatten)))) (IntKind.i64.wrap (x3 + (64 : Int))) < x1 x2 x3)) ∧ (¬x3 < ((qc0 a0_parts.flatten).length : Int) → ∃ (x8 : Int → List UInt8 → Prop), ∃ (x9 : Int → List UInt8 → Nat), x8 (0 : Int) (Ty.arr (32 : Nat) Ty.byte).kd.z ∧ ∀ (x10 : Int) (x11 : List UInt8), x8 x10 x11 → (Kd.int IntKind.i64).wf x10 → (Ty.arr (32 : Nat) Ty.byte).kd.wf x11 → (x10 < (32 : Int) → ((0 : Int) ≤ IntKind.i64.wrap (x10.tdiv (4 : Int)) ∧ IntKind.i64.wrap (x10.tdiv (4 : Int)) < (x2.length : Int)) ∧ ((0 : Int) ≤ IntKind.i64.wrap ((24 : Int) - IntKind.i64.wrap (x10.tmod (4 : Int) * (8 : Int))) ∧ IntKind.i64.wrap ((24 : Int) - IntKind.i64.wrap (x10.tmod (4 : Int) * (8 : Int))) ≤ (31 : Int)) ∧ ((Ty.int IntKind.u32).kd.wf ((2 : Int) ^ (IntKind.i64.wrap ((24 : Int) - IntKind.i64.wrap (x10.tmod (4 : Int) * (8 : Int)))).toNat) → (2 : Int) ^ (IntKind.i64.wrap ((24 : Int) - IntKind.i64.wrap (x10.tmod (4 : Int) * (8 : Int)))).toNat ≠ (0 : Int) ∧ ((0 : Int) ≤ x10 ∧ x10 < ((32 : Nat) : Int)) ∧ x10 < (9223372036854775807 : Int) ∧ x8 (x10 + (1 : Int)) (x11.set x10.toNat (toB (IntKind.u8.wrap ((IntKind.u32.wrap ((ix x2 (IntKind.i64.wrap (x10.tdiv (4 : Int)))).tdiv ((2 : Int) ^ (IntKind.i64.wrap ((24 : Int) - IntKind.i64.wrap (x10.tmod (4 : Int) * (8 : Int)))).toNat))).tmod (256 : Int))))) ∧ x9 (x10 + (1 : Int)) (x11.set x10.toNat (toB (IntKind.u8.wrap ((IntKind.u32.wrap ((ix x2 (IntKind.i64.wrap (x10.tdiv (4 : Int)))).tdiv ((2 : Int) ^ (IntKind.i64.wrap ((24 : Int) - IntKind.i64.wrap (x10.tmod (4 : Int) * (8 : Int)))).toNat))).tmod (256 : Int))))) < x9 x10 x11)) ∧ (¬x10 < (32 : Int) → Q x11))))
theorem qt5 {a0_parts : List (List UInt8)} (w_0 : (Ty.kd (.sl (.sl .byte))).wf a0_parts) (hp : a0_parts.flatten.length ≤ 70368744177664) : qkA a0_parts (fun o0 => o0 = (qa0 a0_parts)) := by
 have w64 : ∀ a : Int, 0 ≤ a → a ≤ 140737488355328 → IntKind.i64.wrap a = a := fun a h1 h2 => qak (wf64 (by omega) (by omega))
 unfold qkA
 refine ⟨hp, fun _ => ⟨hp, fun _ => ?_⟩⟩
 rw [qnq _ hp]
 have hml := qj0 a0_parts.flatten
 have hz : qba a0_parts.flatten.length < 64 ∧ (a0_parts.flatten.length + (1 + (qba a0_parts.flatten.length + 8))) % 64 = 0 := by unfold qba; omega
 generalize hM : qc0 a0_parts.flatten = M at *
 have hM64 : M.length % 64 = 0 := by omega
 have hMle : M.length ≤ 70368744177664 + 100 := by omega
 clear hml hz hM
 refine ⟨fun x i => ∃ k : Nat, i = ((64 * k : Nat) : Int) ∧ 64 * k ≤ M.length ∧ x = blkN shaH M k, fun _ i => M.length - i.toNat, ⟨0, rfl, by omega, rfl⟩, ?_⟩
 rintro x i ⟨k, rfl, hk, rfl⟩ hwx _
 have hbl : (blkN shaH M k).length = 8 := by rw [ql3]; rfl
 refine ⟨fun hlt => ?_, fun hge => ?_⟩
 ·rw [w64 _ (by omega) (by omega)]
  have e1 : (((64 * k : Nat) : Int) + 64).toNat = 64 * k + 64 := by omega
  rw [e1, Int.toNat_natCast]
  have hd : (M.take (64 * k + 64)).drop (64 * k) = (M.drop (64 * k)).take 64 := by rw [List.drop_take]; congr 1; omega
  rw [hd]
  refine ⟨by omega, ⟨hbl, by rw [List.length_take, List.length_drop]; omega⟩, fun _ => ⟨⟨k + 1, by omega, by omega, rfl⟩, ?_⟩⟩
  show M.length - (((64 * k : Nat) : Int) + 64).toNat < M.length - ((64 * k : Nat) : Int).toNat
  omega
 ·have hk2 : M.length / 64 = k := by omega
  rw [hk2, qsw]
  generalize blkN shaH M k = X at *
  refine ⟨fun i b => ∃ n : Nat, i = (n : Int) ∧ n ≤ 32 ∧ b.length = 32 ∧ ∀ j : Nat, j < n → b[j]? = some (outB X j), fun i _ => 32 - i.toNat, ⟨0, rfl, by omega, rfl, fun j hj => by omega⟩, ?_⟩
  rintro i b ⟨n, rfl, hn, hb, hbj⟩ _ _
  refine ⟨fun hlt => ?_, fun hge => ?_⟩
  ·have w64' : ∀ a : Int, -1000 ≤ a → a ≤ 1000 → IntKind.i64.wrap a = a := fun a h1 h2 => qak (wf64 (by omega) (by omega))
   have d1 : Int.tdiv (n : Int) 4 = ((n / 4 : Nat) : Int) := (Int.ofNat_tdiv n 4).symm
   have d2 : Int.tmod (n : Int) 4 = ((n % 4 : Nat) : Int) := (Int.ofNat_tmod n 4).symm
   rw [d1, d2, w64' ((n / 4 : Nat) : Int) (by omega) (by omega), w64' (((n % 4 : Nat) : Int) * 8) (by omega) (by omega), w64' (24 - ((n % 4 : Nat) : Int) * 8) (by omega) (by omega)]
   have e3 : (24 - ((n % 4 : Nat) : Int) * 8).toNat = 24 - n % 4 * 8 := by omega
   rw [e3]
   have hpos := Nat.two_pow_pos (24 - n % 4 * 8)
   have e4 : (2 ^ (24 - n % 4 * 8) : Int) = ((2 ^ (24 - n % 4 * 8) : Nat) : Int) := by simp
   rw [e4]
   refine ⟨by omega, by omega, fun _ => ⟨by omega, by omega, by omega, ⟨n + 1, by omega, by omega, by rw [List.length_set]; exact hb, fun j hj => ?_⟩, by show 32 - ((n : Int) + 1).toNat < 32 - (n : Int).toNat; omega⟩⟩
   rw [List.getElem?_set, Int.toNat_natCast]
   by_cases h : n = j
   ·subst h
    rw [if_pos rfl, if_pos (by omega)]
    congr 1
    unfold outB
    have hxw := wf32 (hwx.2 _ (qeU (l := X) (i := ((n / 4 : Nat) : Int)) (by omega) (by omega)))
    obtain ⟨A, hA⟩ := Int.eq_ofNat_of_zero_le hxw.1
    rw [hA] at hxw ⊢
    have hle : A / 2 ^ (24 - n % 4 * 8) ≤ A := Nat.div_le_self _ _
    rw [← Int.ofNat_tdiv, Int.toNat_natCast]
    generalize A / 2 ^ (24 - n % 4 * 8) = D at *
    rw [qbj (by omega), show (256 : Int) = ((256 : Nat) : Int) from rfl, ← Int.ofNat_tmod, qak ⟨by show (0 : Int) ≤ _; omega, by show _ ≤ (255 : Int); omega⟩]
    unfold toB
    rw [Int.toNat_natCast]
    apply UInt8.toNat_inj.1
    simp
   ·rw [if_neg h]
    exact hbj j (by omega)
  ·have : n = 32 := by omega
   subst this
   apply List.ext_getElem?
   intro j
   by_cases hj : j < 32
   ·rw [hbj j hj]
    simp [hj]
   ·rw [List.getElem?_eq_none (by omega), List.getElem?_eq_none (by simp; omega)]
theorem qt4 : (∀ a, qhJ.pre a → PM.wfP qhJ.pm a (fvc qsY 200 111 qhJ a (eqO qhJ a))) = (∀ a : (List (List UInt8)) × Unit, ((a.1).flatten.length ≤ 70368744177664) → (Ty.kd (.sl (.sl .byte))).wf a.1 → qkA a.1 (fun o0 => o0 = (qa0 (a.1)))) := by kernel_rfl
theorem qvL : qhJ.valid Try.prog 111 := qar (X := qsY) (qaH qai (fun b hb => by cases hb; exact qap) qaq ⟨qvH, qnW, qtB, qlA, qpW, trivial⟩) 200 (qt4.mpr fun a hp w_0 => @qt5 a.1 w_0 hp)
noncomputable def qcl : Ctr := ⟨[.v (.int .u64)], [.ow 5 .byte], none, fun a => (fun (a0_x : Int) => (((numB a0_x.toNat), ()), (()))) a.1⟩
noncomputable def qjp : Fx := ⟨seat, some bkT, fns, [], [], [], []⟩
def qfj (a0_x : Int) (Q : (List UInt8) → Prop) : Prop :=
 ∃ (x0 : Int → List UInt8 → Prop), ∃ (x1 : Int → List UInt8 → Nat), x0 a0_x ([] : List UInt8) ∧ ∀ (x2 : Int) (x3 : List UInt8), x0 x2 x3 → (Kd.int IntKind.u64).wf x2 → Ty.byte.kd.sl.wf x3 → ((0 : Int) < x2 → (x3.length + (toB (IntKind.u8.wrap (x2.tmod (256 : Int))) :: ([] : List UInt8)).length) * (1 : Nat) ≤ (140737488355328 : Nat) ∧ x0 (IntKind.u64.wrap (x2.tdiv (256 : Int))) (x3 ++ toB (IntKind.u8.wrap (x2.tmod (256 : Int))) :: ([] : List UInt8)) ∧ x1 (IntKind.u64.wrap (x2.tdiv (256 : Int))) (x3 ++ toB (IntKind.u8.wrap (x2.tmod (256 : Int))) :: ([] : List UInt8)) < x1 x2 x3) ∧ (¬(0 : Int) < x2 → ∃ (x8 : List UInt8 → Int → Prop), ∃ (x9 : List UInt8 → Int → Nat), x8 (toB (IntKind.u8.wrap (x3.length : Int)) :: ([] : List UInt8)) (x3.length : Int) ∧ ∀ (x10 : List UInt8) (x11 : Int), x8 x10 x11 → Ty.byte.kd.sl.wf x10 → (Kd.int IntKind.i64).wf x11 → ((0 : Int) < x11 → ((0 : Int) ≤ IntKind.i64.wrap (x11 - (1 : Int)) ∧ IntKind.i64.wrap (x11 - (1 : Int)) < (x3.length : Int)) ∧ (x10.length + (ix x3 (IntKind.i64.wrap (x11 - (1 : Int))) :: ([] : List UInt8)).length) * (1 : Nat) ≤ (140737488355328 : Nat) ∧ x8 (x10 ++ ix x3 (IntKind.i64.wrap (x11 - (1 : Int))) :: ([] : List UInt8)) (IntKind.i64.wrap (x11 - (1 : Int))) ∧ x9 (x10 ++ ix x3 (IntKind.i64.wrap (x11 - (1 : Int))) :: ([] : List UInt8)) (IntKind.i64.wrap (x11 - (1 : Int))) < x9 x10 x11) ∧ (¬(0 : Int) < x11 → Q x10))
theorem qm0 {a0_x : Int} (w_0 : (Ty.kd (.int .u64)).wf a0_x) : qfj a0_x (fun o0 => o0 = (numB a0_x.toNat)) := by
 obtain ⟨n, rfl⟩ := Int.eq_ofNat_of_zero_le w_0.1
 have hn : n < 18446744073709551616 := by have h : (n : Int) ≤ 18446744073709551615 := w_0.2; omega
 rw [Int.toNat_natCast]
 have w64 : ∀ a : Int, -1000 ≤ a → a ≤ 1000 → IntKind.i64.wrap a = a := fun a h1 h2 => qak (wf64 (by omega) (by omega))
 unfold qfj
 refine ⟨fun x low => ∃ j : Nat, j ≤ 8 ∧ x = ((n / 2 ^ (8 * j) : Nat) : Int) ∧ low = (List.range j).map (fun i => UInt8.ofNat (n / 2 ^ (8 * i))) ∧ (j = 0 ∨ 0 < n / 2 ^ (8 * (j - 1))), fun x _ => x.toNat, ⟨0, by omega, by simp, rfl, .inl rfl⟩, ?_⟩
 rintro x low ⟨j, hj, rfl, rfl, hlow⟩ _ _
 have hdd : n / 2 ^ (8 * (j + 1)) = n / 2 ^ (8 * j) / 256 := by
  rw [Nat.div_div_eq_div_mul, show 8 * (j + 1) = 8 * j + 8 by omega, Nat.pow_add]
 refine ⟨fun hpos => ?_, fun hz => ?_⟩
 ·have hj8 : j < 8 := by
   rcases Nat.lt_or_eq_of_le hj with h | h
   ·exact h
   ·subst h
    rw [Nat.div_eq_of_lt (by simpa using hn)] at hpos
    omega
  have hle : n / 2 ^ (8 * j) ≤ n := Nat.div_le_self _ _
  have e1 : IntKind.u64.wrap (Int.tdiv ((n / 2 ^ (8 * j) : Nat) : Int) 256) = ((n / 2 ^ (8 * (j + 1)) : Nat) : Int) := by
   rw [hdd]
   clear hdd hlow hpos
   generalize n / 2 ^ (8 * j) = A at *
   rw [show (256 : Int) = ((256 : Nat) : Int) from rfl, ← Int.ofNat_tdiv, qak ⟨by show (0 : Int) ≤ _; omega, by show _ ≤ (18446744073709551615 : Int); omega⟩]
  have e2 : toB (IntKind.u8.wrap (Int.tmod ((n / 2 ^ (8 * j) : Nat) : Int) 256)) = UInt8.ofNat (n / 2 ^ (8 * j)) := by
   generalize n / 2 ^ (8 * j) = A
   rw [show (256 : Int) = ((256 : Nat) : Int) from rfl, ← Int.ofNat_tmod, qak ⟨by show (0 : Int) ≤ _; omega, by show _ ≤ (255 : Int); omega⟩]
   unfold toB
   rw [Int.toNat_natCast]
   apply UInt8.toNat_inj.1
   simp
  rw [e1, e2]
  refine ⟨by simp; omega, ⟨j + 1, by omega, rfl, by rw [List.range_succ]; simp, .inr ?_⟩, ?_⟩
  ·rw [show j + 1 - 1 = j by omega]
   clear hdd hlow e1 e2
   generalize n / 2 ^ (8 * j) = A at *
   omega
  ·show ((n / 2 ^ (8 * (j + 1)) : Nat) : Int).toNat < ((n / 2 ^ (8 * j) : Nat) : Int).toNat
   rw [hdd]
   clear hdd hlow e1 e2
   generalize n / 2 ^ (8 * j) = A at *
   omega
 ·have hz0 : n / 2 ^ (8 * j) = 0 := by
   revert hz
   generalize n / 2 ^ (8 * j) = A
   intro hz
   omega
  have hlt : n < 2 ^ (8 * j) := by
   rcases Nat.lt_or_ge n (2 ^ (8 * j)) with h | h
   ·exact h
   ·have := Nat.div_pos h (Nat.two_pow_pos (8 * j)); omega
  have hk : (blen n + 7) / 8 = j := by
   have h1 := qes (8 * j) hlt
   rcases hlow with h | h
   ·subst h; omega
   ·have h2 : 2 ^ (8 * (j - 1)) ≤ n := by
     rcases Nat.lt_or_ge n (2 ^ (8 * (j - 1))) with hq | hq
     ·rw [Nat.div_eq_of_lt hq] at h; omega
     ·exact hq
    have h3 := Nat.lt_of_le_of_lt h2 (qpJ n)
    have h4 : 8 * (j - 1) < blen n := (Nat.pow_lt_pow_iff_right (by omega)).1 h3
    rcases Nat.eq_zero_or_pos j with hj0 | hj0
    ·subst hj0; omega
    ·omega
  have hlen : ((List.range j).map (fun i => UInt8.ofNat (n / 2 ^ (8 * i)))).length = j := by simp
  have hix : ∀ i : Nat, i < j → ix ((List.range j).map (fun i => UInt8.ofNat (n / 2 ^ (8 * i)))) (i : Int) = UInt8.ofNat (n / 2 ^ (8 * i)) := fun i hi => by
   unfold ix
   simp [hi]
  have hn0 : numB n = toB (IntKind.u8.wrap (j : Int)) :: be n j := by
   unfold numB
   simp only [hk]
   congr 1
   rw [qak ⟨by show (0 : Int) ≤ _; omega, by show _ ≤ (255 : Int); omega⟩]
   unfold toB
   rw [Int.toNat_natCast]
  rw [hlen, hn0]
  refine ⟨fun out i => ∃ m : Nat, i = (m : Int) ∧ m ≤ j ∧ out ++ be n m = toB (IntKind.u8.wrap (j : Int)) :: be n j, fun _ i => i.toNat, ⟨j, rfl, by omega, rfl⟩, ?_⟩
  rintro out i ⟨m, rfl, hm, hout⟩ _ _
  have hol := congrArg List.length hout
  simp only [List.length_append, List.length_cons, qaQ] at hol
  refine ⟨fun hpos => ?_, fun h0 => ?_⟩
  ·obtain ⟨m, rfl⟩ : ∃ m', m = m' + 1 := ⟨m - 1, by omega⟩
   have e : IntKind.i64.wrap (((m + 1 : Nat) : Int) - 1) = (m : Int) := by rw [w64 _ (by omega) (by omega)]; omega
   rw [e, hix m (by omega)]
   refine ⟨by omega, by simp only [List.length_cons, List.length_nil]; omega, ⟨m, rfl, by omega, ?_⟩, by show (m : Int).toNat < ((m + 1 : Nat) : Int).toNat; omega⟩
   rw [← hout]
   simp [be]
  ·have : m = 0 := by omega
   subst this
   simpa [be] using hout
theorem qmZ : (∀ a, qcl.pre a → PM.wfP qcl.pm a (fvc qjp 200 109 qcl a (eqO qcl a))) = (∀ a : Int × Unit, True → (Ty.kd (.int .u64)).wf a.1 → qfj a.1 (fun o0 => o0 = (numB (a.1).toNat))) := by kernel_rfl
theorem qjq : qcl.valid Try.prog 109 := qar (X := qjp) (qaH qai (fun b hb => by cases hb; exact qap) qaq trivial) 200 (qmZ.mpr fun a hp w_0 => @qm0 a.1 w_0)
noncomputable def qdU : Ctr := ⟨[.v (.sl .byte), .v (.sl (.sl .byte))], [.ow 5 .byte], some (fun a => (fun (a0_b : List UInt8) (a1_l : List (List UInt8)) => (a0_b.length + qah a1_l ≤ 140737488355328 : Prop)) a.1 a.2.1), fun a => (fun (a0_b : List UInt8) (a1_l : List (List UInt8)) => (((a0_b ++ qaF a1_l), ()), (()))) a.1 a.2.1⟩
noncomputable def qlK : Fx := ⟨seat, some bkT, fns, [(109, qcl)], [], [], []⟩
def qgA (a0_b : List UInt8) (a1_l : List (List UInt8)) (Q : (List UInt8) → Prop) : Prop :=
 (([] : List UInt8).length + a0_b.length) * (1 : Nat) ≤ (140737488355328 : Nat) ∧ ∃ (x0 : List UInt8 → Int → Prop), ∃ (x1 : List UInt8 → Int → Nat), x0 (([] : List UInt8) ++ a0_b) (0 : Int) ∧ ∀ (x2 : List UInt8) (x3 : Int), x0 x2 x3 → Ty.byte.kd.sl.wf x2 → (Kd.int IntKind.i64).wf x3 → (x3 < (a1_l.length : Int) → ((0 : Int) ≤ x3 ∧ x3 < (a1_l.length : Int)) ∧ (Ty.byte.kd.sl.wf (numB (IntKind.u64.wrap ((ix a1_l x3).length : Int)).toNat) → (x2.length + (numB (IntKind.u64.wrap ((ix a1_l x3).length : Int)).toNat).length) * (1 : Nat) ≤ (140737488355328 : Nat) ∧ ((0 : Int) ≤ x3 ∧ x3 < (a1_l.length : Int)) ∧ ((x2 ++ numB (IntKind.u64.wrap ((ix a1_l x3).length : Int)).toNat).length + (ix a1_l x3).length) * (1 : Nat) ≤ (140737488355328 : Nat) ∧ x3 < (9223372036854775807 : Int) ∧ x0 (x2 ++ numB (IntKind.u64.wrap ((ix a1_l x3).length : Int)).toNat ++ ix a1_l x3) (x3 + (1 : Int)) ∧ x1 (x2 ++ numB (IntKind.u64.wrap ((ix a1_l x3).length : Int)).toNat ++ ix a1_l x3) (x3 + (1 : Int)) < x1 x2 x3)) ∧ (¬x3 < (a1_l.length : Int) → Q x2)
theorem qn2 {a0_b : List UInt8} {a1_l : List (List UInt8)} (w_0 : (Ty.kd (.sl .byte)).wf a0_b) (w_1 : (Ty.kd (.sl (.sl .byte))).wf a1_l) (hp : a0_b.length + qah a1_l ≤ 140737488355328) : qgA a0_b a1_l (fun o0 => o0 = (a0_b ++ qaF a1_l)) := by
 have hw : ∀ x ∈ a1_l, x.length ≤ LM := fun x hx => (w_1.2 x hx).1
 have hL : a1_l.length ≤ LM := w_1.1
 unfold LM at hL
 unfold qgA
 simp only [List.nil_append]
 refine ⟨by simp only [List.length_nil]; omega, fun out i => ∃ j : Nat, i = (j : Int) ∧ j ≤ a1_l.length ∧ out = a0_b ++ qaF (a1_l.take j), fun _ i => a1_l.length - i.toNat, ⟨0, rfl, by omega, by simp [qaF]⟩, ?_⟩
 rintro out i ⟨j, rfl, hj, rfl⟩ _ _
 refine ⟨fun hlt => ?_, fun hge => ?_⟩
 ·have h1 := qbx (a1_l.take j) (fun y hy => by have := hw y (List.mem_of_mem_take hy); unfold LM at this; omega)
  have h2 := qdd hlt
  have h3 := hw _ (qeU (by omega) hlt)
  have h4 : IntKind.u64.wrap ((ix a1_l (j : Int)).length : Int) = ((ix a1_l (j : Int)).length : Int) := qak ⟨by show (0 : Int) ≤ _; omega, by unfold LM at h3; show _ ≤ (18446744073709551615 : Int); omega⟩
  have h5 := qbp (n := (ix a1_l (j : Int)).length) (by unfold LM at h3; omega)
  rw [h4, Int.toNat_natCast]
  refine ⟨⟨by omega, hlt⟩, fun _ => ⟨?_, ⟨by omega, hlt⟩, ?_, by omega, ⟨j + 1, by omega, by omega, ?_⟩, ?_⟩⟩
  ·simp only [List.length_append]; omega
  ·simp only [List.length_append]; omega
  ·rw [qb9 hlt]
   simp [qaF]
  ·show a1_l.length - ((j : Int) + 1).toNat < a1_l.length - (j : Int).toNat
   omega
 ·have : j = a1_l.length := by omega
  subst this
  rw [List.take_length]
theorem qn1 : (∀ a, qdU.pre a → PM.wfP qdU.pm a (fvc qlK 200 96 qdU a (eqO qdU a))) = (∀ a : (List UInt8) × (List (List UInt8)) × Unit, ((a.1).length + qah (a.2.1) ≤ 140737488355328) → (Ty.kd (.sl .byte)).wf a.1 → (Ty.kd (.sl (.sl .byte))).wf a.2.1 → qgA a.1 a.2.1 (fun o0 => o0 = ((a.1) ++ qaF (a.2.1)))) := by kernel_rfl
theorem qqW : qdU.valid Try.prog 96 := qar (X := qlK) (qaH qai (fun b hb => by cases hb; exact qap) qaq ⟨qjq, trivial⟩) 200 (qn1.mpr fun a hp w_0 w_1 => @qn2 a.1 a.2.1 w_0 w_1 hp)
noncomputable def qbT : Ctr := ⟨[.v (.int .i64), .v (.sl (.sl .byte))], [.ow 5 .byte], some (fun a => (fun (a0_kind : Int) (a1_parts : List (List UInt8)) => (1 + qah a1_parts ≤ 140737488355328 : Prop)) a.1 a.2.1), fun a => (fun (a0_kind : Int) (a1_parts : List (List UInt8)) => (((preimage a0_kind a1_parts), ()), (()))) a.1 a.2.1⟩
noncomputable def qgC : Fx := ⟨seat, some bkT, fns, [(96, qdU)], [], [], []⟩
def qdx (a0_kind : Int) (a1_parts : List (List UInt8)) (Q : (List UInt8) → Prop) : Prop :=
 (toB (IntKind.u8.wrap a0_kind) :: ([] : List UInt8)).length + qah a1_parts ≤ (140737488355328 : Nat) ∧ (Ty.byte.kd.sl.wf (toB (IntKind.u8.wrap a0_kind) :: ([] : List UInt8) ++ qaF a1_parts) → Q (toB (IntKind.u8.wrap a0_kind) :: ([] : List UInt8) ++ qaF a1_parts))
theorem qjs {a0_kind : Int} {a1_parts : List (List UInt8)} (w_0 : (Ty.kd (.int .i64)).wf a0_kind) (w_1 : (Ty.kd (.sl (.sl .byte))).wf a1_parts) (hp : 1 + qah a1_parts ≤ 140737488355328) : qdx a0_kind a1_parts (fun o0 => o0 = (preimage a0_kind a1_parts)) := by
 unfold qdx
 exact ⟨by simpa using hp, fun _ => rfl⟩
theorem qjr : (∀ a, qbT.pre a → PM.wfP qbT.pm a (fvc qgC 200 103 qbT a (eqO qbT a))) = (∀ a : Int × (List (List UInt8)) × Unit, (1 + qah (a.2.1) ≤ 140737488355328) → (Ty.kd (.int .i64)).wf a.1 → (Ty.kd (.sl (.sl .byte))).wf a.2.1 → qdx a.1 a.2.1 (fun o0 => o0 = (preimage (a.1) (a.2.1)))) := by kernel_rfl
theorem qkz : qbT.valid Try.prog 103 := qar (X := qgC) (qaH qai (fun b hb => by cases hb; exact qap) qaq ⟨qqW, trivial⟩) 200 (qjr.mpr fun a hp w_0 w_1 => @qjs a.1 a.2.1 w_0 w_1 hp)
noncomputable def qiq : Ctr := ⟨[.v (.int .i64), .v (.sl (.sl .byte))], [.v (.arr 32 .byte)], some (fun a => (fun (a0_kind : Int) (a1_parts : List (List UInt8)) => (1 + qah a1_parts ≤ 70368744177664 : Prop)) a.1 a.2.1), fun a => (fun (a0_kind : Int) (a1_parts : List (List UInt8)) => (((qal a0_kind a1_parts), ()), (()))) a.1 a.2.1⟩
noncomputable def qvI : Fx := ⟨seat, some bkT, fns, [(103, qbT), (111, qhJ)], [], [], []⟩
def qod (a0_kind : Int) (a1_parts : List (List UInt8)) (Q : (List UInt8) → Prop) : Prop :=
 (1 : Nat) + qah a1_parts ≤ (140737488355328 : Nat) ∧ (Ty.byte.kd.sl.wf (preimage a0_kind a1_parts) → (preimage a0_kind a1_parts :: ([] : List (List UInt8))).flatten.length ≤ (70368744177664 : Nat) ∧ ((Ty.arr (32 : Nat) Ty.byte).kd.wf (qa0 (preimage a0_kind a1_parts :: ([] : List (List UInt8)))) → Q (qa0 (preimage a0_kind a1_parts :: ([] : List (List UInt8))))))
theorem qvK {a0_kind : Int} {a1_parts : List (List UInt8)} (w_0 : (Ty.kd (.int .i64)).wf a0_kind) (w_1 : (Ty.kd (.sl (.sl .byte))).wf a1_parts) (hp : 1 + qah a1_parts ≤ 70368744177664) : qod a0_kind a1_parts (fun o0 => o0 = (qal a0_kind a1_parts)) := by
 have hl := qb8 a0_kind (l := a1_parts) (by omega)
 unfold qod
 exact ⟨by omega, fun _ => ⟨by simp; omega, fun _ => rfl⟩⟩
theorem qvJ : (∀ a, qiq.pre a → PM.wfP qiq.pm a (fvc qvI 200 68 qiq a (eqO qiq a))) = (∀ a : Int × (List (List UInt8)) × Unit, (1 + qah (a.2.1) ≤ 70368744177664) → (Ty.kd (.int .i64)).wf a.1 → (Ty.kd (.sl (.sl .byte))).wf a.2.1 → qod a.1 a.2.1 (fun o0 => o0 = (qal (a.1) (a.2.1)))) := by kernel_rfl
theorem qq9 : qiq.valid Try.prog 68 := qar (X := qvI) (qaH qai (fun b hb => by cases hb; exact qap) qaq ⟨qkz, qvL, trivial⟩) 200 (qvJ.mpr fun a hp w_0 w_1 => @qvK a.1 a.2.1 w_0 w_1 hp)
end Go.Proofs.Ytmjjkpiglbpkhaa
