/- S10, S11, P7. -/
import Derived.Test.YtmjjkpiglbpkhaaM6
import Derived.Test.YtmjjkpiglbpkhaaM5
import Derived.Test.YtmjjkpiglbpkhaaChecked
import Derived.Test.YtmjjkpiglbpkhaaRows
import Derived.Test.YtmjjkpiglbpkhaaM4
import Derived.WalkKit
import Derived.ProofKit
import Derived.OpenShut
import Derived.JoinedCond
import Derived.Carry
set_option linter.unusedVariables false
set_option maxRecDepth 100000
set_option maxHeartbeats 20000000
namespace Go.Proofs.Ytmjjkpiglbpkhaa
open Go Go.RowKit Go.Inc
noncomputable def qeq : Ctr := ⟨[.v (.arr 32 .byte), .v (.arr 32 .byte)], [.v (.arr 32 .byte)], none, fun a => (fun (a0_a : List UInt8) (a1_b : List UInt8) => (((qal 2 [a0_a, a1_b]), ()), (()))) a.1 a.2.1⟩
noncomputable def qob : Fx := ⟨seat, some bkT, fns, [(68, qiq)], [], [], [(1, [0, 1, 2], [.o 0 2, .o 1 2, .o 2 1, .o 3 1, .o 4 1])]⟩
def qip (a0_a : List UInt8) (a1_b : List UInt8) (Q : (List UInt8) → Prop) : Prop :=
 (1 : Nat) + qah (a0_a :: a1_b :: ([] : List (List UInt8))) ≤ (70368744177664 : Nat) ∧ ((Ty.arr (32 : Nat) Ty.byte).kd.wf (qal (2 : Int) (a0_a :: a1_b :: ([] : List (List UInt8)))) → Q (qal (2 : Int) (a0_a :: a1_b :: ([] : List (List UInt8)))))
theorem qq8 {a0_a : List UInt8} {a1_b : List UInt8} (w_0 : (Ty.kd (.arr 32 .byte)).wf a0_a) (w_1 : (Ty.kd (.arr 32 .byte)).wf a1_b) : qip a0_a a1_b (fun o0 => o0 = (qal 2 [a0_a, a1_b])) := by
 unfold qip
 have e := qfu (l := [a0_a, a1_b]) (fun x hx => by
  rcases List.mem_cons.1 hx with rfl | hx
  ·exact w_0.1
  ·rcases List.mem_cons.1 hx with rfl | hx
   ·exact w_1.1
   ·cases hx)
 exact ⟨by rw [e]; simp, fun _ => rfl⟩
theorem qq7 : (∀ a, qeq.pre a → PM.wfP qeq.pm a (fvc qob 200 107 qeq a (eqO qeq a))) = (∀ a : (List UInt8) × (List UInt8) × Unit, True → (Ty.kd (.arr 32 .byte)).wf a.1 → (Ty.kd (.arr 32 .byte)).wf a.2.1 → qip a.1 a.2.1 (fun o0 => o0 = (qal 2 [(a.1), (a.2.1)]))) := by kernel_rfl
theorem qoc : qeq.valid Try.prog 107 := qar (X := qob) (qaH qai (fun b hb => by cases hb; exact qap) qaq ⟨qq9, trivial⟩) 200 (qq7.mpr fun a hp w_0 w_1 => @qq8 a.1 a.2.1 w_0 w_1)
noncomputable def qep : Ctr := ⟨[.v (.int .i64)], [.v (.int .i64)], none, fun a => (fun (a0_n : Int) => ((((half a0_n.toNat : Nat) : Int), ()), (()))) a.1⟩
noncomputable def qn4 : Fx := ⟨seat, some bkT, fns, [], [], [], []⟩
def qik (a0_n : Int) (Q : Int → Prop) : Prop :=
 ∃ (x0 : Int → Int → Prop), ∃ (x1 : Int → Int → Nat), x0 (0 : Int) (1 : Int) ∧ ∀ (x2 x3 : Int), x0 x2 x3 → (Kd.int IntKind.i64).wf x2 → (Kd.int IntKind.i64).wf x3 → (x3 < a0_n → (x2 < x3 → x0 x3 (IntKind.i64.wrap (x3 + x3)) ∧ x1 x3 (IntKind.i64.wrap (x3 + x3)) < x1 x2 x3) ∧ (¬x2 < x3 → Q x2)) ∧ (¬x3 < a0_n → Q x2)
theorem qq0 {a0_n : Int} (w_0 : (Ty.kd (.int .i64)).wf a0_n) : qik a0_n (fun o0 => o0 = ((half a0_n.toNat : Nat) : Int)) := by
 have hn1 : a0_n ≤ 9223372036854775807 := w_0.2
 unfold qik
 refine ⟨fun h p => (h = 0 ∧ p = 1) ∨ ∃ j y : Nat, y = 2 ^ j ∧ h = (y : Int) ∧ (y : Int) < a0_n ∧ ((y ≤ 2305843009213693952 ∧ p = 2 * (y : Int)) ∨ (y = 4611686018427387904 ∧ p = -9223372036854775808)), fun h _ => (a0_n - h).toNat, .inl ⟨rfl, rfl⟩, ?_⟩
 rintro h p (⟨rfl, rfl⟩ | ⟨j, y, hy, rfl, hlt, hc⟩) _ _
 ·refine ⟨fun h1 => ⟨fun _ => ⟨.inr ⟨0, 1, rfl, rfl, h1, .inl ⟨by omega, by decide⟩⟩, by show (a0_n - 1).toNat < (a0_n - 0).toNat; omega⟩, fun h2 => absurd (by omega) h2⟩, fun h1 => ?_⟩
  show (0 : Int) = ((half a0_n.toNat : Nat) : Int)
  rw [qhT (by omega)]
  rfl
 ·have hy1 : 1 ≤ y := by rw [hy]; exact Nat.one_le_two_pow
  rcases hc with ⟨h6, rfl⟩ | ⟨h6, rfl⟩
  ·have hj : j ≤ 61 := by
    rcases Nat.lt_or_ge 61 j with h | h
    ·have := Nat.pow_le_pow_right (n := 2) (by omega) (show 62 ≤ j from h)
     omega
    ·exact h
   refine ⟨fun h1 => ⟨fun _ => ⟨.inr ⟨j + 1, 2 * y, by rw [hy, Nat.pow_succ]; omega, by omega, by omega, ?_⟩, by show (a0_n - 2 * (y : Int)).toNat < (a0_n - (y : Int)).toNat; omega⟩, fun h2 => absurd (by omega) h2⟩, fun h1 => ?_⟩
   ·by_cases h61 : j = 61
    ·subst h61
     have hv : y = 2305843009213693952 := hy
     subst hv
     exact .inr ⟨rfl, by decide⟩
    ·have := Nat.pow_le_pow_right (n := 2) (by omega) (show j ≤ 60 by omega)
     have hv : y ≤ 1152921504606846976 := by rw [hy]; exact this
     refine .inl ⟨by omega, ?_⟩
     rw [qak (wf64 (by omega) (by omega))]
     omega
   ·have := qkZ (n := a0_n.toNat) (j := j) (by rw [← hy]; omega) (by rw [Nat.pow_succ, ← hy]; omega)
    show (y : Int) = ((half a0_n.toNat : Nat) : Int)
    rw [this, ← hy]
  ·refine ⟨fun h1 => ⟨fun h2 => absurd h2 (by omega), fun _ => ?_⟩, fun h1 => absurd (by omega) h1⟩
   have hj1 : j < 63 := (Nat.pow_lt_pow_iff_right (a := 2) (by omega)).1 (by rw [← hy, h6]; decide)
   have := qkZ (n := a0_n.toNat) (j := j) (by rw [← hy]; omega) (by rw [Nat.pow_succ, ← hy]; omega)
   show (y : Int) = ((half a0_n.toNat : Nat) : Int)
   rw [this, ← hy]
theorem qqZ : (∀ a, qep.pre a → PM.wfP qep.pm a (fvc qn4 200 106 qep a (eqO qep a))) = (∀ a : Int × Unit, True → (Ty.kd (.int .i64)).wf a.1 → qik a.1 (fun o0 => o0 = ((half (a.1).toNat : Nat) : Int))) := by kernel_rfl
theorem qn5 : qep.valid Try.prog 106 := qar (X := qn4) (qaH qai (fun b hb => by cases hb; exact qap) qaq trivial) 200 (qqZ.mpr fun a hp w_0 => @qq0 a.1 w_0)
noncomputable def qog : Ctr := ⟨[.v (.sl (.arr 32 .byte))], [.v (.arr 32 .byte)], some (fun a => (fun (a0_l : List (List UInt8)) => (a0_l.length ≤ 1048576 : Prop)) a.1), fun a => (fun (a0_l : List (List UInt8)) => (((qaD a0_l), ()), (()))) a.1⟩
noncomputable def qdX (nn : Nat) : Ctr := ⟨[.v (.sl (.arr 32 .byte))], [.v (.arr 32 .byte)], some (fun a => (fun (a0_l : List (List UInt8)) => ((a0_l.length ≤ 1048576) ∧ a0_l.length < nn : Prop)) a.1), fun a => (fun (a0_l : List (List UInt8)) => (((qaD a0_l), ()), (()))) a.1⟩
noncomputable def qoh (nn : Nat) : Fx := ⟨seat, some bkT, fns, [(60, qdX nn), (68, qiq), (106, qep), (107, qeq)], [], [], [(6, [0, 1, 2, 3, 4, 5, 6, 7, 8, 9, 10, 11, 12], [.o 0 2, .o 1 2, .o 2 2, .o 4 2, .o 5 2, .o 6 2, .o 3 0, .o 7 0, .o 8 0, .o 9 1])]⟩
def qir (nn : Nat) (a0_l : List (List UInt8)) (Q : (List UInt8) → Prop) : Prop :=
 ((a0_l.length : Int) = (0 : Int) → (1 : Nat) + qah ([] : List (List UInt8)) ≤ (70368744177664 : Nat) ∧ ((Ty.arr (32 : Nat) Ty.byte).kd.wf (qal (2 : Int) ([] : List (List UInt8))) → Q (qal (2 : Int) ([] : List (List UInt8))))) ∧ (¬(a0_l.length : Int) = (0 : Int) → ((a0_l.length : Int) = (1 : Int) → ((0 : Int) ≤ (0 : Int) ∧ (0 : Int) < (a0_l.length : Int)) ∧ Q (ix a0_l (0 : Int))) ∧ (¬(a0_l.length : Int) = (1 : Int) → (Ty.int IntKind.i64).kd.wf (half (a0_l.length : Int).toNat : Int) → ((0 : Int) ≤ (half (a0_l.length : Int).toNat : Int) ∧ (half (a0_l.length : Int).toNat : Int) ≤ (a0_l.length : Int)) ∧ ((0 : Int) ≤ (half (a0_l.length : Int).toNat : Int) ∧ (half (a0_l.length : Int).toNat : Int) ≤ (a0_l.length : Int)) ∧ ((List.take (half (a0_l.length : Int).toNat : Int).toNat a0_l).length ≤ (1048576 : Nat) ∧ (List.take (half (a0_l.length : Int).toNat : Int).toNat a0_l).length < nn) ∧ ((Ty.arr (32 : Nat) Ty.byte).kd.wf (qaD (List.take (half (a0_l.length : Int).toNat : Int).toNat a0_l)) → ((List.drop (half (a0_l.length : Int).toNat : Int).toNat a0_l).length ≤ (1048576 : Nat) ∧ (List.drop (half (a0_l.length : Int).toNat : Int).toNat a0_l).length < nn) ∧ ((Ty.arr (32 : Nat) Ty.byte).kd.wf (qaD (List.drop (half (a0_l.length : Int).toNat : Int).toNat a0_l)) → (Ty.arr (32 : Nat) Ty.byte).kd.wf (qal (2 : Int) (qaD (List.take (half (a0_l.length : Int).toNat : Int).toNat a0_l) :: qaD (List.drop (half (a0_l.length : Int).toNat : Int).toNat a0_l) :: ([] : List (List UInt8)))) → Q (qal (2 : Int) (qaD (List.take (half (a0_l.length : Int).toNat : Int).toNat a0_l) :: qaD (List.drop (half (a0_l.length : Int).toNat : Int).toNat a0_l) :: ([] : List (List UInt8))))))))
theorem qrc {nn : Nat} {a0_l : List (List UInt8)} (w_0 : (Ty.kd (.sl (.arr 32 .byte))).wf a0_l) (hp : (a0_l.length ≤ 1048576) ∧ a0_l.length < nn + 1) : qir nn a0_l (fun o0 => o0 = (qaD a0_l)) := by
 unfold qir
 simp only [Int.toNat_natCast]
 refine ⟨fun h => ⟨by simp [qah], fun _ => ?_⟩, fun h => ⟨fun h1 => ⟨⟨by omega, by omega⟩, ?_⟩, fun h1 _ => ?_⟩⟩
 ·have e : a0_l = [] := List.length_eq_zero_iff.1 (by omega)
  subst e
  rw [qhf]
 ·obtain ⟨x, rfl⟩ := List.length_eq_one_iff.1 (by omega : a0_l.length = 1)
  rw [qdL]
  rfl
 ·have b2 : 2 ≤ a0_l.length := by omega
  have a1 := qaR b2
  have a2 := qa1 b2
  have hp1 := hp.1
  have hp2 := hp.2
  have l1 : (a0_l.take (half a0_l.length)).length = half a0_l.length := by rw [List.length_take]; omega
  have l2 : (a0_l.drop (half a0_l.length)).length = a0_l.length - half a0_l.length := List.length_drop
  refine ⟨⟨by omega, by omega⟩, ⟨by omega, by omega⟩, ⟨by omega, by omega⟩, fun _ => ⟨⟨by omega, by omega⟩, fun _ _ => ?_⟩⟩
  rw [qcu b2]
theorem qrb (nn : Nat) : (∀ a, (qdX (nn + 1)).pre a → PM.wfP (qdX (nn + 1)).pm a (fvc (qoh nn) 200 60 (qdX (nn + 1)) a (eqO (qdX (nn + 1)) a))) = (∀ a : (List (List UInt8)) × Unit, (((a.1).length ≤ 1048576) ∧ (a.1).length < nn + 1) → (Ty.kd (.sl (.arr 32 .byte))).wf a.1 → qir nn a.1 (fun o0 => o0 = (qaD (a.1)))) := by kernel_rfl
theorem qlN : ∀ nn, (qdX nn).valid Try.prog 60
 | 0 => fun a hp => absurd (And.right hp) (Nat.not_lt_zero _)
 | nn + 1 => qar (X := qoh nn) (qaH qai (fun b hb => by cases hb; exact qap) qaq ⟨qlN nn, qq9, qn5, qoc, trivial⟩) 200 ((qrb nn).mpr fun a hp w_0 => @qrc nn a.1 w_0 hp)
theorem qt1 : qog.valid Try.prog 60 := qhm qlN (fun a hp => ⟨_, And.intro hp (Nat.lt_succ_self _)⟩)
noncomputable def qfl : Ctr := ⟨[.v (.sl (.arr 32 .byte)), .v (.sl (.arr 32 .byte))], [.v .bool], none, fun a => (fun (a0_a : List (List UInt8)) (a1_b : List (List UInt8)) => ((decide (a0_a = a1_b), ()), (()))) a.1 a.2.1⟩
noncomputable def qok : Fx := ⟨seat, some bkT, fns, [], [], [], [(6, [], [.o 0 2, .o 1 2, .o 2 2, .o 3 2, .o 4 2, .o 5 2, .o 6 2, .o 7 2, .o 8 2])]⟩
def qis (a0_a : List (List UInt8)) (a1_b : List (List UInt8)) (Q : Bool → Prop) : Prop :=
 ((a0_a.length : Int) ≠ (a1_b.length : Int) → Q false) ∧ (¬(a0_a.length : Int) ≠ (a1_b.length : Int) → ∃ (x0 : Bool → Int → Prop), ∃ (x1 : Bool → Int → Nat), x0 false (0 : Int) ∧ ∀ (x2 : Bool) (x3 : Int), x0 x2 x3 → (Kd.int IntKind.i64).wf x3 → (x3 < (a0_a.length : Int) → ((0 : Int) ≤ x3 ∧ x3 < (a0_a.length : Int)) ∧ ((0 : Int) ≤ x3 ∧ x3 < (a1_b.length : Int)) ∧ (ix a0_a x3 ≠ ix a1_b x3 → Q false) ∧ (¬ix a0_a x3 ≠ ix a1_b x3 → x3 < (9223372036854775807 : Int) ∧ x0 x2 (x3 + (1 : Int)) ∧ x1 x2 (x3 + (1 : Int)) < x1 x2 x3)) ∧ (¬x3 < (a0_a.length : Int) → Q true))
theorem qrf {a0_a : List (List UInt8)} {a1_b : List (List UInt8)} (w_0 : (Ty.kd (.sl (.arr 32 .byte))).wf a0_a) (w_1 : (Ty.kd (.sl (.arr 32 .byte))).wf a1_b) : qis a0_a a1_b (fun o0 => o0 = decide (a0_a = a1_b)) := by
 unfold qis
 refine ⟨fun h => ?_, fun h => ?_⟩
 ·show false = decide (a0_a = a1_b)
  rw [decide_eq_false (fun e => h (by rw [e]))]
 ·have hl : a0_a.length = a1_b.length := by omega
  have hL : a0_a.length ≤ 281474976710656 := w_0.1
  refine ⟨fun _ i => ∃ j : Nat, i = (j : Int) ∧ j ≤ a0_a.length ∧ a0_a.take j = a1_b.take j, fun _ i => a0_a.length - i.toNat, ⟨0, rfl, by omega, rfl⟩, ?_⟩
  rintro r i ⟨j, rfl, hj, ht⟩ _
  refine ⟨fun hlt => ⟨⟨by omega, hlt⟩, ⟨by omega, by omega⟩, fun hne => ?_, fun he => ⟨by omega, ⟨j + 1, by omega, by omega, qp6 (by omega) (by omega) ht (Classical.not_not.1 he)⟩, by show a0_a.length - ((j : Int) + 1).toNat < a0_a.length - (j : Int).toNat; omega⟩⟩, fun hge => ?_⟩
  ·show false = decide (a0_a = a1_b)
   rw [decide_eq_false (fun e => hne (by rw [e]))]
  ·have e : a0_a = a1_b := by
    rw [List.take_of_length_le (by omega), List.take_of_length_le (by omega)] at ht
    exact ht
   show true = decide (a0_a = a1_b)
   rw [decide_eq_true e]
theorem qre : (∀ a, qfl.pre a → PM.wfP qfl.pm a (fvc qok 200 91 qfl a (eqO qfl a))) = (∀ a : (List (List UInt8)) × (List (List UInt8)) × Unit, True → (Ty.kd (.sl (.arr 32 .byte))).wf a.1 → (Ty.kd (.sl (.arr 32 .byte))).wf a.2.1 → qis a.1 a.2.1 (fun o0 => o0 = decide ((a.1) = (a.2.1)))) := by kernel_rfl
theorem qt2 : qfl.valid Try.prog 91 := qar (X := qok) (qaH qai (fun b hb => by cases hb; exact qap) qaq trivial) 200 (qre.mpr fun a hp w_0 w_1 => @qrf a.1 a.2.1 w_0 w_1)
noncomputable def qd1 : Ctr := ⟨[.v (.int .i64), .v (.int .i64)], [.v .bool], none, fun a => (fun (a0_n : Int) (a1_at : Int) => ((decide (0 ≤ a1_at ∧ a1_at < a0_n), ()), (()))) a.1 a.2.1⟩
noncomputable def qlP : Fx := ⟨seat, some bkT, fns, [], [], [], []⟩
def qgE (a0_n : Int) (a1_at : Int) (Q : Bool → Prop) : Prop :=
 ((-1 : Int) < a1_at → Q (decide (a1_at < a0_n))) ∧ (¬(-1 : Int) < a1_at → Q false)
theorem qon {a0_n : Int} {a1_at : Int} (w_0 : (Ty.kd (.int .i64)).wf a0_n) (w_1 : (Ty.kd (.int .i64)).wf a1_at) : qgE a0_n a1_at (fun o0 => o0 = decide (0 ≤ a1_at ∧ a1_at < a0_n)) := by
 have hn1 : a1_at ≤ 9223372036854775807 := w_1.2
 unfold qgE
 refine ⟨fun h => ?_, fun h => ?_⟩
 ·show decide (a1_at < a0_n) = decide ((0 : Int) ≤ a1_at ∧ a1_at < a0_n)
  exact decide_eq_decide.2 ⟨fun h2 => ⟨by omega, h2⟩, fun h2 => h2.2⟩
 ·show false = decide ((0 : Int) ≤ a1_at ∧ a1_at < a0_n)
  exact (decide_eq_false fun h2 => h (by omega)).symm
theorem qom : (∀ a, qd1.pre a → PM.wfP qd1.pm a (fvc qlP 200 121 qd1 a (eqO qd1 a))) = (∀ a : Int × Int × Unit, True → (Ty.kd (.int .i64)).wf a.1 → (Ty.kd (.int .i64)).wf a.2.1 → qgE a.1 a.2.1 (fun o0 => o0 = decide (0 ≤ (a.2.1) ∧ (a.2.1) < (a.1)))) := by kernel_rfl
theorem qri : qd1.valid Try.prog 121 := qar (X := qlP) (qaH qai (fun b hb => by cases hb; exact qap) qaq trivial) 200 (qom.mpr fun a hp w_0 w_1 => @qon a.1 a.2.1 w_0 w_1)
noncomputable def qn7 : Ctr := ⟨[.v (.int .i64), .v (.int .i64), .v (.arr 32 .byte), .v (.sl (.arr 32 .byte))], [.v (.arr 32 .byte), .v .bool], none, fun a => (fun (a0_n : Int) (a1_at : Int) (a2_leaf : List UInt8) (a3_path : List (List UInt8)) => (((qaG a0_n a1_at a2_leaf a3_path), (qaM a0_n a1_at a3_path), ()), (()))) a.1 a.2.1 a.2.2.1 a.2.2.2.1⟩
noncomputable def qdV (nn : Nat) : Ctr := ⟨[.v (.int .i64), .v (.int .i64), .v (.arr 32 .byte), .v (.sl (.arr 32 .byte))], [.v (.arr 32 .byte), .v .bool], some (fun a => (fun (a0_n : Int) (a1_at : Int) (a2_leaf : List UInt8) (a3_path : List (List UInt8)) => ((True) ∧ a0_n.toNat < nn : Prop)) a.1 a.2.1 a.2.2.1 a.2.2.2.1), fun a => (fun (a0_n : Int) (a1_at : Int) (a2_leaf : List UInt8) (a3_path : List (List UInt8)) => (((qaG a0_n a1_at a2_leaf a3_path), (qaM a0_n a1_at a3_path), ()), (()))) a.1 a.2.1 a.2.2.1 a.2.2.2.1⟩
noncomputable def qn8 (nn : Nat) : Fx := ⟨seat, some bkT, fns, [(88, qdV nn), (121, qd1), (106, qep), (107, qeq)], [], [], []⟩
def qim (nn : Nat) (a0_n : Int) (a1_at : Int) (a2_leaf : List UInt8) (a3_path : List (List UInt8)) (Q : (List UInt8) → Bool → Prop) : Prop :=
 (¬decide ((0 : Int) ≤ a1_at ∧ a1_at < a0_n) = true → Q (List.replicate (32 : Nat) Ty.byte.kd.z) false) ∧ (decide ((0 : Int) ≤ a1_at ∧ a1_at < a0_n) = true → (decide (a0_n = (1 : Int)) ≠ decide ((a3_path.length : Int) = (0 : Int)) → Q (List.replicate (32 : Nat) Ty.byte.kd.z) false) ∧ (¬decide (a0_n = (1 : Int)) ≠ decide ((a3_path.length : Int) = (0 : Int)) → (a0_n = (1 : Int) → Q a2_leaf true) ∧ (¬a0_n = (1 : Int) → (Ty.int IntKind.i64).kd.wf (half a0_n.toNat : Int) → ((0 : Int) ≤ IntKind.i64.wrap ((a3_path.length : Int) - (1 : Int)) ∧ IntKind.i64.wrap ((a3_path.length : Int) - (1 : Int)) < (a3_path.length : Int)) ∧ ((0 : Int) ≤ IntKind.i64.wrap ((a3_path.length : Int) - (1 : Int)) ∧ IntKind.i64.wrap ((a3_path.length : Int) - (1 : Int)) ≤ (a3_path.length : Int)) ∧ (a1_at < (half a0_n.toNat : Int) → (True ∧ (half a0_n.toNat : Int).toNat < nn) ∧ ((Ty.arr (32 : Nat) Ty.byte).kd.wf (qaG (half a0_n.toNat : Int) a1_at a2_leaf (List.take (IntKind.i64.wrap ((a3_path.length : Int) - (1 : Int))).toNat a3_path)) → (¬qaM (half a0_n.toNat : Int) a1_at (List.take (IntKind.i64.wrap ((a3_path.length : Int) - (1 : Int))).toNat a3_path) = true → Q (List.replicate (32 : Nat) Ty.byte.kd.z) false) ∧ (qaM (half a0_n.toNat : Int) a1_at (List.take (IntKind.i64.wrap ((a3_path.length : Int) - (1 : Int))).toNat a3_path) = true → (Ty.arr (32 : Nat) Ty.byte).kd.wf (qal (2 : Int) (qaG (half a0_n.toNat : Int) a1_at a2_leaf (List.take (IntKind.i64.wrap ((a3_path.length : Int) - (1 : Int))).toNat a3_path) :: ix a3_path (IntKind.i64.wrap ((a3_path.length : Int) - (1 : Int))) :: ([] : List (List UInt8)))) → Q (qal (2 : Int) (qaG (half a0_n.toNat : Int) a1_at a2_leaf (List.take (IntKind.i64.wrap ((a3_path.length : Int) - (1 : Int))).toNat a3_path) :: ix a3_path (IntKind.i64.wrap ((a3_path.length : Int) - (1 : Int))) :: ([] : List (List UInt8)))) true))) ∧ (¬a1_at < (half a0_n.toNat : Int) → (True ∧ (IntKind.i64.wrap (a0_n - (half a0_n.toNat : Int))).toNat < nn) ∧ ((Ty.arr (32 : Nat) Ty.byte).kd.wf (qaG (IntKind.i64.wrap (a0_n - (half a0_n.toNat : Int))) (IntKind.i64.wrap (a1_at - (half a0_n.toNat : Int))) a2_leaf (List.take (IntKind.i64.wrap ((a3_path.length : Int) - (1 : Int))).toNat a3_path)) → (¬qaM (IntKind.i64.wrap (a0_n - (half a0_n.toNat : Int))) (IntKind.i64.wrap (a1_at - (half a0_n.toNat : Int))) (List.take (IntKind.i64.wrap ((a3_path.length : Int) - (1 : Int))).toNat a3_path) = true → Q (List.replicate (32 : Nat) Ty.byte.kd.z) false) ∧ (qaM (IntKind.i64.wrap (a0_n - (half a0_n.toNat : Int))) (IntKind.i64.wrap (a1_at - (half a0_n.toNat : Int))) (List.take (IntKind.i64.wrap ((a3_path.length : Int) - (1 : Int))).toNat a3_path) = true → (Ty.arr (32 : Nat) Ty.byte).kd.wf (qal (2 : Int) (ix a3_path (IntKind.i64.wrap ((a3_path.length : Int) - (1 : Int))) :: qaG (IntKind.i64.wrap (a0_n - (half a0_n.toNat : Int))) (IntKind.i64.wrap (a1_at - (half a0_n.toNat : Int))) a2_leaf (List.take (IntKind.i64.wrap ((a3_path.length : Int) - (1 : Int))).toNat a3_path) :: ([] : List (List UInt8)))) → Q (qal (2 : Int) (ix a3_path (IntKind.i64.wrap ((a3_path.length : Int) - (1 : Int))) :: qaG (IntKind.i64.wrap (a0_n - (half a0_n.toNat : Int))) (IntKind.i64.wrap (a1_at - (half a0_n.toNat : Int))) a2_leaf (List.take (IntKind.i64.wrap ((a3_path.length : Int) - (1 : Int))).toNat a3_path) :: ([] : List (List UInt8)))) true))))))
theorem qq2 {nn : Nat} {a0_n : Int} {a1_at : Int} {a2_leaf : List UInt8} {a3_path : List (List UInt8)} (w_0 : (Ty.kd (.int .i64)).wf a0_n) (w_1 : (Ty.kd (.int .i64)).wf a1_at) (w_2 : (Ty.kd (.arr 32 .byte)).wf a2_leaf) (w_3 : (Ty.kd (.sl (.arr 32 .byte))).wf a3_path) (hp : (True) ∧ a0_n.toNat < nn + 1) : qim nn a0_n a1_at a2_leaf a3_path (fun o0 o1 => o0 = (qaG a0_n a1_at a2_leaf a3_path) ∧ o1 = (qaM a0_n a1_at a3_path)) := by
 have hn1 : a0_n ≤ 9223372036854775807 := w_0.2
 have hp2 := hp.2
 have hL : a3_path.length ≤ LM := w_3.1
 unfold LM at hL
 have bad : qaM a0_n a1_at a3_path = false → List.replicate (32 : Nat) Ty.byte.kd.z = qaG a0_n a1_at a2_leaf a3_path ∧ false = qaM a0_n a1_at a3_path := fun h => by
  unfold qaG
  rw [h]
  exact ⟨rfl, rfl⟩
 unfold qim
 refine ⟨fun h => bad (decide_eq_false fun hh => h (decide_eq_true hh.1)), fun h => ?_⟩
 have h' := of_decide_eq_true h
 refine ⟨fun hne => bad ?_, fun heq => ⟨fun h1 => ?_, fun h1 _ => ?_⟩⟩
 ·rcases Int.lt_or_le 1 a0_n with hn | hn
  ·have hz : (a3_path.length : Int) = 0 := by
    apply Classical.byContradiction
    intro hz
    exact hne (by rw [decide_eq_false (by omega : ¬ a0_n = 1), decide_eq_false hz])
   rw [List.length_eq_zero_iff.1 (by omega : a3_path.length = 0)]
   exact qpE hn h'.1 h'.2
  ·have e1 : a0_n = 1 := by omega
   have e0 : a1_at = 0 := by omega
   subst e1; subst e0
   rw [qjT]
   refine decide_eq_false fun hz => hne ?_
   rw [decide_eq_true rfl, decide_eq_true (by omega : (a3_path.length : Int) = 0)]
 ·have e0 : a1_at = 0 := by omega
  subst e0
  subst h1
  have hz : a3_path.length = 0 := by
   apply Classical.byContradiction
   intro hz
   exact heq (by rw [decide_eq_true rfl, decide_eq_false (by omega : ¬ (a3_path.length : Int) = 0)]; decide)
  have hb : qaM 1 0 a3_path = true := by rw [qjT]; exact decide_eq_true hz
  refine ⟨?_, hb.symm⟩
  unfold qaG
  rw [hb, if_pos rfl, List.length_eq_zero_iff.1 hz]
  show a2_leaf = qcX (qaA 1 0).reverse [] a2_leaf
  rw [qaU (by decide)]
  rfl
 ·have hn : 1 < a0_n := by omega
  have a1 := qaR (n := a0_n.toNat) (by omega)
  have a2 := qa1 (n := a0_n.toNat) (by omega)
  have hne : a3_path ≠ [] := fun h0 => by
   subst h0
   exact heq (by rw [decide_eq_false h1, decide_eq_true (by simp)]; decide)
  have hpos : 1 ≤ a3_path.length := by
   rcases Nat.eq_zero_or_pos a3_path.length with h0 | h0
   ·exact absurd (List.length_eq_zero_iff.1 h0) hne
   ·exact h0
  have ew : IntKind.i64.wrap ((a3_path.length : Int) - 1) = ((a3_path.length - 1 : Nat) : Int) := by
   rw [qak (wf64 (by omega) (by omega))]
   omega
  have e1 : IntKind.i64.wrap (a0_n - ((half a0_n.toNat : Nat) : Int)) = a0_n - ((half a0_n.toNat : Nat) : Int) := qak (wf64 (by omega) (by omega))
  rw [ew, ixN (by omega)]
  simp only [Int.toNat_natCast]
  rw [← List.dropLast_eq_take]
  have hlast : a3_path[a3_path.length - 1] = a3_path.getLast hne := (List.getLast_eq_getElem hne).symm
  rw [hlast]
  have hc := List.dropLast_concat_getLast hne
  refine ⟨⟨by omega, by omega⟩, ⟨by omega, by omega⟩, fun hlt => ⟨⟨trivial, by omega⟩, fun _ => ?_⟩, fun hge => ?_⟩
  ·have hl := qpG (n := a0_n) (a := a1_at) (Q := a3_path.dropLast) (p := a3_path.getLast hne) (s := a2_leaf) hn h'.1 hlt
   rw [hc] at hl
   refine ⟨fun hb => bad (hl.1.trans (by simpa using hb)), fun hb _ => ⟨(hl.2 hb).symm, ?_⟩⟩
   show true = qaM a0_n a1_at a3_path
   rw [hl.1, hb]
  ·have e2 : IntKind.i64.wrap (a1_at - ((half a0_n.toNat : Nat) : Int)) = a1_at - ((half a0_n.toNat : Nat) : Int) := qak (wf64 (by omega) (by omega))
   rw [e1, e2]
   have hl := qni (n := a0_n) (a := a1_at) (Q := a3_path.dropLast) (p := a3_path.getLast hne) (s := a2_leaf) hn h'.2 (by omega)
   rw [hc] at hl
   refine ⟨⟨trivial, by omega⟩, fun _ => ⟨fun hb => bad (hl.1.trans (by simpa using hb)), fun hb _ => ⟨(hl.2 hb).symm, ?_⟩⟩⟩
   show true = qaM a0_n a1_at a3_path
   rw [hl.1, hb]
theorem qq1 (nn : Nat) : (∀ a, (qdV (nn + 1)).pre a → PM.wfP (qdV (nn + 1)).pm a (fvc (qn8 nn) 200 88 (qdV (nn + 1)) a (eqO (qdV (nn + 1)) a))) = (∀ a : Int × Int × (List UInt8) × (List (List UInt8)) × Unit, ((True) ∧ (a.1).toNat < nn + 1) → (Ty.kd (.int .i64)).wf a.1 → (Ty.kd (.int .i64)).wf a.2.1 → (Ty.kd (.arr 32 .byte)).wf a.2.2.1 → (Ty.kd (.sl (.arr 32 .byte))).wf a.2.2.2.1 → qim nn a.1 a.2.1 a.2.2.1 a.2.2.2.1 (fun o0 o1 => o0 = (qaG (a.1) (a.2.1) (a.2.2.1) (a.2.2.2.1)) ∧ o1 = (qaM (a.1) (a.2.1) (a.2.2.2.1)))) := by kernel_rfl
theorem qlL : ∀ nn, (qdV nn).valid Try.prog 88
 | 0 => fun a hp => absurd (And.right hp) (Nat.not_lt_zero _)
 | nn + 1 => qar (X := qn8 nn) (qaH qai (fun b hb => by cases hb; exact qap) qaq ⟨qlL nn, qri, qn5, qoc, trivial⟩) 200 ((qq1 nn).mpr fun a hp w_0 w_1 w_2 w_3 => @qq2 nn a.1 a.2.1 a.2.2.1 a.2.2.2.1 w_0 w_1 w_2 w_3 hp)
theorem qtY : qn7.valid Try.prog 88 := qhm qlL (fun a hp => ⟨_, And.intro hp (Nat.lt_succ_self _)⟩)
noncomputable def qfh : Ctr := ⟨[.v (.pr (.sl .byte) (.sl .byte))], [.v (.arr 32 .byte)], some (fun a => (fun (a0_p : (List UInt8) × List UInt8) => (a0_p.1.length + a0_p.2.length ≤ 35184372088832 : Prop)) a.1), fun a => (fun (a0_p : (List UInt8) × List UInt8) => (((qaK a0_p), ()), (()))) a.1⟩
noncomputable def qn9 : Fx := ⟨seat, some bkT, fns, [(68, qiq)], [], [], []⟩
def qin (a0_p : (List UInt8) × List UInt8) (Q : (List UInt8) → Prop) : Prop :=
 (1 : Nat) + qah (a0_p.fst :: a0_p.snd :: ([] : List (List UInt8))) ≤ (70368744177664 : Nat) ∧ ((Ty.arr (32 : Nat) Ty.byte).kd.wf (qal (4 : Int) (a0_p.fst :: a0_p.snd :: ([] : List (List UInt8)))) → Q (qal (4 : Int) (a0_p.fst :: a0_p.snd :: ([] : List (List UInt8)))))
theorem qq4 {a0_p : (List UInt8) × List UInt8} (w_0 : (Ty.kd (.pr (.sl .byte) (.sl .byte))).wf a0_p) (hp : a0_p.1.length + a0_p.2.length ≤ 35184372088832) : qin a0_p (fun o0 => o0 = (qaK a0_p)) := by
 unfold qin
 refine ⟨?_, fun _ => rfl⟩
 have e : qah (a0_p.1 :: a0_p.2 :: []) = (a0_p.1.length + 9) + ((a0_p.2.length + 9) + 0) := rfl
 rw [e]
 omega
theorem qq3 : (∀ a, qfh.pre a → PM.wfP qfh.pm a (fvc qn9 200 89 qfh a (eqO qfh a))) = (∀ a : ((List UInt8) × List UInt8) × Unit, ((a.1).1.length + (a.1).2.length ≤ 35184372088832) → (Ty.kd (.pr (.sl .byte) (.sl .byte))).wf a.1 → qin a.1 (fun o0 => o0 = (qaK (a.1)))) := by kernel_rfl
theorem qtZ : qfh.valid Try.prog 89 := qar (X := qn9) (qaH qai (fun b hb => by cases hb; exact qap) qaq ⟨qq9, trivial⟩) 200 (qq3.mpr fun a hp w_0 => @qq4 a.1 w_0 hp)
noncomputable def qd2 : Ctr := ⟨[.v (.int .i64), .v (.arr 32 .byte)], [.v (.arr 32 .byte)], some (fun a => (fun (a0_n : Int) (a1_t : List UInt8) => (0 ≤ a0_n : Prop)) a.1 a.2.1), fun a => (fun (a0_n : Int) (a1_t : List UInt8) => (((qbr a0_n a1_t), ()), (()))) a.1 a.2.1⟩
noncomputable def qlQ : Fx := ⟨seat, some bkT, fns, [(109, qcl), (68, qiq)], [], [], [(1, [0, 1, 2], [.o 0 2, .o 1 2, .o 3 2, .o 2 0, .o 4 1, .o 5 1, .o 6 1])]⟩
def qgF (a0_n : Int) (a1_t : List UInt8) (Q : (List UInt8) → Prop) : Prop :=
 Ty.byte.kd.sl.wf (numB (IntKind.u64.wrap a0_n).toNat) → (1 : Nat) + qah (numB (IntKind.u64.wrap a0_n).toNat :: a1_t :: ([] : List (List UInt8))) ≤ (70368744177664 : Nat) ∧ ((Ty.arr (32 : Nat) Ty.byte).kd.wf (qal (5 : Int) (numB (IntKind.u64.wrap a0_n).toNat :: a1_t :: ([] : List (List UInt8)))) → Q (qal (5 : Int) (numB (IntKind.u64.wrap a0_n).toNat :: a1_t :: ([] : List (List UInt8)))))
theorem qop {a0_n : Int} {a1_t : List UInt8} (w_0 : (Ty.kd (.int .i64)).wf a0_n) (w_1 : (Ty.kd (.arr 32 .byte)).wf a1_t) (hp : 0 ≤ a0_n) : qgF a0_n a1_t (fun o0 => o0 = (qbr a0_n a1_t)) := by
 have e : IntKind.u64.wrap a0_n = a0_n := qak ⟨hp, by have : a0_n ≤ 9223372036854775807 := w_0.2; show _ ≤ (18446744073709551615 : Int); omega⟩
 have hl := qbp (n := a0_n.toNat) (by have : a0_n ≤ 9223372036854775807 := w_0.2; omega)
 have ht : a1_t.length = 32 := w_1.1
 unfold qgF
 rw [e]
 exact fun _ => ⟨by simp [qah]; omega, fun _ => rfl⟩
theorem qoo : (∀ a, qd2.pre a → PM.wfP qd2.pm a (fvc qlQ 200 90 qd2 a (eqO qd2 a))) = (∀ a : Int × (List UInt8) × Unit, (0 ≤ (a.1)) → (Ty.kd (.int .i64)).wf a.1 → (Ty.kd (.arr 32 .byte)).wf a.2.1 → qgF a.1 a.2.1 (fun o0 => o0 = (qbr (a.1) (a.2.1)))) := by kernel_rfl
theorem qrj : qd2.valid Try.prog 90 := qar (X := qlQ) (qaH qai (fun b hb => by cases hb; exact qap) qaq ⟨qjq, qq9, trivial⟩) 200 (qoo.mpr fun a hp w_0 w_1 => @qop a.1 a.2.1 w_0 w_1 hp)
noncomputable def qfm : Ctr := ⟨[.v (.sl .byte), .v (.pr (.int .i64) (.sl (.pr (.int .i64) (.pr (.pr (.sl .byte) (.sl .byte)) (.sl (.arr 32 .byte))))))], [.v .bool], none, fun a => (fun (a0_key : List UInt8) (a1_s : Int × List (Int × ((List UInt8) × List UInt8) × List (List UInt8))) => (((decide (0 ≤ a1_s.1) && (qbH a0_key a1_s).2), ()), (()))) a.1 a.2.1⟩
noncomputable def qol : Fx := ⟨seat, some bkT, fns, [], [], [], [(1, [], [.o 0 2, .o 1 2, .o 2 2, .o 3 2, .o 4 2, .o 5 2]), (8, [], [.o 0 2, .o 1 2, .o 2 2, .o 3 2, .o 4 2, .o 5 2, .o 6 2, .o 7 2, .o 8 2, .o 9 2, .o 10 2, .o 11 2, .o 12 2, .o 13 2, .o 14 2, .o 15 2, .o 16 2, .o 17 2, .o 18 2, .o 19 2, .o 20 2, .o 21 2, .o 22 2, .o 23 2, .o 24 2, .o 25 2, .o 26 2, .o 27 2, .o 28 2, .o 29 2, .o 30 2]), (9, [], [.o 0 2, .o 1 2, .o 2 2, .o 3 2, .o 4 2, .o 5 2, .o 6 2, .o 7 2, .o 8 2, .o 9 2, .o 10 2, .o 11 2, .o 12 2, .o 13 2, .o 14 2, .o 15 2, .o 16 2, .o 17 2, .o 18 2, .o 19 2, .o 20 2, .o 21 2, .o 22 2, .o 23 2, .o 24 2, .o 25 2, .o 26 2, .o 27 2, .o 28 2, .o 29 2, .o 30 2, .o 31 2, .o 32 2, .o 33 2, .o 34 2, .o 35 2, .o 36 2, .o 37 2, .o 38 2, .o 39 2])]⟩
def qit (a0_key : List UInt8) (a1_s : Int × List (Int × ((List UInt8) × List UInt8) × List (List UInt8))) (Q : Bool → Prop) : Prop :=
 (a1_s.fst < (0 : Int) → Q false) ∧ (¬a1_s.fst < (0 : Int) → ((2 : Int) < (a1_s.snd.length : Int) → Q false) ∧ (¬(2 : Int) < (a1_s.snd.length : Int) → ((a1_s.snd.length : Int) = (0 : Int) → Q (decide (a1_s.fst = (0 : Int)))) ∧ (¬(a1_s.snd.length : Int) = (0 : Int) → ((0 : Int) ≤ (0 : Int) ∧ (0 : Int) < (a1_s.snd.length : Int)) ∧ ((a1_s.snd.length : Int) = (1 : Int) → ((ix a1_s.snd (0 : Int)).snd.fst.fst = a0_key → Q true) ∧ (¬(ix a1_s.snd (0 : Int)).snd.fst.fst = a0_key → ((!(sless (ix a1_s.snd (0 : Int)).snd.fst.fst a0_key || decide ((ix a1_s.snd (0 : Int)).snd.fst.fst = a0_key))) = true → ((0 : Int) ≤ (0 : Int) ∧ (0 : Int) < (a1_s.snd.length : Int)) ∧ ((ix a1_s.snd (0 : Int)).fst = (0 : Int) → Q true) ∧ (¬(ix a1_s.snd (0 : Int)).fst = (0 : Int) → (sless (ix a1_s.snd (0 : Int)).snd.fst.fst a0_key = true → ((0 : Int) ≤ (0 : Int) ∧ (0 : Int) < (a1_s.snd.length : Int)) ∧ Q (decide ((ix a1_s.snd (0 : Int)).fst = IntKind.i64.wrap (a1_s.fst - (1 : Int))))) ∧ (sless (ix a1_s.snd (0 : Int)).snd.fst.fst a0_key = false → Q false))) ∧ ((!(sless (ix a1_s.snd (0 : Int)).snd.fst.fst a0_key || decide ((ix a1_s.snd (0 : Int)).snd.fst.fst = a0_key))) = false → (sless (ix a1_s.snd (0 : Int)).snd.fst.fst a0_key = true → ((0 : Int) ≤ (0 : Int) ∧ (0 : Int) < (a1_s.snd.length : Int)) ∧ Q (decide ((ix a1_s.snd (0 : Int)).fst = IntKind.i64.wrap (a1_s.fst - (1 : Int))))) ∧ (sless (ix a1_s.snd (0 : Int)).snd.fst.fst a0_key = false → Q false)))) ∧ (¬(a1_s.snd.length : Int) = (1 : Int) → ((0 : Int) ≤ (0 : Int) ∧ (0 : Int) < (a1_s.snd.length : Int)) ∧ ((0 : Int) ≤ (ix a1_s.snd (0 : Int)).fst → ((0 : Int) ≤ (1 : Int) ∧ (1 : Int) < (a1_s.snd.length : Int)) ∧ ((0 : Int) < (ix a1_s.snd (1 : Int)).fst → ((0 : Int) ≤ (1 : Int) ∧ (1 : Int) < (a1_s.snd.length : Int)) ∧ ((0 : Int) ≤ (0 : Int) ∧ (0 : Int) < (a1_s.snd.length : Int)) ∧ (IntKind.i64.wrap ((ix a1_s.snd (1 : Int)).fst - (1 : Int)) = (ix a1_s.snd (0 : Int)).fst → (sless (ix a1_s.snd (0 : Int)).snd.fst.fst a0_key = true → ((0 : Int) ≤ (1 : Int) ∧ (1 : Int) < (a1_s.snd.length : Int)) ∧ Q (sless a0_key (ix a1_s.snd (1 : Int)).snd.fst.fst)) ∧ (sless (ix a1_s.snd (0 : Int)).snd.fst.fst a0_key = false → Q false)) ∧ (¬IntKind.i64.wrap ((ix a1_s.snd (1 : Int)).fst - (1 : Int)) = (ix a1_s.snd (0 : Int)).fst → Q false)) ∧ (¬(0 : Int) < (ix a1_s.snd (1 : Int)).fst → Q false)) ∧ (¬(0 : Int) ≤ (ix a1_s.snd (0 : Int)).fst → Q false)))))
theorem qrh {a0_key : List UInt8} {a1_s : Int × List (Int × ((List UInt8) × List UInt8) × List (List UInt8))} (w_0 : (Ty.kd (.sl .byte)).wf a0_key) (w_1 : (Ty.kd (.pr (.int .i64) (.sl (.pr (.int .i64) (.pr (.pr (.sl .byte) (.sl .byte)) (.sl (.arr 32 .byte))))))).wf a1_s) : qit a0_key a1_s (fun o0 => o0 = (decide (0 ≤ a1_s.1) && (qbH a0_key a1_s).2)) := by
 obtain ⟨n, l⟩ := a1_s
 have hwn : (Kd.int .i64).wf n := w_1.1
 unfold qit
 refine ⟨fun h => ?_, fun h => ?_⟩
 ·have h : n < 0 := h
  show false = (decide (0 ≤ n) && _)
  rw [decide_eq_false (by omega)]; rfl
 have hn : 0 ≤ n := by have h : ¬ n < 0 := h; omega
 have eS : (decide (0 ≤ n) && (qbH a0_key (n, l)).2) = (qbH a0_key (n, l)).2 := by rw [decide_eq_true hn]; rfl
 simp only [eS]
 refine ⟨fun h2 => ?_, fun h2 => ⟨fun h0 => ?_, fun h0 => ⟨?_, fun h1 => ?_, fun h1 => ?_⟩⟩⟩
 ·match l, h2 with
  | [], h2 => simp at h2
  | [a], h2 => simp at h2
  | [a, b], h2 => simp at h2
  | a :: b :: c :: l, h2 => rfl
 ·obtain rfl : l = [] := List.length_eq_zero_iff.1 (by have h : (l.length : Int) = 0 := h0; omega)
  rfl
 ·have h0 : ¬ (l.length : Int) = 0 := h0
  show (0 : Int) ≤ 0 ∧ (0 : Int) < (l.length : Int)
  omega
 ·obtain ⟨a, rfl⟩ := List.length_eq_one_iff.1 (show l.length = 1 by have h1 : (l.length : Int) = 1 := h1; omega)
  have e : ix [a] 0 = a := rfl
  simp only [e]
  have c0 : cmpB a0_key a.2.1.1 = 0 ↔ a0_key = a.2.1.1 := qfv
  have c1 : 0 < cmpB a0_key a.2.1.1 ↔ sless a.2.1.1 a0_key = true := qkO
  generalize hc : cmpB a0_key a.2.1.1 = c at c0 c1
  have s2 : (qbH a0_key (n, [a])).2 = decide (c = 0 ∨ c < 0 ∧ a.1 = 0 ∨ 0 < c ∧ a.1 = n - 1) := by rw [← hc]; rfl
  rw [s2]
  have ew : IntKind.i64.wrap (n - 1) = n - 1 := qak (wf64 (by omega) (by have := hwn.2; have : n ≤ 9223372036854775807 := hwn.2; omega))
  rw [ew]
  have b : (0 : Int) ≤ 0 ∧ (0 : Int) < (([a] : List Sp).length : Int) := by simp
  refine ⟨fun g1 => (decide_eq_true (.inl (c0.2 g1.symm))).symm, fun g1 => ?_⟩
  have n0 : c ≠ 0 := fun h => g1 (c0.1 h).symm
  rw [decide_eq_false g1, Bool.or_false]
  cases hs : sless a.2.1.1 a0_key with
  | true =>
    have hp := c1.2 hs
    refine ⟨fun h => (by cases h), fun _ => ⟨fun _ => ⟨b, decide_eq_decide.2 (by constructor <;> intro h <;> omega)⟩, fun h => (by cases h)⟩⟩
  | false =>
    have hp : ¬ 0 < c := fun h => by rw [c1.1 h] at hs; cases hs
    refine ⟨fun _ => ⟨b, fun h => (decide_eq_true (by omega)).symm, fun h => ⟨fun h => (by cases h), fun _ => (decide_eq_false (by omega)).symm⟩⟩, fun h => (by cases h)⟩
 ·obtain ⟨a, b, rfl⟩ : ∃ a b, l = [a, b] := by
   match l, h0, h1, h2 with
   | [], h0, h1, h2 => simp at h0
   | [a], h0, h1, h2 => simp at h1
   | [a, b], h0, h1, h2 => exact ⟨a, b, rfl⟩
   | a :: b :: c :: l, h0, h1, h2 => exact absurd (by show (2 : Int) < ((l.length + 1 + 1 + 1 : Nat) : Int); omega) h2
  have e : ix [a, b] 0 = a := rfl
  have e' : ix [a, b] 1 = b := rfl
  simp only [e, e']
  have wa : a.1 ≤ 9223372036854775807 := (w_1.2.2 a (by simp)).1.2
  have wb : b.1 ≤ 9223372036854775807 := (w_1.2.2 b (by simp)).1.2
  have c1 : cmpB a.2.1.1 a0_key < 0 ↔ sless a.2.1.1 a0_key = true := qcb
  have c2 : cmpB a0_key b.2.1.1 < 0 ↔ sless a0_key b.2.1.1 = true := qcb
  have s2 : (qbH a0_key (n, [a, b])).2 = decide (0 ≤ a.1 ∧ a.1 < b.1 ∧ b.1 - a.1 = 1 ∧ cmpB a.2.1.1 a0_key < 0 ∧ cmpB a0_key b.2.1.1 < 0) := rfl
  rw [s2]
  have b0 : (0 : Int) ≤ 0 ∧ (0 : Int) < (([a, b] : List Sp).length : Int) := by simp
  have b1 : (0 : Int) ≤ 1 ∧ (1 : Int) < (([a, b] : List Sp).length : Int) := by simp
  refine ⟨b0, fun g1 => ⟨b1, fun g2 => ?_, fun g2 => (decide_eq_false (by omega)).symm⟩, fun g1 => (decide_eq_false (by omega)).symm⟩
  have ew : IntKind.i64.wrap (b.1 - 1) = b.1 - 1 := qak (wf64 (by omega) (by omega))
  rw [ew]
  refine ⟨b1, b0, fun g3 => ⟨fun g4 => ⟨b1, ?_⟩, fun g4 => (decide_eq_false fun h => ?_).symm⟩, fun g3 => (decide_eq_false (by omega)).symm⟩
  ·cases hs : sless a0_key b.2.1.1 with
   | true => exact (decide_eq_true ⟨g1, by omega, by omega, c1.2 g4, c2.2 hs⟩).symm
   | false => exact (decide_eq_false fun h => by rw [c2.1 h.2.2.2.2] at hs; cases hs).symm
  ·rw [c1.1 h.2.2.2.1] at g4; cases g4
theorem qrg : (∀ a, qfm.pre a → PM.wfP qfm.pm a (fvc qol 200 87 qfm a (eqO qfm a))) = (∀ a : (List UInt8) × (Int × List (Int × ((List UInt8) × List UInt8) × List (List UInt8))) × Unit, True → (Ty.kd (.sl .byte)).wf a.1 → (Ty.kd (.pr (.int .i64) (.sl (.pr (.int .i64) (.pr (.pr (.sl .byte) (.sl .byte)) (.sl (.arr 32 .byte))))))).wf a.2.1 → qit a.1 a.2.1 (fun o0 => o0 = (decide (0 ≤ (a.2.1).1) && (qbH (a.1) (a.2.1)).2))) := by kernel_rfl
theorem qt3 : qfm.valid Try.prog 87 := qar (X := qol) (qaH qai (fun b hb => by cases hb; exact qap) qaq trivial) 200 (qrg.mpr fun a hp w_0 w_1 => @qrh a.1 a.2.1 w_0 w_1)
def qeK (a0_root : List UInt8) (a1_key : List UInt8) (a2_s : Int × List (Int × ((List UInt8) × List UInt8) × List (List UInt8))) (Q : (List UInt8) → Bool → Bool → Prop) (x0 : List UInt8 → Bool → Bool → Int → List UInt8 → Prop) (x1 : List UInt8 → Bool → Bool → Int → List UInt8 → Nat) (x2 : List UInt8) (x3 : Bool) (x4 : Bool) (x5 : Int) (x6 : List UInt8) : Prop :=
 (qaM a2_s.fst (ix a2_s.snd x5).fst (ix a2_s.snd x5).snd.snd = true → (x5 = (1 : Int) → (qaG a2_s.fst (ix a2_s.snd x5).fst (qaK (ix a2_s.snd x5).snd.fst) (ix a2_s.snd x5).snd.snd ≠ x6 → Q ([] : List UInt8) false false) ∧ (¬qaG a2_s.fst (ix a2_s.snd x5).fst (qaK (ix a2_s.snd x5).snd.fst) (ix a2_s.snd x5).snd.snd ≠ x6 → x5 < (9223372036854775807 : Int) ∧ x0 x2 x3 x4 (x5 + (1 : Int)) (qaG a2_s.fst (ix a2_s.snd x5).fst (qaK (ix a2_s.snd x5).snd.fst) (ix a2_s.snd x5).snd.snd) ∧ x1 x2 x3 x4 (x5 + (1 : Int)) (qaG a2_s.fst (ix a2_s.snd x5).fst (qaK (ix a2_s.snd x5).snd.fst) (ix a2_s.snd x5).snd.snd) < x1 x2 x3 x4 x5 x6)) ∧ (¬x5 = (1 : Int) → x5 < (9223372036854775807 : Int) ∧ x0 x2 x3 x4 (x5 + (1 : Int)) (qaG a2_s.fst (ix a2_s.snd x5).fst (qaK (ix a2_s.snd x5).snd.fst) (ix a2_s.snd x5).snd.snd) ∧ x1 x2 x3 x4 (x5 + (1 : Int)) (qaG a2_s.fst (ix a2_s.snd x5).fst (qaK (ix a2_s.snd x5).snd.fst) (ix a2_s.snd x5).snd.snd) < x1 x2 x3 x4 x5 x6))
noncomputable def qfi : Ctr := ⟨[.v (.arr 32 .byte), .v (.sl .byte), .v (.pr (.int .i64) (.sl (.pr (.int .i64) (.pr (.pr (.sl .byte) (.sl .byte)) (.sl (.arr 32 .byte))))))], [.ow 5 .byte, .v .bool, .v .bool], some (fun a => (fun (a0_root : List UInt8) (a1_key : List UInt8) (a2_s : Int × List (Int × ((List UInt8) × List UInt8) × List (List UInt8))) => (∀ x ∈ a2_s.2, x.2.1.1.length + x.2.1.2.length ≤ 35184372088832 ∧ x.2.2.length ≤ 65536 : Prop)) a.1 a.2.1 a.2.2.1), fun a => (fun (a0_root : List UInt8) (a1_key : List UInt8) (a2_s : Int × List (Int × ((List UInt8) × List UInt8) × List (List UInt8))) => (((qaZ a0_root a1_key a2_s), (qa5 a0_root a1_key a2_s), decide (qaN a0_root a1_key a2_s = 0), ()), (()))) a.1 a.2.1 a.2.2.1⟩
noncomputable def qoa : Fx := ⟨seat, some bkT, fns, [(87, qfm), (60, qog), (89, qfh), (88, qn7), (90, qd2)], [], [(5, [2], [])], [(8, [], [.o 0 2, .o 1 2, .o 2 2, .o 3 2, .o 4 2, .o 5 2, .o 7 2, .o 8 2, .par [6, 9, 10, 11, 12, 13] (.alt 6 0 (.alt 9 0 (.one 10 2 (.one 11 2 (.one 12 3 (.one 13 0 .fin)))) (.alt 13 0 (.one 9 0 (.one 10 2 (.one 11 2 (.one 12 3 .fin)))) .fin)) (.alt 13 0 (.one 6 0 (.one 9 0 (.one 10 2 (.one 11 2 (.one 12 3 .fin))))) .fin)), .o 14 1, .o 15 3]), (12, [], [.o 0 2, .o 1 2, .o 2 2, .o 4 2, .o 3 0, .o 5 2]), (14, [], [.o 0 2, .o 1 2, .o 2 2, .o 3 2, .o 4 2, .o 5 2, .o 6 2, .o 7 2, .o 8 2, .o 9 2, .o 10 2, .o 11 2, .o 12 2, .o 13 2, .o 14 2, .o 15 2])]⟩
def qio (a0_root : List UInt8) (a1_key : List UInt8) (a2_s : Int × List (Int × ((List UInt8) × List UInt8) × List (List UInt8))) (Q : (List UInt8) → Bool → Bool → Prop) : Prop :=
 (¬(decide ((0 : Int) ≤ a2_s.fst) && (qbH a1_key a2_s).snd) = true → Q ([] : List UInt8) false false) ∧ ((decide ((0 : Int) ≤ a2_s.fst) && (qbH a1_key a2_s).snd) = true → ([] : List (List UInt8)).length ≤ (1048576 : Nat) ∧ ((Ty.arr (32 : Nat) Ty.byte).kd.wf (qaD ([] : List (List UInt8))) → ∃ (x0 : List UInt8 → Bool → Bool → Int → List UInt8 → Prop), ∃ (x1 : List UInt8 → Bool → Bool → Int → List UInt8 → Nat), x0 ([] : List UInt8) false false (0 : Int) (qaD ([] : List (List UInt8))) ∧ ∀ (x2 : List UInt8) (x3 x4 : Bool) (x5 : Int) (x6 : List UInt8), x0 x2 x3 x4 x5 x6 → Ty.byte.kd.sl.wf x2 → (Kd.int IntKind.i64).wf x5 → (Ty.arr (32 : Nat) Ty.byte).kd.wf x6 → (x5 < (a2_s.snd.length : Int) → ((0 : Int) ≤ x5 ∧ x5 < (a2_s.snd.length : Int)) ∧ ((ix a2_s.snd x5).snd.fst.fst.length + (ix a2_s.snd x5).snd.fst.snd.length ≤ (35184372088832 : Nat) ∧ ((Ty.arr (32 : Nat) Ty.byte).kd.wf (qaK (ix a2_s.snd x5).snd.fst) → ((Ty.arr (32 : Nat) Ty.byte).kd.wf (qaG a2_s.fst (ix a2_s.snd x5).fst (qaK (ix a2_s.snd x5).snd.fst) (ix a2_s.snd x5).snd.snd) → (¬qaM a2_s.fst (ix a2_s.snd x5).fst (ix a2_s.snd x5).snd.snd = true → Q ([] : List UInt8) false false) ∧ (qeK a0_root a1_key a2_s Q x0 x1 x2 x3 x4 x5 x6)) ∧ ((Ty.arr (32 : Nat) Ty.byte).kd.wf (qaG a2_s.fst (ix a2_s.snd x5).fst (qaK (ix a2_s.snd x5).snd.fst) (ix a2_s.snd x5).snd.snd) → (¬qaM a2_s.fst (ix a2_s.snd x5).fst (ix a2_s.snd x5).snd.snd = true → Q ([] : List UInt8) false false) ∧ (qeK a0_root a1_key a2_s Q x0 x1 x2 x3 x4 x5 x6)) ∧ True)) ∧ ((ix a2_s.snd x5).snd.fst.fst.length + (ix a2_s.snd x5).snd.fst.snd.length ≤ (35184372088832 : Nat) ∧ ((Ty.arr (32 : Nat) Ty.byte).kd.wf (qaK (ix a2_s.snd x5).snd.fst) → (Ty.arr (32 : Nat) Ty.byte).kd.wf (qaG a2_s.fst (ix a2_s.snd x5).fst (qaK (ix a2_s.snd x5).snd.fst) (ix a2_s.snd x5).snd.snd) → (¬qaM a2_s.fst (ix a2_s.snd x5).fst (ix a2_s.snd x5).snd.snd = true → Q ([] : List UInt8) false false) ∧ (qeK a0_root a1_key a2_s Q x0 x1 x2 x3 x4 x5 x6))) ∧ True) ∧ (¬x5 < (a2_s.snd.length : Int) → (0 : Int) ≤ a2_s.fst ∧ ((Ty.arr (32 : Nat) Ty.byte).kd.wf (qbr a2_s.fst x6) → (qbr a2_s.fst x6 ≠ a0_root → Q ([] : List UInt8) false false) ∧ (¬qbr a2_s.fst x6 ≠ a0_root → ((a2_s.snd.length : Int) = (1 : Int) → ((0 : Int) ≤ (0 : Int) ∧ (0 : Int) < (a2_s.snd.length : Int)) ∧ ((ix a2_s.snd (0 : Int)).snd.fst.fst = a1_key → ((0 : Int) ≤ (0 : Int) ∧ (0 : Int) < (a2_s.snd.length : Int)) ∧ (([] : List UInt8).length + (ix a2_s.snd (0 : Int)).snd.fst.snd.length) * (1 : Nat) ≤ (140737488355328 : Nat) ∧ Q (([] : List UInt8) ++ (ix a2_s.snd (0 : Int)).snd.fst.snd) true true) ∧ (¬(ix a2_s.snd (0 : Int)).snd.fst.fst = a1_key → Q ([] : List UInt8) false true)) ∧ (¬(a2_s.snd.length : Int) = (1 : Int) → Q ([] : List UInt8) false true))))))
theorem qq6 {a0_root : List UInt8} {a1_key : List UInt8} {a2_s : Int × List (Int × ((List UInt8) × List UInt8) × List (List UInt8))} (w_0 : (Ty.kd (.arr 32 .byte)).wf a0_root) (w_1 : (Ty.kd (.sl .byte)).wf a1_key) (w_2 : (Ty.kd (.pr (.int .i64) (.sl (.pr (.int .i64) (.pr (.pr (.sl .byte) (.sl .byte)) (.sl (.arr 32 .byte))))))).wf a2_s) (hp : ∀ x ∈ a2_s.2, x.2.1.1.length + x.2.1.2.length ≤ 35184372088832 ∧ x.2.2.length ≤ 65536) : qio a0_root a1_key a2_s (fun o0 o1 o2 => o0 = (qaZ a0_root a1_key a2_s) ∧ o1 = (qa5 a0_root a1_key a2_s) ∧ o2 = decide (qaN a0_root a1_key a2_s = 0)) := by
 obtain ⟨n, l⟩ := a2_s
 have hs : ∀ x ∈ l, x.2.1.1.length + x.2.1.2.length ≤ 35184372088832 ∧ x.2.2.length ≤ 65536 := hp
 unfold qio
 refine ⟨fun h => ?_, fun hok => ?_⟩
 ·have e : qdn a0_root a1_key (n, l) = none := if_neg (fun hc => h (by
   show (decide (0 ≤ n) && (qbH a1_key (n, l)).2) = true
   rw [decide_eq_true hc.2, hc.1]; rfl))
  unfold qaZ qa5 qaN
  rw [e]
  exact ⟨rfl, rfl, rfl⟩
 have hok : (decide (0 ≤ n) && (qbH a1_key (n, l)).2) = true := hok
 obtain ⟨hn0, hok⟩ := Bool.and_eq_true_iff.1 hok
 have hn0 : 0 ≤ n := of_decide_eq_true hn0
 have hsay : (qbH a1_key (n, l)).2 = true ∧ 0 ≤ n := ⟨hok, hn0⟩
 have hl2 : l.length ≤ 2 := by
  rcases l with _ | ⟨a, _ | ⟨b, _ | ⟨c, l⟩⟩⟩
  ·simp
  ·simp
  ·simp
  ·cases hok
 have eO : qdn a0_root a1_key (n, l) = (match goK n true l (begK n) with
  | some t => if qbr n t = a0_root then some (qbH a1_key (n, l)).1 else none
  | none => none) := if_pos hsay
 have fail : goK n true l (begK n) = none → ([] = qaZ a0_root a1_key (n, l) ∧ false = qa5 a0_root a1_key (n, l) ∧ false = decide (qaN a0_root a1_key (n, l) = 0)) := fun hg => by
  rw [hg] at eO
  unfold qaZ qa5 qaN
  rw [eO]
  exact ⟨rfl, rfl, rfl⟩
 have hbeg : goK n true l (qaD []) = goK n true l (begK n) := by
  rcases l with _ | ⟨a, l⟩
  ·have h0 : n = 0 := of_decide_eq_true hok
   rw [show begK n = qaD [] from if_pos h0]
  ·show (if qaM n a.1 a.2.2 = true ∧ (true = true ∨ _) then _ else _) = (if qaM n a.1 a.2.2 = true ∧ (true = true ∨ _) then _ else _)
   simp
 refine ⟨by simp, fun _ => ⟨fun _ _ _ x5 x6 => ∃ j : Nat, x5 = (j : Int) ∧ j ≤ l.length ∧ goK n (decide (j = 0)) (l.drop j) x6 = goK n true l (begK n), fun _ _ _ x5 _ => ((l.length : Int) - x5).toNat, ⟨0, rfl, Nat.zero_le _, hbeg⟩, ?_⟩⟩
 rintro x2 x3 x4 _ x6 ⟨j, rfl, hj, hg⟩ _ _ _
 refine ⟨fun hlt => ?_, fun hge => ?_⟩
 ·have hj' : j < l.length := by have hlt : (j : Int) < (l.length : Int) := hlt; omega
  have eix : ix l (j : Int) = l[j] := ixN hj'
  have hsz := hs _ (List.getElem_mem hj')
  rw [List.drop_eq_getElem_cons hj'] at hg
  have hgo : goK n (decide (j = 0)) (l[j] :: l.drop (j + 1)) x6 = if qaM n l[j].1 l[j].2.2 = true ∧ (decide (j = 0) = true ∨ qaG n l[j].1 (qaK l[j].2.1) l[j].2.2 = x6) then goK n false (l.drop (j + 1)) (qaG n l[j].1 (qaK l[j].2.1) l[j].2.2) else none := rfl
  have bad : ¬ (qaM n l[j].1 l[j].2.2 = true ∧ (decide (j = 0) = true ∨ qaG n l[j].1 (qaK l[j].2.1) l[j].2.2 = x6)) → ([] = qaZ a0_root a1_key (n, l) ∧ false = qa5 a0_root a1_key (n, l) ∧ false = decide (qaN a0_root a1_key (n, l) = 0)) := fun hc => by
   rw [hgo, if_neg hc] at hg
   exact fail hg.symm
  have good : (qaM n l[j].1 l[j].2.2 = true ∧ (decide (j = 0) = true ∨ qaG n l[j].1 (qaK l[j].2.1) l[j].2.2 = x6)) → (j : Int) < 9223372036854775807 ∧ (∃ i : Nat, (j : Int) + 1 = (i : Int) ∧ i ≤ l.length ∧ goK n (decide (i = 0)) (l.drop i) (qaG n l[j].1 (qaK l[j].2.1) l[j].2.2) = goK n true l (begK n)) ∧ ((l.length : Int) - ((j : Int) + 1)).toNat < ((l.length : Int) - (j : Int)).toNat := fun hc => by
   rw [hgo, if_pos hc] at hg
   exact ⟨by omega, ⟨j + 1, rfl, hj', hg⟩, by omega⟩
  have b : (0 : Int) ≤ (j : Int) ∧ (j : Int) < (((n, l) : Int × List Sp).2.length : Int) := ⟨by omega, by show (j : Int) < (l.length : Int); omega⟩
  have k1 : ∀ Q : (List UInt8) → Bool → Bool → Prop, ∀ (x0 : List UInt8 → Bool → Bool → Int → List UInt8 → Prop) (x1 : List UInt8 → Bool → Bool → Int → List UInt8 → Nat),
   (∀ a b c, (a = qaZ a0_root a1_key (n, l) ∧ b = qa5 a0_root a1_key (n, l) ∧ c = decide (qaN a0_root a1_key (n, l) = 0)) → Q a b c) →
   (x0 = fun _ _ _ x5 x6 => ∃ j : Nat, x5 = (j : Int) ∧ j ≤ l.length ∧ goK n (decide (j = 0)) (l.drop j) x6 = goK n true l (begK n)) → (x1 = fun _ _ _ x5 _ => ((l.length : Int) - x5).toNat) →
   (¬ qaM n l[j].1 l[j].2.2 = true → Q [] false false) ∧ qeK a0_root a1_key (n, l) Q x0 x1 x2 x3 x4 (j : Int) x6 := fun Q x0 x1 hQ e0 e1 => by
   refine ⟨fun h => hQ _ _ _ (bad fun hc => h hc.1), ?_⟩
   unfold qeK
   simp only [eix, e0, e1]
   refine fun hB => ⟨fun h1 => ⟨fun hne => hQ _ _ _ (bad ?_), fun he => good ⟨hB, .inr (Classical.not_not.1 he)⟩⟩, fun h1 => good ⟨hB, .inl (decide_eq_true (by omega))⟩⟩
   rintro ⟨_, h | h⟩
   ·have := of_decide_eq_true h; omega
   ·exact hne h
  have k2 := k1 _ _ _ (fun a b c h => h) rfl rfl
  refine ⟨b, ?_⟩
  simp only [eix]
  exact ⟨⟨hsz.1, fun _ => ⟨fun _ => k2, fun _ => k2, trivial⟩⟩, ⟨hsz.1, fun _ _ => k2⟩, trivial⟩
 ·obtain rfl : j = l.length := by have hge : ¬ (j : Int) < (l.length : Int) := hge; omega
  rw [List.drop_length] at hg
  have hg : some x6 = goK n true l (begK n) := hg
  rw [← hg] at eO
  have eO : qdn a0_root a1_key (n, l) = if qbr n x6 = a0_root then some (qbH a1_key (n, l)).1 else none := eO
  refine ⟨hn0, fun _ => ⟨fun hne => ?_, fun he => ?_⟩⟩
  ·rw [if_neg hne] at eO
   unfold qaZ qa5 qaN
   rw [eO]
   exact ⟨rfl, rfl, rfl⟩
  ·rw [if_pos (Classical.not_not.1 he)] at eO
   refine ⟨fun h1 => ?_, fun h1 => ?_⟩
   ·obtain ⟨a, rfl⟩ := List.length_eq_one_iff.1 (show l.length = 1 by have h1 : (l.length : Int) = 1 := h1; omega)
    have e : ix (n, [a]).2 0 = a := rfl
    simp only [e]
    have eS : (qbH a1_key (n, [a])).1 = decide (cmpB a1_key a.2.1.1 = 0) := rfl
    rw [eS] at eO
    refine ⟨by simp, fun hk => ⟨by simp, ?_, ?_⟩, fun hk => ?_⟩
    ·have := (hs a (by simp)).1
     simp only [List.length_nil]
     omega
    ·rw [decide_eq_true (qfv.2 hk.symm)] at eO
     unfold qaZ qa5 qaN
     rw [eO]
     exact ⟨rfl, rfl, rfl⟩
    ·rw [decide_eq_false (fun h => hk (qfv.1 h).symm)] at eO
     unfold qaZ qa5 qaN
     rw [eO]
     exact ⟨rfl, rfl, rfl⟩
   ·have eS : (qbH a1_key (n, l)).1 = false := by
     match l, h1 with
     | [], h1 => rfl
     | [a], h1 => exact absurd rfl h1
     | [a, b], h1 => rfl
     | a :: b :: c :: l, h1 => rfl
    rw [eS] at eO
    unfold qaZ qa5 qaN
    rw [eO]
    exact ⟨rfl, rfl, rfl⟩
theorem qq5 : (∀ a, qfi.pre a → PM.wfP qfi.pm a (fvc qoa 200 38 qfi a (eqO qfi a))) = (∀ a : (List UInt8) × (List UInt8) × (Int × List (Int × ((List UInt8) × List UInt8) × List (List UInt8))) × Unit, (∀ x ∈ (a.2.2.1).2, x.2.1.1.length + x.2.1.2.length ≤ 35184372088832 ∧ x.2.2.length ≤ 65536) → (Ty.kd (.arr 32 .byte)).wf a.1 → (Ty.kd (.sl .byte)).wf a.2.1 → (Ty.kd (.pr (.int .i64) (.sl (.pr (.int .i64) (.pr (.pr (.sl .byte) (.sl .byte)) (.sl (.arr 32 .byte))))))).wf a.2.2.1 → qio a.1 a.2.1 a.2.2.1 (fun o0 o1 o2 => o0 = (qaZ (a.1) (a.2.1) (a.2.2.1)) ∧ o1 = (qa5 (a.1) (a.2.1) (a.2.2.1)) ∧ o2 = decide (qaN (a.1) (a.2.1) (a.2.2.1) = 0))) := by kernel_rfl
theorem qt0 : qfi.valid Try.prog 38 := qar (X := qoa) (qaH qai (fun b hb => by cases hb; exact qap) qaq ⟨qt3, qt1, qtZ, qtY, qrj, trivial⟩) 200 (qq5.mpr fun a hp w_0 w_1 w_2 => @qq6 a.1 a.2.1 a.2.2.1 w_0 w_1 w_2 hp)
def qag (a0_a : Int × List (Int × ((List UInt8) × List UInt8) × List (List UInt8))) (a1_b : Int × List (Int × ((List UInt8) × List UInt8) × List (List UInt8))) (Q : Bool → Prop) (x0 : Bool → Int → Prop) (x1 : Bool → Int → Nat) (x2 : Bool) (x3 : Int) : Prop :=
 (¬(ix a0_a.snd x3).fst ≠ (ix a1_b.snd x3).fst → ((ix a0_a.snd x3).snd.fst.fst ≠ (ix a1_b.snd x3).snd.fst.fst → Q false) ∧ (¬(ix a0_a.snd x3).snd.fst.fst ≠ (ix a1_b.snd x3).snd.fst.fst → ((ix a0_a.snd x3).snd.fst.snd ≠ (ix a1_b.snd x3).snd.fst.snd → Q false) ∧ (¬(ix a0_a.snd x3).snd.fst.snd ≠ (ix a1_b.snd x3).snd.fst.snd → (¬decide ((ix a0_a.snd x3).snd.snd = (ix a1_b.snd x3).snd.snd) = true → Q false) ∧ (decide ((ix a0_a.snd x3).snd.snd = (ix a1_b.snd x3).snd.snd) = true → x3 < (9223372036854775807 : Int) ∧ x0 x2 (x3 + (1 : Int)) ∧ x1 x2 (x3 + (1 : Int)) < x1 x2 x3))))
def qcO (a0_a : Int × List (Int × ((List UInt8) × List UInt8) × List (List UInt8))) (a1_b : Int × List (Int × ((List UInt8) × List UInt8) × List (List UInt8))) (Q : Bool → Prop) (x0 : Bool → Int → Prop) (x1 : Bool → Int → Nat) (x2 : Bool) (x3 : Int) : Prop :=
 ((((0 : Int) ≤ x3 ∧ x3 < (a1_b.snd.length : Int)) ∧ (((ix a0_a.snd x3).fst ≠ (ix a1_b.snd x3).fst → Q false) ∧ (qag a0_a a1_b Q x0 x1 x2 x3)) ∧ (((ix a0_a.snd x3).fst ≠ (ix a1_b.snd x3).fst → Q false) ∧ (qag a0_a a1_b Q x0 x1 x2 x3)) ∧ True) ∧ (((0 : Int) ≤ x3 ∧ x3 < (a1_b.snd.length : Int)) ∧ ((ix a0_a.snd x3).fst ≠ (ix a1_b.snd x3).fst → Q false) ∧ (qag a0_a a1_b Q x0 x1 x2 x3)) ∧ True)
def qcP (a0_a : Int × List (Int × ((List UInt8) × List UInt8) × List (List UInt8))) (a1_b : Int × List (Int × ((List UInt8) × List UInt8) × List (List UInt8))) (Q : Bool → Prop) (x0 : Bool → Int → Prop) (x1 : Bool → Int → Nat) (x2 : Bool) (x3 : Int) : Prop :=
 ((((0 : Int) ≤ x3 ∧ x3 < (a0_a.snd.length : Int)) ∧ (((ix a0_a.snd x3).fst ≠ (ix a1_b.snd x3).fst → Q false) ∧ (qag a0_a a1_b Q x0 x1 x2 x3)) ∧ (((ix a0_a.snd x3).fst ≠ (ix a1_b.snd x3).fst → Q false) ∧ (qag a0_a a1_b Q x0 x1 x2 x3)) ∧ True) ∧ (((0 : Int) ≤ x3 ∧ x3 < (a0_a.snd.length : Int)) ∧ ((ix a0_a.snd x3).fst ≠ (ix a1_b.snd x3).fst → Q false) ∧ (qag a0_a a1_b Q x0 x1 x2 x3)) ∧ True)
def qcQ (a0_a : Int × List (Int × ((List UInt8) × List UInt8) × List (List UInt8))) (a1_b : Int × List (Int × ((List UInt8) × List UInt8) × List (List UInt8))) (Q : Bool → Prop) (x0 : Bool → Int → Prop) (x1 : Bool → Int → Nat) (x2 : Bool) (x3 : Int) : Prop :=
 ((((0 : Int) ≤ x3 ∧ x3 < (a1_b.snd.length : Int)) ∧ (((ix a0_a.snd x3).fst ≠ (ix a1_b.snd x3).fst → Q false) ∧ (qag a0_a a1_b Q x0 x1 x2 x3)) ∧ ((((ix a0_a.snd x3).fst ≠ (ix a1_b.snd x3).fst → Q false) ∧ (qag a0_a a1_b Q x0 x1 x2 x3)) ∧ (((ix a0_a.snd x3).fst ≠ (ix a1_b.snd x3).fst → Q false) ∧ (qag a0_a a1_b Q x0 x1 x2 x3)) ∧ True) ∧ True) ∧ (qcO a0_a a1_b Q x0 x1 x2 x3) ∧ True)
def qcR (a0_a : Int × List (Int × ((List UInt8) × List UInt8) × List (List UInt8))) (a1_b : Int × List (Int × ((List UInt8) × List UInt8) × List (List UInt8))) (Q : Bool → Prop) (x0 : Bool → Int → Prop) (x1 : Bool → Int → Nat) (x2 : Bool) (x3 : Int) : Prop :=
 (((0 : Int) ≤ x3 ∧ x3 < (a1_b.snd.length : Int)) ∧ ((((ix a0_a.snd x3).fst ≠ (ix a1_b.snd x3).fst → Q false) ∧ (qag a0_a a1_b Q x0 x1 x2 x3)) ∧ (((ix a0_a.snd x3).fst ≠ (ix a1_b.snd x3).fst → Q false) ∧ (qag a0_a a1_b Q x0 x1 x2 x3)) ∧ True) ∧ (((ix a0_a.snd x3).fst ≠ (ix a1_b.snd x3).fst → Q false) ∧ (qag a0_a a1_b Q x0 x1 x2 x3)) ∧ True)
def qcS (a0_a : Int × List (Int × ((List UInt8) × List UInt8) × List (List UInt8))) (a1_b : Int × List (Int × ((List UInt8) × List UInt8) × List (List UInt8))) (Q : Bool → Prop) (x0 : Bool → Int → Prop) (x1 : Bool → Int → Nat) (x2 : Bool) (x3 : Int) : Prop :=
 (((0 : Int) ≤ x3 ∧ x3 < (a0_a.snd.length : Int)) ∧ ((((ix a0_a.snd x3).fst ≠ (ix a1_b.snd x3).fst → Q false) ∧ (qag a0_a a1_b Q x0 x1 x2 x3)) ∧ (((ix a0_a.snd x3).fst ≠ (ix a1_b.snd x3).fst → Q false) ∧ (qag a0_a a1_b Q x0 x1 x2 x3)) ∧ True) ∧ (((ix a0_a.snd x3).fst ≠ (ix a1_b.snd x3).fst → Q false) ∧ (qag a0_a a1_b Q x0 x1 x2 x3)) ∧ True)
def qa6 (a0_a : Int × List (Int × ((List UInt8) × List UInt8) × List (List UInt8))) (a1_b : Int × List (Int × ((List UInt8) × List UInt8) × List (List UInt8))) (Q : Bool → Prop) (x0 : Bool → Int → Prop) (x1 : Bool → Int → Nat) (x2 : Bool) (x3 : Int) : Prop :=
 ((((ix a0_a.snd x3).fst ≠ (ix a1_b.snd x3).fst → Q false) ∧ (qag a0_a a1_b Q x0 x1 x2 x3)) ∧ ((((ix a0_a.snd x3).fst ≠ (ix a1_b.snd x3).fst → Q false) ∧ (qag a0_a a1_b Q x0 x1 x2 x3)) ∧ (((ix a0_a.snd x3).fst ≠ (ix a1_b.snd x3).fst → Q false) ∧ (qag a0_a a1_b Q x0 x1 x2 x3)) ∧ True) ∧ True)
def qb5 (a0_a : Int × List (Int × ((List UInt8) × List UInt8) × List (List UInt8))) (a1_b : Int × List (Int × ((List UInt8) × List UInt8) × List (List UInt8))) (Q : Bool → Prop) (x0 : Bool → Int → Prop) (x1 : Bool → Int → Nat) (x2 : Bool) (x3 : Int) : Prop :=
 (((((ix a0_a.snd x3).fst ≠ (ix a1_b.snd x3).fst → Q false) ∧ (qag a0_a a1_b Q x0 x1 x2 x3)) ∧ (((ix a0_a.snd x3).fst ≠ (ix a1_b.snd x3).fst → Q false) ∧ (qag a0_a a1_b Q x0 x1 x2 x3)) ∧ True) ∧ (((ix a0_a.snd x3).fst ≠ (ix a1_b.snd x3).fst → Q false) ∧ (qag a0_a a1_b Q x0 x1 x2 x3)) ∧ True)
def qdZ (a0_a : Int × List (Int × ((List UInt8) × List UInt8) × List (List UInt8))) (a1_b : Int × List (Int × ((List UInt8) × List UInt8) × List (List UInt8))) (Q : Bool → Prop) (x0 : Bool → Int → Prop) (x1 : Bool → Int → Nat) (x2 : Bool) (x3 : Int) : Prop :=
 (((0 : Int) ≤ x3 ∧ x3 < (a1_b.snd.length : Int)) ∧ (qa6 a0_a a1_b Q x0 x1 x2 x3) ∧ ((((ix a0_a.snd x3).fst ≠ (ix a1_b.snd x3).fst → Q false) ∧ (qag a0_a a1_b Q x0 x1 x2 x3)) ∧ (((ix a0_a.snd x3).fst ≠ (ix a1_b.snd x3).fst → Q false) ∧ (qag a0_a a1_b Q x0 x1 x2 x3)) ∧ True) ∧ (qb5 a0_a a1_b Q x0 x1 x2 x3) ∧ True)
def qd0 (a0_a : Int × List (Int × ((List UInt8) × List UInt8) × List (List UInt8))) (a1_b : Int × List (Int × ((List UInt8) × List UInt8) × List (List UInt8))) (Q : Bool → Prop) (x0 : Bool → Int → Prop) (x1 : Bool → Int → Nat) (x2 : Bool) (x3 : Int) : Prop :=
 (((0 : Int) ≤ x3 ∧ x3 < (a0_a.snd.length : Int)) ∧ (qa6 a0_a a1_b Q x0 x1 x2 x3) ∧ ((((ix a0_a.snd x3).fst ≠ (ix a1_b.snd x3).fst → Q false) ∧ (qag a0_a a1_b Q x0 x1 x2 x3)) ∧ (((ix a0_a.snd x3).fst ≠ (ix a1_b.snd x3).fst → Q false) ∧ (qag a0_a a1_b Q x0 x1 x2 x3)) ∧ True) ∧ (qb5 a0_a a1_b Q x0 x1 x2 x3) ∧ True)
def qgD (a0_a : Int × List (Int × ((List UInt8) × List UInt8) × List (List UInt8))) (a1_b : Int × List (Int × ((List UInt8) × List UInt8) × List (List UInt8))) (Q : Bool → Prop) (x0 : Bool → Int → Prop) (x1 : Bool → Int → Nat) (x2 : Bool) (x3 : Int) : Prop :=
 ((((0 : Int) ≤ x3 ∧ x3 < (a0_a.snd.length : Int)) ∧ (qcQ a0_a a1_b Q x0 x1 x2 x3) ∧ (qdZ a0_a a1_b Q x0 x1 x2 x3) ∧ ((qcO a0_a a1_b Q x0 x1 x2 x3) ∧ (qcR a0_a a1_b Q x0 x1 x2 x3) ∧ True) ∧ True) ∧ (((0 : Int) ≤ x3 ∧ x3 < (a1_b.snd.length : Int)) ∧ (qd0 a0_a a1_b Q x0 x1 x2 x3) ∧ (qcP a0_a a1_b Q x0 x1 x2 x3) ∧ ((qcS a0_a a1_b Q x0 x1 x2 x3) ∧ (((0 : Int) ≤ x3 ∧ x3 < (a0_a.snd.length : Int)) ∧ ((ix a0_a.snd x3).fst ≠ (ix a1_b.snd x3).fst → Q false) ∧ (qag a0_a a1_b Q x0 x1 x2 x3)) ∧ True) ∧ True) ∧ ((((0 : Int) ≤ x3 ∧ x3 < (a0_a.snd.length : Int)) ∧ (qcO a0_a a1_b Q x0 x1 x2 x3) ∧ (qcR a0_a a1_b Q x0 x1 x2 x3) ∧ True) ∧ (((0 : Int) ≤ x3 ∧ x3 < (a1_b.snd.length : Int)) ∧ (qcS a0_a a1_b Q x0 x1 x2 x3) ∧ (((0 : Int) ≤ x3 ∧ x3 < (a0_a.snd.length : Int)) ∧ ((ix a0_a.snd x3).fst ≠ (ix a1_b.snd x3).fst → Q false) ∧ (qag a0_a a1_b Q x0 x1 x2 x3)) ∧ True) ∧ True) ∧ True)
def qfk (a0_a : Int × List (Int × ((List UInt8) × List UInt8) × List (List UInt8))) (a1_b : Int × List (Int × ((List UInt8) × List UInt8) × List (List UInt8))) (Q : Bool → Prop) (x0 : Bool → Int → Prop) (x1 : Bool → Int → Nat) (x2 : Bool) (x3 : Int) : Prop :=
 (((((ix a0_a.snd x3).fst ≠ (ix a1_b.snd x3).fst → Q false) ∧ (qag a0_a a1_b Q x0 x1 x2 x3)) ∧ (((ix a0_a.snd x3).fst ≠ (ix a1_b.snd x3).fst → Q false) ∧ (qag a0_a a1_b Q x0 x1 x2 x3)) ∧ True) ∧ ((((ix a0_a.snd x3).fst ≠ (ix a1_b.snd x3).fst → Q false) ∧ (qag a0_a a1_b Q x0 x1 x2 x3)) ∧ (((ix a0_a.snd x3).fst ≠ (ix a1_b.snd x3).fst → Q false) ∧ (qag a0_a a1_b Q x0 x1 x2 x3)) ∧ True) ∧ ((((ix a0_a.snd x3).fst ≠ (ix a1_b.snd x3).fst → Q false) ∧ (qag a0_a a1_b Q x0 x1 x2 x3)) ∧ (((ix a0_a.snd x3).fst ≠ (ix a1_b.snd x3).fst → Q false) ∧ (qag a0_a a1_b Q x0 x1 x2 x3)) ∧ True) ∧ True)
noncomputable def qdY : Ctr := ⟨[.v (.pr (.int .i64) (.sl (.pr (.int .i64) (.pr (.pr (.sl .byte) (.sl .byte)) (.sl (.arr 32 .byte)))))), .v (.pr (.int .i64) (.sl (.pr (.int .i64) (.pr (.pr (.sl .byte) (.sl .byte)) (.sl (.arr 32 .byte))))))], [.v .bool], none, fun a => (fun (a0_a : Int × List (Int × ((List UInt8) × List UInt8) × List (List UInt8))) (a1_b : Int × List (Int × ((List UInt8) × List UInt8) × List (List UInt8))) => ((decide (a0_a = a1_b), ()), (()))) a.1 a.2.1⟩
noncomputable def qlO : Fx := ⟨seat, some bkT, fns, [(91, qfl)], [], [], [(6, [0, 1, 2, 3, 4, 5, 6, 7, 8, 9, 10, 11, 12], [.o 0 3, .o 2 3, .o 5 3, .o 7 3, .par [1, 3, 4, 6, 8, 9, 10, 11, 12] (.alt 1 1 (.one 3 3 (.alt 4 1 (.alt 6 1 (.one 8 3 (.alt 9 1 (.alt 10 0 (.one 11 0 (.one 12 1 .fin)) (.alt 11 0 (.one 10 0 (.one 12 1 .fin)) .fin)) (.alt 10 0 (.alt 9 1 (.one 11 0 (.one 12 1 .fin)) (.alt 11 0 (.alt 9 1 (.one 12 1 .fin) (.alt 12 1 (.one 9 1 .fin) .fin)) .fin)) (.alt 11 0 (.alt 9 1 (.one 10 0 (.one 12 1 .fin)) (.alt 10 0 (.alt 9 1 (.one 12 1 .fin) (.alt 12 1 (.one 9 1 .fin) .fin)) .fin)) .fin)))) (.alt 10 0 (.alt 6 1 (.one 8 3 (.alt 9 1 (.one 11 0 (.one 12 1 .fin)) (.alt 11 0 (.alt 9 1 (.one 12 1 .fin) (.alt 12 1 (.one 9 1 .fin) .fin)) .fin))) (.alt 11 0 (.alt 6 1 (.one 8 3 (.alt 9 1 (.one 12 1 .fin) (.alt 12 1 (.one 9 1 .fin) .fin))) (.alt 12 1 (.one 6 1 (.one 8 3 (.one 9 1 .fin))) .fin)) .fin)) (.alt 11 0 (.alt 6 1 (.one 8 3 (.alt 9 1 (.one 10 0 (.one 12 1 .fin)) (.alt 10 0 (.alt 9 1 (.one 12 1 .fin) (.alt 12 1 (.one 9 1 .fin) .fin)) .fin))) (.alt 10 0 (.alt 6 1 (.one 8 3 (.alt 9 1 (.one 12 1 .fin) (.alt 12 1 (.one 9 1 .fin) .fin))) (.alt 12 1 (.one 6 1 (.one 8 3 (.one 9 1 .fin))) .fin)) .fin)) .fin))) (.alt 6 1 (.one 8 3 (.alt 4 1 (.alt 9 1 (.alt 10 0 (.one 11 0 (.one 12 1 .fin)) (.alt 11 0 (.one 10 0 (.one 12 1 .fin)) .fin)) (.alt 10 0 (.alt 9 1 (.one 11 0 (.one 12 1 .fin)) (.alt 11 0 (.alt 9 1 (.one 12 1 .fin) (.alt 12 1 (.one 9 1 .fin) .fin)) .fin)) (.alt 11 0 (.alt 9 1 (.one 10 0 (.one 12 1 .fin)) (.alt 10 0 (.alt 9 1 (.one 12 1 .fin) (.alt 12 1 (.one 9 1 .fin) .fin)) .fin)) .fin))) (.alt 9 1 (.alt 4 1 (.alt 10 0 (.one 11 0 (.one 12 1 .fin)) (.alt 11 0 (.one 10 0 (.one 12 1 .fin)) .fin)) (.alt 10 0 (.alt 4 1 (.one 11 0 (.one 12 1 .fin)) (.alt 11 0 (.one 4 1 (.one 12 1 .fin)) .fin)) (.alt 11 0 (.alt 4 1 (.one 10 0 (.one 12 1 .fin)) (.alt 10 0 (.one 4 1 (.one 12 1 .fin)) .fin)) .fin))) (.alt 10 0 (.alt 4 1 (.alt 9 1 (.one 11 0 (.one 12 1 .fin)) (.alt 11 0 (.alt 9 1 (.one 12 1 .fin) (.alt 12 1 (.one 9 1 .fin) .fin)) .fin)) (.alt 9 1 (.alt 4 1 (.one 11 0 (.one 12 1 .fin)) (.alt 11 0 (.one 4 1 (.one 12 1 .fin)) .fin)) (.alt 11 0 (.alt 4 1 (.alt 9 1 (.one 12 1 .fin) (.alt 12 1 (.one 9 1 .fin) .fin)) (.alt 9 1 (.one 4 1 (.one 12 1 .fin)) .fin)) .fin))) (.alt 11 0 (.alt 4 1 (.alt 9 1 (.one 10 0 (.one 12 1 .fin)) (.alt 10 0 (.alt 9 1 (.one 12 1 .fin) (.alt 12 1 (.one 9 1 .fin) .fin)) .fin)) (.alt 9 1 (.alt 4 1 (.one 10 0 (.one 12 1 .fin)) (.alt 10 0 (.one 4 1 (.one 12 1 .fin)) .fin)) (.alt 10 0 (.alt 4 1 (.alt 9 1 (.one 12 1 .fin) (.alt 12 1 (.one 9 1 .fin) .fin)) (.alt 9 1 (.one 4 1 (.one 12 1 .fin)) .fin)) .fin))) .fin))))) (.alt 10 0 (.alt 4 1 (.alt 6 1 (.one 8 3 (.alt 9 1 (.one 11 0 (.one 12 1 .fin)) (.alt 11 0 (.alt 9 1 (.one 12 1 .fin) (.alt 12 1 (.one 9 1 .fin) .fin)) .fin))) (.alt 11 0 (.alt 6 1 (.one 8 3 (.alt 9 1 (.one 12 1 .fin) (.alt 12 1 (.one 9 1 .fin) .fin))) (.alt 12 1 (.one 6 1 (.one 8 3 (.one 9 1 .fin))) .fin)) .fin)) (.alt 6 1 (.one 8 3 (.alt 4 1 (.alt 9 1 (.one 11 0 (.one 12 1 .fin)) (.alt 11 0 (.alt 9 1 (.one 12 1 .fin) (.alt 12 1 (.one 9 1 .fin) .fin)) .fin)) (.alt 9 1 (.alt 4 1 (.one 11 0 (.one 12 1 .fin)) (.alt 11 0 (.one 4 1 (.one 12 1 .fin)) .fin)) (.alt 11 0 (.alt 4 1 (.alt 9 1 (.one 12 1 .fin) (.alt 12 1 (.one 9 1 .fin) .fin)) (.alt 9 1 (.one 4 1 (.one 12 1 .fin)) .fin)) .fin)))) (.alt 11 0 (.alt 4 1 (.alt 6 1 (.one 8 3 (.alt 9 1 (.one 12 1 .fin) (.alt 12 1 (.one 9 1 .fin) .fin))) (.alt 12 1 (.one 6 1 (.one 8 3 (.one 9 1 .fin))) .fin)) (.alt 6 1 (.one 8 3 (.alt 4 1 (.alt 9 1 (.one 12 1 .fin) (.alt 12 1 (.one 9 1 .fin) .fin)) (.alt 9 1 (.one 4 1 (.one 12 1 .fin)) .fin))) .fin)) .fin))) (.alt 11 0 (.alt 4 1 (.alt 6 1 (.one 8 3 (.alt 9 1 (.one 10 0 (.one 12 1 .fin)) (.alt 10 0 (.alt 9 1 (.one 12 1 .fin) (.alt 12 1 (.one 9 1 .fin) .fin)) .fin))) (.alt 10 0 (.alt 6 1 (.one 8 3 (.alt 9 1 (.one 12 1 .fin) (.alt 12 1 (.one 9 1 .fin) .fin))) (.alt 12 1 (.one 6 1 (.one 8 3 (.one 9 1 .fin))) .fin)) .fin)) (.alt 6 1 (.one 8 3 (.alt 4 1 (.alt 9 1 (.one 10 0 (.one 12 1 .fin)) (.alt 10 0 (.alt 9 1 (.one 12 1 .fin) (.alt 12 1 (.one 9 1 .fin) .fin)) .fin)) (.alt 9 1 (.alt 4 1 (.one 10 0 (.one 12 1 .fin)) (.alt 10 0 (.one 4 1 (.one 12 1 .fin)) .fin)) (.alt 10 0 (.alt 4 1 (.alt 9 1 (.one 12 1 .fin) (.alt 12 1 (.one 9 1 .fin) .fin)) (.alt 9 1 (.one 4 1 (.one 12 1 .fin)) .fin)) .fin)))) (.alt 10 0 (.alt 4 1 (.alt 6 1 (.one 8 3 (.alt 9 1 (.one 12 1 .fin) (.alt 12 1 (.one 9 1 .fin) .fin))) (.alt 12 1 (.one 6 1 (.one 8 3 (.one 9 1 .fin))) .fin)) (.alt 6 1 (.one 8 3 (.alt 4 1 (.alt 9 1 (.one 12 1 .fin) (.alt 12 1 (.one 9 1 .fin) .fin)) (.alt 9 1 (.one 4 1 (.one 12 1 .fin)) .fin))) .fin)) .fin))) .fin))))) (.alt 6 1 (.one 8 3 (.alt 1 1 (.one 3 3 (.alt 4 1 (.alt 9 1 (.alt 10 0 (.one 11 0 (.one 12 1 .fin)) (.alt 11 0 (.one 10 0 (.one 12 1 .fin)) .fin)) (.alt 10 0 (.alt 9 1 (.one 11 0 (.one 12 1 .fin)) (.alt 11 0 (.alt 9 1 (.one 12 1 .fin) (.alt 12 1 (.one 9 1 .fin) .fin)) .fin)) (.alt 11 0 (.alt 9 1 (.one 10 0 (.one 12 1 .fin)) (.alt 10 0 (.alt 9 1 (.one 12 1 .fin) (.alt 12 1 (.one 9 1 .fin) .fin)) .fin)) .fin))) (.alt 9 1 (.alt 4 1 (.alt 10 0 (.one 11 0 (.one 12 1 .fin)) (.alt 11 0 (.one 10 0 (.one 12 1 .fin)) .fin)) (.alt 10 0 (.alt 4 1 (.one 11 0 (.one 12 1 .fin)) (.alt 11 0 (.one 4 1 (.one 12 1 .fin)) .fin)) (.alt 11 0 (.alt 4 1 (.one 10 0 (.one 12 1 .fin)) (.alt 10 0 (.one 4 1 (.one 12 1 .fin)) .fin)) .fin))) (.alt 10 0 (.alt 4 1 (.alt 9 1 (.one 11 0 (.one 12 1 .fin)) (.alt 11 0 (.alt 9 1 (.one 12 1 .fin) (.alt 12 1 (.one 9 1 .fin) .fin)) .fin)) (.alt 9 1 (.alt 4 1 (.one 11 0 (.one 12 1 .fin)) (.alt 11 0 (.one 4 1 (.one 12 1 .fin)) .fin)) (.alt 11 0 (.alt 4 1 (.alt 9 1 (.one 12 1 .fin) (.alt 12 1 (.one 9 1 .fin) .fin)) (.alt 9 1 (.one 4 1 (.one 12 1 .fin)) .fin)) .fin))) (.alt 11 0 (.alt 4 1 (.alt 9 1 (.one 10 0 (.one 12 1 .fin)) (.alt 10 0 (.alt 9 1 (.one 12 1 .fin) (.alt 12 1 (.one 9 1 .fin) .fin)) .fin)) (.alt 9 1 (.alt 4 1 (.one 10 0 (.one 12 1 .fin)) (.alt 10 0 (.one 4 1 (.one 12 1 .fin)) .fin)) (.alt 10 0 (.alt 4 1 (.alt 9 1 (.one 12 1 .fin) (.alt 12 1 (.one 9 1 .fin) .fin)) (.alt 9 1 (.one 4 1 (.one 12 1 .fin)) .fin)) .fin))) .fin))))) (.alt 9 1 (.alt 1 1 (.one 3 3 (.alt 4 1 (.alt 10 0 (.one 11 0 (.one 12 1 .fin)) (.alt 11 0 (.one 10 0 (.one 12 1 .fin)) .fin)) (.alt 10 0 (.alt 4 1 (.one 11 0 (.one 12 1 .fin)) (.alt 11 0 (.one 4 1 (.one 12 1 .fin)) .fin)) (.alt 11 0 (.alt 4 1 (.one 10 0 (.one 12 1 .fin)) (.alt 10 0 (.one 4 1 (.one 12 1 .fin)) .fin)) .fin)))) (.alt 10 0 (.alt 1 1 (.one 3 3 (.alt 4 1 (.one 11 0 (.one 12 1 .fin)) (.alt 11 0 (.one 4 1 (.one 12 1 .fin)) .fin))) (.alt 11 0 (.one 1 1 (.one 3 3 (.one 4 1 (.one 12 1 .fin)))) .fin)) (.alt 11 0 (.alt 1 1 (.one 3 3 (.alt 4 1 (.one 10 0 (.one 12 1 .fin)) (.alt 10 0 (.one 4 1 (.one 12 1 .fin)) .fin))) (.alt 10 0 (.one 1 1 (.one 3 3 (.one 4 1 (.one 12 1 .fin)))) .fin)) .fin))) (.alt 10 0 (.alt 1 1 (.one 3 3 (.alt 4 1 (.alt 9 1 (.one 11 0 (.one 12 1 .fin)) (.alt 11 0 (.alt 9 1 (.one 12 1 .fin) (.alt 12 1 (.one 9 1 .fin) .fin)) .fin)) (.alt 9 1 (.alt 4 1 (.one 11 0 (.one 12 1 .fin)) (.alt 11 0 (.one 4 1 (.one 12 1 .fin)) .fin)) (.alt 11 0 (.alt 4 1 (.alt 9 1 (.one 12 1 .fin) (.alt 12 1 (.one 9 1 .fin) .fin)) (.alt 9 1 (.one 4 1 (.one 12 1 .fin)) .fin)) .fin)))) (.alt 9 1 (.alt 1 1 (.one 3 3 (.alt 4 1 (.one 11 0 (.one 12 1 .fin)) (.alt 11 0 (.one 4 1 (.one 12 1 .fin)) .fin))) (.alt 11 0 (.one 1 1 (.one 3 3 (.one 4 1 (.one 12 1 .fin)))) .fin)) (.alt 11 0 (.alt 1 1 (.one 3 3 (.alt 4 1 (.alt 9 1 (.one 12 1 .fin) (.alt 12 1 (.one 9 1 .fin) .fin)) (.alt 9 1 (.one 4 1 (.one 12 1 .fin)) .fin))) (.alt 9 1 (.one 1 1 (.one 3 3 (.one 4 1 (.one 12 1 .fin)))) .fin)) .fin))) (.alt 11 0 (.alt 1 1 (.one 3 3 (.alt 4 1 (.alt 9 1 (.one 10 0 (.one 12 1 .fin)) (.alt 10 0 (.alt 9 1 (.one 12 1 .fin) (.alt 12 1 (.one 9 1 .fin) .fin)) .fin)) (.alt 9 1 (.alt 4 1 (.one 10 0 (.one 12 1 .fin)) (.alt 10 0 (.one 4 1 (.one 12 1 .fin)) .fin)) (.alt 10 0 (.alt 4 1 (.alt 9 1 (.one 12 1 .fin) (.alt 12 1 (.one 9 1 .fin) .fin)) (.alt 9 1 (.one 4 1 (.one 12 1 .fin)) .fin)) .fin)))) (.alt 9 1 (.alt 1 1 (.one 3 3 (.alt 4 1 (.one 10 0 (.one 12 1 .fin)) (.alt 10 0 (.one 4 1 (.one 12 1 .fin)) .fin))) (.alt 10 0 (.one 1 1 (.one 3 3 (.one 4 1 (.one 12 1 .fin)))) .fin)) (.alt 10 0 (.alt 1 1 (.one 3 3 (.alt 4 1 (.alt 9 1 (.one 12 1 .fin) (.alt 12 1 (.one 9 1 .fin) .fin)) (.alt 9 1 (.one 4 1 (.one 12 1 .fin)) .fin))) (.alt 9 1 (.one 1 1 (.one 3 3 (.one 4 1 (.one 12 1 .fin)))) .fin)) .fin))) .fin))))) (.alt 10 0 (.alt 1 1 (.one 3 3 (.alt 4 1 (.alt 6 1 (.one 8 3 (.alt 9 1 (.one 11 0 (.one 12 1 .fin)) (.alt 11 0 (.alt 9 1 (.one 12 1 .fin) (.alt 12 1 (.one 9 1 .fin) .fin)) .fin))) (.alt 11 0 (.alt 6 1 (.one 8 3 (.alt 9 1 (.one 12 1 .fin) (.alt 12 1 (.one 9 1 .fin) .fin))) (.alt 12 1 (.one 6 1 (.one 8 3 (.one 9 1 .fin))) .fin)) .fin)) (.alt 6 1 (.one 8 3 (.alt 4 1 (.alt 9 1 (.one 11 0 (.one 12 1 .fin)) (.alt 11 0 (.alt 9 1 (.one 12 1 .fin) (.alt 12 1 (.one 9 1 .fin) .fin)) .fin)) (.alt 9 1 (.alt 4 1 (.one 11 0 (.one 12 1 .fin)) (.alt 11 0 (.one 4 1 (.one 12 1 .fin)) .fin)) (.alt 11 0 (.alt 4 1 (.alt 9 1 (.one 12 1 .fin) (.alt 12 1 (.one 9 1 .fin) .fin)) (.alt 9 1 (.one 4 1 (.one 12 1 .fin)) .fin)) .fin)))) (.alt 11 0 (.alt 4 1 (.alt 6 1 (.one 8 3 (.alt 9 1 (.one 12 1 .fin) (.alt 12 1 (.one 9 1 .fin) .fin))) (.alt 12 1 (.one 6 1 (.one 8 3 (.one 9 1 .fin))) .fin)) (.alt 6 1 (.one 8 3 (.alt 4 1 (.alt 9 1 (.one 12 1 .fin) (.alt 12 1 (.one 9 1 .fin) .fin)) (.alt 9 1 (.one 4 1 (.one 12 1 .fin)) .fin))) .fin)) .fin)))) (.alt 6 1 (.one 8 3 (.alt 1 1 (.one 3 3 (.alt 4 1 (.alt 9 1 (.one 11 0 (.one 12 1 .fin)) (.alt 11 0 (.alt 9 1 (.one 12 1 .fin) (.alt 12 1 (.one 9 1 .fin) .fin)) .fin)) (.alt 9 1 (.alt 4 1 (.one 11 0 (.one 12 1 .fin)) (.alt 11 0 (.one 4 1 (.one 12 1 .fin)) .fin)) (.alt 11 0 (.alt 4 1 (.alt 9 1 (.one 12 1 .fin) (.alt 12 1 (.one 9 1 .fin) .fin)) (.alt 9 1 (.one 4 1 (.one 12 1 .fin)) .fin)) .fin)))) (.alt 9 1 (.alt 1 1 (.one 3 3 (.alt 4 1 (.one 11 0 (.one 12 1 .fin)) (.alt 11 0 (.one 4 1 (.one 12 1 .fin)) .fin))) (.alt 11 0 (.one 1 1 (.one 3 3 (.one 4 1 (.one 12 1 .fin)))) .fin)) (.alt 11 0 (.alt 1 1 (.one 3 3 (.alt 4 1 (.alt 9 1 (.one 12 1 .fin) (.alt 12 1 (.one 9 1 .fin) .fin)) (.alt 9 1 (.one 4 1 (.one 12 1 .fin)) .fin))) (.alt 9 1 (.one 1 1 (.one 3 3 (.one 4 1 (.one 12 1 .fin)))) .fin)) .fin)))) (.alt 11 0 (.alt 1 1 (.one 3 3 (.alt 4 1 (.alt 6 1 (.one 8 3 (.alt 9 1 (.one 12 1 .fin) (.alt 12 1 (.one 9 1 .fin) .fin))) (.alt 12 1 (.one 6 1 (.one 8 3 (.one 9 1 .fin))) .fin)) (.alt 6 1 (.one 8 3 (.alt 4 1 (.alt 9 1 (.one 12 1 .fin) (.alt 12 1 (.one 9 1 .fin) .fin)) (.alt 9 1 (.one 4 1 (.one 12 1 .fin)) .fin))) .fin))) (.alt 6 1 (.one 8 3 (.alt 1 1 (.one 3 3 (.alt 4 1 (.alt 9 1 (.one 12 1 .fin) (.alt 12 1 (.one 9 1 .fin) .fin)) (.alt 9 1 (.one 4 1 (.one 12 1 .fin)) .fin))) (.alt 9 1 (.one 1 1 (.one 3 3 (.one 4 1 (.one 12 1 .fin)))) .fin))) .fin)) .fin))) (.alt 11 0 (.alt 1 1 (.one 3 3 (.alt 4 1 (.alt 6 1 (.one 8 3 (.alt 9 1 (.one 10 0 (.one 12 1 .fin)) (.alt 10 0 (.alt 9 1 (.one 12 1 .fin) (.alt 12 1 (.one 9 1 .fin) .fin)) .fin))) (.alt 10 0 (.alt 6 1 (.one 8 3 (.alt 9 1 (.one 12 1 .fin) (.alt 12 1 (.one 9 1 .fin) .fin))) (.alt 12 1 (.one 6 1 (.one 8 3 (.one 9 1 .fin))) .fin)) .fin)) (.alt 6 1 (.one 8 3 (.alt 4 1 (.alt 9 1 (.one 10 0 (.one 12 1 .fin)) (.alt 10 0 (.alt 9 1 (.one 12 1 .fin) (.alt 12 1 (.one 9 1 .fin) .fin)) .fin)) (.alt 9 1 (.alt 4 1 (.one 10 0 (.one 12 1 .fin)) (.alt 10 0 (.one 4 1 (.one 12 1 .fin)) .fin)) (.alt 10 0 (.alt 4 1 (.alt 9 1 (.one 12 1 .fin) (.alt 12 1 (.one 9 1 .fin) .fin)) (.alt 9 1 (.one 4 1 (.one 12 1 .fin)) .fin)) .fin)))) (.alt 10 0 (.alt 4 1 (.alt 6 1 (.one 8 3 (.alt 9 1 (.one 12 1 .fin) (.alt 12 1 (.one 9 1 .fin) .fin))) (.alt 12 1 (.one 6 1 (.one 8 3 (.one 9 1 .fin))) .fin)) (.alt 6 1 (.one 8 3 (.alt 4 1 (.alt 9 1 (.one 12 1 .fin) (.alt 12 1 (.one 9 1 .fin) .fin)) (.alt 9 1 (.one 4 1 (.one 12 1 .fin)) .fin))) .fin)) .fin)))) (.alt 6 1 (.one 8 3 (.alt 1 1 (.one 3 3 (.alt 4 1 (.alt 9 1 (.one 10 0 (.one 12 1 .fin)) (.alt 10 0 (.alt 9 1 (.one 12 1 .fin) (.alt 12 1 (.one 9 1 .fin) .fin)) .fin)) (.alt 9 1 (.alt 4 1 (.one 10 0 (.one 12 1 .fin)) (.alt 10 0 (.one 4 1 (.one 12 1 .fin)) .fin)) (.alt 10 0 (.alt 4 1 (.alt 9 1 (.one 12 1 .fin) (.alt 12 1 (.one 9 1 .fin) .fin)) (.alt 9 1 (.one 4 1 (.one 12 1 .fin)) .fin)) .fin)))) (.alt 9 1 (.alt 1 1 (.one 3 3 (.alt 4 1 (.one 10 0 (.one 12 1 .fin)) (.alt 10 0 (.one 4 1 (.one 12 1 .fin)) .fin))) (.alt 10 0 (.one 1 1 (.one 3 3 (.one 4 1 (.one 12 1 .fin)))) .fin)) (.alt 10 0 (.alt 1 1 (.one 3 3 (.alt 4 1 (.alt 9 1 (.one 12 1 .fin) (.alt 12 1 (.one 9 1 .fin) .fin)) (.alt 9 1 (.one 4 1 (.one 12 1 .fin)) .fin))) (.alt 9 1 (.one 1 1 (.one 3 3 (.one 4 1 (.one 12 1 .fin)))) .fin)) .fin)))) (.alt 10 0 (.alt 1 1 (.one 3 3 (.alt 4 1 (.alt 6 1 (.one 8 3 (.alt 9 1 (.one 12 1 .fin) (.alt 12 1 (.one 9 1 .fin) .fin))) (.alt 12 1 (.one 6 1 (.one 8 3 (.one 9 1 .fin))) .fin)) (.alt 6 1 (.one 8 3 (.alt 4 1 (.alt 9 1 (.one 12 1 .fin) (.alt 12 1 (.one 9 1 .fin) .fin)) (.alt 9 1 (.one 4 1 (.one 12 1 .fin)) .fin))) .fin))) (.alt 6 1 (.one 8 3 (.alt 1 1 (.one 3 3 (.alt 4 1 (.alt 9 1 (.one 12 1 .fin) (.alt 12 1 (.one 9 1 .fin) .fin)) (.alt 9 1 (.one 4 1 (.one 12 1 .fin)) .fin))) (.alt 9 1 (.one 1 1 (.one 3 3 (.one 4 1 (.one 12 1 .fin)))) .fin))) .fin)) .fin))) .fin)))), .o 13 1])]⟩
def qeL (a0_a : Int × List (Int × ((List UInt8) × List UInt8) × List (List UInt8))) (a1_b : Int × List (Int × ((List UInt8) × List UInt8) × List (List UInt8))) (Q : Bool → Prop) : Prop :=
 (a0_a.fst ≠ a1_b.fst → Q false) ∧ (¬a0_a.fst ≠ a1_b.fst → ((a0_a.snd.length : Int) ≠ (a1_b.snd.length : Int) → Q false) ∧ (¬(a0_a.snd.length : Int) ≠ (a1_b.snd.length : Int) → ∃ (x0 : Bool → Int → Prop), ∃ (x1 : Bool → Int → Nat), x0 false (0 : Int) ∧ ∀ (x2 : Bool) (x3 : Int), x0 x2 x3 → (Kd.int IntKind.i64).wf x3 → (x3 < (a0_a.snd.length : Int) → (((0 : Int) ≤ x3 ∧ x3 < (a0_a.snd.length : Int)) ∧ ((((0 : Int) ≤ x3 ∧ x3 < (a1_b.snd.length : Int)) ∧ ((((ix a0_a.snd x3).fst ≠ (ix a1_b.snd x3).fst → Q false) ∧ (qag a0_a a1_b Q x0 x1 x2 x3)) ∧ (((ix a0_a.snd x3).fst ≠ (ix a1_b.snd x3).fst → Q false) ∧ (qag a0_a a1_b Q x0 x1 x2 x3)) ∧ True) ∧ (qa6 a0_a a1_b Q x0 x1 x2 x3) ∧ (qa6 a0_a a1_b Q x0 x1 x2 x3) ∧ True) ∧ (qcQ a0_a a1_b Q x0 x1 x2 x3) ∧ (qcQ a0_a a1_b Q x0 x1 x2 x3) ∧ True) ∧ (((0 : Int) ≤ x3 ∧ x3 < (a1_b.snd.length : Int)) ∧ (((((ix a0_a.snd x3).fst ≠ (ix a1_b.snd x3).fst → Q false) ∧ (qag a0_a a1_b Q x0 x1 x2 x3)) ∧ (((ix a0_a.snd x3).fst ≠ (ix a1_b.snd x3).fst → Q false) ∧ (qag a0_a a1_b Q x0 x1 x2 x3)) ∧ True) ∧ (qa6 a0_a a1_b Q x0 x1 x2 x3) ∧ (qa6 a0_a a1_b Q x0 x1 x2 x3) ∧ True) ∧ (qfk a0_a a1_b Q x0 x1 x2 x3) ∧ ((qa6 a0_a a1_b Q x0 x1 x2 x3) ∧ ((((ix a0_a.snd x3).fst ≠ (ix a1_b.snd x3).fst → Q false) ∧ (qag a0_a a1_b Q x0 x1 x2 x3)) ∧ (((ix a0_a.snd x3).fst ≠ (ix a1_b.snd x3).fst → Q false) ∧ (qag a0_a a1_b Q x0 x1 x2 x3)) ∧ True) ∧ (qb5 a0_a a1_b Q x0 x1 x2 x3) ∧ True) ∧ ((qa6 a0_a a1_b Q x0 x1 x2 x3) ∧ ((((ix a0_a.snd x3).fst ≠ (ix a1_b.snd x3).fst → Q false) ∧ (qag a0_a a1_b Q x0 x1 x2 x3)) ∧ (((ix a0_a.snd x3).fst ≠ (ix a1_b.snd x3).fst → Q false) ∧ (qag a0_a a1_b Q x0 x1 x2 x3)) ∧ True) ∧ (qb5 a0_a a1_b Q x0 x1 x2 x3) ∧ True) ∧ True) ∧ ((qcQ a0_a a1_b Q x0 x1 x2 x3) ∧ (qdZ a0_a a1_b Q x0 x1 x2 x3) ∧ ((qcO a0_a a1_b Q x0 x1 x2 x3) ∧ (qcR a0_a a1_b Q x0 x1 x2 x3) ∧ True) ∧ True) ∧ ((qcQ a0_a a1_b Q x0 x1 x2 x3) ∧ (qdZ a0_a a1_b Q x0 x1 x2 x3) ∧ ((qcO a0_a a1_b Q x0 x1 x2 x3) ∧ (qcR a0_a a1_b Q x0 x1 x2 x3) ∧ True) ∧ True) ∧ True) ∧ (((0 : Int) ≤ x3 ∧ x3 < (a1_b.snd.length : Int)) ∧ (((0 : Int) ≤ x3 ∧ x3 < (a0_a.snd.length : Int)) ∧ (((((ix a0_a.snd x3).fst ≠ (ix a1_b.snd x3).fst → Q false) ∧ (qag a0_a a1_b Q x0 x1 x2 x3)) ∧ (((ix a0_a.snd x3).fst ≠ (ix a1_b.snd x3).fst → Q false) ∧ (qag a0_a a1_b Q x0 x1 x2 x3)) ∧ True) ∧ (qa6 a0_a a1_b Q x0 x1 x2 x3) ∧ (qa6 a0_a a1_b Q x0 x1 x2 x3) ∧ True) ∧ (qfk a0_a a1_b Q x0 x1 x2 x3) ∧ ((qa6 a0_a a1_b Q x0 x1 x2 x3) ∧ ((((ix a0_a.snd x3).fst ≠ (ix a1_b.snd x3).fst → Q false) ∧ (qag a0_a a1_b Q x0 x1 x2 x3)) ∧ (((ix a0_a.snd x3).fst ≠ (ix a1_b.snd x3).fst → Q false) ∧ (qag a0_a a1_b Q x0 x1 x2 x3)) ∧ True) ∧ (qb5 a0_a a1_b Q x0 x1 x2 x3) ∧ True) ∧ ((qa6 a0_a a1_b Q x0 x1 x2 x3) ∧ ((((ix a0_a.snd x3).fst ≠ (ix a1_b.snd x3).fst → Q false) ∧ (qag a0_a a1_b Q x0 x1 x2 x3)) ∧ (((ix a0_a.snd x3).fst ≠ (ix a1_b.snd x3).fst → Q false) ∧ (qag a0_a a1_b Q x0 x1 x2 x3)) ∧ True) ∧ (qb5 a0_a a1_b Q x0 x1 x2 x3) ∧ True) ∧ True) ∧ ((((0 : Int) ≤ x3 ∧ x3 < (a0_a.snd.length : Int)) ∧ ((((ix a0_a.snd x3).fst ≠ (ix a1_b.snd x3).fst → Q false) ∧ (qag a0_a a1_b Q x0 x1 x2 x3)) ∧ (((ix a0_a.snd x3).fst ≠ (ix a1_b.snd x3).fst → Q false) ∧ (qag a0_a a1_b Q x0 x1 x2 x3)) ∧ True) ∧ ((((ix a0_a.snd x3).fst ≠ (ix a1_b.snd x3).fst → Q false) ∧ (qag a0_a a1_b Q x0 x1 x2 x3)) ∧ (((ix a0_a.snd x3).fst ≠ (ix a1_b.snd x3).fst → Q false) ∧ (qag a0_a a1_b Q x0 x1 x2 x3)) ∧ True) ∧ ((((ix a0_a.snd x3).fst ≠ (ix a1_b.snd x3).fst → Q false) ∧ (qag a0_a a1_b Q x0 x1 x2 x3)) ∧ (((ix a0_a.snd x3).fst ≠ (ix a1_b.snd x3).fst → Q false) ∧ (qag a0_a a1_b Q x0 x1 x2 x3)) ∧ True) ∧ True) ∧ (qcP a0_a a1_b Q x0 x1 x2 x3) ∧ (qcP a0_a a1_b Q x0 x1 x2 x3) ∧ True) ∧ ((qd0 a0_a a1_b Q x0 x1 x2 x3) ∧ (qcP a0_a a1_b Q x0 x1 x2 x3) ∧ ((qcS a0_a a1_b Q x0 x1 x2 x3) ∧ (((0 : Int) ≤ x3 ∧ x3 < (a0_a.snd.length : Int)) ∧ ((ix a0_a.snd x3).fst ≠ (ix a1_b.snd x3).fst → Q false) ∧ (qag a0_a a1_b Q x0 x1 x2 x3)) ∧ True) ∧ True) ∧ ((qd0 a0_a a1_b Q x0 x1 x2 x3) ∧ (qcP a0_a a1_b Q x0 x1 x2 x3) ∧ ((qcS a0_a a1_b Q x0 x1 x2 x3) ∧ (((0 : Int) ≤ x3 ∧ x3 < (a0_a.snd.length : Int)) ∧ ((ix a0_a.snd x3).fst ≠ (ix a1_b.snd x3).fst → Q false) ∧ (qag a0_a a1_b Q x0 x1 x2 x3)) ∧ True) ∧ True) ∧ True) ∧ (qgD a0_a a1_b Q x0 x1 x2 x3) ∧ (qgD a0_a a1_b Q x0 x1 x2 x3) ∧ True) ∧ (¬x3 < (a0_a.snd.length : Int) → Q true)))
theorem qoj {a0_a : Int × List (Int × ((List UInt8) × List UInt8) × List (List UInt8))} {a1_b : Int × List (Int × ((List UInt8) × List UInt8) × List (List UInt8))} (w_0 : (Ty.kd (.pr (.int .i64) (.sl (.pr (.int .i64) (.pr (.pr (.sl .byte) (.sl .byte)) (.sl (.arr 32 .byte))))))).wf a0_a) (w_1 : (Ty.kd (.pr (.int .i64) (.sl (.pr (.int .i64) (.pr (.pr (.sl .byte) (.sl .byte)) (.sl (.arr 32 .byte))))))).wf a1_b) : qeL a0_a a1_b (fun o0 => o0 = decide (a0_a = a1_b)) := by
 show qeL a0_a a1_b (fun o0 => o0 = decide (a0_a = a1_b))
 unfold qeL
 refine ⟨fun h => (decide_eq_false fun e => h (congrArg Prod.fst e)).symm, fun h1 => ⟨fun h => (decide_eq_false fun e => h (by rw [e])).symm, fun h2 => ?_⟩⟩
 have hn : a0_a.1 = a1_b.1 := Classical.not_not.1 h1
 have hl : a0_a.2.length = a1_b.2.length := by
  have : (a0_a.2.length : Int) = (a1_b.2.length : Int) := Classical.not_not.1 h2
  omega
 refine ⟨fun _ i => ∃ j : Nat, i = (j : Int) ∧ j ≤ a0_a.2.length ∧ ∀ k : Nat, k < j → ix a0_a.2 (k : Int) = ix a1_b.2 (k : Int), fun _ i => ((a0_a.2.length : Int) - i).toNat, ⟨0, rfl, Nat.zero_le _, fun k h => absurd h (Nat.not_lt_zero _)⟩, ?_⟩
 rintro x2 _ ⟨j, rfl, hj, hI⟩ _
 have end_ : ¬ (j : Int) < (a0_a.2.length : Int) → true = decide (a0_a = a1_b) := fun h => by
  refine (decide_eq_true (Prod.ext hn ?_)).symm
  exact List.ext_getElem hl fun k h1 h2 => by
   have := hI k (by omega)
   rwa [ixN h1, ixN h2] at this
 have step : (j : Int) < (a0_a.2.length : Int) → ∀ (Q : Bool → Prop) (x0 : Bool → Int → Prop) (x1 : Bool → Int → Nat), (∀ b, b = decide (a0_a = a1_b) → Q b) →
  (x0 = fun _ i => ∃ j : Nat, i = (j : Int) ∧ j ≤ a0_a.2.length ∧ ∀ k : Nat, k < j → ix a0_a.2 (k : Int) = ix a1_b.2 (k : Int)) → (x1 = fun _ i => ((a0_a.2.length : Int) - i).toNat) →
  (((ix a0_a.2 (j : Int)).1 ≠ (ix a1_b.2 (j : Int)).1 → Q false) ∧ qag a0_a a1_b Q x0 x1 x2 (j : Int)) := fun hlt Q x0 x1 hQ e0 e1 => by
  have bad : ix a0_a.2 (j : Int) ≠ ix a1_b.2 (j : Int) → Q false := fun h => hQ _ (decide_eq_false fun e => h (by rw [e])).symm
  refine ⟨fun h => bad fun e => h (congrArg Prod.fst e), ?_⟩
  unfold qag
  refine fun g1 => ⟨fun h => bad fun e => h (by rw [e]), fun g2 => ⟨fun h => bad fun e => h (by rw [e]), fun g3 => ⟨fun h => bad fun e => h (decide_eq_true (by rw [e])), fun g4 => ?_⟩⟩⟩
  have e : ix a0_a.2 (j : Int) = ix a1_b.2 (j : Int) := Prod.ext (Classical.not_not.1 g1) (Prod.ext (Prod.ext (Classical.not_not.1 g2) (Classical.not_not.1 g3)) (of_decide_eq_true g4))
  rw [e0, e1]
  refine ⟨by have : a0_a.2.length ≤ LM := w_0.2.1; unfold LM at this; omega, ⟨j + 1, rfl, by omega, fun k hk => ?_⟩, by dsimp only; omega⟩
  rcases Nat.lt_or_ge k j with h | h
  ·exact hI k h
  ·obtain rfl : k = j := by omega
   exact e
 refine ⟨fun hlt => ?_, end_⟩
 have base := step hlt _ _ _ (fun b h => h) rfl rfl
 have b0 : (0 : Int) ≤ (j : Int) ∧ (j : Int) < (a0_a.2.length : Int) := ⟨by omega, hlt⟩
 have b1 : (0 : Int) ≤ (j : Int) ∧ (j : Int) < (a1_b.2.length : Int) := ⟨by omega, by omega⟩
 clear step end_ hI
 generalize (fun (_ : Bool) (i : Int) => ∃ j : Nat, i = (j : Int) ∧ j ≤ a0_a.2.length ∧ ∀ k : Nat, k < j → ix a0_a.2 (k : Int) = ix a1_b.2 (k : Int)) = x0 at base ⊢
 generalize (fun (_ : Bool) (i : Int) => ((a0_a.2.length : Int) - i).toNat) = x1 at base ⊢
 have k3 : qa6 a0_a a1_b (fun b => b = decide (a0_a = a1_b)) x0 x1 x2 (j : Int) := ⟨base, ⟨base, base, trivial⟩, trivial⟩
 have k4 : qcO a0_a a1_b (fun b => b = decide (a0_a = a1_b)) x0 x1 x2 (j : Int) := ⟨⟨b1, base, base, trivial⟩, ⟨b1, base⟩, trivial⟩
 have k5 : qb5 a0_a a1_b (fun b => b = decide (a0_a = a1_b)) x0 x1 x2 (j : Int) := by
  unfold qb5
  repeat' (first | exact base | exact b0 | exact b1 | exact trivial | refine ⟨?_, ?_⟩)
 have k6 : qcP a0_a a1_b (fun b => b = decide (a0_a = a1_b)) x0 x1 x2 (j : Int) := ⟨⟨b0, base, base, trivial⟩, ⟨b0, base⟩, trivial⟩
 have k7 : qcQ a0_a a1_b (fun b => b = decide (a0_a = a1_b)) x0 x1 x2 (j : Int) := ⟨⟨b1, base, ⟨base, base, trivial⟩, trivial⟩, k4, trivial⟩
 have k8 : qcR a0_a a1_b (fun b => b = decide (a0_a = a1_b)) x0 x1 x2 (j : Int) := by
  unfold qcR
  repeat' (first | exact base | exact b0 | exact b1 | exact trivial | refine ⟨?_, ?_⟩)
 have k9 : qcS a0_a a1_b (fun b => b = decide (a0_a = a1_b)) x0 x1 x2 (j : Int) := by
  unfold qcS
  repeat' (first | exact base | exact b0 | exact b1 | exact trivial | refine ⟨?_, ?_⟩)
 have b2 := And.intro base (And.intro base trivial)
 have k10 : qdZ a0_a a1_b (fun b => b = decide (a0_a = a1_b)) x0 x1 x2 (j : Int) := ⟨b1, k3, b2, k5, trivial⟩
 have k11 : qd0 a0_a a1_b (fun b => b = decide (a0_a = a1_b)) x0 x1 x2 (j : Int) := ⟨b0, k3, b2, k5, trivial⟩
 have k2 : qgD a0_a a1_b (fun b => b = decide (a0_a = a1_b)) x0 x1 x2 (j : Int) := ⟨⟨b0, k7, k10, ⟨k4, k8, trivial⟩, trivial⟩, ⟨b1, k11, k6, ⟨k9, ⟨b0, base⟩, trivial⟩, trivial⟩, ⟨⟨b0, k4, k8, trivial⟩, ⟨b1, k9, ⟨b0, base⟩, trivial⟩, trivial⟩, trivial⟩
 have k12 : qfk a0_a a1_b (fun b => b = decide (a0_a = a1_b)) x0 x1 x2 (j : Int) := ⟨b2, b2, b2, trivial⟩
 repeat' (first | exact base | exact b0 | exact b1 | exact trivial | exact k3 | exact k4 | exact k5 | exact k6 | exact k7 | exact k8 | exact k9 | exact k10 | exact k11 | exact k2 | exact k12 | refine ⟨?_, ?_⟩)
theorem qoi : (∀ a, qdY.pre a → PM.wfP qdY.pm a (fvc qlO 200 39 qdY a (eqO qdY a))) = (∀ a : (Int × List (Int × ((List UInt8) × List UInt8) × List (List UInt8))) × (Int × List (Int × ((List UInt8) × List UInt8) × List (List UInt8))) × Unit, True → (Ty.kd (.pr (.int .i64) (.sl (.pr (.int .i64) (.pr (.pr (.sl .byte) (.sl .byte)) (.sl (.arr 32 .byte))))))).wf a.1 → (Ty.kd (.pr (.int .i64) (.sl (.pr (.int .i64) (.pr (.pr (.sl .byte) (.sl .byte)) (.sl (.arr 32 .byte))))))).wf a.2.1 → qeL a.1 a.2.1 (fun o0 => o0 = decide ((a.1) = (a.2.1)))) := by kernel_rfl
theorem qrd : qdY.valid Try.prog 39 := qar (X := qlO) (qaH qai (fun b hb => by cases hb; exact qap) qaq ⟨qt2, trivial⟩) 200 (qoi.mpr fun a hp w_0 w_1 => @qoj a.1 a.2.1 w_0 w_1)
noncomputable def qdW : Ctr := ⟨[.v (.sl (.pr (.sl .byte) (.sl .byte)))], [.ow 57 (.pr (.sl .byte) (.sl .byte))], some (fun a => (fun (a0_l : List ((List UInt8) × List UInt8)) => (a0_l.length ≤ 65536 ∧ (∀ p ∈ a0_l, p.1.length + p.2.length ≤ 35184372088832) : Prop)) a.1), fun a => (fun (a0_l : List ((List UInt8) × List UInt8)) => ((a0_l, ()), (()))) a.1⟩
noncomputable def qlM : Fx := ⟨seat, some bkT, fns, [], [], [], [(5, [1], [.o 0 3, .o 2 3, .o 3 3, .o 4 3, .o 5 3, .o 6 3, .o 9 3, .o 10 3, .o 11 3, .o 12 3, .o 13 3, .par [1, 7, 8] (.alt 1 1 (.alt 7 1 (.one 8 1 .fin) (.alt 8 1 (.one 7 1 .fin) .fin)) (.alt 8 1 (.one 1 1 (.one 7 1 .fin)) .fin)), .o 14 1, .o 15 3, .o 16 1, .o 17 1, .o 18 3])]⟩
def qgB (a0_l : List ((List UInt8) × List UInt8)) (Q : (List ((List UInt8) × List UInt8)) → Prop) : Prop :=
 ∃ (x0 : List (List UInt8 × List UInt8) → Int → Prop), ∃ (x1 : List (List UInt8 × List UInt8) → Int → Nat), x0 ([] : List (List UInt8 × List UInt8)) (0 : Int) ∧ ∀ (x2 : List (List UInt8 × List UInt8)) (x3 : Int), x0 x2 x3 → (Ty.byte.sl.pr Ty.byte.sl).kd.sl.wf x2 → (Kd.int IntKind.i64).wf x3 → (x3 < (a0_l.length : Int) → ((0 : Int) ≤ x3 ∧ x3 < (a0_l.length : Int)) ∧ ((0 : Int) ≤ x3 ∧ x3 < (a0_l.length : Int)) ∧ (((([] : List UInt8).length + (ix a0_l x3).fst.length) * (1 : Nat) ≤ (140737488355328 : Nat) ∧ (([] : List UInt8).length + (ix a0_l x3).snd.length) * (1 : Nat) ≤ (140737488355328 : Nat) ∧ (x2.length + ((([] : List UInt8) ++ (ix a0_l x3).fst, ([] : List UInt8) ++ (ix a0_l x3).snd) :: ([] : List (List UInt8 × List UInt8))).length) * (48 : Nat) ≤ (140737488355328 : Nat) ∧ x3 < (9223372036854775807 : Int) ∧ x0 (x2 ++ (([] : List UInt8) ++ (ix a0_l x3).fst, ([] : List UInt8) ++ (ix a0_l x3).snd) :: ([] : List (List UInt8 × List UInt8))) (x3 + (1 : Int)) ∧ x1 (x2 ++ (([] : List UInt8) ++ (ix a0_l x3).fst, ([] : List UInt8) ++ (ix a0_l x3).snd) :: ([] : List (List UInt8 × List UInt8))) (x3 + (1 : Int)) < x1 x2 x3) ∧ ((([] : List UInt8).length + (ix a0_l x3).fst.length) * (1 : Nat) ≤ (140737488355328 : Nat) ∧ (([] : List UInt8).length + (ix a0_l x3).snd.length) * (1 : Nat) ≤ (140737488355328 : Nat) ∧ (x2.length + ((([] : List UInt8) ++ (ix a0_l x3).fst, ([] : List UInt8) ++ (ix a0_l x3).snd) :: ([] : List (List UInt8 × List UInt8))).length) * (48 : Nat) ≤ (140737488355328 : Nat) ∧ x3 < (9223372036854775807 : Int) ∧ x0 (x2 ++ (([] : List UInt8) ++ (ix a0_l x3).fst, ([] : List UInt8) ++ (ix a0_l x3).snd) :: ([] : List (List UInt8 × List UInt8))) (x3 + (1 : Int)) ∧ x1 (x2 ++ (([] : List UInt8) ++ (ix a0_l x3).fst, ([] : List UInt8) ++ (ix a0_l x3).snd) :: ([] : List (List UInt8 × List UInt8))) (x3 + (1 : Int)) < x1 x2 x3) ∧ True) ∧ ((([] : List UInt8).length + (ix a0_l x3).fst.length) * (1 : Nat) ≤ (140737488355328 : Nat) ∧ (([] : List UInt8).length + (ix a0_l x3).snd.length) * (1 : Nat) ≤ (140737488355328 : Nat) ∧ (x2.length + ((([] : List UInt8) ++ (ix a0_l x3).fst, ([] : List UInt8) ++ (ix a0_l x3).snd) :: ([] : List (List UInt8 × List UInt8))).length) * (48 : Nat) ≤ (140737488355328 : Nat) ∧ x3 < (9223372036854775807 : Int) ∧ x0 (x2 ++ (([] : List UInt8) ++ (ix a0_l x3).fst, ([] : List UInt8) ++ (ix a0_l x3).snd) :: ([] : List (List UInt8 × List UInt8))) (x3 + (1 : Int)) ∧ x1 (x2 ++ (([] : List UInt8) ++ (ix a0_l x3).fst, ([] : List UInt8) ++ (ix a0_l x3).snd) :: ([] : List (List UInt8 × List UInt8))) (x3 + (1 : Int)) < x1 x2 x3) ∧ True) ∧ (¬x3 < (a0_l.length : Int) → Q x2)
theorem qof {a0_l : List ((List UInt8) × List UInt8)} (w_0 : (Ty.kd (.sl (.pr (.sl .byte) (.sl .byte)))).wf a0_l) (hp : a0_l.length ≤ 65536 ∧ (∀ p ∈ a0_l, p.1.length + p.2.length ≤ 35184372088832)) : qgB a0_l (fun o0 => o0 = a0_l) := by
 obtain ⟨hl, hs⟩ := hp
 unfold qgB
 refine ⟨fun x2 x3 => ∃ j : Nat, x3 = (j : Int) ∧ j ≤ a0_l.length ∧ x2 = a0_l.take j, fun _ x3 => ((a0_l.length : Int) - x3).toNat, ⟨0, rfl, Nat.zero_le _, rfl⟩, ?_⟩
 rintro x2 _ ⟨j, rfl, hj, rfl⟩ _ _
 refine ⟨fun hlt => ?_, fun hge => ?_⟩
 ·have hj' : j < a0_l.length := by omega
  have eix : ix a0_l (j : Int) = a0_l[j] := ixN hj'
  have hb := hs _ (List.getElem_mem hj')
  have e : a0_l.take j ++ [([] ++ a0_l[j].1, [] ++ a0_l[j].2)] = a0_l.take (j + 1) := by rw [List.take_add_one, List.getElem?_eq_getElem hj']; rfl
  have b : (0 : Int) ≤ (j : Int) ∧ (j : Int) < (a0_l.length : Int) := ⟨by omega, hlt⟩
  have go : ((([] : List UInt8).length + a0_l[j].1.length) * 1 ≤ 140737488355328 ∧ (([] : List UInt8).length + a0_l[j].2.length) * 1 ≤ 140737488355328 ∧ ((a0_l.take j).length + [(([] : List UInt8) ++ a0_l[j].1, ([] : List UInt8) ++ a0_l[j].2)].length) * 48 ≤ 140737488355328 ∧ (j : Int) < 9223372036854775807 ∧ (∃ i : Nat, (j : Int) + 1 = (i : Int) ∧ i ≤ a0_l.length ∧ a0_l.take j ++ [([] ++ a0_l[j].1, [] ++ a0_l[j].2)] = a0_l.take i) ∧ ((a0_l.length : Int) - ((j : Int) + 1)).toNat < ((a0_l.length : Int) - (j : Int)).toNat) := by
   refine ⟨?_, ?_, ?_, by omega, ⟨j + 1, rfl, hj', e⟩, by omega⟩
   ·simp only [List.length_nil]; omega
   ·simp only [List.length_nil]; omega
   ·simp only [List.length_take, List.length_cons, List.length_nil]; omega
  simp only [eix]
  exact ⟨b, b, ⟨go, go, trivial⟩, go, trivial⟩
 ·obtain rfl : j = a0_l.length := by omega
  show a0_l.take a0_l.length = _
  rw [List.take_length]
theorem qoe : (∀ a, qdW.pre a → PM.wfP qdW.pm a (fvc qlM 200 40 qdW a (eqO qdW a))) = (∀ a : (List ((List UInt8) × List UInt8)) × Unit, ((a.1).length ≤ 65536 ∧ (∀ p ∈ (a.1), p.1.length + p.2.length ≤ 35184372088832)) → (Ty.kd (.sl (.pr (.sl .byte) (.sl .byte)))).wf a.1 → qgB a.1 (fun o0 => o0 = (a.1))) := by kernel_rfl
theorem qra : qdW.valid Try.prog 40 := qar (X := qlM) (qaH qai (fun b hb => by cases hb; exact qap) qaq trivial) 200 (qoe.mpr fun a hp w_0 => @qof a.1 w_0 hp)
end Go.Proofs.Ytmjjkpiglbpkhaa

set_option linter.unusedVariables false
set_option maxRecDepth 100000
set_option maxHeartbeats 20000000
namespace Go.Proofs.Ytmjjkpiglbpkhaa
open Go Go.RowKit Go.Inc
noncomputable def qfg : Ctr := ⟨[.v (.pr (.int .i64) (.sl (.pr (.int .i64) (.pr (.pr (.sl .byte) (.sl .byte)) (.sl (.arr 32 .byte))))))], [.v (.pr (.int .i64) (.sl (.pr (.int .i64) (.pr (.pr (.sl .byte) (.sl .byte)) (.sl (.arr 32 .byte))))))], some (fun a => (fun (a0_s : Int × List (Int × ((List UInt8) × List UInt8) × List (List UInt8))) => (a0_s.2.length ≤ 65536 ∧ ∀ x ∈ a0_s.2, x.2.1.1.length + x.2.1.2.length ≤ 35184372088832 ∧ x.2.2.length ≤ 65536 : Prop)) a.1), fun a => (fun (a0_s : Int × List (Int × ((List UInt8) × List UInt8) × List (List UInt8))) => ((a0_s, ()), (()))) a.1⟩
noncomputable def qn3 : Fx := ⟨{ seat with rws := [3000003, 4000009] }, some bkT, fns, [(40, qdW)], [], [(3, [3], [])], [(7, [3, 5], [.o 0 3, .o 2 3, .o 3 3, .o 4 3, .o 5 3, .o 6 3, .o 8 3, .o 9 3, .par [1, 7, 10, 11, 12] (.alt 1 1 (.one 7 1 (.one 10 1 (.one 11 3 (.one 12 1 .fin)))) (.alt 7 1 (.alt 1 1 (.one 10 1 (.one 11 3 (.one 12 1 .fin))) (.alt 10 1 (.one 11 3 (.alt 1 1 (.one 12 1 .fin) (.alt 12 1 (.one 1 1 .fin) .fin))) .fin)) .fin)), .o 13 1, .o 14 3, .o 15 1])]⟩
def qij (a0_s : Int × List (Int × ((List UInt8) × List UInt8) × List (List UInt8))) (Q : (Int × List (Int × ((List UInt8) × List UInt8) × List (List UInt8))) → Prop) : Prop :=
 ∃ (x0 : Int → List (Int × (List UInt8 × List UInt8) × List (List UInt8)) → Int × Unit → Prop), ∃ (x1 : Int → List (Int × (List UInt8 × List UInt8) × List (List UInt8)) → Int × Unit → Nat), x0 (0 : Int) ([] : List (Int × (List UInt8 × List UInt8) × List (List UInt8))) (a0_s.fst, ()) ∧ ∀ (x2 : Int) (x3 : List (Int × (List UInt8 × List UInt8) × List (List UInt8))) (x4 : Int × Unit), x0 x2 x3 x4 → (Kd.int IntKind.i64).wf x2 → ((Ty.int IntKind.i64).pr ((Ty.byte.sl.pr Ty.byte.sl).pr (Ty.arr (32 : Nat) Ty.byte).sl)).kd.sl.wf x3 → (x2 < (a0_s.snd.length : Int) → ((0 : Int) ≤ x2 ∧ x2 < (a0_s.snd.length : Int)) ∧ (((ix a0_s.snd x2).snd.fst :: ([] : List (List UInt8 × List UInt8))).length ≤ (65536 : Nat) ∧ ∀ (x9 : List UInt8 × List UInt8), x9 ∈ (ix a0_s.snd x2).snd.fst :: ([] : List (List UInt8 × List UInt8)) → x9.fst.length + x9.snd.length ≤ (35184372088832 : Nat)) ∧ ((Ty.byte.sl.pr Ty.byte.sl).kd.sl.wf ((ix a0_s.snd x2).snd.fst :: ([] : List (List UInt8 × List UInt8))) → ((0 : Int) ≤ (0 : Int) ∧ (0 : Int) < (((ix a0_s.snd x2).snd.fst :: ([] : List (List UInt8 × List UInt8))).length : Int)) ∧ ((([] : List (List UInt8)).length + (ix a0_s.snd x2).snd.snd.length) * (32 : Nat) ≤ (140737488355328 : Nat) ∧ (x3.length + (((ix a0_s.snd x2).fst, ix ((ix a0_s.snd x2).snd.fst :: ([] : List (List UInt8 × List UInt8))) (0 : Int), ([] : List (List UInt8)) ++ (ix a0_s.snd x2).snd.snd) :: ([] : List (Int × (List UInt8 × List UInt8) × List (List UInt8)))).length) * (80 : Nat) ≤ (140737488355328 : Nat) ∧ x2 < (9223372036854775807 : Int) ∧ x0 (x2 + (1 : Int)) (x3 ++ ((ix a0_s.snd x2).fst, ix ((ix a0_s.snd x2).snd.fst :: ([] : List (List UInt8 × List UInt8))) (0 : Int), ([] : List (List UInt8)) ++ (ix a0_s.snd x2).snd.snd) :: ([] : List (Int × (List UInt8 × List UInt8) × List (List UInt8)))) (x4.fst, x4.snd) ∧ x1 (x2 + (1 : Int)) (x3 ++ ((ix a0_s.snd x2).fst, ix ((ix a0_s.snd x2).snd.fst :: ([] : List (List UInt8 × List UInt8))) (0 : Int), ([] : List (List UInt8)) ++ (ix a0_s.snd x2).snd.snd) :: ([] : List (Int × (List UInt8 × List UInt8) × List (List UInt8)))) (x4.fst, x4.snd) < x1 x2 x3 x4) ∧ (((([] : List (List UInt8)).length + (ix a0_s.snd x2).snd.snd.length) * (32 : Nat) ≤ (140737488355328 : Nat) ∧ (x3.length + (((ix a0_s.snd x2).fst, ix ((ix a0_s.snd x2).snd.fst :: ([] : List (List UInt8 × List UInt8))) (0 : Int), ([] : List (List UInt8)) ++ (ix a0_s.snd x2).snd.snd) :: ([] : List (Int × (List UInt8 × List UInt8) × List (List UInt8)))).length) * (80 : Nat) ≤ (140737488355328 : Nat) ∧ x2 < (9223372036854775807 : Int) ∧ x0 (x2 + (1 : Int)) (x3 ++ ((ix a0_s.snd x2).fst, ix ((ix a0_s.snd x2).snd.fst :: ([] : List (List UInt8 × List UInt8))) (0 : Int), ([] : List (List UInt8)) ++ (ix a0_s.snd x2).snd.snd) :: ([] : List (Int × (List UInt8 × List UInt8) × List (List UInt8)))) (x4.fst, x4.snd) ∧ x1 (x2 + (1 : Int)) (x3 ++ ((ix a0_s.snd x2).fst, ix ((ix a0_s.snd x2).snd.fst :: ([] : List (List UInt8 × List UInt8))) (0 : Int), ([] : List (List UInt8)) ++ (ix a0_s.snd x2).snd.snd) :: ([] : List (Int × (List UInt8 × List UInt8) × List (List UInt8)))) (x4.fst, x4.snd) < x1 x2 x3 x4) ∧ ((([] : List (List UInt8)).length + (ix a0_s.snd x2).snd.snd.length) * (32 : Nat) ≤ (140737488355328 : Nat) ∧ ((x3.length + (((ix a0_s.snd x2).fst, ix ((ix a0_s.snd x2).snd.fst :: ([] : List (List UInt8 × List UInt8))) (0 : Int), ([] : List (List UInt8)) ++ (ix a0_s.snd x2).snd.snd) :: ([] : List (Int × (List UInt8 × List UInt8) × List (List UInt8)))).length) * (80 : Nat) ≤ (140737488355328 : Nat) ∧ x2 < (9223372036854775807 : Int) ∧ x0 (x2 + (1 : Int)) (x3 ++ ((ix a0_s.snd x2).fst, ix ((ix a0_s.snd x2).snd.fst :: ([] : List (List UInt8 × List UInt8))) (0 : Int), ([] : List (List UInt8)) ++ (ix a0_s.snd x2).snd.snd) :: ([] : List (Int × (List UInt8 × List UInt8) × List (List UInt8)))) (x4.fst, x4.snd) ∧ x1 (x2 + (1 : Int)) (x3 ++ ((ix a0_s.snd x2).fst, ix ((ix a0_s.snd x2).snd.fst :: ([] : List (List UInt8 × List UInt8))) (0 : Int), ([] : List (List UInt8)) ++ (ix a0_s.snd x2).snd.snd) :: ([] : List (Int × (List UInt8 × List UInt8) × List (List UInt8)))) (x4.fst, x4.snd) < x1 x2 x3 x4) ∧ ((x3.length + (((ix a0_s.snd x2).fst, ix ((ix a0_s.snd x2).snd.fst :: ([] : List (List UInt8 × List UInt8))) (0 : Int), ([] : List (List UInt8)) ++ (ix a0_s.snd x2).snd.snd) :: ([] : List (Int × (List UInt8 × List UInt8) × List (List UInt8)))).length) * (80 : Nat) ≤ (140737488355328 : Nat) ∧ x2 < (9223372036854775807 : Int) ∧ x0 (x2 + (1 : Int)) (x3 ++ ((ix a0_s.snd x2).fst, ix ((ix a0_s.snd x2).snd.fst :: ([] : List (List UInt8 × List UInt8))) (0 : Int), ([] : List (List UInt8)) ++ (ix a0_s.snd x2).snd.snd) :: ([] : List (Int × (List UInt8 × List UInt8) × List (List UInt8)))) (x4.fst, x4.snd) ∧ x1 (x2 + (1 : Int)) (x3 ++ ((ix a0_s.snd x2).fst, ix ((ix a0_s.snd x2).snd.fst :: ([] : List (List UInt8 × List UInt8))) (0 : Int), ([] : List (List UInt8)) ++ (ix a0_s.snd x2).snd.snd) :: ([] : List (Int × (List UInt8 × List UInt8) × List (List UInt8)))) (x4.fst, x4.snd) < x1 x2 x3 x4) ∧ True) ∧ True) ∧ True)) ∧ (¬x2 < (a0_s.snd.length : Int) → Q (x4.fst, x3))
theorem qqY {a0_s : Int × List (Int × ((List UInt8) × List UInt8) × List (List UInt8))} (w_0 : (Ty.kd (.pr (.int .i64) (.sl (.pr (.int .i64) (.pr (.pr (.sl .byte) (.sl .byte)) (.sl (.arr 32 .byte))))))).wf a0_s) (hp : a0_s.2.length ≤ 65536 ∧ ∀ x ∈ a0_s.2, x.2.1.1.length + x.2.1.2.length ≤ 35184372088832 ∧ x.2.2.length ≤ 65536) : qij a0_s (fun o0 => o0 = a0_s) := by
 obtain ⟨hl, hs⟩ := hp
 unfold qij
 refine ⟨fun x2 x3 x4 => ∃ j : Nat, x2 = (j : Int) ∧ j ≤ a0_s.2.length ∧ x3 = a0_s.2.take j ∧ x4.1 = a0_s.1, fun x2 _ _ => ((a0_s.2.length : Int) - x2).toNat, ⟨0, rfl, Nat.zero_le _, rfl, rfl⟩, ?_⟩
 rintro _ x3 x4 ⟨j, rfl, hj, rfl, h4⟩ _ _
 refine ⟨fun hlt => ?_, fun hge => ?_⟩
 ·have hj' : j < a0_s.2.length := by omega
  have eix : ix a0_s.2 (j : Int) = a0_s.2[j] := ixN hj'
  have hb := hs _ (List.getElem_mem hj')
  have e0 : ∀ x : (List UInt8) × List UInt8, ix [x] 0 = x := fun _ => rfl
  have e : a0_s.2.take j ++ [(a0_s.2[j].1, a0_s.2[j].2.1, ([] : List (List UInt8)) ++ a0_s.2[j].2.2)] = a0_s.2.take (j + 1) := by rw [List.take_add_one, List.getElem?_eq_getElem hj']; rfl
  have b : (0 : Int) ≤ (j : Int) ∧ (j : Int) < (a0_s.2.length : Int) := ⟨by omega, hlt⟩
  have g1 : (([] : List (List UInt8)).length + a0_s.2[j].2.2.length) * 32 ≤ 140737488355328 := by simp only [List.length_nil]; omega
  have g2 : ((a0_s.2.take j).length + [(a0_s.2[j].1, a0_s.2[j].2.1, ([] : List (List UInt8)) ++ a0_s.2[j].2.2)].length) * 80 ≤ 140737488355328 ∧ (j : Int) < 9223372036854775807 ∧ (∃ i : Nat, (j : Int) + 1 = (i : Int) ∧ i ≤ a0_s.2.length ∧ a0_s.2.take j ++ [(a0_s.2[j].1, a0_s.2[j].2.1, ([] : List (List UInt8)) ++ a0_s.2[j].2.2)] = a0_s.2.take i ∧ x4.1 = a0_s.1) ∧ ((a0_s.2.length : Int) - ((j : Int) + 1)).toNat < ((a0_s.2.length : Int) - (j : Int)).toNat := by
   refine ⟨?_, by omega, ⟨j + 1, rfl, hj', e, h4⟩, by omega⟩
   simp only [List.length_take, List.length_cons, List.length_nil]; omega
  simp only [eix, e0]
  refine ⟨b, ⟨by simp, fun x hx => ?_⟩, fun _ => ⟨by simp, ?_⟩⟩
  ·obtain rfl := List.mem_singleton.1 hx
   exact hb.1
  ·repeat' (first | exact g1 | exact g2 | exact trivial | refine ⟨?_, ?_⟩)
 ·obtain rfl : j = a0_s.2.length := by omega
  show (x4.1, a0_s.2.take a0_s.2.length) = a0_s
  rw [List.take_length, h4]
theorem qqX : (∀ a, qfg.pre a → PM.wfP qfg.pm a (fvc qn3 200 37 qfg a (eqO qfg a))) = (∀ a : (Int × List (Int × ((List UInt8) × List UInt8) × List (List UInt8))) × Unit, ((a.1).2.length ≤ 65536 ∧ ∀ x ∈ (a.1).2, x.2.1.1.length + x.2.1.2.length ≤ 35184372088832 ∧ x.2.2.length ≤ 65536) → (Ty.kd (.pr (.int .i64) (.sl (.pr (.int .i64) (.pr (.pr (.sl .byte) (.sl .byte)) (.sl (.arr 32 .byte))))))).wf a.1 → qij a.1 (fun o0 => o0 = (a.1))) := by kernel_rfl
theorem qtX : qfg.valid Try.prog 37 := qar (X := qn3) (qaH (qai.rows [3000003, 4000009]) (fun b hb => by cases hb; exact qap) qaq ⟨qra, trivial⟩) 200 (qqX.mpr fun a hp w_0 => @qqY a.1 w_0 hp)
def qd3 (Q : Bool → Prop) : Prop :=
 (Ty.byte.kd.sl.wf (qaZ (qa4 qac) (toB (120 : Int) :: ([] : List UInt8)) (qaI qac (toB (97 : Int) :: ([] : List UInt8)))) → (Ty.int IntKind.i64).kd.wf (qaN (qa4 qac) (toB (120 : Int) :: ([] : List UInt8)) (qaI qac (toB (97 : Int) :: ([] : List UInt8)))) → (mayK qac = true → ((0 : Int) ≤ (1 : Int) ∧ (1 : Int) < (qac.length : Int)) ∧ ((0 : Int) ≤ (0 : Int) ∧ (0 : Int) < (qac.length : Int)) ∧ (¬mayK (ix qac (1 : Int) :: ix qac (0 : Int) :: ([] : List (List UInt8 × List UInt8))) = true → (((qaI qac (toB (100 : Int) :: ([] : List UInt8))).snd.length : Int) = (1 : Int) → ((0 : Int) ≤ (0 : Int) ∧ (0 : Int) < ((qaI qac (toB (100 : Int) :: ([] : List UInt8))).snd.length : Int)) ∧ ((ix (qaI qac (toB (100 : Int) :: ([] : List UInt8))).snd (0 : Int)).fst = (1 : Int) → (((qaI qac (toB (99 : Int) :: ([] : List UInt8))).snd.length : Int) = (2 : Int) → (qaZ (qa4 qac) (toB (100 : Int) :: ([] : List UInt8)) (qaI qac (toB (100 : Int) :: ([] : List UInt8))) = qmK → (qa5 (qa4 qac) (toB (100 : Int) :: ([] : List UInt8)) (qaI qac (toB (100 : Int) :: ([] : List UInt8))) = true → (qaN (qa4 qac) (toB (100 : Int) :: ([] : List UInt8)) (qaI qac (toB (100 : Int) :: ([] : List UInt8))) = (0 : Int) → (¬qa5 (qa4 qac) (toB (99 : Int) :: ([] : List UInt8)) (qaI qac (toB (99 : Int) :: ([] : List UInt8))) = true → (qaN (qa4 qac) (toB (99 : Int) :: ([] : List UInt8)) (qaI qac (toB (99 : Int) :: ([] : List UInt8))) = (0 : Int) → (qaN (qa4 qac) (toB (99 : Int) :: ([] : List UInt8)) (qaI qac (toB (100 : Int) :: ([] : List UInt8))) = (10 : Int) → Q (decide (qaN (qa4 qac) (toB (120 : Int) :: ([] : List UInt8)) (qaI qac (toB (97 : Int) :: ([] : List UInt8))) = (10 : Int)))) ∧ (¬qaN (qa4 qac) (toB (99 : Int) :: ([] : List UInt8)) (qaI qac (toB (100 : Int) :: ([] : List UInt8))) = (10 : Int) → Q false)) ∧ (¬qaN (qa4 qac) (toB (99 : Int) :: ([] : List UInt8)) (qaI qac (toB (99 : Int) :: ([] : List UInt8))) = (0 : Int) → Q false)) ∧ (qa5 (qa4 qac) (toB (99 : Int) :: ([] : List UInt8)) (qaI qac (toB (99 : Int) :: ([] : List UInt8))) = true → Q false)) ∧ (¬qaN (qa4 qac) (toB (100 : Int) :: ([] : List UInt8)) (qaI qac (toB (100 : Int) :: ([] : List UInt8))) = (0 : Int) → Q false)) ∧ (qa5 (qa4 qac) (toB (100 : Int) :: ([] : List UInt8)) (qaI qac (toB (100 : Int) :: ([] : List UInt8))) = false → Q false)) ∧ (¬qaZ (qa4 qac) (toB (100 : Int) :: ([] : List UInt8)) (qaI qac (toB (100 : Int) :: ([] : List UInt8))) = qmK → Q false)) ∧ (¬((qaI qac (toB (99 : Int) :: ([] : List UInt8))).snd.length : Int) = (2 : Int) → Q false)) ∧ (¬(ix (qaI qac (toB (100 : Int) :: ([] : List UInt8))).snd (0 : Int)).fst = (1 : Int) → Q false)) ∧ (¬((qaI qac (toB (100 : Int) :: ([] : List UInt8))).snd.length : Int) = (1 : Int) → Q false)) ∧ (mayK (ix qac (1 : Int) :: ix qac (0 : Int) :: ([] : List (List UInt8 × List UInt8))) = true → Q false)) ∧ (mayK qac = false → Q false))
def qcU (Q : Bool → Prop) : Prop :=
 (((Ty.int IntKind.i64).pr ((Ty.int IntKind.i64).pr ((Ty.byte.sl.pr Ty.byte.sl).pr (Ty.arr (32 : Nat) Ty.byte).sl)).sl).kd.wf (qaI qac (toB (97 : Int) :: ([] : List UInt8))) → (∀ (x0 : Int × (List UInt8 × List UInt8) × List (List UInt8)), x0 ∈ (qaI qac (toB (97 : Int) :: ([] : List UInt8))).snd → x0.snd.fst.fst.length + x0.snd.fst.snd.length ≤ (70368744177664 : Nat) ∧ x0.snd.snd.length ≤ (65536 : Nat)) ∧ (qd3 Q))
def qd4 (Q : Bool → Prop) : Prop :=
 ((qac.length ≤ (65536 : Nat) ∧ ∀ (x0 : List UInt8 × List UInt8), x0 ∈ qac → x0.fst.length + x0.snd.length ≤ (70368744177664 : Nat)) ∧ (((Ty.int IntKind.i64).pr ((Ty.int IntKind.i64).pr ((Ty.byte.sl.pr Ty.byte.sl).pr (Ty.arr (32 : Nat) Ty.byte).sl)).sl).kd.wf (qaI qac (toB (97 : Int) :: ([] : List UInt8))) → toB (120 : Int) :: ([] : List UInt8) ≠ ([] : List UInt8) ∧ (∀ (x0 : Int × (List UInt8 × List UInt8) × List (List UInt8)), x0 ∈ (qaI qac (toB (97 : Int) :: ([] : List UInt8))).snd → x0.snd.fst.fst.length + x0.snd.fst.snd.length ≤ (70368744177664 : Nat) ∧ x0.snd.snd.length ≤ (65536 : Nat)) ∧ (qd3 Q)))
def qfr (Q : Bool → Prop) : Prop :=
 ((toB (120 : Int) :: ([] : List UInt8) ≠ ([] : List UInt8) ∧ toB (97 : Int) :: ([] : List UInt8) ≠ ([] : List UInt8) ∧ (qac.length ≤ (65536 : Nat) ∧ ∀ (x0 : List UInt8 × List UInt8), x0 ∈ qac → x0.fst.length + x0.snd.length ≤ (70368744177664 : Nat)) ∧ (qcU Q)) ∧ (toB (97 : Int) :: ([] : List UInt8) ≠ ([] : List UInt8) ∧ (toB (120 : Int) :: ([] : List UInt8) ≠ ([] : List UInt8) ∧ (qac.length ≤ (65536 : Nat) ∧ ∀ (x0 : List UInt8 × List UInt8), x0 ∈ qac → x0.fst.length + x0.snd.length ≤ (70368744177664 : Nat)) ∧ (qcU Q)) ∧ (qd4 Q) ∧ True) ∧ True)
noncomputable def qcT : Ctr := ⟨[], [.v .bool], none, fun _ => ((true, ()), (()))⟩
noncomputable def qjt : Fx := ⟨seat, some bkT, fns, [(76, qeg), (32, qmp), (32, qfJ), (33, qfK), (31, qdk), (29, qg2)], [], [], [(7, [], [.o 0 3, .o 3 3, .par [1, 2, 4, 5, 6] (.alt 1 1 (.alt 2 1 (.one 4 1 (.one 5 1 (.one 6 1 .fin))) (.alt 4 1 (.alt 2 1 (.one 5 1 (.one 6 1 .fin)) (.alt 5 1 (.alt 2 1 (.one 6 1 .fin) (.alt 6 1 (.one 2 1 .fin) .fin)) .fin)) .fin)) (.alt 4 1 (.alt 1 1 (.alt 2 1 (.one 5 1 (.one 6 1 .fin)) (.alt 5 1 (.alt 2 1 (.one 6 1 .fin) (.alt 6 1 (.one 2 1 .fin) .fin)) .fin)) (.alt 5 1 (.alt 1 1 (.alt 2 1 (.one 6 1 .fin) (.alt 6 1 (.one 2 1 .fin) .fin)) (.alt 6 1 (.one 1 1 (.one 2 1 .fin)) .fin)) .fin)) .fin)), .o 7 1, .o 8 3, .o 9 3, .o 10 3, .o 11 3, .o 12 3, .o 13 3, .o 14 3]), (8, [], [.o 0 2, .o 1 0, .o 2 2, .o 3 2, .o 4 2, .o 5 2, .o 6 2, .o 7 2, .o 8 2, .o 9 0, .o 10 0, .o 11 2, .o 12 2, .o 13 2, .o 14 2, .o 15 2, .o 16 2, .o 17 2, .o 18 2, .o 19 2, .o 20 2, .o 21 2, .o 22 2, .o 23 2, .o 24 2, .o 25 2, .o 26 2, .o 27 2, .o 28 2, .o 29 2, .o 30 2, .o 31 2, .o 32 2, .o 33 2, .o 34 2, .o 35 2, .o 36 2, .o 37 2, .o 38 2, .o 39 2, .o 40 2, .o 41 2, .o 42 2, .o 43 2, .o 44 2, .o 45 2, .o 46 2, .o 47 2, .o 48 2, .o 49 2, .o 50 2, .o 51 2, .o 52 2, .o 53 2, .o 54 2, .o 55 2, .o 56 2, .o 57 2, .o 58 2, .o 59 2, .o 60 2, .o 61 2])]⟩
def qfs (Q : Bool → Prop) : Prop :=
 (Ty.byte.sl.pr Ty.byte.sl).kd.sl.wf qac → (qac.length ≤ (65536 : Nat) ∧ ∀ (x0 : List UInt8 × List UInt8), x0 ∈ qac → x0.fst.length + x0.snd.length ≤ (70368744177664 : Nat)) ∧ ((Ty.arr (32 : Nat) Ty.byte).kd.wf (qa4 qac) → toB (100 : Int) :: ([] : List UInt8) ≠ ([] : List UInt8) ∧ (qac.length ≤ (65536 : Nat) ∧ ∀ (x0 : List UInt8 × List UInt8), x0 ∈ qac → x0.fst.length + x0.snd.length ≤ (70368744177664 : Nat)) ∧ (((Ty.int IntKind.i64).pr ((Ty.int IntKind.i64).pr ((Ty.byte.sl.pr Ty.byte.sl).pr (Ty.arr (32 : Nat) Ty.byte).sl)).sl).kd.wf (qaI qac (toB (100 : Int) :: ([] : List UInt8))) → toB (99 : Int) :: ([] : List UInt8) ≠ ([] : List UInt8) ∧ (qac.length ≤ (65536 : Nat) ∧ ∀ (x0 : List UInt8 × List UInt8), x0 ∈ qac → x0.fst.length + x0.snd.length ≤ (70368744177664 : Nat)) ∧ (((Ty.int IntKind.i64).pr ((Ty.int IntKind.i64).pr ((Ty.byte.sl.pr Ty.byte.sl).pr (Ty.arr (32 : Nat) Ty.byte).sl)).sl).kd.wf (qaI qac (toB (99 : Int) :: ([] : List UInt8))) → toB (100 : Int) :: ([] : List UInt8) ≠ ([] : List UInt8) ∧ (∀ (x0 : Int × (List UInt8 × List UInt8) × List (List UInt8)), x0 ∈ (qaI qac (toB (100 : Int) :: ([] : List UInt8))).snd → x0.snd.fst.fst.length + x0.snd.fst.snd.length ≤ (70368744177664 : Nat) ∧ x0.snd.snd.length ≤ (65536 : Nat)) ∧ (Ty.byte.kd.sl.wf (qaZ (qa4 qac) (toB (100 : Int) :: ([] : List UInt8)) (qaI qac (toB (100 : Int) :: ([] : List UInt8)))) → (Ty.int IntKind.i64).kd.wf (qaN (qa4 qac) (toB (100 : Int) :: ([] : List UInt8)) (qaI qac (toB (100 : Int) :: ([] : List UInt8)))) → toB (99 : Int) :: ([] : List UInt8) ≠ ([] : List UInt8) ∧ (∀ (x0 : Int × (List UInt8 × List UInt8) × List (List UInt8)), x0 ∈ (qaI qac (toB (99 : Int) :: ([] : List UInt8))).snd → x0.snd.fst.fst.length + x0.snd.fst.snd.length ≤ (70368744177664 : Nat) ∧ x0.snd.snd.length ≤ (65536 : Nat)) ∧ (Ty.byte.kd.sl.wf (qaZ (qa4 qac) (toB (99 : Int) :: ([] : List UInt8)) (qaI qac (toB (99 : Int) :: ([] : List UInt8)))) → (Ty.int IntKind.i64).kd.wf (qaN (qa4 qac) (toB (99 : Int) :: ([] : List UInt8)) (qaI qac (toB (99 : Int) :: ([] : List UInt8)))) → toB (99 : Int) :: ([] : List UInt8) ≠ ([] : List UInt8) ∧ (∀ (x0 : Int × (List UInt8 × List UInt8) × List (List UInt8)), x0 ∈ (qaI qac (toB (100 : Int) :: ([] : List UInt8))).snd → x0.snd.fst.fst.length + x0.snd.fst.snd.length ≤ (70368744177664 : Nat) ∧ x0.snd.snd.length ≤ (65536 : Nat)) ∧ (Ty.byte.kd.sl.wf (qaZ (qa4 qac) (toB (99 : Int) :: ([] : List UInt8)) (qaI qac (toB (100 : Int) :: ([] : List UInt8)))) → (Ty.int IntKind.i64).kd.wf (qaN (qa4 qac) (toB (99 : Int) :: ([] : List UInt8)) (qaI qac (toB (100 : Int) :: ([] : List UInt8)))) → ((toB (120 : Int) :: ([] : List UInt8) ≠ ([] : List UInt8) ∧ toB (97 : Int) :: ([] : List UInt8) ≠ ([] : List UInt8) ∧ (qac.length ≤ (65536 : Nat) ∧ ∀ (x0 : List UInt8 × List UInt8), x0 ∈ qac → x0.fst.length + x0.snd.length ≤ (70368744177664 : Nat)) ∧ (qcU Q)) ∧ (qfr Q) ∧ True) ∧ ((qfr Q) ∧ (toB (97 : Int) :: ([] : List UInt8) ≠ ([] : List UInt8) ∧ ((toB (120 : Int) :: ([] : List UInt8) ≠ ([] : List UInt8) ∧ (qac.length ≤ (65536 : Nat) ∧ ∀ (x0 : List UInt8 × List UInt8), x0 ∈ qac → x0.fst.length + x0.snd.length ≤ (70368744177664 : Nat)) ∧ (qcU Q)) ∧ (qd4 Q) ∧ True) ∧ (qd4 Q) ∧ True) ∧ True) ∧ True))))))
theorem qm6  : qfs  (fun o0 => o0 = true) := by
 have e100 : toB (100 : Int) = 100 := by decide
 have e99 : toB (99 : Int) = 99 := by decide
 have e97 : toB (97 : Int) = 97 := by decide
 have e120 : toB (120 : Int) = 120 := by decide
 have p1 := qlr
 have sm := fun key : By => qnr (key := key) p1.1 p1.2
 obtain ⟨d1, d2, d3⟩ := tells (key := [100]) qc6
 obtain ⟨c1, c2, c3⟩ := tells (key := [99]) qc6
 have s1 : qcx qac [100] = ([50], true) := by decide +kernel
 have s2 : qcx qac [99] = ([], false) := by decide +kernel
 rw [s1] at d2 d3
 rw [s2] at c2 c3
 have n1 : mayK [ix qac 1, ix qac 0] = false := by decide +kernel
 have l1 : ((qaI qac [100]).2.length : Int) = 1 := by rw [qlq]; rfl
 have l2 : ((qaI qac [99]).2.length : Int) = 2 := by rw [qu7]; rfl
 have l3 : (ix (qaI qac [100]).2 0).1 = 1 := by rw [qlq]; rfl
 have k1 : qd3 (fun o0 => o0 = true) := by
  unfold qd3
  simp only [e100, e99, e97, e120]
  refine fun _ _ => ⟨fun _ => ⟨⟨by decide, by decide⟩, ⟨by decide, by decide⟩, fun _ => ⟨fun _ => ⟨⟨by omega, by omega⟩, fun _ => ⟨fun _ => ⟨fun _ => ⟨fun _ => ⟨fun _ => ⟨fun _ => ⟨fun _ => ⟨fun _ => decide_eq_true qsE, fun h => absurd qsB h⟩, fun h => absurd c1 h⟩, fun h => ?_⟩, fun h => absurd d1 h⟩, fun h => ?_⟩, fun h => absurd d3 h⟩, fun h => absurd l2 h⟩, fun h => absurd l3 h⟩, fun h => absurd l1 h⟩, fun h => ?_⟩, fun h => ?_⟩
  ·rw [c2] at h; cases h
  ·rw [d2] at h; cases h
  ·rw [n1] at h; cases h
  ·rw [qc6] at h; cases h
 have q : ∀ x : UInt8, [x] ≠ ([] : List UInt8) := fun x h => by cases h
 have k2 : qcU (fun o0 => o0 = true) := fun _ => ⟨sm _, k1⟩
 have k3 : qd4 (fun o0 => o0 = true) := ⟨p1, fun _ => ⟨q _, sm _, k1⟩⟩
 have k4 : qfr (fun o0 => o0 = true) := ⟨⟨q _, q _, p1, k2⟩, ⟨q _, ⟨q _, p1, k2⟩, k3, trivial⟩, trivial⟩
 unfold qfs
 exact fun _ => ⟨p1, fun _ => ⟨q _, p1, fun _ => ⟨q _, p1, fun _ => ⟨q _, sm _, fun _ _ => ⟨q _, sm _, fun _ _ => ⟨q _, sm _, fun _ _ => ⟨⟨⟨q _, q _, p1, k2⟩, k4, trivial⟩, ⟨k4, ⟨q _, ⟨⟨q _, p1, k2⟩, k3, trivial⟩, k3, trivial⟩, trivial⟩, trivial⟩⟩⟩⟩⟩⟩⟩
theorem qm5 : (∀ a, qcT.pre a → PM.wfP qcT.pm a (fvc qjt 200 30 qcT a (eqO qcT a))) = (∀ a : Unit, True → qfs  (fun o0 => o0 = true)) := by kernel_rfl
theorem qoJ : qcT.valid Try.prog 30 := qar (X := qjt) (qaH qai (fun b hb => by cases hb; exact qap) qaq ⟨qsA, qr5, qpt, quO, qmo, qtf, trivial⟩) 200 (qm5.mpr fun a hp  => @qm6 )
noncomputable def qb4 : Ctr := ⟨[.v (.arr 32 .byte), .v (.sl .byte), .v (.pr (.int .i64) (.sl (.pr (.int .i64) (.pr (.pr (.sl .byte) (.sl .byte)) (.sl (.arr 32 .byte))))))], [.v .bool], none, fun a => (fun (a0_root : List UInt8) (a1_key : List UInt8) (a2_s : Int × List (Int × ((List UInt8) × List UInt8) × List (List UInt8))) => ((true, ()), (()))) a.1 a.2.1 a.2.2.1⟩
noncomputable def qf4 : Fx := ⟨seat, some bkT, fns, [(35, qia), (30, qcT), (37, qfg), (31, qdk), (38, qfi), (39, qdY)], [], [], []⟩
def qdb (a0_root : List UInt8) (a1_key : List UInt8) (a2_s : Int × List (Int × ((List UInt8) × List UInt8) × List (List UInt8))) (Q : Bool → Prop) : Prop :=
 (qnB a2_s = true → Q true) ∧ (qnB a2_s = false → ((1000 : Int) < (a1_key.length : Int) → Q true) ∧ (¬(1000 : Int) < (a1_key.length : Int) → (a2_s.snd.length ≤ (65536 : Nat) ∧ ∀ (x0 : Int × (List UInt8 × List UInt8) × List (List UInt8)), x0 ∈ a2_s.snd → x0.snd.fst.fst.length + x0.snd.fst.snd.length ≤ (35184372088832 : Nat) ∧ x0.snd.snd.length ≤ (65536 : Nat)) ∧ (((Ty.int IntKind.i64).pr ((Ty.int IntKind.i64).pr ((Ty.byte.sl.pr Ty.byte.sl).pr (Ty.arr (32 : Nat) Ty.byte).sl)).sl).kd.wf a2_s → (∀ (x0 : Int × (List UInt8 × List UInt8) × List (List UInt8)), x0 ∈ a2_s.snd → x0.snd.fst.fst.length + x0.snd.fst.snd.length ≤ (70368744177664 : Nat) ∧ x0.snd.snd.length ≤ (65536 : Nat)) ∧ (Ty.byte.kd.sl.wf (qaZ a0_root a1_key a2_s) → (Ty.int IntKind.i64).kd.wf (qaN a0_root a1_key a2_s) → (∀ (x0 : Int × (List UInt8 × List UInt8) × List (List UInt8)), x0 ∈ a2_s.snd → x0.snd.fst.fst.length + x0.snd.fst.snd.length ≤ (35184372088832 : Nat) ∧ x0.snd.snd.length ≤ (65536 : Nat)) ∧ (Ty.byte.kd.sl.wf (qaZ a0_root a1_key a2_s) → (decide (qaN a0_root a1_key a2_s = (0 : Int)) ≠ decide (qaN a0_root a1_key a2_s = (0 : Int)) → Q false) ∧ (¬decide (qaN a0_root a1_key a2_s = (0 : Int)) ≠ decide (qaN a0_root a1_key a2_s = (0 : Int)) → (qaN a0_root a1_key a2_s ≠ (0 : Int) → (qaN a0_root a1_key a2_s ≠ (10 : Int) → Q false) ∧ (¬qaN a0_root a1_key a2_s ≠ (10 : Int) → (qa5 a0_root a1_key a2_s ≠ qa5 a0_root a1_key a2_s → Q false) ∧ (¬qa5 a0_root a1_key a2_s ≠ qa5 a0_root a1_key a2_s → (qaZ a0_root a1_key a2_s ≠ qaZ a0_root a1_key a2_s → Q false) ∧ (¬qaZ a0_root a1_key a2_s ≠ qaZ a0_root a1_key a2_s → (decide (a2_s = a2_s) = true → Q true) ∧ (decide (a2_s = a2_s) = false → Q false))))) ∧ (¬qaN a0_root a1_key a2_s ≠ (0 : Int) → (qa5 a0_root a1_key a2_s ≠ qa5 a0_root a1_key a2_s → Q false) ∧ (¬qa5 a0_root a1_key a2_s ≠ qa5 a0_root a1_key a2_s → (qaZ a0_root a1_key a2_s ≠ qaZ a0_root a1_key a2_s → Q false) ∧ (¬qaZ a0_root a1_key a2_s ≠ qaZ a0_root a1_key a2_s → (decide (a2_s = a2_s) = true → Q true) ∧ (decide (a2_s = a2_s) = false → Q false))))))))))
theorem qig {a0_root : List UInt8} {a1_key : List UInt8} {a2_s : Int × List (Int × ((List UInt8) × List UInt8) × List (List UInt8))} (w_0 : (Ty.kd (.arr 32 .byte)).wf a0_root) (w_1 : (Ty.kd (.sl .byte)).wf a1_key) (w_2 : (Ty.kd (.pr (.int .i64) (.sl (.pr (.int .i64) (.pr (.pr (.sl .byte) (.sl .byte)) (.sl (.arr 32 .byte))))))).wf a2_s) : qdb a0_root a1_key a2_s (fun o0 => o0 = true) := by
 unfold qdb
 refine ⟨fun _ => rfl, fun hw => ⟨fun _ => rfl, fun hk => ?_⟩⟩
 obtain ⟨hn, hx⟩ := qsP hw
 have s1 : ∀ x ∈ a2_s.2, x.2.1.1.length + x.2.1.2.length ≤ 35184372088832 ∧ x.2.2.length ≤ 65536 := fun x h => ⟨by have := (hx x h).1; omega, by have := (hx x h).2; omega⟩
 have s2 : ∀ x ∈ a2_s.2, x.2.1.1.length + x.2.1.2.length ≤ 70368744177664 ∧ x.2.2.length ≤ 65536 := fun x h => ⟨by have := (hx x h).1; omega, by have := (hx x h).2; omega⟩
 have hE : qaN a0_root a1_key a2_s = 0 ∨ qaN a0_root a1_key a2_s = 10 := by
  unfold qaN
  split
  ·exact .inr rfl
  ·exact .inl rfl
 have hd : ∀ (i : Decidable (a2_s = a2_s)), @decide (a2_s = a2_s) i = true := fun i => decide_eq_true rfl
 refine ⟨⟨by omega, s1⟩, fun _ => ⟨s2, fun _ _ => ⟨s1, fun _ => ⟨fun h => absurd rfl h, fun _ => ⟨fun h0 => ⟨fun h1 => ?_, fun _ => ⟨fun h => absurd rfl h, fun _ => ⟨fun h => absurd rfl h, fun _ => ⟨fun _ => rfl, fun h => ?_⟩⟩⟩⟩, fun h0 => ⟨fun h => absurd rfl h, fun _ => ⟨fun h => absurd rfl h, fun _ => ⟨fun _ => rfl, fun h => ?_⟩⟩⟩⟩⟩⟩⟩⟩
 ·exact absurd hE (fun h => h.elim h0 h1)
 ·rw [hd] at h; cases h
 ·rw [hd] at h; cases h
theorem qif : (∀ a, qb4.pre a → PM.wfP qb4.pm a (fvc qf4 200 7 qb4 a (eqO qb4 a))) = (∀ a : (List UInt8) × (List UInt8) × (Int × List (Int × ((List UInt8) × List UInt8) × List (List UInt8))) × Unit, True → (Ty.kd (.arr 32 .byte)).wf a.1 → (Ty.kd (.sl .byte)).wf a.2.1 → (Ty.kd (.pr (.int .i64) (.sl (.pr (.int .i64) (.pr (.pr (.sl .byte) (.sl .byte)) (.sl (.arr 32 .byte))))))).wf a.2.2.1 → qdb a.1 a.2.1 a.2.2.1 (fun o0 => o0 = true)) := by kernel_rfl
theorem qjn : qb4.valid Try.prog 7 := qar (X := qf4) (qaH qai (fun b hb => by cases hb; exact qap) qaq ⟨qw4, qoJ, qtX, qmo, qt0, qrd, trivial⟩) 200 (qif.mpr fun a hp w_0 w_1 w_2 => @qig a.1 a.2.1 a.2.2.1 w_0 w_1 w_2)
end Go.Proofs.Ytmjjkpiglbpkhaa

set_option linter.unusedVariables false
namespace Go.Proofs.Ytmjjkpiglbpkhaa
open Go Go.RowKit Go.Inc Go.ChangeShapes Go.WideShapes Go.ChangeAt
theorem qwJ {H : Type} (d : DataW H) : 1 ≤ Rows.uptoBulk d := by
 cases d with
 | lit l => cases l <;> simp [Rows.uptoBulk]
 | nil => simp [Rows.uptoBulk]
 | ptr d => simp [Rows.uptoBulk]
 | slice elems spare => simp [Rows.uptoBulk]
 | agg parts => simp [Rows.uptoBulk]
 | iface t d => simp [Rows.uptoBulk]
 | map entries => simp [Rows.uptoBulk]
 | held h => simp [Rows.uptoBulk]
theorem qlh {H : Type} {d : DataW H} {l : List (DataW H)} (h : d ∈ l) : Rows.uptoBulk d ≤ Rows.uptoBulkAll l := by
 induction l with
 | nil => cases h
 | cons x r ih =>
   simp only [Rows.uptoBulkAll]
   cases List.mem_cons.1 h with
   | inl e => subst e; omega
   | inr e => have := ih e; omega
theorem qjU {H : Type} (l : List (DataW H)) : l.length ≤ Rows.uptoBulkAll l := by
 induction l with
 | nil => simp [Rows.uptoBulkAll]
 | cons x r ih => have := qwJ x; simp only [Rows.uptoBulkAll, List.length_cons]; omega
theorem qsu {H : Type} {l : List (DataW H)} (hk : Rows.uptoSmall H l = true) : Rows.uptoBulkAll l ≤ 1048576 := by
 simpa [Rows.uptoSmall] using hk
def qeJ (w : World) : Ghost := fun b => match w.heap[b]? with
 | some (.cells c t _) => some (t, c.toList)
 | _ => none
theorem Models.ofW (w : World) : Models w (qeJ w) := fun b t l h => by
 unfold qeJ at h
 split at h
 ·rename_i c t' fr hh
  cases h
  exact ⟨c, fr, hh, List.prefix_refl _⟩
 ·cases h
section
variable {P : Program} {α β : Type} {k : Kd α} {k' : Kd β} {t e : TypeId} {by_ : Nat} {S : α → Prop} {S' : β → Prop}
def sm0 {α : Type} : α → Prop := fun _ => True
def smL {α : Type} (S : α → Prop) : List α → Prop := fun l => l.length ≤ 1048576 ∧ ∀ x ∈ l, S x
def smP {α β : Type} (S : α → Prop) (T : β → Prop) : α × β → Prop := fun x => S x.1 ∧ T x.2
def Rds (P : Program) (t : TypeId) (k : Kd α) (S : α → Prop) : Prop := ∀ (H : Type) (enc : TypeId × Value → H) (w : World) (base : Nat) (held : Bool) (fuel : Nat) (cs : List Value) (x : DataW H × List MemPlace),
 DataW.trod enc P w base (fun _ => true) held fuel t cs = some x → Rows.uptoBulk x.1 ≤ 1048576 → ∃ a, k.R (qeJ w) a cs ∧ S a
theorem qci (h : TyOk P t k by_) : P.cellsOf t = k.sz := by
 obtain ⟨i, z, hi, hs, _⟩ := h.info
 simp [Program.cellsOf, hi, hs]
theorem quX {ik : IntKind} (ht : P.underlying t = some (.int ik)) : Rds P t (Kd.int ik) sm0 := fun H enc w base held fuel cs x h hb => by
 obtain ⟨n, rfl, _, hw⟩ := DataW.trod_int ht h
 refine ⟨n, ⟨rfl, ?_⟩, trivial⟩
 simpa [Lit.wf] using hw
theorem qsm (ht : P.underlying t = some (.int .u8)) : Rds P t Kd.byte sm0 := fun H enc w base held fuel cs x h hb => by
 obtain ⟨n, rfl, _, hw⟩ := DataW.trod_int ht h
 have hw : 0 ≤ n ∧ n ≤ 255 := by simpa [Lit.wf, IntKind.min, IntKind.max, IntKind.signed, IntKind.bits] using hw
 refine ⟨UInt8.ofNat n.toNat, ?_, trivial⟩
 show [Value.int .u8 n] = [.int .u8 _]
 congr 2
 have : (UInt8.ofNat n.toNat).toNat = n.toNat := by simp; omega
 omega
theorem qgW {w : World} {base n : Nat} {a : Addr} {cs : List Value} (h : w.cells? base a n = some cs) (hn : 0 < n) :
 a.spot = none ∧ ∃ e l, qeJ w a.block = some (e, l) ∧ a.off + n ≤ l.length ∧ (l.drop a.off).take n = cs := by
 unfold World.cells? at h
 split at h
 case isFalse => cases h
 case isTrue hb =>
 have hl := mapM_some_length h
 have hg := fun i (hi : i < n) => mapM_some_get h i i (by simp [hi])
 have h0 := hg 0 hn
 have hc0 : 0 < cs.length := by rw [hl]; simpa using hn
 rw [List.getElem?_eq_getElem hc0] at h0
 unfold World.cell? at h0
 have ea : ∀ i, (a.add i).block = a.block := fun i => by unfold Addr.add; split <;> rfl
 have eo : ∀ i, (a.add i).off = a.off + i := fun i => by unfold Addr.add; split <;> simp_all
 have ha0 : a.add 0 = a := by simp [Addr.add]
 rw [ha0] at h0
 cases hh : w.heap[a.block]? with
 | none => rw [hh] at h0; cases h0
 | some o =>
   rw [hh] at h0
   cases o with
   | cells c e fr =>
     simp only at h0
     split at h0
     ·cases h0
     ·rename_i hs
      have hs : a.spot = none := by simpa using hs
      refine ⟨hs, e, c.toList, by simp [qeJ, hh], ?_⟩
      have hgc : ∀ i, i < n → c[a.off + i]? = cs[i]? := fun i hi => by
       have := hg i hi
       unfold World.cell? at this
       rw [ea, eo, hh] at this
       have hs' : (a.add i).spot.isSome = false := by unfold Addr.add; split <;> simp_all
       simpa [hs'] using this
      have hlen : cs.length = n := by rw [hl]; simp
      have hbound : a.off + n ≤ c.toList.length := by
       have h1 := hgc (n - 1) (by omega)
       rw [List.getElem?_eq_getElem (by omega)] at h1
       have := (Array.getElem?_eq_some_iff.1 h1).1
       simp only [Array.length_toList]
       omega
      refine ⟨hbound, ?_⟩
      apply List.ext_getElem?
      intro i
      rcases Nat.lt_or_ge i n with hi | hi
      ·rw [List.getElem?_take, if_pos hi, List.getElem?_drop, ← hgc i hi]
       simp
      ·rw [List.getElem?_take, if_neg (by omega), List.getElem?_eq_none (by omega)]
   | _ => simp at h0
theorem qky {R : α → List Value → Prop} : ∀ (n : Nat) (f : Nat → List Value), (∀ i, i < n → ∃ a, R a (f i) ∧ S a) → ∃ l, l.length = n ∧ RL R l ((List.range n).map f).flatten ∧ ∀ x ∈ l, S x
 | 0, f, _ => ⟨[], rfl, by simp [RL], by simp⟩
 | n + 1, f, h => by
   obtain ⟨l, hl, hR, hS⟩ := qky n f (fun i hi => h i (by omega))
   obtain ⟨a, ha, hs⟩ := h n (by omega)
   refine ⟨l ++ [a], by simp [hl], ?_, fun x hx => (List.mem_append.1 hx).elim (hS x) (fun h => by rw [List.mem_singleton.1 h]; exact hs)⟩
   rw [List.range_succ]
   simp only [List.map_append, List.map_cons, List.map_nil, List.flatten_append, List.flatten_cons, List.flatten_nil, List.append_nil]
   exact RL.append hR (RL.single ha)
theorem qfR (s : Nat) : ∀ (n : Nat) (l : List Value), n * s ≤ l.length → ((List.range n).map fun i => (l.drop (i * s)).take s).flatten = l.take (n * s)
 | 0, l, _ => by simp
 | n + 1, l, h => by
   have e : (n + 1) * s = n * s + s := Nat.succ_mul n s
   rw [List.range_succ]
   simp only [List.map_append, List.map_cons, List.map_nil, List.flatten_append, List.flatten_cons, List.flatten_nil, List.append_nil]
   rw [qfR s n l (by omega), e, List.take_add]
theorem qpZ (ht : P.underlying t = some (.slice e)) (hT : TyOk P e k by_) (h0 : Nat.blt 0 k.sz = true) (hR : Rds P e k S) : Rds P t (Kd.sl k) (smL S) := fun H enc w base held fuel cs x h hb => by
 have h0 : 0 < k.sz := Nat.le_of_ble_eq_true h0
 rcases DataW.trod_slice ht h with ⟨rfl, rfl⟩ | ⟨a, len, cap, elems, rest, n, _, rfl, rfl, hbs, hl, hm, hlen, hel, _, _⟩
 ·exact ⟨[], ⟨none, 0, rfl, by simp, by simp [LM], by simp, .inl rfl⟩, by simp, by simp⟩
 ·rw [qci hT] at hel
  have hbulk : elems.length ≤ 1048576 := by
   have := qjU (elems.map (·.1))
   simp only [Rows.uptoBulk, List.length_map] at hb this
   omega
  have hparts : ∀ i, i < len → ∃ cs' y, w.cells? base (a.add (i * k.sz)) k.sz = some cs' ∧ DataW.trod enc P w base (fun _ => true) held n e cs' = some y ∧ Rows.uptoBulk y.1 ≤ 1048576 := fun i hi => by
   have h1 := hel i hi
   rw [List.getElem?_eq_getElem (by omega)] at h1
   obtain ⟨cs', h2, h3⟩ := Option.bind_eq_some_iff.1 h1
   refine ⟨cs', _, h2, h3, ?_⟩
   have := qlh (l := elems.map (·.1)) (d := (elems[i]'(by omega)).1) (List.mem_map.2 ⟨_, List.getElem_mem _, rfl⟩)
   simp only [Rows.uptoBulk] at hb
   omega
  rcases Nat.eq_zero_or_pos len with hz | hp
  ·exact ⟨[], ⟨some a, cap, by simp [hz], by simp, by simp [LM], by simp, .inl rfl⟩, by simp, by simp⟩
  ·obtain ⟨cs0, y0, hc0, _, _⟩ := hparts 0 hp
   rw [Nat.zero_mul, show a.add 0 = a by simp [Addr.add]] at hc0
   obtain ⟨hs, e', l, hg, _, _⟩ := qgW hc0 h0
   have ea : a = ⟨a.block, a.off, none⟩ := by cases a; simp_all
   have key : ∀ i, i < len → a.off + i * k.sz + k.sz ≤ l.length ∧ w.cells? base (a.add (i * k.sz)) k.sz = some (((l.drop a.off).drop (i * k.sz)).take k.sz) := fun i hi => by
    obtain ⟨cs', y, hc, _, _⟩ := hparts i hi
    obtain ⟨_, e2, l2, hg2, hle, htk⟩ := qgW hc h0
    rw [ea, qbJ] at hg2 hle htk
    simp only at hg2 hle htk
    rw [hg] at hg2
    cases hg2
    refine ⟨hle, ?_⟩
    rw [hc, List.drop_drop, ← htk]
   have hlast := (key (len - 1) (by omega)).1
   have hall : a.off + len * k.sz ≤ l.length := by
    have : len * k.sz = (len - 1) * k.sz + k.sz := by
     conv => lhs; rw [show len = (len - 1) + 1 by omega]
     exact Nat.succ_mul _ _
    omega
   obtain ⟨xs, hxl, hxR, hxS⟩ := qky (S := S) (R := k.R (qeJ w)) len (fun i => ((l.drop a.off).drop (i * k.sz)).take k.sz) (fun i hi => by
    obtain ⟨cs', y, hc, ht', hb'⟩ := hparts i hi
    rw [(key i hi).2] at hc
    cases hc
    exact hR _ _ _ _ _ _ _ _ ht' hb')
   rw [qfR k.sz len (l.drop a.off) (by rw [List.length_drop]; omega)] at hxR
   refine ⟨xs, ⟨some a, cap, by rw [hxl], by omega, by simp only [LM]; omega, fun x hx => ?_, .inr ⟨a.block, e', l.take a.off, (l.drop a.off).take (len * k.sz), (l.drop a.off).drop (len * k.sz), ?_, ?_, hxR⟩⟩, by omega, hxS⟩
   ·exact RL.all (p := k.wf) (fun _ _ => k.hwf) hxR x hx
   ·rw [List.length_take, Nat.min_eq_left (by omega)]
    exact congrArg some ea
   ·rw [hg, List.append_assoc, List.take_append_drop, List.take_append_drop]
theorem quW {n by_' : Nat} (ht : P.underlying t = some (.array n e)) (hT : TyOk P e k by_) (hT' : TyOk P t (Kd.arr n k) by_') (hR : Rds P e k S) : Rds P t (Kd.arr n k) (smL S) := fun H enc w base held fuel cs x h hb => by
 obtain ⟨xs, m, _, rfl, hlen, hxl, hx⟩ := DataW.trod_array ht h
 rw [qci hT] at hx
 rw [qci hT'] at hlen
 have hlen : cs.length = n * k.sz := hlen
 obtain ⟨l, hl, hlR, hlS⟩ := qky (S := S) (R := k.R (qeJ w)) n (fun i => (cs.drop (i * k.sz)).take k.sz) (fun i hi => by
  have h1 := hx i hi
  rw [List.getElem?_eq_getElem (by omega)] at h1
  refine hR _ _ _ _ _ _ _ _ h1 ?_
  have := qlh (l := xs.map (·.1)) (d := (xs[i]'(by omega)).1) (List.mem_map.2 ⟨_, List.getElem_mem _, rfl⟩)
  simp only [Rows.uptoBulk] at hb
  omega)
 rw [qfR k.sz n cs (by omega), List.take_of_length_le (by omega)] at hlR
 have hbulk : xs.length ≤ 1048576 := by
  have := qjU (xs.map (·.1))
  simp only [Rows.uptoBulk, List.length_map] at hb this
  omega
 exact ⟨l, ⟨hl, hlR⟩, by omega, hlS⟩
def RdsF (P : Program) (fs : List Field) (off : Nat) (k : Kd α) (S : α → Prop) : Prop := ∀ (H : Type) (enc : TypeId × Value → H) (w : World) (base : Nat) (held : Bool) (fuel : Nat) (cs : List Value),
 (∀ f ∈ fs, ∃ x : DataW H × List MemPlace, DataW.trod enc P w base (fun _ => true) held fuel f.type ((cs.drop f.offset).take (P.cellsOf f.type)) = some x ∧ Rows.uptoBulk x.1 ≤ 1048576) → ∃ a, k.R (qeJ w) a ((cs.drop off).take k.sz) ∧ S a
theorem qi7 {f : Field} {off : Nat} (hT : TyOk P f.type k by_) (ho : Nat.beq f.offset off = true) (hR : Rds P f.type k S) : RdsF P [f] off k S := fun H enc w base held fuel cs h => by
 obtain ⟨x, h1, h2⟩ := h f (.head _)
 rw [Nat.eq_of_beq_eq_true ho, qci hT] at h1
 exact hR _ _ _ _ _ _ _ _ h1 h2
theorem qe1 {fs : List Field} {f : Field} {off : Nat} (hT : TyOk P f.type k by_) (ho : Nat.beq f.offset off = true) (hR : Rds P f.type k S) (hF : RdsF P fs (off + k.sz) k' S') : RdsF P (f :: fs) off (Kd.pr k k') (smP S S') := fun H enc w base held fuel cs h => by
 obtain ⟨b, hb, hbS⟩ := hF H enc w base held fuel cs (fun f hf => h f (.tail _ hf))
 obtain ⟨x, h1, h2⟩ := h f (.head _)
 rw [Nat.eq_of_beq_eq_true ho, qci hT] at h1
 obtain ⟨a, ha, haS⟩ := hR _ _ _ _ _ _ _ _ h1 h2
 refine ⟨(a, b), ⟨_, _, ?_, ha, hb⟩, haS, hbS⟩
 show (cs.drop off).take (k.sz + k'.sz) = _
 rw [List.take_add, List.drop_drop]
theorem qfS {fs : Array Field} (ht : P.underlying t = some (.struct fs)) (hT : TyOk P t k by_) (hF : RdsF P fs.toList 0 k S) : Rds P t k S := fun H enc w base held fuel cs x h hb => by
 obtain ⟨xs, n, _, rfl, hlen, hxl, hx⟩ := DataW.trod_struct ht h
 rw [qci hT] at hlen
 obtain ⟨a, ha, haS⟩ := hF H enc w base held n cs (fun f hf => by
  obtain ⟨i, hi, rfl⟩ := List.getElem_of_mem hf
  have hi' : i < fs.size := by simpa using hi
  have h1 := hx i fs[i] (by simp [hi'])
  rw [List.getElem?_eq_getElem (by omega)] at h1
  refine ⟨xs[i]'(by omega), by simpa using h1, ?_⟩
  have := qlh (l := xs.map (·.1)) (d := (xs[i]'(by omega)).1) (List.mem_map.2 ⟨_, List.getElem_mem _, rfl⟩)
  simp only [Rows.uptoBulk] at hb
  omega)
 rw [List.drop_zero, List.take_of_length_le (by omega)] at ha
 exact ⟨a, ha, haS⟩
theorem qi2 {H : Type} {enc : TypeId × Value → H} {w : World} {r : Reach} {b0 base : Nat} {held : Bool} {v : Value} {d : DataW H} {ps : List MemPlace} (hR : Rds P t k S) (hT : TyOk P t k by_)
 (hval : Value.okWide P w r b0 t v) (h : DataW.Trod enc P w base (fun _ => true) held t v d ps) (hb : Rows.uptoBulk d ≤ 1048576) : ∃ a, k.V (qeJ w) a v ∧ S a := by
 obtain ⟨fuel, h⟩ := h
 obtain ⟨a, ha, haS⟩ := hR _ _ _ _ _ _ _ _ h hb
 refine ⟨a, ⟨v.cells.toList, ha, ?_⟩, haS⟩
 obtain ⟨dd, hd, hagg⟩ := hT.desc
 unfold Value.okWide at hval
 rw [hd] at hval
 cases hk : k.agg with
 | true =>
   rw [hk] at hagg
   have : ∃ cs, v = .agg cs := by
    cases dd <;> first | (cases hagg; done) | (obtain ⟨cs, rfl, _⟩ := hval; exact ⟨cs, rfl⟩)
   obtain ⟨cs, rfl⟩ := this
   simp [Value.cells]
 | false =>
   have hlen := k.len ha
   rw [k.hs hk] at hlen
   have hna : ∀ cs, v ≠ .agg cs := fun cs e => by
    subst e
    rw [hk] at hagg
    cases dd <;> first | (cases hagg; done) | (simp [Cell.okWide, hd, Cell.ok] at hval)
   cases v <;> first | rfl | exact absurd rfl (hna _)
end
section
variable {H : Type} {enc : TypeId × Value → H} {P : Program}
theorem qrD {w w' : World} {K K' : Ghost} (h : Ext NX w K w' K') : Below w.heap.size w w' := ⟨h.os, h.tape, h.output, h.size, fun b hb => h.heap b hb (fun x => x)⟩
theorem qgc {W W' : World} {sp : Nat → Bool} (hl : laidOutB P = true) (hb : Below W.heap.size W W') : ∀ {ts : List TypeId} {vs : List Value} {ds : List (DataW H)} {ps : List MemPlace},
 (ts.all fun t => P.readableRec t && decide (t < P.types.size)) = true → DataW.TrodAll enc P W 0 (fun _ => true) true ts vs ds ps → (∀ p ∈ ps, p.block < W.heap.size) → (∀ p ∈ ps, sp p.block = true) → DataW.TrodAll enc P W' 0 sp true ts vs ds ps
 | [], [], [], ps, _, h, _, _ => h
 | t :: ts, v :: vs, d :: ds, ps, hr, ⟨p, q, h1, h2, e⟩, hlt, hs => by
   subst e
   simp only [List.all_cons, Bool.and_eq_true, decide_eq_true_eq] at hr
   exact ⟨p, q, WideElems.Trod_stays hl hr.1.1 hr.1.2 h1 (fun x hx => hb.same (hlt x (List.mem_append.2 (.inl hx)))) (fun x hx => hs x (List.mem_append.2 (.inl hx))),
    qgc hl hb (ts := ts) hr.2 h2 (fun x hx => hlt x (List.mem_append.2 (.inr hx))) (fun x hx => hs x (List.mem_append.2 (.inr hx))), rfl⟩
 | [], _ :: _, _, _, _, h, _, _ => h.elim
 | [], [], _ :: _, _, _, h, _, _ => h.elim
 | _ :: _, [], _, _, _, h, _, _ => h.elim
 | _ :: _, _ :: _, [], _, _, h, _, _ => h.elim
theorem qpU {f : Func} {s : ChangeSpec} {apart fresh handsOn again : Bool} {W W' : World} {args : Array Value} {ds gs : List (DataW H)} {before : List MemPlace} {tb : TypeId}
 (hW : DataW.Whole enc P f.params.toList s.vars apart W args.toList ds gs before) (hl : laidOutB P = true) (hr : (f.params.toList.all fun t => P.readableRec t && decide (t < P.types.size)) = true)
 (hrt : f.resultTypes = #[tb]) (htb : P.underlying tb = some .bool) (hs : s.vars = []) (hv : (s.fn H (ds ++ gs)).vars = []) (hres : (s.fn H (ds ++ gs)).results = [.lit (.bool true)]) (hargs : (s.fn H (ds ++ gs)).args = ds)
 (hb : Below W.heap.size W W') : s.post enc P f apart fresh handsOn again W args (.bool true) W' := by
 have hlt : ∀ p ∈ before, p.block < W.heap.size := fun p hp => hW.lt p hp
 have hW' := hW
 obtain ⟨p, q, hA, hV, e, hz, hn⟩ := hW'
 rw [hs] at hV
 have hq : q = [] ∧ gs = [] := by
  cases gs with
  | nil => exact ⟨hV, rfl⟩
  | cons g r => exact hV.elim
 obtain ⟨rfl, rfl⟩ := hq
 rw [List.append_nil] at e
 subst e
 have ht : ∀ (b : Nat) (sp : Nat → Bool) (hd : Bool), DataW.TrodAll enc P W' b sp hd f.resultTypes.toList ((Value.bool true).resultList f.resultTypes.size) (s.fn H (ds ++ [])).results [] := fun b sp hd => by
  rw [hres, hrt]
  exact ⟨[], [], shut_bool htb _, rfl, rfl⟩
 have ha : ∀ sp : Nat → Bool, (∀ p ∈ before, sp p.block = true) → DataW.TrodAll enc P W' 0 sp true f.params.toList args.toList (s.fn H (ds ++ [])).args before := fun sp hsp => by
  rw [hargs]
  exact qgc hl hb hr hA hlt hsp
 have hvs : ∀ sp : Nat → Bool, DataW.TrodVars enc P W' sp s.vars (s.fn H (ds ++ [])).vars [] := fun sp => by
  rw [hs, hv]
  rfl
 have hold : ∀ p ∈ before, (fun b => decide (b < W.heap.size)) p.block = true := fun p hp => by simpa using hlt p hp
 refine ⟨ds, [], before, [], before, [], hW, ht _ _ _, ha _ hold, hvs _, World.keptBut_mono (fun p hp => ⟨hp, ?_⟩) (hb.frame (· ∈ before)), fun _ => ?_⟩
 ·exact Or.inr (by simpa using hp)
 ·refine ⟨?_, _, _, ([] ++ before) ++ [], ⟨[] ++ before, [], trodAll_append (ha _ (fun _ _ => rfl)) (ht _ _ _), hvs _, rfl, ?_, ?_⟩, ?_⟩
  ·exact ok_one hrt rfl (okWide_bool_mk htb _)
  ·intro b off hp
   have hin : MemPlace.cell b off ∈ before := by simpa using hp
   rw [hb.frozen (hlt _ hin)]
   exact hz b off hin
  ·intro hap
   simpa using hn hap
  ·intro p hp _
   simpa using hp
end
end Go.Proofs.Ytmjjkpiglbpkhaa
