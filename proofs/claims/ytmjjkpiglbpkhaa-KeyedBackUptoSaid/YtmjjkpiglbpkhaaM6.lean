/- S5, E30, S6, S7, S8, P21, P22, S9, S10, S11, P7, P23. -/
import Derived.Test.YtmjjkpiglbpkhaaM5
import Derived.Test.YtmjjkpiglbpkhaaChecked
import Derived.Test.YtmjjkpiglbpkhaaM4
import Derived.Test.YtmjjkpiglbpkhaaRows
import Derived.WalkKit
import Derived.ProofKit
import Derived.OpenShut
import Derived.JoinedCond
import Derived.Carry
set_option linter.unusedVariables false
set_option maxRecDepth 100000
set_option maxHeartbeats 20000000
namespace Go.Proofs.Ytmjjkpiglbpkhaa
open Go Go.RowKit Go.Inc
noncomputable def qg9 : Ctr := ⟨[.v (.sl (.pr (.sl .byte) (.sl .byte)))], [.v .bool], none, fun a => (fun (a0_l : List ((List UInt8) × List UInt8)) => (((mayK a0_l), ()), (()))) a.1⟩
noncomputable def qsW : Fx := ⟨seat, some bkT, fns, [(75, qqs)], [], [], [(4, [], [.o 0 2, .o 1 2, .o 2 2, .o 3 2, .o 4 2, .o 5 2, .o 6 2, .o 7 2, .o 8 2, .o 9 2, .o 10 2, .o 11 0, .o 12 2])]⟩
def qld (a0_l : List ((List UInt8) × List UInt8)) (Q : Bool → Prop) : Prop :=
 ∃ (x0 : Bool → Int → Prop), ∃ (x1 : Bool → Int → Nat), x0 false (1 : Int) ∧ ∀ (x2 : Bool) (x3 : Int), x0 x2 x3 → (Kd.int IntKind.i64).wf x3 → (x3 < (a0_l.length : Int) → ((0 : Int) ≤ IntKind.i64.wrap (x3 - (1 : Int)) ∧ IntKind.i64.wrap (x3 - (1 : Int)) < (a0_l.length : Int)) ∧ ((0 : Int) ≤ x3 ∧ x3 < (a0_l.length : Int)) ∧ ((Ty.int IntKind.i64).kd.wf (cmpB (ix a0_l (IntKind.i64.wrap (x3 - (1 : Int)))).fst (ix a0_l x3).fst) → ((0 : Int) ≤ cmpB (ix a0_l (IntKind.i64.wrap (x3 - (1 : Int)))).fst (ix a0_l x3).fst → Q false) ∧ (¬(0 : Int) ≤ cmpB (ix a0_l (IntKind.i64.wrap (x3 - (1 : Int)))).fst (ix a0_l x3).fst → x3 < (9223372036854775807 : Int) ∧ x0 x2 (x3 + (1 : Int)) ∧ x1 x2 (x3 + (1 : Int)) < x1 x2 x3))) ∧ (¬x3 < (a0_l.length : Int) → Q true)
theorem quA {a0_l : List ((List UInt8) × List UInt8)} (w_0 : (Ty.kd (.sl (.pr (.sl .byte) (.sl .byte)))).wf a0_l) : qld a0_l (fun o0 => o0 = (mayK a0_l)) := by
 unfold qld
 have hl : (a0_l.length : Int) ≤ 281474976710656 := by have := w_0.1; unfold LM at this; omega
 refine ⟨fun _ i => 1 ≤ i ∧ ∀ (t : Nat) (h : t + 1 < a0_l.length), (t : Int) + 1 < i → sless a0_l[t].1 a0_l[t + 1].1 = true, fun _ i => ((a0_l.length : Int) - i).toNat, ⟨by omega, fun t h ht => by omega⟩, ?_⟩
 rintro b i ⟨h1, h2⟩ hw
 refine ⟨fun hlt => ?_, fun hge => ?_⟩
 ·obtain ⟨j, rfl⟩ : ∃ j : Nat, i = ((j + 1 : Nat) : Int) := ⟨i.toNat - 1, by omega⟩
  have hj : j + 1 < a0_l.length := by omega
  have e : IntKind.i64.wrap (((j + 1 : Nat) : Int) - 1) = (j : Int) := by rw [show ((j + 1 : Nat) : Int) - 1 = (j : Int) from by omega]; exact qan (wf64 (by omega) (by omega))
  rw [e, ixN (by omega : j < a0_l.length), ixN hj]
  refine ⟨⟨by omega, by omega⟩, ⟨by omega, by omega⟩, fun _ => ⟨fun hc => ?_, fun hc => ⟨by omega, ⟨by omega, fun t ht hti => ?_⟩, by dsimp only; omega⟩⟩⟩
  ·cases hm : mayK a0_l with
   | false => rfl
   | true =>
     have := qcT.2 (qcv (by omega) hj hm (Nat.lt_succ_self j))
     omega
  ·by_cases he : t = j
   ·subst he
    exact qcT.1 (by omega)
   ·exact h2 t ht (by omega)
 ·cases hm : mayK a0_l with
  | true => rfl
  | false =>
    obtain ⟨t, ht, hs⟩ := qh3 hm
    rw [h2 t ht (by omega)] at hs
    cases hs
theorem quz : (∀ a, qg9.pre a → PM.wfP qg9.pm a (fvc qsW 200 29 qg9 a (eqO qg9 a))) = (∀ a : (List ((List UInt8) × List UInt8)) × Unit, True → (Ty.kd (.sl (.pr (.sl .byte) (.sl .byte)))).wf a.1 → qld a.1 (fun o0 => o0 = (mayK (a.1)))) := by kernel_rfl
theorem qsX : qg9.valid Try.prog 29 := qat (X := qsW) (qaK qam (fun b hb => by cases hb; exact qar) qas ⟨qtg, trivial⟩) 200 (quz.mpr fun a hp w_0 => @quA a.1 w_0)
noncomputable def qeC : Ctr := ⟨[.bk 146 true, .v (.pr (.sl .byte) (.sl .byte))], [.v (.arr 32 .byte)], some (fun a => (fun (a0_k : qak) (a1_p : (List UInt8) × List UInt8) => (a1_p.1.length + a1_p.2.length ≤ 70368744177664 ∧ qaJ a0_k : Prop)) a.1 a.2.1), fun a => (fun (a0_k : qak) (a1_p : (List UInt8) × List UInt8) => (((qa0 a1_p), ()), ((qaC a0_k 4 [a1_p.1, a1_p.2]), ()))) a.1 a.2.1⟩
noncomputable def qpt : Fx := ⟨seat, some bkT, fns, [(67, Of_C)], [], [], []⟩
def qi1 (a0_k : qak) (a1_p : (List UInt8) × List UInt8) (Q : (List UInt8) → qak → Prop) : Prop :=
 ((1 : Nat) + qaj (a1_p.fst :: a1_p.snd :: ([] : List (List UInt8))) ≤ (140737488355328 : Nat) ∧ qaJ a0_k) ∧ ((Ty.arr (32 : Nat) Ty.byte).kd.wf (qaw (4 : Int) (a1_p.fst :: a1_p.snd :: ([] : List (List UInt8)))) → Q (qaw (4 : Int) (a1_p.fst :: a1_p.snd :: ([] : List (List UInt8)))) (qaC a0_k (4 : Int) (a1_p.fst :: a1_p.snd :: ([] : List (List UInt8)))))
theorem qrU {a0_k : qak} {a1_p : (List UInt8) × List UInt8} (w_0 : (Ty.kd (.pr (.sl .byte) (.sl .byte))).wf a1_p) (hp : a1_p.1.length + a1_p.2.length ≤ 70368744177664 ∧ qaJ a0_k) : qi1 a0_k a1_p (fun o0 o1 => o0 = (qa0 a1_p) ∧ o1 = (qaC a0_k 4 [a1_p.1, a1_p.2])) := by
 unfold qi1
 exact ⟨⟨by simp [qaj]; omega, hp.2⟩, fun _ => ⟨rfl, rfl⟩⟩
theorem qrT : (∀ a, qeC.pre a → PM.wfP qeC.pm a (fvc qpt 200 79 qeC a (eqO qeC a))) = (∀ a : qak × ((List UInt8) × List UInt8) × Unit, ((a.2.1).1.length + (a.2.1).2.length ≤ 70368744177664 ∧ qaJ (a.1)) → (Ty.kd (.pr (.sl .byte) (.sl .byte))).wf a.2.1 → qi1 a.1 a.2.1 (fun o0 o1 => o0 = (qa0 (a.2.1)) ∧ o1 = (qaC (a.1) 4 [(a.2.1).1, (a.2.1).2]))) := by kernel_rfl
theorem qpu : qeC.valid Try.prog 79 := qat (X := qpt) (qaK qam (fun b hb => by cases hb; exact qar) qas ⟨Of_k, trivial⟩) 200 (qrT.mpr fun a hp w_0 => @qrU a.1 a.2.1 w_0 hp)
noncomputable def qct : Ctr := ⟨[.bk 146 true, .v (.sl (.pr (.sl .byte) (.sl .byte)))], [.ow 24 (.arr 32 .byte)], some (fun a => (fun (a0_k : qak) (a1_l : List ((List UInt8) × List UInt8)) => ((a1_l.length ≤ 65536 ∧ (∀ p ∈ a1_l, p.1.length + p.2.length ≤ 70368744177664)) ∧ qah a0_k a1_l.length : Prop)) a.1 a.2.1), fun a => (fun (a0_k : qak) (a1_l : List ((List UInt8) × List UInt8)) => (((qao a1_l), ()), ((qaR a0_k a1_l), ()))) a.1 a.2.1⟩
noncomputable def qjZ : Fx := ⟨seat, some bkT, fns, [(79, qeC)], [], [(3, [0], [])], []⟩
def qfO (a0_k : qak) (a1_l : List ((List UInt8) × List UInt8)) (Q : (List (List UInt8)) → qak → Prop) : Prop :=
 ∃ (x0 : List (List UInt8) → Int → qak → Prop), ∃ (x1 : List (List UInt8) → Int → qak → Nat), x0 ([] : List (List UInt8)) (0 : Int) a0_k ∧ ∀ (x2 : List (List UInt8)) (x3 : Int) (x4 : qak), x0 x2 x3 x4 → (Ty.arr (32 : Nat) Ty.byte).kd.sl.wf x2 → (Kd.int IntKind.i64).wf x3 → (x3 < (a1_l.length : Int) → ((0 : Int) ≤ x3 ∧ x3 < (a1_l.length : Int)) ∧ ((ix a1_l x3).fst.length + (ix a1_l x3).snd.length ≤ (70368744177664 : Nat) ∧ qaJ x4) ∧ ((Ty.arr (32 : Nat) Ty.byte).kd.wf (qa0 (ix a1_l x3)) → (x2.length + (qa0 (ix a1_l x3) :: ([] : List (List UInt8))).length) * (32 : Nat) ≤ (140737488355328 : Nat) ∧ x3 < (9223372036854775807 : Int) ∧ x0 (x2 ++ qa0 (ix a1_l x3) :: ([] : List (List UInt8))) (x3 + (1 : Int)) (qaC x4 (4 : Int) ((ix a1_l x3).fst :: (ix a1_l x3).snd :: ([] : List (List UInt8)))) ∧ x1 (x2 ++ qa0 (ix a1_l x3) :: ([] : List (List UInt8))) (x3 + (1 : Int)) (qaC x4 (4 : Int) ((ix a1_l x3).fst :: (ix a1_l x3).snd :: ([] : List (List UInt8)))) < x1 x2 x3 x4)) ∧ (¬x3 < (a1_l.length : Int) → Q x2 x4)
theorem qni {a0_k : qak} {a1_l : List ((List UInt8) × List UInt8)} (w_0 : (Ty.kd (.sl (.pr (.sl .byte) (.sl .byte)))).wf a1_l) (hp : (a1_l.length ≤ 65536 ∧ (∀ p ∈ a1_l, p.1.length + p.2.length ≤ 70368744177664)) ∧ qah a0_k a1_l.length) : qfO a0_k a1_l (fun o0 o1 => o0 = (qao a1_l) ∧ o1 = (qaR a0_k a1_l)) := by
 unfold qfO
 obtain ⟨⟨hl, hs⟩, hb⟩ := hp
 refine ⟨fun out i k => ∃ j : Nat, i = (j : Int) ∧ j ≤ a1_l.length ∧ out = qao (a1_l.take j) ∧ k = qaR a0_k (a1_l.take j) ∧ qah k (a1_l.length - j), fun _ i _ => ((a1_l.length : Int) - i).toNat, ⟨0, rfl, Nat.zero_le _, rfl, rfl, hb⟩, ?_⟩
 rintro out i k ⟨j, rfl, hj, rfl, rfl, hk⟩ _ _
 refine ⟨fun hlt => ?_, fun hge => ?_⟩
 ·have hj' : j < a1_l.length := by omega
  have e : a1_l.take (j + 1) = a1_l.take j ++ [a1_l[j]] := by rw [List.take_add_one, List.getElem?_eq_getElem hj']; rfl
  have hu : qah (qaR a0_k (a1_l.take j)) ((a1_l.length - (j + 1)) + 1) := hk.le (by omega)
  rw [ixN hj']
  refine ⟨⟨by omega, by omega⟩, ⟨hs _ (List.getElem_mem hj'), hu.room⟩, fun _ => ⟨by rw [qaP, List.length_take]; simp; omega, by omega, ⟨j + 1, rfl, hj', ?_, ?_, hu.of _ _⟩, by dsimp only; omega⟩⟩
  ·rw [e]; unfold qao; rw [List.map_append]; rfl
  ·rw [e]; unfold qaR; rw [List.foldl_append]; rfl
 ·obtain rfl : j = a1_l.length := by omega
  rw [List.take_length]
  exact ⟨rfl, rfl⟩
theorem qnh : (∀ a, qct.pre a → PM.wfP qct.pm a (fvc qjZ 200 81 qct a (eqO qct a))) = (∀ a : qak × (List ((List UInt8) × List UInt8)) × Unit, (((a.2.1).length ≤ 65536 ∧ (∀ p ∈ (a.2.1), p.1.length + p.2.length ≤ 70368744177664)) ∧ qah (a.1) (a.2.1).length) → (Ty.kd (.sl (.pr (.sl .byte) (.sl .byte)))).wf a.2.1 → qfO a.1 a.2.1 (fun o0 o1 => o0 = (qao (a.2.1)) ∧ o1 = (qaR (a.1) (a.2.1)))) := by kernel_rfl
theorem qj0 : qct.valid Try.prog 81 := qat (X := qjZ) (qaK qam (fun b hb => by cases hb; exact qar) qas ⟨qpu, trivial⟩) 200 (qnh.mpr fun a hp w_0 => @qni a.1 a.2.1 w_0 hp)
noncomputable def qdw : Ctr := ⟨[.bk 146 true, .v (.int .i64), .v (.arr 32 .byte)], [.v (.arr 32 .byte)], some (fun a => (fun (a0_k : qak) (a1_n : Int) (a2_t : List UInt8) => (0 ≤ a1_n ∧ qaJ a0_k : Prop)) a.1 a.2.1 a.2.2.1), fun a => (fun (a0_k : qak) (a1_n : Int) (a2_t : List UInt8) => (((qcB a1_n a2_t), ()), ((qaC a0_k 5 [numB a1_n.toNat, a2_t]), ()))) a.1 a.2.1 a.2.2.1⟩
noncomputable def qmq : Fx := ⟨seat, some bkT, fns, [(62, qjz), (67, Of_C)], [], [], [(1, [0, 1, 2], [.o 0 3, .o 1 2, .o 2 2, .o 5 2, .o 3 0, .o 4 0, .o 6 1, .o 7 1, .o 8 1])]⟩
def qhb (a0_k : qak) (a1_n : Int) (a2_t : List UInt8) (Q : (List UInt8) → qak → Prop) : Prop :=
 ([] : List UInt8).length + (9 : Nat) * (IntKind.u64.wrap a1_n :: ([] : List Int)).length ≤ (140737488355328 : Nat) ∧ (Ty.byte.kd.sl.wf (([] : List UInt8) ++ qag (IntKind.u64.wrap a1_n :: ([] : List Int))) → ((1 : Nat) + qaj ((([] : List UInt8) ++ qag (IntKind.u64.wrap a1_n :: ([] : List Int))) :: a2_t :: ([] : List (List UInt8))) ≤ (140737488355328 : Nat) ∧ qaJ a0_k) ∧ ((Ty.arr (32 : Nat) Ty.byte).kd.wf (qaw (5 : Int) ((([] : List UInt8) ++ qag (IntKind.u64.wrap a1_n :: ([] : List Int))) :: a2_t :: ([] : List (List UInt8)))) → Q (qaw (5 : Int) ((([] : List UInt8) ++ qag (IntKind.u64.wrap a1_n :: ([] : List Int))) :: a2_t :: ([] : List (List UInt8)))) (qaC a0_k (5 : Int) ((([] : List UInt8) ++ qag (IntKind.u64.wrap a1_n :: ([] : List Int))) :: a2_t :: ([] : List (List UInt8))))))
theorem qpx {a0_k : qak} {a1_n : Int} {a2_t : List UInt8} (w_0 : (Ty.kd (.int .i64)).wf a1_n) (w_1 : (Ty.kd (.arr 32 .byte)).wf a2_t) (hp : 0 ≤ a1_n ∧ qaJ a0_k) : qhb a0_k a1_n a2_t (fun o0 o1 => o0 = (qcB a1_n a2_t) ∧ o1 = (qaC a0_k 5 [numB a1_n.toNat, a2_t])) := by
 have e : IntKind.u64.wrap a1_n = a1_n := qan ⟨hp.1, by have : a1_n ≤ 9223372036854775807 := w_0.2; show _ ≤ (18446744073709551615 : Int); omega⟩
 have hl := qaA (n := a1_n.toNat) (by have : a1_n ≤ 9223372036854775807 := w_0.2; omega)
 have ht : a2_t.length = 32 := w_1.1
 unfold qhb
 rw [e]
 refine ⟨by simp, fun _ => ⟨⟨by simp [qaj, qag]; omega, hp.2⟩, fun _ => ?_⟩⟩
 simp [qag, qcB]
theorem qpw : (∀ a, qdw.pre a → PM.wfP qdw.pm a (fvc qmq 200 80 qdw a (eqO qdw a))) = (∀ a : qak × Int × (List UInt8) × Unit, (0 ≤ (a.2.1) ∧ qaJ (a.1)) → (Ty.kd (.int .i64)).wf a.2.1 → (Ty.kd (.arr 32 .byte)).wf a.2.2.1 → qhb a.1 a.2.1 a.2.2.1 (fun o0 o1 => o0 = (qcB (a.2.1) (a.2.2.1)) ∧ o1 = (qaC (a.1) 5 [numB (a.2.1).toNat, (a.2.2.1)]))) := by kernel_rfl
theorem qmr : qdw.valid Try.prog 80 := qat (X := qmq) (qaK qam (fun b hb => by cases hb; exact qar) qas ⟨qty, Of_k, trivial⟩) 200 (qpw.mpr fun a hp w_0 w_1 => @qpx a.1 a.2.1 a.2.2.1 w_0 w_1 hp)
noncomputable def qfM : Ctr := ⟨[.bk 146 true, .v (.sl (.pr (.sl .byte) (.sl .byte)))], [.v (.arr 32 .byte)], some (fun a => (fun (a0_k : qak) (a1_l : List ((List UInt8) × List UInt8)) => ((a1_l.length ≤ 65536 ∧ (∀ p ∈ a1_l, p.1.length + p.2.length ≤ 70368744177664)) ∧ qah a0_k (2 * a1_l.length + 2) : Prop)) a.1 a.2.1), fun a => (fun (a0_k : qak) (a1_l : List ((List UInt8) × List UInt8)) => (((qa2 a1_l), ()), ((qhm a0_k a1_l), ()))) a.1 a.2.1⟩
noncomputable def qpm : Fx := ⟨seat, some bkT, fns, [(81, qct), (58, qiw), (58, qlP), (80, qdw)], [], [], []⟩
def qiZ (a0_k : qak) (a1_l : List ((List UInt8) × List UInt8)) (Q : (List UInt8) → qak → Prop) : Prop :=
 ((a1_l.length ≤ (65536 : Nat) ∧ ∀ (x0 : List UInt8 × List UInt8), x0 ∈ a1_l → x0.fst.length + x0.snd.length ≤ (70368744177664 : Nat)) ∧ qah a0_k a1_l.length) ∧ ((Ty.arr (32 : Nat) Ty.byte).kd.sl.wf (qao a1_l) → ((qao a1_l).length ≤ (1048576 : Nat) ∧ qah (qaR a0_k a1_l) (qao a1_l).length) ∧ ((Ty.arr (32 : Nat) Ty.byte).kd.wf (qaL (qao a1_l)) → ((0 : Int) ≤ (a1_l.length : Int) ∧ qaJ (qaV (qaR a0_k a1_l) (qao a1_l))) ∧ ((Ty.arr (32 : Nat) Ty.byte).kd.wf (qcB (a1_l.length : Int) (qaL (qao a1_l))) → Q (qcB (a1_l.length : Int) (qaL (qao a1_l))) (qaC (qaV (qaR a0_k a1_l) (qao a1_l)) (5 : Int) (numB (a1_l.length : Int).toNat :: qaL (qao a1_l) :: ([] : List (List UInt8)))))))
theorem qrP {a0_k : qak} {a1_l : List ((List UInt8) × List UInt8)} (w_0 : (Ty.kd (.sl (.pr (.sl .byte) (.sl .byte)))).wf a1_l) (hp : (a1_l.length ≤ 65536 ∧ (∀ p ∈ a1_l, p.1.length + p.2.length ≤ 70368744177664)) ∧ qah a0_k (2 * a1_l.length + 2)) : qiZ a0_k a1_l (fun o0 o1 => o0 = (qa2 a1_l) ∧ o1 = (qhm a0_k a1_l)) := by
 unfold qiZ
 obtain ⟨⟨hl, hs⟩, hb⟩ := hp
 have hb1 : qah (qaR a0_k a1_l) (a1_l.length + 2) := qah.leaves (l := a1_l) (n := a1_l.length + 2) (hb.le (by omega))
 refine ⟨⟨⟨hl, hs⟩, hb.le (by omega)⟩, fun _ => ⟨⟨by rw [qaP]; omega, by rw [qaP]; exact hb1.le (by omega)⟩, fun _ => ⟨⟨by omega, ?_⟩, fun _ => ⟨rfl, rfl⟩⟩⟩⟩
 by_cases h0 : 1 ≤ (qao a1_l).length
 ·exact (qah.root (n := 0) (qao a1_l).length (Nat.le_refl _) h0 (hb1.le (by rw [qaP]; omega))).room
 ·have e : qao a1_l = [] := List.length_eq_zero_iff.1 (by omega)
  rw [e, qbe]
  exact ((hb1.le (by omega) : qah (qaR a0_k a1_l) (0 + 1)).of _ _).room
theorem qrO : (∀ a, qfM.pre a → PM.wfP qfM.pm a (fvc qpm 200 32 qfM a (eqO qfM a))) = (∀ a : qak × (List ((List UInt8) × List UInt8)) × Unit, (((a.2.1).length ≤ 65536 ∧ (∀ p ∈ (a.2.1), p.1.length + p.2.length ≤ 70368744177664)) ∧ qah (a.1) (2 * (a.2.1).length + 2)) → (Ty.kd (.sl (.pr (.sl .byte) (.sl .byte)))).wf a.2.1 → qiZ a.1 a.2.1 (fun o0 o1 => o0 = (qa2 (a.2.1)) ∧ o1 = (qhm (a.1) (a.2.1)))) := by kernel_rfl
theorem qpn : qfM.valid Try.prog 32 := qat (X := qpm) (qaK qam (fun b hb => by cases hb; exact qar) qas ⟨qj0, qkI, qlQ, qmr, trivial⟩) 200 (qrO.mpr fun a hp w_0 => @qrP a.1 a.2.1 w_0 hp)
noncomputable def qdv : Ctr := ⟨[.v (.pr (.sl .byte) (.sl .byte)), .v (.sl .byte)], [.v (.int .i64)], none, fun a => (fun (a0_p : (List UInt8) × List UInt8) (a1_key : List UInt8) => (((cmpB a0_p.1 a1_key), ()), (()))) a.1 a.2.1⟩
noncomputable def qmo : Fx := ⟨seat, some bkT, fns, [(75, qqs)], [], [], []⟩
def qha (a0_p : (List UInt8) × List UInt8) (a1_key : List UInt8) (Q : Int → Prop) : Prop :=
 (Ty.int IntKind.i64).kd.wf (cmpB a0_p.fst a1_key) → Q (cmpB a0_p.fst a1_key)
theorem qpp {a0_p : (List UInt8) × List UInt8} {a1_key : List UInt8} (w_0 : (Ty.kd (.pr (.sl .byte) (.sl .byte))).wf a0_p) (w_1 : (Ty.kd (.sl .byte)).wf a1_key) : qha a0_p a1_key (fun o0 => o0 = (cmpB a0_p.1 a1_key)) := by
 unfold qha
 exact fun _ => rfl
theorem qpo : (∀ a, qdv.pre a → PM.wfP qdv.pm a (fvc qmo 200 83 qdv a (eqO qdv a))) = (∀ a : ((List UInt8) × List UInt8) × (List UInt8) × Unit, True → (Ty.kd (.pr (.sl .byte) (.sl .byte))).wf a.1 → (Ty.kd (.sl .byte)).wf a.2.1 → qha a.1 a.2.1 (fun o0 => o0 = (cmpB (a.1).1 (a.2.1)))) := by kernel_rfl
theorem qmp : qdv.valid Try.prog 83 := qat (X := qmo) (qaK qam (fun b hb => by cases hb; exact qar) qas ⟨qtg, trivial⟩) 200 (qpo.mpr fun a hp w_0 w_1 => @qpp a.1 a.2.1 w_0 w_1)
noncomputable def qhG : Ctr := ⟨[.v (.sl (.pr (.sl .byte) (.sl .byte))), .v (.sl .byte), .fn 83 []], [.v (.int .i64), .v .bool], some (fun a => (fun (a0_x : List ((List UInt8) × List UInt8)) (a1_target : List UInt8) => (mayK a0_x = true ∧ a0_x.length ≤ 1048576 : Prop)) a.1 a.2.1), fun a => (fun (a0_x : List ((List UInt8) × List UInt8)) (a1_target : List UInt8) => ((((lowK a0_x a1_target : Nat) : Int), (isK a0_x a1_target), ()), (()))) a.1 a.2.1⟩
noncomputable def qsu : Fx := ⟨seat, some bkT, fns, [(83, qdv)], [], [], []⟩
def qkt (a0_x : List ((List UInt8) × List UInt8)) (a1_target : List UInt8) (Q : Int → Bool → Prop) : Prop :=
 ∃ (x0 : Int → Int → Prop), ∃ (x1 : Int → Int → Nat), x0 (0 : Int) (a0_x.length : Int) ∧ ∀ (x2 x3 : Int), x0 x2 x3 → (Kd.int IntKind.i64).wf x2 → (Kd.int IntKind.i64).wf x3 → (x2 < x3 → ((0 : Int) ≤ IntKind.i64.wrap (shr IntKind.u64 (IntKind.u64.wrap (IntKind.i64.wrap (x2 + x3))) (1 : Int)) ∧ IntKind.i64.wrap (shr IntKind.u64 (IntKind.u64.wrap (IntKind.i64.wrap (x2 + x3))) (1 : Int)) < (a0_x.length : Int)) ∧ ((Ty.int IntKind.i64).kd.wf (cmpB (ix a0_x (IntKind.i64.wrap (shr IntKind.u64 (IntKind.u64.wrap (IntKind.i64.wrap (x2 + x3))) (1 : Int)))).fst a1_target) → (cmpB (ix a0_x (IntKind.i64.wrap (shr IntKind.u64 (IntKind.u64.wrap (IntKind.i64.wrap (x2 + x3))) (1 : Int)))).fst a1_target < (0 : Int) → x0 (IntKind.i64.wrap (IntKind.i64.wrap (shr IntKind.u64 (IntKind.u64.wrap (IntKind.i64.wrap (x2 + x3))) (1 : Int)) + (1 : Int))) x3 ∧ x1 (IntKind.i64.wrap (IntKind.i64.wrap (shr IntKind.u64 (IntKind.u64.wrap (IntKind.i64.wrap (x2 + x3))) (1 : Int)) + (1 : Int))) x3 < x1 x2 x3) ∧ (¬cmpB (ix a0_x (IntKind.i64.wrap (shr IntKind.u64 (IntKind.u64.wrap (IntKind.i64.wrap (x2 + x3))) (1 : Int)))).fst a1_target < (0 : Int) → x0 x2 (IntKind.i64.wrap (shr IntKind.u64 (IntKind.u64.wrap (IntKind.i64.wrap (x2 + x3))) (1 : Int))) ∧ x1 x2 (IntKind.i64.wrap (shr IntKind.u64 (IntKind.u64.wrap (IntKind.i64.wrap (x2 + x3))) (1 : Int))) < x1 x2 x3))) ∧ (¬x2 < x3 → (x2 < (a0_x.length : Int) → ((0 : Int) ≤ x2 ∧ x2 < (a0_x.length : Int)) ∧ ((Ty.int IntKind.i64).kd.wf (cmpB (ix a0_x x2).fst a1_target) → Q x2 (decide (cmpB (ix a0_x x2).fst a1_target = (0 : Int))))) ∧ (¬x2 < (a0_x.length : Int) → Q x2 false))
theorem qtc {a0_x : List ((List UInt8) × List UInt8)} {a1_target : List UInt8} (w_0 : (Ty.kd (.sl (.pr (.sl .byte) (.sl .byte)))).wf a0_x) (w_1 : (Ty.kd (.sl .byte)).wf a1_target) (hp : mayK a0_x = true ∧ a0_x.length ≤ 1048576) : qkt a0_x a1_target (fun o0 o1 => o0 = ((lowK a0_x a1_target : Nat) : Int) ∧ o1 = (isK a0_x a1_target)) := by
 unfold qkt
 obtain ⟨hm, hl⟩ := hp
 have mid : ∀ i j : Nat, i < j → j ≤ a0_x.length → IntKind.i64.wrap (shr IntKind.u64 (IntKind.u64.wrap (IntKind.i64.wrap ((i : Int) + (j : Int)))) (1 : Int)) = (((i + j) / 2 : Nat) : Int) := fun i j h1 h2 => by
  rw [qan (ik := .i64) (a := (i : Int) + (j : Int)) (wf64 (by omega) (by omega)), show ((i : Int) + (j : Int)) = ((i + j : Nat) : Int) from by omega, qan (ik := .u64) ⟨by show (0 : Int) ≤ _; omega, by show _ ≤ (18446744073709551615 : Int); omega⟩]
  have := qho (n := i + j) (k := 1) (by decide)
  rw [show ((1 : Nat) : Int) = 1 from rfl] at this
  rw [this]
  exact qan (wf64 (by omega) (by omega))
 refine ⟨fun x y => ∃ i j : Nat, x = (i : Int) ∧ y = (j : Int) ∧ i ≤ j ∧ j ≤ a0_x.length ∧ (∀ (t : Nat) (h : t < a0_x.length), t < i → sless a0_x[t].1 a1_target = true) ∧ (∀ (t : Nat) (h : t < a0_x.length), j ≤ t → sless a0_x[t].1 a1_target = false), fun x y => (y - x).toNat, ⟨0, a0_x.length, rfl, rfl, Nat.zero_le _, Nat.le_refl _, fun t h ht => by omega, fun t h ht => by omega⟩, ?_⟩
 rintro x y ⟨i, j, rfl, rfl, hij, hj, h1, h2⟩ _ _
 refine ⟨fun hlt => ?_, fun hge => ?_⟩
 ·have hij' : i < j := by omega
  rw [mid i j hij' hj]
  have b1 : i ≤ (i + j) / 2 := by omega
  have b2 : (i + j) / 2 < j := by omega
  generalize (i + j) / 2 = h at b1 b2 ⊢
  have hh : h < a0_x.length := by omega
  rw [ixN hh]
  have e : IntKind.i64.wrap ((h : Int) + 1) = ((h + 1 : Nat) : Int) := by rw [show (h : Int) + 1 = ((h + 1 : Nat) : Int) from by omega]; exact qan (wf64 (by omega) (by omega))
  rw [e]
  refine ⟨⟨by omega, by omega⟩, fun _ => ⟨fun hc => ⟨⟨h + 1, j, rfl, rfl, by omega, hj, fun t ht hti => ?_, h2⟩, by dsimp only; omega⟩, fun hc => ⟨⟨i, h, rfl, rfl, b1, by omega, h1, fun t ht hti => ?_⟩, by dsimp only; omega⟩⟩⟩
  ·have hs := qcT.1 hc
   by_cases he : t = h
   ·subst he; exact hs
   ·exact qba (qcv ht hh hm (by omega)) hs
  ·cases hs : sless a0_x[t].1 a1_target with
   | false => rfl
   | true =>
     refine absurd (qcT.2 ?_) hc
     by_cases he : t = h
     ·subst he; exact hs
     ·exact qba (qcv hh ht hm (by omega)) hs
 ·obtain rfl : i = j := by omega
  have hlow : lowK a0_x a1_target = i := qi3 hj h1 (fun h => h2 i h (Nat.le_refl i))
  refine ⟨fun h => ⟨⟨by omega, by omega⟩, fun _ => ⟨by rw [hlow], ?_⟩⟩, fun h => ⟨by rw [hlow], ?_⟩⟩
  ·unfold isK
   rw [hlow, ixN (by omega : i < a0_x.length)]
   simp only [show i < a0_x.length from by omega, decide_true, Bool.true_and]
   exact decide_eq_decide.2 qkX
  ·unfold isK
   rw [hlow]
   simp only [show ¬ i < a0_x.length from by omega, decide_false, Bool.false_and]
theorem qtb : (∀ a, qhG.pre a → PM.wfP qhG.pm a (fvc qsu 200 82 qhG a (eqO qhG a))) = (∀ a : (List ((List UInt8) × List UInt8)) × (List UInt8) × Unit × Unit, (mayK (a.1) = true ∧ (a.1).length ≤ 1048576) → (Ty.kd (.sl (.pr (.sl .byte) (.sl .byte)))).wf a.1 → (Ty.kd (.sl .byte)).wf a.2.1 → qkt a.1 a.2.1 (fun o0 o1 => o0 = ((lowK (a.1) (a.2.1) : Nat) : Int) ∧ o1 = (isK (a.1) (a.2.1)))) := by kernel_rfl
theorem qvf : qhG.valid Try.prog 82 := qat (X := qsu) (qaK qam (fun b hb => by cases hb; exact qar) qas ⟨qmp, trivial⟩) 200 (qtb.mpr fun a hp w_0 w_1 => @qtc a.1 a.2.1 w_0 w_1 hp)
noncomputable def qfN : Ctr := ⟨[.nil, .v (.sl (.pr (.sl .byte) (.sl .byte))), .v (.sl .byte)], [.v (.pr (.int .i64) (.sl (.pr (.int .i64) (.pr (.pr (.sl .byte) (.sl .byte)) (.sl (.arr 32 .byte))))))], some (fun a => (fun (a1_l : List ((List UInt8) × List UInt8)) (a2_key : List UInt8) => (a1_l.length ≤ 65536 ∧ (∀ p ∈ a1_l, p.1.length + p.2.length ≤ 70368744177664) : Prop)) a.2.1 a.2.2.1), fun a => (fun (a1_l : List ((List UInt8) × List UInt8)) (a2_key : List UInt8) => (((qaI a1_l a2_key), ()), (()))) a.2.1 a.2.2.1⟩
noncomputable def qpq : Fx := ⟨{ seat with rws := [3000011, 4000037] }, some bkT, fns, [(29, qg9), (82, qhG), (83, qdv), (81, qct), (84, qnV), (84, qfj), (69, qb7)], [], [(10, [2], [])], [(13, [7], [.o 0 2, .o 1 2, .o 2 2, .o 3 2, .o 4 2, .o 6 2, .o 7 2, .o 8 2, .o 9 2, .o 10 2, .o 5 0, .o 12 2, .o 13 2, .o 11 0, .o 14 1, .o 15 3, .o 16 3, .o 17 1])]⟩
def qi0 (a1_l : List ((List UInt8) × List UInt8)) (a2_key : List UInt8) (Q : (Int × List (Int × ((List UInt8) × List UInt8) × List (List UInt8))) → Prop) : Prop :=
 (¬mayK a1_l = true → Q ((Ty.int IntKind.i64).pr ((Ty.int IntKind.i64).pr ((Ty.byte.sl.pr Ty.byte.sl).pr (Ty.arr (32 : Nat) Ty.byte).sl)).sl).kd.z) ∧ (mayK a1_l = true → (mayK a1_l = true ∧ a1_l.length ≤ (1048576 : Nat)) ∧ ((Ty.int IntKind.i64).kd.wf (lowK a1_l a2_key : Int) → (isK a1_l a2_key = true → ((a1_l.length ≤ (65536 : Nat) ∧ ∀ (x0 : List UInt8 × List UInt8), x0 ∈ a1_l → x0.fst.length + x0.snd.length ≤ (70368744177664 : Nat)) ∧ qah (none : Option (List Nt × Int)) a1_l.length) ∧ ((Ty.arr (32 : Nat) Ty.byte).kd.sl.wf (qao a1_l) → ∃ (x0 : Int → List (Int × (List UInt8 × List UInt8) × List (List UInt8)) → Int × Unit → Prop), ∃ (x1 : Int → List (Int × (List UInt8 × List UInt8) × List (List UInt8)) → Int × Unit → Nat), x0 (lowK a1_l a2_key : Int) ([] : List (Int × (List UInt8 × List UInt8) × List (List UInt8))) ((a1_l.length : Int), ()) ∧ ∀ (x2 : Int) (x3 : List (Int × (List UInt8 × List UInt8) × List (List UInt8))) (x4 : Int × Unit), x0 x2 x3 x4 → (Kd.int IntKind.i64).wf x2 → ((Ty.int IntKind.i64).pr ((Ty.byte.sl.pr Ty.byte.sl).pr (Ty.arr (32 : Nat) Ty.byte).sl)).kd.sl.wf x3 → ((x2 < bif false then max (IntKind.i64.wrap ((lowK a1_l a2_key : Int) + (1 : Int))) (a1_l.length : Int) else min (IntKind.i64.wrap ((lowK a1_l a2_key : Int) + (1 : Int))) (a1_l.length : Int)) → (qao a1_l).length ≤ (1048576 : Nat) ∧ ((Ty.arr (32 : Nat) Ty.byte).kd.sl.wf (qbP (qao a1_l) x2) → ((0 : Int) ≤ x2 ∧ x2 < (a1_l.length : Int)) ∧ ((0 : Int) ≤ x2 ∧ x2 < (a1_l.length : Int)) ∧ (ix a1_l x2).fst.length ≤ (140737488355328 : Nat) ∧ (Ty.byte.kd.sl.wf (ix a1_l x2).fst → (ix a1_l x2).snd.length ≤ (140737488355328 : Nat) ∧ (Ty.byte.kd.sl.wf (ix a1_l x2).snd → (x3.length + ((x2, ((ix a1_l x2).fst, (ix a1_l x2).snd), qbP (qao a1_l) x2) :: ([] : List (Int × (List UInt8 × List UInt8) × List (List UInt8)))).length) * (80 : Nat) ≤ (140737488355328 : Nat) ∧ x2 < (9223372036854775807 : Int) ∧ x0 (x2 + (1 : Int)) (x3 ++ (x2, ((ix a1_l x2).fst, (ix a1_l x2).snd), qbP (qao a1_l) x2) :: ([] : List (Int × (List UInt8 × List UInt8) × List (List UInt8)))) (x4.fst, x4.snd) ∧ x1 (x2 + (1 : Int)) (x3 ++ (x2, ((ix a1_l x2).fst, (ix a1_l x2).snd), qbP (qao a1_l) x2) :: ([] : List (Int × (List UInt8 × List UInt8) × List (List UInt8)))) (x4.fst, x4.snd) < x1 x2 x3 x4)))) ∧ ((¬x2 < bif false then max (IntKind.i64.wrap ((lowK a1_l a2_key : Int) + (1 : Int))) (a1_l.length : Int) else min (IntKind.i64.wrap ((lowK a1_l a2_key : Int) + (1 : Int))) (a1_l.length : Int)) → Q (x4.fst, x3)))) ∧ (isK a1_l a2_key = false → ((a1_l.length ≤ (65536 : Nat) ∧ ∀ (x0 : List UInt8 × List UInt8), x0 ∈ a1_l → x0.fst.length + x0.snd.length ≤ (70368744177664 : Nat)) ∧ qah (none : Option (List Nt × Int)) a1_l.length) ∧ ((Ty.arr (32 : Nat) Ty.byte).kd.sl.wf (qao a1_l) → ∃ (x0 : Int → List (Int × (List UInt8 × List UInt8) × List (List UInt8)) → Int × Unit → Prop), ∃ (x1 : Int → List (Int × (List UInt8 × List UInt8) × List (List UInt8)) → Int × Unit → Nat), x0 (bif true then max (IntKind.i64.wrap ((lowK a1_l a2_key : Int) - (1 : Int))) (0 : Int) else min (IntKind.i64.wrap ((lowK a1_l a2_key : Int) - (1 : Int))) (0 : Int)) ([] : List (Int × (List UInt8 × List UInt8) × List (List UInt8))) ((a1_l.length : Int), ()) ∧ ∀ (x2 : Int) (x3 : List (Int × (List UInt8 × List UInt8) × List (List UInt8))) (x4 : Int × Unit), x0 x2 x3 x4 → (Kd.int IntKind.i64).wf x2 → ((Ty.int IntKind.i64).pr ((Ty.byte.sl.pr Ty.byte.sl).pr (Ty.arr (32 : Nat) Ty.byte).sl)).kd.sl.wf x3 → ((x2 < bif false then max (IntKind.i64.wrap ((lowK a1_l a2_key : Int) + (1 : Int))) (a1_l.length : Int) else min (IntKind.i64.wrap ((lowK a1_l a2_key : Int) + (1 : Int))) (a1_l.length : Int)) → (qao a1_l).length ≤ (1048576 : Nat) ∧ ((Ty.arr (32 : Nat) Ty.byte).kd.sl.wf (qbP (qao a1_l) x2) → ((0 : Int) ≤ x2 ∧ x2 < (a1_l.length : Int)) ∧ ((0 : Int) ≤ x2 ∧ x2 < (a1_l.length : Int)) ∧ (ix a1_l x2).fst.length ≤ (140737488355328 : Nat) ∧ (Ty.byte.kd.sl.wf (ix a1_l x2).fst → (ix a1_l x2).snd.length ≤ (140737488355328 : Nat) ∧ (Ty.byte.kd.sl.wf (ix a1_l x2).snd → (x3.length + ((x2, ((ix a1_l x2).fst, (ix a1_l x2).snd), qbP (qao a1_l) x2) :: ([] : List (Int × (List UInt8 × List UInt8) × List (List UInt8)))).length) * (80 : Nat) ≤ (140737488355328 : Nat) ∧ x2 < (9223372036854775807 : Int) ∧ x0 (x2 + (1 : Int)) (x3 ++ (x2, ((ix a1_l x2).fst, (ix a1_l x2).snd), qbP (qao a1_l) x2) :: ([] : List (Int × (List UInt8 × List UInt8) × List (List UInt8)))) (x4.fst, x4.snd) ∧ x1 (x2 + (1 : Int)) (x3 ++ (x2, ((ix a1_l x2).fst, (ix a1_l x2).snd), qbP (qao a1_l) x2) :: ([] : List (Int × (List UInt8 × List UInt8) × List (List UInt8)))) (x4.fst, x4.snd) < x1 x2 x3 x4)))) ∧ ((¬x2 < bif false then max (IntKind.i64.wrap ((lowK a1_l a2_key : Int) + (1 : Int))) (a1_l.length : Int) else min (IntKind.i64.wrap ((lowK a1_l a2_key : Int) + (1 : Int))) (a1_l.length : Int)) → Q (x4.fst, x3))))))
theorem qrR {a1_l : List ((List UInt8) × List UInt8)} {a2_key : List UInt8} (w_0 : (Ty.kd (.sl (.pr (.sl .byte) (.sl .byte)))).wf a1_l) (w_1 : (Ty.kd (.sl .byte)).wf a2_key) (hp : a1_l.length ≤ 65536 ∧ (∀ p ∈ a1_l, p.1.length + p.2.length ≤ 70368744177664)) : qi0 a1_l a2_key (fun o0 => o0 = (qaI a1_l a2_key)) := by
 unfold qi0
 obtain ⟨hl, hs⟩ := hp
 have hw : ∀ m : Int, -1 ≤ m → m ≤ 65537 → IntKind.i64.wrap m = m := fun m h1 h2 => qan (wf64 (by omega) (by omega))
 refine ⟨fun hm => ?_, fun hm => ⟨⟨hm, by omega⟩, fun _ => ?_⟩⟩
 ·unfold qaI
  rw [if_neg hm]
  rfl
 have hlow := qlg a1_l a2_key
 have eto : (bif false then max (IntKind.i64.wrap ((lowK a1_l a2_key : Int) + (1 : Int))) (a1_l.length : Int) else min (IntKind.i64.wrap ((lowK a1_l a2_key : Int) + (1 : Int))) (a1_l.length : Int)) = ((toK a1_l a2_key : Nat) : Int) := by
  rw [hw _ (by omega) (by omega)]
  show min _ _ = _
  unfold toK
  omega
 have efr : (bif true then max (IntKind.i64.wrap ((lowK a1_l a2_key : Int) - (1 : Int))) (0 : Int) else min (IntKind.i64.wrap ((lowK a1_l a2_key : Int) - (1 : Int))) (0 : Int)) = ((lowK a1_l a2_key - 1 : Nat) : Int) := by
  rw [hw _ (by omega) (by omega)]
  show max _ _ = _
  omega
 rw [eto, efr]
 have hto : toK a1_l a2_key ≤ a1_l.length := by unfold toK; omega
 have hft : qbA a1_l a2_key ≤ toK a1_l a2_key := by
  unfold qbA toK
  cases hi : isK a1_l a2_key with
  | true =>
    have : lowK a1_l a2_key < a1_l.length := by
     unfold isK at hi
     simp only [Bool.and_eq_true, decide_eq_true_eq] at hi
     exact hi.1
    simp only [if_true]
    omega
  | false => simp only [Bool.false_eq_true, if_false]; omega
 have step : ∀ (x0 : Int → List (Int × (List UInt8 × List UInt8) × List (List UInt8)) → Int × Unit → Prop) (x1 : Int → List (Int × (List UInt8 × List UInt8) × List (List UInt8)) → Int × Unit → Nat),
  (x0 = fun i out c => ∃ j : Nat, i = (j : Int) ∧ qbA a1_l a2_key ≤ j ∧ j ≤ toK a1_l a2_key ∧ out = (List.range' (qbA a1_l a2_key) (j - qbA a1_l a2_key)).map (qdW a1_l) ∧ c = ((a1_l.length : Int), ())) →
  (x1 = fun i _ _ => ((a1_l.length : Int) - i).toNat) → ∀ x2 x3 x4, x0 x2 x3 x4 → (x2 < ((toK a1_l a2_key : Nat) : Int) → (qao a1_l).length ≤ (1048576 : Nat) ∧ ((0 : Int) ≤ x2 ∧ x2 < (a1_l.length : Int)) ∧ (ix a1_l x2).fst.length ≤ (140737488355328 : Nat) ∧ (ix a1_l x2).snd.length ≤ (140737488355328 : Nat) ∧ (x3.length + ((x2, ((ix a1_l x2).fst, (ix a1_l x2).snd), qbP (qao a1_l) x2) :: ([] : List (Int × (List UInt8 × List UInt8) × List (List UInt8)))).length) * (80 : Nat) ≤ (140737488355328 : Nat) ∧ x2 < (9223372036854775807 : Int) ∧ x0 (x2 + (1 : Int)) (x3 ++ (x2, ((ix a1_l x2).fst, (ix a1_l x2).snd), qbP (qao a1_l) x2) :: ([] : List (Int × (List UInt8 × List UInt8) × List (List UInt8)))) (x4.fst, x4.snd) ∧ x1 (x2 + (1 : Int)) (x3 ++ (x2, ((ix a1_l x2).fst, (ix a1_l x2).snd), qbP (qao a1_l) x2) :: ([] : List (Int × (List UInt8 × List UInt8) × List (List UInt8)))) (x4.fst, x4.snd) < x1 x2 x3 x4) ∧ (¬ x2 < ((toK a1_l a2_key : Nat) : Int) → (x4.fst, x3) = qaI a1_l a2_key) := by
  intro x0 x1 e0 e1 x2 x3 x4 hI
  rw [e0] at hI
  obtain ⟨j, rfl, h1, h2, rfl, rfl⟩ := hI
  refine ⟨fun hlt => ?_, fun hge => ?_⟩
  ·have hj : j < a1_l.length := by omega
   have hsz := hs _ (List.getElem_mem hj)
   have er : List.range' (qbA a1_l a2_key) (j + 1 - qbA a1_l a2_key) = List.range' (qbA a1_l a2_key) (j - qbA a1_l a2_key) ++ [j] := by
    rw [show j + 1 - qbA a1_l a2_key = (j - qbA a1_l a2_key) + 1 from by omega, List.range'_concat]
    congr 2
    omega
   refine ⟨by rw [qaP]; omega, ⟨by omega, by omega⟩, by rw [ixN hj]; omega, by rw [ixN hj]; omega, ?_, by omega, ?_, by rw [e1]; dsimp only; omega⟩
   ·simp only [List.length_map, List.length_range', List.length_cons, List.length_nil]
    omega
   ·rw [e0]
    refine ⟨j + 1, rfl, by omega, by omega, ?_, rfl⟩
    rw [er, List.map_append]
    rfl
  ·obtain rfl : j = toK a1_l a2_key := by omega
   unfold qaI
   rw [if_pos hm]
 obtain ⟨I, eI⟩ : ∃ I : Int → List (Int × (List UInt8 × List UInt8) × List (List UInt8)) → Int × Unit → Prop, I = fun i out c => ∃ j : Nat, i = (j : Int) ∧ qbA a1_l a2_key ≤ j ∧ j ≤ toK a1_l a2_key ∧ out = (List.range' (qbA a1_l a2_key) (j - qbA a1_l a2_key)).map (qdW a1_l) ∧ c = ((a1_l.length : Int), ()) := ⟨_, rfl⟩
 obtain ⟨M, eM⟩ : ∃ M : Int → List (Int × (List UInt8 × List UInt8) × List (List UInt8)) → Int × Unit → Nat, M = fun i _ _ => ((a1_l.length : Int) - i).toNat := ⟨_, rfl⟩
 have beg : ∀ k : Nat, qbA a1_l a2_key = k → I (k : Int) [] ((a1_l.length : Int), ()) := fun k hk => by
  rw [eI]
  exact ⟨k, rfl, by omega, by omega, by rw [hk, Nat.sub_self]; rfl, rfl⟩
 have fin := step I M eI eM
 refine ⟨fun hi => ⟨⟨⟨hl, hs⟩, fun y h => by cases h⟩, fun _ => ⟨I, M, beg _ (by unfold qbA; rw [if_pos hi]), fun x2 x3 x4 hI _ _ => ?_⟩⟩, fun hi => ⟨⟨⟨hl, hs⟩, fun y h => by cases h⟩, fun _ => ⟨I, M, beg _ (by unfold qbA; rw [if_neg (by simp [hi])]), fun x2 x3 x4 hI _ _ => ?_⟩⟩⟩
 ·obtain ⟨s1, s2⟩ := fin x2 x3 x4 hI
  refine ⟨fun hlt => ?_, s2⟩
  obtain ⟨a1, a2, a3, a4, a5, a6, a7, a8⟩ := s1 hlt
  exact ⟨a1, fun _ => ⟨a2, a2, a3, fun _ => ⟨a4, fun _ => ⟨a5, a6, a7, a8⟩⟩⟩⟩
 ·obtain ⟨s1, s2⟩ := fin x2 x3 x4 hI
  refine ⟨fun hlt => ?_, s2⟩
  obtain ⟨a1, a2, a3, a4, a5, a6, a7, a8⟩ := s1 hlt
  exact ⟨a1, fun _ => ⟨a2, a2, a3, fun _ => ⟨a4, fun _ => ⟨a5, a6, a7, a8⟩⟩⟩⟩
theorem qrQ : (∀ a, qfN.pre a → PM.wfP qfN.pm a (fvc qpq 200 33 qfN a (eqO qfN a))) = (∀ a : Unit × (List ((List UInt8) × List UInt8)) × (List UInt8) × Unit, ((a.2.1).length ≤ 65536 ∧ (∀ p ∈ (a.2.1), p.1.length + p.2.length ≤ 70368744177664)) → (Ty.kd (.sl (.pr (.sl .byte) (.sl .byte)))).wf a.2.1 → (Ty.kd (.sl .byte)).wf a.2.2.1 → qi0 a.2.1 a.2.2.1 (fun o0 => o0 = (qaI (a.2.1) (a.2.2.1)))) := by kernel_rfl
theorem quB : qfN.valid Try.prog 33 := qat (X := qpq) (qaK (qam.rows [3000011, 4000037]) (fun b hb => by cases hb; exact qar) qas ⟨qsX, qvf, qmp, qj0, qtA, qnX, qdJ, trivial⟩) 200 (qrQ.mpr fun a hp w_0 w_1 => @qrR a.2.1 a.2.2.1 w_0 w_1 hp)
def qgs (a0_key : List UInt8) (a1_s : Int × List (Int × ((List UInt8) × List UInt8) × List (List UInt8))) (Q : Bool → Bool → Prop) : Prop :=
 (((0 : Int) ≤ (ix a1_s.snd (0 : Int)).fst → ((ix a1_s.snd (0 : Int)).fst < (ix a1_s.snd (1 : Int)).fst → (IntKind.i64.wrap ((ix a1_s.snd (1 : Int)).fst - (ix a1_s.snd (0 : Int)).fst) = (1 : Int) → (Ty.int IntKind.i64).kd.wf (cmpB (ix a1_s.snd (0 : Int)).snd.fst.fst a0_key) → (cmpB (ix a1_s.snd (0 : Int)).snd.fst.fst a0_key < (0 : Int) → (Ty.int IntKind.i64).kd.wf (cmpB a0_key (ix a1_s.snd (1 : Int)).snd.fst.fst) → Q false (decide (cmpB a0_key (ix a1_s.snd (1 : Int)).snd.fst.fst < (0 : Int)))) ∧ (¬cmpB (ix a1_s.snd (0 : Int)).snd.fst.fst a0_key < (0 : Int) → Q false false)) ∧ (¬IntKind.i64.wrap ((ix a1_s.snd (1 : Int)).fst - (ix a1_s.snd (0 : Int)).fst) = (1 : Int) → Q false false)) ∧ (¬(ix a1_s.snd (0 : Int)).fst < (ix a1_s.snd (1 : Int)).fst → Q false false)) ∧ (¬(0 : Int) ≤ (ix a1_s.snd (0 : Int)).fst → Q false false))
noncomputable def qfP : Ctr := ⟨[.v (.sl .byte), .v (.pr (.int .i64) (.sl (.pr (.int .i64) (.pr (.pr (.sl .byte) (.sl .byte)) (.sl (.arr 32 .byte))))))], [.v .bool, .v .bool], none, fun a => (fun (a0_key : List UInt8) (a1_s : Int × List (Int × ((List UInt8) × List UInt8) × List (List UInt8))) => (((qdC a0_key a1_s).1, (qdC a0_key a1_s).2, ()), (()))) a.1 a.2.1⟩
noncomputable def qpv : Fx := ⟨seat, some bkT, fns, [(75, qqs)], [], [], [(4, [], [.o 0 2, .o 1 2, .o 2 2, .o 3 2, .o 4 2]), (7, [], [.o 0 2, .o 1 2, .o 2 2, .o 3 2, .o 4 2, .o 5 2, .o 6 2, .o 7 2, .o 8 2, .o 9 2, .o 10 2, .o 11 2, .o 12 2, .o 13 2, .o 14 2, .o 15 2, .o 16 2, .o 17 2, .o 18 2, .o 19 2, .o 20 2, .o 21 2, .o 22 2, .o 23 2, .o 24 2, .o 25 2, .o 26 2, .o 27 2, .o 28 2, .o 29 2, .o 30 2]), (9, [1, 2], [.o 0 2, .o 1 2, .o 2 2, .o 3 3, .o 4 3, .o 5 3, .par [6, 7] (.alt 6 0 (.one 7 0 .fin) (.alt 7 0 (.one 6 0 .fin) .fin)), .o 8 1, .o 9 1])]⟩
def qi2 (a0_key : List UInt8) (a1_s : Int × List (Int × ((List UInt8) × List UInt8) × List (List UInt8))) (Q : Bool → Bool → Prop) : Prop :=
 ((a1_s.snd.length : Int) = (0 : Int) → Q false (decide (a1_s.fst = (0 : Int)))) ∧ (¬(a1_s.snd.length : Int) = (0 : Int) → ((a1_s.snd.length : Int) = (1 : Int) → ((0 : Int) ≤ (0 : Int) ∧ (0 : Int) < (a1_s.snd.length : Int)) ∧ ((Ty.int IntKind.i64).kd.wf (cmpB a0_key (ix a1_s.snd (0 : Int)).snd.fst.fst) → (cmpB a0_key (ix a1_s.snd (0 : Int)).snd.fst.fst = (0 : Int) → Q (decide (cmpB a0_key (ix a1_s.snd (0 : Int)).snd.fst.fst = (0 : Int))) true) ∧ (¬cmpB a0_key (ix a1_s.snd (0 : Int)).snd.fst.fst = (0 : Int) → (cmpB a0_key (ix a1_s.snd (0 : Int)).snd.fst.fst < (0 : Int) → ((0 : Int) ≤ (0 : Int) ∧ (0 : Int) < (a1_s.snd.length : Int)) ∧ ((ix a1_s.snd (0 : Int)).fst = (0 : Int) → Q (decide (cmpB a0_key (ix a1_s.snd (0 : Int)).snd.fst.fst = (0 : Int))) true) ∧ (¬(ix a1_s.snd (0 : Int)).fst = (0 : Int) → ((0 : Int) < cmpB a0_key (ix a1_s.snd (0 : Int)).snd.fst.fst → ((0 : Int) ≤ (0 : Int) ∧ (0 : Int) < (a1_s.snd.length : Int)) ∧ Q (decide (cmpB a0_key (ix a1_s.snd (0 : Int)).snd.fst.fst = (0 : Int))) (decide ((ix a1_s.snd (0 : Int)).fst = IntKind.i64.wrap (a1_s.fst - (1 : Int))))) ∧ (¬(0 : Int) < cmpB a0_key (ix a1_s.snd (0 : Int)).snd.fst.fst → Q (decide (cmpB a0_key (ix a1_s.snd (0 : Int)).snd.fst.fst = (0 : Int))) false))) ∧ (¬cmpB a0_key (ix a1_s.snd (0 : Int)).snd.fst.fst < (0 : Int) → ((0 : Int) < cmpB a0_key (ix a1_s.snd (0 : Int)).snd.fst.fst → ((0 : Int) ≤ (0 : Int) ∧ (0 : Int) < (a1_s.snd.length : Int)) ∧ Q (decide (cmpB a0_key (ix a1_s.snd (0 : Int)).snd.fst.fst = (0 : Int))) (decide ((ix a1_s.snd (0 : Int)).fst = IntKind.i64.wrap (a1_s.fst - (1 : Int))))) ∧ (¬(0 : Int) < cmpB a0_key (ix a1_s.snd (0 : Int)).snd.fst.fst → Q (decide (cmpB a0_key (ix a1_s.snd (0 : Int)).snd.fst.fst = (0 : Int))) false))))) ∧ (¬(a1_s.snd.length : Int) = (1 : Int) → ((a1_s.snd.length : Int) = (2 : Int) → ((0 : Int) ≤ (0 : Int) ∧ (0 : Int) < (a1_s.snd.length : Int)) ∧ ((0 : Int) ≤ (1 : Int) ∧ (1 : Int) < (a1_s.snd.length : Int)) ∧ (qgs a0_key a1_s Q) ∧ (qgs a0_key a1_s Q) ∧ True) ∧ (¬(a1_s.snd.length : Int) = (2 : Int) → Q false false)))
theorem qrW {a0_key : List UInt8} {a1_s : Int × List (Int × ((List UInt8) × List UInt8) × List (List UInt8))} (w_0 : (Ty.kd (.sl .byte)).wf a0_key) (w_1 : (Ty.kd (.pr (.int .i64) (.sl (.pr (.int .i64) (.pr (.pr (.sl .byte) (.sl .byte)) (.sl (.arr 32 .byte))))))).wf a1_s) : qi2 a0_key a1_s (fun o0 o1 => o0 = (qdC a0_key a1_s).1 ∧ o1 = (qdC a0_key a1_s).2) := by
 obtain ⟨n, l⟩ := a1_s
 unfold qi2
 refine ⟨fun h => ?_, fun h0 => ⟨fun h1 => ?_, fun h1 => ⟨fun h2 => ?_, fun h2 => ?_⟩⟩⟩
 ·obtain rfl : l = [] := List.length_eq_zero_iff.1 (by have h : (l.length : Int) = 0 := h; omega)
  exact ⟨rfl, rfl⟩
 ·obtain ⟨a, rfl⟩ := List.length_eq_one_iff.1 (show l.length = 1 by have h1 : (l.length : Int) = 1 := h1; omega)
  have e : ix [a] 0 = a := rfl
  simp only [e]
  generalize hc : cmpB a0_key a.2.1.1 = c
  have s1 : (qdC a0_key (n, [a])).1 = decide (c = 0) := by rw [← hc]; rfl
  have s2 : (qdC a0_key (n, [a])).2 = decide (c = 0 ∨ c < 0 ∧ a.1 = 0 ∨ 0 < c ∧ a.1 = IntKind.i64.wrap (n - 1)) := by rw [← hc]; rfl
  rw [s1, s2]
  have b : (0 : Int) ≤ 0 ∧ (0 : Int) < (([a] : List Sp).length : Int) := by simp
  refine ⟨b, fun _ => ⟨fun g1 => ⟨rfl, (decide_eq_true (.inl g1)).symm⟩, fun g1 => ⟨fun g2 => ⟨b, fun g3 => ⟨rfl, (decide_eq_true (.inr (.inl ⟨g2, g3⟩))).symm⟩, fun g3 => ⟨fun g4 => by omega, fun g4 => ⟨rfl, (decide_eq_false (by omega)).symm⟩⟩⟩, fun g2 => ⟨fun g3 => ⟨b, rfl, decide_eq_decide.2 (by constructor <;> intro h <;> omega)⟩, fun g3 => by omega⟩⟩⟩⟩
 ·obtain ⟨a, b, rfl⟩ : ∃ a b, l = [a, b] := by
   rcases l with _ | ⟨a, _ | ⟨b, _ | ⟨c, l⟩⟩⟩
   ·simp at h2
   ·simp at h2
   ·exact ⟨a, b, rfl⟩
   ·have h2 : ((l.length + 1 + 1 + 1 : Nat) : Int) = 2 := h2
    omega
  have e : ix [a, b] 0 = a := rfl
  have e' : ix [a, b] 1 = b := rfl
  have wa : a.1 ≤ 9223372036854775807 := (w_1.2.2 a (by simp)).1.2
  have wb : b.1 ≤ 9223372036854775807 := (w_1.2.2 b (by simp)).1.2
  have key : qgs a0_key (n, [a, b]) (fun o0 o1 => o0 = (qdC a0_key (n, [a, b])).1 ∧ o1 = (qdC a0_key (n, [a, b])).2) := by
   unfold qgs
   simp only [e, e']
   have s1 : (qdC a0_key (n, [a, b])).1 = false := rfl
   have s2 : (qdC a0_key (n, [a, b])).2 = decide (0 ≤ a.1 ∧ a.1 < b.1 ∧ b.1 - a.1 = 1 ∧ cmpB a.2.1.1 a0_key < 0 ∧ cmpB a0_key b.2.1.1 < 0) := rfl
   rw [s1, s2]
   refine ⟨fun g1 => ⟨fun g2 => ?_, fun g2 => ⟨rfl, (decide_eq_false (by omega)).symm⟩⟩, fun g1 => ⟨rfl, (decide_eq_false (by omega)).symm⟩⟩
   have ew : IntKind.i64.wrap (b.1 - a.1) = b.1 - a.1 := qan (wf64 (by omega) (by omega))
   rw [ew]
   refine ⟨fun g3 _ => ⟨fun g4 _ => ⟨rfl, decide_eq_decide.2 (by constructor <;> intro h <;> omega)⟩, fun g4 => ⟨rfl, (decide_eq_false (by omega)).symm⟩⟩, fun g3 => ⟨rfl, (decide_eq_false (by omega)).symm⟩⟩
  exact ⟨by simp, by simp, key, key, trivial⟩
 ·match l, h0, h1, h2 with
  | [], h0, h1, h2 => simp at h0
  | [a], h0, h1, h2 => simp at h1
  | [a, b], h0, h1, h2 => simp at h2
  | a :: b :: c :: l, h0, h1, h2 => exact ⟨rfl, rfl⟩
theorem qrV : (∀ a, qfP.pre a → PM.wfP qfP.pm a (fvc qpv 200 77 qfP a (eqO qfP a))) = (∀ a : (List UInt8) × (Int × List (Int × ((List UInt8) × List UInt8) × List (List UInt8))) × Unit, True → (Ty.kd (.sl .byte)).wf a.1 → (Ty.kd (.pr (.int .i64) (.sl (.pr (.int .i64) (.pr (.pr (.sl .byte) (.sl .byte)) (.sl (.arr 32 .byte))))))).wf a.2.1 → qi2 a.1 a.2.1 (fun o0 o1 => o0 = (qdC (a.1) (a.2.1)).1 ∧ o1 = (qdC (a.1) (a.2.1)).2)) := by kernel_rfl
theorem quD : qfP.valid Try.prog 77 := qat (X := qpv) (qaK qam (fun b hb => by cases hb; exact qar) qas ⟨qtg, trivial⟩) 200 (qrV.mpr fun a hp w_0 w_1 => @qrW a.1 a.2.1 w_0 w_1)
noncomputable def qmn : Ctr := ⟨[.nil, .v (.sl (.pr (.sl .byte) (.sl .byte)))], [.v (.arr 32 .byte)], some (fun a => (fun (a1_l : List ((List UInt8) × List UInt8)) => (a1_l.length ≤ 65536 ∧ (∀ p ∈ a1_l, p.1.length + p.2.length ≤ 70368744177664) : Prop)) a.2.1), fun a => (fun (a1_l : List ((List UInt8) × List UInt8)) => (((qa2 a1_l), ()), (()))) a.2.1⟩
theorem qrN : qmn.valid Try.prog 32 :=
 qwy qpn (fun _ => rfl) (fun a θ θ' n n' K vs h => by
  obtain ⟨v0, vs, rfl, h0, h⟩ := h
  exact ⟨v0, _, rfl, SVal.of_rel (t := .sl (.pr (.sl .byte) (.sl .byte))) (qdB (t := .sl (.pr (.sl .byte) (.sl .byte))) h0 rfl), h⟩) (fun _ => rfl) (fun a hp => ⟨hp, fun y h => by cases h⟩) (fun a _ => rfl)
end Go.Proofs.Ytmjjkpiglbpkhaa

set_option linter.unusedVariables false
namespace Go.Inc
open Go Go.RowKit
section
variable {P : Program} {f : FuncId} {pm : List PM} {rm : List RM} {e : Nat}
end
end Go.Inc

set_option linter.unusedVariables false
set_option maxRecDepth 100000
set_option maxHeartbeats 20000000
namespace Go.Proofs.Ytmjjkpiglbpkhaa
open Go Go.RowKit Go.Inc
end Go.Proofs.Ytmjjkpiglbpkhaa

set_option linter.unusedVariables false
set_option maxRecDepth 100000
set_option maxHeartbeats 20000000
namespace Go.Proofs.Ytmjjkpiglbpkhaa
open Go Go.RowKit Go.Inc
noncomputable def qig : Ctr := ⟨[.v (.pr (.int .i64) (.sl (.pr (.int .i64) (.pr (.pr (.sl .byte) (.sl .byte)) (.sl (.arr 32 .byte))))))], [.v .bool], none, fun a => (fun (a0_s : Int × List (Int × ((List UInt8) × List UInt8) × List (List UInt8))) => (((qnC a0_s), ()), (()))) a.1⟩
noncomputable def qta : Fx := ⟨seat, some bkT, fns, [], [], [], []⟩
def qlA (a0_s : Int × List (Int × ((List UInt8) × List UInt8) × List (List UInt8))) (Q : Bool → Prop) : Prop :=
 ∃ (x0 : Int → Int → Prop), ∃ (x1 : Int → Int → Nat), x0 (100000 : Int) (0 : Int) ∧ ∀ (x2 x3 : Int), x0 x2 x3 → (Kd.int IntKind.i64).wf x2 → (Kd.int IntKind.i64).wf x3 → (x3 < (a0_s.snd.length : Int) → (x3 ≤ (10 : Int) → ((0 : Int) ≤ x2 → ((0 : Int) ≤ x3 ∧ x3 < (a0_s.snd.length : Int)) ∧ x3 < (9223372036854775807 : Int) ∧ x0 (IntKind.i64.wrap (x2 - IntKind.i64.wrap (IntKind.i64.wrap ((bif false then max ((ix a0_s.snd x3).snd.fst.fst.length : Int) (200000 : Int) else min ((ix a0_s.snd x3).snd.fst.fst.length : Int) (200000 : Int)) + bif false then max ((ix a0_s.snd x3).snd.fst.snd.length : Int) (200000 : Int) else min ((ix a0_s.snd x3).snd.fst.snd.length : Int) (200000 : Int)) + IntKind.i64.wrap ((1000 : Int) * bif false then max ((ix a0_s.snd x3).snd.snd.length : Int) (200 : Int) else min ((ix a0_s.snd x3).snd.snd.length : Int) (200 : Int))))) (x3 + (1 : Int)) ∧ x1 (IntKind.i64.wrap (x2 - IntKind.i64.wrap (IntKind.i64.wrap ((bif false then max ((ix a0_s.snd x3).snd.fst.fst.length : Int) (200000 : Int) else min ((ix a0_s.snd x3).snd.fst.fst.length : Int) (200000 : Int)) + bif false then max ((ix a0_s.snd x3).snd.fst.snd.length : Int) (200000 : Int) else min ((ix a0_s.snd x3).snd.fst.snd.length : Int) (200000 : Int)) + IntKind.i64.wrap ((1000 : Int) * bif false then max ((ix a0_s.snd x3).snd.snd.length : Int) (200 : Int) else min ((ix a0_s.snd x3).snd.snd.length : Int) (200 : Int))))) (x3 + (1 : Int)) < x1 x2 x3) ∧ (¬(0 : Int) ≤ x2 → ((10 : Int) < (a0_s.snd.length : Int) → Q true) ∧ (¬(10 : Int) < (a0_s.snd.length : Int) → Q (decide (x2 < (0 : Int)))))) ∧ (¬x3 ≤ (10 : Int) → ((10 : Int) < (a0_s.snd.length : Int) → Q true) ∧ (¬(10 : Int) < (a0_s.snd.length : Int) → Q (decide (x2 < (0 : Int)))))) ∧ (¬x3 < (a0_s.snd.length : Int) → ((10 : Int) < (a0_s.snd.length : Int) → Q true) ∧ (¬(10 : Int) < (a0_s.snd.length : Int) → Q (decide (x2 < (0 : Int)))))
theorem qve {a0_s : Int × List (Int × ((List UInt8) × List UInt8) × List (List UInt8))} (w_0 : (Ty.kd (.pr (.int .i64) (.sl (.pr (.int .i64) (.pr (.pr (.sl .byte) (.sl .byte)) (.sl (.arr 32 .byte))))))).wf a0_s) : qlA a0_s (fun o0 => o0 = (qnC a0_s)) := by
 obtain ⟨n, l⟩ := a0_s
 unfold qlA
 dsimp only
 have hpos : ∀ x ∈ l.map szW, 0 ≤ x := fun x hx => by obtain ⟨q, _, rfl⟩ := List.mem_map.1 hx; exact qlr q
 have hl : l.length ≤ 281474976710656 := w_0.2.1
 refine ⟨fun left i => ∃ j : Nat, i = (j : Int) ∧ j ≤ l.length ∧ j ≤ 11 ∧ left = 100000 - totI ((l.map szW).take j) ∧ -700000 ≤ left ∧ left ≤ 100000, fun _ i => ((l.length : Int) - i).toNat, ⟨0, rfl, Nat.zero_le _, by omega, by simp [totI], by omega, by omega⟩, ?_⟩
 rintro left i ⟨j, rfl, hj, hc, hleft, hlo, hhi⟩ _ _
 have big : (10 : Int) < (l.length : Int) → true = decide (10 < l.length ∨ 100000 < totI (l.map szW)) := fun h => (decide_eq_true (.inl (by omega))).symm
 have neg : left < 0 → ¬ (10 : Int) < (l.length : Int) → decide (left < 0) = decide (10 < l.length ∨ 100000 < totI (l.map szW)) := fun h hb => by
  have h1 := qge j hpos
  rw [decide_eq_true h]
  exact (decide_eq_true (.inr (by omega))).symm
 have all : j = l.length → ¬ (10 : Int) < (l.length : Int) → decide (left < 0) = decide (10 < l.length ∨ 100000 < totI (l.map szW)) := fun h hb => by
  rw [h, List.take_of_length_le (by rw [List.length_map]; exact Nat.le_refl _)] at hleft
  exact decide_eq_decide.2 ⟨fun hn => .inr (by omega), fun hn => by omega⟩
 refine ⟨fun hlt => ⟨fun h100 => ⟨fun h0 => ?_, fun h0 => ⟨big, neg (by omega)⟩⟩, fun h100 => ⟨big, fun hb => absurd hb (by omega)⟩⟩, fun hge => ⟨big, all (by omega)⟩⟩
 have hj' : j < l.length := by omega
 have htk := qkl (l := l.map szW) (i := j) (by rw [List.length_map]; exact hj')
 rw [List.getElem_map] at htk
 have hsz : szW l[j] = min (l[j].2.1.1.length : Int) 200000 + min (l[j].2.1.2.length : Int) 200000 + 1000 * min (l[j].2.2.length : Int) 200 := rfl
 have h1 := qlr l[j]
 rw [ixN hj']
 simp only [cond_false]
 have w0 : IntKind.i64.wrap (1000 * min (l[j].2.2.length : Int) 200) = 1000 * min (l[j].2.2.length : Int) 200 := qan (wf64 (by omega) (by omega))
 have w1 : IntKind.i64.wrap (min (l[j].2.1.1.length : Int) 200000 + min (l[j].2.1.2.length : Int) 200000 + 1000 * min (l[j].2.2.length : Int) 200) = szW l[j] := by
  rw [hsz]
  exact qan (wf64 (by omega) (by omega))
 have w3 : IntKind.i64.wrap (min (l[j].2.1.1.length : Int) 200000 + min (l[j].2.1.2.length : Int) 200000) = min (l[j].2.1.1.length : Int) 200000 + min (l[j].2.1.2.length : Int) 200000 := qan (wf64 (by omega) (by omega))
 have w2 : IntKind.i64.wrap (left - szW l[j]) = left - szW l[j] := qan (wf64 (by omega) (by omega))
 rw [w0]
 first | rw [w1, w2] | rw [w3, w1, w2]
 exact ⟨⟨by omega, by show (j : Int) < (l.length : Int); omega⟩, by omega, ⟨j + 1, rfl, hj', by omega, by omega, by omega, by omega⟩, by omega⟩
theorem qvd : (∀ a, qig.pre a → PM.wfP qig.pm a (fvc qta 200 35 qig a (eqO qig a))) = (∀ a : (Int × List (Int × ((List UInt8) × List UInt8) × List (List UInt8))) × Unit, True → (Ty.kd (.pr (.int .i64) (.sl (.pr (.int .i64) (.pr (.pr (.sl .byte) (.sl .byte)) (.sl (.arr 32 .byte))))))).wf a.1 → qlA a.1 (fun o0 => o0 = (qnC (a.1)))) := by kernel_rfl
theorem qwQ : qig.valid Try.prog 35 := qat (X := qta) (qaK qam (fun b hb => by cases hb; exact qar) qas trivial) 200 (qvd.mpr fun a hp w_0 => @qve a.1 w_0)
noncomputable def qej : Ctr := ⟨[], [.ow 57 (.pr (.sl .byte) (.sl .byte))], none, fun _ => ((qad, ()), (()))⟩
noncomputable def qmQ : Fx := ⟨seat, some bkT, fns, [], [], [], []⟩
def qkk (Q : (List ((List UInt8) × List UInt8)) → Prop) : Prop :=
 toB (98 : Int) :: ([] : List UInt8) ≠ ([] : List UInt8) ∧ toB (49 : Int) :: ([] : List UInt8) ≠ ([] : List UInt8) ∧ toB (100 : Int) :: ([] : List UInt8) ≠ ([] : List UInt8) ∧ toB (50 : Int) :: ([] : List UInt8) ≠ ([] : List UInt8) ∧ toB (102 : Int) :: ([] : List UInt8) ≠ ([] : List UInt8) ∧ toB (51 : Int) :: ([] : List UInt8) ≠ ([] : List UInt8) ∧ Q ((toB (98 : Int) :: ([] : List UInt8), toB (49 : Int) :: ([] : List UInt8)) :: (toB (100 : Int) :: ([] : List UInt8), toB (50 : Int) :: ([] : List UInt8)) :: (toB (102 : Int) :: ([] : List UInt8), toB (51 : Int) :: ([] : List UInt8)) :: ([] : List (List UInt8 × List UInt8)))
theorem qp2  : qkk  (fun o0 => o0 = qad) := by
 exact ⟨by simp, by simp, by simp, by simp, by simp, by simp, rfl⟩
theorem qp1 : (∀ a, qej.pre a → PM.wfP qej.pm a (fvc qmQ 200 76 qej a (eqO qej a))) = (∀ a : Unit, True → qkk  (fun o0 => o0 = qad)) := by kernel_rfl
theorem qsg : qej.valid Try.prog 76 := qat (X := qmQ) (qaK qam (fun b hb => by cases hb; exact qar) qas trivial) 200 (qp1.mpr fun a hp  => @qp2 )
def qmN : List UInt8 := [50]
end Go.Proofs.Ytmjjkpiglbpkhaa

set_option linter.unusedVariables false
set_option maxRecDepth 100000
set_option maxHeartbeats 20000000
namespace Go.Proofs.Ytmjjkpiglbpkhaa
open Go Go.RowKit Go.Inc
noncomputable def qca : Ctr := ⟨[.v (.sl .byte)], [.rw 5 .byte], some (fun a => (fun (a0_s : List UInt8) => (a0_s.length ≤ 140737488355328 : Prop)) a.1), fun a => (fun (a0_s : List UInt8) => ((a0_s, ()), (()))) a.1⟩
noncomputable def qlB : Fx := ⟨{ seat with rws := [5, 1000005] }, some bkT, fns, [], [], [], []⟩
def qgB (a0_s : List UInt8) (Q : (List UInt8) → Prop) : Prop :=
 ∀ (x0 : Bool), (x0 = true → a0_s = ([] : List UInt8)) → (x0 = true → Q ([] : List UInt8)) ∧ (x0 = false → (([] : List UInt8).length + a0_s.length) * (1 : Nat) ≤ (140737488355328 : Nat) ∧ Q (([] : List UInt8) ++ a0_s))
theorem qnF {a0_s : List UInt8} (w_0 : (Ty.kd (.sl .byte)).wf a0_s) (hp : a0_s.length ≤ 140737488355328) : qgB a0_s (fun o0 => o0 = a0_s) := by
 unfold qgB
 intro r hr
 refine ⟨fun h => ?_, fun _ => ⟨?_, rfl⟩⟩
 ·rw [hr h]
 ·simpa using hp
theorem qnE : (∀ a, qca.pre a → PM.wfP qca.pm a (fvc qlB 200 69 qca a (eqO qca a))) = (∀ a : (List UInt8) × Unit, ((a.1).length ≤ 140737488355328) → (Ty.kd (.sl .byte)).wf a.1 → qgB a.1 (fun o0 => o0 = (a.1))) := by kernel_rfl
theorem qgj : qca.valid Try.prog 69 := qat (X := qlB) (qaK (qam.rows [5, 1000005]) (fun b hb => by cases hb; exact qar) qas trivial) 200 (qnE.mpr fun a hp w_0 => @qnF a.1 w_0 hp)
def qdO (a1_root : List UInt8) (a2_key : List UInt8) (a3_s : Int × List (Int × ((List UInt8) × List UInt8) × List (List UInt8))) (Q : (List UInt8) → Bool → Int → Prop) (x0 : List UInt8 → Bool → Int → Int → List UInt8 → Prop) (x1 : List UInt8 → Bool → Int → Int → List UInt8 → Nat) (x2 : List UInt8) (x3 : Bool) (x4 : Int) (x5 : Int) (x6 : List UInt8) : Prop :=
 ((Ty.arr (32 : Nat) Ty.byte).kd.wf (qbl a3_s.fst (ix a3_s.snd x5).fst (qa0 (ix a3_s.snd x5).snd.fst) (ix a3_s.snd x5).snd.snd) → (Ty.int IntKind.i64).kd.wf (qhB a3_s.fst (ix a3_s.snd x5).fst (ix a3_s.snd x5).snd.snd) → (qhB a3_s.fst (ix a3_s.snd x5).fst (ix a3_s.snd x5).snd.snd ≠ (0 : Int) → Q ([] : List UInt8) false (10 : Int)) ∧ (¬qhB a3_s.fst (ix a3_s.snd x5).fst (ix a3_s.snd x5).snd.snd ≠ (0 : Int) → ((0 : Int) < x5 → (qbl a3_s.fst (ix a3_s.snd x5).fst (qa0 (ix a3_s.snd x5).snd.fst) (ix a3_s.snd x5).snd.snd ≠ x6 → Q ([] : List UInt8) false (10 : Int)) ∧ (¬qbl a3_s.fst (ix a3_s.snd x5).fst (qa0 (ix a3_s.snd x5).snd.fst) (ix a3_s.snd x5).snd.snd ≠ x6 → x5 < (9223372036854775807 : Int) ∧ x0 x2 x3 x4 (x5 + (1 : Int)) (qbl a3_s.fst (ix a3_s.snd x5).fst (qa0 (ix a3_s.snd x5).snd.fst) (ix a3_s.snd x5).snd.snd) ∧ x1 x2 x3 x4 (x5 + (1 : Int)) (qbl a3_s.fst (ix a3_s.snd x5).fst (qa0 (ix a3_s.snd x5).snd.fst) (ix a3_s.snd x5).snd.snd) < x1 x2 x3 x4 x5 x6)) ∧ (¬(0 : Int) < x5 → x5 < (9223372036854775807 : Int) ∧ x0 x2 x3 x4 (x5 + (1 : Int)) (qbl a3_s.fst (ix a3_s.snd x5).fst (qa0 (ix a3_s.snd x5).snd.fst) (ix a3_s.snd x5).snd.snd) ∧ x1 x2 x3 x4 (x5 + (1 : Int)) (qbl a3_s.fst (ix a3_s.snd x5).fst (qa0 (ix a3_s.snd x5).snd.fst) (ix a3_s.snd x5).snd.snd) < x1 x2 x3 x4 x5 x6)))
def qeW (a1_root : List UInt8) (a2_key : List UInt8) (a3_s : Int × List (Int × ((List UInt8) × List UInt8) × List (List UInt8))) (Q : (List UInt8) → Bool → Int → Prop) (x0 : List UInt8 → Bool → Int → Int → List UInt8 → Prop) (x1 : List UInt8 → Bool → Int → Int → List UInt8 → Nat) (x2 : List UInt8) (x3 : Bool) (x4 : Int) (x5 : Int) (x6 : List UInt8) : Prop :=
 (x5 < (a3_s.snd.length : Int) → ((0 : Int) ≤ x5 ∧ x5 < (a3_s.snd.length : Int)) ∧ (((ix a3_s.snd x5).snd.fst.fst.length + (ix a3_s.snd x5).snd.fst.snd.length ≤ (70368744177664 : Nat) ∧ qaJ (none : Option (List Nt × Int))) ∧ ((Ty.arr (32 : Nat) Ty.byte).kd.wf (qa0 (ix a3_s.snd x5).snd.fst) → (((ix a3_s.snd x5).snd.snd.length ≤ (1048576 : Nat) ∧ qah (none : Option (List Nt × Int)) (ix a3_s.snd x5).snd.snd.length) ∧ (qdO a1_root a2_key a3_s Q x0 x1 x2 x3 x4 x5 x6)) ∧ (((ix a3_s.snd x5).snd.snd.length ≤ (1048576 : Nat) ∧ qah (none : Option (List Nt × Int)) (ix a3_s.snd x5).snd.snd.length) ∧ (qdO a1_root a2_key a3_s Q x0 x1 x2 x3 x4 x5 x6)) ∧ True)) ∧ (((ix a3_s.snd x5).snd.fst.fst.length + (ix a3_s.snd x5).snd.fst.snd.length ≤ (70368744177664 : Nat) ∧ qaJ (none : Option (List Nt × Int))) ∧ ((Ty.arr (32 : Nat) Ty.byte).kd.wf (qa0 (ix a3_s.snd x5).snd.fst) → ((ix a3_s.snd x5).snd.snd.length ≤ (1048576 : Nat) ∧ qah (none : Option (List Nt × Int)) (ix a3_s.snd x5).snd.snd.length) ∧ (qdO a1_root a2_key a3_s Q x0 x1 x2 x3 x4 x5 x6))) ∧ True)
def qeX (a1_root : List UInt8) (a2_key : List UInt8) (a3_s : Int × List (Int × ((List UInt8) × List UInt8) × List (List UInt8))) (Q : (List UInt8) → Bool → Int → Prop) (x5 : Int) (x6 : List UInt8) : Prop :=
 (¬x5 < (a3_s.snd.length : Int) → ((0 : Int) ≤ a3_s.fst ∧ qaJ (none : Option (List Nt × Int))) ∧ ((Ty.arr (32 : Nat) Ty.byte).kd.wf (qcB a3_s.fst x6) → (qcB a3_s.fst x6 ≠ a1_root → Q ([] : List UInt8) false (10 : Int)) ∧ (¬qcB a3_s.fst x6 ≠ a1_root → (¬(qdC a2_key a3_s).fst = true → Q ([] : List UInt8) false (0 : Int)) ∧ ((qdC a2_key a3_s).fst = true → ((0 : Int) ≤ (0 : Int) ∧ (0 : Int) < (a3_s.snd.length : Int)) ∧ (ix a3_s.snd (0 : Int)).snd.fst.snd.length ≤ (140737488355328 : Nat) ∧ (Ty.byte.kd.sl.wf (ix a3_s.snd (0 : Int)).snd.fst.snd → Q (ix a3_s.snd (0 : Int)).snd.fst.snd true (0 : Int))))))
noncomputable def qeb : Ctr := ⟨[.nil, .v (.arr 32 .byte), .v (.sl .byte), .v (.pr (.int .i64) (.sl (.pr (.int .i64) (.pr (.pr (.sl .byte) (.sl .byte)) (.sl (.arr 32 .byte))))))], [.rw 5 .byte, .v .bool, .v (.int .i64)], some (fun a => (fun (a1_root : List UInt8) (a2_key : List UInt8) (a3_s : Int × List (Int × ((List UInt8) × List UInt8) × List (List UInt8))) => (∀ x ∈ a3_s.2, (x.2.1.1.length + x.2.1.2.length ≤ 70368744177664 ∧ x.2.2.length ≤ 65536) : Prop)) a.2.1 a.2.2.1 a.2.2.2.1), fun a => (fun (a1_root : List UInt8) (a2_key : List UInt8) (a3_s : Int × List (Int × ((List UInt8) × List UInt8) × List (List UInt8))) => (((qcf a1_root a2_key a3_s), (qcC a1_root a2_key a3_s), (qbw a1_root a2_key a3_s), ()), (()))) a.2.1 a.2.2.1 a.2.2.2.1⟩
noncomputable def qmm : Fx := ⟨{ seat with rws := [5] }, some bkT, fns, [(77, qfP), (58, qiw), (58, qlP), (79, qeC), (78, qhJ), (80, qdw), (69, qca)], [], [(8, [2], [])], [(10, [], [.o 0 2, .o 1 2, .o 2 2, .o 3 2, .o 4 2, .o 5 2, .o 6 2, .o 7 2, .o 9 2, .o 10 2, .par [8, 11, 12, 13, 14, 15] (.alt 8 0 (.alt 11 0 (.one 12 2 (.one 13 2 (.one 14 3 (.one 15 0 .fin)))) (.alt 15 0 (.one 11 0 (.one 12 2 (.one 13 2 (.one 14 3 .fin)))) .fin)) (.alt 15 0 (.one 8 0 (.one 11 0 (.one 12 2 (.one 13 2 (.one 14 3 .fin))))) .fin)), .o 16 1, .o 17 3]), (15, [], [.o 0 2, .o 1 2, .o 2 2, .o 3 2, .o 5 2, .o 4 0, .o 6 2, .o 7 2])]⟩
def qg8 (a1_root : List UInt8) (a2_key : List UInt8) (a3_s : Int × List (Int × ((List UInt8) × List UInt8) × List (List UInt8))) (Q : (List UInt8) → Bool → Int → Prop) : Prop :=
 (¬(qdC a2_key a3_s).snd = true → Q ([] : List UInt8) false (10 : Int)) ∧ ((qdC a2_key a3_s).snd = true → (a3_s.fst < (0 : Int) → Q ([] : List UInt8) false (10 : Int)) ∧ (¬a3_s.fst < (0 : Int) → (a3_s.fst = (0 : Int) → ([] : List (List UInt8)).length ≤ (1048576 : Nat) ∧ ((Ty.arr (32 : Nat) Ty.byte).kd.wf (qaL ([] : List (List UInt8))) → ∃ (x0 : List UInt8 → Bool → Int → Int → List UInt8 → Prop), ∃ (x1 : List UInt8 → Bool → Int → Int → List UInt8 → Nat), x0 ([] : List UInt8) false (0 : Int) (0 : Int) (qaL ([] : List (List UInt8))) ∧ ∀ (x2 : List UInt8) (x3 : Bool) (x4 x5 : Int) (x6 : List UInt8), x0 x2 x3 x4 x5 x6 → Ty.byte.kd.sl.wf x2 → (Kd.int IntKind.i64).wf x4 → (Kd.int IntKind.i64).wf x5 → (Ty.arr (32 : Nat) Ty.byte).kd.wf x6 → (qeW a1_root a2_key a3_s Q x0 x1 x2 x3 x4 x5 x6) ∧ (qeX a1_root a2_key a3_s Q x5 x6))) ∧ (¬a3_s.fst = (0 : Int) → ∃ (x0 : List UInt8 → Bool → Int → Int → List UInt8 → Prop), ∃ (x1 : List UInt8 → Bool → Int → Int → List UInt8 → Nat), x0 ([] : List UInt8) false (0 : Int) (0 : Int) (Ty.arr (32 : Nat) Ty.byte).kd.z ∧ ∀ (x2 : List UInt8) (x3 : Bool) (x4 x5 : Int) (x6 : List UInt8), x0 x2 x3 x4 x5 x6 → Ty.byte.kd.sl.wf x2 → (Kd.int IntKind.i64).wf x4 → (Kd.int IntKind.i64).wf x5 → (Ty.arr (32 : Nat) Ty.byte).kd.wf x6 → (qeW a1_root a2_key a3_s Q x0 x1 x2 x3 x4 x5 x6) ∧ (qeX a1_root a2_key a3_s Q x5 x6))))
theorem qpj {a1_root : List UInt8} {a2_key : List UInt8} {a3_s : Int × List (Int × ((List UInt8) × List UInt8) × List (List UInt8))} (w_0 : (Ty.kd (.arr 32 .byte)).wf a1_root) (w_1 : (Ty.kd (.sl .byte)).wf a2_key) (w_2 : (Ty.kd (.pr (.int .i64) (.sl (.pr (.int .i64) (.pr (.pr (.sl .byte) (.sl .byte)) (.sl (.arr 32 .byte))))))).wf a3_s) (hp : ∀ x ∈ a3_s.2, (x.2.1.1.length + x.2.1.2.length ≤ 70368744177664 ∧ x.2.2.length ≤ 65536)) : qg8 a1_root a2_key a3_s (fun o0 o1 o2 => o0 = (qcf a1_root a2_key a3_s) ∧ o1 = (qcC a1_root a2_key a3_s) ∧ o2 = (qbw a1_root a2_key a3_s)) := by
 obtain ⟨n, l⟩ := a3_s
 have hs : ∀ x ∈ l, x.2.1.1.length + x.2.1.2.length ≤ 70368744177664 ∧ x.2.2.length ≤ 65536 := hp
 have hwn : (Kd.int .i64).wf n := w_2.1
 unfold qg8
 refine ⟨fun h => ?_, fun hok => ⟨fun hn => ?_, fun hn => ?_⟩⟩
 ·have e : qel a1_root a2_key (n, l) = none := if_neg (fun hc => h (by rw [qmF hc.2 hwn]; exact hc.1))
  unfold qcf qcC qbw
  rw [e]
  exact ⟨rfl, rfl, rfl⟩
 ·have e : qel a1_root a2_key (n, l) = none := if_neg (fun hc => by have h1 : 0 ≤ n := hc.2; have hn : n < 0 := hn; omega)
  unfold qcf qcC qbw
  rw [e]
  exact ⟨rfl, rfl, rfl⟩
 have hn0 : 0 ≤ n := by have hn : ¬ n < 0 := hn; omega
 have eW : qdC a2_key (n, l) = qe7 a2_key (n, l) := qmF hn0 hwn
 rw [eW] at hok
 have hsay : (qe7 a2_key (n, l)).2 = true ∧ 0 ≤ n := ⟨hok, hn0⟩
 have hl2 : l.length ≤ 2 := by
  rcases l with _ | ⟨a, _ | ⟨b, _ | ⟨c, l⟩⟩⟩
  ·simp
  ·simp
  ·simp
  ·cases hok
 have eO : qel a1_root a2_key (n, l) = (match goK n true l (begK n) with
  | some t => if qcB n t = a1_root then some (qe7 a2_key (n, l)).1 else none
  | none => none) := if_pos hsay
 have nr : qaJ (none : qak) := fun y h => by cases h
 have nu : ∀ k, qah (none : qak) k := fun k y h => by cases h
 have fail : goK n true l (begK n) = none → ([] = qcf a1_root a2_key (n, l) ∧ false = qcC a1_root a2_key (n, l) ∧ (10 : Int) = qbw a1_root a2_key (n, l)) := fun hg => by
  rw [hg] at eO
  unfold qcf qcC qbw
  rw [eO]
  exact ⟨rfl, rfl, rfl⟩
 have step : ∀ (x0 : List UInt8 → Bool → Int → Int → List UInt8 → Prop) (x1 : List UInt8 → Bool → Int → Int → List UInt8 → Nat),
  (x0 = fun x2 x3 x4 x5 x7 => ∃ j : Nat, x5 = (j : Int) ∧ j ≤ l.length ∧ goK n (decide (j = 0)) (l.drop j) x7 = goK n true l (begK n)) →
  (x1 = fun _ _ _ x5 _ => ((l.length : Int) - x5).toNat) → ∀ (x2 : List UInt8) (x3 : Bool) (x4 x5 : Int) (x7 : List UInt8), x0 x2 x3 x4 x5 x7 → qeW a1_root a2_key (n, l) (fun o0 o1 o2 => o0 = (qcf a1_root a2_key (n, l)) ∧ o1 = (qcC a1_root a2_key (n, l)) ∧ o2 = (qbw a1_root a2_key (n, l))) x0 x1 x2 x3 x4 x5 x7 ∧ qeX a1_root a2_key (n, l) (fun o0 o1 o2 => o0 = (qcf a1_root a2_key (n, l)) ∧ o1 = (qcC a1_root a2_key (n, l)) ∧ o2 = (qbw a1_root a2_key (n, l))) x5 x7 := by
  intro x0 x1 e0 e1 x2 x3 x4 x5 x7 hI
  rw [e0] at hI
  obtain ⟨j, rfl, hj, hg⟩ := hI
  refine ⟨?_, ?_⟩
  ·unfold qeW
   intro hlt
   have hj' : j < l.length := by have hlt : (j : Int) < (l.length : Int) := hlt; omega
   have eix : ix l (j : Int) = l[j] := ixN hj'
   have hsz := hs _ (List.getElem_mem hj')
   rw [List.drop_eq_getElem_cons hj'] at hg
   have k1 : qdO a1_root a2_key (n, l) (fun o0 o1 o2 => o0 = (qcf a1_root a2_key (n, l)) ∧ o1 = (qcC a1_root a2_key (n, l)) ∧ o2 = (qbw a1_root a2_key (n, l))) x0 x1 x2 x3 x4 (j : Int) x7 := by
    unfold qdO
    simp only [eix]
    intro _ _
    have hgo : goK n (decide (j = 0)) (l[j] :: l.drop (j + 1)) x7 = if qdx n l[j].1 l[j].2.2 = true ∧ (decide (j = 0) = true ∨ qbl n l[j].1 (qa0 l[j].2.1) l[j].2.2 = x7) then goK n false (l.drop (j + 1)) (qbl n l[j].1 (qa0 l[j].2.1) l[j].2.2) else none := rfl
    have bad : ¬ (qdx n l[j].1 l[j].2.2 = true ∧ (decide (j = 0) = true ∨ qbl n l[j].1 (qa0 l[j].2.1) l[j].2.2 = x7)) → ([] = qcf a1_root a2_key (n, l) ∧ false = qcC a1_root a2_key (n, l) ∧ (10 : Int) = qbw a1_root a2_key (n, l)) := fun hc => by
     rw [hgo, if_neg hc] at hg
     exact fail hg.symm
    have good : (qdx n l[j].1 l[j].2.2 = true ∧ (decide (j = 0) = true ∨ qbl n l[j].1 (qa0 l[j].2.1) l[j].2.2 = x7)) → (j : Int) < 9223372036854775807 ∧ x0 x2 x3 x4 ((j : Int) + 1) (qbl n l[j].1 (qa0 l[j].2.1) l[j].2.2) ∧ x1 x2 x3 x4 ((j : Int) + 1) (qbl n l[j].1 (qa0 l[j].2.1) l[j].2.2) < x1 x2 x3 x4 (j : Int) x7 := fun hc => by
     rw [hgo, if_pos hc] at hg
     rw [e0, e1]
     exact ⟨by omega, ⟨j + 1, rfl, hj', hg⟩, by dsimp only; omega⟩
    have el : qhB n l[j].1 l[j].2.2 = if qdx n l[j].1 l[j].2.2 = true then 0 else 10 := rfl
    rw [el]
    by_cases hB : qdx n l[j].1 l[j].2.2 = true
    ·rw [if_pos hB]
     refine ⟨fun h => absurd rfl h, fun _ => ⟨fun hp => ⟨fun hne => bad ?_, fun he => good ⟨hB, .inr (Classical.not_not.1 he)⟩⟩, fun hp => good ⟨hB, .inl (decide_eq_true (by omega))⟩⟩⟩
     rintro ⟨_, h | h⟩
     ·have := of_decide_eq_true h; omega
     ·exact hne h
    ·rw [if_neg hB]
     exact ⟨fun _ => bad fun hc => hB hc.1, fun h => absurd (by decide : (10 : Int) ≠ 0) h⟩
   have b : (0 : Int) ≤ (j : Int) ∧ (j : Int) < ((l.length : Nat) : Int) := ⟨by omega, by omega⟩
   simp only [eix]
   have p16 : l[j].2.2.length ≤ 1048576 := by omega
   exact ⟨b, ⟨⟨hsz.1, nr⟩, fun _ => ⟨⟨⟨p16, nu _⟩, k1⟩, ⟨⟨p16, nu _⟩, k1⟩, trivial⟩⟩, ⟨⟨hsz.1, nr⟩, fun _ => ⟨⟨p16, nu _⟩, k1⟩⟩, trivial⟩
  ·unfold qeX
   intro hge
   obtain rfl : j = l.length := by have hge : ¬ (j : Int) < (l.length : Int) := hge; omega
   rw [List.drop_length] at hg
   have hg : some x7 = goK n true l (begK n) := hg
   rw [← hg] at eO
   have eO : qel a1_root a2_key (n, l) = if qcB n x7 = a1_root then some (qe7 a2_key (n, l)).1 else none := eO
   rw [eW]
   refine ⟨⟨hn0, nr⟩, fun _ => ⟨fun hne => ?_, fun he => ⟨fun hf => ?_, fun ht => ⟨⟨by omega, ?_⟩, ?_, fun _ => ?_⟩⟩⟩⟩
   ·rw [if_neg hne] at eO
    unfold qcf qcC qbw
    rw [eO]
    exact ⟨rfl, rfl, rfl⟩
   ·rw [if_pos (Classical.not_not.1 he), Bool.eq_false_iff.2 hf] at eO
    unfold qcf qcC qbw
    rw [eO]
    exact ⟨rfl, rfl, rfl⟩
   ·rcases l with _ | ⟨a, l⟩
    ·cases ht
    ·simp
   ·have hp : 0 < l.length := by
     rcases l with _ | ⟨a, l⟩
     ·cases ht
     ·simp
    have := hs _ (List.getElem_mem hp)
    rw [show ix (n, l).2 (0 : Int) = l[0] from ixN (j := 0) hp]
    omega
   ·rw [if_pos (Classical.not_not.1 he), ht] at eO
    unfold qcf qcC qbw
    rw [eO]
    exact ⟨rfl, rfl, rfl⟩
 refine ⟨fun h0 => ⟨by simp, fun _ => ⟨_, _, ?_, fun x2 x3 x4 x5 x7 hI _ _ _ _ => step _ _ rfl rfl x2 x3 x4 x5 x7 hI⟩⟩, fun h0 => ⟨_, _, ?_, fun x2 x3 x4 x5 x7 hI _ _ _ _ => step _ _ rfl rfl x2 x3 x4 x5 x7 hI⟩⟩
 ·have h0 : n = 0 := h0
  have e1 : begK n = qaL [] := if_pos h0
  exact ⟨0, rfl, Nat.zero_le _, by rw [e1]; rfl⟩
 ·have h0 : ¬ n = 0 := h0
  have e1 : begK n = sm0L := if_neg h0
  exact ⟨0, rfl, Nat.zero_le _, by rw [e1]; rfl⟩
theorem qpi : (∀ a, qeb.pre a → PM.wfP qeb.pm a (fvc qmm 200 31 qeb a (eqO qeb a))) = (∀ a : Unit × (List UInt8) × (List UInt8) × (Int × List (Int × ((List UInt8) × List UInt8) × List (List UInt8))) × Unit, (∀ x ∈ (a.2.2.2.1).2, (x.2.1.1.length + x.2.1.2.length ≤ 70368744177664 ∧ x.2.2.length ≤ 65536)) → (Ty.kd (.arr 32 .byte)).wf a.2.1 → (Ty.kd (.sl .byte)).wf a.2.2.1 → (Ty.kd (.pr (.int .i64) (.sl (.pr (.int .i64) (.pr (.pr (.sl .byte) (.sl .byte)) (.sl (.arr 32 .byte))))))).wf a.2.2.2.1 → qg8 a.2.1 a.2.2.1 a.2.2.2.1 (fun o0 o1 o2 => o0 = (qcf (a.2.1) (a.2.2.1) (a.2.2.2.1)) ∧ o1 = (qcC (a.2.1) (a.2.2.1) (a.2.2.2.1)) ∧ o2 = (qbw (a.2.1) (a.2.2.1) (a.2.2.2.1)))) := by kernel_rfl
theorem qrK : qeb.valid Try.prog 31 := qat (X := qmm) (qaK (qam.rows [5]) (fun b hb => by cases hb; exact qar) qas ⟨quD, qkI, qlQ, qpu, qvk, qmr, qgj, trivial⟩) 200 (qpi.mpr fun a hp w_0 w_1 w_2 => @qpj a.2.1 a.2.2.1 a.2.2.2.1 w_0 w_1 w_2 hp)
def qd4 (Q : Bool → Prop) : Prop :=
 (Ty.byte.kd.sl.wf (qcf (qa2 qad) (toB (120 : Int) :: ([] : List UInt8)) (qaI qad (toB (97 : Int) :: ([] : List UInt8)))) → (Ty.int IntKind.i64).kd.wf (qbw (qa2 qad) (toB (120 : Int) :: ([] : List UInt8)) (qaI qad (toB (97 : Int) :: ([] : List UInt8)))) → (mayK qad = true → ((0 : Int) ≤ (1 : Int) ∧ (1 : Int) < (qad.length : Int)) ∧ ((0 : Int) ≤ (0 : Int) ∧ (0 : Int) < (qad.length : Int)) ∧ (¬mayK (ix qad (1 : Int) :: ix qad (0 : Int) :: ([] : List (List UInt8 × List UInt8))) = true → (((qaI qad (toB (100 : Int) :: ([] : List UInt8))).snd.length : Int) = (1 : Int) → ((0 : Int) ≤ (0 : Int) ∧ (0 : Int) < ((qaI qad (toB (100 : Int) :: ([] : List UInt8))).snd.length : Int)) ∧ ((ix (qaI qad (toB (100 : Int) :: ([] : List UInt8))).snd (0 : Int)).fst = (1 : Int) → (((qaI qad (toB (99 : Int) :: ([] : List UInt8))).snd.length : Int) = (2 : Int) → (qcf (qa2 qad) (toB (100 : Int) :: ([] : List UInt8)) (qaI qad (toB (100 : Int) :: ([] : List UInt8))) = qmN → (qcC (qa2 qad) (toB (100 : Int) :: ([] : List UInt8)) (qaI qad (toB (100 : Int) :: ([] : List UInt8))) = true → (qbw (qa2 qad) (toB (100 : Int) :: ([] : List UInt8)) (qaI qad (toB (100 : Int) :: ([] : List UInt8))) = (0 : Int) → (¬qcC (qa2 qad) (toB (99 : Int) :: ([] : List UInt8)) (qaI qad (toB (99 : Int) :: ([] : List UInt8))) = true → (qbw (qa2 qad) (toB (99 : Int) :: ([] : List UInt8)) (qaI qad (toB (99 : Int) :: ([] : List UInt8))) = (0 : Int) → (qbw (qa2 qad) (toB (99 : Int) :: ([] : List UInt8)) (qaI qad (toB (100 : Int) :: ([] : List UInt8))) = (10 : Int) → Q (decide (qbw (qa2 qad) (toB (120 : Int) :: ([] : List UInt8)) (qaI qad (toB (97 : Int) :: ([] : List UInt8))) = (10 : Int)))) ∧ (¬qbw (qa2 qad) (toB (99 : Int) :: ([] : List UInt8)) (qaI qad (toB (100 : Int) :: ([] : List UInt8))) = (10 : Int) → Q false)) ∧ (¬qbw (qa2 qad) (toB (99 : Int) :: ([] : List UInt8)) (qaI qad (toB (99 : Int) :: ([] : List UInt8))) = (0 : Int) → Q false)) ∧ (qcC (qa2 qad) (toB (99 : Int) :: ([] : List UInt8)) (qaI qad (toB (99 : Int) :: ([] : List UInt8))) = true → Q false)) ∧ (¬qbw (qa2 qad) (toB (100 : Int) :: ([] : List UInt8)) (qaI qad (toB (100 : Int) :: ([] : List UInt8))) = (0 : Int) → Q false)) ∧ (qcC (qa2 qad) (toB (100 : Int) :: ([] : List UInt8)) (qaI qad (toB (100 : Int) :: ([] : List UInt8))) = false → Q false)) ∧ (¬qcf (qa2 qad) (toB (100 : Int) :: ([] : List UInt8)) (qaI qad (toB (100 : Int) :: ([] : List UInt8))) = qmN → Q false)) ∧ (¬((qaI qad (toB (99 : Int) :: ([] : List UInt8))).snd.length : Int) = (2 : Int) → Q false)) ∧ (¬(ix (qaI qad (toB (100 : Int) :: ([] : List UInt8))).snd (0 : Int)).fst = (1 : Int) → Q false)) ∧ (¬((qaI qad (toB (100 : Int) :: ([] : List UInt8))).snd.length : Int) = (1 : Int) → Q false)) ∧ (mayK (ix qad (1 : Int) :: ix qad (0 : Int) :: ([] : List (List UInt8 × List UInt8))) = true → Q false)) ∧ (mayK qad = false → Q false))
def qc3 (Q : Bool → Prop) : Prop :=
 (((Ty.int IntKind.i64).pr ((Ty.int IntKind.i64).pr ((Ty.byte.sl.pr Ty.byte.sl).pr (Ty.arr (32 : Nat) Ty.byte).sl)).sl).kd.wf (qaI qad (toB (97 : Int) :: ([] : List UInt8))) → (∀ (x0 : Int × (List UInt8 × List UInt8) × List (List UInt8)), x0 ∈ (qaI qad (toB (97 : Int) :: ([] : List UInt8))).snd → x0.snd.fst.fst.length + x0.snd.fst.snd.length ≤ (70368744177664 : Nat) ∧ x0.snd.snd.length ≤ (65536 : Nat)) ∧ (qd4 Q))
def qd5 (Q : Bool → Prop) : Prop :=
 ((qad.length ≤ (65536 : Nat) ∧ ∀ (x0 : List UInt8 × List UInt8), x0 ∈ qad → x0.fst.length + x0.snd.length ≤ (70368744177664 : Nat)) ∧ (((Ty.int IntKind.i64).pr ((Ty.int IntKind.i64).pr ((Ty.byte.sl.pr Ty.byte.sl).pr (Ty.arr (32 : Nat) Ty.byte).sl)).sl).kd.wf (qaI qad (toB (97 : Int) :: ([] : List UInt8))) → toB (120 : Int) :: ([] : List UInt8) ≠ ([] : List UInt8) ∧ (∀ (x0 : Int × (List UInt8 × List UInt8) × List (List UInt8)), x0 ∈ (qaI qad (toB (97 : Int) :: ([] : List UInt8))).snd → x0.snd.fst.fst.length + x0.snd.fst.snd.length ≤ (70368744177664 : Nat) ∧ x0.snd.snd.length ≤ (65536 : Nat)) ∧ (qd4 Q)))
def qfv (Q : Bool → Prop) : Prop :=
 ((toB (120 : Int) :: ([] : List UInt8) ≠ ([] : List UInt8) ∧ toB (97 : Int) :: ([] : List UInt8) ≠ ([] : List UInt8) ∧ (qad.length ≤ (65536 : Nat) ∧ ∀ (x0 : List UInt8 × List UInt8), x0 ∈ qad → x0.fst.length + x0.snd.length ≤ (70368744177664 : Nat)) ∧ (qc3 Q)) ∧ (toB (97 : Int) :: ([] : List UInt8) ≠ ([] : List UInt8) ∧ (toB (120 : Int) :: ([] : List UInt8) ≠ ([] : List UInt8) ∧ (qad.length ≤ (65536 : Nat) ∧ ∀ (x0 : List UInt8 × List UInt8), x0 ∈ qad → x0.fst.length + x0.snd.length ≤ (70368744177664 : Nat)) ∧ (qc3 Q)) ∧ (qd5 Q) ∧ True) ∧ True)
noncomputable def qcm : Ctr := ⟨[], [.v .bool], none, fun _ => ((true, ()), (()))⟩
noncomputable def qjD : Fx := ⟨seat, some bkT, fns, [(76, qej), (32, qmn), (32, qfM), (33, qfN), (31, qeb), (29, qg9)], [], [], [(7, [], [.o 0 3, .o 3 3, .par [1, 2, 4, 5, 6] (.alt 1 1 (.alt 2 1 (.one 4 1 (.one 5 1 (.one 6 1 .fin))) (.alt 4 1 (.alt 2 1 (.one 5 1 (.one 6 1 .fin)) (.alt 5 1 (.alt 2 1 (.one 6 1 .fin) (.alt 6 1 (.one 2 1 .fin) .fin)) .fin)) .fin)) (.alt 4 1 (.alt 1 1 (.alt 2 1 (.one 5 1 (.one 6 1 .fin)) (.alt 5 1 (.alt 2 1 (.one 6 1 .fin) (.alt 6 1 (.one 2 1 .fin) .fin)) .fin)) (.alt 5 1 (.alt 1 1 (.alt 2 1 (.one 6 1 .fin) (.alt 6 1 (.one 2 1 .fin) .fin)) (.alt 6 1 (.one 1 1 (.one 2 1 .fin)) .fin)) .fin)) .fin)), .o 7 1, .o 8 3, .o 9 3, .o 10 3, .o 11 3, .o 12 3, .o 13 3, .o 14 3]), (8, [], [.o 0 2, .o 1 0, .o 2 2, .o 3 2, .o 4 2, .o 5 2, .o 6 2, .o 7 2, .o 8 2, .o 9 0, .o 10 0, .o 11 2, .o 12 2, .o 13 2, .o 14 2, .o 15 2, .o 16 2, .o 17 2, .o 18 2, .o 19 2, .o 20 2, .o 21 2, .o 22 2, .o 23 2, .o 24 2, .o 25 2, .o 26 2, .o 27 2, .o 28 2, .o 29 2, .o 30 2, .o 31 2, .o 32 2, .o 33 2, .o 34 2, .o 35 2, .o 36 2, .o 37 2, .o 38 2, .o 39 2, .o 40 2, .o 41 2, .o 42 2, .o 43 2, .o 44 2, .o 45 2, .o 46 2, .o 47 2, .o 48 2, .o 49 2, .o 50 2, .o 51 2, .o 52 2, .o 53 2, .o 54 2, .o 55 2, .o 56 2, .o 57 2, .o 58 2, .o 59 2, .o 60 2, .o 61 2])]⟩
def qfw (Q : Bool → Prop) : Prop :=
 (Ty.byte.sl.pr Ty.byte.sl).kd.sl.wf qad → (qad.length ≤ (65536 : Nat) ∧ ∀ (x0 : List UInt8 × List UInt8), x0 ∈ qad → x0.fst.length + x0.snd.length ≤ (70368744177664 : Nat)) ∧ ((Ty.arr (32 : Nat) Ty.byte).kd.wf (qa2 qad) → toB (100 : Int) :: ([] : List UInt8) ≠ ([] : List UInt8) ∧ (qad.length ≤ (65536 : Nat) ∧ ∀ (x0 : List UInt8 × List UInt8), x0 ∈ qad → x0.fst.length + x0.snd.length ≤ (70368744177664 : Nat)) ∧ (((Ty.int IntKind.i64).pr ((Ty.int IntKind.i64).pr ((Ty.byte.sl.pr Ty.byte.sl).pr (Ty.arr (32 : Nat) Ty.byte).sl)).sl).kd.wf (qaI qad (toB (100 : Int) :: ([] : List UInt8))) → toB (99 : Int) :: ([] : List UInt8) ≠ ([] : List UInt8) ∧ (qad.length ≤ (65536 : Nat) ∧ ∀ (x0 : List UInt8 × List UInt8), x0 ∈ qad → x0.fst.length + x0.snd.length ≤ (70368744177664 : Nat)) ∧ (((Ty.int IntKind.i64).pr ((Ty.int IntKind.i64).pr ((Ty.byte.sl.pr Ty.byte.sl).pr (Ty.arr (32 : Nat) Ty.byte).sl)).sl).kd.wf (qaI qad (toB (99 : Int) :: ([] : List UInt8))) → toB (100 : Int) :: ([] : List UInt8) ≠ ([] : List UInt8) ∧ (∀ (x0 : Int × (List UInt8 × List UInt8) × List (List UInt8)), x0 ∈ (qaI qad (toB (100 : Int) :: ([] : List UInt8))).snd → x0.snd.fst.fst.length + x0.snd.fst.snd.length ≤ (70368744177664 : Nat) ∧ x0.snd.snd.length ≤ (65536 : Nat)) ∧ (Ty.byte.kd.sl.wf (qcf (qa2 qad) (toB (100 : Int) :: ([] : List UInt8)) (qaI qad (toB (100 : Int) :: ([] : List UInt8)))) → (Ty.int IntKind.i64).kd.wf (qbw (qa2 qad) (toB (100 : Int) :: ([] : List UInt8)) (qaI qad (toB (100 : Int) :: ([] : List UInt8)))) → toB (99 : Int) :: ([] : List UInt8) ≠ ([] : List UInt8) ∧ (∀ (x0 : Int × (List UInt8 × List UInt8) × List (List UInt8)), x0 ∈ (qaI qad (toB (99 : Int) :: ([] : List UInt8))).snd → x0.snd.fst.fst.length + x0.snd.fst.snd.length ≤ (70368744177664 : Nat) ∧ x0.snd.snd.length ≤ (65536 : Nat)) ∧ (Ty.byte.kd.sl.wf (qcf (qa2 qad) (toB (99 : Int) :: ([] : List UInt8)) (qaI qad (toB (99 : Int) :: ([] : List UInt8)))) → (Ty.int IntKind.i64).kd.wf (qbw (qa2 qad) (toB (99 : Int) :: ([] : List UInt8)) (qaI qad (toB (99 : Int) :: ([] : List UInt8)))) → toB (99 : Int) :: ([] : List UInt8) ≠ ([] : List UInt8) ∧ (∀ (x0 : Int × (List UInt8 × List UInt8) × List (List UInt8)), x0 ∈ (qaI qad (toB (100 : Int) :: ([] : List UInt8))).snd → x0.snd.fst.fst.length + x0.snd.fst.snd.length ≤ (70368744177664 : Nat) ∧ x0.snd.snd.length ≤ (65536 : Nat)) ∧ (Ty.byte.kd.sl.wf (qcf (qa2 qad) (toB (99 : Int) :: ([] : List UInt8)) (qaI qad (toB (100 : Int) :: ([] : List UInt8)))) → (Ty.int IntKind.i64).kd.wf (qbw (qa2 qad) (toB (99 : Int) :: ([] : List UInt8)) (qaI qad (toB (100 : Int) :: ([] : List UInt8)))) → ((toB (120 : Int) :: ([] : List UInt8) ≠ ([] : List UInt8) ∧ toB (97 : Int) :: ([] : List UInt8) ≠ ([] : List UInt8) ∧ (qad.length ≤ (65536 : Nat) ∧ ∀ (x0 : List UInt8 × List UInt8), x0 ∈ qad → x0.fst.length + x0.snd.length ≤ (70368744177664 : Nat)) ∧ (qc3 Q)) ∧ (qfv Q) ∧ True) ∧ ((qfv Q) ∧ (toB (97 : Int) :: ([] : List UInt8) ≠ ([] : List UInt8) ∧ ((toB (120 : Int) :: ([] : List UInt8) ≠ ([] : List UInt8) ∧ (qad.length ≤ (65536 : Nat) ∧ ∀ (x0 : List UInt8 × List UInt8), x0 ∈ qad → x0.fst.length + x0.snd.length ≤ (70368744177664 : Nat)) ∧ (qc3 Q)) ∧ (qd5 Q) ∧ True) ∧ (qd5 Q) ∧ True) ∧ True) ∧ True))))))
theorem qm7  : qfw  (fun o0 => o0 = true) := by
 have e100 : toB (100 : Int) = 100 := by decide
 have e99 : toB (99 : Int) = 99 := by decide
 have e97 : toB (97 : Int) = 97 := by decide
 have e120 : toB (120 : Int) = 120 := by decide
 have p1 := qlv
 have sm := fun key : By => qnr (key := key) p1.1 p1.2
 obtain ⟨d1, d2, d3⟩ := tells (key := [100]) qdg
 obtain ⟨c1, c2, c3⟩ := tells (key := [99]) qdg
 have s1 : qcA qad [100] = ([50], true) := by decide +kernel
 have s2 : qcA qad [99] = ([], false) := by decide +kernel
 rw [s1] at d2 d3
 rw [s2] at c2 c3
 have n1 : mayK [ix qad 1, ix qad 0] = false := by decide +kernel
 have l1 : ((qaI qad [100]).2.length : Int) = 1 := by rw [qlu]; rfl
 have l2 : ((qaI qad [99]).2.length : Int) = 2 := by rw [qu0]; rfl
 have l3 : (ix (qaI qad [100]).2 0).1 = 1 := by rw [qlu]; rfl
 have k1 : qd4 (fun o0 => o0 = true) := by
  unfold qd4
  simp only [e100, e99, e97, e120]
  refine fun _ _ => ⟨fun _ => ⟨⟨by decide, by decide⟩, ⟨by decide, by decide⟩, fun _ => ⟨fun _ => ⟨⟨by omega, by omega⟩, fun _ => ⟨fun _ => ⟨fun _ => ⟨fun _ => ⟨fun _ => ⟨fun _ => ⟨fun _ => ⟨fun _ => decide_eq_true qsi, fun h => absurd qsh h⟩, fun h => absurd c1 h⟩, fun h => ?_⟩, fun h => absurd d1 h⟩, fun h => ?_⟩, fun h => absurd d3 h⟩, fun h => absurd l2 h⟩, fun h => absurd l3 h⟩, fun h => absurd l1 h⟩, fun h => ?_⟩, fun h => ?_⟩
  ·rw [c2] at h; cases h
  ·rw [d2] at h; cases h
  ·rw [n1] at h; cases h
  ·rw [qdg] at h; cases h
 have q : ∀ x : UInt8, [x] ≠ ([] : List UInt8) := fun x h => by cases h
 have k2 : qc3 (fun o0 => o0 = true) := fun _ => ⟨sm _, k1⟩
 have k3 : qd5 (fun o0 => o0 = true) := ⟨p1, fun _ => ⟨q _, sm _, k1⟩⟩
 have k4 : qfv (fun o0 => o0 = true) := ⟨⟨q _, q _, p1, k2⟩, ⟨q _, ⟨q _, p1, k2⟩, k3, trivial⟩, trivial⟩
 unfold qfw
 exact fun _ => ⟨p1, fun _ => ⟨q _, p1, fun _ => ⟨q _, p1, fun _ => ⟨q _, sm _, fun _ _ => ⟨q _, sm _, fun _ _ => ⟨q _, sm _, fun _ _ => ⟨⟨⟨q _, q _, p1, k2⟩, k4, trivial⟩, ⟨k4, ⟨q _, ⟨⟨q _, p1, k2⟩, k3, trivial⟩, k3, trivial⟩, trivial⟩, trivial⟩⟩⟩⟩⟩⟩⟩
theorem qm6 : (∀ a, qcm.pre a → PM.wfP qcm.pm a (fvc qjD 200 30 qcm a (eqO qcm a))) = (∀ a : Unit, True → qfw  (fun o0 => o0 = true)) := by kernel_rfl
theorem qjE : qcm.valid Try.prog 30 := qat (X := qjD) (qaK qam (fun b hb => by cases hb; exact qar) qas ⟨qsg, qrN, qpn, quB, qrK, qsX, trivial⟩) 200 (qm6.mpr fun a hp  => @qm7 )
end Go.Proofs.Ytmjjkpiglbpkhaa

set_option linter.unusedVariables false
namespace Go.Inc
open Go
abbrev Cu := List UInt8 × Bool
def qcV : List UInt8 → Nat × Nat
 | [] => (0, 0)
 | c :: r => if c.toNat ≤ 8 ∧ c.toNat ≤ r.length ∧ ¬ (0 < c.toNat ∧ r.head? = some 0) then (valB (r.take c.toNat), c.toNat + 1) else (0, 0)
theorem qbU (c : UInt8) (r : List UInt8) : qcV (c :: r) = if c.toNat ≤ 8 ∧ c.toNat ≤ r.length ∧ ¬ (0 < c.toNat ∧ r.head? = some 0) then (valB (r.take c.toNat), c.toNat + 1) else (0, 0) := rfl
theorem qjr : ∀ l : List UInt8, valB l < 256 ^ l.length
 | [] => by simp [valB]
 | c :: l => by
   have h1 := qjr l
   have h2 : c.toNat < 256 := c.toNat_lt
   simp only [valB, List.length_cons, Nat.pow_succ]
   have h3 : c.toNat * 256 ^ l.length ≤ 255 * 256 ^ l.length := Nat.mul_le_mul_right _ (by omega)
   omega
theorem qmU : ∀ a b : List UInt8, valB (a ++ b) = valB a * 256 ^ b.length + valB b
 | [], b => by simp [valB]
 | c :: a, b => by
   simp only [List.cons_append, valB, qmU a b, List.length_append, Nat.pow_add, Nat.add_mul, Nat.mul_assoc, Nat.add_assoc]
theorem qot : ∀ l : List UInt8, be (valB l) l.length = l
 | [] => rfl
 | c :: l => by
   have h1 := qjr l
   have hp : 0 < 256 ^ l.length := Nat.pow_pos (by omega)
   simp only [valB, List.length_cons, be, pow8]
   have h2 : (c.toNat * 256 ^ l.length + valB l) / 256 ^ l.length = c.toNat := by
    rw [Nat.mul_comm, Nat.mul_add_div hp, Nat.div_eq_of_lt h1, Nat.add_zero]
   rw [h2]
   have h3 : ∀ (n k : Nat) (j : Nat), be (n * 256 ^ k + j) k = be j k := fun n k j => by
    induction k generalizing n j with
    | zero => rfl
    | succ k ih =>
      simp only [be, pow8]
      have hk : 0 < 256 ^ k := Nat.pow_pos (by omega)
      have e1 : n * 256 ^ (k + 1) + j = (n * 256) * 256 ^ k + j := by rw [Nat.pow_succ, Nat.mul_assoc, Nat.mul_comm (256 ^ k)]
      rw [e1, ih]
      have e2 : (n * 256 * 256 ^ k + j) / 256 ^ k = n * 256 + j / 256 ^ k := by rw [Nat.mul_comm, Nat.mul_add_div hk]
      rw [e2]
      congr 1
      apply UInt8.toNat_inj.1
      simp
   rw [h3, qot l]
   congr 1
   exact UInt8.toNat_inj.1 (by rw [UInt8.toNat_ofNat_of_lt' (by show _ < 256; exact c.toNat_lt)])
theorem qt3 {n k : Nat} (h : 2 ^ k ≤ n) : k < blen n := by
 rw [qc4 k h]
 have : 0 < n / 2 ^ k := Nat.div_pos h (Nat.pow_pos (by omega))
 rw [qgm this]
 omega
theorem qcy {l : List UInt8} {x k : Nat} (h : qcV l = (x, k)) (hk : 0 < k) : x < 2 ^ 64 ∧ (numB x).length = k ∧ ∃ r, l = numB x ++ r := by
 match l, h with
 | [], h => cases h; omega
 | c :: r, h =>
   rw [qbU] at h
   by_cases hc : c.toNat ≤ 8 ∧ c.toNat ≤ r.length ∧ ¬ (0 < c.toNat ∧ r.head? = some 0)
   ·rw [if_pos hc] at h
    obtain ⟨h1, h2, h3⟩ := hc
    cases h
    have hl : (r.take c.toNat).length = c.toNat := by rw [List.length_take]; omega
    have hv := qjr (r.take c.toNat)
    rw [hl] at hv
    have e64 : 256 ^ c.toNat = 2 ^ (8 * c.toNat) := (pow8 _).symm
    have hx : valB (r.take c.toNat) < 2 ^ 64 := Nat.lt_of_lt_of_le hv (by rw [e64]; exact Nat.pow_le_pow_right (by omega) (by omega))
    have hb1 : blen (valB (r.take c.toNat)) ≤ 8 * c.toNat := qcQ _ (by rw [← e64]; exact hv)
    have hkk : (blen (valB (r.take c.toNat)) + 7) / 8 = c.toNat := by
     rcases Nat.eq_zero_or_pos c.toNat with h0 | h0
     ·rw [h0] at hb1 ⊢; omega
     ·match r, h3, h2 with
      | [], h3, h2 => simp at h2; omega
      | d :: r, h3, h2 =>
        have hd : d ≠ 0 := fun hd => h3 ⟨h0, by rw [hd]; rfl⟩
        have hd0 : 0 < d.toNat := Nat.pos_of_ne_zero fun h => hd (UInt8.toNat_inj.1 h)
        obtain ⟨m, hm⟩ : ∃ m, c.toNat = m + 1 := ⟨c.toNat - 1, by omega⟩
        rw [hm, List.take_succ_cons] at hb1 ⊢
        have hlen : (r.take m).length = m := by rw [List.length_take]; simp at h2; omega
        have : 2 ^ (8 * m) ≤ valB (d :: r.take m) := by
         simp only [valB, hlen, pow8]
         exact Nat.le_trans (Nat.le_mul_of_pos_left _ hd0) (Nat.le_add_right _ _)
        have := qt3 this
        omega
    refine ⟨hx, ?_, r.drop c.toNat, ?_⟩
    ·simp only [numB, List.length_cons, qaQ, hkk]
    ·have e : be (valB (r.take c.toNat)) c.toNat = r.take c.toNat := by
      have := qot (r.take c.toNat)
      rwa [hl] at this
     simp only [numB, hkk, e, List.cons_append, List.take_append_drop]
     congr 1
     exact UInt8.toNat_inj.1 (by rw [UInt8.toNat_ofNat_of_lt' (by show _ < 256; exact c.toNat_lt)])
   ·rw [if_neg hc] at h
    cases h; omega
theorem qfV {x : Nat} (hx : x < 2 ^ 64) (q : List UInt8) : qcV (numB x ++ q) = (x, (numB x).length) := by
 have hb := qcQ 64 hx
 have hk : ((UInt8.ofNat ((blen x + 7) / 8)).toNat) = (blen x + 7) / 8 := UInt8.toNat_ofNat_of_lt' (by show _ < 256; omega)
 have e : numB x ++ q = UInt8.ofNat ((blen x + 7) / 8) :: (be x ((blen x + 7) / 8) ++ q) := rfl
 have hl : (numB x).length = (blen x + 7) / 8 + 1 := by simp only [numB, List.length_cons, qaQ]
 rw [e, hl]
 rw [qbU, hk]
 have ht : (be x ((blen x + 7) / 8) ++ q).take ((blen x + 7) / 8) = be x ((blen x + 7) / 8) := by
  rw [List.take_append_of_le_length (by rw [qaQ]; exact Nat.le_refl _), List.take_of_length_le (by rw [qaQ]; exact Nat.le_refl _)]
 rw [if_pos]
 ·rw [ht, qjq, Nat.mod_eq_of_lt (qi4 x)]
 ·refine ⟨by omega, by rw [List.length_append, qaQ]; omega, fun hc => ?_⟩
  obtain ⟨h0, h1⟩ := hc
  obtain ⟨m, hm⟩ : ∃ m, (blen x + 7) / 8 = m + 1 := ⟨(blen x + 7) / 8 - 1, by omega⟩
  rw [hm] at h1
  have h1 : some (UInt8.ofNat (x / 2 ^ (8 * m))) = some 0 := h1
  have h2 := congrArg UInt8.toNat (Option.some.inj h1)
  have hlt : x / 2 ^ (8 * m) < 256 := by
   have := qi4 x
   rw [hm, Nat.pow_succ] at this
   rw [pow8]
   exact Nat.div_lt_of_lt_mul this
  rw [UInt8.toNat_ofNat_of_lt' (by show _ < 256; exact hlt)] at h2
  have h2 : x / 2 ^ (8 * m) = 0 := h2
  have h3 : x < 2 ^ (8 * m) := by
   rcases Nat.lt_or_ge x (2 ^ (8 * m)) with h | h
   ·exact h
   ·have := Nat.div_pos h (Nat.pow_pos (by omega)); omega
  have := qcQ _ h3
  omega
theorem qka {l : List UInt8} {x k : Nat} (h : qcV l = (x, k)) (hk : 0 < k) (q : List UInt8) : qcV (l ++ q) = (x, k) := by
 obtain ⟨h1, h2, r, rfl⟩ := qcy h hk
 rw [List.append_assoc, qfV h1, h2]
def qac (s : Cu) : Nat × Nat := if s.2 = true then (0, 0) else qcV s.1
def numC (most : Nat) (s : Cu) : Nat × Cu := if 0 < (qac s).2 ∧ (qac s).1 ≤ most then ((qac s).1, (s.1.drop (qac s).2, false)) else (0, (s.1, true))
def qaH (most : Nat) (s : Cu) : List UInt8 × Cu := if 0 < (qac s).2 ∧ (qac s).1 ≤ most ∧ (qac s).1 + (qac s).2 ≤ s.1.length then ((s.1.drop (qac s).2).take (qac s).1, (s.1.drop ((qac s).2 + (qac s).1), false)) else ([], (s.1, true))
def sumC (s : Cu) : Sm × Cu := if s.2 = false ∧ 32 ≤ s.1.length then (s.1.take 32, (s.1.drop 32, false)) else (sm0L, (s.1, true))
def qaX {α : Type} (f : Cu → α × Cu) : Nat → Cu → List α × Cu
 | 0, s => ([], s)
 | n + 1, s => ((f s).1 :: (qaX f n (f s).2).1, (qaX f n (f s).2).2)
structure Cuts {α : Type} (f : Cu → α × Cu) (enc : α → List UInt8) (ok : α → Prop) : Prop where
 bad : ∀ s, s.2 = true → (f s).2.2 = true
 sound : ∀ b, (f (b, false)).2.2 = false → b = enc (f (b, false)).1 ++ (f (b, false)).2.1 ∧ ok (f (b, false)).1
 on : ∀ b q, (f (b, false)).2.2 = false → f (b ++ q, false) = ((f (b, false)).1, ((f (b, false)).2.1 ++ q, false))
theorem qdb {s : Cu} (h : s.2 = true) : qac s = (0, 0) := if_pos h
theorem qbs (b : List UInt8) : qac (b, false) = qcV b := if_neg (fun h : false = true => by cases h)
theorem qc8 (most : Nat) (hm : most < 2 ^ 64) : Cuts (numC most) numB (fun x => x ≤ most) where
 bad := fun s h => by
  unfold numC
  rw [qdb h, if_neg (by simp)]
 sound := fun b h => by
  unfold numC at h ⊢
  rw [qbs] at h ⊢
  generalize hp : qcV b = p at h ⊢
  obtain ⟨x, k⟩ := p
  dsimp only at h ⊢
  by_cases hc : 0 < k ∧ x ≤ most
  ·rw [if_pos hc]
   obtain ⟨h1, h2, r, rfl⟩ := qcy hp hc.1
   exact ⟨by rw [← h2, List.drop_left], hc.2⟩
  ·rw [if_neg hc] at h; cases h
 on := fun b q h => by
  unfold numC at h ⊢
  rw [qbs] at h ⊢
  rw [qbs]
  generalize hp : qcV b = p at h ⊢
  obtain ⟨x, k⟩ := p
  dsimp only at h ⊢
  by_cases hc : 0 < k ∧ x ≤ most
  ·obtain ⟨h1, h2, r, rfl⟩ := qcy hp hc.1
   rw [qka hp hc.1 q]
   dsimp only
   rw [if_pos hc, if_pos hc]
   dsimp only
   rw [List.drop_append_of_le_length (by rw [List.length_append, h2]; omega)]
  ·rw [if_neg hc] at h; cases h
theorem qpG {most x : Nat} (hx : x < 2 ^ 64) (q : List UInt8) : numC most (numB x ++ q, false) = if x ≤ most then (x, (q, false)) else (0, (numB x ++ q, true)) := by
 unfold numC
 rw [qbs, qfV hx]
 have hp : 0 < (numB x).length := by simp [numB]
 show (if 0 < (numB x).length ∧ x ≤ most then (x, ((numB x ++ q).drop (numB x).length, false)) else (0, (numB x ++ q, true))) = _
 rw [List.drop_left]
 by_cases h : x ≤ most
 ·rw [if_pos ⟨hp, h⟩, if_pos h]
 ·rw [if_neg (fun hc => h hc.2), if_neg h]
def qdl (x : List UInt8) : List UInt8 := numB x.length ++ x
theorem qd6 (most : Nat) : Cuts (qaH most) qdl (fun x => x.length ≤ most ∧ x.length < 2 ^ 64) where
 bad := fun s h => by
  unfold qaH
  rw [qdb h, if_neg (by simp)]
 sound := fun b h => by
  unfold qaH at h ⊢
  rw [qbs] at h ⊢
  generalize hp : qcV b = p at h ⊢
  obtain ⟨x, k⟩ := p
  dsimp only at h ⊢
  by_cases hc : 0 < k ∧ x ≤ most ∧ x + k ≤ b.length
  ·rw [if_pos hc]
   obtain ⟨h1, h2, r, rfl⟩ := qcy hp hc.1
   have hl : (((numB x ++ r).drop k).take x).length = x := by rw [List.length_take, List.length_drop]; omega
   dsimp only
   refine ⟨?_, by rw [hl]; exact ⟨hc.2.1, h1⟩⟩
   unfold qdl
   rw [hl, ← List.drop_drop, List.append_assoc, List.take_append_drop, ← h2, List.drop_left]
  ·rw [if_neg hc] at h; cases h
 on := fun b q h => by
  unfold qaH at h ⊢
  rw [qbs] at h ⊢
  rw [qbs]
  generalize hp : qcV b = p at h ⊢
  obtain ⟨x, k⟩ := p
  dsimp only at h ⊢
  by_cases hc : 0 < k ∧ x ≤ most ∧ x + k ≤ b.length
  ·have hc' : 0 < k ∧ x ≤ most ∧ x + k ≤ (b ++ q).length := ⟨hc.1, hc.2.1, by rw [List.length_append]; omega⟩
   rw [qka hp hc.1 q]
   dsimp only
   rw [if_pos hc, if_pos hc']
   dsimp only
   rw [List.drop_append_of_le_length (by omega), List.drop_append_of_le_length (by omega), List.take_append_of_le_length (by rw [List.length_drop]; omega)]
  ·rw [if_neg hc] at h; cases h
theorem qgT {most : Nat} {x : List UInt8} (hx : x.length < 2 ^ 64) (q : List UInt8) : qaH most (qdl x ++ q, false) = if x.length ≤ most then (x, (q, false)) else ([], (qdl x ++ q, true)) := by
 have e : qdl x ++ q = numB x.length ++ (x ++ q) := by unfold qdl; rw [List.append_assoc]
 unfold qaH
 rw [qbs, e, qfV hx]
 have hp : 0 < (numB x.length).length := by simp [numB]
 show (if 0 < (numB x.length).length ∧ x.length ≤ most ∧ x.length + (numB x.length).length ≤ (numB x.length ++ (x ++ q)).length then (((numB x.length ++ (x ++ q)).drop (numB x.length).length).take x.length, ((numB x.length ++ (x ++ q)).drop ((numB x.length).length + x.length), false)) else ([], (numB x.length ++ (x ++ q), true))) = _
 rw [← List.drop_drop, List.drop_left, List.take_left, List.drop_left]
 by_cases h : x.length ≤ most
 ·rw [if_pos ⟨hp, h, by simp only [List.length_append]; omega⟩, if_pos h]
 ·rw [if_neg (fun hc => h hc.2.1), if_neg h]
theorem qhr : Cuts sumC (fun x => x) (fun x => x.length = 32) where
 bad := fun s h => by
  unfold sumC
  rw [h, if_neg (by simp)]
 sound := fun b h => by
  unfold sumC at h ⊢
  split at h
  ·rename_i hc
   rw [if_pos hc]
   have hl : 32 ≤ b.length := hc.2
   exact ⟨(List.take_append_drop 32 b).symm, by show (b.take 32).length = 32; rw [List.length_take]; omega⟩
  ·cases h
 on := fun b q h => by
  unfold sumC at h ⊢
  split at h
  ·rename_i hc
   have hl : 32 ≤ b.length := hc.2
   rw [if_pos hc, if_pos ⟨rfl, by show 32 ≤ (b ++ q).length; rw [List.length_append]; omega⟩]
   show ((b ++ q).take 32, ((b ++ q).drop 32, false)) = (b.take 32, (b.drop 32 ++ q, false))
   rw [List.take_append_of_le_length hl, List.drop_append_of_le_length hl]
  ·cases h
theorem qsc {x : Sm} (hx : x.length = 32) (q : List UInt8) : sumC (x ++ q, false) = (x, (q, false)) := by
 unfold sumC
 rw [if_pos ⟨rfl, by show 32 ≤ (x ++ q).length; rw [List.length_append]; omega⟩]
 show ((x ++ q).take 32, ((x ++ q).drop 32, false)) = _
 rw [← hx, List.take_left, List.drop_left]
section
variable {α β γ : Type} {f : Cu → α × Cu} {enc : α → List UInt8} {ok : α → Prop}
theorem Cuts.iter (h : Cuts f enc ok) : ∀ n, Cuts (qaX f n) (fun l => l.flatMap enc) (fun l => l.length = n ∧ ∀ x ∈ l, ok x)
 | 0 => ⟨fun s hs => hs, fun b _ => ⟨rfl, rfl, fun x hx => by cases hx⟩, fun b q _ => rfl⟩
 | n + 1 => by
   have ih := h.iter n
   refine ⟨fun s hs => ih.bad _ (h.bad s hs), fun b hb => ?_, fun b q hb => ?_⟩
   ·have hb : (qaX f n (f (b, false)).2).2.2 = false := hb
    have h0 : (f (b, false)).2.2 = false := by
     cases hc : (f (b, false)).2.2 with
     | false => rfl
     | true => rw [ih.bad _ hc] at hb; cases hb
    have e : (f (b, false)).2 = ((f (b, false)).2.1, false) := Prod.ext rfl h0
    rw [e] at hb
    obtain ⟨s1, s2⟩ := h.sound b h0
    obtain ⟨t1, t2, t3⟩ := ih.sound _ hb
    show b = ((f (b, false)).1 :: (qaX f n (f (b, false)).2).1).flatMap enc ++ (qaX f n (f (b, false)).2).2.1 ∧ _ ∧ _
    rw [e]
    refine ⟨?_, by show (qaX f n (f (b, false)).2).1.length + 1 = n + 1; rw [e, t2], fun x hx => ?_⟩
    ·rw [List.flatMap_cons, List.append_assoc, ← t1]
     exact s1
    ·have hx : x ∈ (f (b, false)).1 :: (qaX f n (f (b, false)).2).1 := hx
     rw [e] at hx
     rcases List.mem_cons.1 hx with rfl | hx
     ·exact s2
     ·exact t3 x hx
   ·have hb : (qaX f n (f (b, false)).2).2.2 = false := hb
    have h0 : (f (b, false)).2.2 = false := by
     cases hc : (f (b, false)).2.2 with
     | false => rfl
     | true => rw [ih.bad _ hc] at hb; cases hb
    have e : (f (b, false)).2 = ((f (b, false)).2.1, false) := Prod.ext rfl h0
    rw [e] at hb
    show ((f (b ++ q, false)).1 :: (qaX f n (f (b ++ q, false)).2).1, (qaX f n (f (b ++ q, false)).2).2) = ((f (b, false)).1 :: (qaX f n (f (b, false)).2).1, ((qaX f n (f (b, false)).2).2.1 ++ q, false))
    rw [h.on b q h0, e]
    show ((f (b, false)).1 :: (qaX f n ((f (b, false)).2.1 ++ q, false)).1, (qaX f n ((f (b, false)).2.1 ++ q, false)).2) = _
    rw [ih.on _ q hb]
def andC (f : Cu → α × Cu) (g : α → Cu → β × Cu) (s : Cu) : (α × β) × Cu := (((f s).1, (g (f s).1 (f s).2).1), (g (f s).1 (f s).2).2)
theorem Cuts.and {g : α → Cu → β × Cu} {enc' : β → List UInt8} {ok' : α → β → Prop} (h : Cuts f enc ok) (h' : ∀ a, Cuts (g a) enc' (ok' a)) : Cuts (andC f g) (fun x => enc x.1 ++ enc' x.2) (fun x => ok x.1 ∧ ok' x.1 x.2) := by
 refine ⟨fun s hs => (h' _).bad _ (h.bad s hs), fun b hb => ?_, fun b q hb => ?_⟩
 ·have hb : (g (f (b, false)).1 (f (b, false)).2).2.2 = false := hb
  have h0 : (f (b, false)).2.2 = false := by
   cases hc : (f (b, false)).2.2 with
   | false => rfl
   | true => rw [(h' _).bad _ hc] at hb; cases hb
  have e : (f (b, false)).2 = ((f (b, false)).2.1, false) := Prod.ext rfl h0
  rw [e] at hb
  obtain ⟨s1, s2⟩ := h.sound b h0
  obtain ⟨t1, t2⟩ := (h' _).sound _ hb
  unfold andC
  dsimp only
  rw [e]
  exact ⟨by rw [List.append_assoc, ← t1]; exact s1, s2, t2⟩
 ·have hb : (g (f (b, false)).1 (f (b, false)).2).2.2 = false := hb
  have h0 : (f (b, false)).2.2 = false := by
   cases hc : (f (b, false)).2.2 with
   | false => rfl
   | true => rw [(h' _).bad _ hc] at hb; cases hb
  have e : (f (b, false)).2 = ((f (b, false)).2.1, false) := Prod.ext rfl h0
  rw [e] at hb
  unfold andC
  rw [h.on b q h0, e]
  dsimp only
  rw [(h' _).on _ q hb]
theorem Cuts.map {m : α → β} {enc' : β → List UInt8} {ok' : β → Prop} (h : Cuts f enc ok) (he : ∀ x, ok x → enc' (m x) = enc x) (ho : ∀ x, ok x → ok' (m x)) : Cuts (fun s => (m (f s).1, (f s).2)) enc' ok' :=
 ⟨fun s hs => h.bad s hs, fun b hb => ⟨by rw [he _ (h.sound b hb).2]; exact (h.sound b hb).1, ho _ (h.sound b hb).2⟩, fun b q hb => by dsimp only; rw [h.on b q hb]⟩
theorem Cuts.short (h : Cuts f enc ok) {b : List UInt8} (hb : (f (b, false)).2.2 = false) {k : Nat} (hk : k < b.length - (f (b, false)).2.1.length) : (f (b.take k, false)).2.2 = true := by
 cases hc : (f (b.take k, false)).2.2 with
 | true => rfl
 | false =>
   have := h.on (b.take k) (b.drop k) hc
   rw [List.take_append_drop] at this
   rw [this] at hk
   simp only [List.length_append, List.length_drop] at hk
   omega
end
end Go.Inc

set_option linter.unusedVariables false
namespace Go.Inc
open Go
theorem qxt (a c : Nat) (hc : c < 2 ^ 8) (h : a * 2 ^ 8 + c < 2 ^ 64) : bor .u64 ((a * 2 ^ 8 : Nat) : Int) (c : Int) = ((a * 2 ^ 8 + c : Nat) : Int) := by
 unfold bor
 show IntKind.u64.wrap (((BitVec.ofInt 64 ((a * 2 ^ 8 : Nat) : Int) ||| BitVec.ofInt 64 (c : Int)).toNat : Nat) : Int) = _
 have e1 : (BitVec.ofInt 64 ((a * 2 ^ 8 : Nat) : Int)).toNat = a * 2 ^ 8 := by
  rw [BitVec.toNat_ofInt]
  omega
 have e2 : (BitVec.ofInt 64 (c : Int)).toNat = c := by
  rw [BitVec.toNat_ofInt]
  omega
 rw [BitVec.toNat_or, e1, e2]
 have e3 : a * 2 ^ 8 ||| c = a * 2 ^ 8 + c := by
  rw [Nat.mul_comm]
  exact (Nat.two_pow_add_eq_or_of_lt hc a).symm
 rw [e3]
 exact qan ⟨by show (0 : Int) ≤ _; omega, by show ((a * 2 ^ 8 + c : Nat) : Int) ≤ 18446744073709551615; omega⟩
theorem qrf {x : Nat} {d : UInt8} (h : x < 2 ^ 56) : bor .u64 (shl .u64 (x : Int) 8) (bI d) = ((x * 256 + d.toNat : Nat) : Int) := by
 have hd : d.toNat < 256 := d.toNat_lt
 have e : shl .u64 (x : Int) 8 = ((x * 2 ^ 8 : Nat) : Int) := by
  unfold shl
  show IntKind.u64.wrap ((x : Int) * 2 ^ 8) = _
  rw [qan ⟨by show (0 : Int) ≤ _; omega, by show (x : Int) * 2 ^ 8 ≤ 18446744073709551615; omega⟩]
  omega
 rw [e]
 exact qxt x d.toNat (by omega) (by omega)
theorem qqn {l : List UInt8} {j : Nat} (h : j < l.length) : valB (l.take (j + 1)) = valB (l.take j) * 256 + l[j].toNat := by
 rw [List.take_add_one, List.getElem?_eq_getElem h]
 show valB (l.take j ++ [l[j]]) = _
 rw [qmU]
 simp [valB]
theorem qmx {b : List UInt8} {x k : Nat} (hp : qcV b = (x, k)) : x < 2 ^ 64 ∧ k ≤ 9 ∧ k ≤ b.length := by
 rcases Nat.eq_zero_or_pos k with rfl | hk
 ·refine ⟨?_, by omega, by omega⟩
  match b, hp with
  | [], hp => cases hp; decide
  | c :: r, hp =>
    rw [qbU] at hp
    split at hp
    ·cases hp
    ·cases hp; decide
 ·obtain ⟨h1, h2, r, rfl⟩ := qcy hp hk
  have := qaA h1
  exact ⟨h1, by omega, by rw [List.length_append]; omega⟩
theorem qrZ (m : Nat) (b : List UInt8) : numC m (b, true) = (0, (b, true)) := by
 unfold numC
 rw [qdb rfl, if_neg (by simp)]
theorem quG {m : Nat} {b : List UInt8} {x k : Nat} (hp : qcV b = (x, k)) : numC m (b, false) = if 0 < k ∧ x ≤ m then (x, (b.drop k, false)) else (0, (b, true)) := by
 unfold numC
 rw [qbs, hp]
theorem qox (m : Nat) (b : List UInt8) : qaH m (b, true) = ([], (b, true)) := by
 unfold qaH
 rw [qdb rfl, if_neg (by simp)]
theorem qrd {m : Nat} {b : List UInt8} {x k : Nat} (hp : qcV b = (x, k)) : qaH m (b, false) = if 0 < k ∧ x ≤ m ∧ x + k ≤ b.length then ((b.drop k).take x, (b.drop (k + x), false)) else ([], (b, true)) := by
 unfold qaH
 rw [qbs, hp]
def u64I (a : Int) : Int := IntKind.u64.wrap a
def spB (x : Sp) : List UInt8 := qag [u64I x.1] ++ (qal [x.2.1.1, x.2.1.2] ++ (qag [u64I x.2.2.length] ++ x.2.2.flatten))
def qaN (s : Sn) : List UInt8 := qag [u64I s.1, u64I s.2.length] ++ s.2.flatMap spB
def qg0 (x : Sp) : Prop := (0 ≤ x.1 ∧ x.1 ≤ 2147483647) ∧ x.2.1.1.length ≤ 256 ∧ x.2.1.2.length ≤ 1048576 ∧ x.2.2.length ≤ 32
instance (x : Sp) : Decidable (qg0 x) := by unfold qg0; exact inferInstance
def fitS (s : Sn) : Prop := (0 ≤ s.1 ∧ s.1 ≤ 2147483647) ∧ s.2.length ≤ 2 ∧ ∀ x ∈ s.2, qg0 x
instance (s : Sn) : Decidable (fitS s) := by unfold fitS; exact inferInstance
def qnv : Cu → (Nat × (List UInt8 × (List UInt8 × (Nat × List Sm)))) × Cu := andC (numC 2147483647) fun _ => andC (qaH 256) fun _ => andC (qaH 1048576) fun _ => andC (numC 32) fun n => qaX sumC n
def qdE (s : Cu) : Sp × Cu := ((((qnv s).1.1 : Int), (((qnv s).1.2.1, (qnv s).1.2.2.1), (qnv s).1.2.2.2.2)), (qnv s).2)
def qr9 : Cu → (Nat × (Nat × List Sp)) × Cu := andC (numC 2147483647) fun _ => andC (numC 2) fun n => qaX qdE n
def qdI (s : Cu) : Sn × Cu := (((qr9 s).1.1, (qr9 s).1.2.2), (qr9 s).2)
def qaG (s : Cu) : Sn × Cu := (if (qdI s).2.2 = true then (0, []) else (qdI s).1, (qdI s).2)
theorem qgy {n : Nat} (h : n < 2 ^ 64) : u64I (n : Int) = (n : Int) := qan ⟨by show (0 : Int) ≤ _; omega, by show (n : Int) ≤ 18446744073709551615; omega⟩
theorem num1 (a : Int) : qag [a] = numB a.toNat := by simp [qag]
theorem num2 (a b : Int) : qag [a, b] = numB a.toNat ++ numB b.toNat := by simp [qag]
theorem qt4 (a b : List UInt8) : qal [a, b] = qdl a ++ qdl b := by simp [qal, qdl]
theorem quT {n : Nat} {k v : List UInt8} {l : List Sm} (hn : n < 2 ^ 64) (hl : l.length < 2 ^ 64) : spB ((n : Int), ((k, v), l)) = numB n ++ (qdl k ++ (qdl v ++ (numB l.length ++ l.flatten))) := by
 unfold spB
 dsimp only
 rw [num1, num1, qt4, qgy hn, qgy hl, Int.toNat_natCast, Int.toNat_natCast, List.append_assoc]
theorem qpX {n : Nat} {l : List Sp} (hn : n < 2 ^ 64) (hl : l.length < 2 ^ 64) : qaN ((n : Int), l) = numB n ++ (numB l.length ++ l.flatMap spB) := by
 unfold qaN
 dsimp only
 rw [num2, qgy hn, qgy hl, Int.toNat_natCast, Int.toNat_natCast, List.append_assoc]
theorem qeh : Cuts qdE spB (fun x => qg0 x ∧ ∀ z ∈ x.2.2, z.length = 32) := by
 have h := (qc8 2147483647 (by decide)).and (g := fun _ => andC (qaH 256) fun _ => andC (qaH 1048576) fun _ => andC (numC 32) fun n => qaX sumC n) fun _ =>
  (qd6 256).and (g := fun _ => andC (qaH 1048576) fun _ => andC (numC 32) fun n => qaX sumC n) fun _ =>
  (qd6 1048576).and (g := fun _ => andC (numC 32) fun n => qaX sumC n) fun _ =>
  (qc8 32 (by decide)).and (g := fun n => qaX sumC n) fun n => qhr.iter n
 refine h.map (m := fun x => ((x.1 : Int), ((x.2.1, x.2.2.1), x.2.2.2.2))) (fun x hx => ?_) (fun x hx => ?_)
 ·obtain ⟨n, k, v, m, l⟩ := x
  obtain ⟨h1, h2, h3, h4, h5, h6⟩ := hx
  dsimp only at h1 h2 h3 h4 h5 h6 ⊢
  rw [quT (by omega) (by omega), h5]
  simp
 ·obtain ⟨n, k, v, m, l⟩ := x
  obtain ⟨h1, h2, h3, h4, h5, h6⟩ := hx
  dsimp only at h1 h2 h3 h4 h5 h6 ⊢
  exact ⟨⟨⟨by omega, by omega⟩, h2.1, h3.1, by show l.length ≤ 32; omega⟩, h6⟩
theorem qia : Cuts qdI qaN (fun s => fitS s ∧ ∀ x ∈ s.2, ∀ z ∈ x.2.2, z.length = 32) := by
 have h := (qc8 2147483647 (by decide)).and (g := fun _ => andC (numC 2) fun n => qaX qdE n) fun _ =>
  (qc8 2 (by decide)).and (g := fun n => qaX qdE n) fun n => qeh.iter n
 refine h.map (m := fun x => ((x.1 : Int), x.2.2)) (fun x hx => ?_) (fun x hx => ?_)
 ·obtain ⟨n, m, l⟩ := x
  obtain ⟨h1, h2, h3, h4⟩ := hx
  dsimp only at h1 h2 h3 h4 ⊢
  rw [qpX (by omega) (by omega), h3]
 ·obtain ⟨n, m, l⟩ := x
  obtain ⟨h1, h2, h3, h4⟩ := hx
  dsimp only at h1 h2 h3 h4 ⊢
  exact ⟨⟨⟨by omega, by omega⟩, by show l.length ≤ 2; omega, fun x hx => (h4 x hx).1⟩, fun x hx => (h4 x hx).2⟩
theorem qhj {s : Cu} (h : (qaG s).2.2 = true) : (qaG s).1 = (0, []) := if_pos h
theorem qjd {s : Cu} (h : (qaG s).2.2 = false) : (qaG s).1 = (qdI s).1 := if_neg (by rw [show (qdI s).2.2 = false from h]; exact fun h => by cases h)
theorem qi8 {most : Nat} (hm : most < 2 ^ 63) {a : Int} (ha : (Kd.int .i64).wf a) (q : List UInt8) : numC most (numB (u64I a).toNat ++ q, false) = if 0 ≤ a ∧ a ≤ most then (a.toNat, (q, false)) else (0, (numB (u64I a).toNat ++ q, true)) := by
 have h0 : 0 ≤ u64I a := (qbO .u64 a).1
 have h1 : u64I a ≤ 18446744073709551615 := (qbO .u64 a).2
 rw [qpG (by omega)]
 have ha1 : -9223372036854775808 ≤ a := ha.1
 have ha2 : a ≤ 9223372036854775807 := ha.2
 by_cases hp : 0 ≤ a
 ·have e : u64I a = a := qan ⟨by show (0 : Int) ≤ _; omega, by show a ≤ 18446744073709551615; omega⟩
  rw [e]
  by_cases hm : a.toNat ≤ most
  ·rw [if_pos hm, if_pos ⟨hp, by omega⟩]
  ·rw [if_neg hm, if_neg (by omega)]
 ·have e : u64I a = a + 18446744073709551616 := by
   unfold u64I IntKind.wrap
   simp only [IntKind.signed, IntKind.bits]
   simp
   omega
  rw [if_neg (by rw [e]; omega), if_neg (by omega)]
theorem qjX : ∀ (l : List Sm) (q : List UInt8), (∀ z ∈ l, z.length = 32) → qaX sumC l.length (l.flatten ++ q, false) = (l, (q, false))
 | [], q, _ => rfl
 | x :: l, q, h => by
   have e : (x :: l).flatten ++ q = x ++ (l.flatten ++ q) := by simp
   show ((sumC ((x :: l).flatten ++ q, false)).1 :: (qaX sumC l.length (sumC ((x :: l).flatten ++ q, false)).2).1, (qaX sumC l.length (sumC ((x :: l).flatten ++ q, false)).2).2) = _
   rw [e, qsc (h x (by simp)), qjX l q fun z hz => h z (by simp [hz])]
theorem qi7 (m : Nat) (s : Cu) : (numC m s).1 ≤ m ∧ (numC m s).2.1.length ≤ s.1.length := by
 unfold numC
 split
 ·rename_i h
  exact ⟨h.2, by rw [List.length_drop]; omega⟩
 ·exact ⟨Nat.zero_le _, Nat.le_refl _⟩
theorem qlZ (m : Nat) (s : Cu) : (qaH m s).2.1.length ≤ s.1.length := by
 unfold qaH
 split
 ·rw [List.length_drop]; omega
 ·exact Nat.le_refl _
theorem quW (s : Cu) : (sumC s).2.1.length ≤ s.1.length := by
 unfold sumC
 split
 ·rw [List.length_drop]; omega
 ·exact Nat.le_refl _
theorem qng {α : Type} (f : Cu → α × Cu) {n j : Nat} (h : j < n) (s : Cu) : qaX f (n - j) s = ((f s).1 :: (qaX f (n - (j + 1)) (f s).2).1, (qaX f (n - (j + 1)) (f s).2).2) := by
 obtain ⟨m, hm⟩ : ∃ m, n - j = m + 1 := ⟨n - j - 1, by omega⟩
 have e : n - (j + 1) = m := by omega
 rw [hm, e]
 rfl
def atC {α : Type} (f : Cu → α × Cu) (n : Nat) (s0 : Cu) (j : Nat) (l : List α) (s : Cu) : Prop := l.length = j ∧ j ≤ n ∧ qaX f n s0 = (l ++ (qaX f (n - j) s).1, (qaX f (n - j) s).2)
theorem atC.zero {α : Type} (f : Cu → α × Cu) (n : Nat) (s0 : Cu) : atC f n s0 0 [] s0 := ⟨rfl, Nat.zero_le _, rfl⟩
theorem atC.next {α : Type} {f : Cu → α × Cu} {n : Nat} {s0 : Cu} {j : Nat} {l : List α} {s : Cu} (h : atC f n s0 j l s) (hj : j < n) : atC f n s0 (j + 1) (l ++ [(f s).1]) (f s).2 := by
 obtain ⟨h1, h2, h3⟩ := h
 refine ⟨by rw [List.length_append, h1]; rfl, hj, ?_⟩
 rw [h3, qng f hj, List.append_assoc]
 rfl
theorem atC.end {α : Type} {f : Cu → α × Cu} {n : Nat} {s0 : Cu} {l : List α} {s : Cu} (h : atC f n s0 n l s) : qaX f n s0 = (l, s) := by
 obtain ⟨h1, h2, h3⟩ := h
 rw [h3, Nat.sub_self]
 show (l ++ [], s) = _
 rw [List.append_nil]
theorem qmL (s : Cu) : qdE s = ((((numC 2147483647 s).1 : Int), (((qaH 256 (numC 2147483647 s).2).1, (qaH 1048576 (qaH 256 (numC 2147483647 s).2).2).1), (qaX sumC (numC 32 (qaH 1048576 (qaH 256 (numC 2147483647 s).2).2).2).1 (numC 32 (qaH 1048576 (qaH 256 (numC 2147483647 s).2).2).2).2).1)), (qaX sumC (numC 32 (qaH 1048576 (qaH 256 (numC 2147483647 s).2).2).2).1 (numC 32 (qaH 1048576 (qaH 256 (numC 2147483647 s).2).2).2).2).2) := by simp only [qdE, qnv, andC]
theorem qmG (s : Cu) : qdI s = ((((numC 2147483647 s).1 : Int), (qaX qdE (numC 2 (numC 2147483647 s).2).1 (numC 2 (numC 2147483647 s).2).2).1), (qaX qdE (numC 2 (numC 2147483647 s).2).1 (numC 2 (numC 2147483647 s).2).2).2) := by simp only [qdI, qr9, andC]
theorem qwi (a : Int) : band .i64 a 16777215 = a % 16777216 := by
 have h1 : (BitVec.ofInt 64 a &&& BitVec.ofInt 64 16777215).toNat = (a % 16777216).toNat := by
  have h255 : BitVec.ofInt 64 16777215 = 16777215#64 := by decide
  rw [h255, BitVec.toNat_and, BitVec.toNat_ofInt]
  have : (16777215#64).toNat = 2 ^ 24 - 1 := by decide
  rw [this, Nat.and_two_pow_sub_one_eq_mod]
  omega
 unfold band
 show IntKind.i64.wrap (((BitVec.ofInt 64 a &&& BitVec.ofInt 64 16777215).toNat : Nat) : Int) = _
 rw [h1, qan (wf64 (by omega) (by omega))]
 omega
theorem qwo (a : Int) {n : Int} (hn : 0 < n) : 0 ≤ (band .i64 a 16777215).tmod n ∧ (band .i64 a 16777215).tmod n < n := by
 rw [qwi]
 have h0 : 0 ≤ a % 16777216 := by omega
 exact ⟨Int.tmod_nonneg _ h0, Int.tmod_lt_of_pos _ hn⟩
theorem qeK (a : Int) : 0 ≤ u64I a ∧ u64I a ≤ 18446744073709551615 := ⟨(qbO .u64 a).1, (qbO .u64 a).2⟩
theorem qa1 (a : Int) : (qag [u64I a]).length ≤ 9 := by
 have := qeK a
 rw [num1]
 exact qaA (by omega)
theorem qb4 {a b : List UInt8} (h : a.length + b.length ≤ 16777216) : (qal [a, b]).length ≤ a.length + b.length + 18 := by
 rw [qt4, List.length_append]
 unfold qdl
 rw [List.length_append, List.length_append]
 have h1 := qaA (n := a.length) (by omega)
 have h2 := qaA (n := b.length) (by omega)
 omega
theorem qci : ∀ {l : List Sm}, (∀ x ∈ l, x.length = 32) → l.flatten.length = 32 * l.length
 | [], _ => rfl
 | x :: l, h => by
   rw [List.flatten_cons, List.length_append, h x (by simp), qci fun z hz => h z (by simp [hz]), List.length_cons]
   omega
def eqSn (a b : Int × List (Int × ((List UInt8) × List UInt8) × List (List UInt8))) : Bool := decide (a = b)
end Go.Inc

set_option linter.unusedVariables false
set_option maxRecDepth 100000
set_option maxHeartbeats 20000000
namespace Go.Proofs.Ytmjjkpiglbpkhaa
open Go Go.RowKit Go.Inc
noncomputable def qew : Ctr := ⟨[.bx (.pr (.sl .byte) .bool) false], [.v (.int .u64), .v (.int .i64)], none, fun a => (fun (a0_r : (List UInt8) × Bool) => ((((qac a0_r).1 : Int), ((qac a0_r).2 : Int), ()), (()))) a.1⟩
noncomputable def qoI : Fx := ⟨seat, some bkT, fns, [], [], [], [(1, [], [.o 0 2, .o 1 2, .o 2 2, .o 3 2, .o 4 2, .o 5 2, .o 6 2, .o 7 2, .o 8 2, .o 9 2, .o 10 2, .o 11 2, .o 12 2, .o 13 2, .o 14 2, .o 15 2, .o 16 2, .o 17 2, .o 18 2, .o 19 2, .o 20 2, .o 21 2, .o 22 2, .o 23 2, .o 24 2, .o 25 2, .o 26 2, .o 27 2, .o 28 2, .o 29 2, .o 30 2, .o 31 2, .o 32 2, .o 33 2, .o 34 2, .o 35 2])]⟩
def qiN (a0_r : (List UInt8) × Bool) (Q : Int → Int → Prop) : Prop :=
 (a0_r.snd = true → Q (0 : Int) (0 : Int)) ∧ (a0_r.snd = false → ((a0_r.fst.length : Int) = (0 : Int) → Q (0 : Int) (0 : Int)) ∧ (¬(a0_r.fst.length : Int) = (0 : Int) → ((0 : Int) ≤ (0 : Int) ∧ (0 : Int) < (a0_r.fst.length : Int)) ∧ ((8 : Int) < bI (ix a0_r.fst (0 : Int)) → Q (0 : Int) (0 : Int)) ∧ (¬(8 : Int) < bI (ix a0_r.fst (0 : Int)) → ((0 : Int) ≤ (0 : Int) ∧ (0 : Int) < (a0_r.fst.length : Int)) ∧ ((a0_r.fst.length : Int) ≤ bI (ix a0_r.fst (0 : Int)) → Q (0 : Int) (0 : Int)) ∧ (¬(a0_r.fst.length : Int) ≤ bI (ix a0_r.fst (0 : Int)) → ((0 : Int) ≤ (0 : Int) ∧ (0 : Int) < (a0_r.fst.length : Int)) ∧ ((0 : Int) ≤ (1 : Int) ∧ (1 : Int) ≤ IntKind.i64.wrap ((1 : Int) + bI (ix a0_r.fst (0 : Int))) ∧ IntKind.i64.wrap ((1 : Int) + bI (ix a0_r.fst (0 : Int))) ≤ (a0_r.fst.length : Int)) ∧ ∃ (x0 : Int → Int → Prop), ∃ (x1 : Int → Int → Nat), x0 (0 : Int) (0 : Int) ∧ ∀ (x2 x3 : Int), x0 x2 x3 → (Kd.int IntKind.u64).wf x2 → (Kd.int IntKind.i64).wf x3 → (x3 < ((List.drop (Int.toNat (1 : Int)) (List.take (IntKind.i64.wrap ((1 : Int) + bI (ix a0_r.fst (0 : Int)))).toNat a0_r.fst)).length : Int) → ((0 : Int) ≤ x3 ∧ x3 < ((List.drop (Int.toNat (1 : Int)) (List.take (IntKind.i64.wrap ((1 : Int) + bI (ix a0_r.fst (0 : Int)))).toNat a0_r.fst)).length : Int)) ∧ x3 < (9223372036854775807 : Int) ∧ x0 (bor IntKind.u64 (shl IntKind.u64 x2 (8 : Int)) (bI (ix (List.drop (Int.toNat (1 : Int)) (List.take (IntKind.i64.wrap ((1 : Int) + bI (ix a0_r.fst (0 : Int)))).toNat a0_r.fst)) x3))) (x3 + (1 : Int)) ∧ x1 (bor IntKind.u64 (shl IntKind.u64 x2 (8 : Int)) (bI (ix (List.drop (Int.toNat (1 : Int)) (List.take (IntKind.i64.wrap ((1 : Int) + bI (ix a0_r.fst (0 : Int)))).toNat a0_r.fst)) x3))) (x3 + (1 : Int)) < x1 x2 x3) ∧ (¬x3 < ((List.drop (Int.toNat (1 : Int)) (List.take (IntKind.i64.wrap ((1 : Int) + bI (ix a0_r.fst (0 : Int)))).toNat a0_r.fst)).length : Int) → ((1 : Int) < IntKind.i64.wrap ((1 : Int) + bI (ix a0_r.fst (0 : Int))) → ((0 : Int) ≤ (1 : Int) ∧ (1 : Int) < (a0_r.fst.length : Int)) ∧ (bI (ix a0_r.fst (1 : Int)) = (0 : Int) → Q (0 : Int) (0 : Int)) ∧ (¬bI (ix a0_r.fst (1 : Int)) = (0 : Int) → Q x2 (IntKind.i64.wrap ((1 : Int) + bI (ix a0_r.fst (0 : Int)))))) ∧ (¬(1 : Int) < IntKind.i64.wrap ((1 : Int) + bI (ix a0_r.fst (0 : Int))) → Q x2 (IntKind.i64.wrap ((1 : Int) + bI (ix a0_r.fst (0 : Int))))))))))
theorem qrn {a0_r : (List UInt8) × Bool} (w_0 : (Ty.kd (.pr (.sl .byte) .bool)).wf a0_r) : qiN a0_r (fun o0 o1 => o0 = ((qac a0_r).1 : Int) ∧ o1 = ((qac a0_r).2 : Int)) := by
 obtain ⟨b, bad⟩ := a0_r
 unfold qiN
 refine ⟨fun h => ?_, fun h => ?_⟩
 ·have h : bad = true := h
  subst h
  exact ⟨rfl, rfl⟩
 have h : bad = false := h
 subst h
 have eP : qac (b, false) = qcV b := qbs b
 simp only [eP]
 rcases b with _ | ⟨c, r⟩
 ·exact ⟨fun _ => ⟨rfl, rfl⟩, fun h => absurd rfl h⟩
 have e0 : ix (c :: r) (0 : Int) = c := rfl
 have ec : bI c = (c.toNat : Int) := rfl
 have hc : c.toNat < 256 := c.toNat_lt
 have el : (((c :: r).length : Nat) : Int) = (r.length : Int) + 1 := by simp
 have b0 : (0 : Int) ≤ 0 ∧ (0 : Int) < (((c :: r).length : Nat) : Int) := by rw [el]; omega
 simp only [e0, ec]
 refine ⟨fun h => absurd h (by rw [el]; omega), fun _ => ⟨b0, fun h8 => ?_, fun h8 => ⟨b0, fun hl => ?_, fun hl => ?_⟩⟩⟩
 ·rw [qbU, if_neg (by omega)]; exact ⟨rfl, rfl⟩
 ·rw [el] at hl
  rw [qbU, if_neg (by omega)]; exact ⟨rfl, rfl⟩
 rw [el] at hl
 have h8 : c.toNat ≤ 8 := by omega
 have hkl : c.toNat ≤ r.length := by omega
 have ew : IntKind.i64.wrap (1 + (c.toNat : Int)) = ((c.toNat + 1 : Nat) : Int) := by rw [qan (wf64 (by omega) (by omega))]; omega
 have eR : List.drop (Int.toNat 1) (List.take ((c.toNat + 1 : Nat) : Int).toNat (c :: r)) = r.take c.toNat := rfl
 have eL : (r.take c.toNat).length = c.toNat := by rw [List.length_take]; omega
 simp only [ew, eR, eL]
 refine ⟨b0, ⟨by omega, by omega, by rw [el]; omega⟩, ?_⟩
 refine ⟨fun x i => ∃ j : Nat, i = (j : Int) ∧ j ≤ c.toNat ∧ x = (valB ((r.take c.toNat).take j) : Int), fun _ i => ((c.toNat : Int) - i).toNat, ⟨0, rfl, Nat.zero_le _, rfl⟩, ?_⟩
 rintro x2 _ ⟨j, rfl, hj, rfl⟩ _ _
 refine ⟨fun hlt => ?_, fun hge => ?_⟩
 ·have hj' : j < c.toNat := by omega
  have hjl : j < (r.take c.toNat).length := by rw [eL]; exact hj'
  have hlen : ((r.take c.toNat).take j).length = j := by rw [List.length_take, eL]; omega
  have hv := qjr ((r.take c.toNat).take j)
  rw [hlen] at hv
  have hv56 : valB ((r.take c.toNat).take j) < 2 ^ 56 := Nat.lt_of_lt_of_le hv (by
   have : 256 ^ j ≤ 256 ^ 7 := Nat.pow_le_pow_right (by omega) (by omega)
   exact this)
  refine ⟨⟨by omega, by omega⟩, by omega, ⟨j + 1, rfl, hj', ?_⟩, by dsimp only; omega⟩
  rw [ixN hjl, qrf hv56, qqn hjl]
 ·obtain rfl : j = c.toNat := by omega
  have eT : (r.take c.toNat).take c.toNat = r.take c.toNat := by rw [List.take_take, Nat.min_self]
  rw [eT]
  have good : ¬ (0 < c.toNat ∧ r.head? = some 0) → ((valB (r.take c.toNat) : Nat) : Int) = ((qcV (c :: r)).1 : Int) ∧ ((c.toNat + 1 : Nat) : Int) = ((qcV (c :: r)).2 : Int) := fun hn => by
   rw [qbU, if_pos ⟨h8, hkl, hn⟩]
   exact ⟨rfl, rfl⟩
  refine ⟨fun h1 => ?_, fun h1 => good fun hn => by omega⟩
  match r, hkl with
  | [], hkl => simp at hkl; omega
  | d :: r, hkl =>
    have e1 : ix (c :: d :: r) (1 : Int) = d := rfl
    simp only [e1]
    refine ⟨by simp; omega, fun hd => ?_, fun hd => good fun hn => hd ?_⟩
    ·have hd0 : d = 0 := UInt8.toNat_inj.1 (by have : (d.toNat : Int) = 0 := hd; show d.toNat = 0; omega)
     rw [qbU, if_neg (fun hn => hn.2.2 ⟨by omega, by rw [hd0]; rfl⟩)]
     exact ⟨rfl, rfl⟩
    ·have : d = 0 := Option.some.inj hn.2
     rw [this]; rfl
theorem qrm : (∀ a, qew.pre a → PM.wfP qew.pm a (fvc qoI 200 112 qew a (eqO qew a))) = (∀ a : ((List UInt8) × Bool) × Unit, True → (Ty.kd (.pr (.sl .byte) .bool)).wf a.1 → qiN a.1 (fun o0 o1 => o0 = ((qac (a.1)).1 : Int) ∧ o1 = ((qac (a.1)).2 : Int))) := by kernel_rfl
theorem qoJ : qew.valid Try.prog 112 := qat (X := qoI) (qaK qam (fun b hb => by cases hb; exact qar) qas trivial) 200 (qrm.mpr fun a hp w_0 => @qrn a.1 w_0)
noncomputable def qgD : Ctr := ⟨[.v (.sl .byte)], [.bx (.st (.pr (.sl .byte) .bool))], some (fun a => (fun (a0_b : List UInt8) => (a0_b.length ≤ 140737488355328 : Prop)) a.1), fun a => (fun (a0_b : List UInt8) => ((((a0_b, false) : List UInt8 × Bool), ()), (()))) a.1⟩
noncomputable def qsx : Fx := ⟨seat, some bkT, fns, [(69, qb7), (69, qca)], [], [], []⟩
def qkw (a0_b : List UInt8) (Q : ((List UInt8) × Bool) → Prop) : Prop :=
 a0_b.length ≤ (140737488355328 : Nat) ∧ (Ty.byte.kd.sl.wf a0_b → Q (a0_b, (Ty.byte.sl.pr Ty.bool).kd.z.snd))
theorem qtl {a0_b : List UInt8} (w_0 : (Ty.kd (.sl .byte)).wf a0_b) (hp : a0_b.length ≤ 140737488355328) : qkw a0_b (fun o0 => o0 = ((a0_b, false) : List UInt8 × Bool)) := by
 unfold qkw
 exact ⟨hp, fun _ => rfl⟩
theorem qtk : (∀ a, qgD.pre a → PM.wfP qgD.pm a (fvc qsx 200 23 qgD a (eqO qgD a))) = (∀ a : (List UInt8) × Unit, ((a.1).length ≤ 140737488355328) → (Ty.kd (.sl .byte)).wf a.1 → qkw a.1 (fun o0 => o0 = (((a.1), false) : List UInt8 × Bool))) := by kernel_rfl
theorem qsy : qgD.valid Try.prog 23 := qat (X := qsx) (qaK qam (fun b hb => by cases hb; exact qar) qas ⟨qdJ, qgj, trivial⟩) 200 (qtk.mpr fun a hp w_0 => @qtl a.1 w_0 hp)
def qgW (a0_c : (List UInt8) × Bool) (a1_most : Int) (Q : Int → ((List UInt8) × Bool) → Prop) : Prop :=
 (true = false → ((0 : Int) ≤ ((qac a0_c).snd : Int) ∧ ((qac a0_c).snd : Int) ≤ ((qac a0_c).snd : Int) ∧ ((qac a0_c).snd : Int) ≤ (a0_c.fst.length : Int)) ∧ ((0 : Int) ≤ ((qac a0_c).snd : Int) ∧ ((qac a0_c).snd : Int) ≤ (a0_c.fst.length : Int)) ∧ ∀ (x0 : Bool), (x0 = true → List.take ((qac a0_c).snd : Int).toNat a0_c.fst = ([] : List UInt8)) → (x0 = true → Q (0 : Int) (List.drop ((qac a0_c).snd : Int).toNat a0_c.fst, true)) ∧ (x0 = false → Q ((qac a0_c).fst : Int) (List.drop ((qac a0_c).snd : Int).toNat a0_c.fst, true)))
noncomputable def qhR : Ctr := ⟨[.bx (.st (.pr (.sl .byte) .bool)) true, .v (.int .u64)], [.v (.int .u64)], none, fun a => (fun (a0_c : (List UInt8) × Bool) (a1_most : Int) => ((((numC a1_most.toNat a0_c).1 : Int), ()), ((numC a1_most.toNat a0_c).2, ()))) a.1 a.2.1⟩
noncomputable def qsP : Fx := ⟨seat, some bkT, fns, [(112, qew)], [73, 113], [], [(5, [0], [.o 0 2, .o 1 2, .o 2 2, .o 3 2, .o 4 2, .o 5 2, .o 6 2, .o 7 2, .o 8 2, .o 9 2, .o 10 2, .o 11 2, .o 12 2, .o 13 2, .o 14 2, .o 15 2, .o 16 2, .o 17 1])]⟩
def qkU (a0_c : (List UInt8) × Bool) (a1_most : Int) (Q : Int → ((List UInt8) × Bool) → Prop) : Prop :=
 (Ty.int IntKind.u64).kd.wf ((qac a0_c).fst : Int) → (Ty.int IntKind.i64).kd.wf ((qac a0_c).snd : Int) → ((0 : Int) < ((qac a0_c).snd : Int) → (a0_c.snd = true → (true = true → Q (0 : Int) (a0_c.fst, true)) ∧ (qgW a0_c a1_most Q)) ∧ (a0_c.snd = false → (¬((qac a0_c).fst : Int) ≤ a1_most → (true = true → Q (0 : Int) (a0_c.fst, true)) ∧ (qgW a0_c a1_most Q)) ∧ (((qac a0_c).fst : Int) ≤ a1_most → (decide ((a0_c.fst.length : Int) < ((qac a0_c).snd : Int)) = true → Q (0 : Int) (a0_c.fst, decide ((a0_c.fst.length : Int) < ((qac a0_c).snd : Int)))) ∧ (decide ((a0_c.fst.length : Int) < ((qac a0_c).snd : Int)) = false → ((0 : Int) ≤ ((qac a0_c).snd : Int) ∧ ((qac a0_c).snd : Int) ≤ ((qac a0_c).snd : Int) ∧ ((qac a0_c).snd : Int) ≤ (a0_c.fst.length : Int)) ∧ ((0 : Int) ≤ ((qac a0_c).snd : Int) ∧ ((qac a0_c).snd : Int) ≤ (a0_c.fst.length : Int)) ∧ ∀ (x0 : Bool), (x0 = true → List.take ((qac a0_c).snd : Int).toNat a0_c.fst = ([] : List UInt8)) → (x0 = true → Q (0 : Int) (List.drop ((qac a0_c).snd : Int).toNat a0_c.fst, decide ((a0_c.fst.length : Int) < ((qac a0_c).snd : Int)))) ∧ (x0 = false → Q ((qac a0_c).fst : Int) (List.drop ((qac a0_c).snd : Int).toNat a0_c.fst, decide ((a0_c.fst.length : Int) < ((qac a0_c).snd : Int)))))))) ∧ (¬(0 : Int) < ((qac a0_c).snd : Int) → (a0_c.snd = true → (true = true → Q (0 : Int) (a0_c.fst, true)) ∧ (qgW a0_c a1_most Q)) ∧ (a0_c.snd = false → (true = true → Q (0 : Int) (a0_c.fst, true)) ∧ (qgW a0_c a1_most Q)))
theorem qub {a0_c : (List UInt8) × Bool} {a1_most : Int} (w_0 : (Ty.kd (.st (.pr (.sl .byte) .bool))).wf a0_c) (w_1 : (Ty.kd (.int .u64)).wf a1_most) : qkU a0_c a1_most (fun o0 o1 => o0 = ((numC a1_most.toNat a0_c).1 : Int) ∧ o1 = (numC a1_most.toNat a0_c).2) := by
 obtain ⟨b, bad⟩ := a0_c
 have k1 : ∀ Q, qgW (b, bad) a1_most Q := fun Q h => by cases h
 unfold qkU
 intro _ _
 cases bad with
 | true =>
   have e : qac (b, true) = (0, 0) := qdb rfl
   have eN := qrZ a1_most.toNat b
   simp only [e]
   refine ⟨fun h => absurd h (by decide), fun _ => ⟨fun _ => ⟨fun _ => ?_, k1 _⟩, fun h => by cases h⟩⟩
   rw [eN]; exact ⟨rfl, rfl⟩
 | false =>
   have e : qac (b, false) = qcV b := qbs b
   rw [e]
   generalize hp : qcV b = p
   obtain ⟨x, k⟩ := p
   have eN := quG (m := a1_most.toNat) hp
   obtain ⟨hx, hk9, hkl⟩ := qmx hp
   have hm : 0 ≤ a1_most := w_1.1
   rw [hp] at e
   have bad : ¬ (0 < k ∧ x ≤ a1_most.toNat) → ((0 : Int) = ((numC a1_most.toNat (b, false)).1 : Int) ∧ (b, true) = (numC a1_most.toNat (b, false)).2) := fun h => by
    rw [eN, if_neg h]; exact ⟨rfl, rfl⟩
   dsimp only
   refine ⟨fun h0 => ⟨fun h => (by cases h), fun _ => ⟨fun h1 => ⟨fun _ => bad (by omega), k1 _⟩, fun h1 => ⟨fun h2 => ?_, fun h2 => ⟨⟨by omega, by omega, by omega⟩, ⟨by omega, by omega⟩, fun z hz => ⟨fun hzt => ?_, fun _ => ?_⟩⟩⟩⟩⟩, fun h0 => ⟨fun h => (by cases h), fun _ => ⟨fun _ => bad (by omega), k1 _⟩⟩⟩
   ·have := of_decide_eq_true h2; omega
   ·exfalso
    have := congrArg List.length (hz hzt)
    rw [List.length_take] at this
    simp only [List.length_nil, Int.toNat_natCast] at this
    omega
   ·rw [eN, if_pos ⟨by omega, by omega⟩, h2]
    exact ⟨rfl, rfl⟩
theorem qua : (∀ a, qhR.pre a → PM.wfP qhR.pm a (fvc qsP 200 70 qhR a (eqO qhR a))) = (∀ a : ((List UInt8) × Bool) × Int × Unit, True → (Ty.kd (.st (.pr (.sl .byte) .bool))).wf a.1 → (Ty.kd (.int .u64)).wf a.2.1 → qkU a.1 a.2.1 (fun o0 o1 => o0 = ((numC (a.2.1).toNat (a.1)).1 : Int) ∧ o1 = (numC (a.2.1).toNat (a.1)).2)) := by kernel_rfl
theorem qwm : qhR.valid Try.prog 70 := qat (X := qsP) (qaK qam (fun b hb => by cases hb; exact qar) qas ⟨qoJ, trivial⟩) 200 (qua.mpr fun a hp w_0 w_1 => @qub a.1 a.2.1 w_0 w_1)
def qcd (a0_c : (List UInt8) × Bool) (a1_most : Int) (Q : (List UInt8) → ((List UInt8) × Bool) → Prop) : Prop :=
 (true = false → ((0 : Int) ≤ IntKind.i64.wrap (((qac a0_c).snd : Int) + IntKind.i64.wrap (0 : Int)) ∧ IntKind.i64.wrap (((qac a0_c).snd : Int) + IntKind.i64.wrap (0 : Int)) ≤ IntKind.i64.wrap (((qac a0_c).snd : Int) + IntKind.i64.wrap (0 : Int)) ∧ IntKind.i64.wrap (((qac a0_c).snd : Int) + IntKind.i64.wrap (0 : Int)) ≤ (a0_c.fst.length : Int)) ∧ ((0 : Int) ≤ IntKind.i64.wrap (((qac a0_c).snd : Int) + IntKind.i64.wrap (0 : Int)) ∧ IntKind.i64.wrap (((qac a0_c).snd : Int) + IntKind.i64.wrap (0 : Int)) ≤ (a0_c.fst.length : Int)) ∧ ∀ (x0 : Bool), (x0 = true → List.take (IntKind.i64.wrap (((qac a0_c).snd : Int) + IntKind.i64.wrap (0 : Int))).toNat a0_c.fst = ([] : List UInt8)) → (x0 = true → Q ([] : List UInt8) (List.drop (IntKind.i64.wrap (((qac a0_c).snd : Int) + IntKind.i64.wrap (0 : Int))).toNat a0_c.fst, true)) ∧ (x0 = false → ((0 : Int) ≤ ((qac a0_c).snd : Int) ∧ ((qac a0_c).snd : Int) ≤ ((List.take (IntKind.i64.wrap (((qac a0_c).snd : Int) + IntKind.i64.wrap (0 : Int))).toNat a0_c.fst).length : Int)) ∧ (List.drop ((qac a0_c).snd : Int).toNat (List.take (IntKind.i64.wrap (((qac a0_c).snd : Int) + IntKind.i64.wrap (0 : Int))).toNat a0_c.fst)).length ≤ (140737488355328 : Nat) ∧ (Ty.byte.kd.sl.wf (List.drop ((qac a0_c).snd : Int).toNat (List.take (IntKind.i64.wrap (((qac a0_c).snd : Int) + IntKind.i64.wrap (0 : Int))).toNat a0_c.fst)) → Q (List.drop ((qac a0_c).snd : Int).toNat (List.take (IntKind.i64.wrap (((qac a0_c).snd : Int) + IntKind.i64.wrap (0 : Int))).toNat a0_c.fst)) (List.drop (IntKind.i64.wrap (((qac a0_c).snd : Int) + IntKind.i64.wrap (0 : Int))).toNat a0_c.fst, true))))
def qiI (a0_c : (List UInt8) × Bool) (a1_most : Int) (Q : (List UInt8) → ((List UInt8) × Bool) → Prop) : Prop :=
 (true = false → ((0 : Int) ≤ IntKind.i64.wrap (((qac a0_c).snd : Int) + IntKind.i64.wrap ((qac a0_c).fst : Int)) ∧ IntKind.i64.wrap (((qac a0_c).snd : Int) + IntKind.i64.wrap ((qac a0_c).fst : Int)) ≤ IntKind.i64.wrap (((qac a0_c).snd : Int) + IntKind.i64.wrap ((qac a0_c).fst : Int)) ∧ IntKind.i64.wrap (((qac a0_c).snd : Int) + IntKind.i64.wrap ((qac a0_c).fst : Int)) ≤ (a0_c.fst.length : Int)) ∧ ((0 : Int) ≤ IntKind.i64.wrap (((qac a0_c).snd : Int) + IntKind.i64.wrap ((qac a0_c).fst : Int)) ∧ IntKind.i64.wrap (((qac a0_c).snd : Int) + IntKind.i64.wrap ((qac a0_c).fst : Int)) ≤ (a0_c.fst.length : Int)) ∧ ∀ (x0 : Bool), (x0 = true → List.take (IntKind.i64.wrap (((qac a0_c).snd : Int) + IntKind.i64.wrap ((qac a0_c).fst : Int))).toNat a0_c.fst = ([] : List UInt8)) → (x0 = true → Q ([] : List UInt8) (List.drop (IntKind.i64.wrap (((qac a0_c).snd : Int) + IntKind.i64.wrap ((qac a0_c).fst : Int))).toNat a0_c.fst, true)) ∧ (x0 = false → ((0 : Int) ≤ ((qac a0_c).snd : Int) ∧ ((qac a0_c).snd : Int) ≤ ((List.take (IntKind.i64.wrap (((qac a0_c).snd : Int) + IntKind.i64.wrap ((qac a0_c).fst : Int))).toNat a0_c.fst).length : Int)) ∧ (List.drop ((qac a0_c).snd : Int).toNat (List.take (IntKind.i64.wrap (((qac a0_c).snd : Int) + IntKind.i64.wrap ((qac a0_c).fst : Int))).toNat a0_c.fst)).length ≤ (140737488355328 : Nat) ∧ (Ty.byte.kd.sl.wf (List.drop ((qac a0_c).snd : Int).toNat (List.take (IntKind.i64.wrap (((qac a0_c).snd : Int) + IntKind.i64.wrap ((qac a0_c).fst : Int))).toNat a0_c.fst)) → Q (List.drop ((qac a0_c).snd : Int).toNat (List.take (IntKind.i64.wrap (((qac a0_c).snd : Int) + IntKind.i64.wrap ((qac a0_c).fst : Int))).toNat a0_c.fst)) (List.drop (IntKind.i64.wrap (((qac a0_c).snd : Int) + IntKind.i64.wrap ((qac a0_c).fst : Int))).toNat a0_c.fst, true))))
noncomputable def qfy : Ctr := ⟨[.bx (.st (.pr (.sl .byte) .bool)) true, .v (.int .i64)], [.ow 5 .byte], some (fun a => (fun (a0_c : (List UInt8) × Bool) (a1_most : Int) => (0 ≤ a1_most ∧ a0_c.1.length ≤ 140737488355328 : Prop)) a.1 a.2.1), fun a => (fun (a0_c : (List UInt8) × Bool) (a1_most : Int) => (((qaH a1_most.toNat a0_c).1, ()), ((qaH a1_most.toNat a0_c).2, ()))) a.1 a.2.1⟩
noncomputable def qoB : Fx := ⟨seat, some bkT, fns, [(112, qew), (69, qb7), (69, qca)], [73, 113, 122], [], [(5, [0], [.o 0 2, .o 1 2, .o 2 2, .o 3 2, .o 4 2, .o 5 2, .o 6 2, .o 7 2, .o 8 2, .o 9 2, .o 10 2, .o 11 2, .o 12 2, .o 13 2, .o 14 2, .o 15 2, .o 16 2, .o 17 1])]⟩
def qiJ (a0_c : (List UInt8) × Bool) (a1_most : Int) (Q : (List UInt8) → ((List UInt8) × Bool) → Prop) : Prop :=
 (Ty.int IntKind.u64).kd.wf ((qac a0_c).fst : Int) → (Ty.int IntKind.i64).kd.wf ((qac a0_c).snd : Int) → ((0 : Int) < ((qac a0_c).snd : Int) → ((0 : Int) ≤ a1_most → (((qac a0_c).fst : Int) ≤ IntKind.u64.wrap (bif true then max a1_most (0 : Int) else min a1_most (0 : Int)) → (¬((qac a0_c).fst : Int) ≤ IntKind.u64.wrap (IntKind.i64.wrap ((a0_c.fst.length : Int) - ((qac a0_c).snd : Int))) → (a0_c.snd = true → (true = true → Q ([] : List UInt8) (a0_c.fst, true)) ∧ (qcd a0_c a1_most Q)) ∧ (a0_c.snd = false → (¬((qac a0_c).fst : Int) ≤ IntKind.u64.wrap (IntKind.i64.wrap ((a0_c.fst.length : Int) - ((qac a0_c).snd : Int))) → (true = true → Q ([] : List UInt8) (a0_c.fst, true)) ∧ (qcd a0_c a1_most Q)) ∧ (((qac a0_c).fst : Int) ≤ IntKind.u64.wrap (IntKind.i64.wrap ((a0_c.fst.length : Int) - ((qac a0_c).snd : Int))) → (decide ((a0_c.fst.length : Int) < IntKind.i64.wrap (((qac a0_c).snd : Int) + IntKind.i64.wrap (0 : Int))) = true → Q ([] : List UInt8) (a0_c.fst, decide ((a0_c.fst.length : Int) < IntKind.i64.wrap (((qac a0_c).snd : Int) + IntKind.i64.wrap (0 : Int))))) ∧ (decide ((a0_c.fst.length : Int) < IntKind.i64.wrap (((qac a0_c).snd : Int) + IntKind.i64.wrap (0 : Int))) = false → ((0 : Int) ≤ IntKind.i64.wrap (((qac a0_c).snd : Int) + IntKind.i64.wrap (0 : Int)) ∧ IntKind.i64.wrap (((qac a0_c).snd : Int) + IntKind.i64.wrap (0 : Int)) ≤ IntKind.i64.wrap (((qac a0_c).snd : Int) + IntKind.i64.wrap (0 : Int)) ∧ IntKind.i64.wrap (((qac a0_c).snd : Int) + IntKind.i64.wrap (0 : Int)) ≤ (a0_c.fst.length : Int)) ∧ ((0 : Int) ≤ IntKind.i64.wrap (((qac a0_c).snd : Int) + IntKind.i64.wrap (0 : Int)) ∧ IntKind.i64.wrap (((qac a0_c).snd : Int) + IntKind.i64.wrap (0 : Int)) ≤ (a0_c.fst.length : Int)) ∧ ∀ (x0 : Bool), (x0 = true → List.take (IntKind.i64.wrap (((qac a0_c).snd : Int) + IntKind.i64.wrap (0 : Int))).toNat a0_c.fst = ([] : List UInt8)) → (x0 = true → Q ([] : List UInt8) (List.drop (IntKind.i64.wrap (((qac a0_c).snd : Int) + IntKind.i64.wrap (0 : Int))).toNat a0_c.fst, decide ((a0_c.fst.length : Int) < IntKind.i64.wrap (((qac a0_c).snd : Int) + IntKind.i64.wrap (0 : Int))))) ∧ (x0 = false → ((0 : Int) ≤ ((qac a0_c).snd : Int) ∧ ((qac a0_c).snd : Int) ≤ ((List.take (IntKind.i64.wrap (((qac a0_c).snd : Int) + IntKind.i64.wrap (0 : Int))).toNat a0_c.fst).length : Int)) ∧ (List.drop ((qac a0_c).snd : Int).toNat (List.take (IntKind.i64.wrap (((qac a0_c).snd : Int) + IntKind.i64.wrap (0 : Int))).toNat a0_c.fst)).length ≤ (140737488355328 : Nat) ∧ (Ty.byte.kd.sl.wf (List.drop ((qac a0_c).snd : Int).toNat (List.take (IntKind.i64.wrap (((qac a0_c).snd : Int) + IntKind.i64.wrap (0 : Int))).toNat a0_c.fst)) → Q (List.drop ((qac a0_c).snd : Int).toNat (List.take (IntKind.i64.wrap (((qac a0_c).snd : Int) + IntKind.i64.wrap (0 : Int))).toNat a0_c.fst)) (List.drop (IntKind.i64.wrap (((qac a0_c).snd : Int) + IntKind.i64.wrap (0 : Int))).toNat a0_c.fst, decide ((a0_c.fst.length : Int) < IntKind.i64.wrap (((qac a0_c).snd : Int) + IntKind.i64.wrap (0 : Int)))))))))) ∧ (((qac a0_c).fst : Int) ≤ IntKind.u64.wrap (IntKind.i64.wrap ((a0_c.fst.length : Int) - ((qac a0_c).snd : Int))) → (a0_c.snd = true → (true = true → Q ([] : List UInt8) (a0_c.fst, true)) ∧ (qiI a0_c a1_most Q)) ∧ (a0_c.snd = false → (¬((qac a0_c).fst : Int) ≤ IntKind.u64.wrap (IntKind.i64.wrap ((a0_c.fst.length : Int) - ((qac a0_c).snd : Int))) → (true = true → Q ([] : List UInt8) (a0_c.fst, true)) ∧ (qiI a0_c a1_most Q)) ∧ (((qac a0_c).fst : Int) ≤ IntKind.u64.wrap (IntKind.i64.wrap ((a0_c.fst.length : Int) - ((qac a0_c).snd : Int))) → (decide ((a0_c.fst.length : Int) < IntKind.i64.wrap (((qac a0_c).snd : Int) + IntKind.i64.wrap ((qac a0_c).fst : Int))) = true → Q ([] : List UInt8) (a0_c.fst, decide ((a0_c.fst.length : Int) < IntKind.i64.wrap (((qac a0_c).snd : Int) + IntKind.i64.wrap ((qac a0_c).fst : Int))))) ∧ (decide ((a0_c.fst.length : Int) < IntKind.i64.wrap (((qac a0_c).snd : Int) + IntKind.i64.wrap ((qac a0_c).fst : Int))) = false → ((0 : Int) ≤ IntKind.i64.wrap (((qac a0_c).snd : Int) + IntKind.i64.wrap ((qac a0_c).fst : Int)) ∧ IntKind.i64.wrap (((qac a0_c).snd : Int) + IntKind.i64.wrap ((qac a0_c).fst : Int)) ≤ IntKind.i64.wrap (((qac a0_c).snd : Int) + IntKind.i64.wrap ((qac a0_c).fst : Int)) ∧ IntKind.i64.wrap (((qac a0_c).snd : Int) + IntKind.i64.wrap ((qac a0_c).fst : Int)) ≤ (a0_c.fst.length : Int)) ∧ ((0 : Int) ≤ IntKind.i64.wrap (((qac a0_c).snd : Int) + IntKind.i64.wrap ((qac a0_c).fst : Int)) ∧ IntKind.i64.wrap (((qac a0_c).snd : Int) + IntKind.i64.wrap ((qac a0_c).fst : Int)) ≤ (a0_c.fst.length : Int)) ∧ ∀ (x0 : Bool), (x0 = true → List.take (IntKind.i64.wrap (((qac a0_c).snd : Int) + IntKind.i64.wrap ((qac a0_c).fst : Int))).toNat a0_c.fst = ([] : List UInt8)) → (x0 = true → Q ([] : List UInt8) (List.drop (IntKind.i64.wrap (((qac a0_c).snd : Int) + IntKind.i64.wrap ((qac a0_c).fst : Int))).toNat a0_c.fst, decide ((a0_c.fst.length : Int) < IntKind.i64.wrap (((qac a0_c).snd : Int) + IntKind.i64.wrap ((qac a0_c).fst : Int))))) ∧ (x0 = false → ((0 : Int) ≤ ((qac a0_c).snd : Int) ∧ ((qac a0_c).snd : Int) ≤ ((List.take (IntKind.i64.wrap (((qac a0_c).snd : Int) + IntKind.i64.wrap ((qac a0_c).fst : Int))).toNat a0_c.fst).length : Int)) ∧ (List.drop ((qac a0_c).snd : Int).toNat (List.take (IntKind.i64.wrap (((qac a0_c).snd : Int) + IntKind.i64.wrap ((qac a0_c).fst : Int))).toNat a0_c.fst)).length ≤ (140737488355328 : Nat) ∧ (Ty.byte.kd.sl.wf (List.drop ((qac a0_c).snd : Int).toNat (List.take (IntKind.i64.wrap (((qac a0_c).snd : Int) + IntKind.i64.wrap ((qac a0_c).fst : Int))).toNat a0_c.fst)) → Q (List.drop ((qac a0_c).snd : Int).toNat (List.take (IntKind.i64.wrap (((qac a0_c).snd : Int) + IntKind.i64.wrap ((qac a0_c).fst : Int))).toNat a0_c.fst)) (List.drop (IntKind.i64.wrap (((qac a0_c).snd : Int) + IntKind.i64.wrap ((qac a0_c).fst : Int))).toNat a0_c.fst, decide ((a0_c.fst.length : Int) < IntKind.i64.wrap (((qac a0_c).snd : Int) + IntKind.i64.wrap ((qac a0_c).fst : Int))))))))))) ∧ (¬((qac a0_c).fst : Int) ≤ IntKind.u64.wrap (bif true then max a1_most (0 : Int) else min a1_most (0 : Int)) → (a0_c.snd = true → (true = true → Q ([] : List UInt8) (a0_c.fst, true)) ∧ (qcd a0_c a1_most Q)) ∧ (a0_c.snd = false → (true = true → Q ([] : List UInt8) (a0_c.fst, true)) ∧ (qcd a0_c a1_most Q)))) ∧ (¬(0 : Int) ≤ a1_most → (a0_c.snd = true → (true = true → Q ([] : List UInt8) (a0_c.fst, true)) ∧ (qcd a0_c a1_most Q)) ∧ (a0_c.snd = false → (true = true → Q ([] : List UInt8) (a0_c.fst, true)) ∧ (qcd a0_c a1_most Q)))) ∧ (¬(0 : Int) < ((qac a0_c).snd : Int) → (a0_c.snd = true → (true = true → Q ([] : List UInt8) (a0_c.fst, true)) ∧ (qcd a0_c a1_most Q)) ∧ (a0_c.snd = false → (true = true → Q ([] : List UInt8) (a0_c.fst, true)) ∧ (qcd a0_c a1_most Q)))
theorem qri {a0_c : (List UInt8) × Bool} {a1_most : Int} (w_0 : (Ty.kd (.st (.pr (.sl .byte) .bool))).wf a0_c) (w_1 : (Ty.kd (.int .i64)).wf a1_most) (hp : 0 ≤ a1_most ∧ a0_c.1.length ≤ 140737488355328) : qiJ a0_c a1_most (fun o0 o1 => o0 = (qaH a1_most.toNat a0_c).1 ∧ o1 = (qaH a1_most.toNat a0_c).2) := by
 obtain ⟨hm, hB⟩ := hp
 obtain ⟨b, bad⟩ := a0_c
 have hB : b.length ≤ 140737488355328 := hB
 have k1 : ∀ Q, qcd (b, bad) a1_most Q := fun Q h => by cases h
 have k2 : ∀ Q, qiI (b, bad) a1_most Q := fun Q h => by cases h
 have em : IntKind.u64.wrap (bif true then max a1_most (0 : Int) else min a1_most (0 : Int)) = a1_most := by
  show IntKind.u64.wrap (max a1_most (0 : Int)) = a1_most
  have hM : a1_most ≤ 9223372036854775807 := w_1.2
  rw [Int.max_eq_left hm, qan ⟨by show (0 : Int) ≤ _; omega, by show a1_most ≤ 18446744073709551615; omega⟩]
 have e0 : IntKind.i64.wrap (0 : Int) = 0 := by decide
 unfold qiJ
 intro _ _
 simp only [em, e0]
 cases bad with
 | true =>
   have e : qac (b, true) = (0, 0) := qdb rfl
   have eN := qox a1_most.toNat b
   have hbad : [] = (qaH a1_most.toNat (b, true)).1 ∧ (b, true) = (qaH a1_most.toNat (b, true)).2 := by rw [eN]; exact ⟨rfl, rfl⟩
   simp only [e]
   repeat' (first | exact hbad | exact k1 _ | exact k2 _ | (intro h; first | (cases h; done) | exact absurd h (by decide) | skip) | (with_reducible apply And.intro))
 | false =>
   have e : qac (b, false) = qcV b := qbs b
   generalize hp : qcV b = p at e
   obtain ⟨x, k⟩ := p
   have eN := qrd (m := a1_most.toNat) hp
   obtain ⟨hx, hk9, hkl⟩ := qmx hp
   have hbad : ¬ (0 < k ∧ x ≤ a1_most.toNat ∧ x + k ≤ b.length) → ([] = (qaH a1_most.toNat (b, false)).1 ∧ (b, true) = (qaH a1_most.toNat (b, false)).2) := fun h => by
    rw [eN, if_neg h]; exact ⟨rfl, rfl⟩
   have e2 : IntKind.u64.wrap (IntKind.i64.wrap ((b.length : Int) - (k : Int))) = (b.length : Int) - (k : Int) := by
    rw [qan (wf64 (by omega) (by omega)), qan ⟨by show (0 : Int) ≤ _; omega, by show (b.length : Int) - (k : Int) ≤ 18446744073709551615; omega⟩]
   have e3 : IntKind.i64.wrap ((k : Int) + 0) = (k : Int) := by rw [Int.add_zero, qan (wf64 (by omega) (by omega))]
   simp only [e, e2, e3]
   by_cases hg : 0 < k ∧ x ≤ a1_most.toNat ∧ x + k ≤ b.length
   ·obtain ⟨g1, g2, g3⟩ := hg
    have e4 : IntKind.i64.wrap ((k : Int) + IntKind.i64.wrap (x : Int)) = ((k + x : Nat) : Int) := by
     rw [qan (a := (x : Int)) (wf64 (by omega) (by omega)), qan (wf64 (by omega) (by omega))]; omega
    simp only [e4]
    have ed : decide ((b.length : Int) < ((k + x : Nat) : Int)) = false := decide_eq_false (by omega)
    have good : List.drop ((k : Nat) : Int).toNat (List.take ((k + x : Nat) : Int).toNat b) = (qaH a1_most.toNat (b, false)).1 ∧ (List.drop ((k + x : Nat) : Int).toNat b, false) = (qaH a1_most.toNat (b, false)).2 := by
     rw [eN, if_pos ⟨g1, g2, g3⟩]
     refine ⟨?_, rfl⟩
     show List.drop k (List.take (k + x) b) = (b.drop k).take x
     rw [List.drop_take]
     congr 1
     omega
    have bnd : (0 : Int) ≤ ((k + x : Nat) : Int) ∧ ((k + x : Nat) : Int) ≤ ((k + x : Nat) : Int) ∧ ((k + x : Nat) : Int) ≤ (b.length : Int) := ⟨by omega, by omega, by omega⟩
    have bnd2 : (0 : Int) ≤ ((k + x : Nat) : Int) ∧ ((k + x : Nat) : Int) ≤ (b.length : Int) := ⟨by omega, by omega⟩
    have hlt : (List.take ((k + x : Nat) : Int).toNat b).length = k + x := by rw [List.length_take, Int.toNat_natCast]; omega
    rw [ed]
    repeat' (first | exact k1 _ | exact k2 _ | exact bnd | exact bnd2 | (intro h; first | (cases h; done) | (exact absurd h (by omega)) | skip) | (with_reducible apply And.intro))
    all_goals first
     | exact good.1
     | exact good.2
     | omega
     | (rw [hlt]; omega)
     | (rw [List.length_drop, hlt]; omega)
     | (rename_i hz
        exfalso
        have := congrArg List.length (hz h)
        rw [hlt, List.length_nil] at this
        omega)
   ·repeat' (first | exact k1 _ | exact k2 _ | exact hbad hg | (intro h; first | (cases h; done) | (exact absurd h (by omega)) | skip) | (with_reducible apply And.intro))
theorem qrh : (∀ a, qfy.pre a → PM.wfP qfy.pm a (fvc qoB 200 97 qfy a (eqO qfy a))) = (∀ a : ((List UInt8) × Bool) × Int × Unit, (0 ≤ (a.2.1) ∧ (a.1).1.length ≤ 140737488355328) → (Ty.kd (.st (.pr (.sl .byte) .bool))).wf a.1 → (Ty.kd (.int .i64)).wf a.2.1 → qiJ a.1 a.2.1 (fun o0 o1 => o0 = (qaH (a.2.1).toNat (a.1)).1 ∧ o1 = (qaH (a.2.1).toNat (a.1)).2)) := by kernel_rfl
theorem qt7 : qfy.valid Try.prog 97 := qat (X := qoB) (qaK qam (fun b hb => by cases hb; exact qar) qas ⟨qoJ, qdJ, qgj, trivial⟩) 200 (qrh.mpr fun a hp w_0 w_1 => @qri a.1 a.2.1 w_0 w_1 hp)
noncomputable def qhS : Ctr := ⟨[.bx (.st (.pr (.sl .byte) .bool)) true], [.v (.arr 32 .byte)], none, fun a => (fun (a0_c : (List UInt8) × Bool) => (((sumC a0_c).1, ()), ((sumC a0_c).2, ()))) a.1⟩
noncomputable def qsQ : Fx := ⟨seat, some bkT, fns, [], [73, 113], [], [(1, [0, 1], [.o 0 3, .o 1 2, .o 2 1, .o 3 1, .o 4 1]), (5, [0], [.o 0 2, .o 1 2, .o 2 2, .o 3 2, .o 4 2, .o 5 2, .o 6 2, .o 7 2, .o 8 2, .o 9 2, .o 10 2, .o 11 2, .o 12 2, .o 13 2, .o 14 2, .o 15 2, .o 16 2, .o 17 1])]⟩
def qkV (a0_c : (List UInt8) × Bool) (Q : (List UInt8) → ((List UInt8) × Bool) → Prop) : Prop :=
 (a0_c.snd = true → (true = true → Q (List.take (Int.toNat (0 : Int)) (Ty.arr (32 : Nat) Ty.byte).kd.z ++ List.take (((32 : Nat) : Int).toNat - Int.toNat (0 : Int)) ([] : List UInt8) ++ List.drop (Int.toNat (0 : Int) + min ([] : List UInt8).length (((32 : Nat) : Int).toNat - Int.toNat (0 : Int))) (Ty.arr (32 : Nat) Ty.byte).kd.z) (a0_c.fst, true)) ∧ (true = false → ((0 : Int) ≤ (32 : Int) ∧ (32 : Int) ≤ (32 : Int) ∧ (32 : Int) ≤ (a0_c.fst.length : Int)) ∧ ((0 : Int) ≤ (32 : Int) ∧ (32 : Int) ≤ (a0_c.fst.length : Int)) ∧ Q (List.take (Int.toNat (0 : Int)) (Ty.arr (32 : Nat) Ty.byte).kd.z ++ List.take (((32 : Nat) : Int).toNat - Int.toNat (0 : Int)) (List.take (Int.toNat (32 : Int)) a0_c.fst) ++ List.drop (Int.toNat (0 : Int) + min (List.take (Int.toNat (32 : Int)) a0_c.fst).length (((32 : Nat) : Int).toNat - Int.toNat (0 : Int))) (Ty.arr (32 : Nat) Ty.byte).kd.z) (List.drop (Int.toNat (32 : Int)) a0_c.fst, true))) ∧ (a0_c.snd = false → (decide ((a0_c.fst.length : Int) < (32 : Int)) = true → Q (List.take (Int.toNat (0 : Int)) (Ty.arr (32 : Nat) Ty.byte).kd.z ++ List.take (((32 : Nat) : Int).toNat - Int.toNat (0 : Int)) ([] : List UInt8) ++ List.drop (Int.toNat (0 : Int) + min ([] : List UInt8).length (((32 : Nat) : Int).toNat - Int.toNat (0 : Int))) (Ty.arr (32 : Nat) Ty.byte).kd.z) (a0_c.fst, decide ((a0_c.fst.length : Int) < (32 : Int)))) ∧ (decide ((a0_c.fst.length : Int) < (32 : Int)) = false → ((0 : Int) ≤ (32 : Int) ∧ (32 : Int) ≤ (32 : Int) ∧ (32 : Int) ≤ (a0_c.fst.length : Int)) ∧ ((0 : Int) ≤ (32 : Int) ∧ (32 : Int) ≤ (a0_c.fst.length : Int)) ∧ Q (List.take (Int.toNat (0 : Int)) (Ty.arr (32 : Nat) Ty.byte).kd.z ++ List.take (((32 : Nat) : Int).toNat - Int.toNat (0 : Int)) (List.take (Int.toNat (32 : Int)) a0_c.fst) ++ List.drop (Int.toNat (0 : Int) + min (List.take (Int.toNat (32 : Int)) a0_c.fst).length (((32 : Nat) : Int).toNat - Int.toNat (0 : Int))) (Ty.arr (32 : Nat) Ty.byte).kd.z) (List.drop (Int.toNat (32 : Int)) a0_c.fst, decide ((a0_c.fst.length : Int) < (32 : Int)))))
theorem qud {a0_c : (List UInt8) × Bool} (w_0 : (Ty.kd (.st (.pr (.sl .byte) .bool))).wf a0_c) : qkV a0_c (fun o0 o1 => o0 = (sumC a0_c).1 ∧ o1 = (sumC a0_c).2) := by
 obtain ⟨b, bad⟩ := a0_c
 unfold qkV
 have zz : (Ty.arr (32 : Nat) Ty.byte).kd.z = List.replicate 32 (0 : UInt8) := rfl
 have e0 : ∀ l : List UInt8, List.take (Int.toNat (0 : Int)) (Ty.arr (32 : Nat) Ty.byte).kd.z ++ List.take (((32 : Nat) : Int).toNat - Int.toNat (0 : Int)) l ++ List.drop (Int.toNat (0 : Int) + min l.length (((32 : Nat) : Int).toNat - Int.toNat (0 : Int))) (Ty.arr (32 : Nat) Ty.byte).kd.z = l.take 32 ++ (List.replicate 32 (0 : UInt8)).drop (min l.length 32) := fun l => by
  show [] ++ l.take 32 ++ (List.replicate 32 (0 : UInt8)).drop (0 + min l.length 32) = _
  rw [Nat.zero_add]; rfl
 simp only [e0]
 have bad0 : ∀ c, ¬ (c = false ∧ 32 ≤ b.length) → (List.take 32 ([] : List UInt8) ++ (List.replicate 32 (0 : UInt8)).drop (min ([] : List UInt8).length 32) = (sumC (b, c)).1 ∧ (b, true) = (sumC (b, c)).2) := fun c h => by
  have e : sumC (b, c) = (sm0L, (b, true)) := if_neg h
  rw [e]; exact ⟨rfl, rfl⟩
 refine ⟨fun h => ⟨fun _ => bad0 bad (fun hc => ?_), fun h => by cases h⟩, fun h => ⟨fun hd => ?_, fun hd => ?_⟩⟩
 ·have h : bad = true := h
  rw [h] at hc; exact absurd hc.1 (by decide)
 ·have h32 := of_decide_eq_true hd
  rw [hd]
  exact bad0 bad (fun hc => by omega)
 ·have h32 := of_decide_eq_false hd
  have hb : bad = false := h
  subst hb
  have e : sumC (b, false) = (b.take 32, (b.drop 32, false)) := if_pos ⟨rfl, by show 32 ≤ b.length; omega⟩
  rw [e, hd]
  have et : Int.toNat (32 : Int) = 32 := rfl
  have el : (b.take 32).length = 32 := by rw [List.length_take]; omega
  refine ⟨⟨by omega, by omega, by omega⟩, ⟨by omega, by omega⟩, ?_, ?_⟩
  ·rw [et, el, List.take_take]
   show b.take 32 ++ [] = _
   rw [List.append_nil]
  ·rw [et]
theorem quc : (∀ a, qhS.pre a → PM.wfP qhS.pm a (fvc qsQ 200 71 qhS a (eqO qhS a))) = (∀ a : ((List UInt8) × Bool) × Unit, True → (Ty.kd (.st (.pr (.sl .byte) .bool))).wf a.1 → qkV a.1 (fun o0 o1 => o0 = (sumC (a.1)).1 ∧ o1 = (sumC (a.1)).2)) := by kernel_rfl
theorem qwn : qhS.valid Try.prog 71 := qat (X := qsQ) (qaK qam (fun b hb => by cases hb; exact qar) qas trivial) 200 (quc.mpr fun a hp w_0 => @qud a.1 w_0)
noncomputable def qev : Ctr := ⟨[.bx (.st (.pr (.sl .byte) .bool)) false], [.v (.int .i64)], none, fun a => (fun (a0_c : (List UInt8) × Bool) => (((a0_c.1.length : Int), ()), (()))) a.1⟩
noncomputable def qoD : Fx := ⟨seat, some bkT, fns, [], [74], [], []⟩
def qiK (a0_c : (List UInt8) × Bool) (Q : Int → Prop) : Prop :=
 Q (a0_c.fst.length : Int)
theorem qrk {a0_c : (List UInt8) × Bool} (w_0 : (Ty.kd (.st (.pr (.sl .byte) .bool))).wf a0_c) : qiK a0_c (fun o0 => o0 = (a0_c.1.length : Int)) := by
 unfold qiK
 rfl
theorem qrj : (∀ a, qev.pre a → PM.wfP qev.pm a (fvc qoD 200 27 qev a (eqO qev a))) = (∀ a : ((List UInt8) × Bool) × Unit, True → (Ty.kd (.st (.pr (.sl .byte) .bool))).wf a.1 → qiK a.1 (fun o0 => o0 = ((a.1).1.length : Int))) := by kernel_rfl
theorem qoE : qev.valid Try.prog 27 := qat (X := qoD) (qaK qam (fun b hb => by cases hb; exact qar) qas trivial) 200 (qrj.mpr fun a hp w_0 => @qrk a.1 w_0)
noncomputable def qf8 : Ctr := ⟨[.bx (.st (.pr (.sl .byte) .bool)) false], [.v (.int .i64)], none, fun a => (fun (a0_c : (List UInt8) × Bool) => (((if a0_c.2 = true then 2 else 0 : Int), ()), (()))) a.1⟩
noncomputable def qsO : Fx := ⟨seat, some bkT, fns, [], [73], [], []⟩
def qkT (a0_c : (List UInt8) × Bool) (Q : Int → Prop) : Prop :=
 (a0_c.snd = true → Q (2 : Int)) ∧ (a0_c.snd = false → Q (0 : Int))
theorem qt9 {a0_c : (List UInt8) × Bool} (w_0 : (Ty.kd (.st (.pr (.sl .byte) .bool))).wf a0_c) : qkT a0_c (fun o0 => o0 = (if a0_c.2 = true then 2 else 0 : Int)) := by
 unfold qkT
 refine ⟨fun h => ?_, fun h => ?_⟩
 ·rw [if_pos h]
 ·rw [if_neg (by rw [h]; exact fun h => by cases h)]
theorem qt8 : (∀ a, qf8.pre a → PM.wfP qf8.pm a (fvc qsO 200 26 qf8 a (eqO qf8 a))) = (∀ a : ((List UInt8) × Bool) × Unit, True → (Ty.kd (.st (.pr (.sl .byte) .bool))).wf a.1 → qkT a.1 (fun o0 => o0 = (if (a.1).2 = true then 2 else 0 : Int))) := by kernel_rfl
theorem qoC : qf8.valid Try.prog 26 := qat (X := qsO) (qaK qam (fun b hb => by cases hb; exact qar) qas trivial) 200 (qt8.mpr fun a hp w_0 => @qt9 a.1 w_0)
noncomputable def qfi : Ctr := ⟨[.v (.sl .byte), .v (.sl (.arr 32 .byte))], [.ow 5 .byte], some (fun a => (fun (a0_b : List UInt8) (a1_l : List (List UInt8)) => (a0_b.length + a1_l.flatten.length ≤ 140737488355328 ∧ ∀ x ∈ a1_l, x.length = 32 : Prop)) a.1 a.2.1), fun a => (fun (a0_b : List UInt8) (a1_l : List (List UInt8)) => (((a0_b ++ a1_l.flatten), ()), (()))) a.1 a.2.1⟩
noncomputable def qnU : Fx := ⟨seat, some bkT, fns, [(69, qb7), (69, qca)], [], [], []⟩
def qio (a0_b : List UInt8) (a1_l : List (List UInt8)) (Q : (List UInt8) → Prop) : Prop :=
 a0_b.length ≤ (140737488355328 : Nat) ∧ (Ty.byte.kd.sl.wf a0_b → ∃ (x0 : List UInt8 → Int → Prop), ∃ (x1 : List UInt8 → Int → Nat), x0 a0_b (0 : Int) ∧ ∀ (x2 : List UInt8) (x3 : Int), x0 x2 x3 → Ty.byte.kd.sl.wf x2 → (Kd.int IntKind.i64).wf x3 → (x3 < (a1_l.length : Int) → ((0 : Int) ≤ x3 ∧ x3 < (a1_l.length : Int)) ∧ (x2.length + (List.drop (Int.toNat (0 : Int)) (List.take ((32 : Nat) : Int).toNat (ix a1_l x3))).length) * (1 : Nat) ≤ (140737488355328 : Nat) ∧ x3 < (9223372036854775807 : Int) ∧ x0 (x2 ++ List.drop (Int.toNat (0 : Int)) (List.take ((32 : Nat) : Int).toNat (ix a1_l x3))) (x3 + (1 : Int)) ∧ x1 (x2 ++ List.drop (Int.toNat (0 : Int)) (List.take ((32 : Nat) : Int).toNat (ix a1_l x3))) (x3 + (1 : Int)) < x1 x2 x3) ∧ (¬x3 < (a1_l.length : Int) → Q x2))
theorem qqH {a0_b : List UInt8} {a1_l : List (List UInt8)} (w_0 : (Ty.kd (.sl .byte)).wf a0_b) (w_1 : (Ty.kd (.sl (.arr 32 .byte))).wf a1_l) (hp : a0_b.length + a1_l.flatten.length ≤ 140737488355328 ∧ ∀ x ∈ a1_l, x.length = 32) : qio a0_b a1_l (fun o0 => o0 = (a0_b ++ a1_l.flatten)) := by
 unfold qio
 refine ⟨by omega, fun _ => ⟨fun out i => ∃ j : Nat, i = (j : Int) ∧ j ≤ a1_l.length ∧ out = a0_b ++ (a1_l.take j).flatten, fun _ i => a1_l.length - i.toNat, ⟨0, rfl, by omega, by simp⟩, ?_⟩⟩
 rintro out i ⟨j, rfl, hj, rfl⟩ _ _
 refine ⟨fun hlt => ?_, fun hge => ?_⟩
 ·have h1 := qg1 (l := a1_l) (j + 1)
  rw [qcr hlt, List.length_append] at h1
  have h32 := hp.2 _ (qeo (l := a1_l) (by omega) hlt)
  have e : List.drop (Int.toNat 0) (List.take ((32 : Nat) : Int).toNat (ix a1_l (j : Int))) = ix a1_l (j : Int) := by show ((ix a1_l (j : Int)).take 32).drop 0 = _; rw [List.drop_zero, List.take_of_length_le (by omega)]
  rw [e]
  refine ⟨⟨by omega, hlt⟩, by simp only [List.length_append]; omega, by have := w_1.1; unfold LM at this; omega, ⟨j + 1, by omega, by omega, by rw [qcr hlt]; simp⟩, ?_⟩
  show a1_l.length - ((j : Int) + 1).toNat < a1_l.length - (j : Int).toNat
  omega
 ·have : j = a1_l.length := by omega
  subst this
  rw [List.take_length]
theorem qqG : (∀ a, qfi.pre a → PM.wfP qfi.pm a (fvc qnU 200 64 qfi a (eqO qfi a))) = (∀ a : (List UInt8) × (List (List UInt8)) × Unit, ((a.1).length + (a.2.1).flatten.length ≤ 140737488355328 ∧ ∀ x ∈ (a.2.1), x.length = 32) → (Ty.kd (.sl .byte)).wf a.1 → (Ty.kd (.sl (.arr 32 .byte))).wf a.2.1 → qio a.1 a.2.1 (fun o0 => o0 = ((a.1) ++ (a.2.1).flatten))) := by kernel_rfl
theorem qtz : qfi.valid Try.prog 64 := qat (X := qnU) (qaK qam (fun b hb => by cases hb; exact qar) qas ⟨qdJ, qgj, trivial⟩) 200 (qqG.mpr fun a hp w_0 w_1 => @qqH a.1 a.2.1 w_0 w_1 hp)
noncomputable def qdu : Ctr := ⟨[.v (.sl .byte), .v (.pr (.int .i64) (.sl (.pr (.int .i64) (.pr (.pr (.sl .byte) (.sl .byte)) (.sl (.arr 32 .byte))))))], [.ow 5 .byte], some (fun a => (fun (a0_b : List UInt8) (a1_s : Int × List (Int × ((List UInt8) × List UInt8) × List (List UInt8))) => (a0_b.length ≤ 1099511627776 ∧ a1_s.2.length ≤ 65536 ∧ (∀ x ∈ a1_s.2, x.2.1.1.length + x.2.1.2.length ≤ 16777216 ∧ x.2.2.length ≤ 65536) : Prop)) a.1 a.2.1), fun a => (fun (a0_b : List UInt8) (a1_s : Int × List (Int × ((List UInt8) × List UInt8) × List (List UInt8))) => (((a0_b ++ qaN a1_s), ()), (()))) a.1 a.2.1⟩
noncomputable def qmk : Fx := ⟨seat, some bkT, fns, [(62, qjz), (95, qgA), (64, qfi)], [], [], [(5, [], [.o 0 2, .o 1 2, .o 2 2, .o 3 2, .o 6 2, .o 7 2, .o 8 2, .o 9 2, .o 10 2, .o 11 2, .par [4, 5, 12] (.alt 4 0 (.alt 5 0 (.one 12 0 .fin) (.alt 12 0 (.one 5 0 .fin) .fin)) (.alt 12 0 (.one 4 0 (.one 5 0 .fin)) .fin)), .o 13 0, .o 14 2]), (6, [], [.o 0 2, .o 1 2, .o 2 2, .o 3 2, .o 4 2, .o 7 2, .o 8 2, .o 5 0, .o 6 0, .o 9 0, .o 10 2])]⟩
def qg7 (a0_b : List UInt8) (a1_s : Int × List (Int × ((List UInt8) × List UInt8) × List (List UInt8))) (Q : (List UInt8) → Prop) : Prop :=
 a0_b.length + (9 : Nat) * (IntKind.u64.wrap a1_s.fst :: IntKind.u64.wrap (a1_s.snd.length : Int) :: ([] : List Int)).length ≤ (140737488355328 : Nat) ∧ (Ty.byte.kd.sl.wf (a0_b ++ qag (IntKind.u64.wrap a1_s.fst :: IntKind.u64.wrap (a1_s.snd.length : Int) :: ([] : List Int))) → ∃ (x0 : List UInt8 → Int → Prop), ∃ (x1 : List UInt8 → Int → Nat), x0 (a0_b ++ qag (IntKind.u64.wrap a1_s.fst :: IntKind.u64.wrap (a1_s.snd.length : Int) :: ([] : List Int))) (0 : Int) ∧ ∀ (x2 : List UInt8) (x3 : Int), x0 x2 x3 → Ty.byte.kd.sl.wf x2 → (Kd.int IntKind.i64).wf x3 → (x3 < (a1_s.snd.length : Int) → ((0 : Int) ≤ x3 ∧ x3 < (a1_s.snd.length : Int)) ∧ ((x2.length + (9 : Nat) * (IntKind.u64.wrap (ix a1_s.snd x3).fst :: ([] : List Int)).length ≤ (140737488355328 : Nat) ∧ (Ty.byte.kd.sl.wf (x2 ++ qag (IntKind.u64.wrap (ix a1_s.snd x3).fst :: ([] : List Int))) → (x2 ++ qag (IntKind.u64.wrap (ix a1_s.snd x3).fst :: ([] : List Int))).length + qaj ((ix a1_s.snd x3).snd.fst.fst :: (ix a1_s.snd x3).snd.fst.snd :: ([] : List (List UInt8))) ≤ (140737488355328 : Nat) ∧ (Ty.byte.kd.sl.wf (x2 ++ qag (IntKind.u64.wrap (ix a1_s.snd x3).fst :: ([] : List Int)) ++ qal ((ix a1_s.snd x3).snd.fst.fst :: (ix a1_s.snd x3).snd.fst.snd :: ([] : List (List UInt8)))) → (x2 ++ qag (IntKind.u64.wrap (ix a1_s.snd x3).fst :: ([] : List Int)) ++ qal ((ix a1_s.snd x3).snd.fst.fst :: (ix a1_s.snd x3).snd.fst.snd :: ([] : List (List UInt8)))).length + (9 : Nat) * (IntKind.u64.wrap ((ix a1_s.snd x3).snd.snd.length : Int) :: ([] : List Int)).length ≤ (140737488355328 : Nat) ∧ (Ty.byte.kd.sl.wf (x2 ++ qag (IntKind.u64.wrap (ix a1_s.snd x3).fst :: ([] : List Int)) ++ qal ((ix a1_s.snd x3).snd.fst.fst :: (ix a1_s.snd x3).snd.fst.snd :: ([] : List (List UInt8))) ++ qag (IntKind.u64.wrap ((ix a1_s.snd x3).snd.snd.length : Int) :: ([] : List Int))) → ((x2 ++ qag (IntKind.u64.wrap (ix a1_s.snd x3).fst :: ([] : List Int)) ++ qal ((ix a1_s.snd x3).snd.fst.fst :: (ix a1_s.snd x3).snd.fst.snd :: ([] : List (List UInt8))) ++ qag (IntKind.u64.wrap ((ix a1_s.snd x3).snd.snd.length : Int) :: ([] : List Int))).length + (ix a1_s.snd x3).snd.snd.flatten.length ≤ (140737488355328 : Nat) ∧ ∀ (x11 : List UInt8), x11 ∈ (ix a1_s.snd x3).snd.snd → x11.length = (32 : Nat)) ∧ (Ty.byte.kd.sl.wf (x2 ++ qag (IntKind.u64.wrap (ix a1_s.snd x3).fst :: ([] : List Int)) ++ qal ((ix a1_s.snd x3).snd.fst.fst :: (ix a1_s.snd x3).snd.fst.snd :: ([] : List (List UInt8))) ++ qag (IntKind.u64.wrap ((ix a1_s.snd x3).snd.snd.length : Int) :: ([] : List Int)) ++ (ix a1_s.snd x3).snd.snd.flatten) → x3 < (9223372036854775807 : Int) ∧ x0 (x2 ++ qag (IntKind.u64.wrap (ix a1_s.snd x3).fst :: ([] : List Int)) ++ qal ((ix a1_s.snd x3).snd.fst.fst :: (ix a1_s.snd x3).snd.fst.snd :: ([] : List (List UInt8))) ++ qag (IntKind.u64.wrap ((ix a1_s.snd x3).snd.snd.length : Int) :: ([] : List Int)) ++ (ix a1_s.snd x3).snd.snd.flatten) (x3 + (1 : Int)) ∧ x1 (x2 ++ qag (IntKind.u64.wrap (ix a1_s.snd x3).fst :: ([] : List Int)) ++ qal ((ix a1_s.snd x3).snd.fst.fst :: (ix a1_s.snd x3).snd.fst.snd :: ([] : List (List UInt8))) ++ qag (IntKind.u64.wrap ((ix a1_s.snd x3).snd.snd.length : Int) :: ([] : List Int)) ++ (ix a1_s.snd x3).snd.snd.flatten) (x3 + (1 : Int)) < x1 x2 x3))))) ∧ (x2.length + (9 : Nat) * (IntKind.u64.wrap (ix a1_s.snd x3).fst :: ([] : List Int)).length ≤ (140737488355328 : Nat) ∧ (Ty.byte.kd.sl.wf (x2 ++ qag (IntKind.u64.wrap (ix a1_s.snd x3).fst :: ([] : List Int))) → (x2 ++ qag (IntKind.u64.wrap (ix a1_s.snd x3).fst :: ([] : List Int))).length + qaj ((ix a1_s.snd x3).snd.fst.fst :: (ix a1_s.snd x3).snd.fst.snd :: ([] : List (List UInt8))) ≤ (140737488355328 : Nat) ∧ (Ty.byte.kd.sl.wf (x2 ++ qag (IntKind.u64.wrap (ix a1_s.snd x3).fst :: ([] : List Int)) ++ qal ((ix a1_s.snd x3).snd.fst.fst :: (ix a1_s.snd x3).snd.fst.snd :: ([] : List (List UInt8)))) → (x2 ++ qag (IntKind.u64.wrap (ix a1_s.snd x3).fst :: ([] : List Int)) ++ qal ((ix a1_s.snd x3).snd.fst.fst :: (ix a1_s.snd x3).snd.fst.snd :: ([] : List (List UInt8)))).length + (9 : Nat) * (IntKind.u64.wrap ((ix a1_s.snd x3).snd.snd.length : Int) :: ([] : List Int)).length ≤ (140737488355328 : Nat) ∧ (Ty.byte.kd.sl.wf (x2 ++ qag (IntKind.u64.wrap (ix a1_s.snd x3).fst :: ([] : List Int)) ++ qal ((ix a1_s.snd x3).snd.fst.fst :: (ix a1_s.snd x3).snd.fst.snd :: ([] : List (List UInt8))) ++ qag (IntKind.u64.wrap ((ix a1_s.snd x3).snd.snd.length : Int) :: ([] : List Int))) → ((x2 ++ qag (IntKind.u64.wrap (ix a1_s.snd x3).fst :: ([] : List Int)) ++ qal ((ix a1_s.snd x3).snd.fst.fst :: (ix a1_s.snd x3).snd.fst.snd :: ([] : List (List UInt8))) ++ qag (IntKind.u64.wrap ((ix a1_s.snd x3).snd.snd.length : Int) :: ([] : List Int))).length + (ix a1_s.snd x3).snd.snd.flatten.length ≤ (140737488355328 : Nat) ∧ ∀ (x11 : List UInt8), x11 ∈ (ix a1_s.snd x3).snd.snd → x11.length = (32 : Nat)) ∧ (Ty.byte.kd.sl.wf (x2 ++ qag (IntKind.u64.wrap (ix a1_s.snd x3).fst :: ([] : List Int)) ++ qal ((ix a1_s.snd x3).snd.fst.fst :: (ix a1_s.snd x3).snd.fst.snd :: ([] : List (List UInt8))) ++ qag (IntKind.u64.wrap ((ix a1_s.snd x3).snd.snd.length : Int) :: ([] : List Int)) ++ (ix a1_s.snd x3).snd.snd.flatten) → x3 < (9223372036854775807 : Int) ∧ x0 (x2 ++ qag (IntKind.u64.wrap (ix a1_s.snd x3).fst :: ([] : List Int)) ++ qal ((ix a1_s.snd x3).snd.fst.fst :: (ix a1_s.snd x3).snd.fst.snd :: ([] : List (List UInt8))) ++ qag (IntKind.u64.wrap ((ix a1_s.snd x3).snd.snd.length : Int) :: ([] : List Int)) ++ (ix a1_s.snd x3).snd.snd.flatten) (x3 + (1 : Int)) ∧ x1 (x2 ++ qag (IntKind.u64.wrap (ix a1_s.snd x3).fst :: ([] : List Int)) ++ qal ((ix a1_s.snd x3).snd.fst.fst :: (ix a1_s.snd x3).snd.fst.snd :: ([] : List (List UInt8))) ++ qag (IntKind.u64.wrap ((ix a1_s.snd x3).snd.snd.length : Int) :: ([] : List Int)) ++ (ix a1_s.snd x3).snd.snd.flatten) (x3 + (1 : Int)) < x1 x2 x3))))) ∧ True) ∧ (x2.length + (9 : Nat) * (IntKind.u64.wrap (ix a1_s.snd x3).fst :: ([] : List Int)).length ≤ (140737488355328 : Nat) ∧ (Ty.byte.kd.sl.wf (x2 ++ qag (IntKind.u64.wrap (ix a1_s.snd x3).fst :: ([] : List Int))) → (x2 ++ qag (IntKind.u64.wrap (ix a1_s.snd x3).fst :: ([] : List Int))).length + qaj ((ix a1_s.snd x3).snd.fst.fst :: (ix a1_s.snd x3).snd.fst.snd :: ([] : List (List UInt8))) ≤ (140737488355328 : Nat) ∧ (Ty.byte.kd.sl.wf (x2 ++ qag (IntKind.u64.wrap (ix a1_s.snd x3).fst :: ([] : List Int)) ++ qal ((ix a1_s.snd x3).snd.fst.fst :: (ix a1_s.snd x3).snd.fst.snd :: ([] : List (List UInt8)))) → (x2 ++ qag (IntKind.u64.wrap (ix a1_s.snd x3).fst :: ([] : List Int)) ++ qal ((ix a1_s.snd x3).snd.fst.fst :: (ix a1_s.snd x3).snd.fst.snd :: ([] : List (List UInt8)))).length + (9 : Nat) * (IntKind.u64.wrap ((ix a1_s.snd x3).snd.snd.length : Int) :: ([] : List Int)).length ≤ (140737488355328 : Nat) ∧ (Ty.byte.kd.sl.wf (x2 ++ qag (IntKind.u64.wrap (ix a1_s.snd x3).fst :: ([] : List Int)) ++ qal ((ix a1_s.snd x3).snd.fst.fst :: (ix a1_s.snd x3).snd.fst.snd :: ([] : List (List UInt8))) ++ qag (IntKind.u64.wrap ((ix a1_s.snd x3).snd.snd.length : Int) :: ([] : List Int))) → ((x2 ++ qag (IntKind.u64.wrap (ix a1_s.snd x3).fst :: ([] : List Int)) ++ qal ((ix a1_s.snd x3).snd.fst.fst :: (ix a1_s.snd x3).snd.fst.snd :: ([] : List (List UInt8))) ++ qag (IntKind.u64.wrap ((ix a1_s.snd x3).snd.snd.length : Int) :: ([] : List Int))).length + (ix a1_s.snd x3).snd.snd.flatten.length ≤ (140737488355328 : Nat) ∧ ∀ (x11 : List UInt8), x11 ∈ (ix a1_s.snd x3).snd.snd → x11.length = (32 : Nat)) ∧ (Ty.byte.kd.sl.wf (x2 ++ qag (IntKind.u64.wrap (ix a1_s.snd x3).fst :: ([] : List Int)) ++ qal ((ix a1_s.snd x3).snd.fst.fst :: (ix a1_s.snd x3).snd.fst.snd :: ([] : List (List UInt8))) ++ qag (IntKind.u64.wrap ((ix a1_s.snd x3).snd.snd.length : Int) :: ([] : List Int)) ++ (ix a1_s.snd x3).snd.snd.flatten) → x3 < (9223372036854775807 : Int) ∧ x0 (x2 ++ qag (IntKind.u64.wrap (ix a1_s.snd x3).fst :: ([] : List Int)) ++ qal ((ix a1_s.snd x3).snd.fst.fst :: (ix a1_s.snd x3).snd.fst.snd :: ([] : List (List UInt8))) ++ qag (IntKind.u64.wrap ((ix a1_s.snd x3).snd.snd.length : Int) :: ([] : List Int)) ++ (ix a1_s.snd x3).snd.snd.flatten) (x3 + (1 : Int)) ∧ x1 (x2 ++ qag (IntKind.u64.wrap (ix a1_s.snd x3).fst :: ([] : List Int)) ++ qal ((ix a1_s.snd x3).snd.fst.fst :: (ix a1_s.snd x3).snd.fst.snd :: ([] : List (List UInt8))) ++ qag (IntKind.u64.wrap ((ix a1_s.snd x3).snd.snd.length : Int) :: ([] : List Int)) ++ (ix a1_s.snd x3).snd.snd.flatten) (x3 + (1 : Int)) < x1 x2 x3))))) ∧ True) ∧ (¬x3 < (a1_s.snd.length : Int) → Q x2))
theorem qph {a0_b : List UInt8} {a1_s : Int × List (Int × ((List UInt8) × List UInt8) × List (List UInt8))} (w_0 : (Ty.kd (.sl .byte)).wf a0_b) (w_1 : (Ty.kd (.pr (.int .i64) (.sl (.pr (.int .i64) (.pr (.pr (.sl .byte) (.sl .byte)) (.sl (.arr 32 .byte))))))).wf a1_s) (hp : a0_b.length ≤ 1099511627776 ∧ a1_s.2.length ≤ 65536 ∧ (∀ x ∈ a1_s.2, x.2.1.1.length + x.2.1.2.length ≤ 16777216 ∧ x.2.2.length ≤ 65536)) : qg7 a0_b a1_s (fun o0 => o0 = (a0_b ++ qaN a1_s)) := by
 obtain ⟨hb, hn, hs⟩ := hp
 have hw := w_1.2.2
 unfold qg7
 have sp : ∀ x ∈ a1_s.2, (spB x).length ≤ 20000000 := fun x hx => by
  obtain ⟨h1, h2⟩ := hs x hx
  have h32 : ∀ z ∈ x.2.2, z.length = 32 := fun z hz => ((hw x hx).2.2.2 z hz).1
  have l1 := qa1 x.1
  have l2 := qb4 h1
  have l3 := qa1 (x.2.2.length : Int)
  have l4 := qci h32
  unfold spB
  simp only [List.length_append]
  omega
 have fl : ∀ l : List Sp, (∀ x ∈ l, (spB x).length ≤ 20000000) → (l.flatMap spB).length ≤ 20000000 * l.length := fun l => by
  induction l with
  | nil => intro _; simp
  | cons x l ih =>
    intro h
    rw [List.flatMap_cons, List.length_append, List.length_cons]
    have := h x (by simp)
    have := ih fun z hz => h z (by simp [hz])
    omega
 have hd : (qag [u64I a1_s.1, u64I a1_s.2.length]).length ≤ 18 := by
  have l1 := qeK a1_s.1
  have l2 := qeK (a1_s.2.length : Int)
  have n1 := qaA (n := (u64I a1_s.1).toNat) (by omega)
  have n2 := qaA (n := (u64I (a1_s.2.length : Int)).toNat) (by omega)
  rw [num2, List.length_append]
  omega
 refine ⟨by simp; omega, fun _ => ⟨fun o i => ∃ j : Nat, i = (j : Int) ∧ j ≤ a1_s.2.length ∧ o = a0_b ++ (qag [u64I a1_s.1, u64I a1_s.2.length] ++ (a1_s.2.take j).flatMap spB), fun _ i => ((a1_s.2.length : Int) - i).toNat, ⟨0, rfl, Nat.zero_le _, by simp [u64I]⟩, ?_⟩⟩
 rintro _ _ ⟨j, rfl, hj, rfl⟩ _ _
 have tl : ((a1_s.2.take j).flatMap spB).length ≤ 20000000 * 65536 := by
  have := fl (a1_s.2.take j) fun x hx => sp x (List.mem_of_mem_take hx)
  have h3 : (a1_s.2.take j).length ≤ 65536 := by rw [List.length_take]; omega
  omega
 refine ⟨fun hlt => ?_, fun hge => ?_⟩
 ·have hj' : j < a1_s.2.length := by omega
  have eix : ix a1_s.2 (j : Int) = a1_s.2[j] := ixN hj'
  have hm := List.getElem_mem hj'
  obtain ⟨h1, h2⟩ := hs _ hm
  have h32 : ∀ z ∈ a1_s.2[j].2.2, z.length = 32 := fun z hz => ((hw _ hm).2.2.2 z hz).1
  have l1 := qa1 a1_s.2[j].1
  have l2 := qb4 h1
  have l3 := qa1 (a1_s.2[j].2.2.length : Int)
  have l4 := qci h32
  have eo : (a1_s.2.take (j + 1)).flatMap spB = (a1_s.2.take j).flatMap spB ++ spB a1_s.2[j] := by
   rw [List.take_add_one, List.getElem?_eq_getElem hj', List.flatMap_append]
   simp
  have hr : qaj [a1_s.2[j].2.1.1, a1_s.2[j].2.1.2] = a1_s.2[j].2.1.1.length + a1_s.2[j].2.1.2.length + 18 := by
   show (a1_s.2[j].2.1.1.length + 9) + ((a1_s.2[j].2.1.2.length + 9) + 0) = _
   omega
  simp only [eix]
  have u : ∀ a : Int, IntKind.u64.wrap a = u64I a := fun _ => rfl
  simp only [u, hr]
  have b : (0 : Int) ≤ (j : Int) ∧ (j : Int) < (a1_s.2.length : Int) := ⟨by omega, hlt⟩
  have last : (j : Int) < 9223372036854775807 ∧ (∃ i : Nat, (j : Int) + 1 = (i : Int) ∧ i ≤ a1_s.2.length ∧ a0_b ++ (qag [u64I a1_s.1, u64I a1_s.2.length] ++ (a1_s.2.take j).flatMap spB) ++ qag [u64I a1_s.2[j].1] ++ qal [a1_s.2[j].2.1.1, a1_s.2[j].2.1.2] ++ qag [u64I (a1_s.2[j].2.2.length : Int)] ++ a1_s.2[j].2.2.flatten = a0_b ++ (qag [u64I a1_s.1, u64I a1_s.2.length] ++ (a1_s.2.take i).flatMap spB)) ∧ ((a1_s.2.length : Int) - ((j : Int) + 1)).toNat < ((a1_s.2.length : Int) - (j : Int)).toNat := by
   refine ⟨by omega, ⟨j + 1, rfl, hj', ?_⟩, by omega⟩
   rw [eo]
   unfold spB
   simp only [List.append_assoc]
  repeat' (first | (with_reducible exact b) | (with_reducible exact trivial) | (with_reducible exact last) | (with_reducible exact h32) | (intro _) | (with_reducible apply And.intro) | (simp only [List.length_append, List.length_cons, List.length_nil]; omega))
 ·obtain rfl : j = a1_s.2.length := by omega
  show a0_b ++ (qag [u64I a1_s.1, u64I a1_s.2.length] ++ (a1_s.2.take a1_s.2.length).flatMap spB) = a0_b ++ qaN a1_s
  rw [List.take_length]
  rfl
theorem qpg : (∀ a, qdu.pre a → PM.wfP qdu.pm a (fvc qmk 200 45 qdu a (eqO qdu a))) = (∀ a : (List UInt8) × (Int × List (Int × ((List UInt8) × List UInt8) × List (List UInt8))) × Unit, ((a.1).length ≤ 1099511627776 ∧ (a.2.1).2.length ≤ 65536 ∧ (∀ x ∈ (a.2.1).2, x.2.1.1.length + x.2.1.2.length ≤ 16777216 ∧ x.2.2.length ≤ 65536)) → (Ty.kd (.sl .byte)).wf a.1 → (Ty.kd (.pr (.int .i64) (.sl (.pr (.int .i64) (.pr (.pr (.sl .byte) (.sl .byte)) (.sl (.arr 32 .byte))))))).wf a.2.1 → qg7 a.1 a.2.1 (fun o0 => o0 = ((a.1) ++ qaN (a.2.1)))) := by kernel_rfl
theorem qml : qdu.valid Try.prog 45 := qat (X := qmk) (qaK qam (fun b hb => by cases hb; exact qar) qas ⟨qty, qsw, qtz, trivial⟩) 200 (qpg.mpr fun a hp w_0 w_1 => @qph a.1 a.2.1 w_0 w_1 hp)
end Go.Proofs.Ytmjjkpiglbpkhaa

set_option linter.unusedVariables false
set_option maxRecDepth 100000
set_option maxHeartbeats 20000000
namespace Go.Proofs.Ytmjjkpiglbpkhaa
open Go Go.RowKit Go.Inc
noncomputable def qeB : Ctr := ⟨[.bx (.st (.pr (.sl .byte) .bool)) true], [.v (.pr (.int .i64) (.sl (.pr (.int .i64) (.pr (.pr (.sl .byte) (.sl .byte)) (.sl (.arr 32 .byte))))))], some (fun a => (fun (a0_c : (List UInt8) × Bool) => (a0_c.1.length ≤ 140737488355328 : Prop)) a.1), fun a => (fun (a0_c : (List UInt8) × Bool) => (((qaG a0_c).1, ()), ((qaG a0_c).2, ()))) a.1⟩
noncomputable def qpk : Fx := ⟨{ seat with rws := [3000003, 4000008, 3000004, 4000016] }, some bkT, fns, [(70, qhR), (97, qfy), (71, qhS), (26, qf8)], [], [(3, [0, 3], []), (7, [0, 7], [])], [(8, [0, 7, 8, 9, 10, 11], [.o 0 3, .o 2 3, .par [1, 3, 4] (.alt 1 1 (.one 3 1 (.one 4 1 .fin)) (.alt 3 1 (.alt 1 1 (.one 4 1 .fin) (.alt 4 1 (.one 1 1 .fin) .fin)) .fin)), .o 5 1, .o 6 3, .o 7 1])]⟩
def qiY (a0_c : (List UInt8) × Bool) (Q : (Int × List (Int × ((List UInt8) × List UInt8) × List (List UInt8))) → ((List UInt8) × Bool) → Prop) : Prop :=
 (Ty.int IntKind.u64).kd.wf ((numC (Int.toNat (2147483647 : Int)) a0_c).fst : Int) → (Ty.int IntKind.u64).kd.wf ((numC (Int.toNat (2 : Int)) (numC (Int.toNat (2147483647 : Int)) a0_c).snd).fst : Int) → ∃ (x0 : Int → List UInt8 × Bool → List (Int × (List UInt8 × List UInt8) × List (List UInt8)) → Int × Unit → Prop), ∃ (x1 : Int → List UInt8 × Bool → List (Int × (List UInt8 × List UInt8) × List (List UInt8)) → Int × Unit → Nat), x0 (0 : Int) (numC (Int.toNat (2 : Int)) (numC (Int.toNat (2147483647 : Int)) a0_c).snd).snd ([] : List (Int × (List UInt8 × List UInt8) × List (List UInt8))) (IntKind.i64.wrap ((numC (Int.toNat (2147483647 : Int)) a0_c).fst : Int), ()) ∧ ∀ (x2 : Int) (x3 : List UInt8 × Bool) (x4 : List (Int × (List UInt8 × List UInt8) × List (List UInt8))) (x5 : Int × Unit), x0 x2 x3 x4 x5 → (Kd.int IntKind.u64).wf x2 → (Ty.byte.sl.pr Ty.bool).st.kd.wf x3 → ((Ty.int IntKind.i64).pr ((Ty.byte.sl.pr Ty.byte.sl).pr (Ty.arr (32 : Nat) Ty.byte).sl)).kd.sl.wf x4 → (x2 < ((numC (Int.toNat (2 : Int)) (numC (Int.toNat (2147483647 : Int)) a0_c).snd).fst : Int) → (Ty.int IntKind.u64).kd.wf ((numC (Int.toNat (2147483647 : Int)) x3).fst : Int) → ((0 : Int) ≤ (256 : Int) ∧ (numC (Int.toNat (2147483647 : Int)) x3).snd.fst.length ≤ (140737488355328 : Nat)) ∧ (Ty.byte.kd.sl.wf (qaH (Int.toNat (256 : Int)) (numC (Int.toNat (2147483647 : Int)) x3).snd).fst → ((0 : Int) ≤ (1048576 : Int) ∧ (qaH (Int.toNat (256 : Int)) (numC (Int.toNat (2147483647 : Int)) x3).snd).snd.fst.length ≤ (140737488355328 : Nat)) ∧ (Ty.byte.kd.sl.wf (qaH (Int.toNat (1048576 : Int)) (qaH (Int.toNat (256 : Int)) (numC (Int.toNat (2147483647 : Int)) x3).snd).snd).fst → (Ty.int IntKind.u64).kd.wf ((numC (Int.toNat (32 : Int)) (qaH (Int.toNat (1048576 : Int)) (qaH (Int.toNat (256 : Int)) (numC (Int.toNat (2147483647 : Int)) x3).snd).snd).snd).fst : Int) → ∃ (x15 : Int → List UInt8 × Bool → List (List UInt8) → Int × (List UInt8 × List UInt8) × Unit → Prop), ∃ (x16 : Int → List UInt8 × Bool → List (List UInt8) → Int × (List UInt8 × List UInt8) × Unit → Nat), x15 (0 : Int) (numC (Int.toNat (32 : Int)) (qaH (Int.toNat (1048576 : Int)) (qaH (Int.toNat (256 : Int)) (numC (Int.toNat (2147483647 : Int)) x3).snd).snd).snd).snd ([] : List (List UInt8)) (IntKind.i64.wrap ((numC (Int.toNat (2147483647 : Int)) x3).fst : Int), ((qaH (Int.toNat (256 : Int)) (numC (Int.toNat (2147483647 : Int)) x3).snd).fst, (qaH (Int.toNat (1048576 : Int)) (qaH (Int.toNat (256 : Int)) (numC (Int.toNat (2147483647 : Int)) x3).snd).snd).fst), ()) ∧ ∀ (x17 : Int) (x18 : List UInt8 × Bool) (x19 : List (List UInt8)) (x20 : Int × (List UInt8 × List UInt8) × Unit), x15 x17 x18 x19 x20 → (Kd.int IntKind.u64).wf x17 → (Ty.byte.sl.pr Ty.bool).st.kd.wf x18 → (Ty.arr (32 : Nat) Ty.byte).kd.sl.wf x19 → (x17 < ((numC (Int.toNat (32 : Int)) (qaH (Int.toNat (1048576 : Int)) (qaH (Int.toNat (256 : Int)) (numC (Int.toNat (2147483647 : Int)) x3).snd).snd).snd).fst : Int) → ((Ty.arr (32 : Nat) Ty.byte).kd.wf (sumC x18).fst → (x19.length + ((sumC x18).fst :: ([] : List (List UInt8))).length) * (32 : Nat) ≤ (140737488355328 : Nat) ∧ x15 (IntKind.u64.wrap (x17 + (1 : Int))) (sumC x18).snd (x19 ++ (sumC x18).fst :: ([] : List (List UInt8))) (x20.fst, x20.snd.fst, x20.snd.snd) ∧ x16 (IntKind.u64.wrap (x17 + (1 : Int))) (sumC x18).snd (x19 ++ (sumC x18).fst :: ([] : List (List UInt8))) (x20.fst, x20.snd.fst, x20.snd.snd) < x16 x17 x18 x19 x20) ∧ ((Ty.arr (32 : Nat) Ty.byte).kd.wf (sumC x18).fst → ((x19.length + ((sumC x18).fst :: ([] : List (List UInt8))).length) * (32 : Nat) ≤ (140737488355328 : Nat) ∧ x15 (IntKind.u64.wrap (x17 + (1 : Int))) (sumC x18).snd (x19 ++ (sumC x18).fst :: ([] : List (List UInt8))) (x20.fst, x20.snd.fst, x20.snd.snd) ∧ x16 (IntKind.u64.wrap (x17 + (1 : Int))) (sumC x18).snd (x19 ++ (sumC x18).fst :: ([] : List (List UInt8))) (x20.fst, x20.snd.fst, x20.snd.snd) < x16 x17 x18 x19 x20) ∧ ((x19.length + ((sumC x18).fst :: ([] : List (List UInt8))).length) * (32 : Nat) ≤ (140737488355328 : Nat) ∧ x15 (IntKind.u64.wrap (x17 + (1 : Int))) (sumC x18).snd (x19 ++ (sumC x18).fst :: ([] : List (List UInt8))) (x20.fst, x20.snd.fst, x20.snd.snd) ∧ x16 (IntKind.u64.wrap (x17 + (1 : Int))) (sumC x18).snd (x19 ++ (sumC x18).fst :: ([] : List (List UInt8))) (x20.fst, x20.snd.fst, x20.snd.snd) < x16 x17 x18 x19 x20) ∧ True) ∧ True) ∧ (¬x17 < ((numC (Int.toNat (32 : Int)) (qaH (Int.toNat (1048576 : Int)) (qaH (Int.toNat (256 : Int)) (numC (Int.toNat (2147483647 : Int)) x3).snd).snd).snd).fst : Int) → (x4.length + ((x20.fst, (x20.snd.fst.fst, x20.snd.fst.snd), x19) :: ([] : List (Int × (List UInt8 × List UInt8) × List (List UInt8)))).length) * (80 : Nat) ≤ (140737488355328 : Nat) ∧ x0 (IntKind.u64.wrap (x2 + (1 : Int))) x18 (x4 ++ (x20.fst, (x20.snd.fst.fst, x20.snd.fst.snd), x19) :: ([] : List (Int × (List UInt8 × List UInt8) × List (List UInt8)))) (x5.fst, x5.snd) ∧ x1 (IntKind.u64.wrap (x2 + (1 : Int))) x18 (x4 ++ (x20.fst, (x20.snd.fst.fst, x20.snd.fst.snd), x19) :: ([] : List (Int × (List UInt8 × List UInt8) × List (List UInt8)))) (x5.fst, x5.snd) < x1 x2 x3 x4 x5)))) ∧ (¬x2 < ((numC (Int.toNat (2 : Int)) (numC (Int.toNat (2147483647 : Int)) a0_c).snd).fst : Int) → (Ty.int IntKind.i64).kd.wf (if x3.snd = true then (2 : Int) else (0 : Int)) → ((if x3.snd = true then (2 : Int) else (0 : Int)) ≠ (0 : Int) → Q ((Ty.int IntKind.i64).pr ((Ty.int IntKind.i64).pr ((Ty.byte.sl.pr Ty.byte.sl).pr (Ty.arr (32 : Nat) Ty.byte).sl)).sl).kd.z x3) ∧ (¬(if x3.snd = true then (2 : Int) else (0 : Int)) ≠ (0 : Int) → Q (x5.fst, x4) x3))
theorem qrM {a0_c : (List UInt8) × Bool} (w_0 : (Ty.kd (.st (.pr (.sl .byte) .bool))).wf a0_c) (hp : a0_c.1.length ≤ 140737488355328) : qiY a0_c (fun o0 o1 => o0 = (qaG a0_c).1 ∧ o1 = (qaG a0_c).2) := by
 have hB : a0_c.1.length ≤ 140737488355328 := hp
 have z1 : Int.toNat (2147483647 : Int) = 2147483647 := rfl
 have z2 : Int.toNat (2 : Int) = 2 := rfl
 have z3 : Int.toNat (256 : Int) = 256 := rfl
 have z4 : Int.toNat (1048576 : Int) = 1048576 := rfl
 have z5 : Int.toNat (32 : Int) = 32 := rfl
 unfold qiY
 simp only [z1, z2, z3, z4, z5]
 have hC := qi7 2147483647 a0_c
 have hN := qi7 2 (numC 2147483647 a0_c).2
 have eS := qmG a0_c
 generalize hCd : numC 2147483647 a0_c = C at hC hN eS ⊢
 generalize hNd : numC 2 C.2 = N at hN eS ⊢
 intro _ _
 refine ⟨fun i s l b => ∃ j : Nat, i = (j : Int) ∧ atC qdE N.1 N.2 j l s ∧ b.1 = (C.1 : Int) ∧ s.1.length ≤ 140737488355328, fun i _ _ _ => ((N.1 : Int) - i).toNat, ⟨0, rfl, atC.zero _ _ _, ?_, by omega⟩, ?_⟩
 ·show IntKind.i64.wrap (C.1 : Int) = (C.1 : Int)
  exact qan (wf64 (by omega) (by omega))
 rintro _ s l b ⟨j, rfl, hA, hb, hs⟩ _ _ _
 refine ⟨fun hlt _ => ?_, fun hge _ => ?_⟩
 ·have hj : j < N.1 := by omega
  have hA' := hA.next hj
  have eP := qmL s
  have g1 := qi7 2147483647 s
  have g2 := qlZ 256 (numC 2147483647 s).2
  have g3 := qlZ 1048576 (qaH 256 (numC 2147483647 s).2).2
  have g4 := qi7 32 (qaH 1048576 (qaH 256 (numC 2147483647 s).2).2).2
  generalize numC 2147483647 s = S1 at g1 g2 g3 g4 eP ⊢
  generalize qaH 256 S1.2 = S2 at g2 g3 g4 eP ⊢
  generalize qaH 1048576 S2.2 = S3 at g3 g4 eP ⊢
  generalize numC 32 S3.2 = S4 at g4 eP ⊢
  refine ⟨⟨by omega, by omega⟩, fun _ => ⟨⟨by omega, by omega⟩, fun _ _ => ?_⟩⟩
  have e1 : IntKind.i64.wrap (S1.1 : Int) = (S1.1 : Int) := qan (wf64 (by omega) (by omega))
  rw [e1]
  refine ⟨fun i s l b => ∃ j : Nat, i = (j : Int) ∧ atC sumC S4.1 S4.2 j l s ∧ b = ((S1.1 : Int), ((S2.1, S3.1), ())) ∧ s.1.length ≤ 140737488355328, fun i _ _ _ => ((S4.1 : Int) - i).toNat, ⟨0, rfl, atC.zero _ _ _, rfl, by omega⟩, ?_⟩
  rintro _ s2 l2 b2 ⟨j2, rfl, hA2, rfl, hs2⟩ _ _ _
  refine ⟨fun hlt2 => ?_, fun hge2 => ?_⟩
  ·have hj2 : j2 < S4.1 := by omega
   have hA2' := hA2.next hj2
   have g5 := quW s2
   have ew : IntKind.u64.wrap ((j2 : Int) + 1) = ((j2 + 1 : Nat) : Int) := by rw [qan ⟨by show (0 : Int) ≤ _; omega, by show (j2 : Int) + 1 ≤ 18446744073709551615; omega⟩]; omega
   have go : (l2.length + [(sumC s2).1].length) * 32 ≤ 140737488355328 ∧ (∃ i : Nat, IntKind.u64.wrap ((j2 : Int) + 1) = (i : Int) ∧ atC sumC S4.1 S4.2 i (l2 ++ [(sumC s2).1]) (sumC s2).2 ∧ ((S1.1 : Int), ((S2.1, S3.1), ())) = ((S1.1 : Int), ((S2.1, S3.1), ())) ∧ (sumC s2).2.1.length ≤ 140737488355328) ∧ ((S4.1 : Int) - IntKind.u64.wrap ((j2 : Int) + 1)).toNat < ((S4.1 : Int) - (j2 : Int)).toNat := by
    refine ⟨?_, ⟨j2 + 1, ew, hA2', rfl, by omega⟩, by rw [ew]; omega⟩
    rw [hA2.1]
    show (j2 + 1) * 32 ≤ _
    omega
   repeat' (first | exact go | exact fun _ => go | exact trivial | exact go.1 | exact go.2.1 | exact go.2.2 | (with_reducible apply And.intro) | (intro _))
  ·obtain rfl : j2 = S4.1 := by have := hA2.2.1; omega
   have e2 := hA2.end
   rw [e2] at eP
   have ew : IntKind.u64.wrap ((j : Int) + 1) = ((j + 1 : Nat) : Int) := by rw [qan ⟨by show (0 : Int) ≤ _; omega, by show (j : Int) + 1 ≤ 18446744073709551615; omega⟩]; omega
   rw [eP] at hA'
   refine ⟨?_, ⟨j + 1, ew, hA', hb, hs2⟩, by rw [ew]; dsimp only; omega⟩
   rw [hA.1]
   show (j + 1) * 80 ≤ _
   omega
 ·obtain rfl : j = N.1 := by have := hA.2.1; omega
  have e2 := hA.end
  rw [e2] at eS
  have hr2 : (qaG a0_c).2 = s := by show (qdI a0_c).2 = s; rw [eS]
  refine ⟨fun h => ?_, fun h => ?_⟩
  ·have hsb : s.2 = true := by
    cases hc : s.2 with
    | true => rfl
    | false => rw [hc] at h; exact absurd rfl h
   rw [qhj (by rw [hr2]; exact hsb), hr2]
   exact ⟨rfl, rfl⟩
  ·have hsb : s.2 = false := by
    cases hc : s.2 with
    | false => rfl
    | true => rw [hc] at h; exact absurd (by decide) h
   rw [qjd (by rw [hr2]; exact hsb), hr2, eS]
   exact ⟨by rw [hb], rfl⟩
theorem qrL : (∀ a, qeB.pre a → PM.wfP qeB.pm a (fvc qpk 200 47 qeB a (eqO qeB a))) = (∀ a : ((List UInt8) × Bool) × Unit, ((a.1).1.length ≤ 140737488355328) → (Ty.kd (.st (.pr (.sl .byte) .bool))).wf a.1 → qiY a.1 (fun o0 o1 => o0 = (qaG (a.1)).1 ∧ o1 = (qaG (a.1)).2)) := by kernel_rfl
theorem qpl : qeB.valid Try.prog 47 := qat (X := qpk) (qaK (qam.rows [3000003, 4000008, 3000004, 4000016]) (fun b hb => by cases hb; exact qar) qas ⟨qwm, qt7, qwn, qoC, trivial⟩) 200 (qrL.mpr fun a hp w_0 => @qrM a.1 w_0 hp)
end Go.Proofs.Ytmjjkpiglbpkhaa

set_option linter.unusedVariables false
set_option maxRecDepth 100000
set_option maxHeartbeats 20000000
namespace Go.Proofs.Ytmjjkpiglbpkhaa
open Go Go.RowKit Go.Inc
noncomputable def qfo : Ctr := ⟨[.v (.sl (.arr 32 .byte)), .v (.sl (.arr 32 .byte))], [.v .bool], none, fun a => (fun (a0_a : List (List UInt8)) (a1_b : List (List UInt8)) => ((decide (a0_a = a1_b), ()), (()))) a.1 a.2.1⟩
noncomputable def qn7 : Fx := ⟨seat, some bkT, fns, [], [], [], [(6, [], [.o 0 2, .o 1 2, .o 2 2, .o 3 2, .o 4 2, .o 5 2, .o 6 2, .o 7 2, .o 8 2])]⟩
def qit (a0_a : List (List UInt8)) (a1_b : List (List UInt8)) (Q : Bool → Prop) : Prop :=
 ((a0_a.length : Int) ≠ (a1_b.length : Int) → Q false) ∧ (¬(a0_a.length : Int) ≠ (a1_b.length : Int) → ∃ (x0 : Bool → Int → Prop), ∃ (x1 : Bool → Int → Nat), x0 false (0 : Int) ∧ ∀ (x2 : Bool) (x3 : Int), x0 x2 x3 → (Kd.int IntKind.i64).wf x3 → (x3 < (a0_a.length : Int) → ((0 : Int) ≤ x3 ∧ x3 < (a0_a.length : Int)) ∧ ((0 : Int) ≤ x3 ∧ x3 < (a1_b.length : Int)) ∧ (ix a0_a x3 ≠ ix a1_b x3 → Q false) ∧ (¬ix a0_a x3 ≠ ix a1_b x3 → x3 < (9223372036854775807 : Int) ∧ x0 x2 (x3 + (1 : Int)) ∧ x1 x2 (x3 + (1 : Int)) < x1 x2 x3)) ∧ (¬x3 < (a0_a.length : Int) → Q true))
theorem qqR {a0_a : List (List UInt8)} {a1_b : List (List UInt8)} (w_0 : (Ty.kd (.sl (.arr 32 .byte))).wf a0_a) (w_1 : (Ty.kd (.sl (.arr 32 .byte))).wf a1_b) : qit a0_a a1_b (fun o0 => o0 = decide (a0_a = a1_b)) := by
 unfold qit
 refine ⟨fun h => ?_, fun h => ?_⟩
 ·show false = decide (a0_a = a1_b)
  rw [decide_eq_false (fun e => h (by rw [e]))]
 ·have hl : a0_a.length = a1_b.length := by omega
  have hL : a0_a.length ≤ 281474976710656 := w_0.1
  refine ⟨fun _ i => ∃ j : Nat, i = (j : Int) ∧ j ≤ a0_a.length ∧ a0_a.take j = a1_b.take j, fun _ i => a0_a.length - i.toNat, ⟨0, rfl, by omega, rfl⟩, ?_⟩
  rintro r i ⟨j, rfl, hj, ht⟩ _
  refine ⟨fun hlt => ⟨⟨by omega, hlt⟩, ⟨by omega, by omega⟩, fun hne => ?_, fun he => ⟨by omega, ⟨j + 1, by omega, by omega, qpU (by omega) (by omega) ht (Classical.not_not.1 he)⟩, by show a0_a.length - ((j : Int) + 1).toNat < a0_a.length - (j : Int).toNat; omega⟩⟩, fun hge => ?_⟩
  ·show false = decide (a0_a = a1_b)
   rw [decide_eq_false (fun e => hne (by rw [e]))]
  ·have e : a0_a = a1_b := by
    rw [List.take_of_length_le (by omega), List.take_of_length_le (by omega)] at ht
    exact ht
   show true = decide (a0_a = a1_b)
   rw [decide_eq_true e]
theorem qqQ : (∀ a, qfo.pre a → PM.wfP qfo.pm a (fvc qn7 200 91 qfo a (eqO qfo a))) = (∀ a : (List (List UInt8)) × (List (List UInt8)) × Unit, True → (Ty.kd (.sl (.arr 32 .byte))).wf a.1 → (Ty.kd (.sl (.arr 32 .byte))).wf a.2.1 → qit a.1 a.2.1 (fun o0 => o0 = decide ((a.1) = (a.2.1)))) := by kernel_rfl
theorem qtG : qfo.valid Try.prog 91 := qat (X := qn7) (qaK qam (fun b hb => by cases hb; exact qar) qas trivial) 200 (qqQ.mpr fun a hp w_0 w_1 => @qqR a.1 a.2.1 w_0 w_1)
def qai (a0_a : Int × List (Int × ((List UInt8) × List UInt8) × List (List UInt8))) (a1_b : Int × List (Int × ((List UInt8) × List UInt8) × List (List UInt8))) (Q : Bool → Prop) (x0 : Bool → Int → Prop) (x1 : Bool → Int → Nat) (x2 : Bool) (x3 : Int) : Prop :=
 (¬(ix a0_a.snd x3).fst ≠ (ix a1_b.snd x3).fst → ((ix a0_a.snd x3).snd.fst.fst ≠ (ix a1_b.snd x3).snd.fst.fst → Q false) ∧ (¬(ix a0_a.snd x3).snd.fst.fst ≠ (ix a1_b.snd x3).snd.fst.fst → ((ix a0_a.snd x3).snd.fst.snd ≠ (ix a1_b.snd x3).snd.fst.snd → Q false) ∧ (¬(ix a0_a.snd x3).snd.fst.snd ≠ (ix a1_b.snd x3).snd.fst.snd → (¬decide ((ix a0_a.snd x3).snd.snd = (ix a1_b.snd x3).snd.snd) = true → Q false) ∧ (decide ((ix a0_a.snd x3).snd.snd = (ix a1_b.snd x3).snd.snd) = true → x3 < (9223372036854775807 : Int) ∧ x0 x2 (x3 + (1 : Int)) ∧ x1 x2 (x3 + (1 : Int)) < x1 x2 x3))))
def qcX (a0_a : Int × List (Int × ((List UInt8) × List UInt8) × List (List UInt8))) (a1_b : Int × List (Int × ((List UInt8) × List UInt8) × List (List UInt8))) (Q : Bool → Prop) (x0 : Bool → Int → Prop) (x1 : Bool → Int → Nat) (x2 : Bool) (x3 : Int) : Prop :=
 ((((0 : Int) ≤ x3 ∧ x3 < (a1_b.snd.length : Int)) ∧ (((ix a0_a.snd x3).fst ≠ (ix a1_b.snd x3).fst → Q false) ∧ (qai a0_a a1_b Q x0 x1 x2 x3)) ∧ (((ix a0_a.snd x3).fst ≠ (ix a1_b.snd x3).fst → Q false) ∧ (qai a0_a a1_b Q x0 x1 x2 x3)) ∧ True) ∧ (((0 : Int) ≤ x3 ∧ x3 < (a1_b.snd.length : Int)) ∧ ((ix a0_a.snd x3).fst ≠ (ix a1_b.snd x3).fst → Q false) ∧ (qai a0_a a1_b Q x0 x1 x2 x3)) ∧ True)
def qcY (a0_a : Int × List (Int × ((List UInt8) × List UInt8) × List (List UInt8))) (a1_b : Int × List (Int × ((List UInt8) × List UInt8) × List (List UInt8))) (Q : Bool → Prop) (x0 : Bool → Int → Prop) (x1 : Bool → Int → Nat) (x2 : Bool) (x3 : Int) : Prop :=
 ((((0 : Int) ≤ x3 ∧ x3 < (a0_a.snd.length : Int)) ∧ (((ix a0_a.snd x3).fst ≠ (ix a1_b.snd x3).fst → Q false) ∧ (qai a0_a a1_b Q x0 x1 x2 x3)) ∧ (((ix a0_a.snd x3).fst ≠ (ix a1_b.snd x3).fst → Q false) ∧ (qai a0_a a1_b Q x0 x1 x2 x3)) ∧ True) ∧ (((0 : Int) ≤ x3 ∧ x3 < (a0_a.snd.length : Int)) ∧ ((ix a0_a.snd x3).fst ≠ (ix a1_b.snd x3).fst → Q false) ∧ (qai a0_a a1_b Q x0 x1 x2 x3)) ∧ True)
def qcZ (a0_a : Int × List (Int × ((List UInt8) × List UInt8) × List (List UInt8))) (a1_b : Int × List (Int × ((List UInt8) × List UInt8) × List (List UInt8))) (Q : Bool → Prop) (x0 : Bool → Int → Prop) (x1 : Bool → Int → Nat) (x2 : Bool) (x3 : Int) : Prop :=
 ((((0 : Int) ≤ x3 ∧ x3 < (a1_b.snd.length : Int)) ∧ (((ix a0_a.snd x3).fst ≠ (ix a1_b.snd x3).fst → Q false) ∧ (qai a0_a a1_b Q x0 x1 x2 x3)) ∧ ((((ix a0_a.snd x3).fst ≠ (ix a1_b.snd x3).fst → Q false) ∧ (qai a0_a a1_b Q x0 x1 x2 x3)) ∧ (((ix a0_a.snd x3).fst ≠ (ix a1_b.snd x3).fst → Q false) ∧ (qai a0_a a1_b Q x0 x1 x2 x3)) ∧ True) ∧ True) ∧ (qcX a0_a a1_b Q x0 x1 x2 x3) ∧ True)
def qc0 (a0_a : Int × List (Int × ((List UInt8) × List UInt8) × List (List UInt8))) (a1_b : Int × List (Int × ((List UInt8) × List UInt8) × List (List UInt8))) (Q : Bool → Prop) (x0 : Bool → Int → Prop) (x1 : Bool → Int → Nat) (x2 : Bool) (x3 : Int) : Prop :=
 (((0 : Int) ≤ x3 ∧ x3 < (a1_b.snd.length : Int)) ∧ ((((ix a0_a.snd x3).fst ≠ (ix a1_b.snd x3).fst → Q false) ∧ (qai a0_a a1_b Q x0 x1 x2 x3)) ∧ (((ix a0_a.snd x3).fst ≠ (ix a1_b.snd x3).fst → Q false) ∧ (qai a0_a a1_b Q x0 x1 x2 x3)) ∧ True) ∧ (((ix a0_a.snd x3).fst ≠ (ix a1_b.snd x3).fst → Q false) ∧ (qai a0_a a1_b Q x0 x1 x2 x3)) ∧ True)
def qc1 (a0_a : Int × List (Int × ((List UInt8) × List UInt8) × List (List UInt8))) (a1_b : Int × List (Int × ((List UInt8) × List UInt8) × List (List UInt8))) (Q : Bool → Prop) (x0 : Bool → Int → Prop) (x1 : Bool → Int → Nat) (x2 : Bool) (x3 : Int) : Prop :=
 (((0 : Int) ≤ x3 ∧ x3 < (a0_a.snd.length : Int)) ∧ ((((ix a0_a.snd x3).fst ≠ (ix a1_b.snd x3).fst → Q false) ∧ (qai a0_a a1_b Q x0 x1 x2 x3)) ∧ (((ix a0_a.snd x3).fst ≠ (ix a1_b.snd x3).fst → Q false) ∧ (qai a0_a a1_b Q x0 x1 x2 x3)) ∧ True) ∧ (((ix a0_a.snd x3).fst ≠ (ix a1_b.snd x3).fst → Q false) ∧ (qai a0_a a1_b Q x0 x1 x2 x3)) ∧ True)
def qa3 (a0_a : Int × List (Int × ((List UInt8) × List UInt8) × List (List UInt8))) (a1_b : Int × List (Int × ((List UInt8) × List UInt8) × List (List UInt8))) (Q : Bool → Prop) (x0 : Bool → Int → Prop) (x1 : Bool → Int → Nat) (x2 : Bool) (x3 : Int) : Prop :=
 ((((ix a0_a.snd x3).fst ≠ (ix a1_b.snd x3).fst → Q false) ∧ (qai a0_a a1_b Q x0 x1 x2 x3)) ∧ ((((ix a0_a.snd x3).fst ≠ (ix a1_b.snd x3).fst → Q false) ∧ (qai a0_a a1_b Q x0 x1 x2 x3)) ∧ (((ix a0_a.snd x3).fst ≠ (ix a1_b.snd x3).fst → Q false) ∧ (qai a0_a a1_b Q x0 x1 x2 x3)) ∧ True) ∧ True)
def qb1 (a0_a : Int × List (Int × ((List UInt8) × List UInt8) × List (List UInt8))) (a1_b : Int × List (Int × ((List UInt8) × List UInt8) × List (List UInt8))) (Q : Bool → Prop) (x0 : Bool → Int → Prop) (x1 : Bool → Int → Nat) (x2 : Bool) (x3 : Int) : Prop :=
 (((((ix a0_a.snd x3).fst ≠ (ix a1_b.snd x3).fst → Q false) ∧ (qai a0_a a1_b Q x0 x1 x2 x3)) ∧ (((ix a0_a.snd x3).fst ≠ (ix a1_b.snd x3).fst → Q false) ∧ (qai a0_a a1_b Q x0 x1 x2 x3)) ∧ True) ∧ (((ix a0_a.snd x3).fst ≠ (ix a1_b.snd x3).fst → Q false) ∧ (qai a0_a a1_b Q x0 x1 x2 x3)) ∧ True)
def qd2 (a0_a : Int × List (Int × ((List UInt8) × List UInt8) × List (List UInt8))) (a1_b : Int × List (Int × ((List UInt8) × List UInt8) × List (List UInt8))) (Q : Bool → Prop) (x0 : Bool → Int → Prop) (x1 : Bool → Int → Nat) (x2 : Bool) (x3 : Int) : Prop :=
 (((0 : Int) ≤ x3 ∧ x3 < (a1_b.snd.length : Int)) ∧ (qa3 a0_a a1_b Q x0 x1 x2 x3) ∧ ((((ix a0_a.snd x3).fst ≠ (ix a1_b.snd x3).fst → Q false) ∧ (qai a0_a a1_b Q x0 x1 x2 x3)) ∧ (((ix a0_a.snd x3).fst ≠ (ix a1_b.snd x3).fst → Q false) ∧ (qai a0_a a1_b Q x0 x1 x2 x3)) ∧ True) ∧ (qb1 a0_a a1_b Q x0 x1 x2 x3) ∧ True)
def qd3 (a0_a : Int × List (Int × ((List UInt8) × List UInt8) × List (List UInt8))) (a1_b : Int × List (Int × ((List UInt8) × List UInt8) × List (List UInt8))) (Q : Bool → Prop) (x0 : Bool → Int → Prop) (x1 : Bool → Int → Nat) (x2 : Bool) (x3 : Int) : Prop :=
 (((0 : Int) ≤ x3 ∧ x3 < (a0_a.snd.length : Int)) ∧ (qa3 a0_a a1_b Q x0 x1 x2 x3) ∧ ((((ix a0_a.snd x3).fst ≠ (ix a1_b.snd x3).fst → Q false) ∧ (qai a0_a a1_b Q x0 x1 x2 x3)) ∧ (((ix a0_a.snd x3).fst ≠ (ix a1_b.snd x3).fst → Q false) ∧ (qai a0_a a1_b Q x0 x1 x2 x3)) ∧ True) ∧ (qb1 a0_a a1_b Q x0 x1 x2 x3) ∧ True)
def qgJ (a0_a : Int × List (Int × ((List UInt8) × List UInt8) × List (List UInt8))) (a1_b : Int × List (Int × ((List UInt8) × List UInt8) × List (List UInt8))) (Q : Bool → Prop) (x0 : Bool → Int → Prop) (x1 : Bool → Int → Nat) (x2 : Bool) (x3 : Int) : Prop :=
 ((((0 : Int) ≤ x3 ∧ x3 < (a0_a.snd.length : Int)) ∧ (qcZ a0_a a1_b Q x0 x1 x2 x3) ∧ (qd2 a0_a a1_b Q x0 x1 x2 x3) ∧ ((qcX a0_a a1_b Q x0 x1 x2 x3) ∧ (qc0 a0_a a1_b Q x0 x1 x2 x3) ∧ True) ∧ True) ∧ (((0 : Int) ≤ x3 ∧ x3 < (a1_b.snd.length : Int)) ∧ (qd3 a0_a a1_b Q x0 x1 x2 x3) ∧ (qcY a0_a a1_b Q x0 x1 x2 x3) ∧ ((qc1 a0_a a1_b Q x0 x1 x2 x3) ∧ (((0 : Int) ≤ x3 ∧ x3 < (a0_a.snd.length : Int)) ∧ ((ix a0_a.snd x3).fst ≠ (ix a1_b.snd x3).fst → Q false) ∧ (qai a0_a a1_b Q x0 x1 x2 x3)) ∧ True) ∧ True) ∧ ((((0 : Int) ≤ x3 ∧ x3 < (a0_a.snd.length : Int)) ∧ (qcX a0_a a1_b Q x0 x1 x2 x3) ∧ (qc0 a0_a a1_b Q x0 x1 x2 x3) ∧ True) ∧ (((0 : Int) ≤ x3 ∧ x3 < (a1_b.snd.length : Int)) ∧ (qc1 a0_a a1_b Q x0 x1 x2 x3) ∧ (((0 : Int) ≤ x3 ∧ x3 < (a0_a.snd.length : Int)) ∧ ((ix a0_a.snd x3).fst ≠ (ix a1_b.snd x3).fst → Q false) ∧ (qai a0_a a1_b Q x0 x1 x2 x3)) ∧ True) ∧ True) ∧ True)
def qfn (a0_a : Int × List (Int × ((List UInt8) × List UInt8) × List (List UInt8))) (a1_b : Int × List (Int × ((List UInt8) × List UInt8) × List (List UInt8))) (Q : Bool → Prop) (x0 : Bool → Int → Prop) (x1 : Bool → Int → Nat) (x2 : Bool) (x3 : Int) : Prop :=
 (((((ix a0_a.snd x3).fst ≠ (ix a1_b.snd x3).fst → Q false) ∧ (qai a0_a a1_b Q x0 x1 x2 x3)) ∧ (((ix a0_a.snd x3).fst ≠ (ix a1_b.snd x3).fst → Q false) ∧ (qai a0_a a1_b Q x0 x1 x2 x3)) ∧ True) ∧ ((((ix a0_a.snd x3).fst ≠ (ix a1_b.snd x3).fst → Q false) ∧ (qai a0_a a1_b Q x0 x1 x2 x3)) ∧ (((ix a0_a.snd x3).fst ≠ (ix a1_b.snd x3).fst → Q false) ∧ (qai a0_a a1_b Q x0 x1 x2 x3)) ∧ True) ∧ ((((ix a0_a.snd x3).fst ≠ (ix a1_b.snd x3).fst → Q false) ∧ (qai a0_a a1_b Q x0 x1 x2 x3)) ∧ (((ix a0_a.snd x3).fst ≠ (ix a1_b.snd x3).fst → Q false) ∧ (qai a0_a a1_b Q x0 x1 x2 x3)) ∧ True) ∧ True)
noncomputable def qdk : Ctr := ⟨[.v (.pr (.int .i64) (.sl (.pr (.int .i64) (.pr (.pr (.sl .byte) (.sl .byte)) (.sl (.arr 32 .byte)))))), .v (.pr (.int .i64) (.sl (.pr (.int .i64) (.pr (.pr (.sl .byte) (.sl .byte)) (.sl (.arr 32 .byte))))))], [.v .bool], none, fun a => (fun (a0_a : Int × List (Int × ((List UInt8) × List UInt8) × List (List UInt8))) (a1_b : Int × List (Int × ((List UInt8) × List UInt8) × List (List UInt8))) => (((eqSn a0_a a1_b), ()), (()))) a.1 a.2.1⟩
noncomputable def qlM : Fx := ⟨seat, some bkT, fns, [(91, qfo)], [], [], [(6, [0, 1, 2, 3, 4, 5, 6, 7, 8, 9, 10, 11, 12], [.o 0 3, .o 2 3, .o 5 3, .o 7 3, .par [1, 3, 4, 6, 8, 9, 10, 11, 12] (.alt 1 1 (.one 3 3 (.alt 4 1 (.alt 6 1 (.one 8 3 (.alt 9 1 (.alt 10 0 (.one 11 0 (.one 12 1 .fin)) (.alt 11 0 (.one 10 0 (.one 12 1 .fin)) .fin)) (.alt 10 0 (.alt 9 1 (.one 11 0 (.one 12 1 .fin)) (.alt 11 0 (.alt 9 1 (.one 12 1 .fin) (.alt 12 1 (.one 9 1 .fin) .fin)) .fin)) (.alt 11 0 (.alt 9 1 (.one 10 0 (.one 12 1 .fin)) (.alt 10 0 (.alt 9 1 (.one 12 1 .fin) (.alt 12 1 (.one 9 1 .fin) .fin)) .fin)) .fin)))) (.alt 10 0 (.alt 6 1 (.one 8 3 (.alt 9 1 (.one 11 0 (.one 12 1 .fin)) (.alt 11 0 (.alt 9 1 (.one 12 1 .fin) (.alt 12 1 (.one 9 1 .fin) .fin)) .fin))) (.alt 11 0 (.alt 6 1 (.one 8 3 (.alt 9 1 (.one 12 1 .fin) (.alt 12 1 (.one 9 1 .fin) .fin))) (.alt 12 1 (.one 6 1 (.one 8 3 (.one 9 1 .fin))) .fin)) .fin)) (.alt 11 0 (.alt 6 1 (.one 8 3 (.alt 9 1 (.one 10 0 (.one 12 1 .fin)) (.alt 10 0 (.alt 9 1 (.one 12 1 .fin) (.alt 12 1 (.one 9 1 .fin) .fin)) .fin))) (.alt 10 0 (.alt 6 1 (.one 8 3 (.alt 9 1 (.one 12 1 .fin) (.alt 12 1 (.one 9 1 .fin) .fin))) (.alt 12 1 (.one 6 1 (.one 8 3 (.one 9 1 .fin))) .fin)) .fin)) .fin))) (.alt 6 1 (.one 8 3 (.alt 4 1 (.alt 9 1 (.alt 10 0 (.one 11 0 (.one 12 1 .fin)) (.alt 11 0 (.one 10 0 (.one 12 1 .fin)) .fin)) (.alt 10 0 (.alt 9 1 (.one 11 0 (.one 12 1 .fin)) (.alt 11 0 (.alt 9 1 (.one 12 1 .fin) (.alt 12 1 (.one 9 1 .fin) .fin)) .fin)) (.alt 11 0 (.alt 9 1 (.one 10 0 (.one 12 1 .fin)) (.alt 10 0 (.alt 9 1 (.one 12 1 .fin) (.alt 12 1 (.one 9 1 .fin) .fin)) .fin)) .fin))) (.alt 9 1 (.alt 4 1 (.alt 10 0 (.one 11 0 (.one 12 1 .fin)) (.alt 11 0 (.one 10 0 (.one 12 1 .fin)) .fin)) (.alt 10 0 (.alt 4 1 (.one 11 0 (.one 12 1 .fin)) (.alt 11 0 (.one 4 1 (.one 12 1 .fin)) .fin)) (.alt 11 0 (.alt 4 1 (.one 10 0 (.one 12 1 .fin)) (.alt 10 0 (.one 4 1 (.one 12 1 .fin)) .fin)) .fin))) (.alt 10 0 (.alt 4 1 (.alt 9 1 (.one 11 0 (.one 12 1 .fin)) (.alt 11 0 (.alt 9 1 (.one 12 1 .fin) (.alt 12 1 (.one 9 1 .fin) .fin)) .fin)) (.alt 9 1 (.alt 4 1 (.one 11 0 (.one 12 1 .fin)) (.alt 11 0 (.one 4 1 (.one 12 1 .fin)) .fin)) (.alt 11 0 (.alt 4 1 (.alt 9 1 (.one 12 1 .fin) (.alt 12 1 (.one 9 1 .fin) .fin)) (.alt 9 1 (.one 4 1 (.one 12 1 .fin)) .fin)) .fin))) (.alt 11 0 (.alt 4 1 (.alt 9 1 (.one 10 0 (.one 12 1 .fin)) (.alt 10 0 (.alt 9 1 (.one 12 1 .fin) (.alt 12 1 (.one 9 1 .fin) .fin)) .fin)) (.alt 9 1 (.alt 4 1 (.one 10 0 (.one 12 1 .fin)) (.alt 10 0 (.one 4 1 (.one 12 1 .fin)) .fin)) (.alt 10 0 (.alt 4 1 (.alt 9 1 (.one 12 1 .fin) (.alt 12 1 (.one 9 1 .fin) .fin)) (.alt 9 1 (.one 4 1 (.one 12 1 .fin)) .fin)) .fin))) .fin))))) (.alt 10 0 (.alt 4 1 (.alt 6 1 (.one 8 3 (.alt 9 1 (.one 11 0 (.one 12 1 .fin)) (.alt 11 0 (.alt 9 1 (.one 12 1 .fin) (.alt 12 1 (.one 9 1 .fin) .fin)) .fin))) (.alt 11 0 (.alt 6 1 (.one 8 3 (.alt 9 1 (.one 12 1 .fin) (.alt 12 1 (.one 9 1 .fin) .fin))) (.alt 12 1 (.one 6 1 (.one 8 3 (.one 9 1 .fin))) .fin)) .fin)) (.alt 6 1 (.one 8 3 (.alt 4 1 (.alt 9 1 (.one 11 0 (.one 12 1 .fin)) (.alt 11 0 (.alt 9 1 (.one 12 1 .fin) (.alt 12 1 (.one 9 1 .fin) .fin)) .fin)) (.alt 9 1 (.alt 4 1 (.one 11 0 (.one 12 1 .fin)) (.alt 11 0 (.one 4 1 (.one 12 1 .fin)) .fin)) (.alt 11 0 (.alt 4 1 (.alt 9 1 (.one 12 1 .fin) (.alt 12 1 (.one 9 1 .fin) .fin)) (.alt 9 1 (.one 4 1 (.one 12 1 .fin)) .fin)) .fin)))) (.alt 11 0 (.alt 4 1 (.alt 6 1 (.one 8 3 (.alt 9 1 (.one 12 1 .fin) (.alt 12 1 (.one 9 1 .fin) .fin))) (.alt 12 1 (.one 6 1 (.one 8 3 (.one 9 1 .fin))) .fin)) (.alt 6 1 (.one 8 3 (.alt 4 1 (.alt 9 1 (.one 12 1 .fin) (.alt 12 1 (.one 9 1 .fin) .fin)) (.alt 9 1 (.one 4 1 (.one 12 1 .fin)) .fin))) .fin)) .fin))) (.alt 11 0 (.alt 4 1 (.alt 6 1 (.one 8 3 (.alt 9 1 (.one 10 0 (.one 12 1 .fin)) (.alt 10 0 (.alt 9 1 (.one 12 1 .fin) (.alt 12 1 (.one 9 1 .fin) .fin)) .fin))) (.alt 10 0 (.alt 6 1 (.one 8 3 (.alt 9 1 (.one 12 1 .fin) (.alt 12 1 (.one 9 1 .fin) .fin))) (.alt 12 1 (.one 6 1 (.one 8 3 (.one 9 1 .fin))) .fin)) .fin)) (.alt 6 1 (.one 8 3 (.alt 4 1 (.alt 9 1 (.one 10 0 (.one 12 1 .fin)) (.alt 10 0 (.alt 9 1 (.one 12 1 .fin) (.alt 12 1 (.one 9 1 .fin) .fin)) .fin)) (.alt 9 1 (.alt 4 1 (.one 10 0 (.one 12 1 .fin)) (.alt 10 0 (.one 4 1 (.one 12 1 .fin)) .fin)) (.alt 10 0 (.alt 4 1 (.alt 9 1 (.one 12 1 .fin) (.alt 12 1 (.one 9 1 .fin) .fin)) (.alt 9 1 (.one 4 1 (.one 12 1 .fin)) .fin)) .fin)))) (.alt 10 0 (.alt 4 1 (.alt 6 1 (.one 8 3 (.alt 9 1 (.one 12 1 .fin) (.alt 12 1 (.one 9 1 .fin) .fin))) (.alt 12 1 (.one 6 1 (.one 8 3 (.one 9 1 .fin))) .fin)) (.alt 6 1 (.one 8 3 (.alt 4 1 (.alt 9 1 (.one 12 1 .fin) (.alt 12 1 (.one 9 1 .fin) .fin)) (.alt 9 1 (.one 4 1 (.one 12 1 .fin)) .fin))) .fin)) .fin))) .fin))))) (.alt 6 1 (.one 8 3 (.alt 1 1 (.one 3 3 (.alt 4 1 (.alt 9 1 (.alt 10 0 (.one 11 0 (.one 12 1 .fin)) (.alt 11 0 (.one 10 0 (.one 12 1 .fin)) .fin)) (.alt 10 0 (.alt 9 1 (.one 11 0 (.one 12 1 .fin)) (.alt 11 0 (.alt 9 1 (.one 12 1 .fin) (.alt 12 1 (.one 9 1 .fin) .fin)) .fin)) (.alt 11 0 (.alt 9 1 (.one 10 0 (.one 12 1 .fin)) (.alt 10 0 (.alt 9 1 (.one 12 1 .fin) (.alt 12 1 (.one 9 1 .fin) .fin)) .fin)) .fin))) (.alt 9 1 (.alt 4 1 (.alt 10 0 (.one 11 0 (.one 12 1 .fin)) (.alt 11 0 (.one 10 0 (.one 12 1 .fin)) .fin)) (.alt 10 0 (.alt 4 1 (.one 11 0 (.one 12 1 .fin)) (.alt 11 0 (.one 4 1 (.one 12 1 .fin)) .fin)) (.alt 11 0 (.alt 4 1 (.one 10 0 (.one 12 1 .fin)) (.alt 10 0 (.one 4 1 (.one 12 1 .fin)) .fin)) .fin))) (.alt 10 0 (.alt 4 1 (.alt 9 1 (.one 11 0 (.one 12 1 .fin)) (.alt 11 0 (.alt 9 1 (.one 12 1 .fin) (.alt 12 1 (.one 9 1 .fin) .fin)) .fin)) (.alt 9 1 (.alt 4 1 (.one 11 0 (.one 12 1 .fin)) (.alt 11 0 (.one 4 1 (.one 12 1 .fin)) .fin)) (.alt 11 0 (.alt 4 1 (.alt 9 1 (.one 12 1 .fin) (.alt 12 1 (.one 9 1 .fin) .fin)) (.alt 9 1 (.one 4 1 (.one 12 1 .fin)) .fin)) .fin))) (.alt 11 0 (.alt 4 1 (.alt 9 1 (.one 10 0 (.one 12 1 .fin)) (.alt 10 0 (.alt 9 1 (.one 12 1 .fin) (.alt 12 1 (.one 9 1 .fin) .fin)) .fin)) (.alt 9 1 (.alt 4 1 (.one 10 0 (.one 12 1 .fin)) (.alt 10 0 (.one 4 1 (.one 12 1 .fin)) .fin)) (.alt 10 0 (.alt 4 1 (.alt 9 1 (.one 12 1 .fin) (.alt 12 1 (.one 9 1 .fin) .fin)) (.alt 9 1 (.one 4 1 (.one 12 1 .fin)) .fin)) .fin))) .fin))))) (.alt 9 1 (.alt 1 1 (.one 3 3 (.alt 4 1 (.alt 10 0 (.one 11 0 (.one 12 1 .fin)) (.alt 11 0 (.one 10 0 (.one 12 1 .fin)) .fin)) (.alt 10 0 (.alt 4 1 (.one 11 0 (.one 12 1 .fin)) (.alt 11 0 (.one 4 1 (.one 12 1 .fin)) .fin)) (.alt 11 0 (.alt 4 1 (.one 10 0 (.one 12 1 .fin)) (.alt 10 0 (.one 4 1 (.one 12 1 .fin)) .fin)) .fin)))) (.alt 10 0 (.alt 1 1 (.one 3 3 (.alt 4 1 (.one 11 0 (.one 12 1 .fin)) (.alt 11 0 (.one 4 1 (.one 12 1 .fin)) .fin))) (.alt 11 0 (.one 1 1 (.one 3 3 (.one 4 1 (.one 12 1 .fin)))) .fin)) (.alt 11 0 (.alt 1 1 (.one 3 3 (.alt 4 1 (.one 10 0 (.one 12 1 .fin)) (.alt 10 0 (.one 4 1 (.one 12 1 .fin)) .fin))) (.alt 10 0 (.one 1 1 (.one 3 3 (.one 4 1 (.one 12 1 .fin)))) .fin)) .fin))) (.alt 10 0 (.alt 1 1 (.one 3 3 (.alt 4 1 (.alt 9 1 (.one 11 0 (.one 12 1 .fin)) (.alt 11 0 (.alt 9 1 (.one 12 1 .fin) (.alt 12 1 (.one 9 1 .fin) .fin)) .fin)) (.alt 9 1 (.alt 4 1 (.one 11 0 (.one 12 1 .fin)) (.alt 11 0 (.one 4 1 (.one 12 1 .fin)) .fin)) (.alt 11 0 (.alt 4 1 (.alt 9 1 (.one 12 1 .fin) (.alt 12 1 (.one 9 1 .fin) .fin)) (.alt 9 1 (.one 4 1 (.one 12 1 .fin)) .fin)) .fin)))) (.alt 9 1 (.alt 1 1 (.one 3 3 (.alt 4 1 (.one 11 0 (.one 12 1 .fin)) (.alt 11 0 (.one 4 1 (.one 12 1 .fin)) .fin))) (.alt 11 0 (.one 1 1 (.one 3 3 (.one 4 1 (.one 12 1 .fin)))) .fin)) (.alt 11 0 (.alt 1 1 (.one 3 3 (.alt 4 1 (.alt 9 1 (.one 12 1 .fin) (.alt 12 1 (.one 9 1 .fin) .fin)) (.alt 9 1 (.one 4 1 (.one 12 1 .fin)) .fin))) (.alt 9 1 (.one 1 1 (.one 3 3 (.one 4 1 (.one 12 1 .fin)))) .fin)) .fin))) (.alt 11 0 (.alt 1 1 (.one 3 3 (.alt 4 1 (.alt 9 1 (.one 10 0 (.one 12 1 .fin)) (.alt 10 0 (.alt 9 1 (.one 12 1 .fin) (.alt 12 1 (.one 9 1 .fin) .fin)) .fin)) (.alt 9 1 (.alt 4 1 (.one 10 0 (.one 12 1 .fin)) (.alt 10 0 (.one 4 1 (.one 12 1 .fin)) .fin)) (.alt 10 0 (.alt 4 1 (.alt 9 1 (.one 12 1 .fin) (.alt 12 1 (.one 9 1 .fin) .fin)) (.alt 9 1 (.one 4 1 (.one 12 1 .fin)) .fin)) .fin)))) (.alt 9 1 (.alt 1 1 (.one 3 3 (.alt 4 1 (.one 10 0 (.one 12 1 .fin)) (.alt 10 0 (.one 4 1 (.one 12 1 .fin)) .fin))) (.alt 10 0 (.one 1 1 (.one 3 3 (.one 4 1 (.one 12 1 .fin)))) .fin)) (.alt 10 0 (.alt 1 1 (.one 3 3 (.alt 4 1 (.alt 9 1 (.one 12 1 .fin) (.alt 12 1 (.one 9 1 .fin) .fin)) (.alt 9 1 (.one 4 1 (.one 12 1 .fin)) .fin))) (.alt 9 1 (.one 1 1 (.one 3 3 (.one 4 1 (.one 12 1 .fin)))) .fin)) .fin))) .fin))))) (.alt 10 0 (.alt 1 1 (.one 3 3 (.alt 4 1 (.alt 6 1 (.one 8 3 (.alt 9 1 (.one 11 0 (.one 12 1 .fin)) (.alt 11 0 (.alt 9 1 (.one 12 1 .fin) (.alt 12 1 (.one 9 1 .fin) .fin)) .fin))) (.alt 11 0 (.alt 6 1 (.one 8 3 (.alt 9 1 (.one 12 1 .fin) (.alt 12 1 (.one 9 1 .fin) .fin))) (.alt 12 1 (.one 6 1 (.one 8 3 (.one 9 1 .fin))) .fin)) .fin)) (.alt 6 1 (.one 8 3 (.alt 4 1 (.alt 9 1 (.one 11 0 (.one 12 1 .fin)) (.alt 11 0 (.alt 9 1 (.one 12 1 .fin) (.alt 12 1 (.one 9 1 .fin) .fin)) .fin)) (.alt 9 1 (.alt 4 1 (.one 11 0 (.one 12 1 .fin)) (.alt 11 0 (.one 4 1 (.one 12 1 .fin)) .fin)) (.alt 11 0 (.alt 4 1 (.alt 9 1 (.one 12 1 .fin) (.alt 12 1 (.one 9 1 .fin) .fin)) (.alt 9 1 (.one 4 1 (.one 12 1 .fin)) .fin)) .fin)))) (.alt 11 0 (.alt 4 1 (.alt 6 1 (.one 8 3 (.alt 9 1 (.one 12 1 .fin) (.alt 12 1 (.one 9 1 .fin) .fin))) (.alt 12 1 (.one 6 1 (.one 8 3 (.one 9 1 .fin))) .fin)) (.alt 6 1 (.one 8 3 (.alt 4 1 (.alt 9 1 (.one 12 1 .fin) (.alt 12 1 (.one 9 1 .fin) .fin)) (.alt 9 1 (.one 4 1 (.one 12 1 .fin)) .fin))) .fin)) .fin)))) (.alt 6 1 (.one 8 3 (.alt 1 1 (.one 3 3 (.alt 4 1 (.alt 9 1 (.one 11 0 (.one 12 1 .fin)) (.alt 11 0 (.alt 9 1 (.one 12 1 .fin) (.alt 12 1 (.one 9 1 .fin) .fin)) .fin)) (.alt 9 1 (.alt 4 1 (.one 11 0 (.one 12 1 .fin)) (.alt 11 0 (.one 4 1 (.one 12 1 .fin)) .fin)) (.alt 11 0 (.alt 4 1 (.alt 9 1 (.one 12 1 .fin) (.alt 12 1 (.one 9 1 .fin) .fin)) (.alt 9 1 (.one 4 1 (.one 12 1 .fin)) .fin)) .fin)))) (.alt 9 1 (.alt 1 1 (.one 3 3 (.alt 4 1 (.one 11 0 (.one 12 1 .fin)) (.alt 11 0 (.one 4 1 (.one 12 1 .fin)) .fin))) (.alt 11 0 (.one 1 1 (.one 3 3 (.one 4 1 (.one 12 1 .fin)))) .fin)) (.alt 11 0 (.alt 1 1 (.one 3 3 (.alt 4 1 (.alt 9 1 (.one 12 1 .fin) (.alt 12 1 (.one 9 1 .fin) .fin)) (.alt 9 1 (.one 4 1 (.one 12 1 .fin)) .fin))) (.alt 9 1 (.one 1 1 (.one 3 3 (.one 4 1 (.one 12 1 .fin)))) .fin)) .fin)))) (.alt 11 0 (.alt 1 1 (.one 3 3 (.alt 4 1 (.alt 6 1 (.one 8 3 (.alt 9 1 (.one 12 1 .fin) (.alt 12 1 (.one 9 1 .fin) .fin))) (.alt 12 1 (.one 6 1 (.one 8 3 (.one 9 1 .fin))) .fin)) (.alt 6 1 (.one 8 3 (.alt 4 1 (.alt 9 1 (.one 12 1 .fin) (.alt 12 1 (.one 9 1 .fin) .fin)) (.alt 9 1 (.one 4 1 (.one 12 1 .fin)) .fin))) .fin))) (.alt 6 1 (.one 8 3 (.alt 1 1 (.one 3 3 (.alt 4 1 (.alt 9 1 (.one 12 1 .fin) (.alt 12 1 (.one 9 1 .fin) .fin)) (.alt 9 1 (.one 4 1 (.one 12 1 .fin)) .fin))) (.alt 9 1 (.one 1 1 (.one 3 3 (.one 4 1 (.one 12 1 .fin)))) .fin))) .fin)) .fin))) (.alt 11 0 (.alt 1 1 (.one 3 3 (.alt 4 1 (.alt 6 1 (.one 8 3 (.alt 9 1 (.one 10 0 (.one 12 1 .fin)) (.alt 10 0 (.alt 9 1 (.one 12 1 .fin) (.alt 12 1 (.one 9 1 .fin) .fin)) .fin))) (.alt 10 0 (.alt 6 1 (.one 8 3 (.alt 9 1 (.one 12 1 .fin) (.alt 12 1 (.one 9 1 .fin) .fin))) (.alt 12 1 (.one 6 1 (.one 8 3 (.one 9 1 .fin))) .fin)) .fin)) (.alt 6 1 (.one 8 3 (.alt 4 1 (.alt 9 1 (.one 10 0 (.one 12 1 .fin)) (.alt 10 0 (.alt 9 1 (.one 12 1 .fin) (.alt 12 1 (.one 9 1 .fin) .fin)) .fin)) (.alt 9 1 (.alt 4 1 (.one 10 0 (.one 12 1 .fin)) (.alt 10 0 (.one 4 1 (.one 12 1 .fin)) .fin)) (.alt 10 0 (.alt 4 1 (.alt 9 1 (.one 12 1 .fin) (.alt 12 1 (.one 9 1 .fin) .fin)) (.alt 9 1 (.one 4 1 (.one 12 1 .fin)) .fin)) .fin)))) (.alt 10 0 (.alt 4 1 (.alt 6 1 (.one 8 3 (.alt 9 1 (.one 12 1 .fin) (.alt 12 1 (.one 9 1 .fin) .fin))) (.alt 12 1 (.one 6 1 (.one 8 3 (.one 9 1 .fin))) .fin)) (.alt 6 1 (.one 8 3 (.alt 4 1 (.alt 9 1 (.one 12 1 .fin) (.alt 12 1 (.one 9 1 .fin) .fin)) (.alt 9 1 (.one 4 1 (.one 12 1 .fin)) .fin))) .fin)) .fin)))) (.alt 6 1 (.one 8 3 (.alt 1 1 (.one 3 3 (.alt 4 1 (.alt 9 1 (.one 10 0 (.one 12 1 .fin)) (.alt 10 0 (.alt 9 1 (.one 12 1 .fin) (.alt 12 1 (.one 9 1 .fin) .fin)) .fin)) (.alt 9 1 (.alt 4 1 (.one 10 0 (.one 12 1 .fin)) (.alt 10 0 (.one 4 1 (.one 12 1 .fin)) .fin)) (.alt 10 0 (.alt 4 1 (.alt 9 1 (.one 12 1 .fin) (.alt 12 1 (.one 9 1 .fin) .fin)) (.alt 9 1 (.one 4 1 (.one 12 1 .fin)) .fin)) .fin)))) (.alt 9 1 (.alt 1 1 (.one 3 3 (.alt 4 1 (.one 10 0 (.one 12 1 .fin)) (.alt 10 0 (.one 4 1 (.one 12 1 .fin)) .fin))) (.alt 10 0 (.one 1 1 (.one 3 3 (.one 4 1 (.one 12 1 .fin)))) .fin)) (.alt 10 0 (.alt 1 1 (.one 3 3 (.alt 4 1 (.alt 9 1 (.one 12 1 .fin) (.alt 12 1 (.one 9 1 .fin) .fin)) (.alt 9 1 (.one 4 1 (.one 12 1 .fin)) .fin))) (.alt 9 1 (.one 1 1 (.one 3 3 (.one 4 1 (.one 12 1 .fin)))) .fin)) .fin)))) (.alt 10 0 (.alt 1 1 (.one 3 3 (.alt 4 1 (.alt 6 1 (.one 8 3 (.alt 9 1 (.one 12 1 .fin) (.alt 12 1 (.one 9 1 .fin) .fin))) (.alt 12 1 (.one 6 1 (.one 8 3 (.one 9 1 .fin))) .fin)) (.alt 6 1 (.one 8 3 (.alt 4 1 (.alt 9 1 (.one 12 1 .fin) (.alt 12 1 (.one 9 1 .fin) .fin)) (.alt 9 1 (.one 4 1 (.one 12 1 .fin)) .fin))) .fin))) (.alt 6 1 (.one 8 3 (.alt 1 1 (.one 3 3 (.alt 4 1 (.alt 9 1 (.one 12 1 .fin) (.alt 12 1 (.one 9 1 .fin) .fin)) (.alt 9 1 (.one 4 1 (.one 12 1 .fin)) .fin))) (.alt 9 1 (.one 1 1 (.one 3 3 (.one 4 1 (.one 12 1 .fin)))) .fin))) .fin)) .fin))) .fin)))), .o 13 1])]⟩
def qeN (a0_a : Int × List (Int × ((List UInt8) × List UInt8) × List (List UInt8))) (a1_b : Int × List (Int × ((List UInt8) × List UInt8) × List (List UInt8))) (Q : Bool → Prop) : Prop :=
 (a0_a.fst ≠ a1_b.fst → Q false) ∧ (¬a0_a.fst ≠ a1_b.fst → ((a0_a.snd.length : Int) ≠ (a1_b.snd.length : Int) → Q false) ∧ (¬(a0_a.snd.length : Int) ≠ (a1_b.snd.length : Int) → ∃ (x0 : Bool → Int → Prop), ∃ (x1 : Bool → Int → Nat), x0 false (0 : Int) ∧ ∀ (x2 : Bool) (x3 : Int), x0 x2 x3 → (Kd.int IntKind.i64).wf x3 → (x3 < (a0_a.snd.length : Int) → (((0 : Int) ≤ x3 ∧ x3 < (a0_a.snd.length : Int)) ∧ ((((0 : Int) ≤ x3 ∧ x3 < (a1_b.snd.length : Int)) ∧ ((((ix a0_a.snd x3).fst ≠ (ix a1_b.snd x3).fst → Q false) ∧ (qai a0_a a1_b Q x0 x1 x2 x3)) ∧ (((ix a0_a.snd x3).fst ≠ (ix a1_b.snd x3).fst → Q false) ∧ (qai a0_a a1_b Q x0 x1 x2 x3)) ∧ True) ∧ (qa3 a0_a a1_b Q x0 x1 x2 x3) ∧ (qa3 a0_a a1_b Q x0 x1 x2 x3) ∧ True) ∧ (qcZ a0_a a1_b Q x0 x1 x2 x3) ∧ (qcZ a0_a a1_b Q x0 x1 x2 x3) ∧ True) ∧ (((0 : Int) ≤ x3 ∧ x3 < (a1_b.snd.length : Int)) ∧ (((((ix a0_a.snd x3).fst ≠ (ix a1_b.snd x3).fst → Q false) ∧ (qai a0_a a1_b Q x0 x1 x2 x3)) ∧ (((ix a0_a.snd x3).fst ≠ (ix a1_b.snd x3).fst → Q false) ∧ (qai a0_a a1_b Q x0 x1 x2 x3)) ∧ True) ∧ (qa3 a0_a a1_b Q x0 x1 x2 x3) ∧ (qa3 a0_a a1_b Q x0 x1 x2 x3) ∧ True) ∧ (qfn a0_a a1_b Q x0 x1 x2 x3) ∧ ((qa3 a0_a a1_b Q x0 x1 x2 x3) ∧ ((((ix a0_a.snd x3).fst ≠ (ix a1_b.snd x3).fst → Q false) ∧ (qai a0_a a1_b Q x0 x1 x2 x3)) ∧ (((ix a0_a.snd x3).fst ≠ (ix a1_b.snd x3).fst → Q false) ∧ (qai a0_a a1_b Q x0 x1 x2 x3)) ∧ True) ∧ (qb1 a0_a a1_b Q x0 x1 x2 x3) ∧ True) ∧ ((qa3 a0_a a1_b Q x0 x1 x2 x3) ∧ ((((ix a0_a.snd x3).fst ≠ (ix a1_b.snd x3).fst → Q false) ∧ (qai a0_a a1_b Q x0 x1 x2 x3)) ∧ (((ix a0_a.snd x3).fst ≠ (ix a1_b.snd x3).fst → Q false) ∧ (qai a0_a a1_b Q x0 x1 x2 x3)) ∧ True) ∧ (qb1 a0_a a1_b Q x0 x1 x2 x3) ∧ True) ∧ True) ∧ ((qcZ a0_a a1_b Q x0 x1 x2 x3) ∧ (qd2 a0_a a1_b Q x0 x1 x2 x3) ∧ ((qcX a0_a a1_b Q x0 x1 x2 x3) ∧ (qc0 a0_a a1_b Q x0 x1 x2 x3) ∧ True) ∧ True) ∧ ((qcZ a0_a a1_b Q x0 x1 x2 x3) ∧ (qd2 a0_a a1_b Q x0 x1 x2 x3) ∧ ((qcX a0_a a1_b Q x0 x1 x2 x3) ∧ (qc0 a0_a a1_b Q x0 x1 x2 x3) ∧ True) ∧ True) ∧ True) ∧ (((0 : Int) ≤ x3 ∧ x3 < (a1_b.snd.length : Int)) ∧ (((0 : Int) ≤ x3 ∧ x3 < (a0_a.snd.length : Int)) ∧ (((((ix a0_a.snd x3).fst ≠ (ix a1_b.snd x3).fst → Q false) ∧ (qai a0_a a1_b Q x0 x1 x2 x3)) ∧ (((ix a0_a.snd x3).fst ≠ (ix a1_b.snd x3).fst → Q false) ∧ (qai a0_a a1_b Q x0 x1 x2 x3)) ∧ True) ∧ (qa3 a0_a a1_b Q x0 x1 x2 x3) ∧ (qa3 a0_a a1_b Q x0 x1 x2 x3) ∧ True) ∧ (qfn a0_a a1_b Q x0 x1 x2 x3) ∧ ((qa3 a0_a a1_b Q x0 x1 x2 x3) ∧ ((((ix a0_a.snd x3).fst ≠ (ix a1_b.snd x3).fst → Q false) ∧ (qai a0_a a1_b Q x0 x1 x2 x3)) ∧ (((ix a0_a.snd x3).fst ≠ (ix a1_b.snd x3).fst → Q false) ∧ (qai a0_a a1_b Q x0 x1 x2 x3)) ∧ True) ∧ (qb1 a0_a a1_b Q x0 x1 x2 x3) ∧ True) ∧ ((qa3 a0_a a1_b Q x0 x1 x2 x3) ∧ ((((ix a0_a.snd x3).fst ≠ (ix a1_b.snd x3).fst → Q false) ∧ (qai a0_a a1_b Q x0 x1 x2 x3)) ∧ (((ix a0_a.snd x3).fst ≠ (ix a1_b.snd x3).fst → Q false) ∧ (qai a0_a a1_b Q x0 x1 x2 x3)) ∧ True) ∧ (qb1 a0_a a1_b Q x0 x1 x2 x3) ∧ True) ∧ True) ∧ ((((0 : Int) ≤ x3 ∧ x3 < (a0_a.snd.length : Int)) ∧ ((((ix a0_a.snd x3).fst ≠ (ix a1_b.snd x3).fst → Q false) ∧ (qai a0_a a1_b Q x0 x1 x2 x3)) ∧ (((ix a0_a.snd x3).fst ≠ (ix a1_b.snd x3).fst → Q false) ∧ (qai a0_a a1_b Q x0 x1 x2 x3)) ∧ True) ∧ ((((ix a0_a.snd x3).fst ≠ (ix a1_b.snd x3).fst → Q false) ∧ (qai a0_a a1_b Q x0 x1 x2 x3)) ∧ (((ix a0_a.snd x3).fst ≠ (ix a1_b.snd x3).fst → Q false) ∧ (qai a0_a a1_b Q x0 x1 x2 x3)) ∧ True) ∧ ((((ix a0_a.snd x3).fst ≠ (ix a1_b.snd x3).fst → Q false) ∧ (qai a0_a a1_b Q x0 x1 x2 x3)) ∧ (((ix a0_a.snd x3).fst ≠ (ix a1_b.snd x3).fst → Q false) ∧ (qai a0_a a1_b Q x0 x1 x2 x3)) ∧ True) ∧ True) ∧ (qcY a0_a a1_b Q x0 x1 x2 x3) ∧ (qcY a0_a a1_b Q x0 x1 x2 x3) ∧ True) ∧ ((qd3 a0_a a1_b Q x0 x1 x2 x3) ∧ (qcY a0_a a1_b Q x0 x1 x2 x3) ∧ ((qc1 a0_a a1_b Q x0 x1 x2 x3) ∧ (((0 : Int) ≤ x3 ∧ x3 < (a0_a.snd.length : Int)) ∧ ((ix a0_a.snd x3).fst ≠ (ix a1_b.snd x3).fst → Q false) ∧ (qai a0_a a1_b Q x0 x1 x2 x3)) ∧ True) ∧ True) ∧ ((qd3 a0_a a1_b Q x0 x1 x2 x3) ∧ (qcY a0_a a1_b Q x0 x1 x2 x3) ∧ ((qc1 a0_a a1_b Q x0 x1 x2 x3) ∧ (((0 : Int) ≤ x3 ∧ x3 < (a0_a.snd.length : Int)) ∧ ((ix a0_a.snd x3).fst ≠ (ix a1_b.snd x3).fst → Q false) ∧ (qai a0_a a1_b Q x0 x1 x2 x3)) ∧ True) ∧ True) ∧ True) ∧ (qgJ a0_a a1_b Q x0 x1 x2 x3) ∧ (qgJ a0_a a1_b Q x0 x1 x2 x3) ∧ True) ∧ (¬x3 < (a0_a.snd.length : Int) → Q true)))
theorem qn6 {a0_a : Int × List (Int × ((List UInt8) × List UInt8) × List (List UInt8))} {a1_b : Int × List (Int × ((List UInt8) × List UInt8) × List (List UInt8))} (w_0 : (Ty.kd (.pr (.int .i64) (.sl (.pr (.int .i64) (.pr (.pr (.sl .byte) (.sl .byte)) (.sl (.arr 32 .byte))))))).wf a0_a) (w_1 : (Ty.kd (.pr (.int .i64) (.sl (.pr (.int .i64) (.pr (.pr (.sl .byte) (.sl .byte)) (.sl (.arr 32 .byte))))))).wf a1_b) : qeN a0_a a1_b (fun o0 => o0 = (eqSn a0_a a1_b)) := by
 show qeN a0_a a1_b (fun o0 => o0 = decide (a0_a = a1_b))
 unfold qeN
 refine ⟨fun h => (decide_eq_false fun e => h (congrArg Prod.fst e)).symm, fun h1 => ⟨fun h => (decide_eq_false fun e => h (by rw [e])).symm, fun h2 => ?_⟩⟩
 have hn : a0_a.1 = a1_b.1 := Classical.not_not.1 h1
 have hl : a0_a.2.length = a1_b.2.length := by
  have : (a0_a.2.length : Int) = (a1_b.2.length : Int) := Classical.not_not.1 h2
  omega
 refine ⟨fun _ i => ∃ j : Nat, i = (j : Int) ∧ j ≤ a0_a.2.length ∧ ∀ k : Nat, k < j → ix a0_a.2 (k : Int) = ix a1_b.2 (k : Int), fun _ i => ((a0_a.2.length : Int) - i).toNat, ⟨0, rfl, Nat.zero_le _, fun k h => absurd h (Nat.not_lt_zero _)⟩, ?_⟩
 rintro x2 _ ⟨j, rfl, hj, hI⟩ _
 have end_ : ¬ (j : Int) < (a0_a.2.length : Int) → true = decide (a0_a = a1_b) := fun h => by
  refine (decide_eq_true (Prod.ext hn ?_)).symm
  exact List.ext_getElem hl fun k h1 h2 => by
   have := hI k (by omega)
   rwa [ixN h1, ixN h2] at this
 have step : (j : Int) < (a0_a.2.length : Int) → ∀ (Q : Bool → Prop) (x0 : Bool → Int → Prop) (x1 : Bool → Int → Nat), (∀ b, b = decide (a0_a = a1_b) → Q b) →
  (x0 = fun _ i => ∃ j : Nat, i = (j : Int) ∧ j ≤ a0_a.2.length ∧ ∀ k : Nat, k < j → ix a0_a.2 (k : Int) = ix a1_b.2 (k : Int)) → (x1 = fun _ i => ((a0_a.2.length : Int) - i).toNat) →
  (((ix a0_a.2 (j : Int)).1 ≠ (ix a1_b.2 (j : Int)).1 → Q false) ∧ qai a0_a a1_b Q x0 x1 x2 (j : Int)) := fun hlt Q x0 x1 hQ e0 e1 => by
  have bad : ix a0_a.2 (j : Int) ≠ ix a1_b.2 (j : Int) → Q false := fun h => hQ _ (decide_eq_false fun e => h (by rw [e])).symm
  refine ⟨fun h => bad fun e => h (congrArg Prod.fst e), ?_⟩
  unfold qai
  refine fun g1 => ⟨fun h => bad fun e => h (by rw [e]), fun g2 => ⟨fun h => bad fun e => h (by rw [e]), fun g3 => ⟨fun h => bad fun e => h (decide_eq_true (by rw [e])), fun g4 => ?_⟩⟩⟩
  have e : ix a0_a.2 (j : Int) = ix a1_b.2 (j : Int) := Prod.ext (Classical.not_not.1 g1) (Prod.ext (Prod.ext (Classical.not_not.1 g2) (Classical.not_not.1 g3)) (of_decide_eq_true g4))
  rw [e0, e1]
  refine ⟨by have : a0_a.2.length ≤ LM := w_0.2.1; unfold LM at this; omega, ⟨j + 1, rfl, by omega, fun k hk => ?_⟩, by dsimp only; omega⟩
  rcases Nat.lt_or_ge k j with h | h
  ·exact hI k h
  ·obtain rfl : k = j := by omega
   exact e
 refine ⟨fun hlt => ?_, end_⟩
 have base := step hlt _ _ _ (fun b h => h) rfl rfl
 have b0 : (0 : Int) ≤ (j : Int) ∧ (j : Int) < (a0_a.2.length : Int) := ⟨by omega, hlt⟩
 have b1 : (0 : Int) ≤ (j : Int) ∧ (j : Int) < (a1_b.2.length : Int) := ⟨by omega, by omega⟩
 clear step end_ hI
 generalize (fun (_ : Bool) (i : Int) => ∃ j : Nat, i = (j : Int) ∧ j ≤ a0_a.2.length ∧ ∀ k : Nat, k < j → ix a0_a.2 (k : Int) = ix a1_b.2 (k : Int)) = x0 at base ⊢
 generalize (fun (_ : Bool) (i : Int) => ((a0_a.2.length : Int) - i).toNat) = x1 at base ⊢
 have k3 : qa3 a0_a a1_b (fun b => b = decide (a0_a = a1_b)) x0 x1 x2 (j : Int) := ⟨base, ⟨base, base, trivial⟩, trivial⟩
 have k4 : qcX a0_a a1_b (fun b => b = decide (a0_a = a1_b)) x0 x1 x2 (j : Int) := ⟨⟨b1, base, base, trivial⟩, ⟨b1, base⟩, trivial⟩
 have k5 : qb1 a0_a a1_b (fun b => b = decide (a0_a = a1_b)) x0 x1 x2 (j : Int) := by
  unfold qb1
  repeat' (first | exact base | exact b0 | exact b1 | exact trivial | refine ⟨?_, ?_⟩)
 have k6 : qcY a0_a a1_b (fun b => b = decide (a0_a = a1_b)) x0 x1 x2 (j : Int) := ⟨⟨b0, base, base, trivial⟩, ⟨b0, base⟩, trivial⟩
 have k7 : qcZ a0_a a1_b (fun b => b = decide (a0_a = a1_b)) x0 x1 x2 (j : Int) := ⟨⟨b1, base, ⟨base, base, trivial⟩, trivial⟩, k4, trivial⟩
 have k8 : qc0 a0_a a1_b (fun b => b = decide (a0_a = a1_b)) x0 x1 x2 (j : Int) := by
  unfold qc0
  repeat' (first | exact base | exact b0 | exact b1 | exact trivial | refine ⟨?_, ?_⟩)
 have k9 : qc1 a0_a a1_b (fun b => b = decide (a0_a = a1_b)) x0 x1 x2 (j : Int) := by
  unfold qc1
  repeat' (first | exact base | exact b0 | exact b1 | exact trivial | refine ⟨?_, ?_⟩)
 have b2 := And.intro base (And.intro base trivial)
 have k10 : qd2 a0_a a1_b (fun b => b = decide (a0_a = a1_b)) x0 x1 x2 (j : Int) := ⟨b1, k3, b2, k5, trivial⟩
 have k11 : qd3 a0_a a1_b (fun b => b = decide (a0_a = a1_b)) x0 x1 x2 (j : Int) := ⟨b0, k3, b2, k5, trivial⟩
 have k2 : qgJ a0_a a1_b (fun b => b = decide (a0_a = a1_b)) x0 x1 x2 (j : Int) := ⟨⟨b0, k7, k10, ⟨k4, k8, trivial⟩, trivial⟩, ⟨b1, k11, k6, ⟨k9, ⟨b0, base⟩, trivial⟩, trivial⟩, ⟨⟨b0, k4, k8, trivial⟩, ⟨b1, k9, ⟨b0, base⟩, trivial⟩, trivial⟩, trivial⟩
 have k12 : qfn a0_a a1_b (fun b => b = decide (a0_a = a1_b)) x0 x1 x2 (j : Int) := ⟨b2, b2, b2, trivial⟩
 repeat' (first | exact base | exact b0 | exact b1 | exact trivial | exact k3 | exact k4 | exact k5 | exact k6 | exact k7 | exact k8 | exact k9 | exact k10 | exact k11 | exact k2 | exact k12 | refine ⟨?_, ?_⟩)
theorem qn5 : (∀ a, qdk.pre a → PM.wfP qdk.pm a (fvc qlM 200 39 qdk a (eqO qdk a))) = (∀ a : (Int × List (Int × ((List UInt8) × List UInt8) × List (List UInt8))) × (Int × List (Int × ((List UInt8) × List UInt8) × List (List UInt8))) × Unit, True → (Ty.kd (.pr (.int .i64) (.sl (.pr (.int .i64) (.pr (.pr (.sl .byte) (.sl .byte)) (.sl (.arr 32 .byte))))))).wf a.1 → (Ty.kd (.pr (.int .i64) (.sl (.pr (.int .i64) (.pr (.pr (.sl .byte) (.sl .byte)) (.sl (.arr 32 .byte))))))).wf a.2.1 → qeN a.1 a.2.1 (fun o0 => o0 = (eqSn (a.1) (a.2.1)))) := by kernel_rfl
theorem qlN : qdk.valid Try.prog 39 := qat (X := qlM) (qaK qam (fun b hb => by cases hb; exact qar) qas ⟨qtG, trivial⟩) 200 (qn5.mpr fun a hp w_0 w_1 => @qn6 a.1 a.2.1 w_0 w_1)
noncomputable def qck : Ctr := ⟨[.v (.sl .byte), .v (.int .i64)], [.v .bool], none, fun a => (fun (a0_b : List UInt8) (a1_cut : Int) => ((true, ()), (()))) a.1 a.2.1⟩
noncomputable def qgF : Fx := ⟨seat, some bkT, fns, [(30, qcm), (23, qgD), (47, qeB), (26, qf8), (39, qdk), (27, qev), (45, qdu)], [], [], [(8, [], [.o 0 2, .o 1 2, .o 2 2, .o 3 2, .o 4 2, .o 5 2, .o 6 2, .o 7 2, .o 8 2, .o 9 2, .o 12 2, .o 13 2, .o 14 2, .o 15 2, .o 10 0, .o 11 2, .o 16 2, .o 17 2])]⟩
def qdK (a0_b : List UInt8) (a1_cut : Int) (Q : Bool → Prop) : Prop :=
 ((20000 : Int) < (a0_b.length : Int) → Q true) ∧ (¬(20000 : Int) < (a0_b.length : Int) → a0_b.length ≤ (140737488355328 : Nat) ∧ ((Ty.byte.sl.pr Ty.bool).st.kd.wf (a0_b, false) → a0_b.length ≤ (140737488355328 : Nat) ∧ (((Ty.int IntKind.i64).pr ((Ty.int IntKind.i64).pr ((Ty.byte.sl.pr Ty.byte.sl).pr (Ty.arr (32 : Nat) Ty.byte).sl)).sl).kd.wf (qaG (a0_b, false)).fst → (Ty.int IntKind.i64).kd.wf (if (qaG (a0_b, false)).snd.snd = true then (2 : Int) else (0 : Int)) → ((if (qaG (a0_b, false)).snd.snd = true then (2 : Int) else (0 : Int)) ≠ (0 : Int) → (eqSn (qaG (a0_b, false)).fst ((Ty.int IntKind.i64).pr ((Ty.int IntKind.i64).pr ((Ty.byte.sl.pr Ty.byte.sl).pr (Ty.arr (32 : Nat) Ty.byte).sl)).sl).kd.z = true → Q true) ∧ (eqSn (qaG (a0_b, false)).fst ((Ty.int IntKind.i64).pr ((Ty.int IntKind.i64).pr ((Ty.byte.sl.pr Ty.byte.sl).pr (Ty.arr (32 : Nat) Ty.byte).sl)).sl).kd.z = false → Q false)) ∧ (¬(if (qaG (a0_b, false)).snd.snd = true then (2 : Int) else (0 : Int)) ≠ (0 : Int) → (Ty.int IntKind.i64).kd.wf ((qaG (a0_b, false)).snd.fst.length : Int) → (IntKind.i64.wrap ((a0_b.length : Int) - ((qaG (a0_b, false)).snd.fst.length : Int)) < (1 : Int) → Q false) ∧ (¬IntKind.i64.wrap ((a0_b.length : Int) - ((qaG (a0_b, false)).snd.fst.length : Int)) < (1 : Int) → ((a0_b.length : Int) < IntKind.i64.wrap ((a0_b.length : Int) - ((qaG (a0_b, false)).snd.fst.length : Int)) → Q false) ∧ (¬(a0_b.length : Int) < IntKind.i64.wrap ((a0_b.length : Int) - ((qaG (a0_b, false)).snd.fst.length : Int)) → ((0 : Int) ≤ IntKind.i64.wrap ((a0_b.length : Int) - ((qaG (a0_b, false)).snd.fst.length : Int)) ∧ IntKind.i64.wrap ((a0_b.length : Int) - ((qaG (a0_b, false)).snd.fst.length : Int)) ≤ (a0_b.length : Int)) ∧ (([] : List UInt8).length ≤ (1099511627776 : Nat) ∧ (qaG (a0_b, false)).fst.snd.length ≤ (65536 : Nat) ∧ ∀ (x0 : Int × (List UInt8 × List UInt8) × List (List UInt8)), x0 ∈ (qaG (a0_b, false)).fst.snd → x0.snd.fst.fst.length + x0.snd.fst.snd.length ≤ (16777216 : Nat) ∧ x0.snd.snd.length ≤ (65536 : Nat)) ∧ (Ty.byte.kd.sl.wf (([] : List UInt8) ++ qaN (qaG (a0_b, false)).fst) → (([] : List UInt8) ++ qaN (qaG (a0_b, false)).fst ≠ List.take (IntKind.i64.wrap ((a0_b.length : Int) - ((qaG (a0_b, false)).snd.fst.length : Int))).toNat a0_b → Q false) ∧ (¬([] : List UInt8) ++ qaN (qaG (a0_b, false)).fst ≠ List.take (IntKind.i64.wrap ((a0_b.length : Int) - ((qaG (a0_b, false)).snd.fst.length : Int))).toNat a0_b → IntKind.i64.wrap ((a0_b.length : Int) - ((qaG (a0_b, false)).snd.fst.length : Int)) ≠ (0 : Int) ∧ ((0 : Int) ≤ (band IntKind.i64 a1_cut (16777215 : Int)).tmod (IntKind.i64.wrap ((a0_b.length : Int) - ((qaG (a0_b, false)).snd.fst.length : Int))) ∧ (band IntKind.i64 a1_cut (16777215 : Int)).tmod (IntKind.i64.wrap ((a0_b.length : Int) - ((qaG (a0_b, false)).snd.fst.length : Int))) ≤ (a0_b.length : Int)) ∧ (List.take ((band IntKind.i64 a1_cut (16777215 : Int)).tmod (IntKind.i64.wrap ((a0_b.length : Int) - ((qaG (a0_b, false)).snd.fst.length : Int)))).toNat a0_b).length ≤ (140737488355328 : Nat) ∧ ((Ty.byte.sl.pr Ty.bool).st.kd.wf (List.take ((band IntKind.i64 a1_cut (16777215 : Int)).tmod (IntKind.i64.wrap ((a0_b.length : Int) - ((qaG (a0_b, false)).snd.fst.length : Int)))).toNat a0_b, false) → (List.take ((band IntKind.i64 a1_cut (16777215 : Int)).tmod (IntKind.i64.wrap ((a0_b.length : Int) - ((qaG (a0_b, false)).snd.fst.length : Int)))).toNat a0_b).length ≤ (140737488355328 : Nat) ∧ (((Ty.int IntKind.i64).pr ((Ty.int IntKind.i64).pr ((Ty.byte.sl.pr Ty.byte.sl).pr (Ty.arr (32 : Nat) Ty.byte).sl)).sl).kd.wf (qaG (List.take ((band IntKind.i64 a1_cut (16777215 : Int)).tmod (IntKind.i64.wrap ((a0_b.length : Int) - ((qaG (a0_b, false)).snd.fst.length : Int)))).toNat a0_b, false)).fst → (Ty.int IntKind.i64).kd.wf (if (qaG (List.take ((band IntKind.i64 a1_cut (16777215 : Int)).tmod (IntKind.i64.wrap ((a0_b.length : Int) - ((qaG (a0_b, false)).snd.fst.length : Int)))).toNat a0_b, false)).snd.snd = true then (2 : Int) else (0 : Int)) → ((if (qaG (List.take ((band IntKind.i64 a1_cut (16777215 : Int)).tmod (IntKind.i64.wrap ((a0_b.length : Int) - ((qaG (a0_b, false)).snd.fst.length : Int)))).toNat a0_b, false)).snd.snd = true then (2 : Int) else (0 : Int)) = (2 : Int) → Q true) ∧ (¬(if (qaG (List.take ((band IntKind.i64 a1_cut (16777215 : Int)).tmod (IntKind.i64.wrap ((a0_b.length : Int) - ((qaG (a0_b, false)).snd.fst.length : Int)))).toNat a0_b, false)).snd.snd = true then (2 : Int) else (0 : Int)) = (2 : Int) → Q false)))))))))))
theorem qjx {a0_b : List UInt8} {a1_cut : Int} (w_0 : (Ty.kd (.sl .byte)).wf a0_b) (w_1 : (Ty.kd (.int .i64)).wf a1_cut) : qdK a0_b a1_cut (fun o0 => o0 = true) := by
 unfold qdK
 refine ⟨fun _ => rfl, fun hb => ⟨by omega, fun _ => ⟨by omega, fun _ _ => ⟨fun hbad => ?_, fun hok => ?_⟩⟩⟩⟩
 ·have hb2 : (qaG (a0_b, false)).2.2 = true := by
   cases hc : (qaG (a0_b, false)).2.2 with
   | true => rfl
   | false => rw [hc] at hbad; exact absurd rfl hbad
  rw [qhj hb2]
  refine ⟨fun _ => rfl, fun h => ?_⟩
  have e : eqSn (0, []) (0, []) = true := decide_eq_true rfl
  have h' : eqSn (0, []) (0, []) = false := h
  rw [e] at h'; cases h'
 have hb2 : (qaG (a0_b, false)).2.2 = false := by
  cases hc : (qaG (a0_b, false)).2.2 with
  | false => rfl
  | true => rw [hc] at hok; exact absurd (by decide) hok
 have h2 : (qdI (a0_b, false)).2.2 = false := hb2
 obtain ⟨hs, ⟨hf1, hf2, hf3⟩, _⟩ := qia.sound a0_b h2
 have hsh : ∀ k, k < a0_b.length - (qdI (a0_b, false)).2.1.length → (qdI (a0_b.take k, false)).2.2 = true := fun k hk => qia.short h2 hk
 have e1 : (qaG (a0_b, false)).1 = (qdI (a0_b, false)).1 := qjd hb2
 have e2 : (qaG (a0_b, false)).2 = (qdI (a0_b, false)).2 := rfl
 rw [e1, e2]
 generalize qdI (a0_b, false) = R at hs hf1 hf2 hf3 hsh
 have hlen := congrArg List.length hs
 rw [List.length_append] at hlen
 have hpos : 0 < (qaN R.1).length := by
  unfold qaN
  rw [num2]
  simp only [List.length_append, numB, List.length_cons]
  omega
 have en : IntKind.i64.wrap ((a0_b.length : Int) - (R.2.1.length : Int)) = ((qaN R.1).length : Int) := by
  rw [qan (wf64 (by omega) (by omega))]; omega
 rw [en]
 have hc := qwo a1_cut (n := ((qaN R.1).length : Int)) (by omega)
 generalize (band .i64 a1_cut 16777215).tmod ((qaN R.1).length : Int) = k at hc
 have hk := hsh k.toNat (by omega)
 have hkr : (qaG (a0_b.take k.toNat, false)).2.2 = true := hk
 intro _
 refine ⟨fun h => by omega, fun _ => ⟨fun h => by omega, fun _ => ⟨⟨by omega, by omega⟩, ⟨by simp, by omega, fun x hx => ?_⟩, fun _ => ⟨fun h => absurd ?_ h, fun _ => ⟨by omega, ⟨hc.1, by omega⟩, by rw [List.length_take]; omega, fun _ => ⟨by rw [List.length_take]; omega, fun _ _ => ⟨fun _ => rfl, fun h => absurd ?_ h⟩⟩⟩⟩⟩⟩⟩
 ·obtain ⟨_, g2, g3, g4⟩ := hf3 x hx
  exact ⟨by omega, by omega⟩
 ·rw [Int.toNat_natCast, List.nil_append]
  conv => rhs; rw [hs]
  rw [List.take_left]
 ·rw [if_pos hkr]
theorem qjw : (∀ a, qck.pre a → PM.wfP qck.pm a (fvc qgF 200 10 qck a (eqO qck a))) = (∀ a : (List UInt8) × Int × Unit, True → (Ty.kd (.sl .byte)).wf a.1 → (Ty.kd (.int .i64)).wf a.2.1 → qdK a.1 a.2.1 (fun o0 => o0 = true)) := by kernel_rfl
theorem qkA : qck.valid Try.prog 10 := qat (X := qgF) (qaK qam (fun b hb => by cases hb; exact qar) qas ⟨qjE, qsy, qpl, qoC, qlN, qoE, qml, trivial⟩) 200 (qjw.mpr fun a hp w_0 w_1 => @qjx a.1 a.2.1 w_0 w_1)
end Go.Proofs.Ytmjjkpiglbpkhaa

set_option linter.unusedVariables false
namespace Go.Proofs.Ytmjjkpiglbpkhaa
open Go Go.RowKit Go.Inc Go.ChangeShapes Go.WideShapes Go.ChangeAt
theorem qwz {H : Type} (d : DataW H) : 1 ≤ Rows.uptoBulk d := by
 cases d with
 | lit l => cases l <;> simp [Rows.uptoBulk]
 | nil => simp [Rows.uptoBulk]
 | ptr d => simp [Rows.uptoBulk]
 | slice elems spare => simp [Rows.uptoBulk]
 | agg parts => simp [Rows.uptoBulk]
 | iface t d => simp [Rows.uptoBulk]
 | map entries => simp [Rows.uptoBulk]
 | held h => simp [Rows.uptoBulk]
theorem qlo {H : Type} {d : DataW H} {l : List (DataW H)} (h : d ∈ l) : Rows.uptoBulk d ≤ Rows.uptoBulkAll l := by
 induction l with
 | nil => cases h
 | cons x r ih =>
   simp only [Rows.uptoBulkAll]
   cases List.mem_cons.1 h with
   | inl e => subst e; omega
   | inr e => have := ih e; omega
theorem qj2 {H : Type} (l : List (DataW H)) : l.length ≤ Rows.uptoBulkAll l := by
 induction l with
 | nil => simp [Rows.uptoBulkAll]
 | cons x r ih => have := qwz x; simp only [Rows.uptoBulkAll, List.length_cons]; omega
theorem qmK {H : Type} {l : List (DataW H)} (hk : Rows.uptoSmall H l = true) : Rows.uptoBulkAll l ≤ 1048576 := by
 simpa [Rows.uptoSmall] using hk
def qeM (w : World) : Ghost := fun b => match w.heap[b]? with
 | some (.cells c t _) => some (t, c.toList)
 | _ => none
theorem Models.ofW (w : World) : Models w (qeM w) := fun b t l h => by
 unfold qeM at h
 split at h
 ·rename_i c t' fr hh
  cases h
  exact ⟨c, fr, hh, List.prefix_refl _⟩
 ·cases h
section
variable {P : Program} {α β : Type} {k : Kd α} {k' : Kd β} {t e : TypeId} {by_ : Nat} {S : α → Prop} {S' : β → Prop}
def sm0 {α : Type} : α → Prop := fun _ => True
def smL {α : Type} (S : α → Prop) : List α → Prop := fun l => l.length ≤ 1048576 ∧ ∀ x ∈ l, S x
def smP {α β : Type} (S : α → Prop) (T : β → Prop) : α × β → Prop := fun x => S x.1 ∧ T x.2
def Rds (P : Program) (t : TypeId) (k : Kd α) (S : α → Prop) : Prop := ∀ (H : Type) (enc : TypeId × Value → H) (w : World) (base : Nat) (held : Bool) (fuel : Nat) (cs : List Value) (x : DataW H × List MemPlace),
 DataW.trod enc P w base (fun _ => true) held fuel t cs = some x → Rows.uptoBulk x.1 ≤ 1048576 → ∃ a, k.R (qeM w) a cs ∧ S a
theorem qch (h : TyOk P t k by_) : P.cellsOf t = k.sz := by
 obtain ⟨i, z, hi, hs, _⟩ := h.info
 simp [Program.cellsOf, hi, hs]
theorem qpO {ik : IntKind} (ht : P.underlying t = some (.int ik)) : Rds P t (Kd.int ik) sm0 := fun H enc w base held fuel cs x h hb => by
 obtain ⟨n, rfl, _, hw⟩ := DataW.trod_int ht h
 refine ⟨n, ⟨rfl, ?_⟩, trivial⟩
 simpa [Lit.wf] using hw
theorem qmz (ht : P.underlying t = some (.int .u8)) : Rds P t Kd.byte sm0 := fun H enc w base held fuel cs x h hb => by
 obtain ⟨n, rfl, _, hw⟩ := DataW.trod_int ht h
 have hw : 0 ≤ n ∧ n ≤ 255 := by simpa [Lit.wf, IntKind.min, IntKind.max, IntKind.signed, IntKind.bits] using hw
 refine ⟨UInt8.ofNat n.toNat, ?_, trivial⟩
 show [Value.int .u8 n] = [.int .u8 _]
 congr 2
 have : (UInt8.ofNat n.toNat).toNat = n.toNat := by simp; omega
 omega
theorem qg2 {w : World} {base n : Nat} {a : Addr} {cs : List Value} (h : w.cells? base a n = some cs) (hn : 0 < n) :
 a.spot = none ∧ ∃ e l, qeM w a.block = some (e, l) ∧ a.off + n ≤ l.length ∧ (l.drop a.off).take n = cs := by
 unfold World.cells? at h
 split at h
 case isFalse => cases h
 case isTrue hb =>
 have hl := mapM_some_length h
 have hg := fun i (hi : i < n) => mapM_some_get h i i (by simp [hi])
 have h0 := hg 0 hn
 have hc0 : 0 < cs.length := by rw [hl]; simpa using hn
 rw [List.getElem?_eq_getElem hc0] at h0
 unfold World.cell? at h0
 have ea : ∀ i, (a.add i).block = a.block := fun i => by unfold Addr.add; split <;> rfl
 have eo : ∀ i, (a.add i).off = a.off + i := fun i => by unfold Addr.add; split <;> simp_all
 have ha0 : a.add 0 = a := by simp [Addr.add]
 rw [ha0] at h0
 cases hh : w.heap[a.block]? with
 | none => rw [hh] at h0; cases h0
 | some o =>
   rw [hh] at h0
   cases o with
   | cells c e fr =>
     simp only at h0
     split at h0
     ·cases h0
     ·rename_i hs
      have hs : a.spot = none := by simpa using hs
      refine ⟨hs, e, c.toList, by simp [qeM, hh], ?_⟩
      have hgc : ∀ i, i < n → c[a.off + i]? = cs[i]? := fun i hi => by
       have := hg i hi
       unfold World.cell? at this
       rw [ea, eo, hh] at this
       have hs' : (a.add i).spot.isSome = false := by unfold Addr.add; split <;> simp_all
       simpa [hs'] using this
      have hlen : cs.length = n := by rw [hl]; simp
      have hbound : a.off + n ≤ c.toList.length := by
       have h1 := hgc (n - 1) (by omega)
       rw [List.getElem?_eq_getElem (by omega)] at h1
       have := (Array.getElem?_eq_some_iff.1 h1).1
       simp only [Array.length_toList]
       omega
      refine ⟨hbound, ?_⟩
      apply List.ext_getElem?
      intro i
      rcases Nat.lt_or_ge i n with hi | hi
      ·rw [List.getElem?_take, if_pos hi, List.getElem?_drop, ← hgc i hi]
       simp
      ·rw [List.getElem?_take, if_neg (by omega), List.getElem?_eq_none (by omega)]
   | _ => simp at h0
theorem qkH {R : α → List Value → Prop} : ∀ (n : Nat) (f : Nat → List Value), (∀ i, i < n → ∃ a, R a (f i) ∧ S a) → ∃ l, l.length = n ∧ RL R l ((List.range n).map f).flatten ∧ ∀ x ∈ l, S x
 | 0, f, _ => ⟨[], rfl, by simp [RL], by simp⟩
 | n + 1, f, h => by
   obtain ⟨l, hl, hR, hS⟩ := qkH n f (fun i hi => h i (by omega))
   obtain ⟨a, ha, hs⟩ := h n (by omega)
   refine ⟨l ++ [a], by simp [hl], ?_, fun x hx => (List.mem_append.1 hx).elim (hS x) (fun h => by rw [List.mem_singleton.1 h]; exact hs)⟩
   rw [List.range_succ]
   simp only [List.map_append, List.map_cons, List.map_nil, List.flatten_append, List.flatten_cons, List.flatten_nil, List.append_nil]
   exact RL.append hR (RL.single ha)
theorem qfU (s : Nat) : ∀ (n : Nat) (l : List Value), n * s ≤ l.length → ((List.range n).map fun i => (l.drop (i * s)).take s).flatten = l.take (n * s)
 | 0, l, _ => by simp
 | n + 1, l, h => by
   have e : (n + 1) * s = n * s + s := Nat.succ_mul n s
   rw [List.range_succ]
   simp only [List.map_append, List.map_cons, List.map_nil, List.flatten_append, List.flatten_cons, List.flatten_nil, List.append_nil]
   rw [qfU s n l (by omega), e, List.take_add]
theorem qmA (ht : P.underlying t = some (.slice e)) (hT : TyOk P e k by_) (h0 : Nat.blt 0 k.sz = true) (hR : Rds P e k S) : Rds P t (Kd.sl k) (smL S) := fun H enc w base held fuel cs x h hb => by
 have h0 : 0 < k.sz := Nat.le_of_ble_eq_true h0
 rcases DataW.trod_slice ht h with ⟨rfl, rfl⟩ | ⟨a, len, cap, elems, rest, n, _, rfl, rfl, hbs, hl, hm, hlen, hel, _, _⟩
 ·exact ⟨[], ⟨none, 0, rfl, by simp, by simp [LM], by simp, .inl rfl⟩, by simp, by simp⟩
 ·rw [qch hT] at hel
  have hbulk : elems.length ≤ 1048576 := by
   have := qj2 (elems.map (·.1))
   simp only [Rows.uptoBulk, List.length_map] at hb this
   omega
  have hparts : ∀ i, i < len → ∃ cs' y, w.cells? base (a.add (i * k.sz)) k.sz = some cs' ∧ DataW.trod enc P w base (fun _ => true) held n e cs' = some y ∧ Rows.uptoBulk y.1 ≤ 1048576 := fun i hi => by
   have h1 := hel i hi
   rw [List.getElem?_eq_getElem (by omega)] at h1
   obtain ⟨cs', h2, h3⟩ := Option.bind_eq_some_iff.1 h1
   refine ⟨cs', _, h2, h3, ?_⟩
   have := qlo (l := elems.map (·.1)) (d := (elems[i]'(by omega)).1) (List.mem_map.2 ⟨_, List.getElem_mem _, rfl⟩)
   simp only [Rows.uptoBulk] at hb
   omega
  rcases Nat.eq_zero_or_pos len with hz | hp
  ·exact ⟨[], ⟨some a, cap, by simp [hz], by simp, by simp [LM], by simp, .inl rfl⟩, by simp, by simp⟩
  ·obtain ⟨cs0, y0, hc0, _, _⟩ := hparts 0 hp
   rw [Nat.zero_mul, show a.add 0 = a by simp [Addr.add]] at hc0
   obtain ⟨hs, e', l, hg, _, _⟩ := qg2 hc0 h0
   have ea : a = ⟨a.block, a.off, none⟩ := by cases a; simp_all
   have key : ∀ i, i < len → a.off + i * k.sz + k.sz ≤ l.length ∧ w.cells? base (a.add (i * k.sz)) k.sz = some (((l.drop a.off).drop (i * k.sz)).take k.sz) := fun i hi => by
    obtain ⟨cs', y, hc, _, _⟩ := hparts i hi
    obtain ⟨_, e2, l2, hg2, hle, htk⟩ := qg2 hc h0
    rw [ea, qbv] at hg2 hle htk
    simp only at hg2 hle htk
    rw [hg] at hg2
    cases hg2
    refine ⟨hle, ?_⟩
    rw [hc, List.drop_drop, ← htk]
   have hlast := (key (len - 1) (by omega)).1
   have hall : a.off + len * k.sz ≤ l.length := by
    have : len * k.sz = (len - 1) * k.sz + k.sz := by
     conv => lhs; rw [show len = (len - 1) + 1 by omega]
     exact Nat.succ_mul _ _
    omega
   obtain ⟨xs, hxl, hxR, hxS⟩ := qkH (S := S) (R := k.R (qeM w)) len (fun i => ((l.drop a.off).drop (i * k.sz)).take k.sz) (fun i hi => by
    obtain ⟨cs', y, hc, ht', hb'⟩ := hparts i hi
    rw [(key i hi).2] at hc
    cases hc
    exact hR _ _ _ _ _ _ _ _ ht' hb')
   rw [qfU k.sz len (l.drop a.off) (by rw [List.length_drop]; omega)] at hxR
   refine ⟨xs, ⟨some a, cap, by rw [hxl], by omega, by simp only [LM]; omega, fun x hx => ?_, .inr ⟨a.block, e', l.take a.off, (l.drop a.off).take (len * k.sz), (l.drop a.off).drop (len * k.sz), ?_, ?_, hxR⟩⟩, by omega, hxS⟩
   ·exact RL.all (p := k.wf) (fun _ _ => k.hwf) hxR x hx
   ·rw [List.length_take, Nat.min_eq_left (by omega)]
    exact congrArg some ea
   ·rw [hg, List.append_assoc, List.take_append_drop, List.take_append_drop]
theorem quK {n by_' : Nat} (ht : P.underlying t = some (.array n e)) (hT : TyOk P e k by_) (hT' : TyOk P t (Kd.arr n k) by_') (hR : Rds P e k S) : Rds P t (Kd.arr n k) (smL S) := fun H enc w base held fuel cs x h hb => by
 obtain ⟨xs, m, _, rfl, hlen, hxl, hx⟩ := DataW.trod_array ht h
 rw [qch hT] at hx
 rw [qch hT'] at hlen
 have hlen : cs.length = n * k.sz := hlen
 obtain ⟨l, hl, hlR, hlS⟩ := qkH (S := S) (R := k.R (qeM w)) n (fun i => (cs.drop (i * k.sz)).take k.sz) (fun i hi => by
  have h1 := hx i hi
  rw [List.getElem?_eq_getElem (by omega)] at h1
  refine hR _ _ _ _ _ _ _ _ h1 ?_
  have := qlo (l := xs.map (·.1)) (d := (xs[i]'(by omega)).1) (List.mem_map.2 ⟨_, List.getElem_mem _, rfl⟩)
  simp only [Rows.uptoBulk] at hb
  omega)
 rw [qfU k.sz n cs (by omega), List.take_of_length_le (by omega)] at hlR
 have hbulk : xs.length ≤ 1048576 := by
  have := qj2 (xs.map (·.1))
  simp only [Rows.uptoBulk, List.length_map] at hb this
  omega
 exact ⟨l, ⟨hl, hlR⟩, by omega, hlS⟩
def RdsF (P : Program) (fs : List Field) (off : Nat) (k : Kd α) (S : α → Prop) : Prop := ∀ (H : Type) (enc : TypeId × Value → H) (w : World) (base : Nat) (held : Bool) (fuel : Nat) (cs : List Value),
 (∀ f ∈ fs, ∃ x : DataW H × List MemPlace, DataW.trod enc P w base (fun _ => true) held fuel f.type ((cs.drop f.offset).take (P.cellsOf f.type)) = some x ∧ Rows.uptoBulk x.1 ≤ 1048576) → ∃ a, k.R (qeM w) a ((cs.drop off).take k.sz) ∧ S a
theorem qjc {f : Field} {off : Nat} (hT : TyOk P f.type k by_) (ho : Nat.beq f.offset off = true) (hR : Rds P f.type k S) : RdsF P [f] off k S := fun H enc w base held fuel cs h => by
 obtain ⟨x, h1, h2⟩ := h f (.head _)
 rw [Nat.eq_of_beq_eq_true ho, qch hT] at h1
 exact hR _ _ _ _ _ _ _ _ h1 h2
theorem qe3 {fs : List Field} {f : Field} {off : Nat} (hT : TyOk P f.type k by_) (ho : Nat.beq f.offset off = true) (hR : Rds P f.type k S) (hF : RdsF P fs (off + k.sz) k' S') : RdsF P (f :: fs) off (Kd.pr k k') (smP S S') := fun H enc w base held fuel cs h => by
 obtain ⟨b, hb, hbS⟩ := hF H enc w base held fuel cs (fun f hf => h f (.tail _ hf))
 obtain ⟨x, h1, h2⟩ := h f (.head _)
 rw [Nat.eq_of_beq_eq_true ho, qch hT] at h1
 obtain ⟨a, ha, haS⟩ := hR _ _ _ _ _ _ _ _ h1 h2
 refine ⟨(a, b), ⟨_, _, ?_, ha, hb⟩, haS, hbS⟩
 show (cs.drop off).take (k.sz + k'.sz) = _
 rw [List.take_add, List.drop_drop]
theorem qfW {fs : Array Field} (ht : P.underlying t = some (.struct fs)) (hT : TyOk P t k by_) (hF : RdsF P fs.toList 0 k S) : Rds P t k S := fun H enc w base held fuel cs x h hb => by
 obtain ⟨xs, n, _, rfl, hlen, hxl, hx⟩ := DataW.trod_struct ht h
 rw [qch hT] at hlen
 obtain ⟨a, ha, haS⟩ := hF H enc w base held n cs (fun f hf => by
  obtain ⟨i, hi, rfl⟩ := List.getElem_of_mem hf
  have hi' : i < fs.size := by simpa using hi
  have h1 := hx i fs[i] (by simp [hi'])
  rw [List.getElem?_eq_getElem (by omega)] at h1
  refine ⟨xs[i]'(by omega), by simpa using h1, ?_⟩
  have := qlo (l := xs.map (·.1)) (d := (xs[i]'(by omega)).1) (List.mem_map.2 ⟨_, List.getElem_mem _, rfl⟩)
  simp only [Rows.uptoBulk] at hb
  omega)
 rw [List.drop_zero, List.take_of_length_le (by omega)] at ha
 exact ⟨a, ha, haS⟩
theorem qe2 {H : Type} {enc : TypeId × Value → H} {w : World} {r : Reach} {b0 base : Nat} {held : Bool} {v : Value} {d : DataW H} {ps : List MemPlace} (hR : Rds P t k S) (hT : TyOk P t k by_)
 (hval : Value.okWide P w r b0 t v) (h : DataW.Trod enc P w base (fun _ => true) held t v d ps) (hb : Rows.uptoBulk d ≤ 1048576) : ∃ a, k.V (qeM w) a v ∧ S a := by
 obtain ⟨fuel, h⟩ := h
 obtain ⟨a, ha, haS⟩ := hR _ _ _ _ _ _ _ _ h hb
 refine ⟨a, ⟨v.cells.toList, ha, ?_⟩, haS⟩
 obtain ⟨dd, hd, hagg⟩ := hT.desc
 unfold Value.okWide at hval
 rw [hd] at hval
 cases hk : k.agg with
 | true =>
   rw [hk] at hagg
   have : ∃ cs, v = .agg cs := by
    cases dd <;> first | (cases hagg; done) | (obtain ⟨cs, rfl, _⟩ := hval; exact ⟨cs, rfl⟩)
   obtain ⟨cs, rfl⟩ := this
   simp [Value.cells]
 | false =>
   have hlen := k.len ha
   rw [k.hs hk] at hlen
   have hna : ∀ cs, v ≠ .agg cs := fun cs e => by
    subst e
    rw [hk] at hagg
    cases dd <;> first | (cases hagg; done) | (simp [Cell.okWide, hd, Cell.ok] at hval)
   cases v <;> first | rfl | exact absurd rfl (hna _)
end
section
variable {H : Type} {enc : TypeId × Value → H} {P : Program}
theorem qlY {w w' : World} {K K' : Ghost} (h : Ext NX w K w' K') : Below w.heap.size w w' := ⟨h.os, h.tape, h.output, h.size, fun b hb => h.heap b hb (fun x => x)⟩
theorem qgf {W W' : World} {sp : Nat → Bool} (hl : laidOutB P = true) (hb : Below W.heap.size W W') : ∀ {ts : List TypeId} {vs : List Value} {ds : List (DataW H)} {ps : List MemPlace},
 (ts.all fun t => P.readableRec t && decide (t < P.types.size)) = true → DataW.TrodAll enc P W 0 (fun _ => true) true ts vs ds ps → (∀ p ∈ ps, p.block < W.heap.size) → (∀ p ∈ ps, sp p.block = true) → DataW.TrodAll enc P W' 0 sp true ts vs ds ps
 | [], [], [], ps, _, h, _, _ => h
 | t :: ts, v :: vs, d :: ds, ps, hr, ⟨p, q, h1, h2, e⟩, hlt, hs => by
   subst e
   simp only [List.all_cons, Bool.and_eq_true, decide_eq_true_eq] at hr
   exact ⟨p, q, WideElems.Trod_stays hl hr.1.1 hr.1.2 h1 (fun x hx => hb.same (hlt x (List.mem_append.2 (.inl hx)))) (fun x hx => hs x (List.mem_append.2 (.inl hx))),
    qgf hl hb (ts := ts) hr.2 h2 (fun x hx => hlt x (List.mem_append.2 (.inr hx))) (fun x hx => hs x (List.mem_append.2 (.inr hx))), rfl⟩
 | [], _ :: _, _, _, _, h, _, _ => h.elim
 | [], [], _ :: _, _, _, h, _, _ => h.elim
 | _ :: _, [], _, _, _, h, _, _ => h.elim
 | _ :: _, _ :: _, [], _, _, h, _, _ => h.elim
theorem qkb {f : Func} {s : ChangeSpec} {apart fresh handsOn again : Bool} {W W' : World} {args : Array Value} {ds gs : List (DataW H)} {before : List MemPlace} {tb : TypeId}
 (hW : DataW.Whole enc P f.params.toList s.vars apart W args.toList ds gs before) (hl : laidOutB P = true) (hr : (f.params.toList.all fun t => P.readableRec t && decide (t < P.types.size)) = true)
 (hrt : f.resultTypes = #[tb]) (htb : P.underlying tb = some .bool) (hs : s.vars = []) (hv : (s.fn H (ds ++ gs)).vars = []) (hres : (s.fn H (ds ++ gs)).results = [.lit (.bool true)]) (hargs : (s.fn H (ds ++ gs)).args = ds)
 (hb : Below W.heap.size W W') : s.post enc P f apart fresh handsOn again W args (.bool true) W' := by
 have hlt : ∀ p ∈ before, p.block < W.heap.size := fun p hp => hW.lt p hp
 have hW' := hW
 obtain ⟨p, q, hA, hV, e, hz, hn⟩ := hW'
 rw [hs] at hV
 have hq : q = [] ∧ gs = [] := by
  cases gs with
  | nil => exact ⟨hV, rfl⟩
  | cons g r => exact hV.elim
 obtain ⟨rfl, rfl⟩ := hq
 rw [List.append_nil] at e
 subst e
 have ht : ∀ (b : Nat) (sp : Nat → Bool) (hd : Bool), DataW.TrodAll enc P W' b sp hd f.resultTypes.toList ((Value.bool true).resultList f.resultTypes.size) (s.fn H (ds ++ [])).results [] := fun b sp hd => by
  rw [hres, hrt]
  exact ⟨[], [], shut_bool htb _, rfl, rfl⟩
 have ha : ∀ sp : Nat → Bool, (∀ p ∈ before, sp p.block = true) → DataW.TrodAll enc P W' 0 sp true f.params.toList args.toList (s.fn H (ds ++ [])).args before := fun sp hsp => by
  rw [hargs]
  exact qgf hl hb hr hA hlt hsp
 have hvs : ∀ sp : Nat → Bool, DataW.TrodVars enc P W' sp s.vars (s.fn H (ds ++ [])).vars [] := fun sp => by
  rw [hs, hv]
  rfl
 have hold : ∀ p ∈ before, (fun b => decide (b < W.heap.size)) p.block = true := fun p hp => by simpa using hlt p hp
 refine ⟨ds, [], before, [], before, [], hW, ht _ _ _, ha _ hold, hvs _, World.keptBut_mono (fun p hp => ⟨hp, ?_⟩) (hb.frame (· ∈ before)), fun _ => ?_⟩
 ·exact Or.inr (by simpa using hp)
 ·refine ⟨?_, _, _, ([] ++ before) ++ [], ⟨[] ++ before, [], trodAll_append (ha _ (fun _ _ => rfl)) (ht _ _ _), hvs _, rfl, ?_, ?_⟩, ?_⟩
  ·exact ok_one hrt rfl (okWide_bool_mk htb _)
  ·intro b off hp
   have hin : MemPlace.cell b off ∈ before := by simpa using hp
   rw [hb.frozen (hlt _ hin)]
   exact hz b off hin
  ·intro hap
   simpa using hn hap
  ·intro p hp _
   simpa using hp
end
end Go.Proofs.Ytmjjkpiglbpkhaa

set_option linter.unusedVariables false
namespace Go.Inc
open Go
theorem bad1 {s : Cu} (h : s.2 = true) : (qaX sumC (numC 32 s).1 (numC 32 s).2).2.2 = true := (qhr.iter _).bad _ ((qc8 32 (by decide)).bad s h)
theorem bad2 {s : Cu} (h : s.2 = true) : (qaX sumC (numC 32 (qaH 1048576 s).2).1 (numC 32 (qaH 1048576 s).2).2).2.2 = true := bad1 ((qd6 _).bad s h)
theorem bad3 {s : Cu} (h : s.2 = true) : (qaX sumC (numC 32 (qaH 1048576 (qaH 256 s).2).2).1 (numC 32 (qaH 1048576 (qaH 256 s).2).2).2).2.2 = true := bad2 ((qd6 _).bad s h)
theorem quU {x : Sp} (ha : (Kd.int .i64).wf x.1) (h1 : x.2.1.1.length < 2 ^ 64) (h2 : x.2.1.2.length < 2 ^ 64) (h3 : x.2.2.length < 2 ^ 62) (h4 : ∀ z ∈ x.2.2, z.length = 32) (q : List UInt8) :
 (qg0 x → qdE (spB x ++ q, false) = (x, (q, false))) ∧ (¬ qg0 x → (qdE (spB x ++ q, false)).2.2 = true) := by
 obtain ⟨a, ⟨k, v⟩, p⟩ := x
 dsimp only at ha h1 h2 h3 h4
 have e : spB (a, ((k, v), p)) ++ q = numB (u64I a).toNat ++ (qdl k ++ (qdl v ++ (numB (u64I (p.length : Int)).toNat ++ (p.flatten ++ q)))) := by
  unfold spB
  dsimp only
  rw [num1, num1, qt4]
  simp only [List.append_assoc]
 have hp : (Kd.int .i64).wf (p.length : Int) := ⟨by show (-9223372036854775808 : Int) ≤ _; omega, by show (p.length : Int) ≤ 9223372036854775807; omega⟩
 rw [e, qmL]
 have n1 := qi8 (most := 2147483647) (by decide) ha (qdl k ++ (qdl v ++ (numB (u64I (p.length : Int)).toNat ++ (p.flatten ++ q))))
 have b1 := qgT (most := 256) h1 (qdl v ++ (numB (u64I (p.length : Int)).toNat ++ (p.flatten ++ q)))
 have b2 := qgT (most := 1048576) h2 (numB (u64I (p.length : Int)).toNat ++ (p.flatten ++ q))
 have n2 := qi8 (most := 32) (by decide) hp (p.flatten ++ q)
 generalize numC 2147483647 (numB (u64I a).toNat ++ _, false) = S1 at n1 ⊢
 by_cases c1 : 0 ≤ a ∧ a ≤ (2147483647 : Nat)
 ·rw [if_pos c1] at n1
  subst n1
  dsimp only
  generalize qaH 256 (qdl k ++ _, false) = S2 at b1 ⊢
  by_cases c2 : k.length ≤ 256
  ·rw [if_pos c2] at b1
   subst b1
   dsimp only
   generalize qaH 1048576 (qdl v ++ _, false) = S3 at b2 ⊢
   by_cases c3 : v.length ≤ 1048576
   ·rw [if_pos c3] at b2
    subst b2
    dsimp only
    generalize numC 32 (numB (u64I (p.length : Int)).toNat ++ _, false) = S4 at n2 ⊢
    by_cases c4 : p.length ≤ 32
    ·rw [if_pos ⟨by omega, by omega⟩] at n2
     subst n2
     dsimp only
     rw [Int.toNat_natCast, qjX p q h4]
     refine ⟨fun _ => ?_, fun h => absurd ⟨⟨c1.1, by omega⟩, c2, c3, c4⟩ h⟩
     rw [Int.toNat_of_nonneg c1.1]
    ·rw [if_neg (by omega)] at n2
     subst n2
     exact ⟨fun h => absurd h.2.2.2 c4, fun _ => (qhr.iter _).bad _ rfl⟩
   ·rw [if_neg c3] at b2
    subst b2
    exact ⟨fun h => absurd h.2.2.1 c3, fun _ => bad1 rfl⟩
  ·rw [if_neg c2] at b1
   subst b1
   exact ⟨fun h => absurd h.2.1 c2, fun _ => bad2 rfl⟩
 ·rw [if_neg c1] at n1
  subst n1
  exact ⟨fun h => absurd ⟨h.1.1, by have := h.1.2; exact this⟩ c1, fun _ => bad3 rfl⟩
def okW (x : Sp) : Prop := (Kd.int .i64).wf x.1 ∧ x.2.1.1.length < 2 ^ 64 ∧ x.2.1.2.length < 2 ^ 64 ∧ x.2.2.length < 2 ^ 62 ∧ ∀ z ∈ x.2.2, z.length = 32
theorem qmM : ∀ {l : List Sp} (h : ∀ x ∈ l, okW x) (q : List UInt8),
 ((∀ x ∈ l, qg0 x) → qaX qdE l.length (l.flatMap spB ++ q, false) = (l, (q, false))) ∧ (¬ (∀ x ∈ l, qg0 x) → (qaX qdE l.length (l.flatMap spB ++ q, false)).2.2 = true)
 | [], _, q => ⟨fun _ => rfl, fun h => absurd (fun x hx => by cases hx) h⟩
 | x :: l, h, q => by
   obtain ⟨a1, a2, a3, a4, a5⟩ := h x (by simp)
   have ih := qmM (l := l) (fun z hz => h z (by simp [hz])) q
   obtain ⟨s1, s2⟩ := quU a1 a2 a3 a4 a5 (l.flatMap spB ++ q)
   have e : (x :: l).flatMap spB ++ q = spB x ++ (l.flatMap spB ++ q) := by rw [List.flatMap_cons, List.append_assoc]
   have eI : qaX qdE (x :: l).length ((x :: l).flatMap spB ++ q, false) = ((qdE (spB x ++ (l.flatMap spB ++ q), false)).1 :: (qaX qdE l.length (qdE (spB x ++ (l.flatMap spB ++ q), false)).2).1, (qaX qdE l.length (qdE (spB x ++ (l.flatMap spB ++ q), false)).2).2) := by rw [e]; rfl
   rw [eI]
   by_cases hx : qg0 x
   ·rw [s1 hx]
    dsimp only
    refine ⟨fun hl => ?_, fun hl => ih.2 fun hl' => hl fun z hz => ?_⟩
    ·rw [ih.1 fun z hz => hl z (by simp [hz])]
    ·rcases List.mem_cons.1 hz with rfl | hz
     ·exact hx
     ·exact hl' z hz
   ·exact ⟨fun hl => absurd (hl x (by simp)) hx, fun _ => (qeh.iter _).bad _ (s2 hx)⟩
theorem quQ {s : Sn} (ha : (Kd.int .i64).wf s.1) (hl : s.2.length < 2 ^ 62) (h : ∀ x ∈ s.2, okW x) (q : List UInt8) :
 (fitS s → qdI (qaN s ++ q, false) = (s, (q, false))) ∧ (¬ fitS s → (qdI (qaN s ++ q, false)).2.2 = true) := by
 obtain ⟨a, l⟩ := s
 dsimp only at ha hl h
 have e : qaN (a, l) ++ q = numB (u64I a).toNat ++ (numB (u64I (l.length : Int)).toNat ++ (l.flatMap spB ++ q)) := by
  unfold qaN
  dsimp only
  rw [num2]
  simp only [List.append_assoc]
 have hp : (Kd.int .i64).wf (l.length : Int) := ⟨by show (-9223372036854775808 : Int) ≤ _; omega, by show (l.length : Int) ≤ 9223372036854775807; omega⟩
 rw [e, qmG]
 have n1 := qi8 (most := 2147483647) (by decide) ha (numB (u64I (l.length : Int)).toNat ++ (l.flatMap spB ++ q))
 have n2 := qi8 (most := 2) (by decide) hp (l.flatMap spB ++ q)
 obtain ⟨i1, i2⟩ := qmM h q
 generalize numC 2147483647 (numB (u64I a).toNat ++ _, false) = S1 at n1 ⊢
 by_cases c1 : 0 ≤ a ∧ a ≤ (2147483647 : Nat)
 ·rw [if_pos c1] at n1
  subst n1
  dsimp only
  generalize numC 2 (numB (u64I (l.length : Int)).toNat ++ _, false) = S2 at n2 ⊢
  by_cases c2 : l.length ≤ 2
  ·rw [if_pos ⟨by omega, by omega⟩] at n2
   subst n2
   dsimp only
   rw [Int.toNat_natCast]
   refine ⟨fun hf => ?_, fun hf => i2 fun hx => hf ⟨⟨c1.1, by have := c1.2; exact this⟩, c2, hx⟩⟩
   rw [i1 hf.2.2, Int.toNat_of_nonneg c1.1]
  ·rw [if_neg (by omega)] at n2
   subst n2
   exact ⟨fun hf => absurd hf.2.1 c2, fun _ => (qeh.iter _).bad _ rfl⟩
 ·rw [if_neg c1] at n1
  subst n1
  refine ⟨fun hf => absurd ⟨hf.1.1, by have := hf.1.2; exact this⟩ c1, fun _ => (qeh.iter _).bad _ ((qc8 2 (by decide)).bad _ rfl)⟩
theorem quS {x : Sp} (h1 : x.2.1.1.length + x.2.1.2.length ≤ 16777216) (h2 : x.2.2.length ≤ 65536) (h32 : ∀ z ∈ x.2.2, z.length = 32) : (spB x).length ≤ 20000000 := by
 have l1 := qa1 x.1
 have l2 := qb4 h1
 have l3 := qa1 (x.2.2.length : Int)
 have l4 := qci h32
 unfold spB
 simp only [List.length_append]
 omega
theorem qme : ∀ l : List Sp, (∀ x ∈ l, (spB x).length ≤ 20000000) → (l.flatMap spB).length ≤ 20000000 * l.length
 | [], _ => by simp
 | x :: l, h => by
   have ih := qme l fun z hz => h z (by simp [hz])
   have := h x (by simp)
   rw [List.flatMap_cons, List.length_append, List.length_cons]
   omega
theorem qpW {s : Sn} (hn : s.2.length ≤ 65536) (h : ∀ x ∈ s.2, (spB x).length ≤ 20000000) : (qaN s).length ≤ 20000000 * 65536 + 18 := by
 have l1 := qeK s.1
 have l2 := qeK (s.2.length : Int)
 have n1 := qaA (n := (u64I s.1).toNat) (by omega)
 have n2 := qaA (n := (u64I (s.2.length : Int)).toNat) (by omega)
 have := qme s.2 h
 unfold qaN
 rw [num2, List.length_append, List.length_append]
 omega
end Go.Inc
