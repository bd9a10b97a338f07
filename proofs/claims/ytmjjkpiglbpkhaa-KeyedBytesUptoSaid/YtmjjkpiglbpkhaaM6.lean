/- S5, E30, S6, S7, S8, P21, P22, S9, S10, S11, P23. -/
import Derived.Test.YtmjjkpiglbpkhaaM5
import Derived.Test.YtmjjkpiglbpkhaaChecked
import Derived.Test.YtmjjkpiglbpkhaaM4
set_option linter.unusedVariables false
set_option maxRecDepth 100000
set_option maxHeartbeats 20000000
namespace Go.Proofs.Ytmjjkpiglbpkhaa
open Go Go.RowKit Go.Inc
noncomputable def qgR : Ctr := ⟨[.v (.sl (.pr (.sl .byte) (.sl .byte)))], [.v .bool], none, fun a => (fun (a0_l : List ((List UInt8) × List UInt8)) => (((mayK a0_l), ()), (()))) a.1⟩
noncomputable def qsB : Fx := ⟨seat, some bkT, fns, [(75, qp3)], [], [], [(4, [], [.o 0 2, .o 1 2, .o 2 2, .o 3 2, .o 4 2, .o 5 2, .o 6 2, .o 7 2, .o 8 2, .o 9 2, .o 10 2, .o 11 0, .o 12 2])]⟩
def qkU (a0_l : List ((List UInt8) × List UInt8)) (Q : Bool → Prop) : Prop :=
 ∃ (x0 : Bool → Int → Prop), ∃ (x1 : Bool → Int → Nat), x0 false (1 : Int) ∧ ∀ (x2 : Bool) (x3 : Int), x0 x2 x3 → (Kd.int IntKind.i64).wf x3 → (x3 < (a0_l.length : Int) → ((0 : Int) ≤ IntKind.i64.wrap (x3 - (1 : Int)) ∧ IntKind.i64.wrap (x3 - (1 : Int)) < (a0_l.length : Int)) ∧ ((0 : Int) ≤ x3 ∧ x3 < (a0_l.length : Int)) ∧ ((Ty.int IntKind.i64).kd.wf (cmpB (ix a0_l (IntKind.i64.wrap (x3 - (1 : Int)))).fst (ix a0_l x3).fst) → ((0 : Int) ≤ cmpB (ix a0_l (IntKind.i64.wrap (x3 - (1 : Int)))).fst (ix a0_l x3).fst → Q false) ∧ (¬(0 : Int) ≤ cmpB (ix a0_l (IntKind.i64.wrap (x3 - (1 : Int)))).fst (ix a0_l x3).fst → x3 < (9223372036854775807 : Int) ∧ x0 x2 (x3 + (1 : Int)) ∧ x1 x2 (x3 + (1 : Int)) < x1 x2 x3))) ∧ (¬x3 < (a0_l.length : Int) → Q true)
theorem qui {a0_l : List ((List UInt8) × List UInt8)} (w_0 : (Ty.kd (.sl (.pr (.sl .byte) (.sl .byte)))).wf a0_l) : qkU a0_l (fun o0 => o0 = (mayK a0_l)) := by
 unfold qkU
 have hl : (a0_l.length : Int) ≤ 281474976710656 := by have := w_0.1; unfold LM at this; omega
 refine ⟨fun _ i => 1 ≤ i ∧ ∀ (t : Nat) (h : t + 1 < a0_l.length), (t : Int) + 1 < i → sless a0_l[t].1 a0_l[t + 1].1 = true, fun _ i => ((a0_l.length : Int) - i).toNat, ⟨by omega, fun t h ht => by omega⟩, ?_⟩
 rintro b i ⟨h1, h2⟩ hw
 refine ⟨fun hlt => ?_, fun hge => ?_⟩
 ·obtain ⟨j, rfl⟩ : ∃ j : Nat, i = ((j + 1 : Nat) : Int) := ⟨i.toNat - 1, by omega⟩
  have hj : j + 1 < a0_l.length := by omega
  have e : IntKind.i64.wrap (((j + 1 : Nat) : Int) - 1) = (j : Int) := by rw [show ((j + 1 : Nat) : Int) - 1 = (j : Int) from by omega]; exact qam (wf64 (by omega) (by omega))
  rw [e, ixN (by omega : j < a0_l.length), ixN hj]
  refine ⟨⟨by omega, by omega⟩, ⟨by omega, by omega⟩, fun _ => ⟨fun hc => ?_, fun hc => ⟨by omega, ⟨by omega, fun t ht hti => ?_⟩, by dsimp only; omega⟩⟩⟩
  ·cases hm : mayK a0_l with
   | false => rfl
   | true =>
     have := qed.2 (qel (by omega) hj hm (Nat.lt_succ_self j))
     omega
  ·by_cases he : t = j
   ·subst he
    exact qed.1 (by omega)
   ·exact h2 t ht (by omega)
 ·cases hm : mayK a0_l with
  | true => rfl
  | false =>
    obtain ⟨t, ht, hs⟩ := qhN hm
    rw [h2 t ht (by omega)] at hs
    cases hs
theorem quh : (∀ a, qgR.pre a → PM.wfP qgR.pm a (fvc qsB 200 29 qgR a (eqO qgR a))) = (∀ a : (List ((List UInt8) × List UInt8)) × Unit, True → (Ty.kd (.sl (.pr (.sl .byte) (.sl .byte)))).wf a.1 → qkU a.1 (fun o0 => o0 = (mayK (a.1)))) := by kernel_rfl
theorem qsC : qgR.valid Try.prog 29 := qau (X := qsB) (qaJ qal (fun b hb => by cases hb; exact qar) qas ⟨qsW, trivial⟩) 200 (quh.mpr fun a hp w_0 => @qui a.1 w_0)
noncomputable def qej : Ctr := ⟨[.bk 146 true, .v (.pr (.sl .byte) (.sl .byte))], [.v (.arr 32 .byte)], some (fun a => (fun (a0_k : qan) (a1_p : (List UInt8) × List UInt8) => (a1_p.1.length + a1_p.2.length ≤ 70368744177664 ∧ qaH a0_k : Prop)) a.1 a.2.1), fun a => (fun (a0_k : qan) (a1_p : (List UInt8) × List UInt8) => (((qbb a1_p), ()), ((qaG a0_k 4 [a1_p.1, a1_p.2]), ()))) a.1 a.2.1⟩
noncomputable def qo5 : Fx := ⟨seat, some bkT, fns, [(67, Of_C)], [], [], []⟩
def qiL (a0_k : qan) (a1_p : (List UInt8) × List UInt8) (Q : (List UInt8) → qan → Prop) : Prop :=
 ((1 : Nat) + qaj (a1_p.fst :: a1_p.snd :: ([] : List (List UInt8))) ≤ (140737488355328 : Nat) ∧ qaH a0_k) ∧ ((Ty.arr (32 : Nat) Ty.byte).kd.wf (qaw (4 : Int) (a1_p.fst :: a1_p.snd :: ([] : List (List UInt8)))) → Q (qaw (4 : Int) (a1_p.fst :: a1_p.snd :: ([] : List (List UInt8)))) (qaG a0_k (4 : Int) (a1_p.fst :: a1_p.snd :: ([] : List (List UInt8)))))
theorem qrw {a0_k : qan} {a1_p : (List UInt8) × List UInt8} (w_0 : (Ty.kd (.pr (.sl .byte) (.sl .byte))).wf a1_p) (hp : a1_p.1.length + a1_p.2.length ≤ 70368744177664 ∧ qaH a0_k) : qiL a0_k a1_p (fun o0 o1 => o0 = (qbb a1_p) ∧ o1 = (qaG a0_k 4 [a1_p.1, a1_p.2])) := by
 unfold qiL
 exact ⟨⟨by simp [qaj]; omega, hp.2⟩, fun _ => ⟨rfl, rfl⟩⟩
theorem qrv : (∀ a, qej.pre a → PM.wfP qej.pm a (fvc qo5 200 79 qej a (eqO qej a))) = (∀ a : qan × ((List UInt8) × List UInt8) × Unit, ((a.2.1).1.length + (a.2.1).2.length ≤ 70368744177664 ∧ qaH (a.1)) → (Ty.kd (.pr (.sl .byte) (.sl .byte))).wf a.2.1 → qiL a.1 a.2.1 (fun o0 o1 => o0 = (qbb (a.2.1)) ∧ o1 = (qaG (a.1) 4 [(a.2.1).1, (a.2.1).2]))) := by kernel_rfl
theorem qo6 : qej.valid Try.prog 79 := qau (X := qo5) (qaJ qal (fun b hb => by cases hb; exact qar) qas ⟨Of_k, trivial⟩) 200 (qrv.mpr fun a hp w_0 => @qrw a.1 a.2.1 w_0 hp)
noncomputable def qck : Ctr := ⟨[.bk 146 true, .v (.sl (.pr (.sl .byte) (.sl .byte)))], [.ow 24 (.arr 32 .byte)], some (fun a => (fun (a0_k : qan) (a1_l : List ((List UInt8) × List UInt8)) => ((a1_l.length ≤ 65536 ∧ (∀ p ∈ a1_l, p.1.length + p.2.length ≤ 70368744177664)) ∧ qah a0_k a1_l.length : Prop)) a.1 a.2.1), fun a => (fun (a0_k : qan) (a1_l : List ((List UInt8) × List UInt8)) => (((qaq a1_l), ()), ((qaU a0_k a1_l), ()))) a.1 a.2.1⟩
noncomputable def qjG : Fx := ⟨seat, some bkT, fns, [(79, qej)], [], [(3, [0], [])], []⟩
def qfx (a0_k : qan) (a1_l : List ((List UInt8) × List UInt8)) (Q : (List (List UInt8)) → qan → Prop) : Prop :=
 ∃ (x0 : List (List UInt8) → Int → qan → Prop), ∃ (x1 : List (List UInt8) → Int → qan → Nat), x0 ([] : List (List UInt8)) (0 : Int) a0_k ∧ ∀ (x2 : List (List UInt8)) (x3 : Int) (x4 : qan), x0 x2 x3 x4 → (Ty.arr (32 : Nat) Ty.byte).kd.sl.wf x2 → (Kd.int IntKind.i64).wf x3 → (x3 < (a1_l.length : Int) → ((0 : Int) ≤ x3 ∧ x3 < (a1_l.length : Int)) ∧ ((ix a1_l x3).fst.length + (ix a1_l x3).snd.length ≤ (70368744177664 : Nat) ∧ qaH x4) ∧ ((Ty.arr (32 : Nat) Ty.byte).kd.wf (qbb (ix a1_l x3)) → (x2.length + (qbb (ix a1_l x3) :: ([] : List (List UInt8))).length) * (32 : Nat) ≤ (140737488355328 : Nat) ∧ x3 < (9223372036854775807 : Int) ∧ x0 (x2 ++ qbb (ix a1_l x3) :: ([] : List (List UInt8))) (x3 + (1 : Int)) (qaG x4 (4 : Int) ((ix a1_l x3).fst :: (ix a1_l x3).snd :: ([] : List (List UInt8)))) ∧ x1 (x2 ++ qbb (ix a1_l x3) :: ([] : List (List UInt8))) (x3 + (1 : Int)) (qaG x4 (4 : Int) ((ix a1_l x3).fst :: (ix a1_l x3).snd :: ([] : List (List UInt8)))) < x1 x2 x3 x4)) ∧ (¬x3 < (a1_l.length : Int) → Q x2 x4)
theorem qmY {a0_k : qan} {a1_l : List ((List UInt8) × List UInt8)} (w_0 : (Ty.kd (.sl (.pr (.sl .byte) (.sl .byte)))).wf a1_l) (hp : (a1_l.length ≤ 65536 ∧ (∀ p ∈ a1_l, p.1.length + p.2.length ≤ 70368744177664)) ∧ qah a0_k a1_l.length) : qfx a0_k a1_l (fun o0 o1 => o0 = (qaq a1_l) ∧ o1 = (qaU a0_k a1_l)) := by
 unfold qfx
 obtain ⟨⟨hl, hs⟩, hb⟩ := hp
 refine ⟨fun out i k => ∃ j : Nat, i = (j : Int) ∧ j ≤ a1_l.length ∧ out = qaq (a1_l.take j) ∧ k = qaU a0_k (a1_l.take j) ∧ qah k (a1_l.length - j), fun _ i _ => ((a1_l.length : Int) - i).toNat, ⟨0, rfl, Nat.zero_le _, rfl, rfl, hb⟩, ?_⟩
 rintro out i k ⟨j, rfl, hj, rfl, rfl, hk⟩ _ _
 refine ⟨fun hlt => ?_, fun hge => ?_⟩
 ·have hj' : j < a1_l.length := by omega
  have e : a1_l.take (j + 1) = a1_l.take j ++ [a1_l[j]] := by rw [List.take_add_one, List.getElem?_eq_getElem hj']; rfl
  have hu : qah (qaU a0_k (a1_l.take j)) ((a1_l.length - (j + 1)) + 1) := hk.le (by omega)
  rw [ixN hj']
  refine ⟨⟨by omega, by omega⟩, ⟨hs _ (List.getElem_mem hj'), hu.room⟩, fun _ => ⟨by rw [qa4, List.length_take]; simp; omega, by omega, ⟨j + 1, rfl, hj', ?_, ?_, hu.of _ _⟩, by dsimp only; omega⟩⟩
  ·rw [e]; unfold qaq; rw [List.map_append]; rfl
  ·rw [e]; unfold qaU; rw [List.foldl_append]; rfl
 ·obtain rfl : j = a1_l.length := by omega
  rw [List.take_length]
  exact ⟨rfl, rfl⟩
theorem qmX : (∀ a, qck.pre a → PM.wfP qck.pm a (fvc qjG 200 81 qck a (eqO qck a))) = (∀ a : qan × (List ((List UInt8) × List UInt8)) × Unit, (((a.2.1).length ≤ 65536 ∧ (∀ p ∈ (a.2.1), p.1.length + p.2.length ≤ 70368744177664)) ∧ qah (a.1) (a.2.1).length) → (Ty.kd (.sl (.pr (.sl .byte) (.sl .byte)))).wf a.2.1 → qfx a.1 a.2.1 (fun o0 o1 => o0 = (qaq (a.2.1)) ∧ o1 = (qaU (a.1) (a.2.1)))) := by kernel_rfl
theorem qjH : qck.valid Try.prog 81 := qau (X := qjG) (qaJ qal (fun b hb => by cases hb; exact qar) qas ⟨qo6, trivial⟩) 200 (qmX.mpr fun a hp w_0 => @qmY a.1 a.2.1 w_0 hp)
noncomputable def qdg : Ctr := ⟨[.bk 146 true, .v (.int .i64), .v (.arr 32 .byte)], [.v (.arr 32 .byte)], some (fun a => (fun (a0_k : qan) (a1_n : Int) (a2_t : List UInt8) => (0 ≤ a1_n ∧ qaH a0_k : Prop)) a.1 a.2.1 a.2.2.1), fun a => (fun (a0_k : qan) (a1_n : Int) (a2_t : List UInt8) => (((qcr a1_n a2_t), ()), ((qaG a0_k 5 [numB a1_n.toNat, a2_t]), ()))) a.1 a.2.1 a.2.2.1⟩
noncomputable def ql7 : Fx := ⟨seat, some bkT, fns, [(62, qji), (67, Of_C)], [], [], [(1, [0, 1, 2], [.o 0 3, .o 1 2, .o 2 2, .o 5 2, .o 3 0, .o 4 0, .o 6 1, .o 7 1, .o 8 1])]⟩
def qgT (a0_k : qan) (a1_n : Int) (a2_t : List UInt8) (Q : (List UInt8) → qan → Prop) : Prop :=
 ([] : List UInt8).length + (9 : Nat) * (IntKind.u64.wrap a1_n :: ([] : List Int)).length ≤ (140737488355328 : Nat) ∧ (Ty.byte.kd.sl.wf (([] : List UInt8) ++ qaf (IntKind.u64.wrap a1_n :: ([] : List Int))) → ((1 : Nat) + qaj ((([] : List UInt8) ++ qaf (IntKind.u64.wrap a1_n :: ([] : List Int))) :: a2_t :: ([] : List (List UInt8))) ≤ (140737488355328 : Nat) ∧ qaH a0_k) ∧ ((Ty.arr (32 : Nat) Ty.byte).kd.wf (qaw (5 : Int) ((([] : List UInt8) ++ qaf (IntKind.u64.wrap a1_n :: ([] : List Int))) :: a2_t :: ([] : List (List UInt8)))) → Q (qaw (5 : Int) ((([] : List UInt8) ++ qaf (IntKind.u64.wrap a1_n :: ([] : List Int))) :: a2_t :: ([] : List (List UInt8)))) (qaG a0_k (5 : Int) ((([] : List UInt8) ++ qaf (IntKind.u64.wrap a1_n :: ([] : List Int))) :: a2_t :: ([] : List (List UInt8))))))
theorem qo9 {a0_k : qan} {a1_n : Int} {a2_t : List UInt8} (w_0 : (Ty.kd (.int .i64)).wf a1_n) (w_1 : (Ty.kd (.arr 32 .byte)).wf a2_t) (hp : 0 ≤ a1_n ∧ qaH a0_k) : qgT a0_k a1_n a2_t (fun o0 o1 => o0 = (qcr a1_n a2_t) ∧ o1 = (qaG a0_k 5 [numB a1_n.toNat, a2_t])) := by
 have e : IntKind.u64.wrap a1_n = a1_n := qam ⟨hp.1, by have : a1_n ≤ 9223372036854775807 := w_0.2; show _ ≤ (18446744073709551615 : Int); omega⟩
 have hl := qaC (n := a1_n.toNat) (by have : a1_n ≤ 9223372036854775807 := w_0.2; omega)
 have ht : a2_t.length = 32 := w_1.1
 unfold qgT
 rw [e]
 refine ⟨by simp, fun _ => ⟨⟨by simp [qaj, qaf]; omega, hp.2⟩, fun _ => ?_⟩⟩
 first
  | (simp [qaf]; done)
  | (simp [qaf, qcr]; done)
theorem qo8 : (∀ a, qdg.pre a → PM.wfP qdg.pm a (fvc ql7 200 80 qdg a (eqO qdg a))) = (∀ a : qan × Int × (List UInt8) × Unit, (0 ≤ (a.2.1) ∧ qaH (a.1)) → (Ty.kd (.int .i64)).wf a.2.1 → (Ty.kd (.arr 32 .byte)).wf a.2.2.1 → qgT a.1 a.2.1 a.2.2.1 (fun o0 o1 => o0 = (qcr (a.2.1) (a.2.2.1)) ∧ o1 = (qaG (a.1) 5 [numB (a.2.1).toNat, (a.2.2.1)]))) := by kernel_rfl
theorem ql8 : qdg.valid Try.prog 80 := qau (X := ql7) (qaJ qal (fun b hb => by cases hb; exact qar) qas ⟨qte, Of_k, trivial⟩) 200 (qo8.mpr fun a hp w_0 w_1 => @qo9 a.1 a.2.1 a.2.2.1 w_0 w_1 hp)
noncomputable def qfv : Ctr := ⟨[.bk 146 true, .v (.sl (.pr (.sl .byte) (.sl .byte)))], [.v (.arr 32 .byte)], some (fun a => (fun (a0_k : qan) (a1_l : List ((List UInt8) × List UInt8)) => ((a1_l.length ≤ 65536 ∧ (∀ p ∈ a1_l, p.1.length + p.2.length ≤ 70368744177664)) ∧ qah a0_k (2 * a1_l.length + 2) : Prop)) a.1 a.2.1), fun a => (fun (a0_k : qan) (a1_l : List ((List UInt8) × List UInt8)) => (((qa8 a1_l), ()), ((qk6 a0_k a1_l), ()))) a.1 a.2.1⟩
noncomputable def qoY : Fx := ⟨seat, some bkT, fns, [(81, qck), (58, qie), (58, qly), (80, qdg)], [], [], []⟩
def qiJ (a0_k : qan) (a1_l : List ((List UInt8) × List UInt8)) (Q : (List UInt8) → qan → Prop) : Prop :=
 ((a1_l.length ≤ (65536 : Nat) ∧ ∀ (x0 : List UInt8 × List UInt8), x0 ∈ a1_l → x0.fst.length + x0.snd.length ≤ (70368744177664 : Nat)) ∧ qah a0_k a1_l.length) ∧ ((Ty.arr (32 : Nat) Ty.byte).kd.sl.wf (qaq a1_l) → ((qaq a1_l).length ≤ (1048576 : Nat) ∧ qah (qaU a0_k a1_l) (qaq a1_l).length) ∧ ((Ty.arr (32 : Nat) Ty.byte).kd.wf (qaK (qaq a1_l)) → ((0 : Int) ≤ (a1_l.length : Int) ∧ qaH (qaT (qaU a0_k a1_l) (qaq a1_l))) ∧ ((Ty.arr (32 : Nat) Ty.byte).kd.wf (qcr (a1_l.length : Int) (qaK (qaq a1_l))) → Q (qcr (a1_l.length : Int) (qaK (qaq a1_l))) (qaG (qaT (qaU a0_k a1_l) (qaq a1_l)) (5 : Int) (numB (a1_l.length : Int).toNat :: qaK (qaq a1_l) :: ([] : List (List UInt8)))))))
theorem qrr {a0_k : qan} {a1_l : List ((List UInt8) × List UInt8)} (w_0 : (Ty.kd (.sl (.pr (.sl .byte) (.sl .byte)))).wf a1_l) (hp : (a1_l.length ≤ 65536 ∧ (∀ p ∈ a1_l, p.1.length + p.2.length ≤ 70368744177664)) ∧ qah a0_k (2 * a1_l.length + 2)) : qiJ a0_k a1_l (fun o0 o1 => o0 = (qa8 a1_l) ∧ o1 = (qk6 a0_k a1_l)) := by
 unfold qiJ
 obtain ⟨⟨hl, hs⟩, hb⟩ := hp
 have hb1 : qah (qaU a0_k a1_l) (a1_l.length + 2) := qah.leaves (l := a1_l) (n := a1_l.length + 2) (hb.le (by omega))
 refine ⟨⟨⟨hl, hs⟩, hb.le (by omega)⟩, fun _ => ⟨⟨by rw [qa4]; omega, by rw [qa4]; exact hb1.le (by omega)⟩, fun _ => ⟨⟨by omega, ?_⟩, fun _ => ⟨rfl, rfl⟩⟩⟩⟩
 by_cases h0 : 1 ≤ (qaq a1_l).length
 ·exact (qah.root (n := 0) (qaq a1_l).length (Nat.le_refl _) h0 (hb1.le (by rw [qa4]; omega))).room
 ·have e : qaq a1_l = [] := List.length_eq_zero_iff.1 (by omega)
  rw [e, qbz]
  exact ((hb1.le (by omega) : qah (qaU a0_k a1_l) (0 + 1)).of _ _).room
theorem qrq : (∀ a, qfv.pre a → PM.wfP qfv.pm a (fvc qoY 200 32 qfv a (eqO qfv a))) = (∀ a : qan × (List ((List UInt8) × List UInt8)) × Unit, (((a.2.1).length ≤ 65536 ∧ (∀ p ∈ (a.2.1), p.1.length + p.2.length ≤ 70368744177664)) ∧ qah (a.1) (2 * (a.2.1).length + 2)) → (Ty.kd (.sl (.pr (.sl .byte) (.sl .byte)))).wf a.2.1 → qiJ a.1 a.2.1 (fun o0 o1 => o0 = (qa8 (a.2.1)) ∧ o1 = (qk6 (a.1) (a.2.1)))) := by kernel_rfl
theorem qoZ : qfv.valid Try.prog 32 := qau (X := qoY) (qaJ qal (fun b hb => by cases hb; exact qar) qas ⟨qjH, qkn, qlz, ql8, trivial⟩) 200 (qrq.mpr fun a hp w_0 => @qrr a.1 a.2.1 w_0 hp)
noncomputable def qdf : Ctr := ⟨[.v (.pr (.sl .byte) (.sl .byte)), .v (.sl .byte)], [.v (.int .i64)], none, fun a => (fun (a0_p : (List UInt8) × List UInt8) (a1_key : List UInt8) => (((cmpB a0_p.1 a1_key), ()), (()))) a.1 a.2.1⟩
noncomputable def ql5 : Fx := ⟨seat, some bkT, fns, [(75, qp3)], [], [], []⟩
def qgS (a0_p : (List UInt8) × List UInt8) (a1_key : List UInt8) (Q : Int → Prop) : Prop :=
 (Ty.int IntKind.i64).kd.wf (cmpB a0_p.fst a1_key) → Q (cmpB a0_p.fst a1_key)
theorem qo1 {a0_p : (List UInt8) × List UInt8} {a1_key : List UInt8} (w_0 : (Ty.kd (.pr (.sl .byte) (.sl .byte))).wf a0_p) (w_1 : (Ty.kd (.sl .byte)).wf a1_key) : qgS a0_p a1_key (fun o0 => o0 = (cmpB a0_p.1 a1_key)) := by
 unfold qgS
 exact fun _ => rfl
theorem qo0 : (∀ a, qdf.pre a → PM.wfP qdf.pm a (fvc ql5 200 83 qdf a (eqO qdf a))) = (∀ a : ((List UInt8) × List UInt8) × (List UInt8) × Unit, True → (Ty.kd (.pr (.sl .byte) (.sl .byte))).wf a.1 → (Ty.kd (.sl .byte)).wf a.2.1 → qgS a.1 a.2.1 (fun o0 => o0 = (cmpB (a.1).1 (a.2.1)))) := by kernel_rfl
theorem ql6 : qdf.valid Try.prog 83 := qau (X := ql5) (qaJ qal (fun b hb => by cases hb; exact qar) qas ⟨qsW, trivial⟩) 200 (qo0.mpr fun a hp w_0 w_1 => @qo1 a.1 a.2.1 w_0 w_1)
noncomputable def qhq : Ctr := ⟨[.v (.sl (.pr (.sl .byte) (.sl .byte))), .v (.sl .byte), .fn 83 []], [.v (.int .i64), .v .bool], some (fun a => (fun (a0_x : List ((List UInt8) × List UInt8)) (a1_target : List UInt8) => (mayK a0_x = true ∧ a0_x.length ≤ 1048576 : Prop)) a.1 a.2.1), fun a => (fun (a0_x : List ((List UInt8) × List UInt8)) (a1_target : List UInt8) => ((((lowK a0_x a1_target : Nat) : Int), (isK a0_x a1_target), ()), (()))) a.1 a.2.1⟩
noncomputable def qr9 : Fx := ⟨seat, some bkT, fns, [(83, qdf)], [], [], []⟩
def qj9 (a0_x : List ((List UInt8) × List UInt8)) (a1_target : List UInt8) (Q : Int → Bool → Prop) : Prop :=
 ∃ (x0 : Int → Int → Prop), ∃ (x1 : Int → Int → Nat), x0 (0 : Int) (a0_x.length : Int) ∧ ∀ (x2 x3 : Int), x0 x2 x3 → (Kd.int IntKind.i64).wf x2 → (Kd.int IntKind.i64).wf x3 → (x2 < x3 → ((0 : Int) ≤ IntKind.i64.wrap (shr IntKind.u64 (IntKind.u64.wrap (IntKind.i64.wrap (x2 + x3))) (1 : Int)) ∧ IntKind.i64.wrap (shr IntKind.u64 (IntKind.u64.wrap (IntKind.i64.wrap (x2 + x3))) (1 : Int)) < (a0_x.length : Int)) ∧ ((Ty.int IntKind.i64).kd.wf (cmpB (ix a0_x (IntKind.i64.wrap (shr IntKind.u64 (IntKind.u64.wrap (IntKind.i64.wrap (x2 + x3))) (1 : Int)))).fst a1_target) → (cmpB (ix a0_x (IntKind.i64.wrap (shr IntKind.u64 (IntKind.u64.wrap (IntKind.i64.wrap (x2 + x3))) (1 : Int)))).fst a1_target < (0 : Int) → x0 (IntKind.i64.wrap (IntKind.i64.wrap (shr IntKind.u64 (IntKind.u64.wrap (IntKind.i64.wrap (x2 + x3))) (1 : Int)) + (1 : Int))) x3 ∧ x1 (IntKind.i64.wrap (IntKind.i64.wrap (shr IntKind.u64 (IntKind.u64.wrap (IntKind.i64.wrap (x2 + x3))) (1 : Int)) + (1 : Int))) x3 < x1 x2 x3) ∧ (¬cmpB (ix a0_x (IntKind.i64.wrap (shr IntKind.u64 (IntKind.u64.wrap (IntKind.i64.wrap (x2 + x3))) (1 : Int)))).fst a1_target < (0 : Int) → x0 x2 (IntKind.i64.wrap (shr IntKind.u64 (IntKind.u64.wrap (IntKind.i64.wrap (x2 + x3))) (1 : Int))) ∧ x1 x2 (IntKind.i64.wrap (shr IntKind.u64 (IntKind.u64.wrap (IntKind.i64.wrap (x2 + x3))) (1 : Int))) < x1 x2 x3))) ∧ (¬x2 < x3 → (x2 < (a0_x.length : Int) → ((0 : Int) ≤ x2 ∧ x2 < (a0_x.length : Int)) ∧ ((Ty.int IntKind.i64).kd.wf (cmpB (ix a0_x x2).fst a1_target) → Q x2 (decide (cmpB (ix a0_x x2).fst a1_target = (0 : Int))))) ∧ (¬x2 < (a0_x.length : Int) → Q x2 false))
theorem qsS {a0_x : List ((List UInt8) × List UInt8)} {a1_target : List UInt8} (w_0 : (Ty.kd (.sl (.pr (.sl .byte) (.sl .byte)))).wf a0_x) (w_1 : (Ty.kd (.sl .byte)).wf a1_target) (hp : mayK a0_x = true ∧ a0_x.length ≤ 1048576) : qj9 a0_x a1_target (fun o0 o1 => o0 = ((lowK a0_x a1_target : Nat) : Int) ∧ o1 = (isK a0_x a1_target)) := by
 unfold qj9
 obtain ⟨hm, hl⟩ := hp
 have mid : ∀ i j : Nat, i < j → j ≤ a0_x.length → IntKind.i64.wrap (shr IntKind.u64 (IntKind.u64.wrap (IntKind.i64.wrap ((i : Int) + (j : Int)))) (1 : Int)) = (((i + j) / 2 : Nat) : Int) := fun i j h1 h2 => by
  rw [qam (ik := .i64) (a := (i : Int) + (j : Int)) (wf64 (by omega) (by omega)), show ((i : Int) + (j : Int)) = ((i + j : Nat) : Int) from by omega, qam (ik := .u64) ⟨by show (0 : Int) ≤ _; omega, by show _ ≤ (18446744073709551615 : Int); omega⟩]
  have := qg7 (n := i + j) (k := 1) (by decide)
  rw [show ((1 : Nat) : Int) = 1 from rfl] at this
  rw [this]
  exact qam (wf64 (by omega) (by omega))
 refine ⟨fun x y => ∃ i j : Nat, x = (i : Int) ∧ y = (j : Int) ∧ i ≤ j ∧ j ≤ a0_x.length ∧ (∀ (t : Nat) (h : t < a0_x.length), t < i → sless a0_x[t].1 a1_target = true) ∧ (∀ (t : Nat) (h : t < a0_x.length), j ≤ t → sless a0_x[t].1 a1_target = false), fun x y => (y - x).toNat, ⟨0, a0_x.length, rfl, rfl, Nat.zero_le _, Nat.le_refl _, fun t h ht => by omega, fun t h ht => by omega⟩, ?_⟩
 rintro x y ⟨i, j, rfl, rfl, hij, hj, h1, h2⟩ _ _
 refine ⟨fun hlt => ?_, fun hge => ?_⟩
 ·have hij' : i < j := by omega
  rw [mid i j hij' hj]
  have b1 : i ≤ (i + j) / 2 := by omega
  have b2 : (i + j) / 2 < j := by omega
  generalize (i + j) / 2 = h at b1 b2 ⊢
  have hh : h < a0_x.length := by omega
  rw [ixN hh]
  have e : IntKind.i64.wrap ((h : Int) + 1) = ((h + 1 : Nat) : Int) := by rw [show (h : Int) + 1 = ((h + 1 : Nat) : Int) from by omega]; exact qam (wf64 (by omega) (by omega))
  rw [e]
  refine ⟨⟨by omega, by omega⟩, fun _ => ⟨fun hc => ⟨⟨h + 1, j, rfl, rfl, by omega, hj, fun t ht hti => ?_, h2⟩, by dsimp only; omega⟩, fun hc => ⟨⟨i, h, rfl, rfl, b1, by omega, h1, fun t ht hti => ?_⟩, by dsimp only; omega⟩⟩⟩
  ·have hs := qed.1 hc
   by_cases he : t = h
   ·subst he; exact hs
   ·exact qcp (qel ht hh hm (by omega)) hs
  ·cases hs : sless a0_x[t].1 a1_target with
   | false => rfl
   | true =>
     refine absurd (qed.2 ?_) hc
     by_cases he : t = h
     ·subst he; exact hs
     ·exact qcp (qel hh ht hm (by omega)) hs
 ·obtain rfl : i = j := by omega
  have hlow : lowK a0_x a1_target = i := qiN hj h1 (fun h => h2 i h (Nat.le_refl i))
  refine ⟨fun h => ⟨⟨by omega, by omega⟩, fun _ => ⟨by rw [hlow], ?_⟩⟩, fun h => ⟨by rw [hlow], ?_⟩⟩
  ·unfold isK
   rw [hlow, ixN (by omega : i < a0_x.length)]
   simp only [show i < a0_x.length from by omega, decide_true, Bool.true_and]
   exact decide_eq_decide.2 qon
  ·unfold isK
   rw [hlow]
   simp only [show ¬ i < a0_x.length from by omega, decide_false, Bool.false_and]
theorem qsR : (∀ a, qhq.pre a → PM.wfP qhq.pm a (fvc qr9 200 82 qhq a (eqO qhq a))) = (∀ a : (List ((List UInt8) × List UInt8)) × (List UInt8) × Unit × Unit, (mayK (a.1) = true ∧ (a.1).length ≤ 1048576) → (Ty.kd (.sl (.pr (.sl .byte) (.sl .byte)))).wf a.1 → (Ty.kd (.sl .byte)).wf a.2.1 → qj9 a.1 a.2.1 (fun o0 o1 => o0 = ((lowK (a.1) (a.2.1) : Nat) : Int) ∧ o1 = (isK (a.1) (a.2.1)))) := by kernel_rfl
theorem qu0 : qhq.valid Try.prog 82 := qau (X := qr9) (qaJ qal (fun b hb => by cases hb; exact qar) qas ⟨ql6, trivial⟩) 200 (qsR.mpr fun a hp w_0 w_1 => @qsS a.1 a.2.1 w_0 w_1 hp)
noncomputable def qfw : Ctr := ⟨[.nil, .v (.sl (.pr (.sl .byte) (.sl .byte))), .v (.sl .byte)], [.v (.pr (.int .i64) (.sl (.pr (.int .i64) (.pr (.pr (.sl .byte) (.sl .byte)) (.sl (.arr 32 .byte))))))], some (fun a => (fun (a1_l : List ((List UInt8) × List UInt8)) (a2_key : List UInt8) => (a1_l.length ≤ 65536 ∧ (∀ p ∈ a1_l, p.1.length + p.2.length ≤ 70368744177664) : Prop)) a.2.1 a.2.2.1), fun a => (fun (a1_l : List ((List UInt8) × List UInt8)) (a2_key : List UInt8) => (((qaF a1_l a2_key), ()), (()))) a.2.1 a.2.2.1⟩
noncomputable def qo2 : Fx := ⟨{ seat with rws := [3000011, 4000037] }, some bkT, fns, [(29, qgR), (82, qhq), (83, qdf), (81, qck), (84, qnB), (84, qeZ), (69, qb0)], [], [(10, [2], [])], [(13, [7], [.o 0 2, .o 1 2, .o 2 2, .o 3 2, .o 4 2, .o 6 2, .o 7 2, .o 8 2, .o 9 2, .o 10 2, .o 5 0, .o 12 2, .o 13 2, .o 11 0, .o 14 1, .o 15 3, .o 16 3, .o 17 1])]⟩
def qiK (a1_l : List ((List UInt8) × List UInt8)) (a2_key : List UInt8) (Q : (Int × List (Int × ((List UInt8) × List UInt8) × List (List UInt8))) → Prop) : Prop :=
 (¬mayK a1_l = true → Q ((Ty.int IntKind.i64).pr ((Ty.int IntKind.i64).pr ((Ty.byte.sl.pr Ty.byte.sl).pr (Ty.arr (32 : Nat) Ty.byte).sl)).sl).kd.z) ∧ (mayK a1_l = true → (mayK a1_l = true ∧ a1_l.length ≤ (1048576 : Nat)) ∧ ((Ty.int IntKind.i64).kd.wf (lowK a1_l a2_key : Int) → (isK a1_l a2_key = true → ((a1_l.length ≤ (65536 : Nat) ∧ ∀ (x0 : List UInt8 × List UInt8), x0 ∈ a1_l → x0.fst.length + x0.snd.length ≤ (70368744177664 : Nat)) ∧ qah (none : Option (List Nt × Int)) a1_l.length) ∧ ((Ty.arr (32 : Nat) Ty.byte).kd.sl.wf (qaq a1_l) → ∃ (x0 : Int → List (Int × (List UInt8 × List UInt8) × List (List UInt8)) → Int × Unit → Prop), ∃ (x1 : Int → List (Int × (List UInt8 × List UInt8) × List (List UInt8)) → Int × Unit → Nat), x0 (lowK a1_l a2_key : Int) ([] : List (Int × (List UInt8 × List UInt8) × List (List UInt8))) ((a1_l.length : Int), ()) ∧ ∀ (x2 : Int) (x3 : List (Int × (List UInt8 × List UInt8) × List (List UInt8))) (x4 : Int × Unit), x0 x2 x3 x4 → (Kd.int IntKind.i64).wf x2 → ((Ty.int IntKind.i64).pr ((Ty.byte.sl.pr Ty.byte.sl).pr (Ty.arr (32 : Nat) Ty.byte).sl)).kd.sl.wf x3 → ((x2 < bif false then max (IntKind.i64.wrap ((lowK a1_l a2_key : Int) + (1 : Int))) (a1_l.length : Int) else min (IntKind.i64.wrap ((lowK a1_l a2_key : Int) + (1 : Int))) (a1_l.length : Int)) → (qaq a1_l).length ≤ (1048576 : Nat) ∧ ((Ty.arr (32 : Nat) Ty.byte).kd.sl.wf (qbJ (qaq a1_l) x2) → ((0 : Int) ≤ x2 ∧ x2 < (a1_l.length : Int)) ∧ ((0 : Int) ≤ x2 ∧ x2 < (a1_l.length : Int)) ∧ (ix a1_l x2).fst.length ≤ (140737488355328 : Nat) ∧ (Ty.byte.kd.sl.wf (ix a1_l x2).fst → (ix a1_l x2).snd.length ≤ (140737488355328 : Nat) ∧ (Ty.byte.kd.sl.wf (ix a1_l x2).snd → (x3.length + ((x2, ((ix a1_l x2).fst, (ix a1_l x2).snd), qbJ (qaq a1_l) x2) :: ([] : List (Int × (List UInt8 × List UInt8) × List (List UInt8)))).length) * (80 : Nat) ≤ (140737488355328 : Nat) ∧ x2 < (9223372036854775807 : Int) ∧ x0 (x2 + (1 : Int)) (x3 ++ (x2, ((ix a1_l x2).fst, (ix a1_l x2).snd), qbJ (qaq a1_l) x2) :: ([] : List (Int × (List UInt8 × List UInt8) × List (List UInt8)))) (x4.fst, x4.snd) ∧ x1 (x2 + (1 : Int)) (x3 ++ (x2, ((ix a1_l x2).fst, (ix a1_l x2).snd), qbJ (qaq a1_l) x2) :: ([] : List (Int × (List UInt8 × List UInt8) × List (List UInt8)))) (x4.fst, x4.snd) < x1 x2 x3 x4)))) ∧ ((¬x2 < bif false then max (IntKind.i64.wrap ((lowK a1_l a2_key : Int) + (1 : Int))) (a1_l.length : Int) else min (IntKind.i64.wrap ((lowK a1_l a2_key : Int) + (1 : Int))) (a1_l.length : Int)) → Q (x4.fst, x3)))) ∧ (isK a1_l a2_key = false → ((a1_l.length ≤ (65536 : Nat) ∧ ∀ (x0 : List UInt8 × List UInt8), x0 ∈ a1_l → x0.fst.length + x0.snd.length ≤ (70368744177664 : Nat)) ∧ qah (none : Option (List Nt × Int)) a1_l.length) ∧ ((Ty.arr (32 : Nat) Ty.byte).kd.sl.wf (qaq a1_l) → ∃ (x0 : Int → List (Int × (List UInt8 × List UInt8) × List (List UInt8)) → Int × Unit → Prop), ∃ (x1 : Int → List (Int × (List UInt8 × List UInt8) × List (List UInt8)) → Int × Unit → Nat), x0 (bif true then max (IntKind.i64.wrap ((lowK a1_l a2_key : Int) - (1 : Int))) (0 : Int) else min (IntKind.i64.wrap ((lowK a1_l a2_key : Int) - (1 : Int))) (0 : Int)) ([] : List (Int × (List UInt8 × List UInt8) × List (List UInt8))) ((a1_l.length : Int), ()) ∧ ∀ (x2 : Int) (x3 : List (Int × (List UInt8 × List UInt8) × List (List UInt8))) (x4 : Int × Unit), x0 x2 x3 x4 → (Kd.int IntKind.i64).wf x2 → ((Ty.int IntKind.i64).pr ((Ty.byte.sl.pr Ty.byte.sl).pr (Ty.arr (32 : Nat) Ty.byte).sl)).kd.sl.wf x3 → ((x2 < bif false then max (IntKind.i64.wrap ((lowK a1_l a2_key : Int) + (1 : Int))) (a1_l.length : Int) else min (IntKind.i64.wrap ((lowK a1_l a2_key : Int) + (1 : Int))) (a1_l.length : Int)) → (qaq a1_l).length ≤ (1048576 : Nat) ∧ ((Ty.arr (32 : Nat) Ty.byte).kd.sl.wf (qbJ (qaq a1_l) x2) → ((0 : Int) ≤ x2 ∧ x2 < (a1_l.length : Int)) ∧ ((0 : Int) ≤ x2 ∧ x2 < (a1_l.length : Int)) ∧ (ix a1_l x2).fst.length ≤ (140737488355328 : Nat) ∧ (Ty.byte.kd.sl.wf (ix a1_l x2).fst → (ix a1_l x2).snd.length ≤ (140737488355328 : Nat) ∧ (Ty.byte.kd.sl.wf (ix a1_l x2).snd → (x3.length + ((x2, ((ix a1_l x2).fst, (ix a1_l x2).snd), qbJ (qaq a1_l) x2) :: ([] : List (Int × (List UInt8 × List UInt8) × List (List UInt8)))).length) * (80 : Nat) ≤ (140737488355328 : Nat) ∧ x2 < (9223372036854775807 : Int) ∧ x0 (x2 + (1 : Int)) (x3 ++ (x2, ((ix a1_l x2).fst, (ix a1_l x2).snd), qbJ (qaq a1_l) x2) :: ([] : List (Int × (List UInt8 × List UInt8) × List (List UInt8)))) (x4.fst, x4.snd) ∧ x1 (x2 + (1 : Int)) (x3 ++ (x2, ((ix a1_l x2).fst, (ix a1_l x2).snd), qbJ (qaq a1_l) x2) :: ([] : List (Int × (List UInt8 × List UInt8) × List (List UInt8)))) (x4.fst, x4.snd) < x1 x2 x3 x4)))) ∧ ((¬x2 < bif false then max (IntKind.i64.wrap ((lowK a1_l a2_key : Int) + (1 : Int))) (a1_l.length : Int) else min (IntKind.i64.wrap ((lowK a1_l a2_key : Int) + (1 : Int))) (a1_l.length : Int)) → Q (x4.fst, x3))))))
theorem qrt {a1_l : List ((List UInt8) × List UInt8)} {a2_key : List UInt8} (w_0 : (Ty.kd (.sl (.pr (.sl .byte) (.sl .byte)))).wf a1_l) (w_1 : (Ty.kd (.sl .byte)).wf a2_key) (hp : a1_l.length ≤ 65536 ∧ (∀ p ∈ a1_l, p.1.length + p.2.length ≤ 70368744177664)) : qiK a1_l a2_key (fun o0 => o0 = (qaF a1_l a2_key)) := by
 unfold qiK
 obtain ⟨hl, hs⟩ := hp
 have hw : ∀ m : Int, -1 ≤ m → m ≤ 65537 → IntKind.i64.wrap m = m := fun m h1 h2 => qam (wf64 (by omega) (by omega))
 refine ⟨fun hm => ?_, fun hm => ⟨⟨hm, by omega⟩, fun _ => ?_⟩⟩
 ·unfold qaF
  rw [if_neg hm]
  rfl
 have hlow := qkX a1_l a2_key
 have eto : (bif false then max (IntKind.i64.wrap ((lowK a1_l a2_key : Int) + (1 : Int))) (a1_l.length : Int) else min (IntKind.i64.wrap ((lowK a1_l a2_key : Int) + (1 : Int))) (a1_l.length : Int)) = ((toK a1_l a2_key : Nat) : Int) := by
  rw [hw _ (by omega) (by omega)]
  show min _ _ = _
  unfold toK
  omega
 have efr : (bif true then max (IntKind.i64.wrap ((lowK a1_l a2_key : Int) - (1 : Int))) (0 : Int) else min (IntKind.i64.wrap ((lowK a1_l a2_key : Int) - (1 : Int))) (0 : Int)) = ((lowK a1_l a2_key - 1 : Nat) : Int) := by
  rw [hw _ (by omega) (by omega)]
  show max _ _ = _
  omega
 rw [eto, efr]
 have hto : toK a1_l a2_key ≤ a1_l.length := by unfold toK; omega
 have hft : qbs a1_l a2_key ≤ toK a1_l a2_key := by
  unfold qbs toK
  cases hi : isK a1_l a2_key with
  | true =>
    have : lowK a1_l a2_key < a1_l.length := by
     unfold isK at hi
     simp only [Bool.and_eq_true, decide_eq_true_eq] at hi
     exact hi.1
    simp only [if_true]
    omega
  | false => simp only [Bool.false_eq_true, if_false]; omega
 have step : ∀ (x0 : Int → List (Int × (List UInt8 × List UInt8) × List (List UInt8)) → Int × Unit → Prop) (x1 : Int → List (Int × (List UInt8 × List UInt8) × List (List UInt8)) → Int × Unit → Nat),
  (x0 = fun i out c => ∃ j : Nat, i = (j : Int) ∧ qbs a1_l a2_key ≤ j ∧ j ≤ toK a1_l a2_key ∧ out = (List.range' (qbs a1_l a2_key) (j - qbs a1_l a2_key)).map (qdE a1_l) ∧ c = ((a1_l.length : Int), ())) →
  (x1 = fun i _ _ => ((a1_l.length : Int) - i).toNat) → ∀ x2 x3 x4, x0 x2 x3 x4 → (x2 < ((toK a1_l a2_key : Nat) : Int) → (qaq a1_l).length ≤ (1048576 : Nat) ∧ ((0 : Int) ≤ x2 ∧ x2 < (a1_l.length : Int)) ∧ (ix a1_l x2).fst.length ≤ (140737488355328 : Nat) ∧ (ix a1_l x2).snd.length ≤ (140737488355328 : Nat) ∧ (x3.length + ((x2, ((ix a1_l x2).fst, (ix a1_l x2).snd), qbJ (qaq a1_l) x2) :: ([] : List (Int × (List UInt8 × List UInt8) × List (List UInt8)))).length) * (80 : Nat) ≤ (140737488355328 : Nat) ∧ x2 < (9223372036854775807 : Int) ∧ x0 (x2 + (1 : Int)) (x3 ++ (x2, ((ix a1_l x2).fst, (ix a1_l x2).snd), qbJ (qaq a1_l) x2) :: ([] : List (Int × (List UInt8 × List UInt8) × List (List UInt8)))) (x4.fst, x4.snd) ∧ x1 (x2 + (1 : Int)) (x3 ++ (x2, ((ix a1_l x2).fst, (ix a1_l x2).snd), qbJ (qaq a1_l) x2) :: ([] : List (Int × (List UInt8 × List UInt8) × List (List UInt8)))) (x4.fst, x4.snd) < x1 x2 x3 x4) ∧ (¬ x2 < ((toK a1_l a2_key : Nat) : Int) → (x4.fst, x3) = qaF a1_l a2_key) := by
  intro x0 x1 e0 e1 x2 x3 x4 hI
  rw [e0] at hI
  obtain ⟨j, rfl, h1, h2, rfl, rfl⟩ := hI
  refine ⟨fun hlt => ?_, fun hge => ?_⟩
  ·have hj : j < a1_l.length := by omega
   have hsz := hs _ (List.getElem_mem hj)
   have er : List.range' (qbs a1_l a2_key) (j + 1 - qbs a1_l a2_key) = List.range' (qbs a1_l a2_key) (j - qbs a1_l a2_key) ++ [j] := by
    rw [show j + 1 - qbs a1_l a2_key = (j - qbs a1_l a2_key) + 1 from by omega, List.range'_concat]
    congr 2
    omega
   refine ⟨by rw [qa4]; omega, ⟨by omega, by omega⟩, by rw [ixN hj]; omega, by rw [ixN hj]; omega, ?_, by omega, ?_, by rw [e1]; dsimp only; omega⟩
   ·simp only [List.length_map, List.length_range', List.length_cons, List.length_nil]
    omega
   ·rw [e0]
    refine ⟨j + 1, rfl, by omega, by omega, ?_, rfl⟩
    rw [er, List.map_append]
    rfl
  ·obtain rfl : j = toK a1_l a2_key := by omega
   unfold qaF
   rw [if_pos hm]
 obtain ⟨I, eI⟩ : ∃ I : Int → List (Int × (List UInt8 × List UInt8) × List (List UInt8)) → Int × Unit → Prop, I = fun i out c => ∃ j : Nat, i = (j : Int) ∧ qbs a1_l a2_key ≤ j ∧ j ≤ toK a1_l a2_key ∧ out = (List.range' (qbs a1_l a2_key) (j - qbs a1_l a2_key)).map (qdE a1_l) ∧ c = ((a1_l.length : Int), ()) := ⟨_, rfl⟩
 obtain ⟨M, eM⟩ : ∃ M : Int → List (Int × (List UInt8 × List UInt8) × List (List UInt8)) → Int × Unit → Nat, M = fun i _ _ => ((a1_l.length : Int) - i).toNat := ⟨_, rfl⟩
 have beg : ∀ k : Nat, qbs a1_l a2_key = k → I (k : Int) [] ((a1_l.length : Int), ()) := fun k hk => by
  rw [eI]
  exact ⟨k, rfl, by omega, by omega, by rw [hk, Nat.sub_self]; rfl, rfl⟩
 have fin := step I M eI eM
 refine ⟨fun hi => ⟨⟨⟨hl, hs⟩, fun y h => by cases h⟩, fun _ => ⟨I, M, beg _ (by unfold qbs; rw [if_pos hi]), fun x2 x3 x4 hI _ _ => ?_⟩⟩, fun hi => ⟨⟨⟨hl, hs⟩, fun y h => by cases h⟩, fun _ => ⟨I, M, beg _ (by unfold qbs; rw [if_neg (by simp [hi])]), fun x2 x3 x4 hI _ _ => ?_⟩⟩⟩
 ·obtain ⟨s1, s2⟩ := fin x2 x3 x4 hI
  refine ⟨fun hlt => ?_, s2⟩
  obtain ⟨a1, a2, a3, a4, a5, a6, a7, a8⟩ := s1 hlt
  exact ⟨a1, fun _ => ⟨a2, a2, a3, fun _ => ⟨a4, fun _ => ⟨a5, a6, a7, a8⟩⟩⟩⟩
 ·obtain ⟨s1, s2⟩ := fin x2 x3 x4 hI
  refine ⟨fun hlt => ?_, s2⟩
  obtain ⟨a1, a2, a3, a4, a5, a6, a7, a8⟩ := s1 hlt
  exact ⟨a1, fun _ => ⟨a2, a2, a3, fun _ => ⟨a4, fun _ => ⟨a5, a6, a7, a8⟩⟩⟩⟩
theorem qrs : (∀ a, qfw.pre a → PM.wfP qfw.pm a (fvc qo2 200 33 qfw a (eqO qfw a))) = (∀ a : Unit × (List ((List UInt8) × List UInt8)) × (List UInt8) × Unit, ((a.2.1).length ≤ 65536 ∧ (∀ p ∈ (a.2.1), p.1.length + p.2.length ≤ 70368744177664)) → (Ty.kd (.sl (.pr (.sl .byte) (.sl .byte)))).wf a.2.1 → (Ty.kd (.sl .byte)).wf a.2.2.1 → qiK a.2.1 a.2.2.1 (fun o0 => o0 = (qaF (a.2.1) (a.2.2.1)))) := by kernel_rfl
theorem quk : qfw.valid Try.prog 33 := qau (X := qo2) (qaJ (qal.rows [3000011, 4000037]) (fun b hb => by cases hb; exact qar) qas ⟨qsC, qu0, ql6, qjH, qtg, qnD, qds, trivial⟩) 200 (qrs.mpr fun a hp w_0 w_1 => @qrt a.2.1 a.2.2.1 w_0 w_1 hp)
def qgd (a0_key : List UInt8) (a1_s : Int × List (Int × ((List UInt8) × List UInt8) × List (List UInt8))) (Q : Bool → Bool → Prop) : Prop :=
 (((0 : Int) ≤ (ix a1_s.snd (0 : Int)).fst → ((ix a1_s.snd (0 : Int)).fst < (ix a1_s.snd (1 : Int)).fst → (IntKind.i64.wrap ((ix a1_s.snd (1 : Int)).fst - (ix a1_s.snd (0 : Int)).fst) = (1 : Int) → (Ty.int IntKind.i64).kd.wf (cmpB (ix a1_s.snd (0 : Int)).snd.fst.fst a0_key) → (cmpB (ix a1_s.snd (0 : Int)).snd.fst.fst a0_key < (0 : Int) → (Ty.int IntKind.i64).kd.wf (cmpB a0_key (ix a1_s.snd (1 : Int)).snd.fst.fst) → Q false (decide (cmpB a0_key (ix a1_s.snd (1 : Int)).snd.fst.fst < (0 : Int)))) ∧ (¬cmpB (ix a1_s.snd (0 : Int)).snd.fst.fst a0_key < (0 : Int) → Q false false)) ∧ (¬IntKind.i64.wrap ((ix a1_s.snd (1 : Int)).fst - (ix a1_s.snd (0 : Int)).fst) = (1 : Int) → Q false false)) ∧ (¬(ix a1_s.snd (0 : Int)).fst < (ix a1_s.snd (1 : Int)).fst → Q false false)) ∧ (¬(0 : Int) ≤ (ix a1_s.snd (0 : Int)).fst → Q false false))
noncomputable def qfy : Ctr := ⟨[.v (.sl .byte), .v (.pr (.int .i64) (.sl (.pr (.int .i64) (.pr (.pr (.sl .byte) (.sl .byte)) (.sl (.arr 32 .byte))))))], [.v .bool, .v .bool], none, fun a => (fun (a0_key : List UInt8) (a1_s : Int × List (Int × ((List UInt8) × List UInt8) × List (List UInt8))) => (((qdl a0_key a1_s).1, (qdl a0_key a1_s).2, ()), (()))) a.1 a.2.1⟩
noncomputable def qo7 : Fx := ⟨seat, some bkT, fns, [(75, qp3)], [], [], [(4, [], [.o 0 2, .o 1 2, .o 2 2, .o 3 2, .o 4 2]), (7, [], [.o 0 2, .o 1 2, .o 2 2, .o 3 2, .o 4 2, .o 5 2, .o 6 2, .o 7 2, .o 8 2, .o 9 2, .o 10 2, .o 11 2, .o 12 2, .o 13 2, .o 14 2, .o 15 2, .o 16 2, .o 17 2, .o 18 2, .o 19 2, .o 20 2, .o 21 2, .o 22 2, .o 23 2, .o 24 2, .o 25 2, .o 26 2, .o 27 2, .o 28 2, .o 29 2, .o 30 2]), (9, [1, 2], [.o 0 2, .o 1 2, .o 2 2, .o 3 3, .o 4 3, .o 5 3, .par [6, 7] (.alt 6 0 (.one 7 0 .fin) (.alt 7 0 (.one 6 0 .fin) .fin)), .o 8 1, .o 9 1])]⟩
def qiM (a0_key : List UInt8) (a1_s : Int × List (Int × ((List UInt8) × List UInt8) × List (List UInt8))) (Q : Bool → Bool → Prop) : Prop :=
 ((a1_s.snd.length : Int) = (0 : Int) → Q false (decide (a1_s.fst = (0 : Int)))) ∧ (¬(a1_s.snd.length : Int) = (0 : Int) → ((a1_s.snd.length : Int) = (1 : Int) → ((0 : Int) ≤ (0 : Int) ∧ (0 : Int) < (a1_s.snd.length : Int)) ∧ ((Ty.int IntKind.i64).kd.wf (cmpB a0_key (ix a1_s.snd (0 : Int)).snd.fst.fst) → (cmpB a0_key (ix a1_s.snd (0 : Int)).snd.fst.fst = (0 : Int) → Q (decide (cmpB a0_key (ix a1_s.snd (0 : Int)).snd.fst.fst = (0 : Int))) true) ∧ (¬cmpB a0_key (ix a1_s.snd (0 : Int)).snd.fst.fst = (0 : Int) → (cmpB a0_key (ix a1_s.snd (0 : Int)).snd.fst.fst < (0 : Int) → ((0 : Int) ≤ (0 : Int) ∧ (0 : Int) < (a1_s.snd.length : Int)) ∧ ((ix a1_s.snd (0 : Int)).fst = (0 : Int) → Q (decide (cmpB a0_key (ix a1_s.snd (0 : Int)).snd.fst.fst = (0 : Int))) true) ∧ (¬(ix a1_s.snd (0 : Int)).fst = (0 : Int) → ((0 : Int) < cmpB a0_key (ix a1_s.snd (0 : Int)).snd.fst.fst → ((0 : Int) ≤ (0 : Int) ∧ (0 : Int) < (a1_s.snd.length : Int)) ∧ Q (decide (cmpB a0_key (ix a1_s.snd (0 : Int)).snd.fst.fst = (0 : Int))) (decide ((ix a1_s.snd (0 : Int)).fst = IntKind.i64.wrap (a1_s.fst - (1 : Int))))) ∧ (¬(0 : Int) < cmpB a0_key (ix a1_s.snd (0 : Int)).snd.fst.fst → Q (decide (cmpB a0_key (ix a1_s.snd (0 : Int)).snd.fst.fst = (0 : Int))) false))) ∧ (¬cmpB a0_key (ix a1_s.snd (0 : Int)).snd.fst.fst < (0 : Int) → ((0 : Int) < cmpB a0_key (ix a1_s.snd (0 : Int)).snd.fst.fst → ((0 : Int) ≤ (0 : Int) ∧ (0 : Int) < (a1_s.snd.length : Int)) ∧ Q (decide (cmpB a0_key (ix a1_s.snd (0 : Int)).snd.fst.fst = (0 : Int))) (decide ((ix a1_s.snd (0 : Int)).fst = IntKind.i64.wrap (a1_s.fst - (1 : Int))))) ∧ (¬(0 : Int) < cmpB a0_key (ix a1_s.snd (0 : Int)).snd.fst.fst → Q (decide (cmpB a0_key (ix a1_s.snd (0 : Int)).snd.fst.fst = (0 : Int))) false))))) ∧ (¬(a1_s.snd.length : Int) = (1 : Int) → ((a1_s.snd.length : Int) = (2 : Int) → ((0 : Int) ≤ (0 : Int) ∧ (0 : Int) < (a1_s.snd.length : Int)) ∧ ((0 : Int) ≤ (1 : Int) ∧ (1 : Int) < (a1_s.snd.length : Int)) ∧ (qgd a0_key a1_s Q) ∧ (qgd a0_key a1_s Q) ∧ True) ∧ (¬(a1_s.snd.length : Int) = (2 : Int) → Q false false)))
theorem qry {a0_key : List UInt8} {a1_s : Int × List (Int × ((List UInt8) × List UInt8) × List (List UInt8))} (w_0 : (Ty.kd (.sl .byte)).wf a0_key) (w_1 : (Ty.kd (.pr (.int .i64) (.sl (.pr (.int .i64) (.pr (.pr (.sl .byte) (.sl .byte)) (.sl (.arr 32 .byte))))))).wf a1_s) : qiM a0_key a1_s (fun o0 o1 => o0 = (qdl a0_key a1_s).1 ∧ o1 = (qdl a0_key a1_s).2) := by
 obtain ⟨n, l⟩ := a1_s
 unfold qiM
 refine ⟨fun h => ?_, fun h0 => ⟨fun h1 => ?_, fun h1 => ⟨fun h2 => ?_, fun h2 => ?_⟩⟩⟩
 ·obtain rfl : l = [] := List.length_eq_zero_iff.1 (by have h : (l.length : Int) = 0 := h; omega)
  exact ⟨rfl, rfl⟩
 ·obtain ⟨a, rfl⟩ := List.length_eq_one_iff.1 (show l.length = 1 by have h1 : (l.length : Int) = 1 := h1; omega)
  have e : ix [a] 0 = a := rfl
  simp only [e]
  generalize hc : cmpB a0_key a.2.1.1 = c
  have s1 : (qdl a0_key (n, [a])).1 = decide (c = 0) := by rw [← hc]; rfl
  have s2 : (qdl a0_key (n, [a])).2 = decide (c = 0 ∨ c < 0 ∧ a.1 = 0 ∨ 0 < c ∧ a.1 = IntKind.i64.wrap (n - 1)) := by rw [← hc]; rfl
  rw [s1, s2]
  have b : (0 : Int) ≤ 0 ∧ (0 : Int) < (([a] : List Sp).length : Int) := by simp
  refine ⟨b, fun _ => ⟨fun g1 => ⟨rfl, (decide_eq_true (.inl g1)).symm⟩, fun g1 => ⟨fun g2 => ⟨b, fun g3 => ⟨rfl, (decide_eq_true (.inr (.inl ⟨g2, g3⟩))).symm⟩, fun g3 => ⟨fun g4 => by omega, fun g4 => ⟨rfl, (decide_eq_false (by omega)).symm⟩⟩⟩, fun g2 => ⟨fun g3 => ⟨b, rfl, decide_eq_decide.2 (by constructor <;> intro h <;> omega)⟩, fun g3 => by omega⟩⟩⟩⟩
 ·obtain ⟨a, b, rfl⟩ : ∃ a b, l = [a, b] := by
   rcases l with _ | ⟨a, _ | ⟨b, _ | ⟨c, l⟩⟩⟩
   ·simp at h2
   ·simp at h2
   ·exact ⟨a, b, rfl⟩
   ·have h2 : ((l.length + 1 + 1 + 1 : Nat) : Int) = 2 := h2
    omega
  have e : ix [a, b] 0 = a := rfl
  have e' : ix [a, b] 1 = b := rfl
  have wa : a.1 ≤ 9223372036854775807 := (w_1.2.2 a (by simp)).1.2
  have wb : b.1 ≤ 9223372036854775807 := (w_1.2.2 b (by simp)).1.2
  have key : qgd a0_key (n, [a, b]) (fun o0 o1 => o0 = (qdl a0_key (n, [a, b])).1 ∧ o1 = (qdl a0_key (n, [a, b])).2) := by
   unfold qgd
   simp only [e, e']
   have s1 : (qdl a0_key (n, [a, b])).1 = false := rfl
   have s2 : (qdl a0_key (n, [a, b])).2 = decide (0 ≤ a.1 ∧ a.1 < b.1 ∧ b.1 - a.1 = 1 ∧ cmpB a.2.1.1 a0_key < 0 ∧ cmpB a0_key b.2.1.1 < 0) := rfl
   rw [s1, s2]
   refine ⟨fun g1 => ⟨fun g2 => ?_, fun g2 => ⟨rfl, (decide_eq_false (by omega)).symm⟩⟩, fun g1 => ⟨rfl, (decide_eq_false (by omega)).symm⟩⟩
   have ew : IntKind.i64.wrap (b.1 - a.1) = b.1 - a.1 := qam (wf64 (by omega) (by omega))
   rw [ew]
   refine ⟨fun g3 _ => ⟨fun g4 _ => ⟨rfl, decide_eq_decide.2 (by constructor <;> intro h <;> omega)⟩, fun g4 => ⟨rfl, (decide_eq_false (by omega)).symm⟩⟩, fun g3 => ⟨rfl, (decide_eq_false (by omega)).symm⟩⟩
  exact ⟨by simp, by simp, key, key, trivial⟩
 ·match l, h0, h1, h2 with
  | [], h0, h1, h2 => simp at h0
  | [a], h0, h1, h2 => simp at h1
  | [a, b], h0, h1, h2 => simp at h2
  | a :: b :: c :: l, h0, h1, h2 => exact ⟨rfl, rfl⟩
theorem qrx : (∀ a, qfy.pre a → PM.wfP qfy.pm a (fvc qo7 200 77 qfy a (eqO qfy a))) = (∀ a : (List UInt8) × (Int × List (Int × ((List UInt8) × List UInt8) × List (List UInt8))) × Unit, True → (Ty.kd (.sl .byte)).wf a.1 → (Ty.kd (.pr (.int .i64) (.sl (.pr (.int .i64) (.pr (.pr (.sl .byte) (.sl .byte)) (.sl (.arr 32 .byte))))))).wf a.2.1 → qiM a.1 a.2.1 (fun o0 o1 => o0 = (qdl (a.1) (a.2.1)).1 ∧ o1 = (qdl (a.1) (a.2.1)).2)) := by kernel_rfl
theorem qum : qfy.valid Try.prog 77 := qau (X := qo7) (qaJ qal (fun b hb => by cases hb; exact qar) qas ⟨qsW, trivial⟩) 200 (qrx.mpr fun a hp w_0 w_1 => @qry a.1 a.2.1 w_0 w_1)
noncomputable def ql4 : Ctr := ⟨[.nil, .v (.sl (.pr (.sl .byte) (.sl .byte)))], [.v (.arr 32 .byte)], some (fun a => (fun (a1_l : List ((List UInt8) × List UInt8)) => (a1_l.length ≤ 65536 ∧ (∀ p ∈ a1_l, p.1.length + p.2.length ≤ 70368744177664) : Prop)) a.2.1), fun a => (fun (a1_l : List ((List UInt8) × List UInt8)) => (((qa8 a1_l), ()), (()))) a.2.1⟩
theorem qrp : ql4.valid Try.prog 32 :=
 qwk qoZ (fun _ => rfl) (fun a θ θ' n n' K vs h => by
  obtain ⟨v0, vs, rfl, h0, h⟩ := h
  exact ⟨v0, _, rfl, SVal.of_rel (t := .sl (.pr (.sl .byte) (.sl .byte))) (qdk (t := .sl (.pr (.sl .byte) (.sl .byte))) h0 rfl), h⟩) (fun _ => rfl) (fun a hp => ⟨hp, fun y h => by cases h⟩) (fun a _ => rfl)
end Go.Proofs.Ytmjjkpiglbpkhaa

set_option linter.unusedVariables false
namespace Go.Inc
open Go Go.RowKit
section
variable {P : Program} {f : FuncId} {pm : List PM} {rm : List RM} {e : Nat}
end
end Go.Inc

set_option linter.unusedVariables false
set_option maxRecDepth 100000
set_option maxHeartbeats 20000000
namespace Go.Proofs.Ytmjjkpiglbpkhaa
open Go Go.RowKit Go.Inc
end Go.Proofs.Ytmjjkpiglbpkhaa

set_option linter.unusedVariables false
set_option maxRecDepth 100000
set_option maxHeartbeats 20000000
namespace Go.Proofs.Ytmjjkpiglbpkhaa
open Go Go.RowKit Go.Inc
noncomputable def qhY : Ctr := ⟨[.v (.pr (.int .i64) (.sl (.pr (.int .i64) (.pr (.pr (.sl .byte) (.sl .byte)) (.sl (.arr 32 .byte))))))], [.v .bool], none, fun a => (fun (a0_s : Int × List (Int × ((List UInt8) × List UInt8) × List (List UInt8))) => (((qni a0_s), ()), (()))) a.1⟩
noncomputable def qsQ : Fx := ⟨seat, some bkT, fns, [], [], [], []⟩
def qlk (a0_s : Int × List (Int × ((List UInt8) × List UInt8) × List (List UInt8))) (Q : Bool → Prop) : Prop :=
 ∃ (x0 : Int → Int → Prop), ∃ (x1 : Int → Int → Nat), x0 (100000 : Int) (0 : Int) ∧ ∀ (x2 x3 : Int), x0 x2 x3 → (Kd.int IntKind.i64).wf x2 → (Kd.int IntKind.i64).wf x3 → (x3 < (a0_s.snd.length : Int) → (x3 ≤ (10 : Int) → ((0 : Int) ≤ x2 → ((0 : Int) ≤ x3 ∧ x3 < (a0_s.snd.length : Int)) ∧ x3 < (9223372036854775807 : Int) ∧ x0 (IntKind.i64.wrap (x2 - IntKind.i64.wrap (IntKind.i64.wrap ((bif false then max ((ix a0_s.snd x3).snd.fst.fst.length : Int) (200000 : Int) else min ((ix a0_s.snd x3).snd.fst.fst.length : Int) (200000 : Int)) + bif false then max ((ix a0_s.snd x3).snd.fst.snd.length : Int) (200000 : Int) else min ((ix a0_s.snd x3).snd.fst.snd.length : Int) (200000 : Int)) + IntKind.i64.wrap ((1000 : Int) * bif false then max ((ix a0_s.snd x3).snd.snd.length : Int) (200 : Int) else min ((ix a0_s.snd x3).snd.snd.length : Int) (200 : Int))))) (x3 + (1 : Int)) ∧ x1 (IntKind.i64.wrap (x2 - IntKind.i64.wrap (IntKind.i64.wrap ((bif false then max ((ix a0_s.snd x3).snd.fst.fst.length : Int) (200000 : Int) else min ((ix a0_s.snd x3).snd.fst.fst.length : Int) (200000 : Int)) + bif false then max ((ix a0_s.snd x3).snd.fst.snd.length : Int) (200000 : Int) else min ((ix a0_s.snd x3).snd.fst.snd.length : Int) (200000 : Int)) + IntKind.i64.wrap ((1000 : Int) * bif false then max ((ix a0_s.snd x3).snd.snd.length : Int) (200 : Int) else min ((ix a0_s.snd x3).snd.snd.length : Int) (200 : Int))))) (x3 + (1 : Int)) < x1 x2 x3) ∧ (¬(0 : Int) ≤ x2 → ((10 : Int) < (a0_s.snd.length : Int) → Q true) ∧ (¬(10 : Int) < (a0_s.snd.length : Int) → Q (decide (x2 < (0 : Int)))))) ∧ (¬x3 ≤ (10 : Int) → ((10 : Int) < (a0_s.snd.length : Int) → Q true) ∧ (¬(10 : Int) < (a0_s.snd.length : Int) → Q (decide (x2 < (0 : Int)))))) ∧ (¬x3 < (a0_s.snd.length : Int) → ((10 : Int) < (a0_s.snd.length : Int) → Q true) ∧ (¬(10 : Int) < (a0_s.snd.length : Int) → Q (decide (x2 < (0 : Int)))))
theorem quZ {a0_s : Int × List (Int × ((List UInt8) × List UInt8) × List (List UInt8))} (w_0 : (Ty.kd (.pr (.int .i64) (.sl (.pr (.int .i64) (.pr (.pr (.sl .byte) (.sl .byte)) (.sl (.arr 32 .byte))))))).wf a0_s) : qlk a0_s (fun o0 => o0 = (qni a0_s)) := by
 obtain ⟨n, l⟩ := a0_s
 unfold qlk
 dsimp only
 have hpos : ∀ x ∈ l.map szW, 0 ≤ x := fun x hx => by obtain ⟨q, _, rfl⟩ := List.mem_map.1 hx; exact qk8 q
 have hl : l.length ≤ 281474976710656 := w_0.2.1
 refine ⟨fun left i => ∃ j : Nat, i = (j : Int) ∧ j ≤ l.length ∧ j ≤ 11 ∧ left = 100000 - totI ((l.map szW).take j) ∧ -700000 ≤ left ∧ left ≤ 100000, fun _ i => ((l.length : Int) - i).toNat, ⟨0, rfl, Nat.zero_le _, by omega, by simp [totI], by omega, by omega⟩, ?_⟩
 rintro left i ⟨j, rfl, hj, hc, hleft, hlo, hhi⟩ _ _
 have big : (10 : Int) < (l.length : Int) → true = decide (10 < l.length ∨ 100000 < totI (l.map szW)) := fun h => (decide_eq_true (.inl (by omega))).symm
 have neg : left < 0 → ¬ (10 : Int) < (l.length : Int) → decide (left < 0) = decide (10 < l.length ∨ 100000 < totI (l.map szW)) := fun h hb => by
  have h1 := qfX j hpos
  rw [decide_eq_true h]
  exact (decide_eq_true (.inr (by omega))).symm
 have all : j = l.length → ¬ (10 : Int) < (l.length : Int) → decide (left < 0) = decide (10 < l.length ∨ 100000 < totI (l.map szW)) := fun h hb => by
  rw [h, List.take_of_length_le (by rw [List.length_map]; exact Nat.le_refl _)] at hleft
  exact decide_eq_decide.2 ⟨fun hn => .inr (by omega), fun hn => by omega⟩
 refine ⟨fun hlt => ⟨fun h100 => ⟨fun h0 => ?_, fun h0 => ⟨big, neg (by omega)⟩⟩, fun h100 => ⟨big, fun hb => absurd hb (by omega)⟩⟩, fun hge => ⟨big, all (by omega)⟩⟩
 have hj' : j < l.length := by omega
 have htk := qj1 (l := l.map szW) (i := j) (by rw [List.length_map]; exact hj')
 rw [List.getElem_map] at htk
 have hsz : szW l[j] = min (l[j].2.1.1.length : Int) 200000 + min (l[j].2.1.2.length : Int) 200000 + 1000 * min (l[j].2.2.length : Int) 200 := rfl
 have h1 := qk8 l[j]
 rw [ixN hj']
 simp only [cond_false]
 have w0 : IntKind.i64.wrap (1000 * min (l[j].2.2.length : Int) 200) = 1000 * min (l[j].2.2.length : Int) 200 := qam (wf64 (by omega) (by omega))
 have w1 : IntKind.i64.wrap (min (l[j].2.1.1.length : Int) 200000 + min (l[j].2.1.2.length : Int) 200000 + 1000 * min (l[j].2.2.length : Int) 200) = szW l[j] := by
  rw [hsz]
  exact qam (wf64 (by omega) (by omega))
 have w3 : IntKind.i64.wrap (min (l[j].2.1.1.length : Int) 200000 + min (l[j].2.1.2.length : Int) 200000) = min (l[j].2.1.1.length : Int) 200000 + min (l[j].2.1.2.length : Int) 200000 := qam (wf64 (by omega) (by omega))
 have w2 : IntKind.i64.wrap (left - szW l[j]) = left - szW l[j] := qam (wf64 (by omega) (by omega))
 rw [w0]
 first | rw [w1, w2] | rw [w3, w1, w2]
 exact ⟨⟨by omega, by show (j : Int) < (l.length : Int); omega⟩, by omega, ⟨j + 1, rfl, hj', by omega, by omega, by omega, by omega⟩, by omega⟩
theorem quY : (∀ a, qhY.pre a → PM.wfP qhY.pm a (fvc qsQ 200 35 qhY a (eqO qhY a))) = (∀ a : (Int × List (Int × ((List UInt8) × List UInt8) × List (List UInt8))) × Unit, True → (Ty.kd (.pr (.int .i64) (.sl (.pr (.int .i64) (.pr (.pr (.sl .byte) (.sl .byte)) (.sl (.arr 32 .byte))))))).wf a.1 → qlk a.1 (fun o0 => o0 = (qni (a.1)))) := by kernel_rfl
theorem qwC : qhY.valid Try.prog 35 := qau (X := qsQ) (qaJ qal (fun b hb => by cases hb; exact qar) qas trivial) 200 (quY.mpr fun a hp w_0 => @quZ a.1 w_0)
noncomputable def qd2 : Ctr := ⟨[], [.ow 57 (.pr (.sl .byte) (.sl .byte))], none, fun _ => ((qad, ()), (()))⟩
noncomputable def qmu : Fx := ⟨seat, some bkT, fns, [], [], [], []⟩
def qj0 (Q : (List ((List UInt8) × List UInt8)) → Prop) : Prop :=
 toB (98 : Int) :: ([] : List UInt8) ≠ ([] : List UInt8) ∧ toB (49 : Int) :: ([] : List UInt8) ≠ ([] : List UInt8) ∧ toB (100 : Int) :: ([] : List UInt8) ≠ ([] : List UInt8) ∧ toB (50 : Int) :: ([] : List UInt8) ≠ ([] : List UInt8) ∧ toB (102 : Int) :: ([] : List UInt8) ≠ ([] : List UInt8) ∧ toB (51 : Int) :: ([] : List UInt8) ≠ ([] : List UInt8) ∧ Q ((toB (98 : Int) :: ([] : List UInt8), toB (49 : Int) :: ([] : List UInt8)) :: (toB (100 : Int) :: ([] : List UInt8), toB (50 : Int) :: ([] : List UInt8)) :: (toB (102 : Int) :: ([] : List UInt8), toB (51 : Int) :: ([] : List UInt8)) :: ([] : List (List UInt8 × List UInt8)))
theorem qpC  : qj0  (fun o0 => o0 = qad) := by
 exact ⟨by simp, by simp, by simp, by simp, by simp, by simp, rfl⟩
theorem qpB : (∀ a, qd2.pre a → PM.wfP qd2.pm a (fvc qmu 200 76 qd2 a (eqO qd2 a))) = (∀ a : Unit, True → qj0  (fun o0 => o0 = qad)) := by kernel_rfl
theorem qrV : qd2.valid Try.prog 76 := qau (X := qmu) (qaJ qal (fun b hb => by cases hb; exact qar) qas trivial) 200 (qpB.mpr fun a hp  => @qpC )
def qmr : List UInt8 := [50]
end Go.Proofs.Ytmjjkpiglbpkhaa

set_option linter.unusedVariables false
set_option maxRecDepth 100000
set_option maxHeartbeats 20000000
namespace Go.Proofs.Ytmjjkpiglbpkhaa
open Go Go.RowKit Go.Inc
noncomputable def qb3 : Ctr := ⟨[.v (.sl .byte)], [.rw 5 .byte], some (fun a => (fun (a0_s : List UInt8) => (a0_s.length ≤ 140737488355328 : Prop)) a.1), fun a => (fun (a0_s : List UInt8) => ((a0_s, ()), (()))) a.1⟩
noncomputable def qll : Fx := ⟨{ seat with rws := [5, 1000005] }, some bkT, fns, [], [], [], []⟩
def qgm (a0_s : List UInt8) (Q : (List UInt8) → Prop) : Prop :=
 ∀ (x0 : Bool), (x0 = true → a0_s = ([] : List UInt8)) → (x0 = true → Q ([] : List UInt8)) ∧ (x0 = false → (([] : List UInt8).length + a0_s.length) * (1 : Nat) ≤ (140737488355328 : Nat) ∧ Q (([] : List UInt8) ++ a0_s))
theorem qnl {a0_s : List UInt8} (w_0 : (Ty.kd (.sl .byte)).wf a0_s) (hp : a0_s.length ≤ 140737488355328) : qgm a0_s (fun o0 => o0 = a0_s) := by
 unfold qgm
 intro r hr
 refine ⟨fun h => ?_, fun _ => ⟨?_, rfl⟩⟩
 ·rw [hr h]
 ·simpa using hp
theorem qnk : (∀ a, qb3.pre a → PM.wfP qb3.pm a (fvc qll 200 69 qb3 a (eqO qb3 a))) = (∀ a : (List UInt8) × Unit, ((a.1).length ≤ 140737488355328) → (Ty.kd (.sl .byte)).wf a.1 → qgm a.1 (fun o0 => o0 = (a.1))) := by kernel_rfl
theorem qf4 : qb3.valid Try.prog 69 := qau (X := qll) (qaJ (qal.rows [5, 1000005]) (fun b hb => by cases hb; exact qar) qas trivial) 200 (qnk.mpr fun a hp w_0 => @qnl a.1 w_0 hp)
def qdw (a1_root : List UInt8) (a2_key : List UInt8) (a3_s : Int × List (Int × ((List UInt8) × List UInt8) × List (List UInt8))) (Q : (List UInt8) → Bool → Int → Prop) (x0 : List UInt8 → Bool → Int → Int → List UInt8 → Prop) (x1 : List UInt8 → Bool → Int → Int → List UInt8 → Nat) (x2 : List UInt8) (x3 : Bool) (x4 : Int) (x5 : Int) (x6 : List UInt8) : Prop :=
 ((Ty.arr (32 : Nat) Ty.byte).kd.wf (qbA a3_s.fst (ix a3_s.snd x5).fst (qbb (ix a3_s.snd x5).snd.fst) (ix a3_s.snd x5).snd.snd) → (Ty.int IntKind.i64).kd.wf (qhl a3_s.fst (ix a3_s.snd x5).fst (ix a3_s.snd x5).snd.snd) → (qhl a3_s.fst (ix a3_s.snd x5).fst (ix a3_s.snd x5).snd.snd ≠ (0 : Int) → Q ([] : List UInt8) false (10 : Int)) ∧ (¬qhl a3_s.fst (ix a3_s.snd x5).fst (ix a3_s.snd x5).snd.snd ≠ (0 : Int) → ((0 : Int) < x5 → (qbA a3_s.fst (ix a3_s.snd x5).fst (qbb (ix a3_s.snd x5).snd.fst) (ix a3_s.snd x5).snd.snd ≠ x6 → Q ([] : List UInt8) false (10 : Int)) ∧ (¬qbA a3_s.fst (ix a3_s.snd x5).fst (qbb (ix a3_s.snd x5).snd.fst) (ix a3_s.snd x5).snd.snd ≠ x6 → x5 < (9223372036854775807 : Int) ∧ x0 x2 x3 x4 (x5 + (1 : Int)) (qbA a3_s.fst (ix a3_s.snd x5).fst (qbb (ix a3_s.snd x5).snd.fst) (ix a3_s.snd x5).snd.snd) ∧ x1 x2 x3 x4 (x5 + (1 : Int)) (qbA a3_s.fst (ix a3_s.snd x5).fst (qbb (ix a3_s.snd x5).snd.fst) (ix a3_s.snd x5).snd.snd) < x1 x2 x3 x4 x5 x6)) ∧ (¬(0 : Int) < x5 → x5 < (9223372036854775807 : Int) ∧ x0 x2 x3 x4 (x5 + (1 : Int)) (qbA a3_s.fst (ix a3_s.snd x5).fst (qbb (ix a3_s.snd x5).snd.fst) (ix a3_s.snd x5).snd.snd) ∧ x1 x2 x3 x4 (x5 + (1 : Int)) (qbA a3_s.fst (ix a3_s.snd x5).fst (qbb (ix a3_s.snd x5).snd.fst) (ix a3_s.snd x5).snd.snd) < x1 x2 x3 x4 x5 x6)))
def qeD (a1_root : List UInt8) (a2_key : List UInt8) (a3_s : Int × List (Int × ((List UInt8) × List UInt8) × List (List UInt8))) (Q : (List UInt8) → Bool → Int → Prop) (x0 : List UInt8 → Bool → Int → Int → List UInt8 → Prop) (x1 : List UInt8 → Bool → Int → Int → List UInt8 → Nat) (x2 : List UInt8) (x3 : Bool) (x4 : Int) (x5 : Int) (x6 : List UInt8) : Prop :=
 (x5 < (a3_s.snd.length : Int) → ((0 : Int) ≤ x5 ∧ x5 < (a3_s.snd.length : Int)) ∧ (((ix a3_s.snd x5).snd.fst.fst.length + (ix a3_s.snd x5).snd.fst.snd.length ≤ (70368744177664 : Nat) ∧ qaH (none : Option (List Nt × Int))) ∧ ((Ty.arr (32 : Nat) Ty.byte).kd.wf (qbb (ix a3_s.snd x5).snd.fst) → (((ix a3_s.snd x5).snd.snd.length ≤ (1048576 : Nat) ∧ qah (none : Option (List Nt × Int)) (ix a3_s.snd x5).snd.snd.length) ∧ (qdw a1_root a2_key a3_s Q x0 x1 x2 x3 x4 x5 x6)) ∧ (((ix a3_s.snd x5).snd.snd.length ≤ (1048576 : Nat) ∧ qah (none : Option (List Nt × Int)) (ix a3_s.snd x5).snd.snd.length) ∧ (qdw a1_root a2_key a3_s Q x0 x1 x2 x3 x4 x5 x6)) ∧ True)) ∧ (((ix a3_s.snd x5).snd.fst.fst.length + (ix a3_s.snd x5).snd.fst.snd.length ≤ (70368744177664 : Nat) ∧ qaH (none : Option (List Nt × Int))) ∧ ((Ty.arr (32 : Nat) Ty.byte).kd.wf (qbb (ix a3_s.snd x5).snd.fst) → ((ix a3_s.snd x5).snd.snd.length ≤ (1048576 : Nat) ∧ qah (none : Option (List Nt × Int)) (ix a3_s.snd x5).snd.snd.length) ∧ (qdw a1_root a2_key a3_s Q x0 x1 x2 x3 x4 x5 x6))) ∧ True)
def qeE (a1_root : List UInt8) (a2_key : List UInt8) (a3_s : Int × List (Int × ((List UInt8) × List UInt8) × List (List UInt8))) (Q : (List UInt8) → Bool → Int → Prop) (x5 : Int) (x6 : List UInt8) : Prop :=
 (¬x5 < (a3_s.snd.length : Int) → ((0 : Int) ≤ a3_s.fst ∧ qaH (none : Option (List Nt × Int))) ∧ ((Ty.arr (32 : Nat) Ty.byte).kd.wf (qcr a3_s.fst x6) → (qcr a3_s.fst x6 ≠ a1_root → Q ([] : List UInt8) false (10 : Int)) ∧ (¬qcr a3_s.fst x6 ≠ a1_root → (¬(qdl a2_key a3_s).fst = true → Q ([] : List UInt8) false (0 : Int)) ∧ ((qdl a2_key a3_s).fst = true → ((0 : Int) ≤ (0 : Int) ∧ (0 : Int) < (a3_s.snd.length : Int)) ∧ (ix a3_s.snd (0 : Int)).snd.fst.snd.length ≤ (140737488355328 : Nat) ∧ (Ty.byte.kd.sl.wf (ix a3_s.snd (0 : Int)).snd.fst.snd → Q (ix a3_s.snd (0 : Int)).snd.fst.snd true (0 : Int))))))
noncomputable def qdV : Ctr := ⟨[.nil, .v (.arr 32 .byte), .v (.sl .byte), .v (.pr (.int .i64) (.sl (.pr (.int .i64) (.pr (.pr (.sl .byte) (.sl .byte)) (.sl (.arr 32 .byte))))))], [.rw 5 .byte, .v .bool, .v (.int .i64)], some (fun a => (fun (a1_root : List UInt8) (a2_key : List UInt8) (a3_s : Int × List (Int × ((List UInt8) × List UInt8) × List (List UInt8))) => (∀ x ∈ a3_s.2, (x.2.1.1.length + x.2.1.2.length ≤ 70368744177664 ∧ x.2.2.length ≤ 65536) : Prop)) a.2.1 a.2.2.1 a.2.2.2.1), fun a => (fun (a1_root : List UInt8) (a2_key : List UInt8) (a3_s : Int × List (Int × ((List UInt8) × List UInt8) × List (List UInt8))) => (((qct a1_root a2_key a3_s), (qcW a1_root a2_key a3_s), (qbw a1_root a2_key a3_s), ()), (()))) a.2.1 a.2.2.1 a.2.2.2.1⟩
noncomputable def ql3 : Fx := ⟨{ seat with rws := [5] }, some bkT, fns, [(77, qfy), (58, qie), (58, qly), (79, qej), (78, qhu), (80, qdg), (69, qb3)], [], [(8, [2], [])], [(10, [], [.o 0 2, .o 1 2, .o 2 2, .o 3 2, .o 4 2, .o 5 2, .o 6 2, .o 7 2, .o 9 2, .o 10 2, .par [8, 11, 12, 13, 14, 15] (.alt 8 0 (.alt 11 0 (.one 12 2 (.one 13 2 (.one 14 3 (.one 15 0 .fin)))) (.alt 15 0 (.one 11 0 (.one 12 2 (.one 13 2 (.one 14 3 .fin)))) .fin)) (.alt 15 0 (.one 8 0 (.one 11 0 (.one 12 2 (.one 13 2 (.one 14 3 .fin))))) .fin)), .o 16 1, .o 17 3]), (15, [], [.o 0 2, .o 1 2, .o 2 2, .o 3 2, .o 5 2, .o 4 0, .o 6 2, .o 7 2])]⟩
def qgQ (a1_root : List UInt8) (a2_key : List UInt8) (a3_s : Int × List (Int × ((List UInt8) × List UInt8) × List (List UInt8))) (Q : (List UInt8) → Bool → Int → Prop) : Prop :=
 (¬(qdl a2_key a3_s).snd = true → Q ([] : List UInt8) false (10 : Int)) ∧ ((qdl a2_key a3_s).snd = true → (a3_s.fst < (0 : Int) → Q ([] : List UInt8) false (10 : Int)) ∧ (¬a3_s.fst < (0 : Int) → (a3_s.fst = (0 : Int) → ([] : List (List UInt8)).length ≤ (1048576 : Nat) ∧ ((Ty.arr (32 : Nat) Ty.byte).kd.wf (qaK ([] : List (List UInt8))) → ∃ (x0 : List UInt8 → Bool → Int → Int → List UInt8 → Prop), ∃ (x1 : List UInt8 → Bool → Int → Int → List UInt8 → Nat), x0 ([] : List UInt8) false (0 : Int) (0 : Int) (qaK ([] : List (List UInt8))) ∧ ∀ (x2 : List UInt8) (x3 : Bool) (x4 x5 : Int) (x6 : List UInt8), x0 x2 x3 x4 x5 x6 → Ty.byte.kd.sl.wf x2 → (Kd.int IntKind.i64).wf x4 → (Kd.int IntKind.i64).wf x5 → (Ty.arr (32 : Nat) Ty.byte).kd.wf x6 → (qeD a1_root a2_key a3_s Q x0 x1 x2 x3 x4 x5 x6) ∧ (qeE a1_root a2_key a3_s Q x5 x6))) ∧ (¬a3_s.fst = (0 : Int) → ∃ (x0 : List UInt8 → Bool → Int → Int → List UInt8 → Prop), ∃ (x1 : List UInt8 → Bool → Int → Int → List UInt8 → Nat), x0 ([] : List UInt8) false (0 : Int) (0 : Int) (Ty.arr (32 : Nat) Ty.byte).kd.z ∧ ∀ (x2 : List UInt8) (x3 : Bool) (x4 x5 : Int) (x6 : List UInt8), x0 x2 x3 x4 x5 x6 → Ty.byte.kd.sl.wf x2 → (Kd.int IntKind.i64).wf x4 → (Kd.int IntKind.i64).wf x5 → (Ty.arr (32 : Nat) Ty.byte).kd.wf x6 → (qeD a1_root a2_key a3_s Q x0 x1 x2 x3 x4 x5 x6) ∧ (qeE a1_root a2_key a3_s Q x5 x6))))
theorem qoW {a1_root : List UInt8} {a2_key : List UInt8} {a3_s : Int × List (Int × ((List UInt8) × List UInt8) × List (List UInt8))} (w_0 : (Ty.kd (.arr 32 .byte)).wf a1_root) (w_1 : (Ty.kd (.sl .byte)).wf a2_key) (w_2 : (Ty.kd (.pr (.int .i64) (.sl (.pr (.int .i64) (.pr (.pr (.sl .byte) (.sl .byte)) (.sl (.arr 32 .byte))))))).wf a3_s) (hp : ∀ x ∈ a3_s.2, (x.2.1.1.length + x.2.1.2.length ≤ 70368744177664 ∧ x.2.2.length ≤ 65536)) : qgQ a1_root a2_key a3_s (fun o0 o1 o2 => o0 = (qct a1_root a2_key a3_s) ∧ o1 = (qcW a1_root a2_key a3_s) ∧ o2 = (qbw a1_root a2_key a3_s)) := by
 obtain ⟨n, l⟩ := a3_s
 have hs : ∀ x ∈ l, x.2.1.1.length + x.2.1.2.length ≤ 70368744177664 ∧ x.2.2.length ≤ 65536 := hp
 have hwn : (Kd.int .i64).wf n := w_2.1
 unfold qgQ
 refine ⟨fun h => ?_, fun hok => ⟨fun hn => ?_, fun hn => ?_⟩⟩
 ·have e : qf2 a1_root a2_key (n, l) = none := if_neg (fun hc => h (by rw [qmk hc.2 hwn]; exact hc.1))
  unfold qct qcW qbw
  rw [e]
  exact ⟨rfl, rfl, rfl⟩
 ·have e : qf2 a1_root a2_key (n, l) = none := if_neg (fun hc => by have h1 : 0 ≤ n := hc.2; have hn : n < 0 := hn; omega)
  unfold qct qcW qbw
  rw [e]
  exact ⟨rfl, rfl, rfl⟩
 have hn0 : 0 ≤ n := by have hn : ¬ n < 0 := hn; omega
 have eW : qdl a2_key (n, l) = qf3 a2_key (n, l) := qmk hn0 hwn
 rw [eW] at hok
 have hsay : (qf3 a2_key (n, l)).2 = true ∧ 0 ≤ n := ⟨hok, hn0⟩
 have hl2 : l.length ≤ 2 := by
  rcases l with _ | ⟨a, _ | ⟨b, _ | ⟨c, l⟩⟩⟩
  ·simp
  ·simp
  ·simp
  ·cases hok
 have eO : qf2 a1_root a2_key (n, l) = (match goK n true l (begK n) with
  | some t => if qcr n t = a1_root then some (qf3 a2_key (n, l)).1 else none
  | none => none) := if_pos hsay
 have nr : qaH (none : qan) := fun y h => by cases h
 have nu : ∀ k, qah (none : qan) k := fun k y h => by cases h
 have fail : goK n true l (begK n) = none → ([] = qct a1_root a2_key (n, l) ∧ false = qcW a1_root a2_key (n, l) ∧ (10 : Int) = qbw a1_root a2_key (n, l)) := fun hg => by
  rw [hg] at eO
  unfold qct qcW qbw
  rw [eO]
  exact ⟨rfl, rfl, rfl⟩
 have step : ∀ (x0 : List UInt8 → Bool → Int → Int → List UInt8 → Prop) (x1 : List UInt8 → Bool → Int → Int → List UInt8 → Nat),
  (x0 = fun x2 x3 x4 x5 x7 => ∃ j : Nat, x5 = (j : Int) ∧ j ≤ l.length ∧ goK n (decide (j = 0)) (l.drop j) x7 = goK n true l (begK n)) →
  (x1 = fun _ _ _ x5 _ => ((l.length : Int) - x5).toNat) → ∀ (x2 : List UInt8) (x3 : Bool) (x4 x5 : Int) (x7 : List UInt8), x0 x2 x3 x4 x5 x7 → qeD a1_root a2_key (n, l) (fun o0 o1 o2 => o0 = (qct a1_root a2_key (n, l)) ∧ o1 = (qcW a1_root a2_key (n, l)) ∧ o2 = (qbw a1_root a2_key (n, l))) x0 x1 x2 x3 x4 x5 x7 ∧ qeE a1_root a2_key (n, l) (fun o0 o1 o2 => o0 = (qct a1_root a2_key (n, l)) ∧ o1 = (qcW a1_root a2_key (n, l)) ∧ o2 = (qbw a1_root a2_key (n, l))) x5 x7 := by
  intro x0 x1 e0 e1 x2 x3 x4 x5 x7 hI
  rw [e0] at hI
  obtain ⟨j, rfl, hj, hg⟩ := hI
  refine ⟨?_, ?_⟩
  ·unfold qeD
   intro hlt
   have hj' : j < l.length := by have hlt : (j : Int) < (l.length : Int) := hlt; omega
   have eix : ix l (j : Int) = l[j] := ixN hj'
   have hsz := hs _ (List.getElem_mem hj')
   rw [List.drop_eq_getElem_cons hj'] at hg
   have k1 : qdw a1_root a2_key (n, l) (fun o0 o1 o2 => o0 = (qct a1_root a2_key (n, l)) ∧ o1 = (qcW a1_root a2_key (n, l)) ∧ o2 = (qbw a1_root a2_key (n, l))) x0 x1 x2 x3 x4 (j : Int) x7 := by
    unfold qdw
    simp only [eix]
    intro _ _
    have hgo : goK n (decide (j = 0)) (l[j] :: l.drop (j + 1)) x7 = if qdr n l[j].1 l[j].2.2 = true ∧ (decide (j = 0) = true ∨ qbA n l[j].1 (qbb l[j].2.1) l[j].2.2 = x7) then goK n false (l.drop (j + 1)) (qbA n l[j].1 (qbb l[j].2.1) l[j].2.2) else none := rfl
    have bad : ¬ (qdr n l[j].1 l[j].2.2 = true ∧ (decide (j = 0) = true ∨ qbA n l[j].1 (qbb l[j].2.1) l[j].2.2 = x7)) → ([] = qct a1_root a2_key (n, l) ∧ false = qcW a1_root a2_key (n, l) ∧ (10 : Int) = qbw a1_root a2_key (n, l)) := fun hc => by
     rw [hgo, if_neg hc] at hg
     exact fail hg.symm
    have good : (qdr n l[j].1 l[j].2.2 = true ∧ (decide (j = 0) = true ∨ qbA n l[j].1 (qbb l[j].2.1) l[j].2.2 = x7)) → (j : Int) < 9223372036854775807 ∧ x0 x2 x3 x4 ((j : Int) + 1) (qbA n l[j].1 (qbb l[j].2.1) l[j].2.2) ∧ x1 x2 x3 x4 ((j : Int) + 1) (qbA n l[j].1 (qbb l[j].2.1) l[j].2.2) < x1 x2 x3 x4 (j : Int) x7 := fun hc => by
     rw [hgo, if_pos hc] at hg
     rw [e0, e1]
     exact ⟨by omega, ⟨j + 1, rfl, hj', hg⟩, by dsimp only; omega⟩
    have el : qhl n l[j].1 l[j].2.2 = if qdr n l[j].1 l[j].2.2 = true then 0 else 10 := rfl
    rw [el]
    by_cases hB : qdr n l[j].1 l[j].2.2 = true
    ·rw [if_pos hB]
     refine ⟨fun h => absurd rfl h, fun _ => ⟨fun hp => ⟨fun hne => bad ?_, fun he => good ⟨hB, .inr (Classical.not_not.1 he)⟩⟩, fun hp => good ⟨hB, .inl (decide_eq_true (by omega))⟩⟩⟩
     rintro ⟨_, h | h⟩
     ·have := of_decide_eq_true h; omega
     ·exact hne h
    ·rw [if_neg hB]
     exact ⟨fun _ => bad fun hc => hB hc.1, fun h => absurd (by decide : (10 : Int) ≠ 0) h⟩
   have b : (0 : Int) ≤ (j : Int) ∧ (j : Int) < ((l.length : Nat) : Int) := ⟨by omega, by omega⟩
   simp only [eix]
   have p16 : l[j].2.2.length ≤ 1048576 := by omega
   exact ⟨b, ⟨⟨hsz.1, nr⟩, fun _ => ⟨⟨⟨p16, nu _⟩, k1⟩, ⟨⟨p16, nu _⟩, k1⟩, trivial⟩⟩, ⟨⟨hsz.1, nr⟩, fun _ => ⟨⟨p16, nu _⟩, k1⟩⟩, trivial⟩
  ·unfold qeE
   intro hge
   obtain rfl : j = l.length := by have hge : ¬ (j : Int) < (l.length : Int) := hge; omega
   rw [List.drop_length] at hg
   have hg : some x7 = goK n true l (begK n) := hg
   rw [← hg] at eO
   have eO : qf2 a1_root a2_key (n, l) = if qcr n x7 = a1_root then some (qf3 a2_key (n, l)).1 else none := eO
   rw [eW]
   refine ⟨⟨hn0, nr⟩, fun _ => ⟨fun hne => ?_, fun he => ⟨fun hf => ?_, fun ht => ⟨⟨by omega, ?_⟩, ?_, fun _ => ?_⟩⟩⟩⟩
   ·rw [if_neg hne] at eO
    unfold qct qcW qbw
    rw [eO]
    exact ⟨rfl, rfl, rfl⟩
   ·rw [if_pos (Classical.not_not.1 he), Bool.eq_false_iff.2 hf] at eO
    unfold qct qcW qbw
    rw [eO]
    exact ⟨rfl, rfl, rfl⟩
   ·rcases l with _ | ⟨a, l⟩
    ·cases ht
    ·simp
   ·have hp : 0 < l.length := by
     rcases l with _ | ⟨a, l⟩
     ·cases ht
     ·simp
    have := hs _ (List.getElem_mem hp)
    rw [show ix (n, l).2 (0 : Int) = l[0] from ixN (j := 0) hp]
    omega
   ·rw [if_pos (Classical.not_not.1 he), ht] at eO
    unfold qct qcW qbw
    rw [eO]
    exact ⟨rfl, rfl, rfl⟩
 refine ⟨fun h0 => ⟨by simp, fun _ => ⟨_, _, ?_, fun x2 x3 x4 x5 x7 hI _ _ _ _ => step _ _ rfl rfl x2 x3 x4 x5 x7 hI⟩⟩, fun h0 => ⟨_, _, ?_, fun x2 x3 x4 x5 x7 hI _ _ _ _ => step _ _ rfl rfl x2 x3 x4 x5 x7 hI⟩⟩
 ·have h0 : n = 0 := h0
  have e1 : begK n = qaK [] := if_pos h0
  exact ⟨0, rfl, Nat.zero_le _, by rw [e1]; rfl⟩
 ·have h0 : ¬ n = 0 := h0
  have e1 : begK n = sm0L := if_neg h0
  exact ⟨0, rfl, Nat.zero_le _, by rw [e1]; rfl⟩
theorem qoV : (∀ a, qdV.pre a → PM.wfP qdV.pm a (fvc ql3 200 31 qdV a (eqO qdV a))) = (∀ a : Unit × (List UInt8) × (List UInt8) × (Int × List (Int × ((List UInt8) × List UInt8) × List (List UInt8))) × Unit, (∀ x ∈ (a.2.2.2.1).2, (x.2.1.1.length + x.2.1.2.length ≤ 70368744177664 ∧ x.2.2.length ≤ 65536)) → (Ty.kd (.arr 32 .byte)).wf a.2.1 → (Ty.kd (.sl .byte)).wf a.2.2.1 → (Ty.kd (.pr (.int .i64) (.sl (.pr (.int .i64) (.pr (.pr (.sl .byte) (.sl .byte)) (.sl (.arr 32 .byte))))))).wf a.2.2.2.1 → qgQ a.2.1 a.2.2.1 a.2.2.2.1 (fun o0 o1 o2 => o0 = (qct (a.2.1) (a.2.2.1) (a.2.2.2.1)) ∧ o1 = (qcW (a.2.1) (a.2.2.1) (a.2.2.2.1)) ∧ o2 = (qbw (a.2.1) (a.2.2.1) (a.2.2.2.1)))) := by kernel_rfl
theorem qrm : qdV.valid Try.prog 31 := qau (X := ql3) (qaJ (qal.rows [5]) (fun b hb => by cases hb; exact qar) qas ⟨qum, qkn, qlz, qo6, qu6, ql8, qf4, trivial⟩) 200 (qoV.mpr fun a hp w_0 w_1 w_2 => @qoW a.2.1 a.2.2.1 a.2.2.2.1 w_0 w_1 w_2 hp)
def qdN (Q : Bool → Prop) : Prop :=
 (Ty.byte.kd.sl.wf (qct (qa8 qad) (toB (120 : Int) :: ([] : List UInt8)) (qaF qad (toB (97 : Int) :: ([] : List UInt8)))) → (Ty.int IntKind.i64).kd.wf (qbw (qa8 qad) (toB (120 : Int) :: ([] : List UInt8)) (qaF qad (toB (97 : Int) :: ([] : List UInt8)))) → (mayK qad = true → ((0 : Int) ≤ (1 : Int) ∧ (1 : Int) < (qad.length : Int)) ∧ ((0 : Int) ≤ (0 : Int) ∧ (0 : Int) < (qad.length : Int)) ∧ (¬mayK (ix qad (1 : Int) :: ix qad (0 : Int) :: ([] : List (List UInt8 × List UInt8))) = true → (((qaF qad (toB (100 : Int) :: ([] : List UInt8))).snd.length : Int) = (1 : Int) → ((0 : Int) ≤ (0 : Int) ∧ (0 : Int) < ((qaF qad (toB (100 : Int) :: ([] : List UInt8))).snd.length : Int)) ∧ ((ix (qaF qad (toB (100 : Int) :: ([] : List UInt8))).snd (0 : Int)).fst = (1 : Int) → (((qaF qad (toB (99 : Int) :: ([] : List UInt8))).snd.length : Int) = (2 : Int) → (qct (qa8 qad) (toB (100 : Int) :: ([] : List UInt8)) (qaF qad (toB (100 : Int) :: ([] : List UInt8))) = qmr → (qcW (qa8 qad) (toB (100 : Int) :: ([] : List UInt8)) (qaF qad (toB (100 : Int) :: ([] : List UInt8))) = true → (qbw (qa8 qad) (toB (100 : Int) :: ([] : List UInt8)) (qaF qad (toB (100 : Int) :: ([] : List UInt8))) = (0 : Int) → (¬qcW (qa8 qad) (toB (99 : Int) :: ([] : List UInt8)) (qaF qad (toB (99 : Int) :: ([] : List UInt8))) = true → (qbw (qa8 qad) (toB (99 : Int) :: ([] : List UInt8)) (qaF qad (toB (99 : Int) :: ([] : List UInt8))) = (0 : Int) → (qbw (qa8 qad) (toB (99 : Int) :: ([] : List UInt8)) (qaF qad (toB (100 : Int) :: ([] : List UInt8))) = (10 : Int) → Q (decide (qbw (qa8 qad) (toB (120 : Int) :: ([] : List UInt8)) (qaF qad (toB (97 : Int) :: ([] : List UInt8))) = (10 : Int)))) ∧ (¬qbw (qa8 qad) (toB (99 : Int) :: ([] : List UInt8)) (qaF qad (toB (100 : Int) :: ([] : List UInt8))) = (10 : Int) → Q false)) ∧ (¬qbw (qa8 qad) (toB (99 : Int) :: ([] : List UInt8)) (qaF qad (toB (99 : Int) :: ([] : List UInt8))) = (0 : Int) → Q false)) ∧ (qcW (qa8 qad) (toB (99 : Int) :: ([] : List UInt8)) (qaF qad (toB (99 : Int) :: ([] : List UInt8))) = true → Q false)) ∧ (¬qbw (qa8 qad) (toB (100 : Int) :: ([] : List UInt8)) (qaF qad (toB (100 : Int) :: ([] : List UInt8))) = (0 : Int) → Q false)) ∧ (qcW (qa8 qad) (toB (100 : Int) :: ([] : List UInt8)) (qaF qad (toB (100 : Int) :: ([] : List UInt8))) = false → Q false)) ∧ (¬qct (qa8 qad) (toB (100 : Int) :: ([] : List UInt8)) (qaF qad (toB (100 : Int) :: ([] : List UInt8))) = qmr → Q false)) ∧ (¬((qaF qad (toB (99 : Int) :: ([] : List UInt8))).snd.length : Int) = (2 : Int) → Q false)) ∧ (¬(ix (qaF qad (toB (100 : Int) :: ([] : List UInt8))).snd (0 : Int)).fst = (1 : Int) → Q false)) ∧ (¬((qaF qad (toB (100 : Int) :: ([] : List UInt8))).snd.length : Int) = (1 : Int) → Q false)) ∧ (mayK (ix qad (1 : Int) :: ix qad (0 : Int) :: ([] : List (List UInt8 × List UInt8))) = true → Q false)) ∧ (mayK qad = false → Q false))
def qcQ (Q : Bool → Prop) : Prop :=
 (((Ty.int IntKind.i64).pr ((Ty.int IntKind.i64).pr ((Ty.byte.sl.pr Ty.byte.sl).pr (Ty.arr (32 : Nat) Ty.byte).sl)).sl).kd.wf (qaF qad (toB (97 : Int) :: ([] : List UInt8))) → (∀ (x0 : Int × (List UInt8 × List UInt8) × List (List UInt8)), x0 ∈ (qaF qad (toB (97 : Int) :: ([] : List UInt8))).snd → x0.snd.fst.fst.length + x0.snd.fst.snd.length ≤ (70368744177664 : Nat) ∧ x0.snd.snd.length ≤ (65536 : Nat)) ∧ (qdN Q))
def qdO (Q : Bool → Prop) : Prop :=
 ((qad.length ≤ (65536 : Nat) ∧ ∀ (x0 : List UInt8 × List UInt8), x0 ∈ qad → x0.fst.length + x0.snd.length ≤ (70368744177664 : Nat)) ∧ (((Ty.int IntKind.i64).pr ((Ty.int IntKind.i64).pr ((Ty.byte.sl.pr Ty.byte.sl).pr (Ty.arr (32 : Nat) Ty.byte).sl)).sl).kd.wf (qaF qad (toB (97 : Int) :: ([] : List UInt8))) → toB (120 : Int) :: ([] : List UInt8) ≠ ([] : List UInt8) ∧ (∀ (x0 : Int × (List UInt8 × List UInt8) × List (List UInt8)), x0 ∈ (qaF qad (toB (97 : Int) :: ([] : List UInt8))).snd → x0.snd.fst.fst.length + x0.snd.fst.snd.length ≤ (70368744177664 : Nat) ∧ x0.snd.snd.length ≤ (65536 : Nat)) ∧ (qdN Q)))
def qfc (Q : Bool → Prop) : Prop :=
 ((toB (120 : Int) :: ([] : List UInt8) ≠ ([] : List UInt8) ∧ toB (97 : Int) :: ([] : List UInt8) ≠ ([] : List UInt8) ∧ (qad.length ≤ (65536 : Nat) ∧ ∀ (x0 : List UInt8 × List UInt8), x0 ∈ qad → x0.fst.length + x0.snd.length ≤ (70368744177664 : Nat)) ∧ (qcQ Q)) ∧ (toB (97 : Int) :: ([] : List UInt8) ≠ ([] : List UInt8) ∧ (toB (120 : Int) :: ([] : List UInt8) ≠ ([] : List UInt8) ∧ (qad.length ≤ (65536 : Nat) ∧ ∀ (x0 : List UInt8 × List UInt8), x0 ∈ qad → x0.fst.length + x0.snd.length ≤ (70368744177664 : Nat)) ∧ (qcQ Q)) ∧ (qdO Q) ∧ True) ∧ True)
noncomputable def qcP : Ctr := ⟨[], [.v .bool], none, fun _ => ((true, ()), (()))⟩
noncomputable def qjm : Fx := ⟨seat, some bkT, fns, [(76, qd2), (32, ql4), (32, qfv), (33, qfw), (31, qdV), (29, qgR)], [], [], [(7, [], [.o 0 3, .o 3 3, .par [1, 2, 4, 5, 6] (.alt 1 1 (.alt 2 1 (.one 4 1 (.one 5 1 (.one 6 1 .fin))) (.alt 4 1 (.alt 2 1 (.one 5 1 (.one 6 1 .fin)) (.alt 5 1 (.alt 2 1 (.one 6 1 .fin) (.alt 6 1 (.one 2 1 .fin) .fin)) .fin)) .fin)) (.alt 4 1 (.alt 1 1 (.alt 2 1 (.one 5 1 (.one 6 1 .fin)) (.alt 5 1 (.alt 2 1 (.one 6 1 .fin) (.alt 6 1 (.one 2 1 .fin) .fin)) .fin)) (.alt 5 1 (.alt 1 1 (.alt 2 1 (.one 6 1 .fin) (.alt 6 1 (.one 2 1 .fin) .fin)) (.alt 6 1 (.one 1 1 (.one 2 1 .fin)) .fin)) .fin)) .fin)), .o 7 1, .o 8 3, .o 9 3, .o 10 3, .o 11 3, .o 12 3, .o 13 3, .o 14 3]), (8, [], [.o 0 2, .o 1 0, .o 2 2, .o 3 2, .o 4 2, .o 5 2, .o 6 2, .o 7 2, .o 8 2, .o 9 0, .o 10 0, .o 11 2, .o 12 2, .o 13 2, .o 14 2, .o 15 2, .o 16 2, .o 17 2, .o 18 2, .o 19 2, .o 20 2, .o 21 2, .o 22 2, .o 23 2, .o 24 2, .o 25 2, .o 26 2, .o 27 2, .o 28 2, .o 29 2, .o 30 2, .o 31 2, .o 32 2, .o 33 2, .o 34 2, .o 35 2, .o 36 2, .o 37 2, .o 38 2, .o 39 2, .o 40 2, .o 41 2, .o 42 2, .o 43 2, .o 44 2, .o 45 2, .o 46 2, .o 47 2, .o 48 2, .o 49 2, .o 50 2, .o 51 2, .o 52 2, .o 53 2, .o 54 2, .o 55 2, .o 56 2, .o 57 2, .o 58 2, .o 59 2, .o 60 2, .o 61 2])]⟩
def qfd (Q : Bool → Prop) : Prop :=
 (Ty.byte.sl.pr Ty.byte.sl).kd.sl.wf qad → (qad.length ≤ (65536 : Nat) ∧ ∀ (x0 : List UInt8 × List UInt8), x0 ∈ qad → x0.fst.length + x0.snd.length ≤ (70368744177664 : Nat)) ∧ ((Ty.arr (32 : Nat) Ty.byte).kd.wf (qa8 qad) → toB (100 : Int) :: ([] : List UInt8) ≠ ([] : List UInt8) ∧ (qad.length ≤ (65536 : Nat) ∧ ∀ (x0 : List UInt8 × List UInt8), x0 ∈ qad → x0.fst.length + x0.snd.length ≤ (70368744177664 : Nat)) ∧ (((Ty.int IntKind.i64).pr ((Ty.int IntKind.i64).pr ((Ty.byte.sl.pr Ty.byte.sl).pr (Ty.arr (32 : Nat) Ty.byte).sl)).sl).kd.wf (qaF qad (toB (100 : Int) :: ([] : List UInt8))) → toB (99 : Int) :: ([] : List UInt8) ≠ ([] : List UInt8) ∧ (qad.length ≤ (65536 : Nat) ∧ ∀ (x0 : List UInt8 × List UInt8), x0 ∈ qad → x0.fst.length + x0.snd.length ≤ (70368744177664 : Nat)) ∧ (((Ty.int IntKind.i64).pr ((Ty.int IntKind.i64).pr ((Ty.byte.sl.pr Ty.byte.sl).pr (Ty.arr (32 : Nat) Ty.byte).sl)).sl).kd.wf (qaF qad (toB (99 : Int) :: ([] : List UInt8))) → toB (100 : Int) :: ([] : List UInt8) ≠ ([] : List UInt8) ∧ (∀ (x0 : Int × (List UInt8 × List UInt8) × List (List UInt8)), x0 ∈ (qaF qad (toB (100 : Int) :: ([] : List UInt8))).snd → x0.snd.fst.fst.length + x0.snd.fst.snd.length ≤ (70368744177664 : Nat) ∧ x0.snd.snd.length ≤ (65536 : Nat)) ∧ (Ty.byte.kd.sl.wf (qct (qa8 qad) (toB (100 : Int) :: ([] : List UInt8)) (qaF qad (toB (100 : Int) :: ([] : List UInt8)))) → (Ty.int IntKind.i64).kd.wf (qbw (qa8 qad) (toB (100 : Int) :: ([] : List UInt8)) (qaF qad (toB (100 : Int) :: ([] : List UInt8)))) → toB (99 : Int) :: ([] : List UInt8) ≠ ([] : List UInt8) ∧ (∀ (x0 : Int × (List UInt8 × List UInt8) × List (List UInt8)), x0 ∈ (qaF qad (toB (99 : Int) :: ([] : List UInt8))).snd → x0.snd.fst.fst.length + x0.snd.fst.snd.length ≤ (70368744177664 : Nat) ∧ x0.snd.snd.length ≤ (65536 : Nat)) ∧ (Ty.byte.kd.sl.wf (qct (qa8 qad) (toB (99 : Int) :: ([] : List UInt8)) (qaF qad (toB (99 : Int) :: ([] : List UInt8)))) → (Ty.int IntKind.i64).kd.wf (qbw (qa8 qad) (toB (99 : Int) :: ([] : List UInt8)) (qaF qad (toB (99 : Int) :: ([] : List UInt8)))) → toB (99 : Int) :: ([] : List UInt8) ≠ ([] : List UInt8) ∧ (∀ (x0 : Int × (List UInt8 × List UInt8) × List (List UInt8)), x0 ∈ (qaF qad (toB (100 : Int) :: ([] : List UInt8))).snd → x0.snd.fst.fst.length + x0.snd.fst.snd.length ≤ (70368744177664 : Nat) ∧ x0.snd.snd.length ≤ (65536 : Nat)) ∧ (Ty.byte.kd.sl.wf (qct (qa8 qad) (toB (99 : Int) :: ([] : List UInt8)) (qaF qad (toB (100 : Int) :: ([] : List UInt8)))) → (Ty.int IntKind.i64).kd.wf (qbw (qa8 qad) (toB (99 : Int) :: ([] : List UInt8)) (qaF qad (toB (100 : Int) :: ([] : List UInt8)))) → ((toB (120 : Int) :: ([] : List UInt8) ≠ ([] : List UInt8) ∧ toB (97 : Int) :: ([] : List UInt8) ≠ ([] : List UInt8) ∧ (qad.length ≤ (65536 : Nat) ∧ ∀ (x0 : List UInt8 × List UInt8), x0 ∈ qad → x0.fst.length + x0.snd.length ≤ (70368744177664 : Nat)) ∧ (qcQ Q)) ∧ (qfc Q) ∧ True) ∧ ((qfc Q) ∧ (toB (97 : Int) :: ([] : List UInt8) ≠ ([] : List UInt8) ∧ ((toB (120 : Int) :: ([] : List UInt8) ≠ ([] : List UInt8) ∧ (qad.length ≤ (65536 : Nat) ∧ ∀ (x0 : List UInt8 × List UInt8), x0 ∈ qad → x0.fst.length + x0.snd.length ≤ (70368744177664 : Nat)) ∧ (qcQ Q)) ∧ (qdO Q) ∧ True) ∧ (qdO Q) ∧ True) ∧ True) ∧ True))))))
theorem qmN  : qfd  (fun o0 => o0 = true) := by
 have e100 : toB (100 : Int) = 100 := by decide
 have e99 : toB (99 : Int) = 99 := by decide
 have e97 : toB (97 : Int) = 97 := by decide
 have e120 : toB (120 : Int) = 120 := by decide
 have p1 := qlc
 have sm := fun key : By => qm6 (key := key) p1.1 p1.2
 obtain ⟨d1, d2, d3⟩ := tells (key := [100]) qc3
 obtain ⟨c1, c2, c3⟩ := tells (key := [99]) qc3
 have s1 : qdn qad [100] = ([50], true) := by decide +kernel
 have s2 : qdn qad [99] = ([], false) := by decide +kernel
 rw [s1] at d2 d3
 rw [s2] at c2 c3
 have n1 : mayK [ix qad 1, ix qad 0] = false := by decide +kernel
 have l1 : ((qaF qad [100]).2.length : Int) = 1 := by rw [qlb]; rfl
 have l2 : ((qaF qad [99]).2.length : Int) = 2 := by rw [quL]; rfl
 have l3 : (ix (qaF qad [100]).2 0).1 = 1 := by rw [qlb]; rfl
 have k1 : qdN (fun o0 => o0 = true) := by
  unfold qdN
  simp only [e100, e99, e97, e120]
  refine fun _ _ => ⟨fun _ => ⟨⟨by decide, by decide⟩, ⟨by decide, by decide⟩, fun _ => ⟨fun _ => ⟨⟨by omega, by omega⟩, fun _ => ⟨fun _ => ⟨fun _ => ⟨fun _ => ⟨fun _ => ⟨fun _ => ⟨fun _ => ⟨fun _ => decide_eq_true qrX, fun h => absurd qrW h⟩, fun h => absurd c1 h⟩, fun h => ?_⟩, fun h => absurd d1 h⟩, fun h => ?_⟩, fun h => absurd d3 h⟩, fun h => absurd l2 h⟩, fun h => absurd l3 h⟩, fun h => absurd l1 h⟩, fun h => ?_⟩, fun h => ?_⟩
  ·rw [c2] at h; cases h
  ·rw [d2] at h; cases h
  ·rw [n1] at h; cases h
  ·rw [qc3] at h; cases h
 have q : ∀ x : UInt8, [x] ≠ ([] : List UInt8) := fun x h => by cases h
 have k2 : qcQ (fun o0 => o0 = true) := fun _ => ⟨sm _, k1⟩
 have k3 : qdO (fun o0 => o0 = true) := ⟨p1, fun _ => ⟨q _, sm _, k1⟩⟩
 have k4 : qfc (fun o0 => o0 = true) := ⟨⟨q _, q _, p1, k2⟩, ⟨q _, ⟨q _, p1, k2⟩, k3, trivial⟩, trivial⟩
 unfold qfd
 exact fun _ => ⟨p1, fun _ => ⟨q _, p1, fun _ => ⟨q _, p1, fun _ => ⟨q _, sm _, fun _ _ => ⟨q _, sm _, fun _ _ => ⟨q _, sm _, fun _ _ => ⟨⟨⟨q _, q _, p1, k2⟩, k4, trivial⟩, ⟨k4, ⟨q _, ⟨⟨q _, p1, k2⟩, k3, trivial⟩, k3, trivial⟩, trivial⟩, trivial⟩⟩⟩⟩⟩⟩⟩
theorem qmM : (∀ a, qcP.pre a → PM.wfP qcP.pm a (fvc qjm 200 30 qcP a (eqO qcP a))) = (∀ a : Unit, True → qfd  (fun o0 => o0 = true)) := by kernel_rfl
theorem qn9 : qcP.valid Try.prog 30 := qau (X := qjm) (qaJ qal (fun b hb => by cases hb; exact qar) qas ⟨qrV, qrp, qoZ, quk, qrm, qsC, trivial⟩) 200 (qmM.mpr fun a hp  => @qmN )
end Go.Proofs.Ytmjjkpiglbpkhaa

set_option linter.unusedVariables false
namespace Go.Inc
open Go
abbrev Cu := List UInt8 × Bool
def qcH : List UInt8 → Nat × Nat
 | [] => (0, 0)
 | c :: r => if c.toNat ≤ 8 ∧ c.toNat ≤ r.length ∧ ¬ (0 < c.toNat ∧ r.head? = some 0) then (valB (r.take c.toNat), c.toNat + 1) else (0, 0)
theorem qbQ (c : UInt8) (r : List UInt8) : qcH (c :: r) = if c.toNat ≤ 8 ∧ c.toNat ≤ r.length ∧ ¬ (0 < c.toNat ∧ r.head? = some 0) then (valB (r.take c.toNat), c.toNat + 1) else (0, 0) := rfl
theorem qjc : ∀ l : List UInt8, valB l < 256 ^ l.length
 | [] => by simp [valB]
 | c :: l => by
   have h1 := qjc l
   have h2 : c.toNat < 256 := c.toNat_lt
   simp only [valB, List.length_cons, Nat.pow_succ]
   have h3 : c.toNat * 256 ^ l.length ≤ 255 * 256 ^ l.length := Nat.mul_le_mul_right _ (by omega)
   omega
theorem qmz : ∀ a b : List UInt8, valB (a ++ b) = valB a * 256 ^ b.length + valB b
 | [], b => by simp [valB]
 | c :: a, b => by
   simp only [List.cons_append, valB, qmz a b, List.length_append, Nat.pow_add, Nat.add_mul, Nat.mul_assoc, Nat.add_assoc]
theorem qoa : ∀ l : List UInt8, be (valB l) l.length = l
 | [] => rfl
 | c :: l => by
   have h1 := qjc l
   have hp : 0 < 256 ^ l.length := Nat.pow_pos (by omega)
   simp only [valB, List.length_cons, be, pow8]
   have h2 : (c.toNat * 256 ^ l.length + valB l) / 256 ^ l.length = c.toNat := by
    rw [Nat.mul_comm, Nat.mul_add_div hp, Nat.div_eq_of_lt h1, Nat.add_zero]
   rw [h2]
   have h3 : ∀ (n k : Nat) (j : Nat), be (n * 256 ^ k + j) k = be j k := fun n k j => by
    induction k generalizing n j with
    | zero => rfl
    | succ k ih =>
      simp only [be, pow8]
      have hk : 0 < 256 ^ k := Nat.pow_pos (by omega)
      have e1 : n * 256 ^ (k + 1) + j = (n * 256) * 256 ^ k + j := by rw [Nat.pow_succ, Nat.mul_assoc, Nat.mul_comm (256 ^ k)]
      rw [e1, ih]
      have e2 : (n * 256 * 256 ^ k + j) / 256 ^ k = n * 256 + j / 256 ^ k := by rw [Nat.mul_comm, Nat.mul_add_div hk]
      rw [e2]
      congr 1
      apply UInt8.toNat_inj.1
      simp
   rw [h3, qoa l]
   congr 1
   exact UInt8.toNat_inj.1 (by rw [UInt8.toNat_ofNat_of_lt' (by show _ < 256; exact c.toNat_lt)])
theorem qtJ {n k : Nat} (h : 2 ^ k ≤ n) : k < blen n := by
 rw [qcR k h]
 have : 0 < n / 2 ^ k := Nat.div_pos h (Nat.pow_pos (by omega))
 rw [qf7 this]
 omega
theorem qcn {l : List UInt8} {x k : Nat} (h : qcH l = (x, k)) (hk : 0 < k) : x < 2 ^ 64 ∧ (numB x).length = k ∧ ∃ r, l = numB x ++ r := by
 match l, h with
 | [], h => cases h; omega
 | c :: r, h =>
   rw [qbQ] at h
   by_cases hc : c.toNat ≤ 8 ∧ c.toNat ≤ r.length ∧ ¬ (0 < c.toNat ∧ r.head? = some 0)
   ·rw [if_pos hc] at h
    obtain ⟨h1, h2, h3⟩ := hc
    cases h
    have hl : (r.take c.toNat).length = c.toNat := by rw [List.length_take]; omega
    have hv := qjc (r.take c.toNat)
    rw [hl] at hv
    have e64 : 256 ^ c.toNat = 2 ^ (8 * c.toNat) := (pow8 _).symm
    have hx : valB (r.take c.toNat) < 2 ^ 64 := Nat.lt_of_lt_of_le hv (by rw [e64]; exact Nat.pow_le_pow_right (by omega) (by omega))
    have hb1 : blen (valB (r.take c.toNat)) ≤ 8 * c.toNat := qcE _ (by rw [← e64]; exact hv)
    have hkk : (blen (valB (r.take c.toNat)) + 7) / 8 = c.toNat := by
     rcases Nat.eq_zero_or_pos c.toNat with h0 | h0
     ·rw [h0] at hb1 ⊢; omega
     ·match r, h3, h2 with
      | [], h3, h2 => simp at h2; omega
      | d :: r, h3, h2 =>
        have hd : d ≠ 0 := fun hd => h3 ⟨h0, by rw [hd]; rfl⟩
        have hd0 : 0 < d.toNat := Nat.pos_of_ne_zero fun h => hd (UInt8.toNat_inj.1 h)
        obtain ⟨m, hm⟩ : ∃ m, c.toNat = m + 1 := ⟨c.toNat - 1, by omega⟩
        rw [hm, List.take_succ_cons] at hb1 ⊢
        have hlen : (r.take m).length = m := by rw [List.length_take]; simp at h2; omega
        have : 2 ^ (8 * m) ≤ valB (d :: r.take m) := by
         simp only [valB, hlen, pow8]
         exact Nat.le_trans (Nat.le_mul_of_pos_left _ hd0) (Nat.le_add_right _ _)
        have := qtJ this
        omega
    refine ⟨hx, ?_, r.drop c.toNat, ?_⟩
    ·simp only [numB, List.length_cons, qaM, hkk]
    ·have e : be (valB (r.take c.toNat)) c.toNat = r.take c.toNat := by
      have := qoa (r.take c.toNat)
      rwa [hl] at this
     simp only [numB, hkk, e, List.cons_append, List.take_append_drop]
     congr 1
     exact UInt8.toNat_inj.1 (by rw [UInt8.toNat_ofNat_of_lt' (by show _ < 256; exact c.toNat_lt)])
   ·rw [if_neg hc] at h
    cases h; omega
theorem qfD {x : Nat} (hx : x < 2 ^ 64) (q : List UInt8) : qcH (numB x ++ q) = (x, (numB x).length) := by
 have hb := qcE 64 hx
 have hk : ((UInt8.ofNat ((blen x + 7) / 8)).toNat) = (blen x + 7) / 8 := UInt8.toNat_ofNat_of_lt' (by show _ < 256; omega)
 have e : numB x ++ q = UInt8.ofNat ((blen x + 7) / 8) :: (be x ((blen x + 7) / 8) ++ q) := rfl
 have hl : (numB x).length = (blen x + 7) / 8 + 1 := by simp only [numB, List.length_cons, qaM]
 rw [e, hl]
 rw [qbQ, hk]
 have ht : (be x ((blen x + 7) / 8) ++ q).take ((blen x + 7) / 8) = be x ((blen x + 7) / 8) := by
  rw [List.take_append_of_le_length (by rw [qaM]; exact Nat.le_refl _), List.take_of_length_le (by rw [qaM]; exact Nat.le_refl _)]
 rw [if_pos]
 ·rw [ht, qjb, Nat.mod_eq_of_lt (qiO x)]
 ·refine ⟨by omega, by rw [List.length_append, qaM]; omega, fun hc => ?_⟩
  obtain ⟨h0, h1⟩ := hc
  obtain ⟨m, hm⟩ : ∃ m, (blen x + 7) / 8 = m + 1 := ⟨(blen x + 7) / 8 - 1, by omega⟩
  rw [hm] at h1
  have h1 : some (UInt8.ofNat (x / 2 ^ (8 * m))) = some 0 := h1
  have h2 := congrArg UInt8.toNat (Option.some.inj h1)
  have hlt : x / 2 ^ (8 * m) < 256 := by
   have := qiO x
   rw [hm, Nat.pow_succ] at this
   rw [pow8]
   exact Nat.div_lt_of_lt_mul this
  rw [UInt8.toNat_ofNat_of_lt' (by show _ < 256; exact hlt)] at h2
  have h2 : x / 2 ^ (8 * m) = 0 := h2
  have h3 : x < 2 ^ (8 * m) := by
   rcases Nat.lt_or_ge x (2 ^ (8 * m)) with h | h
   ·exact h
   ·have := Nat.div_pos h (Nat.pow_pos (by omega)); omega
  have := qcE _ h3
  omega
theorem qjR {l : List UInt8} {x k : Nat} (h : qcH l = (x, k)) (hk : 0 < k) (q : List UInt8) : qcH (l ++ q) = (x, k) := by
 obtain ⟨h1, h2, r, rfl⟩ := qcn h hk
 rw [List.append_assoc, qfD h1, h2]
def qac (s : Cu) : Nat × Nat := if s.2 = true then (0, 0) else qcH s.1
def numC (most : Nat) (s : Cu) : Nat × Cu := if 0 < (qac s).2 ∧ (qac s).1 ≤ most then ((qac s).1, (s.1.drop (qac s).2, false)) else (0, (s.1, true))
def qaE (most : Nat) (s : Cu) : List UInt8 × Cu := if 0 < (qac s).2 ∧ (qac s).1 ≤ most ∧ (qac s).1 + (qac s).2 ≤ s.1.length then ((s.1.drop (qac s).2).take (qac s).1, (s.1.drop ((qac s).2 + (qac s).1), false)) else ([], (s.1, true))
def sumC (s : Cu) : Sm × Cu := if s.2 = false ∧ 32 ≤ s.1.length then (s.1.take 32, (s.1.drop 32, false)) else (sm0L, (s.1, true))
def qaR {α : Type} (f : Cu → α × Cu) : Nat → Cu → List α × Cu
 | 0, s => ([], s)
 | n + 1, s => ((f s).1 :: (qaR f n (f s).2).1, (qaR f n (f s).2).2)
structure Cuts {α : Type} (f : Cu → α × Cu) (enc : α → List UInt8) (ok : α → Prop) : Prop where
 bad : ∀ s, s.2 = true → (f s).2.2 = true
 sound : ∀ b, (f (b, false)).2.2 = false → b = enc (f (b, false)).1 ++ (f (b, false)).2.1 ∧ ok (f (b, false)).1
 on : ∀ b q, (f (b, false)).2.2 = false → f (b ++ q, false) = ((f (b, false)).1, ((f (b, false)).2.1 ++ q, false))
theorem qcZ {s : Cu} (h : s.2 = true) : qac s = (0, 0) := if_pos h
theorem qbi (b : List UInt8) : qac (b, false) = qcH b := if_neg (fun h : false = true => by cases h)
theorem qeI (most : Nat) (hm : most < 2 ^ 64) : Cuts (numC most) numB (fun x => x ≤ most) where
 bad := fun s h => by
  unfold numC
  rw [qcZ h, if_neg (by simp)]
 sound := fun b h => by
  unfold numC at h ⊢
  rw [qbi] at h ⊢
  generalize hp : qcH b = p at h ⊢
  obtain ⟨x, k⟩ := p
  dsimp only at h ⊢
  by_cases hc : 0 < k ∧ x ≤ most
  ·rw [if_pos hc]
   obtain ⟨h1, h2, r, rfl⟩ := qcn hp hc.1
   exact ⟨by rw [← h2, List.drop_left], hc.2⟩
  ·rw [if_neg hc] at h; cases h
 on := fun b q h => by
  unfold numC at h ⊢
  rw [qbi] at h ⊢
  rw [qbi]
  generalize hp : qcH b = p at h ⊢
  obtain ⟨x, k⟩ := p
  dsimp only at h ⊢
  by_cases hc : 0 < k ∧ x ≤ most
  ·obtain ⟨h1, h2, r, rfl⟩ := qcn hp hc.1
   rw [qjR hp hc.1 q]
   dsimp only
   rw [if_pos hc, if_pos hc]
   dsimp only
   rw [List.drop_append_of_le_length (by rw [List.length_append, h2]; omega)]
  ·rw [if_neg hc] at h; cases h
theorem qpg {most x : Nat} (hx : x < 2 ^ 64) (q : List UInt8) : numC most (numB x ++ q, false) = if x ≤ most then (x, (q, false)) else (0, (numB x ++ q, true)) := by
 unfold numC
 rw [qbi, qfD hx]
 have hp : 0 < (numB x).length := by simp [numB]
 show (if 0 < (numB x).length ∧ x ≤ most then (x, ((numB x ++ q).drop (numB x).length, false)) else (0, (numB x ++ q, true))) = _
 rw [List.drop_left]
 by_cases h : x ≤ most
 ·rw [if_pos ⟨hp, h⟩, if_pos h]
 ·rw [if_neg (fun hc => h hc.2), if_neg h]
def qc7 (x : List UInt8) : List UInt8 := numB x.length ++ x
theorem qdP (most : Nat) : Cuts (qaE most) qc7 (fun x => x.length ≤ most ∧ x.length < 2 ^ 64) where
 bad := fun s h => by
  unfold qaE
  rw [qcZ h, if_neg (by simp)]
 sound := fun b h => by
  unfold qaE at h ⊢
  rw [qbi] at h ⊢
  generalize hp : qcH b = p at h ⊢
  obtain ⟨x, k⟩ := p
  dsimp only at h ⊢
  by_cases hc : 0 < k ∧ x ≤ most ∧ x + k ≤ b.length
  ·rw [if_pos hc]
   obtain ⟨h1, h2, r, rfl⟩ := qcn hp hc.1
   have hl : (((numB x ++ r).drop k).take x).length = x := by rw [List.length_take, List.length_drop]; omega
   dsimp only
   refine ⟨?_, by rw [hl]; exact ⟨hc.2.1, h1⟩⟩
   unfold qc7
   rw [hl, ← List.drop_drop, List.append_assoc, List.take_append_drop, ← h2, List.drop_left]
  ·rw [if_neg hc] at h; cases h
 on := fun b q h => by
  unfold qaE at h ⊢
  rw [qbi] at h ⊢
  rw [qbi]
  generalize hp : qcH b = p at h ⊢
  obtain ⟨x, k⟩ := p
  dsimp only at h ⊢
  by_cases hc : 0 < k ∧ x ≤ most ∧ x + k ≤ b.length
  ·have hc' : 0 < k ∧ x ≤ most ∧ x + k ≤ (b ++ q).length := ⟨hc.1, hc.2.1, by rw [List.length_append]; omega⟩
   rw [qjR hp hc.1 q]
   dsimp only
   rw [if_pos hc, if_pos hc']
   dsimp only
   rw [List.drop_append_of_le_length (by omega), List.drop_append_of_le_length (by omega), List.take_append_of_le_length (by rw [List.length_drop]; omega)]
  ·rw [if_neg hc] at h; cases h
theorem qgB {most : Nat} {x : List UInt8} (hx : x.length < 2 ^ 64) (q : List UInt8) : qaE most (qc7 x ++ q, false) = if x.length ≤ most then (x, (q, false)) else ([], (qc7 x ++ q, true)) := by
 have e : qc7 x ++ q = numB x.length ++ (x ++ q) := by unfold qc7; rw [List.append_assoc]
 unfold qaE
 rw [qbi, e, qfD hx]
 have hp : 0 < (numB x.length).length := by simp [numB]
 show (if 0 < (numB x.length).length ∧ x.length ≤ most ∧ x.length + (numB x.length).length ≤ (numB x.length ++ (x ++ q)).length then (((numB x.length ++ (x ++ q)).drop (numB x.length).length).take x.length, ((numB x.length ++ (x ++ q)).drop ((numB x.length).length + x.length), false)) else ([], (numB x.length ++ (x ++ q), true))) = _
 rw [← List.drop_drop, List.drop_left, List.take_left, List.drop_left]
 by_cases h : x.length ≤ most
 ·rw [if_pos ⟨hp, h, by simp only [List.length_append]; omega⟩, if_pos h]
 ·rw [if_neg (fun hc => h hc.2.1), if_neg h]
theorem qg9 : Cuts sumC (fun x => x) (fun x => x.length = 32) where
 bad := fun s h => by
  unfold sumC
  rw [h, if_neg (by simp)]
 sound := fun b h => by
  unfold sumC at h ⊢
  split at h
  ·rename_i hc
   rw [if_pos hc]
   have hl : 32 ≤ b.length := hc.2
   exact ⟨(List.take_append_drop 32 b).symm, by show (b.take 32).length = 32; rw [List.length_take]; omega⟩
  ·cases h
 on := fun b q h => by
  unfold sumC at h ⊢
  split at h
  ·rename_i hc
   have hl : 32 ≤ b.length := hc.2
   rw [if_pos hc, if_pos ⟨rfl, by show 32 ≤ (b ++ q).length; rw [List.length_append]; omega⟩]
   show ((b ++ q).take 32, ((b ++ q).drop 32, false)) = (b.take 32, (b.drop 32 ++ q, false))
   rw [List.take_append_of_le_length hl, List.drop_append_of_le_length hl]
  ·cases h
theorem qrR {x : Sm} (hx : x.length = 32) (q : List UInt8) : sumC (x ++ q, false) = (x, (q, false)) := by
 unfold sumC
 rw [if_pos ⟨rfl, by show 32 ≤ (x ++ q).length; rw [List.length_append]; omega⟩]
 show ((x ++ q).take 32, ((x ++ q).drop 32, false)) = _
 rw [← hx, List.take_left, List.drop_left]
section
variable {α β γ : Type} {f : Cu → α × Cu} {enc : α → List UInt8} {ok : α → Prop}
theorem Cuts.iter (h : Cuts f enc ok) : ∀ n, Cuts (qaR f n) (fun l => l.flatMap enc) (fun l => l.length = n ∧ ∀ x ∈ l, ok x)
 | 0 => ⟨fun s hs => hs, fun b _ => ⟨rfl, rfl, fun x hx => by cases hx⟩, fun b q _ => rfl⟩
 | n + 1 => by
   have ih := h.iter n
   refine ⟨fun s hs => ih.bad _ (h.bad s hs), fun b hb => ?_, fun b q hb => ?_⟩
   ·have hb : (qaR f n (f (b, false)).2).2.2 = false := hb
    have h0 : (f (b, false)).2.2 = false := by
     cases hc : (f (b, false)).2.2 with
     | false => rfl
     | true => rw [ih.bad _ hc] at hb; cases hb
    have e : (f (b, false)).2 = ((f (b, false)).2.1, false) := Prod.ext rfl h0
    rw [e] at hb
    obtain ⟨s1, s2⟩ := h.sound b h0
    obtain ⟨t1, t2, t3⟩ := ih.sound _ hb
    show b = ((f (b, false)).1 :: (qaR f n (f (b, false)).2).1).flatMap enc ++ (qaR f n (f (b, false)).2).2.1 ∧ _ ∧ _
    rw [e]
    refine ⟨?_, by show (qaR f n (f (b, false)).2).1.length + 1 = n + 1; rw [e, t2], fun x hx => ?_⟩
    ·rw [List.flatMap_cons, List.append_assoc, ← t1]
     exact s1
    ·have hx : x ∈ (f (b, false)).1 :: (qaR f n (f (b, false)).2).1 := hx
     rw [e] at hx
     rcases List.mem_cons.1 hx with rfl | hx
     ·exact s2
     ·exact t3 x hx
   ·have hb : (qaR f n (f (b, false)).2).2.2 = false := hb
    have h0 : (f (b, false)).2.2 = false := by
     cases hc : (f (b, false)).2.2 with
     | false => rfl
     | true => rw [ih.bad _ hc] at hb; cases hb
    have e : (f (b, false)).2 = ((f (b, false)).2.1, false) := Prod.ext rfl h0
    rw [e] at hb
    show ((f (b ++ q, false)).1 :: (qaR f n (f (b ++ q, false)).2).1, (qaR f n (f (b ++ q, false)).2).2) = ((f (b, false)).1 :: (qaR f n (f (b, false)).2).1, ((qaR f n (f (b, false)).2).2.1 ++ q, false))
    rw [h.on b q h0, e]
    show ((f (b, false)).1 :: (qaR f n ((f (b, false)).2.1 ++ q, false)).1, (qaR f n ((f (b, false)).2.1 ++ q, false)).2) = _
    rw [ih.on _ q hb]
def andC (f : Cu → α × Cu) (g : α → Cu → β × Cu) (s : Cu) : (α × β) × Cu := (((f s).1, (g (f s).1 (f s).2).1), (g (f s).1 (f s).2).2)
theorem Cuts.and {g : α → Cu → β × Cu} {enc' : β → List UInt8} {ok' : α → β → Prop} (h : Cuts f enc ok) (h' : ∀ a, Cuts (g a) enc' (ok' a)) : Cuts (andC f g) (fun x => enc x.1 ++ enc' x.2) (fun x => ok x.1 ∧ ok' x.1 x.2) := by
 refine ⟨fun s hs => (h' _).bad _ (h.bad s hs), fun b hb => ?_, fun b q hb => ?_⟩
 ·have hb : (g (f (b, false)).1 (f (b, false)).2).2.2 = false := hb
  have h0 : (f (b, false)).2.2 = false := by
   cases hc : (f (b, false)).2.2 with
   | false => rfl
   | true => rw [(h' _).bad _ hc] at hb; cases hb
  have e : (f (b, false)).2 = ((f (b, false)).2.1, false) := Prod.ext rfl h0
  rw [e] at hb
  obtain ⟨s1, s2⟩ := h.sound b h0
  obtain ⟨t1, t2⟩ := (h' _).sound _ hb
  unfold andC
  dsimp only
  rw [e]
  exact ⟨by rw [List.append_assoc, ← t1]; exact s1, s2, t2⟩
 ·have hb : (g (f (b, false)).1 (f (b, false)).2).2.2 = false := hb
  have h0 : (f (b, false)).2.2 = false := by
   cases hc : (f (b, false)).2.2 with
   | false => rfl
   | true => rw [(h' _).bad _ hc] at hb; cases hb
  have e : (f (b, false)).2 = ((f (b, false)).2.1, false) := Prod.ext rfl h0
  rw [e] at hb
  unfold andC
  rw [h.on b q h0, e]
  dsimp only
  rw [(h' _).on _ q hb]
theorem Cuts.map {m : α → β} {enc' : β → List UInt8} {ok' : β → Prop} (h : Cuts f enc ok) (he : ∀ x, ok x → enc' (m x) = enc x) (ho : ∀ x, ok x → ok' (m x)) : Cuts (fun s => (m (f s).1, (f s).2)) enc' ok' :=
 ⟨fun s hs => h.bad s hs, fun b hb => ⟨by rw [he _ (h.sound b hb).2]; exact (h.sound b hb).1, ho _ (h.sound b hb).2⟩, fun b q hb => by dsimp only; rw [h.on b q hb]⟩
end
end Go.Inc

set_option linter.unusedVariables false
namespace Go.Inc
open Go
theorem qxe (a c : Nat) (hc : c < 2 ^ 8) (h : a * 2 ^ 8 + c < 2 ^ 64) : bor .u64 ((a * 2 ^ 8 : Nat) : Int) (c : Int) = ((a * 2 ^ 8 + c : Nat) : Int) := by
 unfold bor
 show IntKind.u64.wrap (((BitVec.ofInt 64 ((a * 2 ^ 8 : Nat) : Int) ||| BitVec.ofInt 64 (c : Int)).toNat : Nat) : Int) = _
 have e1 : (BitVec.ofInt 64 ((a * 2 ^ 8 : Nat) : Int)).toNat = a * 2 ^ 8 := by
  rw [BitVec.toNat_ofInt]
  omega
 have e2 : (BitVec.ofInt 64 (c : Int)).toNat = c := by
  rw [BitVec.toNat_ofInt]
  omega
 rw [BitVec.toNat_or, e1, e2]
 have e3 : a * 2 ^ 8 ||| c = a * 2 ^ 8 + c := by
  rw [Nat.mul_comm]
  exact (Nat.two_pow_add_eq_or_of_lt hc a).symm
 rw [e3]
 exact qam ⟨by show (0 : Int) ≤ _; omega, by show ((a * 2 ^ 8 + c : Nat) : Int) ≤ 18446744073709551615; omega⟩
theorem qqQ {x : Nat} {d : UInt8} (h : x < 2 ^ 56) : bor .u64 (shl .u64 (x : Int) 8) (bI d) = ((x * 256 + d.toNat : Nat) : Int) := by
 have hd : d.toNat < 256 := d.toNat_lt
 have e : shl .u64 (x : Int) 8 = ((x * 2 ^ 8 : Nat) : Int) := by
  unfold shl
  show IntKind.u64.wrap ((x : Int) * 2 ^ 8) = _
  rw [qam ⟨by show (0 : Int) ≤ _; omega, by show (x : Int) * 2 ^ 8 ≤ 18446744073709551615; omega⟩]
  omega
 rw [e]
 exact qxe x d.toNat (by omega) (by omega)
theorem qpX {l : List UInt8} {j : Nat} (h : j < l.length) : valB (l.take (j + 1)) = valB (l.take j) * 256 + l[j].toNat := by
 rw [List.take_add_one, List.getElem?_eq_getElem h]
 show valB (l.take j ++ [l[j]]) = _
 rw [qmz]
 simp [valB]
theorem qmd {b : List UInt8} {x k : Nat} (hp : qcH b = (x, k)) : x < 2 ^ 64 ∧ k ≤ 9 ∧ k ≤ b.length := by
 rcases Nat.eq_zero_or_pos k with rfl | hk
 ·refine ⟨?_, by omega, by omega⟩
  match b, hp with
  | [], hp => cases hp; decide
  | c :: r, hp =>
    rw [qbQ] at hp
    split at hp
    ·cases hp
    ·cases hp; decide
 ·obtain ⟨h1, h2, r, rfl⟩ := qcn hp hk
  have := qaC h1
  exact ⟨h1, by omega, by rw [List.length_append]; omega⟩
theorem qrC (m : Nat) (b : List UInt8) : numC m (b, true) = (0, (b, true)) := by
 unfold numC
 rw [qcZ rfl, if_neg (by simp)]
theorem quq {m : Nat} {b : List UInt8} {x k : Nat} (hp : qcH b = (x, k)) : numC m (b, false) = if 0 < k ∧ x ≤ m then (x, (b.drop k, false)) else (0, (b, true)) := by
 unfold numC
 rw [qbi, hp]
theorem qof (m : Nat) (b : List UInt8) : qaE m (b, true) = ([], (b, true)) := by
 unfold qaE
 rw [qcZ rfl, if_neg (by simp)]
theorem qqO {m : Nat} {b : List UInt8} {x k : Nat} (hp : qcH b = (x, k)) : qaE m (b, false) = if 0 < k ∧ x ≤ m ∧ x + k ≤ b.length then ((b.drop k).take x, (b.drop (k + x), false)) else ([], (b, true)) := by
 unfold qaE
 rw [qbi, hp]
def u64I (a : Int) : Int := IntKind.u64.wrap a
def spB (x : Sp) : List UInt8 := qaf [u64I x.1] ++ (qak [x.2.1.1, x.2.1.2] ++ (qaf [u64I x.2.2.length] ++ x.2.2.flatten))
def qaP (s : Sn) : List UInt8 := qaf [u64I s.1, u64I s.2.length] ++ s.2.flatMap spB
def qgJ (x : Sp) : Prop := (0 ≤ x.1 ∧ x.1 ≤ 2147483647) ∧ x.2.1.1.length ≤ 256 ∧ x.2.1.2.length ≤ 1048576 ∧ x.2.2.length ≤ 32
instance (x : Sp) : Decidable (qgJ x) := by unfold qgJ; exact inferInstance
def fitS (s : Sn) : Prop := (0 ≤ s.1 ∧ s.1 ≤ 2147483647) ∧ s.2.length ≤ 2 ∧ ∀ x ∈ s.2, qgJ x
instance (s : Sn) : Decidable (fitS s) := by unfold fitS; exact inferInstance
def qna : Cu → (Nat × (List UInt8 × (List UInt8 × (Nat × List Sm)))) × Cu := andC (numC 2147483647) fun _ => andC (qaE 256) fun _ => andC (qaE 1048576) fun _ => andC (numC 32) fun n => qaR sumC n
def qdD (s : Cu) : Sp × Cu := ((((qna s).1.1 : Int), (((qna s).1.2.1, (qna s).1.2.2.1), (qna s).1.2.2.2.2)), (qna s).2)
def qrN : Cu → (Nat × (Nat × List Sp)) × Cu := andC (numC 2147483647) fun _ => andC (numC 2) fun n => qaR qdD n
def qg6 (s : Cu) : Sn × Cu := (((qrN s).1.1, (qrN s).1.2.2), (qrN s).2)
def qbK (s : Cu) : Sn × Cu := (if (qg6 s).2.2 = true then (0, []) else (qg6 s).1, (qg6 s).2)
theorem qmx {n : Nat} (h : n < 2 ^ 64) : u64I (n : Int) = (n : Int) := qam ⟨by show (0 : Int) ≤ _; omega, by show (n : Int) ≤ 18446744073709551615; omega⟩
theorem num1 (a : Int) : qaf [a] = numB a.toNat := by simp [qaf]
theorem num2 (a b : Int) : qaf [a, b] = numB a.toNat ++ numB b.toNat := by simp [qaf]
theorem qtK (a b : List UInt8) : qak [a, b] = qc7 a ++ qc7 b := by simp [qak, qc7]
theorem quE {n : Nat} {k v : List UInt8} {l : List Sm} (hn : n < 2 ^ 64) (hl : l.length < 2 ^ 64) : spB ((n : Int), ((k, v), l)) = numB n ++ (qc7 k ++ (qc7 v ++ (numB l.length ++ l.flatten))) := by
 unfold spB
 dsimp only
 rw [num1, num1, qtK, qmx hn, qmx hl, Int.toNat_natCast, Int.toNat_natCast, List.append_assoc]
theorem qfI : Cuts qdD spB (fun x => qgJ x ∧ ∀ z ∈ x.2.2, z.length = 32) := by
 have h := (qeI 2147483647 (by decide)).and (g := fun _ => andC (qaE 256) fun _ => andC (qaE 1048576) fun _ => andC (numC 32) fun n => qaR sumC n) fun _ =>
  (qdP 256).and (g := fun _ => andC (qaE 1048576) fun _ => andC (numC 32) fun n => qaR sumC n) fun _ =>
  (qdP 1048576).and (g := fun _ => andC (numC 32) fun n => qaR sumC n) fun _ =>
  (qeI 32 (by decide)).and (g := fun n => qaR sumC n) fun n => qg9.iter n
 refine h.map (m := fun x => ((x.1 : Int), ((x.2.1, x.2.2.1), x.2.2.2.2))) (fun x hx => ?_) (fun x hx => ?_)
 ·obtain ⟨n, k, v, m, l⟩ := x
  obtain ⟨h1, h2, h3, h4, h5, h6⟩ := hx
  dsimp only at h1 h2 h3 h4 h5 h6 ⊢
  rw [quE (by omega) (by omega), h5]
  simp
 ·obtain ⟨n, k, v, m, l⟩ := x
  obtain ⟨h1, h2, h3, h4, h5, h6⟩ := hx
  dsimp only at h1 h2 h3 h4 h5 h6 ⊢
  exact ⟨⟨⟨by omega, by omega⟩, h2.1, h3.1, by show l.length ≤ 32; omega⟩, h6⟩
theorem qjS {s : Cu} (h : (qbK s).2.2 = true) : (qbK s).1 = (0, []) := if_pos h
theorem qmf {s : Cu} (h : (qbK s).2.2 = false) : (qbK s).1 = (qg6 s).1 := if_neg (by rw [show (qg6 s).2.2 = false from h]; exact fun h => by cases h)
theorem qiS {most : Nat} (hm : most < 2 ^ 63) {a : Int} (ha : (Kd.int .i64).wf a) (q : List UInt8) : numC most (numB (u64I a).toNat ++ q, false) = if 0 ≤ a ∧ a ≤ most then (a.toNat, (q, false)) else (0, (numB (u64I a).toNat ++ q, true)) := by
 have h0 : 0 ≤ u64I a := (qbI .u64 a).1
 have h1 : u64I a ≤ 18446744073709551615 := (qbI .u64 a).2
 rw [qpg (by omega)]
 have ha1 : -9223372036854775808 ≤ a := ha.1
 have ha2 : a ≤ 9223372036854775807 := ha.2
 by_cases hp : 0 ≤ a
 ·have e : u64I a = a := qam ⟨by show (0 : Int) ≤ _; omega, by show a ≤ 18446744073709551615; omega⟩
  rw [e]
  by_cases hm : a.toNat ≤ most
  ·rw [if_pos hm, if_pos ⟨hp, by omega⟩]
  ·rw [if_neg hm, if_neg (by omega)]
 ·have e : u64I a = a + 18446744073709551616 := by
   unfold u64I IntKind.wrap
   simp only [IntKind.signed, IntKind.bits]
   simp
   omega
  rw [if_neg (by rw [e]; omega), if_neg (by omega)]
theorem qjE : ∀ (l : List Sm) (q : List UInt8), (∀ z ∈ l, z.length = 32) → qaR sumC l.length (l.flatten ++ q, false) = (l, (q, false))
 | [], q, _ => rfl
 | x :: l, q, h => by
   have e : (x :: l).flatten ++ q = x ++ (l.flatten ++ q) := by simp
   show ((sumC ((x :: l).flatten ++ q, false)).1 :: (qaR sumC l.length (sumC ((x :: l).flatten ++ q, false)).2).1, (qaR sumC l.length (sumC ((x :: l).flatten ++ q, false)).2).2) = _
   rw [e, qrR (h x (by simp)), qjE l q fun z hz => h z (by simp [hz])]
theorem qiR (m : Nat) (s : Cu) : (numC m s).1 ≤ m ∧ (numC m s).2.1.length ≤ s.1.length := by
 unfold numC
 split
 ·rename_i h
  exact ⟨h.2, by rw [List.length_drop]; omega⟩
 ·exact ⟨Nat.zero_le _, Nat.le_refl _⟩
theorem qlH (m : Nat) (s : Cu) : (qaE m s).2.1.length ≤ s.1.length := by
 unfold qaE
 split
 ·rw [List.length_drop]; omega
 ·exact Nat.le_refl _
theorem quH (s : Cu) : (sumC s).2.1.length ≤ s.1.length := by
 unfold sumC
 split
 ·rw [List.length_drop]; omega
 ·exact Nat.le_refl _
theorem qmW {α : Type} (f : Cu → α × Cu) {n j : Nat} (h : j < n) (s : Cu) : qaR f (n - j) s = ((f s).1 :: (qaR f (n - (j + 1)) (f s).2).1, (qaR f (n - (j + 1)) (f s).2).2) := by
 obtain ⟨m, hm⟩ : ∃ m, n - j = m + 1 := ⟨n - j - 1, by omega⟩
 have e : n - (j + 1) = m := by omega
 rw [hm, e]
 rfl
def atC {α : Type} (f : Cu → α × Cu) (n : Nat) (s0 : Cu) (j : Nat) (l : List α) (s : Cu) : Prop := l.length = j ∧ j ≤ n ∧ qaR f n s0 = (l ++ (qaR f (n - j) s).1, (qaR f (n - j) s).2)
theorem atC.zero {α : Type} (f : Cu → α × Cu) (n : Nat) (s0 : Cu) : atC f n s0 0 [] s0 := ⟨rfl, Nat.zero_le _, rfl⟩
theorem atC.next {α : Type} {f : Cu → α × Cu} {n : Nat} {s0 : Cu} {j : Nat} {l : List α} {s : Cu} (h : atC f n s0 j l s) (hj : j < n) : atC f n s0 (j + 1) (l ++ [(f s).1]) (f s).2 := by
 obtain ⟨h1, h2, h3⟩ := h
 refine ⟨by rw [List.length_append, h1]; rfl, hj, ?_⟩
 rw [h3, qmW f hj, List.append_assoc]
 rfl
theorem atC.end {α : Type} {f : Cu → α × Cu} {n : Nat} {s0 : Cu} {l : List α} {s : Cu} (h : atC f n s0 n l s) : qaR f n s0 = (l, s) := by
 obtain ⟨h1, h2, h3⟩ := h
 rw [h3, Nat.sub_self]
 show (l ++ [], s) = _
 rw [List.append_nil]
theorem qmp (s : Cu) : qdD s = ((((numC 2147483647 s).1 : Int), (((qaE 256 (numC 2147483647 s).2).1, (qaE 1048576 (qaE 256 (numC 2147483647 s).2).2).1), (qaR sumC (numC 32 (qaE 1048576 (qaE 256 (numC 2147483647 s).2).2).2).1 (numC 32 (qaE 1048576 (qaE 256 (numC 2147483647 s).2).2).2).2).1)), (qaR sumC (numC 32 (qaE 1048576 (qaE 256 (numC 2147483647 s).2).2).2).1 (numC 32 (qaE 1048576 (qaE 256 (numC 2147483647 s).2).2).2).2).2) := by simp only [qdD, qna, andC]
theorem qml (s : Cu) : qg6 s = ((((numC 2147483647 s).1 : Int), (qaR qdD (numC 2 (numC 2147483647 s).2).1 (numC 2 (numC 2147483647 s).2).2).1), (qaR qdD (numC 2 (numC 2147483647 s).2).1 (numC 2 (numC 2147483647 s).2).2).2) := by simp only [qg6, qrN, andC]
theorem qes (a : Int) : 0 ≤ u64I a ∧ u64I a ≤ 18446744073709551615 := ⟨(qbI .u64 a).1, (qbI .u64 a).2⟩
theorem qaS (a : Int) : (qaf [u64I a]).length ≤ 9 := by
 have := qes a
 rw [num1]
 exact qaC (by omega)
theorem qbY {a b : List UInt8} (h : a.length + b.length ≤ 16777216) : (qak [a, b]).length ≤ a.length + b.length + 18 := by
 rw [qtK, List.length_append]
 unfold qc7
 rw [List.length_append, List.length_append]
 have h1 := qaC (n := a.length) (by omega)
 have h2 := qaC (n := b.length) (by omega)
 omega
theorem qca : ∀ {l : List Sm}, (∀ x ∈ l, x.length = 32) → l.flatten.length = 32 * l.length
 | [], _ => rfl
 | x :: l, h => by
   rw [List.flatten_cons, List.length_append, h x (by simp), qca fun z hz => h z (by simp [hz]), List.length_cons]
   omega
def eqSn (a b : Int × List (Int × ((List UInt8) × List UInt8) × List (List UInt8))) : Bool := decide (a = b)
end Go.Inc

set_option linter.unusedVariables false
set_option maxRecDepth 100000
set_option maxHeartbeats 20000000
namespace Go.Proofs.Ytmjjkpiglbpkhaa
open Go Go.RowKit Go.Inc
noncomputable def qee : Ctr := ⟨[.bx (.pr (.sl .byte) .bool) false], [.v (.int .u64), .v (.int .i64)], none, fun a => (fun (a0_r : (List UInt8) × Bool) => ((((qac a0_r).1 : Int), ((qac a0_r).2 : Int), ()), (()))) a.1⟩
noncomputable def qoo : Fx := ⟨seat, some bkT, fns, [], [], [], [(1, [], [.o 0 2, .o 1 2, .o 2 2, .o 3 2, .o 4 2, .o 5 2, .o 6 2, .o 7 2, .o 8 2, .o 9 2, .o 10 2, .o 11 2, .o 12 2, .o 13 2, .o 14 2, .o 15 2, .o 16 2, .o 17 2, .o 18 2, .o 19 2, .o 20 2, .o 21 2, .o 22 2, .o 23 2, .o 24 2, .o 25 2, .o 26 2, .o 27 2, .o 28 2, .o 29 2, .o 30 2, .o 31 2, .o 32 2, .o 33 2, .o 34 2, .o 35 2])]⟩
def qiw (a0_r : (List UInt8) × Bool) (Q : Int → Int → Prop) : Prop :=
 (a0_r.snd = true → Q (0 : Int) (0 : Int)) ∧ (a0_r.snd = false → ((a0_r.fst.length : Int) = (0 : Int) → Q (0 : Int) (0 : Int)) ∧ (¬(a0_r.fst.length : Int) = (0 : Int) → ((0 : Int) ≤ (0 : Int) ∧ (0 : Int) < (a0_r.fst.length : Int)) ∧ ((8 : Int) < bI (ix a0_r.fst (0 : Int)) → Q (0 : Int) (0 : Int)) ∧ (¬(8 : Int) < bI (ix a0_r.fst (0 : Int)) → ((0 : Int) ≤ (0 : Int) ∧ (0 : Int) < (a0_r.fst.length : Int)) ∧ ((a0_r.fst.length : Int) ≤ bI (ix a0_r.fst (0 : Int)) → Q (0 : Int) (0 : Int)) ∧ (¬(a0_r.fst.length : Int) ≤ bI (ix a0_r.fst (0 : Int)) → ((0 : Int) ≤ (0 : Int) ∧ (0 : Int) < (a0_r.fst.length : Int)) ∧ ((0 : Int) ≤ (1 : Int) ∧ (1 : Int) ≤ IntKind.i64.wrap ((1 : Int) + bI (ix a0_r.fst (0 : Int))) ∧ IntKind.i64.wrap ((1 : Int) + bI (ix a0_r.fst (0 : Int))) ≤ (a0_r.fst.length : Int)) ∧ ∃ (x0 : Int → Int → Prop), ∃ (x1 : Int → Int → Nat), x0 (0 : Int) (0 : Int) ∧ ∀ (x2 x3 : Int), x0 x2 x3 → (Kd.int IntKind.u64).wf x2 → (Kd.int IntKind.i64).wf x3 → (x3 < ((List.drop (Int.toNat (1 : Int)) (List.take (IntKind.i64.wrap ((1 : Int) + bI (ix a0_r.fst (0 : Int)))).toNat a0_r.fst)).length : Int) → ((0 : Int) ≤ x3 ∧ x3 < ((List.drop (Int.toNat (1 : Int)) (List.take (IntKind.i64.wrap ((1 : Int) + bI (ix a0_r.fst (0 : Int)))).toNat a0_r.fst)).length : Int)) ∧ x3 < (9223372036854775807 : Int) ∧ x0 (bor IntKind.u64 (shl IntKind.u64 x2 (8 : Int)) (bI (ix (List.drop (Int.toNat (1 : Int)) (List.take (IntKind.i64.wrap ((1 : Int) + bI (ix a0_r.fst (0 : Int)))).toNat a0_r.fst)) x3))) (x3 + (1 : Int)) ∧ x1 (bor IntKind.u64 (shl IntKind.u64 x2 (8 : Int)) (bI (ix (List.drop (Int.toNat (1 : Int)) (List.take (IntKind.i64.wrap ((1 : Int) + bI (ix a0_r.fst (0 : Int)))).toNat a0_r.fst)) x3))) (x3 + (1 : Int)) < x1 x2 x3) ∧ (¬x3 < ((List.drop (Int.toNat (1 : Int)) (List.take (IntKind.i64.wrap ((1 : Int) + bI (ix a0_r.fst (0 : Int)))).toNat a0_r.fst)).length : Int) → ((1 : Int) < IntKind.i64.wrap ((1 : Int) + bI (ix a0_r.fst (0 : Int))) → ((0 : Int) ≤ (1 : Int) ∧ (1 : Int) < (a0_r.fst.length : Int)) ∧ (bI (ix a0_r.fst (1 : Int)) = (0 : Int) → Q (0 : Int) (0 : Int)) ∧ (¬bI (ix a0_r.fst (1 : Int)) = (0 : Int) → Q x2 (IntKind.i64.wrap ((1 : Int) + bI (ix a0_r.fst (0 : Int)))))) ∧ (¬(1 : Int) < IntKind.i64.wrap ((1 : Int) + bI (ix a0_r.fst (0 : Int))) → Q x2 (IntKind.i64.wrap ((1 : Int) + bI (ix a0_r.fst (0 : Int))))))))))
theorem qqY {a0_r : (List UInt8) × Bool} (w_0 : (Ty.kd (.pr (.sl .byte) .bool)).wf a0_r) : qiw a0_r (fun o0 o1 => o0 = ((qac a0_r).1 : Int) ∧ o1 = ((qac a0_r).2 : Int)) := by
 obtain ⟨b, bad⟩ := a0_r
 unfold qiw
 refine ⟨fun h => ?_, fun h => ?_⟩
 ·have h : bad = true := h
  subst h
  exact ⟨rfl, rfl⟩
 have h : bad = false := h
 subst h
 have eP : qac (b, false) = qcH b := qbi b
 simp only [eP]
 rcases b with _ | ⟨c, r⟩
 ·exact ⟨fun _ => ⟨rfl, rfl⟩, fun h => absurd rfl h⟩
 have e0 : ix (c :: r) (0 : Int) = c := rfl
 have ec : bI c = (c.toNat : Int) := rfl
 have hc : c.toNat < 256 := c.toNat_lt
 have el : (((c :: r).length : Nat) : Int) = (r.length : Int) + 1 := by simp
 have b0 : (0 : Int) ≤ 0 ∧ (0 : Int) < (((c :: r).length : Nat) : Int) := by rw [el]; omega
 simp only [e0, ec]
 refine ⟨fun h => absurd h (by rw [el]; omega), fun _ => ⟨b0, fun h8 => ?_, fun h8 => ⟨b0, fun hl => ?_, fun hl => ?_⟩⟩⟩
 ·rw [qbQ, if_neg (by omega)]; exact ⟨rfl, rfl⟩
 ·rw [el] at hl
  rw [qbQ, if_neg (by omega)]; exact ⟨rfl, rfl⟩
 rw [el] at hl
 have h8 : c.toNat ≤ 8 := by omega
 have hkl : c.toNat ≤ r.length := by omega
 have ew : IntKind.i64.wrap (1 + (c.toNat : Int)) = ((c.toNat + 1 : Nat) : Int) := by rw [qam (wf64 (by omega) (by omega))]; omega
 have eR : List.drop (Int.toNat 1) (List.take ((c.toNat + 1 : Nat) : Int).toNat (c :: r)) = r.take c.toNat := rfl
 have eL : (r.take c.toNat).length = c.toNat := by rw [List.length_take]; omega
 simp only [ew, eR, eL]
 refine ⟨b0, ⟨by omega, by omega, by rw [el]; omega⟩, ?_⟩
 refine ⟨fun x i => ∃ j : Nat, i = (j : Int) ∧ j ≤ c.toNat ∧ x = (valB ((r.take c.toNat).take j) : Int), fun _ i => ((c.toNat : Int) - i).toNat, ⟨0, rfl, Nat.zero_le _, rfl⟩, ?_⟩
 rintro x2 _ ⟨j, rfl, hj, rfl⟩ _ _
 refine ⟨fun hlt => ?_, fun hge => ?_⟩
 ·have hj' : j < c.toNat := by omega
  have hjl : j < (r.take c.toNat).length := by rw [eL]; exact hj'
  have hlen : ((r.take c.toNat).take j).length = j := by rw [List.length_take, eL]; omega
  have hv := qjc ((r.take c.toNat).take j)
  rw [hlen] at hv
  have hv56 : valB ((r.take c.toNat).take j) < 2 ^ 56 := Nat.lt_of_lt_of_le hv (by
   have : 256 ^ j ≤ 256 ^ 7 := Nat.pow_le_pow_right (by omega) (by omega)
   exact this)
  refine ⟨⟨by omega, by omega⟩, by omega, ⟨j + 1, rfl, hj', ?_⟩, by dsimp only; omega⟩
  rw [ixN hjl, qqQ hv56, qpX hjl]
 ·obtain rfl : j = c.toNat := by omega
  have eT : (r.take c.toNat).take c.toNat = r.take c.toNat := by rw [List.take_take, Nat.min_self]
  rw [eT]
  have good : ¬ (0 < c.toNat ∧ r.head? = some 0) → ((valB (r.take c.toNat) : Nat) : Int) = ((qcH (c :: r)).1 : Int) ∧ ((c.toNat + 1 : Nat) : Int) = ((qcH (c :: r)).2 : Int) := fun hn => by
   rw [qbQ, if_pos ⟨h8, hkl, hn⟩]
   exact ⟨rfl, rfl⟩
  refine ⟨fun h1 => ?_, fun h1 => good fun hn => by omega⟩
  match r, hkl with
  | [], hkl => simp at hkl; omega
  | d :: r, hkl =>
    have e1 : ix (c :: d :: r) (1 : Int) = d := rfl
    simp only [e1]
    refine ⟨by simp; omega, fun hd => ?_, fun hd => good fun hn => hd ?_⟩
    ·have hd0 : d = 0 := UInt8.toNat_inj.1 (by have : (d.toNat : Int) = 0 := hd; show d.toNat = 0; omega)
     rw [qbQ, if_neg (fun hn => hn.2.2 ⟨by omega, by rw [hd0]; rfl⟩)]
     exact ⟨rfl, rfl⟩
    ·have : d = 0 := Option.some.inj hn.2
     rw [this]; rfl
theorem qqX : (∀ a, qee.pre a → PM.wfP qee.pm a (fvc qoo 200 112 qee a (eqO qee a))) = (∀ a : ((List UInt8) × Bool) × Unit, True → (Ty.kd (.pr (.sl .byte) .bool)).wf a.1 → qiw a.1 (fun o0 o1 => o0 = ((qac (a.1)).1 : Int) ∧ o1 = ((qac (a.1)).2 : Int))) := by kernel_rfl
theorem qop : qee.valid Try.prog 112 := qau (X := qoo) (qaJ qal (fun b hb => by cases hb; exact qar) qas trivial) 200 (qqX.mpr fun a hp w_0 => @qqY a.1 w_0)
noncomputable def qhr : Ctr := ⟨[.v (.sl .byte)], [.bx (.st (.pr (.sl .byte) .bool))], some (fun a => (fun (a0_b : List UInt8) => (a0_b.length ≤ 140737488355328 : Prop)) a.1), fun a => (fun (a0_b : List UInt8) => ((((a0_b, false) : List UInt8 × Bool), ()), (()))) a.1⟩
noncomputable def qsc : Fx := ⟨seat, some bkT, fns, [(69, qb0), (69, qb3)], [], [], []⟩
def qkc (a0_b : List UInt8) (Q : ((List UInt8) × Bool) → Prop) : Prop :=
 a0_b.length ≤ (140737488355328 : Nat) ∧ (Ty.byte.kd.sl.wf a0_b → Q (a0_b, (Ty.byte.sl.pr Ty.bool).kd.z.snd))
theorem qs1 {a0_b : List UInt8} (w_0 : (Ty.kd (.sl .byte)).wf a0_b) (hp : a0_b.length ≤ 140737488355328) : qkc a0_b (fun o0 => o0 = ((a0_b, false) : List UInt8 × Bool)) := by
 unfold qkc
 exact ⟨hp, fun _ => rfl⟩
theorem qs0 : (∀ a, qhr.pre a → PM.wfP qhr.pm a (fvc qsc 200 23 qhr a (eqO qhr a))) = (∀ a : (List UInt8) × Unit, ((a.1).length ≤ 140737488355328) → (Ty.kd (.sl .byte)).wf a.1 → qkc a.1 (fun o0 => o0 = (((a.1), false) : List UInt8 × Bool))) := by kernel_rfl
theorem qu2 : qhr.valid Try.prog 23 := qau (X := qsc) (qaJ qal (fun b hb => by cases hb; exact qar) qas ⟨qds, qf4, trivial⟩) 200 (qs0.mpr fun a hp w_0 => @qs1 a.1 w_0 hp)
def qgF (a0_c : (List UInt8) × Bool) (a1_most : Int) (Q : Int → ((List UInt8) × Bool) → Prop) : Prop :=
 (true = false → ((0 : Int) ≤ ((qac a0_c).snd : Int) ∧ ((qac a0_c).snd : Int) ≤ ((qac a0_c).snd : Int) ∧ ((qac a0_c).snd : Int) ≤ (a0_c.fst.length : Int)) ∧ ((0 : Int) ≤ ((qac a0_c).snd : Int) ∧ ((qac a0_c).snd : Int) ≤ (a0_c.fst.length : Int)) ∧ ∀ (x0 : Bool), (x0 = true → List.take ((qac a0_c).snd : Int).toNat a0_c.fst = ([] : List UInt8)) → (x0 = true → Q (0 : Int) (List.drop ((qac a0_c).snd : Int).toNat a0_c.fst, true)) ∧ (x0 = false → Q ((qac a0_c).fst : Int) (List.drop ((qac a0_c).snd : Int).toNat a0_c.fst, true)))
noncomputable def qhC : Ctr := ⟨[.bx (.st (.pr (.sl .byte) .bool)) true, .v (.int .u64)], [.v (.int .u64)], none, fun a => (fun (a0_c : (List UInt8) × Bool) (a1_most : Int) => ((((numC a1_most.toNat a0_c).1 : Int), ()), ((numC a1_most.toNat a0_c).2, ()))) a.1 a.2.1⟩
noncomputable def qsv : Fx := ⟨seat, some bkT, fns, [(112, qee)], [73, 113], [], [(5, [0], [.o 0 2, .o 1 2, .o 2 2, .o 3 2, .o 4 2, .o 5 2, .o 6 2, .o 7 2, .o 8 2, .o 9 2, .o 10 2, .o 11 2, .o 12 2, .o 13 2, .o 14 2, .o 15 2, .o 16 2, .o 17 1])]⟩
def qkz (a0_c : (List UInt8) × Bool) (a1_most : Int) (Q : Int → ((List UInt8) × Bool) → Prop) : Prop :=
 (Ty.int IntKind.u64).kd.wf ((qac a0_c).fst : Int) → (Ty.int IntKind.i64).kd.wf ((qac a0_c).snd : Int) → ((0 : Int) < ((qac a0_c).snd : Int) → (a0_c.snd = true → (true = true → Q (0 : Int) (a0_c.fst, true)) ∧ (qgF a0_c a1_most Q)) ∧ (a0_c.snd = false → (¬((qac a0_c).fst : Int) ≤ a1_most → (true = true → Q (0 : Int) (a0_c.fst, true)) ∧ (qgF a0_c a1_most Q)) ∧ (((qac a0_c).fst : Int) ≤ a1_most → (decide ((a0_c.fst.length : Int) < ((qac a0_c).snd : Int)) = true → Q (0 : Int) (a0_c.fst, decide ((a0_c.fst.length : Int) < ((qac a0_c).snd : Int)))) ∧ (decide ((a0_c.fst.length : Int) < ((qac a0_c).snd : Int)) = false → ((0 : Int) ≤ ((qac a0_c).snd : Int) ∧ ((qac a0_c).snd : Int) ≤ ((qac a0_c).snd : Int) ∧ ((qac a0_c).snd : Int) ≤ (a0_c.fst.length : Int)) ∧ ((0 : Int) ≤ ((qac a0_c).snd : Int) ∧ ((qac a0_c).snd : Int) ≤ (a0_c.fst.length : Int)) ∧ ∀ (x0 : Bool), (x0 = true → List.take ((qac a0_c).snd : Int).toNat a0_c.fst = ([] : List UInt8)) → (x0 = true → Q (0 : Int) (List.drop ((qac a0_c).snd : Int).toNat a0_c.fst, decide ((a0_c.fst.length : Int) < ((qac a0_c).snd : Int)))) ∧ (x0 = false → Q ((qac a0_c).fst : Int) (List.drop ((qac a0_c).snd : Int).toNat a0_c.fst, decide ((a0_c.fst.length : Int) < ((qac a0_c).snd : Int)))))))) ∧ (¬(0 : Int) < ((qac a0_c).snd : Int) → (a0_c.snd = true → (true = true → Q (0 : Int) (a0_c.fst, true)) ∧ (qgF a0_c a1_most Q)) ∧ (a0_c.snd = false → (true = true → Q (0 : Int) (a0_c.fst, true)) ∧ (qgF a0_c a1_most Q)))
theorem qtS {a0_c : (List UInt8) × Bool} {a1_most : Int} (w_0 : (Ty.kd (.st (.pr (.sl .byte) .bool))).wf a0_c) (w_1 : (Ty.kd (.int .u64)).wf a1_most) : qkz a0_c a1_most (fun o0 o1 => o0 = ((numC a1_most.toNat a0_c).1 : Int) ∧ o1 = (numC a1_most.toNat a0_c).2) := by
 obtain ⟨b, bad⟩ := a0_c
 have k1 : ∀ Q, qgF (b, bad) a1_most Q := fun Q h => by cases h
 unfold qkz
 intro _ _
 cases bad with
 | true =>
   have e : qac (b, true) = (0, 0) := qcZ rfl
   have eN := qrC a1_most.toNat b
   simp only [e]
   refine ⟨fun h => absurd h (by decide), fun _ => ⟨fun _ => ⟨fun _ => ?_, k1 _⟩, fun h => by cases h⟩⟩
   rw [eN]; exact ⟨rfl, rfl⟩
 | false =>
   have e : qac (b, false) = qcH b := qbi b
   rw [e]
   generalize hp : qcH b = p
   obtain ⟨x, k⟩ := p
   have eN := quq (m := a1_most.toNat) hp
   obtain ⟨hx, hk9, hkl⟩ := qmd hp
   have hm : 0 ≤ a1_most := w_1.1
   rw [hp] at e
   have bad : ¬ (0 < k ∧ x ≤ a1_most.toNat) → ((0 : Int) = ((numC a1_most.toNat (b, false)).1 : Int) ∧ (b, true) = (numC a1_most.toNat (b, false)).2) := fun h => by
    rw [eN, if_neg h]; exact ⟨rfl, rfl⟩
   dsimp only
   refine ⟨fun h0 => ⟨fun h => (by cases h), fun _ => ⟨fun h1 => ⟨fun _ => bad (by omega), k1 _⟩, fun h1 => ⟨fun h2 => ?_, fun h2 => ⟨⟨by omega, by omega, by omega⟩, ⟨by omega, by omega⟩, fun z hz => ⟨fun hzt => ?_, fun _ => ?_⟩⟩⟩⟩⟩, fun h0 => ⟨fun h => (by cases h), fun _ => ⟨fun _ => bad (by omega), k1 _⟩⟩⟩
   ·have := of_decide_eq_true h2; omega
   ·exfalso
    have := congrArg List.length (hz hzt)
    rw [List.length_take] at this
    simp only [List.length_nil, Int.toNat_natCast] at this
    omega
   ·rw [eN, if_pos ⟨by omega, by omega⟩, h2]
    exact ⟨rfl, rfl⟩
theorem qtR : (∀ a, qhC.pre a → PM.wfP qhC.pm a (fvc qsv 200 70 qhC a (eqO qhC a))) = (∀ a : ((List UInt8) × Bool) × Int × Unit, True → (Ty.kd (.st (.pr (.sl .byte) .bool))).wf a.1 → (Ty.kd (.int .u64)).wf a.2.1 → qkz a.1 a.2.1 (fun o0 o1 => o0 = ((numC (a.2.1).toNat (a.1)).1 : Int) ∧ o1 = (numC (a.2.1).toNat (a.1)).2)) := by kernel_rfl
theorem qv7 : qhC.valid Try.prog 70 := qau (X := qsv) (qaJ qal (fun b hb => by cases hb; exact qar) qas ⟨qop, trivial⟩) 200 (qtR.mpr fun a hp w_0 w_1 => @qtS a.1 a.2.1 w_0 w_1)
def qb6 (a0_c : (List UInt8) × Bool) (a1_most : Int) (Q : (List UInt8) → ((List UInt8) × Bool) → Prop) : Prop :=
 (true = false → ((0 : Int) ≤ IntKind.i64.wrap (((qac a0_c).snd : Int) + IntKind.i64.wrap (0 : Int)) ∧ IntKind.i64.wrap (((qac a0_c).snd : Int) + IntKind.i64.wrap (0 : Int)) ≤ IntKind.i64.wrap (((qac a0_c).snd : Int) + IntKind.i64.wrap (0 : Int)) ∧ IntKind.i64.wrap (((qac a0_c).snd : Int) + IntKind.i64.wrap (0 : Int)) ≤ (a0_c.fst.length : Int)) ∧ ((0 : Int) ≤ IntKind.i64.wrap (((qac a0_c).snd : Int) + IntKind.i64.wrap (0 : Int)) ∧ IntKind.i64.wrap (((qac a0_c).snd : Int) + IntKind.i64.wrap (0 : Int)) ≤ (a0_c.fst.length : Int)) ∧ ∀ (x0 : Bool), (x0 = true → List.take (IntKind.i64.wrap (((qac a0_c).snd : Int) + IntKind.i64.wrap (0 : Int))).toNat a0_c.fst = ([] : List UInt8)) → (x0 = true → Q ([] : List UInt8) (List.drop (IntKind.i64.wrap (((qac a0_c).snd : Int) + IntKind.i64.wrap (0 : Int))).toNat a0_c.fst, true)) ∧ (x0 = false → ((0 : Int) ≤ ((qac a0_c).snd : Int) ∧ ((qac a0_c).snd : Int) ≤ ((List.take (IntKind.i64.wrap (((qac a0_c).snd : Int) + IntKind.i64.wrap (0 : Int))).toNat a0_c.fst).length : Int)) ∧ (List.drop ((qac a0_c).snd : Int).toNat (List.take (IntKind.i64.wrap (((qac a0_c).snd : Int) + IntKind.i64.wrap (0 : Int))).toNat a0_c.fst)).length ≤ (140737488355328 : Nat) ∧ (Ty.byte.kd.sl.wf (List.drop ((qac a0_c).snd : Int).toNat (List.take (IntKind.i64.wrap (((qac a0_c).snd : Int) + IntKind.i64.wrap (0 : Int))).toNat a0_c.fst)) → Q (List.drop ((qac a0_c).snd : Int).toNat (List.take (IntKind.i64.wrap (((qac a0_c).snd : Int) + IntKind.i64.wrap (0 : Int))).toNat a0_c.fst)) (List.drop (IntKind.i64.wrap (((qac a0_c).snd : Int) + IntKind.i64.wrap (0 : Int))).toNat a0_c.fst, true))))
def qir (a0_c : (List UInt8) × Bool) (a1_most : Int) (Q : (List UInt8) → ((List UInt8) × Bool) → Prop) : Prop :=
 (true = false → ((0 : Int) ≤ IntKind.i64.wrap (((qac a0_c).snd : Int) + IntKind.i64.wrap ((qac a0_c).fst : Int)) ∧ IntKind.i64.wrap (((qac a0_c).snd : Int) + IntKind.i64.wrap ((qac a0_c).fst : Int)) ≤ IntKind.i64.wrap (((qac a0_c).snd : Int) + IntKind.i64.wrap ((qac a0_c).fst : Int)) ∧ IntKind.i64.wrap (((qac a0_c).snd : Int) + IntKind.i64.wrap ((qac a0_c).fst : Int)) ≤ (a0_c.fst.length : Int)) ∧ ((0 : Int) ≤ IntKind.i64.wrap (((qac a0_c).snd : Int) + IntKind.i64.wrap ((qac a0_c).fst : Int)) ∧ IntKind.i64.wrap (((qac a0_c).snd : Int) + IntKind.i64.wrap ((qac a0_c).fst : Int)) ≤ (a0_c.fst.length : Int)) ∧ ∀ (x0 : Bool), (x0 = true → List.take (IntKind.i64.wrap (((qac a0_c).snd : Int) + IntKind.i64.wrap ((qac a0_c).fst : Int))).toNat a0_c.fst = ([] : List UInt8)) → (x0 = true → Q ([] : List UInt8) (List.drop (IntKind.i64.wrap (((qac a0_c).snd : Int) + IntKind.i64.wrap ((qac a0_c).fst : Int))).toNat a0_c.fst, true)) ∧ (x0 = false → ((0 : Int) ≤ ((qac a0_c).snd : Int) ∧ ((qac a0_c).snd : Int) ≤ ((List.take (IntKind.i64.wrap (((qac a0_c).snd : Int) + IntKind.i64.wrap ((qac a0_c).fst : Int))).toNat a0_c.fst).length : Int)) ∧ (List.drop ((qac a0_c).snd : Int).toNat (List.take (IntKind.i64.wrap (((qac a0_c).snd : Int) + IntKind.i64.wrap ((qac a0_c).fst : Int))).toNat a0_c.fst)).length ≤ (140737488355328 : Nat) ∧ (Ty.byte.kd.sl.wf (List.drop ((qac a0_c).snd : Int).toNat (List.take (IntKind.i64.wrap (((qac a0_c).snd : Int) + IntKind.i64.wrap ((qac a0_c).fst : Int))).toNat a0_c.fst)) → Q (List.drop ((qac a0_c).snd : Int).toNat (List.take (IntKind.i64.wrap (((qac a0_c).snd : Int) + IntKind.i64.wrap ((qac a0_c).fst : Int))).toNat a0_c.fst)) (List.drop (IntKind.i64.wrap (((qac a0_c).snd : Int) + IntKind.i64.wrap ((qac a0_c).fst : Int))).toNat a0_c.fst, true))))
noncomputable def qff : Ctr := ⟨[.bx (.st (.pr (.sl .byte) .bool)) true, .v (.int .i64)], [.ow 5 .byte], some (fun a => (fun (a0_c : (List UInt8) × Bool) (a1_most : Int) => (0 ≤ a1_most ∧ a0_c.1.length ≤ 140737488355328 : Prop)) a.1 a.2.1), fun a => (fun (a0_c : (List UInt8) × Bool) (a1_most : Int) => (((qaE a1_most.toNat a0_c).1, ()), ((qaE a1_most.toNat a0_c).2, ()))) a.1 a.2.1⟩
noncomputable def qoj : Fx := ⟨seat, some bkT, fns, [(112, qee), (69, qb0), (69, qb3)], [73, 113, 122], [], [(5, [0], [.o 0 2, .o 1 2, .o 2 2, .o 3 2, .o 4 2, .o 5 2, .o 6 2, .o 7 2, .o 8 2, .o 9 2, .o 10 2, .o 11 2, .o 12 2, .o 13 2, .o 14 2, .o 15 2, .o 16 2, .o 17 1])]⟩
def qis (a0_c : (List UInt8) × Bool) (a1_most : Int) (Q : (List UInt8) → ((List UInt8) × Bool) → Prop) : Prop :=
 (Ty.int IntKind.u64).kd.wf ((qac a0_c).fst : Int) → (Ty.int IntKind.i64).kd.wf ((qac a0_c).snd : Int) → ((0 : Int) < ((qac a0_c).snd : Int) → ((0 : Int) ≤ a1_most → (((qac a0_c).fst : Int) ≤ IntKind.u64.wrap (bif true then max a1_most (0 : Int) else min a1_most (0 : Int)) → (¬((qac a0_c).fst : Int) ≤ IntKind.u64.wrap (IntKind.i64.wrap ((a0_c.fst.length : Int) - ((qac a0_c).snd : Int))) → (a0_c.snd = true → (true = true → Q ([] : List UInt8) (a0_c.fst, true)) ∧ (qb6 a0_c a1_most Q)) ∧ (a0_c.snd = false → (¬((qac a0_c).fst : Int) ≤ IntKind.u64.wrap (IntKind.i64.wrap ((a0_c.fst.length : Int) - ((qac a0_c).snd : Int))) → (true = true → Q ([] : List UInt8) (a0_c.fst, true)) ∧ (qb6 a0_c a1_most Q)) ∧ (((qac a0_c).fst : Int) ≤ IntKind.u64.wrap (IntKind.i64.wrap ((a0_c.fst.length : Int) - ((qac a0_c).snd : Int))) → (decide ((a0_c.fst.length : Int) < IntKind.i64.wrap (((qac a0_c).snd : Int) + IntKind.i64.wrap (0 : Int))) = true → Q ([] : List UInt8) (a0_c.fst, decide ((a0_c.fst.length : Int) < IntKind.i64.wrap (((qac a0_c).snd : Int) + IntKind.i64.wrap (0 : Int))))) ∧ (decide ((a0_c.fst.length : Int) < IntKind.i64.wrap (((qac a0_c).snd : Int) + IntKind.i64.wrap (0 : Int))) = false → ((0 : Int) ≤ IntKind.i64.wrap (((qac a0_c).snd : Int) + IntKind.i64.wrap (0 : Int)) ∧ IntKind.i64.wrap (((qac a0_c).snd : Int) + IntKind.i64.wrap (0 : Int)) ≤ IntKind.i64.wrap (((qac a0_c).snd : Int) + IntKind.i64.wrap (0 : Int)) ∧ IntKind.i64.wrap (((qac a0_c).snd : Int) + IntKind.i64.wrap (0 : Int)) ≤ (a0_c.fst.length : Int)) ∧ ((0 : Int) ≤ IntKind.i64.wrap (((qac a0_c).snd : Int) + IntKind.i64.wrap (0 : Int)) ∧ IntKind.i64.wrap (((qac a0_c).snd : Int) + IntKind.i64.wrap (0 : Int)) ≤ (a0_c.fst.length : Int)) ∧ ∀ (x0 : Bool), (x0 = true → List.take (IntKind.i64.wrap (((qac a0_c).snd : Int) + IntKind.i64.wrap (0 : Int))).toNat a0_c.fst = ([] : List UInt8)) → (x0 = true → Q ([] : List UInt8) (List.drop (IntKind.i64.wrap (((qac a0_c).snd : Int) + IntKind.i64.wrap (0 : Int))).toNat a0_c.fst, decide ((a0_c.fst.length : Int) < IntKind.i64.wrap (((qac a0_c).snd : Int) + IntKind.i64.wrap (0 : Int))))) ∧ (x0 = false → ((0 : Int) ≤ ((qac a0_c).snd : Int) ∧ ((qac a0_c).snd : Int) ≤ ((List.take (IntKind.i64.wrap (((qac a0_c).snd : Int) + IntKind.i64.wrap (0 : Int))).toNat a0_c.fst).length : Int)) ∧ (List.drop ((qac a0_c).snd : Int).toNat (List.take (IntKind.i64.wrap (((qac a0_c).snd : Int) + IntKind.i64.wrap (0 : Int))).toNat a0_c.fst)).length ≤ (140737488355328 : Nat) ∧ (Ty.byte.kd.sl.wf (List.drop ((qac a0_c).snd : Int).toNat (List.take (IntKind.i64.wrap (((qac a0_c).snd : Int) + IntKind.i64.wrap (0 : Int))).toNat a0_c.fst)) → Q (List.drop ((qac a0_c).snd : Int).toNat (List.take (IntKind.i64.wrap (((qac a0_c).snd : Int) + IntKind.i64.wrap (0 : Int))).toNat a0_c.fst)) (List.drop (IntKind.i64.wrap (((qac a0_c).snd : Int) + IntKind.i64.wrap (0 : Int))).toNat a0_c.fst, decide ((a0_c.fst.length : Int) < IntKind.i64.wrap (((qac a0_c).snd : Int) + IntKind.i64.wrap (0 : Int)))))))))) ∧ (((qac a0_c).fst : Int) ≤ IntKind.u64.wrap (IntKind.i64.wrap ((a0_c.fst.length : Int) - ((qac a0_c).snd : Int))) → (a0_c.snd = true → (true = true → Q ([] : List UInt8) (a0_c.fst, true)) ∧ (qir a0_c a1_most Q)) ∧ (a0_c.snd = false → (¬((qac a0_c).fst : Int) ≤ IntKind.u64.wrap (IntKind.i64.wrap ((a0_c.fst.length : Int) - ((qac a0_c).snd : Int))) → (true = true → Q ([] : List UInt8) (a0_c.fst, true)) ∧ (qir a0_c a1_most Q)) ∧ (((qac a0_c).fst : Int) ≤ IntKind.u64.wrap (IntKind.i64.wrap ((a0_c.fst.length : Int) - ((qac a0_c).snd : Int))) → (decide ((a0_c.fst.length : Int) < IntKind.i64.wrap (((qac a0_c).snd : Int) + IntKind.i64.wrap ((qac a0_c).fst : Int))) = true → Q ([] : List UInt8) (a0_c.fst, decide ((a0_c.fst.length : Int) < IntKind.i64.wrap (((qac a0_c).snd : Int) + IntKind.i64.wrap ((qac a0_c).fst : Int))))) ∧ (decide ((a0_c.fst.length : Int) < IntKind.i64.wrap (((qac a0_c).snd : Int) + IntKind.i64.wrap ((qac a0_c).fst : Int))) = false → ((0 : Int) ≤ IntKind.i64.wrap (((qac a0_c).snd : Int) + IntKind.i64.wrap ((qac a0_c).fst : Int)) ∧ IntKind.i64.wrap (((qac a0_c).snd : Int) + IntKind.i64.wrap ((qac a0_c).fst : Int)) ≤ IntKind.i64.wrap (((qac a0_c).snd : Int) + IntKind.i64.wrap ((qac a0_c).fst : Int)) ∧ IntKind.i64.wrap (((qac a0_c).snd : Int) + IntKind.i64.wrap ((qac a0_c).fst : Int)) ≤ (a0_c.fst.length : Int)) ∧ ((0 : Int) ≤ IntKind.i64.wrap (((qac a0_c).snd : Int) + IntKind.i64.wrap ((qac a0_c).fst : Int)) ∧ IntKind.i64.wrap (((qac a0_c).snd : Int) + IntKind.i64.wrap ((qac a0_c).fst : Int)) ≤ (a0_c.fst.length : Int)) ∧ ∀ (x0 : Bool), (x0 = true → List.take (IntKind.i64.wrap (((qac a0_c).snd : Int) + IntKind.i64.wrap ((qac a0_c).fst : Int))).toNat a0_c.fst = ([] : List UInt8)) → (x0 = true → Q ([] : List UInt8) (List.drop (IntKind.i64.wrap (((qac a0_c).snd : Int) + IntKind.i64.wrap ((qac a0_c).fst : Int))).toNat a0_c.fst, decide ((a0_c.fst.length : Int) < IntKind.i64.wrap (((qac a0_c).snd : Int) + IntKind.i64.wrap ((qac a0_c).fst : Int))))) ∧ (x0 = false → ((0 : Int) ≤ ((qac a0_c).snd : Int) ∧ ((qac a0_c).snd : Int) ≤ ((List.take (IntKind.i64.wrap (((qac a0_c).snd : Int) + IntKind.i64.wrap ((qac a0_c).fst : Int))).toNat a0_c.fst).length : Int)) ∧ (List.drop ((qac a0_c).snd : Int).toNat (List.take (IntKind.i64.wrap (((qac a0_c).snd : Int) + IntKind.i64.wrap ((qac a0_c).fst : Int))).toNat a0_c.fst)).length ≤ (140737488355328 : Nat) ∧ (Ty.byte.kd.sl.wf (List.drop ((qac a0_c).snd : Int).toNat (List.take (IntKind.i64.wrap (((qac a0_c).snd : Int) + IntKind.i64.wrap ((qac a0_c).fst : Int))).toNat a0_c.fst)) → Q (List.drop ((qac a0_c).snd : Int).toNat (List.take (IntKind.i64.wrap (((qac a0_c).snd : Int) + IntKind.i64.wrap ((qac a0_c).fst : Int))).toNat a0_c.fst)) (List.drop (IntKind.i64.wrap (((qac a0_c).snd : Int) + IntKind.i64.wrap ((qac a0_c).fst : Int))).toNat a0_c.fst, decide ((a0_c.fst.length : Int) < IntKind.i64.wrap (((qac a0_c).snd : Int) + IntKind.i64.wrap ((qac a0_c).fst : Int))))))))))) ∧ (¬((qac a0_c).fst : Int) ≤ IntKind.u64.wrap (bif true then max a1_most (0 : Int) else min a1_most (0 : Int)) → (a0_c.snd = true → (true = true → Q ([] : List UInt8) (a0_c.fst, true)) ∧ (qb6 a0_c a1_most Q)) ∧ (a0_c.snd = false → (true = true → Q ([] : List UInt8) (a0_c.fst, true)) ∧ (qb6 a0_c a1_most Q)))) ∧ (¬(0 : Int) ≤ a1_most → (a0_c.snd = true → (true = true → Q ([] : List UInt8) (a0_c.fst, true)) ∧ (qb6 a0_c a1_most Q)) ∧ (a0_c.snd = false → (true = true → Q ([] : List UInt8) (a0_c.fst, true)) ∧ (qb6 a0_c a1_most Q)))) ∧ (¬(0 : Int) < ((qac a0_c).snd : Int) → (a0_c.snd = true → (true = true → Q ([] : List UInt8) (a0_c.fst, true)) ∧ (qb6 a0_c a1_most Q)) ∧ (a0_c.snd = false → (true = true → Q ([] : List UInt8) (a0_c.fst, true)) ∧ (qb6 a0_c a1_most Q)))
theorem qqT {a0_c : (List UInt8) × Bool} {a1_most : Int} (w_0 : (Ty.kd (.st (.pr (.sl .byte) .bool))).wf a0_c) (w_1 : (Ty.kd (.int .i64)).wf a1_most) (hp : 0 ≤ a1_most ∧ a0_c.1.length ≤ 140737488355328) : qis a0_c a1_most (fun o0 o1 => o0 = (qaE a1_most.toNat a0_c).1 ∧ o1 = (qaE a1_most.toNat a0_c).2) := by
 obtain ⟨hm, hB⟩ := hp
 obtain ⟨b, bad⟩ := a0_c
 have hB : b.length ≤ 140737488355328 := hB
 have k1 : ∀ Q, qb6 (b, bad) a1_most Q := fun Q h => by cases h
 have k2 : ∀ Q, qir (b, bad) a1_most Q := fun Q h => by cases h
 have em : IntKind.u64.wrap (bif true then max a1_most (0 : Int) else min a1_most (0 : Int)) = a1_most := by
  show IntKind.u64.wrap (max a1_most (0 : Int)) = a1_most
  have hM : a1_most ≤ 9223372036854775807 := w_1.2
  rw [Int.max_eq_left hm, qam ⟨by show (0 : Int) ≤ _; omega, by show a1_most ≤ 18446744073709551615; omega⟩]
 have e0 : IntKind.i64.wrap (0 : Int) = 0 := by decide
 unfold qis
 intro _ _
 simp only [em, e0]
 cases bad with
 | true =>
   have e : qac (b, true) = (0, 0) := qcZ rfl
   have eN := qof a1_most.toNat b
   have hbad : [] = (qaE a1_most.toNat (b, true)).1 ∧ (b, true) = (qaE a1_most.toNat (b, true)).2 := by rw [eN]; exact ⟨rfl, rfl⟩
   simp only [e]
   repeat' (first | exact hbad | exact k1 _ | exact k2 _ | (intro h; first | (cases h; done) | exact absurd h (by decide) | skip) | (with_reducible apply And.intro))
 | false =>
   have e : qac (b, false) = qcH b := qbi b
   generalize hp : qcH b = p at e
   obtain ⟨x, k⟩ := p
   have eN := qqO (m := a1_most.toNat) hp
   obtain ⟨hx, hk9, hkl⟩ := qmd hp
   have hbad : ¬ (0 < k ∧ x ≤ a1_most.toNat ∧ x + k ≤ b.length) → ([] = (qaE a1_most.toNat (b, false)).1 ∧ (b, true) = (qaE a1_most.toNat (b, false)).2) := fun h => by
    rw [eN, if_neg h]; exact ⟨rfl, rfl⟩
   have e2 : IntKind.u64.wrap (IntKind.i64.wrap ((b.length : Int) - (k : Int))) = (b.length : Int) - (k : Int) := by
    rw [qam (wf64 (by omega) (by omega)), qam ⟨by show (0 : Int) ≤ _; omega, by show (b.length : Int) - (k : Int) ≤ 18446744073709551615; omega⟩]
   have e3 : IntKind.i64.wrap ((k : Int) + 0) = (k : Int) := by rw [Int.add_zero, qam (wf64 (by omega) (by omega))]
   simp only [e, e2, e3]
   by_cases hg : 0 < k ∧ x ≤ a1_most.toNat ∧ x + k ≤ b.length
   ·obtain ⟨g1, g2, g3⟩ := hg
    have e4 : IntKind.i64.wrap ((k : Int) + IntKind.i64.wrap (x : Int)) = ((k + x : Nat) : Int) := by
     rw [qam (a := (x : Int)) (wf64 (by omega) (by omega)), qam (wf64 (by omega) (by omega))]; omega
    simp only [e4]
    have ed : decide ((b.length : Int) < ((k + x : Nat) : Int)) = false := decide_eq_false (by omega)
    have good : List.drop ((k : Nat) : Int).toNat (List.take ((k + x : Nat) : Int).toNat b) = (qaE a1_most.toNat (b, false)).1 ∧ (List.drop ((k + x : Nat) : Int).toNat b, false) = (qaE a1_most.toNat (b, false)).2 := by
     rw [eN, if_pos ⟨g1, g2, g3⟩]
     refine ⟨?_, rfl⟩
     show List.drop k (List.take (k + x) b) = (b.drop k).take x
     rw [List.drop_take]
     congr 1
     omega
    have bnd : (0 : Int) ≤ ((k + x : Nat) : Int) ∧ ((k + x : Nat) : Int) ≤ ((k + x : Nat) : Int) ∧ ((k + x : Nat) : Int) ≤ (b.length : Int) := ⟨by omega, by omega, by omega⟩
    have bnd2 : (0 : Int) ≤ ((k + x : Nat) : Int) ∧ ((k + x : Nat) : Int) ≤ (b.length : Int) := ⟨by omega, by omega⟩
    have hlt : (List.take ((k + x : Nat) : Int).toNat b).length = k + x := by rw [List.length_take, Int.toNat_natCast]; omega
    rw [ed]
    repeat' (first | exact k1 _ | exact k2 _ | exact bnd | exact bnd2 | (intro h; first | (cases h; done) | (exact absurd h (by omega)) | skip) | (with_reducible apply And.intro))
    all_goals first
     | exact good.1
     | exact good.2
     | omega
     | (rw [hlt]; omega)
     | (rw [List.length_drop, hlt]; omega)
     | (rename_i hz
        exfalso
        have := congrArg List.length (hz h)
        rw [hlt, List.length_nil] at this
        omega)
   ·repeat' (first | exact k1 _ | exact k2 _ | exact hbad hg | (intro h; first | (cases h; done) | (exact absurd h (by omega)) | skip) | (with_reducible apply And.intro))
theorem qqS : (∀ a, qff.pre a → PM.wfP qff.pm a (fvc qoj 200 97 qff a (eqO qff a))) = (∀ a : ((List UInt8) × Bool) × Int × Unit, (0 ≤ (a.2.1) ∧ (a.1).1.length ≤ 140737488355328) → (Ty.kd (.st (.pr (.sl .byte) .bool))).wf a.1 → (Ty.kd (.int .i64)).wf a.2.1 → qis a.1 a.2.1 (fun o0 o1 => o0 = (qaE (a.2.1).toNat (a.1)).1 ∧ o1 = (qaE (a.2.1).toNat (a.1)).2)) := by kernel_rfl
theorem qtN : qff.valid Try.prog 97 := qau (X := qoj) (qaJ qal (fun b hb => by cases hb; exact qar) qas ⟨qop, qds, qf4, trivial⟩) 200 (qqS.mpr fun a hp w_0 w_1 => @qqT a.1 a.2.1 w_0 w_1 hp)
noncomputable def qhD : Ctr := ⟨[.bx (.st (.pr (.sl .byte) .bool)) true], [.v (.arr 32 .byte)], none, fun a => (fun (a0_c : (List UInt8) × Bool) => (((sumC a0_c).1, ()), ((sumC a0_c).2, ()))) a.1⟩
noncomputable def qsw : Fx := ⟨seat, some bkT, fns, [], [73, 113], [], [(1, [0, 1], [.o 0 3, .o 1 2, .o 2 1, .o 3 1, .o 4 1]), (5, [0], [.o 0 2, .o 1 2, .o 2 2, .o 3 2, .o 4 2, .o 5 2, .o 6 2, .o 7 2, .o 8 2, .o 9 2, .o 10 2, .o 11 2, .o 12 2, .o 13 2, .o 14 2, .o 15 2, .o 16 2, .o 17 1])]⟩
def qkA (a0_c : (List UInt8) × Bool) (Q : (List UInt8) → ((List UInt8) × Bool) → Prop) : Prop :=
 (a0_c.snd = true → (true = true → Q (List.take (Int.toNat (0 : Int)) (Ty.arr (32 : Nat) Ty.byte).kd.z ++ List.take (((32 : Nat) : Int).toNat - Int.toNat (0 : Int)) ([] : List UInt8) ++ List.drop (Int.toNat (0 : Int) + min ([] : List UInt8).length (((32 : Nat) : Int).toNat - Int.toNat (0 : Int))) (Ty.arr (32 : Nat) Ty.byte).kd.z) (a0_c.fst, true)) ∧ (true = false → ((0 : Int) ≤ (32 : Int) ∧ (32 : Int) ≤ (32 : Int) ∧ (32 : Int) ≤ (a0_c.fst.length : Int)) ∧ ((0 : Int) ≤ (32 : Int) ∧ (32 : Int) ≤ (a0_c.fst.length : Int)) ∧ Q (List.take (Int.toNat (0 : Int)) (Ty.arr (32 : Nat) Ty.byte).kd.z ++ List.take (((32 : Nat) : Int).toNat - Int.toNat (0 : Int)) (List.take (Int.toNat (32 : Int)) a0_c.fst) ++ List.drop (Int.toNat (0 : Int) + min (List.take (Int.toNat (32 : Int)) a0_c.fst).length (((32 : Nat) : Int).toNat - Int.toNat (0 : Int))) (Ty.arr (32 : Nat) Ty.byte).kd.z) (List.drop (Int.toNat (32 : Int)) a0_c.fst, true))) ∧ (a0_c.snd = false → (decide ((a0_c.fst.length : Int) < (32 : Int)) = true → Q (List.take (Int.toNat (0 : Int)) (Ty.arr (32 : Nat) Ty.byte).kd.z ++ List.take (((32 : Nat) : Int).toNat - Int.toNat (0 : Int)) ([] : List UInt8) ++ List.drop (Int.toNat (0 : Int) + min ([] : List UInt8).length (((32 : Nat) : Int).toNat - Int.toNat (0 : Int))) (Ty.arr (32 : Nat) Ty.byte).kd.z) (a0_c.fst, decide ((a0_c.fst.length : Int) < (32 : Int)))) ∧ (decide ((a0_c.fst.length : Int) < (32 : Int)) = false → ((0 : Int) ≤ (32 : Int) ∧ (32 : Int) ≤ (32 : Int) ∧ (32 : Int) ≤ (a0_c.fst.length : Int)) ∧ ((0 : Int) ≤ (32 : Int) ∧ (32 : Int) ≤ (a0_c.fst.length : Int)) ∧ Q (List.take (Int.toNat (0 : Int)) (Ty.arr (32 : Nat) Ty.byte).kd.z ++ List.take (((32 : Nat) : Int).toNat - Int.toNat (0 : Int)) (List.take (Int.toNat (32 : Int)) a0_c.fst) ++ List.drop (Int.toNat (0 : Int) + min (List.take (Int.toNat (32 : Int)) a0_c.fst).length (((32 : Nat) : Int).toNat - Int.toNat (0 : Int))) (Ty.arr (32 : Nat) Ty.byte).kd.z) (List.drop (Int.toNat (32 : Int)) a0_c.fst, decide ((a0_c.fst.length : Int) < (32 : Int)))))
theorem qtU {a0_c : (List UInt8) × Bool} (w_0 : (Ty.kd (.st (.pr (.sl .byte) .bool))).wf a0_c) : qkA a0_c (fun o0 o1 => o0 = (sumC a0_c).1 ∧ o1 = (sumC a0_c).2) := by
 obtain ⟨b, bad⟩ := a0_c
 unfold qkA
 have zz : (Ty.arr (32 : Nat) Ty.byte).kd.z = List.replicate 32 (0 : UInt8) := rfl
 have e0 : ∀ l : List UInt8, List.take (Int.toNat (0 : Int)) (Ty.arr (32 : Nat) Ty.byte).kd.z ++ List.take (((32 : Nat) : Int).toNat - Int.toNat (0 : Int)) l ++ List.drop (Int.toNat (0 : Int) + min l.length (((32 : Nat) : Int).toNat - Int.toNat (0 : Int))) (Ty.arr (32 : Nat) Ty.byte).kd.z = l.take 32 ++ (List.replicate 32 (0 : UInt8)).drop (min l.length 32) := fun l => by
  show [] ++ l.take 32 ++ (List.replicate 32 (0 : UInt8)).drop (0 + min l.length 32) = _
  rw [Nat.zero_add]; rfl
 simp only [e0]
 have bad0 : ∀ c, ¬ (c = false ∧ 32 ≤ b.length) → (List.take 32 ([] : List UInt8) ++ (List.replicate 32 (0 : UInt8)).drop (min ([] : List UInt8).length 32) = (sumC (b, c)).1 ∧ (b, true) = (sumC (b, c)).2) := fun c h => by
  have e : sumC (b, c) = (sm0L, (b, true)) := if_neg h
  rw [e]; exact ⟨rfl, rfl⟩
 refine ⟨fun h => ⟨fun _ => bad0 bad (fun hc => ?_), fun h => by cases h⟩, fun h => ⟨fun hd => ?_, fun hd => ?_⟩⟩
 ·have h : bad = true := h
  rw [h] at hc; exact absurd hc.1 (by decide)
 ·have h32 := of_decide_eq_true hd
  rw [hd]
  exact bad0 bad (fun hc => by omega)
 ·have h32 := of_decide_eq_false hd
  have hb : bad = false := h
  subst hb
  have e : sumC (b, false) = (b.take 32, (b.drop 32, false)) := if_pos ⟨rfl, by show 32 ≤ b.length; omega⟩
  rw [e, hd]
  have et : Int.toNat (32 : Int) = 32 := rfl
  have el : (b.take 32).length = 32 := by rw [List.length_take]; omega
  refine ⟨⟨by omega, by omega, by omega⟩, ⟨by omega, by omega⟩, ?_, ?_⟩
  ·rw [et, el, List.take_take]
   show b.take 32 ++ [] = _
   rw [List.append_nil]
  ·rw [et]
theorem qtT : (∀ a, qhD.pre a → PM.wfP qhD.pm a (fvc qsw 200 71 qhD a (eqO qhD a))) = (∀ a : ((List UInt8) × Bool) × Unit, True → (Ty.kd (.st (.pr (.sl .byte) .bool))).wf a.1 → qkA a.1 (fun o0 o1 => o0 = (sumC (a.1)).1 ∧ o1 = (sumC (a.1)).2)) := by kernel_rfl
theorem qv8 : qhD.valid Try.prog 71 := qau (X := qsw) (qaJ qal (fun b hb => by cases hb; exact qar) qas trivial) 200 (qtT.mpr fun a hp w_0 => @qtU a.1 w_0)
noncomputable def qfg : Ctr := ⟨[.bx (.st (.pr (.sl .byte) .bool)) false], [.v (.int .i64)], none, fun a => (fun (a0_c : (List UInt8) × Bool) => (((a0_c.1.length : Int), ()), (()))) a.1⟩
noncomputable def qok : Fx := ⟨seat, some bkT, fns, [], [74], [], []⟩
def qit (a0_c : (List UInt8) × Bool) (Q : Int → Prop) : Prop :=
 Q (a0_c.fst.length : Int)
theorem qqV {a0_c : (List UInt8) × Bool} (w_0 : (Ty.kd (.st (.pr (.sl .byte) .bool))).wf a0_c) : qit a0_c (fun o0 => o0 = (a0_c.1.length : Int)) := by
 unfold qit
 rfl
theorem qqU : (∀ a, qfg.pre a → PM.wfP qfg.pm a (fvc qok 200 27 qfg a (eqO qfg a))) = (∀ a : ((List UInt8) × Bool) × Unit, True → (Ty.kd (.st (.pr (.sl .byte) .bool))).wf a.1 → qit a.1 (fun o0 => o0 = ((a.1).1.length : Int))) := by kernel_rfl
theorem qtQ : qfg.valid Try.prog 27 := qau (X := qok) (qaJ qal (fun b hb => by cases hb; exact qar) qas trivial) 200 (qqU.mpr fun a hp w_0 => @qqV a.1 w_0)
noncomputable def qgE : Ctr := ⟨[.bx (.st (.pr (.sl .byte) .bool)) false], [.v (.int .i64)], none, fun a => (fun (a0_c : (List UInt8) × Bool) => (((if a0_c.2 = true then 2 else 0 : Int), ()), (()))) a.1⟩
noncomputable def qst : Fx := ⟨seat, some bkT, fns, [], [73], [], []⟩
def qky (a0_c : (List UInt8) × Bool) (Q : Int → Prop) : Prop :=
 (a0_c.snd = true → Q (2 : Int)) ∧ (a0_c.snd = false → Q (0 : Int))
theorem qtP {a0_c : (List UInt8) × Bool} (w_0 : (Ty.kd (.st (.pr (.sl .byte) .bool))).wf a0_c) : qky a0_c (fun o0 => o0 = (if a0_c.2 = true then 2 else 0 : Int)) := by
 unfold qky
 refine ⟨fun h => ?_, fun h => ?_⟩
 ·rw [if_pos h]
 ·rw [if_neg (by rw [h]; exact fun h => by cases h)]
theorem qtO : (∀ a, qgE.pre a → PM.wfP qgE.pm a (fvc qst 200 26 qgE a (eqO qgE a))) = (∀ a : ((List UInt8) × Bool) × Unit, True → (Ty.kd (.st (.pr (.sl .byte) .bool))).wf a.1 → qky a.1 (fun o0 => o0 = (if (a.1).2 = true then 2 else 0 : Int))) := by kernel_rfl
theorem qsu : qgE.valid Try.prog 26 := qau (X := qst) (qaJ qal (fun b hb => by cases hb; exact qar) qas trivial) 200 (qtO.mpr fun a hp w_0 => @qtP a.1 w_0)
noncomputable def qeY : Ctr := ⟨[.v (.sl .byte), .v (.sl (.arr 32 .byte))], [.ow 5 .byte], some (fun a => (fun (a0_b : List UInt8) (a1_l : List (List UInt8)) => (a0_b.length + a1_l.flatten.length ≤ 140737488355328 ∧ ∀ x ∈ a1_l, x.length = 32 : Prop)) a.1 a.2.1), fun a => (fun (a0_b : List UInt8) (a1_l : List (List UInt8)) => (((a0_b ++ a1_l.flatten), ()), (()))) a.1 a.2.1⟩
noncomputable def qnA : Fx := ⟨seat, some bkT, fns, [(69, qb0), (69, qb3)], [], [], []⟩
def qh6 (a0_b : List UInt8) (a1_l : List (List UInt8)) (Q : (List UInt8) → Prop) : Prop :=
 a0_b.length ≤ (140737488355328 : Nat) ∧ (Ty.byte.kd.sl.wf a0_b → ∃ (x0 : List UInt8 → Int → Prop), ∃ (x1 : List UInt8 → Int → Nat), x0 a0_b (0 : Int) ∧ ∀ (x2 : List UInt8) (x3 : Int), x0 x2 x3 → Ty.byte.kd.sl.wf x2 → (Kd.int IntKind.i64).wf x3 → (x3 < (a1_l.length : Int) → ((0 : Int) ≤ x3 ∧ x3 < (a1_l.length : Int)) ∧ (x2.length + (List.drop (Int.toNat (0 : Int)) (List.take ((32 : Nat) : Int).toNat (ix a1_l x3))).length) * (1 : Nat) ≤ (140737488355328 : Nat) ∧ x3 < (9223372036854775807 : Int) ∧ x0 (x2 ++ List.drop (Int.toNat (0 : Int)) (List.take ((32 : Nat) : Int).toNat (ix a1_l x3))) (x3 + (1 : Int)) ∧ x1 (x2 ++ List.drop (Int.toNat (0 : Int)) (List.take ((32 : Nat) : Int).toNat (ix a1_l x3))) (x3 + (1 : Int)) < x1 x2 x3) ∧ (¬x3 < (a1_l.length : Int) → Q x2))
theorem qqi {a0_b : List UInt8} {a1_l : List (List UInt8)} (w_0 : (Ty.kd (.sl .byte)).wf a0_b) (w_1 : (Ty.kd (.sl (.arr 32 .byte))).wf a1_l) (hp : a0_b.length + a1_l.flatten.length ≤ 140737488355328 ∧ ∀ x ∈ a1_l, x.length = 32) : qh6 a0_b a1_l (fun o0 => o0 = (a0_b ++ a1_l.flatten)) := by
 unfold qh6
 refine ⟨by omega, fun _ => ⟨fun out i => ∃ j : Nat, i = (j : Int) ∧ j ≤ a1_l.length ∧ out = a0_b ++ (a1_l.take j).flatten, fun _ i => a1_l.length - i.toNat, ⟨0, rfl, by omega, by simp⟩, ?_⟩⟩
 rintro out i ⟨j, rfl, hj, rfl⟩ _ _
 refine ⟨fun hlt => ?_, fun hge => ?_⟩
 ·have h1 := qgK (l := a1_l) (j + 1)
  rw [qci hlt, List.length_append] at h1
  have h32 := hp.2 _ (qd5 (l := a1_l) (by omega) hlt)
  have e : List.drop (Int.toNat 0) (List.take ((32 : Nat) : Int).toNat (ix a1_l (j : Int))) = ix a1_l (j : Int) := by show ((ix a1_l (j : Int)).take 32).drop 0 = _; rw [List.drop_zero, List.take_of_length_le (by omega)]
  rw [e]
  refine ⟨⟨by omega, hlt⟩, by simp only [List.length_append]; omega, by have := w_1.1; unfold LM at this; omega, ⟨j + 1, by omega, by omega, by rw [qci hlt]; simp⟩, ?_⟩
  show a1_l.length - ((j : Int) + 1).toNat < a1_l.length - (j : Int).toNat
  omega
 ·have : j = a1_l.length := by omega
  subst this
  rw [List.take_length]
theorem qqh : (∀ a, qeY.pre a → PM.wfP qeY.pm a (fvc qnA 200 64 qeY a (eqO qeY a))) = (∀ a : (List UInt8) × (List (List UInt8)) × Unit, ((a.1).length + (a.2.1).flatten.length ≤ 140737488355328 ∧ ∀ x ∈ (a.2.1), x.length = 32) → (Ty.kd (.sl .byte)).wf a.1 → (Ty.kd (.sl (.arr 32 .byte))).wf a.2.1 → qh6 a.1 a.2.1 (fun o0 => o0 = ((a.1) ++ (a.2.1).flatten))) := by kernel_rfl
theorem qtf : qeY.valid Try.prog 64 := qau (X := qnA) (qaJ qal (fun b hb => by cases hb; exact qar) qas ⟨qds, qf4, trivial⟩) 200 (qqh.mpr fun a hp w_0 w_1 => @qqi a.1 a.2.1 w_0 w_1 hp)
noncomputable def qdU : Ctr := ⟨[.v (.sl .byte), .v (.pr (.int .i64) (.sl (.pr (.int .i64) (.pr (.pr (.sl .byte) (.sl .byte)) (.sl (.arr 32 .byte))))))], [.ow 5 .byte], some (fun a => (fun (a0_b : List UInt8) (a1_s : Int × List (Int × ((List UInt8) × List UInt8) × List (List UInt8))) => (a0_b.length ≤ 1099511627776 ∧ a1_s.2.length ≤ 65536 ∧ (∀ x ∈ a1_s.2, x.2.1.1.length + x.2.1.2.length ≤ 16777216 ∧ x.2.2.length ≤ 65536) : Prop)) a.1 a.2.1), fun a => (fun (a0_b : List UInt8) (a1_s : Int × List (Int × ((List UInt8) × List UInt8) × List (List UInt8))) => (((a0_b ++ qaP a1_s), ()), (()))) a.1 a.2.1⟩
noncomputable def ql2 : Fx := ⟨seat, some bkT, fns, [(62, qji), (95, qgl), (64, qeY)], [], [], [(5, [], [.o 0 2, .o 1 2, .o 2 2, .o 3 2, .o 6 2, .o 7 2, .o 8 2, .o 9 2, .o 10 2, .o 11 2, .par [4, 5, 12] (.alt 4 0 (.alt 5 0 (.one 12 0 .fin) (.alt 12 0 (.one 5 0 .fin) .fin)) (.alt 12 0 (.one 4 0 (.one 5 0 .fin)) .fin)), .o 13 0, .o 14 2]), (6, [], [.o 0 2, .o 1 2, .o 2 2, .o 3 2, .o 4 2, .o 7 2, .o 8 2, .o 5 0, .o 6 0, .o 9 0, .o 10 2])]⟩
def qgP (a0_b : List UInt8) (a1_s : Int × List (Int × ((List UInt8) × List UInt8) × List (List UInt8))) (Q : (List UInt8) → Prop) : Prop :=
 a0_b.length + (9 : Nat) * (IntKind.u64.wrap a1_s.fst :: IntKind.u64.wrap (a1_s.snd.length : Int) :: ([] : List Int)).length ≤ (140737488355328 : Nat) ∧ (Ty.byte.kd.sl.wf (a0_b ++ qaf (IntKind.u64.wrap a1_s.fst :: IntKind.u64.wrap (a1_s.snd.length : Int) :: ([] : List Int))) → ∃ (x0 : List UInt8 → Int → Prop), ∃ (x1 : List UInt8 → Int → Nat), x0 (a0_b ++ qaf (IntKind.u64.wrap a1_s.fst :: IntKind.u64.wrap (a1_s.snd.length : Int) :: ([] : List Int))) (0 : Int) ∧ ∀ (x2 : List UInt8) (x3 : Int), x0 x2 x3 → Ty.byte.kd.sl.wf x2 → (Kd.int IntKind.i64).wf x3 → (x3 < (a1_s.snd.length : Int) → ((0 : Int) ≤ x3 ∧ x3 < (a1_s.snd.length : Int)) ∧ ((x2.length + (9 : Nat) * (IntKind.u64.wrap (ix a1_s.snd x3).fst :: ([] : List Int)).length ≤ (140737488355328 : Nat) ∧ (Ty.byte.kd.sl.wf (x2 ++ qaf (IntKind.u64.wrap (ix a1_s.snd x3).fst :: ([] : List Int))) → (x2 ++ qaf (IntKind.u64.wrap (ix a1_s.snd x3).fst :: ([] : List Int))).length + qaj ((ix a1_s.snd x3).snd.fst.fst :: (ix a1_s.snd x3).snd.fst.snd :: ([] : List (List UInt8))) ≤ (140737488355328 : Nat) ∧ (Ty.byte.kd.sl.wf (x2 ++ qaf (IntKind.u64.wrap (ix a1_s.snd x3).fst :: ([] : List Int)) ++ qak ((ix a1_s.snd x3).snd.fst.fst :: (ix a1_s.snd x3).snd.fst.snd :: ([] : List (List UInt8)))) → (x2 ++ qaf (IntKind.u64.wrap (ix a1_s.snd x3).fst :: ([] : List Int)) ++ qak ((ix a1_s.snd x3).snd.fst.fst :: (ix a1_s.snd x3).snd.fst.snd :: ([] : List (List UInt8)))).length + (9 : Nat) * (IntKind.u64.wrap ((ix a1_s.snd x3).snd.snd.length : Int) :: ([] : List Int)).length ≤ (140737488355328 : Nat) ∧ (Ty.byte.kd.sl.wf (x2 ++ qaf (IntKind.u64.wrap (ix a1_s.snd x3).fst :: ([] : List Int)) ++ qak ((ix a1_s.snd x3).snd.fst.fst :: (ix a1_s.snd x3).snd.fst.snd :: ([] : List (List UInt8))) ++ qaf (IntKind.u64.wrap ((ix a1_s.snd x3).snd.snd.length : Int) :: ([] : List Int))) → ((x2 ++ qaf (IntKind.u64.wrap (ix a1_s.snd x3).fst :: ([] : List Int)) ++ qak ((ix a1_s.snd x3).snd.fst.fst :: (ix a1_s.snd x3).snd.fst.snd :: ([] : List (List UInt8))) ++ qaf (IntKind.u64.wrap ((ix a1_s.snd x3).snd.snd.length : Int) :: ([] : List Int))).length + (ix a1_s.snd x3).snd.snd.flatten.length ≤ (140737488355328 : Nat) ∧ ∀ (x11 : List UInt8), x11 ∈ (ix a1_s.snd x3).snd.snd → x11.length = (32 : Nat)) ∧ (Ty.byte.kd.sl.wf (x2 ++ qaf (IntKind.u64.wrap (ix a1_s.snd x3).fst :: ([] : List Int)) ++ qak ((ix a1_s.snd x3).snd.fst.fst :: (ix a1_s.snd x3).snd.fst.snd :: ([] : List (List UInt8))) ++ qaf (IntKind.u64.wrap ((ix a1_s.snd x3).snd.snd.length : Int) :: ([] : List Int)) ++ (ix a1_s.snd x3).snd.snd.flatten) → x3 < (9223372036854775807 : Int) ∧ x0 (x2 ++ qaf (IntKind.u64.wrap (ix a1_s.snd x3).fst :: ([] : List Int)) ++ qak ((ix a1_s.snd x3).snd.fst.fst :: (ix a1_s.snd x3).snd.fst.snd :: ([] : List (List UInt8))) ++ qaf (IntKind.u64.wrap ((ix a1_s.snd x3).snd.snd.length : Int) :: ([] : List Int)) ++ (ix a1_s.snd x3).snd.snd.flatten) (x3 + (1 : Int)) ∧ x1 (x2 ++ qaf (IntKind.u64.wrap (ix a1_s.snd x3).fst :: ([] : List Int)) ++ qak ((ix a1_s.snd x3).snd.fst.fst :: (ix a1_s.snd x3).snd.fst.snd :: ([] : List (List UInt8))) ++ qaf (IntKind.u64.wrap ((ix a1_s.snd x3).snd.snd.length : Int) :: ([] : List Int)) ++ (ix a1_s.snd x3).snd.snd.flatten) (x3 + (1 : Int)) < x1 x2 x3))))) ∧ (x2.length + (9 : Nat) * (IntKind.u64.wrap (ix a1_s.snd x3).fst :: ([] : List Int)).length ≤ (140737488355328 : Nat) ∧ (Ty.byte.kd.sl.wf (x2 ++ qaf (IntKind.u64.wrap (ix a1_s.snd x3).fst :: ([] : List Int))) → (x2 ++ qaf (IntKind.u64.wrap (ix a1_s.snd x3).fst :: ([] : List Int))).length + qaj ((ix a1_s.snd x3).snd.fst.fst :: (ix a1_s.snd x3).snd.fst.snd :: ([] : List (List UInt8))) ≤ (140737488355328 : Nat) ∧ (Ty.byte.kd.sl.wf (x2 ++ qaf (IntKind.u64.wrap (ix a1_s.snd x3).fst :: ([] : List Int)) ++ qak ((ix a1_s.snd x3).snd.fst.fst :: (ix a1_s.snd x3).snd.fst.snd :: ([] : List (List UInt8)))) → (x2 ++ qaf (IntKind.u64.wrap (ix a1_s.snd x3).fst :: ([] : List Int)) ++ qak ((ix a1_s.snd x3).snd.fst.fst :: (ix a1_s.snd x3).snd.fst.snd :: ([] : List (List UInt8)))).length + (9 : Nat) * (IntKind.u64.wrap ((ix a1_s.snd x3).snd.snd.length : Int) :: ([] : List Int)).length ≤ (140737488355328 : Nat) ∧ (Ty.byte.kd.sl.wf (x2 ++ qaf (IntKind.u64.wrap (ix a1_s.snd x3).fst :: ([] : List Int)) ++ qak ((ix a1_s.snd x3).snd.fst.fst :: (ix a1_s.snd x3).snd.fst.snd :: ([] : List (List UInt8))) ++ qaf (IntKind.u64.wrap ((ix a1_s.snd x3).snd.snd.length : Int) :: ([] : List Int))) → ((x2 ++ qaf (IntKind.u64.wrap (ix a1_s.snd x3).fst :: ([] : List Int)) ++ qak ((ix a1_s.snd x3).snd.fst.fst :: (ix a1_s.snd x3).snd.fst.snd :: ([] : List (List UInt8))) ++ qaf (IntKind.u64.wrap ((ix a1_s.snd x3).snd.snd.length : Int) :: ([] : List Int))).length + (ix a1_s.snd x3).snd.snd.flatten.length ≤ (140737488355328 : Nat) ∧ ∀ (x11 : List UInt8), x11 ∈ (ix a1_s.snd x3).snd.snd → x11.length = (32 : Nat)) ∧ (Ty.byte.kd.sl.wf (x2 ++ qaf (IntKind.u64.wrap (ix a1_s.snd x3).fst :: ([] : List Int)) ++ qak ((ix a1_s.snd x3).snd.fst.fst :: (ix a1_s.snd x3).snd.fst.snd :: ([] : List (List UInt8))) ++ qaf (IntKind.u64.wrap ((ix a1_s.snd x3).snd.snd.length : Int) :: ([] : List Int)) ++ (ix a1_s.snd x3).snd.snd.flatten) → x3 < (9223372036854775807 : Int) ∧ x0 (x2 ++ qaf (IntKind.u64.wrap (ix a1_s.snd x3).fst :: ([] : List Int)) ++ qak ((ix a1_s.snd x3).snd.fst.fst :: (ix a1_s.snd x3).snd.fst.snd :: ([] : List (List UInt8))) ++ qaf (IntKind.u64.wrap ((ix a1_s.snd x3).snd.snd.length : Int) :: ([] : List Int)) ++ (ix a1_s.snd x3).snd.snd.flatten) (x3 + (1 : Int)) ∧ x1 (x2 ++ qaf (IntKind.u64.wrap (ix a1_s.snd x3).fst :: ([] : List Int)) ++ qak ((ix a1_s.snd x3).snd.fst.fst :: (ix a1_s.snd x3).snd.fst.snd :: ([] : List (List UInt8))) ++ qaf (IntKind.u64.wrap ((ix a1_s.snd x3).snd.snd.length : Int) :: ([] : List Int)) ++ (ix a1_s.snd x3).snd.snd.flatten) (x3 + (1 : Int)) < x1 x2 x3))))) ∧ True) ∧ (x2.length + (9 : Nat) * (IntKind.u64.wrap (ix a1_s.snd x3).fst :: ([] : List Int)).length ≤ (140737488355328 : Nat) ∧ (Ty.byte.kd.sl.wf (x2 ++ qaf (IntKind.u64.wrap (ix a1_s.snd x3).fst :: ([] : List Int))) → (x2 ++ qaf (IntKind.u64.wrap (ix a1_s.snd x3).fst :: ([] : List Int))).length + qaj ((ix a1_s.snd x3).snd.fst.fst :: (ix a1_s.snd x3).snd.fst.snd :: ([] : List (List UInt8))) ≤ (140737488355328 : Nat) ∧ (Ty.byte.kd.sl.wf (x2 ++ qaf (IntKind.u64.wrap (ix a1_s.snd x3).fst :: ([] : List Int)) ++ qak ((ix a1_s.snd x3).snd.fst.fst :: (ix a1_s.snd x3).snd.fst.snd :: ([] : List (List UInt8)))) → (x2 ++ qaf (IntKind.u64.wrap (ix a1_s.snd x3).fst :: ([] : List Int)) ++ qak ((ix a1_s.snd x3).snd.fst.fst :: (ix a1_s.snd x3).snd.fst.snd :: ([] : List (List UInt8)))).length + (9 : Nat) * (IntKind.u64.wrap ((ix a1_s.snd x3).snd.snd.length : Int) :: ([] : List Int)).length ≤ (140737488355328 : Nat) ∧ (Ty.byte.kd.sl.wf (x2 ++ qaf (IntKind.u64.wrap (ix a1_s.snd x3).fst :: ([] : List Int)) ++ qak ((ix a1_s.snd x3).snd.fst.fst :: (ix a1_s.snd x3).snd.fst.snd :: ([] : List (List UInt8))) ++ qaf (IntKind.u64.wrap ((ix a1_s.snd x3).snd.snd.length : Int) :: ([] : List Int))) → ((x2 ++ qaf (IntKind.u64.wrap (ix a1_s.snd x3).fst :: ([] : List Int)) ++ qak ((ix a1_s.snd x3).snd.fst.fst :: (ix a1_s.snd x3).snd.fst.snd :: ([] : List (List UInt8))) ++ qaf (IntKind.u64.wrap ((ix a1_s.snd x3).snd.snd.length : Int) :: ([] : List Int))).length + (ix a1_s.snd x3).snd.snd.flatten.length ≤ (140737488355328 : Nat) ∧ ∀ (x11 : List UInt8), x11 ∈ (ix a1_s.snd x3).snd.snd → x11.length = (32 : Nat)) ∧ (Ty.byte.kd.sl.wf (x2 ++ qaf (IntKind.u64.wrap (ix a1_s.snd x3).fst :: ([] : List Int)) ++ qak ((ix a1_s.snd x3).snd.fst.fst :: (ix a1_s.snd x3).snd.fst.snd :: ([] : List (List UInt8))) ++ qaf (IntKind.u64.wrap ((ix a1_s.snd x3).snd.snd.length : Int) :: ([] : List Int)) ++ (ix a1_s.snd x3).snd.snd.flatten) → x3 < (9223372036854775807 : Int) ∧ x0 (x2 ++ qaf (IntKind.u64.wrap (ix a1_s.snd x3).fst :: ([] : List Int)) ++ qak ((ix a1_s.snd x3).snd.fst.fst :: (ix a1_s.snd x3).snd.fst.snd :: ([] : List (List UInt8))) ++ qaf (IntKind.u64.wrap ((ix a1_s.snd x3).snd.snd.length : Int) :: ([] : List Int)) ++ (ix a1_s.snd x3).snd.snd.flatten) (x3 + (1 : Int)) ∧ x1 (x2 ++ qaf (IntKind.u64.wrap (ix a1_s.snd x3).fst :: ([] : List Int)) ++ qak ((ix a1_s.snd x3).snd.fst.fst :: (ix a1_s.snd x3).snd.fst.snd :: ([] : List (List UInt8))) ++ qaf (IntKind.u64.wrap ((ix a1_s.snd x3).snd.snd.length : Int) :: ([] : List Int)) ++ (ix a1_s.snd x3).snd.snd.flatten) (x3 + (1 : Int)) < x1 x2 x3))))) ∧ True) ∧ (¬x3 < (a1_s.snd.length : Int) → Q x2))
theorem qoU {a0_b : List UInt8} {a1_s : Int × List (Int × ((List UInt8) × List UInt8) × List (List UInt8))} (w_0 : (Ty.kd (.sl .byte)).wf a0_b) (w_1 : (Ty.kd (.pr (.int .i64) (.sl (.pr (.int .i64) (.pr (.pr (.sl .byte) (.sl .byte)) (.sl (.arr 32 .byte))))))).wf a1_s) (hp : a0_b.length ≤ 1099511627776 ∧ a1_s.2.length ≤ 65536 ∧ (∀ x ∈ a1_s.2, x.2.1.1.length + x.2.1.2.length ≤ 16777216 ∧ x.2.2.length ≤ 65536)) : qgP a0_b a1_s (fun o0 => o0 = (a0_b ++ qaP a1_s)) := by
 obtain ⟨hb, hn, hs⟩ := hp
 have hw := w_1.2.2
 unfold qgP
 have sp : ∀ x ∈ a1_s.2, (spB x).length ≤ 20000000 := fun x hx => by
  obtain ⟨h1, h2⟩ := hs x hx
  have h32 : ∀ z ∈ x.2.2, z.length = 32 := fun z hz => ((hw x hx).2.2.2 z hz).1
  have l1 := qaS x.1
  have l2 := qbY h1
  have l3 := qaS (x.2.2.length : Int)
  have l4 := qca h32
  unfold spB
  simp only [List.length_append]
  omega
 have fl : ∀ l : List Sp, (∀ x ∈ l, (spB x).length ≤ 20000000) → (l.flatMap spB).length ≤ 20000000 * l.length := fun l => by
  induction l with
  | nil => intro _; simp
  | cons x l ih =>
    intro h
    rw [List.flatMap_cons, List.length_append, List.length_cons]
    have := h x (by simp)
    have := ih fun z hz => h z (by simp [hz])
    omega
 have hd : (qaf [u64I a1_s.1, u64I a1_s.2.length]).length ≤ 18 := by
  have l1 := qes a1_s.1
  have l2 := qes (a1_s.2.length : Int)
  have n1 := qaC (n := (u64I a1_s.1).toNat) (by omega)
  have n2 := qaC (n := (u64I (a1_s.2.length : Int)).toNat) (by omega)
  rw [num2, List.length_append]
  omega
 refine ⟨by simp; omega, fun _ => ⟨fun o i => ∃ j : Nat, i = (j : Int) ∧ j ≤ a1_s.2.length ∧ o = a0_b ++ (qaf [u64I a1_s.1, u64I a1_s.2.length] ++ (a1_s.2.take j).flatMap spB), fun _ i => ((a1_s.2.length : Int) - i).toNat, ⟨0, rfl, Nat.zero_le _, by simp [u64I]⟩, ?_⟩⟩
 rintro _ _ ⟨j, rfl, hj, rfl⟩ _ _
 have tl : ((a1_s.2.take j).flatMap spB).length ≤ 20000000 * 65536 := by
  have := fl (a1_s.2.take j) fun x hx => sp x (List.mem_of_mem_take hx)
  have h3 : (a1_s.2.take j).length ≤ 65536 := by rw [List.length_take]; omega
  omega
 refine ⟨fun hlt => ?_, fun hge => ?_⟩
 ·have hj' : j < a1_s.2.length := by omega
  have eix : ix a1_s.2 (j : Int) = a1_s.2[j] := ixN hj'
  have hm := List.getElem_mem hj'
  obtain ⟨h1, h2⟩ := hs _ hm
  have h32 : ∀ z ∈ a1_s.2[j].2.2, z.length = 32 := fun z hz => ((hw _ hm).2.2.2 z hz).1
  have l1 := qaS a1_s.2[j].1
  have l2 := qbY h1
  have l3 := qaS (a1_s.2[j].2.2.length : Int)
  have l4 := qca h32
  have eo : (a1_s.2.take (j + 1)).flatMap spB = (a1_s.2.take j).flatMap spB ++ spB a1_s.2[j] := by
   rw [List.take_add_one, List.getElem?_eq_getElem hj', List.flatMap_append]
   simp
  have hr : qaj [a1_s.2[j].2.1.1, a1_s.2[j].2.1.2] = a1_s.2[j].2.1.1.length + a1_s.2[j].2.1.2.length + 18 := by
   show (a1_s.2[j].2.1.1.length + 9) + ((a1_s.2[j].2.1.2.length + 9) + 0) = _
   omega
  simp only [eix]
  have u : ∀ a : Int, IntKind.u64.wrap a = u64I a := fun _ => rfl
  simp only [u, hr]
  have b : (0 : Int) ≤ (j : Int) ∧ (j : Int) < (a1_s.2.length : Int) := ⟨by omega, hlt⟩
  have last : (j : Int) < 9223372036854775807 ∧ (∃ i : Nat, (j : Int) + 1 = (i : Int) ∧ i ≤ a1_s.2.length ∧ a0_b ++ (qaf [u64I a1_s.1, u64I a1_s.2.length] ++ (a1_s.2.take j).flatMap spB) ++ qaf [u64I a1_s.2[j].1] ++ qak [a1_s.2[j].2.1.1, a1_s.2[j].2.1.2] ++ qaf [u64I (a1_s.2[j].2.2.length : Int)] ++ a1_s.2[j].2.2.flatten = a0_b ++ (qaf [u64I a1_s.1, u64I a1_s.2.length] ++ (a1_s.2.take i).flatMap spB)) ∧ ((a1_s.2.length : Int) - ((j : Int) + 1)).toNat < ((a1_s.2.length : Int) - (j : Int)).toNat := by
   refine ⟨by omega, ⟨j + 1, rfl, hj', ?_⟩, by omega⟩
   rw [eo]
   unfold spB
   simp only [List.append_assoc]
  repeat' (first | (with_reducible exact b) | (with_reducible exact trivial) | (with_reducible exact last) | (with_reducible exact h32) | (intro _) | (with_reducible apply And.intro) | (simp only [List.length_append, List.length_cons, List.length_nil]; omega))
 ·obtain rfl : j = a1_s.2.length := by omega
  show a0_b ++ (qaf [u64I a1_s.1, u64I a1_s.2.length] ++ (a1_s.2.take a1_s.2.length).flatMap spB) = a0_b ++ qaP a1_s
  rw [List.take_length]
  rfl
theorem qoT : (∀ a, qdU.pre a → PM.wfP qdU.pm a (fvc ql2 200 45 qdU a (eqO qdU a))) = (∀ a : (List UInt8) × (Int × List (Int × ((List UInt8) × List UInt8) × List (List UInt8))) × Unit, ((a.1).length ≤ 1099511627776 ∧ (a.2.1).2.length ≤ 65536 ∧ (∀ x ∈ (a.2.1).2, x.2.1.1.length + x.2.1.2.length ≤ 16777216 ∧ x.2.2.length ≤ 65536)) → (Ty.kd (.sl .byte)).wf a.1 → (Ty.kd (.pr (.int .i64) (.sl (.pr (.int .i64) (.pr (.pr (.sl .byte) (.sl .byte)) (.sl (.arr 32 .byte))))))).wf a.2.1 → qgP a.1 a.2.1 (fun o0 => o0 = ((a.1) ++ qaP (a.2.1)))) := by kernel_rfl
theorem qrl : qdU.valid Try.prog 45 := qau (X := ql2) (qaJ qal (fun b hb => by cases hb; exact qar) qas ⟨qte, qsb, qtf, trivial⟩) 200 (qoT.mpr fun a hp w_0 w_1 => @qoU a.1 a.2.1 w_0 w_1 hp)
end Go.Proofs.Ytmjjkpiglbpkhaa

set_option linter.unusedVariables false
set_option maxRecDepth 100000
set_option maxHeartbeats 20000000
namespace Go.Proofs.Ytmjjkpiglbpkhaa
open Go Go.RowKit Go.Inc
noncomputable def qfu : Ctr := ⟨[.bx (.st (.pr (.sl .byte) .bool)) true], [.v (.pr (.int .i64) (.sl (.pr (.int .i64) (.pr (.pr (.sl .byte) (.sl .byte)) (.sl (.arr 32 .byte))))))], some (fun a => (fun (a0_c : (List UInt8) × Bool) => (a0_c.1.length ≤ 140737488355328 : Prop)) a.1), fun a => (fun (a0_c : (List UInt8) × Bool) => (((qbK a0_c).1, ()), ((qbK a0_c).2, ()))) a.1⟩
noncomputable def qoX : Fx := ⟨{ seat with rws := [3000003, 4000008, 3000004, 4000016] }, some bkT, fns, [(70, qhC), (97, qff), (71, qhD), (26, qgE)], [], [(3, [0, 3], []), (7, [0, 7], [])], [(8, [0, 7, 8, 9, 10, 11], [.o 0 3, .o 2 3, .par [1, 3, 4] (.alt 1 1 (.one 3 1 (.one 4 1 .fin)) (.alt 3 1 (.alt 1 1 (.one 4 1 .fin) (.alt 4 1 (.one 1 1 .fin) .fin)) .fin)), .o 5 1, .o 6 3, .o 7 1])]⟩
def qiI (a0_c : (List UInt8) × Bool) (Q : (Int × List (Int × ((List UInt8) × List UInt8) × List (List UInt8))) → ((List UInt8) × Bool) → Prop) : Prop :=
 (Ty.int IntKind.u64).kd.wf ((numC (Int.toNat (2147483647 : Int)) a0_c).fst : Int) → (Ty.int IntKind.u64).kd.wf ((numC (Int.toNat (2 : Int)) (numC (Int.toNat (2147483647 : Int)) a0_c).snd).fst : Int) → ∃ (x0 : Int → List UInt8 × Bool → List (Int × (List UInt8 × List UInt8) × List (List UInt8)) → Int × Unit → Prop), ∃ (x1 : Int → List UInt8 × Bool → List (Int × (List UInt8 × List UInt8) × List (List UInt8)) → Int × Unit → Nat), x0 (0 : Int) (numC (Int.toNat (2 : Int)) (numC (Int.toNat (2147483647 : Int)) a0_c).snd).snd ([] : List (Int × (List UInt8 × List UInt8) × List (List UInt8))) (IntKind.i64.wrap ((numC (Int.toNat (2147483647 : Int)) a0_c).fst : Int), ()) ∧ ∀ (x2 : Int) (x3 : List UInt8 × Bool) (x4 : List (Int × (List UInt8 × List UInt8) × List (List UInt8))) (x5 : Int × Unit), x0 x2 x3 x4 x5 → (Kd.int IntKind.u64).wf x2 → (Ty.byte.sl.pr Ty.bool).st.kd.wf x3 → ((Ty.int IntKind.i64).pr ((Ty.byte.sl.pr Ty.byte.sl).pr (Ty.arr (32 : Nat) Ty.byte).sl)).kd.sl.wf x4 → (x2 < ((numC (Int.toNat (2 : Int)) (numC (Int.toNat (2147483647 : Int)) a0_c).snd).fst : Int) → (Ty.int IntKind.u64).kd.wf ((numC (Int.toNat (2147483647 : Int)) x3).fst : Int) → ((0 : Int) ≤ (256 : Int) ∧ (numC (Int.toNat (2147483647 : Int)) x3).snd.fst.length ≤ (140737488355328 : Nat)) ∧ (Ty.byte.kd.sl.wf (qaE (Int.toNat (256 : Int)) (numC (Int.toNat (2147483647 : Int)) x3).snd).fst → ((0 : Int) ≤ (1048576 : Int) ∧ (qaE (Int.toNat (256 : Int)) (numC (Int.toNat (2147483647 : Int)) x3).snd).snd.fst.length ≤ (140737488355328 : Nat)) ∧ (Ty.byte.kd.sl.wf (qaE (Int.toNat (1048576 : Int)) (qaE (Int.toNat (256 : Int)) (numC (Int.toNat (2147483647 : Int)) x3).snd).snd).fst → (Ty.int IntKind.u64).kd.wf ((numC (Int.toNat (32 : Int)) (qaE (Int.toNat (1048576 : Int)) (qaE (Int.toNat (256 : Int)) (numC (Int.toNat (2147483647 : Int)) x3).snd).snd).snd).fst : Int) → ∃ (x15 : Int → List UInt8 × Bool → List (List UInt8) → Int × (List UInt8 × List UInt8) × Unit → Prop), ∃ (x16 : Int → List UInt8 × Bool → List (List UInt8) → Int × (List UInt8 × List UInt8) × Unit → Nat), x15 (0 : Int) (numC (Int.toNat (32 : Int)) (qaE (Int.toNat (1048576 : Int)) (qaE (Int.toNat (256 : Int)) (numC (Int.toNat (2147483647 : Int)) x3).snd).snd).snd).snd ([] : List (List UInt8)) (IntKind.i64.wrap ((numC (Int.toNat (2147483647 : Int)) x3).fst : Int), ((qaE (Int.toNat (256 : Int)) (numC (Int.toNat (2147483647 : Int)) x3).snd).fst, (qaE (Int.toNat (1048576 : Int)) (qaE (Int.toNat (256 : Int)) (numC (Int.toNat (2147483647 : Int)) x3).snd).snd).fst), ()) ∧ ∀ (x17 : Int) (x18 : List UInt8 × Bool) (x19 : List (List UInt8)) (x20 : Int × (List UInt8 × List UInt8) × Unit), x15 x17 x18 x19 x20 → (Kd.int IntKind.u64).wf x17 → (Ty.byte.sl.pr Ty.bool).st.kd.wf x18 → (Ty.arr (32 : Nat) Ty.byte).kd.sl.wf x19 → (x17 < ((numC (Int.toNat (32 : Int)) (qaE (Int.toNat (1048576 : Int)) (qaE (Int.toNat (256 : Int)) (numC (Int.toNat (2147483647 : Int)) x3).snd).snd).snd).fst : Int) → ((Ty.arr (32 : Nat) Ty.byte).kd.wf (sumC x18).fst → (x19.length + ((sumC x18).fst :: ([] : List (List UInt8))).length) * (32 : Nat) ≤ (140737488355328 : Nat) ∧ x15 (IntKind.u64.wrap (x17 + (1 : Int))) (sumC x18).snd (x19 ++ (sumC x18).fst :: ([] : List (List UInt8))) (x20.fst, x20.snd.fst, x20.snd.snd) ∧ x16 (IntKind.u64.wrap (x17 + (1 : Int))) (sumC x18).snd (x19 ++ (sumC x18).fst :: ([] : List (List UInt8))) (x20.fst, x20.snd.fst, x20.snd.snd) < x16 x17 x18 x19 x20) ∧ ((Ty.arr (32 : Nat) Ty.byte).kd.wf (sumC x18).fst → ((x19.length + ((sumC x18).fst :: ([] : List (List UInt8))).length) * (32 : Nat) ≤ (140737488355328 : Nat) ∧ x15 (IntKind.u64.wrap (x17 + (1 : Int))) (sumC x18).snd (x19 ++ (sumC x18).fst :: ([] : List (List UInt8))) (x20.fst, x20.snd.fst, x20.snd.snd) ∧ x16 (IntKind.u64.wrap (x17 + (1 : Int))) (sumC x18).snd (x19 ++ (sumC x18).fst :: ([] : List (List UInt8))) (x20.fst, x20.snd.fst, x20.snd.snd) < x16 x17 x18 x19 x20) ∧ ((x19.length + ((sumC x18).fst :: ([] : List (List UInt8))).length) * (32 : Nat) ≤ (140737488355328 : Nat) ∧ x15 (IntKind.u64.wrap (x17 + (1 : Int))) (sumC x18).snd (x19 ++ (sumC x18).fst :: ([] : List (List UInt8))) (x20.fst, x20.snd.fst, x20.snd.snd) ∧ x16 (IntKind.u64.wrap (x17 + (1 : Int))) (sumC x18).snd (x19 ++ (sumC x18).fst :: ([] : List (List UInt8))) (x20.fst, x20.snd.fst, x20.snd.snd) < x16 x17 x18 x19 x20) ∧ True) ∧ True) ∧ (¬x17 < ((numC (Int.toNat (32 : Int)) (qaE (Int.toNat (1048576 : Int)) (qaE (Int.toNat (256 : Int)) (numC (Int.toNat (2147483647 : Int)) x3).snd).snd).snd).fst : Int) → (x4.length + ((x20.fst, (x20.snd.fst.fst, x20.snd.fst.snd), x19) :: ([] : List (Int × (List UInt8 × List UInt8) × List (List UInt8)))).length) * (80 : Nat) ≤ (140737488355328 : Nat) ∧ x0 (IntKind.u64.wrap (x2 + (1 : Int))) x18 (x4 ++ (x20.fst, (x20.snd.fst.fst, x20.snd.fst.snd), x19) :: ([] : List (Int × (List UInt8 × List UInt8) × List (List UInt8)))) (x5.fst, x5.snd) ∧ x1 (IntKind.u64.wrap (x2 + (1 : Int))) x18 (x4 ++ (x20.fst, (x20.snd.fst.fst, x20.snd.fst.snd), x19) :: ([] : List (Int × (List UInt8 × List UInt8) × List (List UInt8)))) (x5.fst, x5.snd) < x1 x2 x3 x4 x5)))) ∧ (¬x2 < ((numC (Int.toNat (2 : Int)) (numC (Int.toNat (2147483647 : Int)) a0_c).snd).fst : Int) → (Ty.int IntKind.i64).kd.wf (if x3.snd = true then (2 : Int) else (0 : Int)) → ((if x3.snd = true then (2 : Int) else (0 : Int)) ≠ (0 : Int) → Q ((Ty.int IntKind.i64).pr ((Ty.int IntKind.i64).pr ((Ty.byte.sl.pr Ty.byte.sl).pr (Ty.arr (32 : Nat) Ty.byte).sl)).sl).kd.z x3) ∧ (¬(if x3.snd = true then (2 : Int) else (0 : Int)) ≠ (0 : Int) → Q (x5.fst, x4) x3))
theorem qro {a0_c : (List UInt8) × Bool} (w_0 : (Ty.kd (.st (.pr (.sl .byte) .bool))).wf a0_c) (hp : a0_c.1.length ≤ 140737488355328) : qiI a0_c (fun o0 o1 => o0 = (qbK a0_c).1 ∧ o1 = (qbK a0_c).2) := by
 have hB : a0_c.1.length ≤ 140737488355328 := hp
 have z1 : Int.toNat (2147483647 : Int) = 2147483647 := rfl
 have z2 : Int.toNat (2 : Int) = 2 := rfl
 have z3 : Int.toNat (256 : Int) = 256 := rfl
 have z4 : Int.toNat (1048576 : Int) = 1048576 := rfl
 have z5 : Int.toNat (32 : Int) = 32 := rfl
 unfold qiI
 simp only [z1, z2, z3, z4, z5]
 have hC := qiR 2147483647 a0_c
 have hN := qiR 2 (numC 2147483647 a0_c).2
 have eS := qml a0_c
 generalize hCd : numC 2147483647 a0_c = C at hC hN eS ⊢
 generalize hNd : numC 2 C.2 = N at hN eS ⊢
 intro _ _
 refine ⟨fun i s l b => ∃ j : Nat, i = (j : Int) ∧ atC qdD N.1 N.2 j l s ∧ b.1 = (C.1 : Int) ∧ s.1.length ≤ 140737488355328, fun i _ _ _ => ((N.1 : Int) - i).toNat, ⟨0, rfl, atC.zero _ _ _, ?_, by omega⟩, ?_⟩
 ·show IntKind.i64.wrap (C.1 : Int) = (C.1 : Int)
  exact qam (wf64 (by omega) (by omega))
 rintro _ s l b ⟨j, rfl, hA, hb, hs⟩ _ _ _
 refine ⟨fun hlt _ => ?_, fun hge _ => ?_⟩
 ·have hj : j < N.1 := by omega
  have hA' := hA.next hj
  have eP := qmp s
  have g1 := qiR 2147483647 s
  have g2 := qlH 256 (numC 2147483647 s).2
  have g3 := qlH 1048576 (qaE 256 (numC 2147483647 s).2).2
  have g4 := qiR 32 (qaE 1048576 (qaE 256 (numC 2147483647 s).2).2).2
  generalize numC 2147483647 s = S1 at g1 g2 g3 g4 eP ⊢
  generalize qaE 256 S1.2 = S2 at g2 g3 g4 eP ⊢
  generalize qaE 1048576 S2.2 = S3 at g3 g4 eP ⊢
  generalize numC 32 S3.2 = S4 at g4 eP ⊢
  refine ⟨⟨by omega, by omega⟩, fun _ => ⟨⟨by omega, by omega⟩, fun _ _ => ?_⟩⟩
  have e1 : IntKind.i64.wrap (S1.1 : Int) = (S1.1 : Int) := qam (wf64 (by omega) (by omega))
  rw [e1]
  refine ⟨fun i s l b => ∃ j : Nat, i = (j : Int) ∧ atC sumC S4.1 S4.2 j l s ∧ b = ((S1.1 : Int), ((S2.1, S3.1), ())) ∧ s.1.length ≤ 140737488355328, fun i _ _ _ => ((S4.1 : Int) - i).toNat, ⟨0, rfl, atC.zero _ _ _, rfl, by omega⟩, ?_⟩
  rintro _ s2 l2 b2 ⟨j2, rfl, hA2, rfl, hs2⟩ _ _ _
  refine ⟨fun hlt2 => ?_, fun hge2 => ?_⟩
  ·have hj2 : j2 < S4.1 := by omega
   have hA2' := hA2.next hj2
   have g5 := quH s2
   have ew : IntKind.u64.wrap ((j2 : Int) + 1) = ((j2 + 1 : Nat) : Int) := by rw [qam ⟨by show (0 : Int) ≤ _; omega, by show (j2 : Int) + 1 ≤ 18446744073709551615; omega⟩]; omega
   have go : (l2.length + [(sumC s2).1].length) * 32 ≤ 140737488355328 ∧ (∃ i : Nat, IntKind.u64.wrap ((j2 : Int) + 1) = (i : Int) ∧ atC sumC S4.1 S4.2 i (l2 ++ [(sumC s2).1]) (sumC s2).2 ∧ ((S1.1 : Int), ((S2.1, S3.1), ())) = ((S1.1 : Int), ((S2.1, S3.1), ())) ∧ (sumC s2).2.1.length ≤ 140737488355328) ∧ ((S4.1 : Int) - IntKind.u64.wrap ((j2 : Int) + 1)).toNat < ((S4.1 : Int) - (j2 : Int)).toNat := by
    refine ⟨?_, ⟨j2 + 1, ew, hA2', rfl, by omega⟩, by rw [ew]; omega⟩
    rw [hA2.1]
    show (j2 + 1) * 32 ≤ _
    omega
   repeat' (first | exact go | exact fun _ => go | exact trivial | exact go.1 | exact go.2.1 | exact go.2.2 | (with_reducible apply And.intro) | (intro _))
  ·obtain rfl : j2 = S4.1 := by have := hA2.2.1; omega
   have e2 := hA2.end
   rw [e2] at eP
   have ew : IntKind.u64.wrap ((j : Int) + 1) = ((j + 1 : Nat) : Int) := by rw [qam ⟨by show (0 : Int) ≤ _; omega, by show (j : Int) + 1 ≤ 18446744073709551615; omega⟩]; omega
   rw [eP] at hA'
   refine ⟨?_, ⟨j + 1, ew, hA', hb, hs2⟩, by rw [ew]; dsimp only; omega⟩
   rw [hA.1]
   show (j + 1) * 80 ≤ _
   omega
 ·obtain rfl : j = N.1 := by have := hA.2.1; omega
  have e2 := hA.end
  rw [e2] at eS
  have hr2 : (qbK a0_c).2 = s := by show (qg6 a0_c).2 = s; rw [eS]
  refine ⟨fun h => ?_, fun h => ?_⟩
  ·have hsb : s.2 = true := by
    cases hc : s.2 with
    | true => rfl
    | false => rw [hc] at h; exact absurd rfl h
   rw [qjS (by rw [hr2]; exact hsb), hr2]
   exact ⟨rfl, rfl⟩
  ·have hsb : s.2 = false := by
    cases hc : s.2 with
    | false => rfl
    | true => rw [hc] at h; exact absurd (by decide) h
   rw [qmf (by rw [hr2]; exact hsb), hr2, eS]
   exact ⟨by rw [hb], rfl⟩
theorem qrn : (∀ a, qfu.pre a → PM.wfP qfu.pm a (fvc qoX 200 47 qfu a (eqO qfu a))) = (∀ a : ((List UInt8) × Bool) × Unit, ((a.1).1.length ≤ 140737488355328) → (Ty.kd (.st (.pr (.sl .byte) .bool))).wf a.1 → qiI a.1 (fun o0 o1 => o0 = (qbK (a.1)).1 ∧ o1 = (qbK (a.1)).2)) := by kernel_rfl
theorem quj : qfu.valid Try.prog 47 := qau (X := qoX) (qaJ (qal.rows [3000003, 4000008, 3000004, 4000016]) (fun b hb => by cases hb; exact qar) qas ⟨qv7, qtN, qv8, qsu, trivial⟩) 200 (qrn.mpr fun a hp w_0 => @qro a.1 w_0 hp)
end Go.Proofs.Ytmjjkpiglbpkhaa

set_option linter.unusedVariables false
set_option maxRecDepth 100000
set_option maxHeartbeats 20000000
namespace Go.Proofs.Ytmjjkpiglbpkhaa
open Go Go.RowKit Go.Inc
noncomputable def qe4 : Ctr := ⟨[.v (.sl (.arr 32 .byte)), .v (.sl (.arr 32 .byte))], [.v .bool], none, fun a => (fun (a0_a : List (List UInt8)) (a1_b : List (List UInt8)) => ((decide (a0_a = a1_b), ()), (()))) a.1 a.2.1⟩
noncomputable def qnN : Fx := ⟨seat, some bkT, fns, [], [], [], [(6, [], [.o 0 2, .o 1 2, .o 2 2, .o 3 2, .o 4 2, .o 5 2, .o 6 2, .o 7 2, .o 8 2])]⟩
def qib (a0_a : List (List UInt8)) (a1_b : List (List UInt8)) (Q : Bool → Prop) : Prop :=
 ((a0_a.length : Int) ≠ (a1_b.length : Int) → Q false) ∧ (¬(a0_a.length : Int) ≠ (a1_b.length : Int) → ∃ (x0 : Bool → Int → Prop), ∃ (x1 : Bool → Int → Nat), x0 false (0 : Int) ∧ ∀ (x2 : Bool) (x3 : Int), x0 x2 x3 → (Kd.int IntKind.i64).wf x3 → (x3 < (a0_a.length : Int) → ((0 : Int) ≤ x3 ∧ x3 < (a0_a.length : Int)) ∧ ((0 : Int) ≤ x3 ∧ x3 < (a1_b.length : Int)) ∧ (ix a0_a x3 ≠ ix a1_b x3 → Q false) ∧ (¬ix a0_a x3 ≠ ix a1_b x3 → x3 < (9223372036854775807 : Int) ∧ x0 x2 (x3 + (1 : Int)) ∧ x1 x2 (x3 + (1 : Int)) < x1 x2 x3)) ∧ (¬x3 < (a0_a.length : Int) → Q true))
theorem qqt {a0_a : List (List UInt8)} {a1_b : List (List UInt8)} (w_0 : (Ty.kd (.sl (.arr 32 .byte))).wf a0_a) (w_1 : (Ty.kd (.sl (.arr 32 .byte))).wf a1_b) : qib a0_a a1_b (fun o0 => o0 = decide (a0_a = a1_b)) := by
 unfold qib
 refine ⟨fun h => ?_, fun h => ?_⟩
 ·show false = decide (a0_a = a1_b)
  rw [decide_eq_false (fun e => h (by rw [e]))]
 ·have hl : a0_a.length = a1_b.length := by omega
  have hL : a0_a.length ≤ 281474976710656 := w_0.1
  refine ⟨fun _ i => ∃ j : Nat, i = (j : Int) ∧ j ≤ a0_a.length ∧ a0_a.take j = a1_b.take j, fun _ i => a0_a.length - i.toNat, ⟨0, rfl, by omega, rfl⟩, ?_⟩
  rintro r i ⟨j, rfl, hj, ht⟩ _
  refine ⟨fun hlt => ⟨⟨by omega, hlt⟩, ⟨by omega, by omega⟩, fun hne => ?_, fun he => ⟨by omega, ⟨j + 1, by omega, by omega, qpv (by omega) (by omega) ht (Classical.not_not.1 he)⟩, by show a0_a.length - ((j : Int) + 1).toNat < a0_a.length - (j : Int).toNat; omega⟩⟩, fun hge => ?_⟩
  ·show false = decide (a0_a = a1_b)
   rw [decide_eq_false (fun e => hne (by rw [e]))]
  ·have e : a0_a = a1_b := by
    rw [List.take_of_length_le (by omega), List.take_of_length_le (by omega)] at ht
    exact ht
   show true = decide (a0_a = a1_b)
   rw [decide_eq_true e]
theorem qqs : (∀ a, qe4.pre a → PM.wfP qe4.pm a (fvc qnN 200 91 qe4 a (eqO qe4 a))) = (∀ a : (List (List UInt8)) × (List (List UInt8)) × Unit, True → (Ty.kd (.sl (.arr 32 .byte))).wf a.1 → (Ty.kd (.sl (.arr 32 .byte))).wf a.2.1 → qib a.1 a.2.1 (fun o0 => o0 = decide ((a.1) = (a.2.1)))) := by kernel_rfl
theorem qtm : qe4.valid Try.prog 91 := qau (X := qnN) (qaJ qal (fun b hb => by cases hb; exact qar) qas trivial) 200 (qqs.mpr fun a hp w_0 w_1 => @qqt a.1 a.2.1 w_0 w_1)
def qai (a0_a : Int × List (Int × ((List UInt8) × List UInt8) × List (List UInt8))) (a1_b : Int × List (Int × ((List UInt8) × List UInt8) × List (List UInt8))) (Q : Bool → Prop) (x0 : Bool → Int → Prop) (x1 : Bool → Int → Nat) (x2 : Bool) (x3 : Int) : Prop :=
 (¬(ix a0_a.snd x3).fst ≠ (ix a1_b.snd x3).fst → ((ix a0_a.snd x3).snd.fst.fst ≠ (ix a1_b.snd x3).snd.fst.fst → Q false) ∧ (¬(ix a0_a.snd x3).snd.fst.fst ≠ (ix a1_b.snd x3).snd.fst.fst → ((ix a0_a.snd x3).snd.fst.snd ≠ (ix a1_b.snd x3).snd.fst.snd → Q false) ∧ (¬(ix a0_a.snd x3).snd.fst.snd ≠ (ix a1_b.snd x3).snd.fst.snd → (¬decide ((ix a0_a.snd x3).snd.snd = (ix a1_b.snd x3).snd.snd) = true → Q false) ∧ (decide ((ix a0_a.snd x3).snd.snd = (ix a1_b.snd x3).snd.snd) = true → x3 < (9223372036854775807 : Int) ∧ x0 x2 (x3 + (1 : Int)) ∧ x1 x2 (x3 + (1 : Int)) < x1 x2 x3))))
def qcJ (a0_a : Int × List (Int × ((List UInt8) × List UInt8) × List (List UInt8))) (a1_b : Int × List (Int × ((List UInt8) × List UInt8) × List (List UInt8))) (Q : Bool → Prop) (x0 : Bool → Int → Prop) (x1 : Bool → Int → Nat) (x2 : Bool) (x3 : Int) : Prop :=
 ((((0 : Int) ≤ x3 ∧ x3 < (a1_b.snd.length : Int)) ∧ (((ix a0_a.snd x3).fst ≠ (ix a1_b.snd x3).fst → Q false) ∧ (qai a0_a a1_b Q x0 x1 x2 x3)) ∧ (((ix a0_a.snd x3).fst ≠ (ix a1_b.snd x3).fst → Q false) ∧ (qai a0_a a1_b Q x0 x1 x2 x3)) ∧ True) ∧ (((0 : Int) ≤ x3 ∧ x3 < (a1_b.snd.length : Int)) ∧ ((ix a0_a.snd x3).fst ≠ (ix a1_b.snd x3).fst → Q false) ∧ (qai a0_a a1_b Q x0 x1 x2 x3)) ∧ True)
def qcK (a0_a : Int × List (Int × ((List UInt8) × List UInt8) × List (List UInt8))) (a1_b : Int × List (Int × ((List UInt8) × List UInt8) × List (List UInt8))) (Q : Bool → Prop) (x0 : Bool → Int → Prop) (x1 : Bool → Int → Nat) (x2 : Bool) (x3 : Int) : Prop :=
 ((((0 : Int) ≤ x3 ∧ x3 < (a0_a.snd.length : Int)) ∧ (((ix a0_a.snd x3).fst ≠ (ix a1_b.snd x3).fst → Q false) ∧ (qai a0_a a1_b Q x0 x1 x2 x3)) ∧ (((ix a0_a.snd x3).fst ≠ (ix a1_b.snd x3).fst → Q false) ∧ (qai a0_a a1_b Q x0 x1 x2 x3)) ∧ True) ∧ (((0 : Int) ≤ x3 ∧ x3 < (a0_a.snd.length : Int)) ∧ ((ix a0_a.snd x3).fst ≠ (ix a1_b.snd x3).fst → Q false) ∧ (qai a0_a a1_b Q x0 x1 x2 x3)) ∧ True)
def qcL (a0_a : Int × List (Int × ((List UInt8) × List UInt8) × List (List UInt8))) (a1_b : Int × List (Int × ((List UInt8) × List UInt8) × List (List UInt8))) (Q : Bool → Prop) (x0 : Bool → Int → Prop) (x1 : Bool → Int → Nat) (x2 : Bool) (x3 : Int) : Prop :=
 ((((0 : Int) ≤ x3 ∧ x3 < (a1_b.snd.length : Int)) ∧ (((ix a0_a.snd x3).fst ≠ (ix a1_b.snd x3).fst → Q false) ∧ (qai a0_a a1_b Q x0 x1 x2 x3)) ∧ ((((ix a0_a.snd x3).fst ≠ (ix a1_b.snd x3).fst → Q false) ∧ (qai a0_a a1_b Q x0 x1 x2 x3)) ∧ (((ix a0_a.snd x3).fst ≠ (ix a1_b.snd x3).fst → Q false) ∧ (qai a0_a a1_b Q x0 x1 x2 x3)) ∧ True) ∧ True) ∧ (qcJ a0_a a1_b Q x0 x1 x2 x3) ∧ True)
def qcM (a0_a : Int × List (Int × ((List UInt8) × List UInt8) × List (List UInt8))) (a1_b : Int × List (Int × ((List UInt8) × List UInt8) × List (List UInt8))) (Q : Bool → Prop) (x0 : Bool → Int → Prop) (x1 : Bool → Int → Nat) (x2 : Bool) (x3 : Int) : Prop :=
 (((0 : Int) ≤ x3 ∧ x3 < (a1_b.snd.length : Int)) ∧ ((((ix a0_a.snd x3).fst ≠ (ix a1_b.snd x3).fst → Q false) ∧ (qai a0_a a1_b Q x0 x1 x2 x3)) ∧ (((ix a0_a.snd x3).fst ≠ (ix a1_b.snd x3).fst → Q false) ∧ (qai a0_a a1_b Q x0 x1 x2 x3)) ∧ True) ∧ (((ix a0_a.snd x3).fst ≠ (ix a1_b.snd x3).fst → Q false) ∧ (qai a0_a a1_b Q x0 x1 x2 x3)) ∧ True)
def qcN (a0_a : Int × List (Int × ((List UInt8) × List UInt8) × List (List UInt8))) (a1_b : Int × List (Int × ((List UInt8) × List UInt8) × List (List UInt8))) (Q : Bool → Prop) (x0 : Bool → Int → Prop) (x1 : Bool → Int → Nat) (x2 : Bool) (x3 : Int) : Prop :=
 (((0 : Int) ≤ x3 ∧ x3 < (a0_a.snd.length : Int)) ∧ ((((ix a0_a.snd x3).fst ≠ (ix a1_b.snd x3).fst → Q false) ∧ (qai a0_a a1_b Q x0 x1 x2 x3)) ∧ (((ix a0_a.snd x3).fst ≠ (ix a1_b.snd x3).fst → Q false) ∧ (qai a0_a a1_b Q x0 x1 x2 x3)) ∧ True) ∧ (((ix a0_a.snd x3).fst ≠ (ix a1_b.snd x3).fst → Q false) ∧ (qai a0_a a1_b Q x0 x1 x2 x3)) ∧ True)
def qaV (a0_a : Int × List (Int × ((List UInt8) × List UInt8) × List (List UInt8))) (a1_b : Int × List (Int × ((List UInt8) × List UInt8) × List (List UInt8))) (Q : Bool → Prop) (x0 : Bool → Int → Prop) (x1 : Bool → Int → Nat) (x2 : Bool) (x3 : Int) : Prop :=
 ((((ix a0_a.snd x3).fst ≠ (ix a1_b.snd x3).fst → Q false) ∧ (qai a0_a a1_b Q x0 x1 x2 x3)) ∧ ((((ix a0_a.snd x3).fst ≠ (ix a1_b.snd x3).fst → Q false) ∧ (qai a0_a a1_b Q x0 x1 x2 x3)) ∧ (((ix a0_a.snd x3).fst ≠ (ix a1_b.snd x3).fst → Q false) ∧ (qai a0_a a1_b Q x0 x1 x2 x3)) ∧ True) ∧ True)
def qbV (a0_a : Int × List (Int × ((List UInt8) × List UInt8) × List (List UInt8))) (a1_b : Int × List (Int × ((List UInt8) × List UInt8) × List (List UInt8))) (Q : Bool → Prop) (x0 : Bool → Int → Prop) (x1 : Bool → Int → Nat) (x2 : Bool) (x3 : Int) : Prop :=
 (((((ix a0_a.snd x3).fst ≠ (ix a1_b.snd x3).fst → Q false) ∧ (qai a0_a a1_b Q x0 x1 x2 x3)) ∧ (((ix a0_a.snd x3).fst ≠ (ix a1_b.snd x3).fst → Q false) ∧ (qai a0_a a1_b Q x0 x1 x2 x3)) ∧ True) ∧ (((ix a0_a.snd x3).fst ≠ (ix a1_b.snd x3).fst → Q false) ∧ (qai a0_a a1_b Q x0 x1 x2 x3)) ∧ True)
def qdL (a0_a : Int × List (Int × ((List UInt8) × List UInt8) × List (List UInt8))) (a1_b : Int × List (Int × ((List UInt8) × List UInt8) × List (List UInt8))) (Q : Bool → Prop) (x0 : Bool → Int → Prop) (x1 : Bool → Int → Nat) (x2 : Bool) (x3 : Int) : Prop :=
 (((0 : Int) ≤ x3 ∧ x3 < (a1_b.snd.length : Int)) ∧ (qaV a0_a a1_b Q x0 x1 x2 x3) ∧ ((((ix a0_a.snd x3).fst ≠ (ix a1_b.snd x3).fst → Q false) ∧ (qai a0_a a1_b Q x0 x1 x2 x3)) ∧ (((ix a0_a.snd x3).fst ≠ (ix a1_b.snd x3).fst → Q false) ∧ (qai a0_a a1_b Q x0 x1 x2 x3)) ∧ True) ∧ (qbV a0_a a1_b Q x0 x1 x2 x3) ∧ True)
def qdM (a0_a : Int × List (Int × ((List UInt8) × List UInt8) × List (List UInt8))) (a1_b : Int × List (Int × ((List UInt8) × List UInt8) × List (List UInt8))) (Q : Bool → Prop) (x0 : Bool → Int → Prop) (x1 : Bool → Int → Nat) (x2 : Bool) (x3 : Int) : Prop :=
 (((0 : Int) ≤ x3 ∧ x3 < (a0_a.snd.length : Int)) ∧ (qaV a0_a a1_b Q x0 x1 x2 x3) ∧ ((((ix a0_a.snd x3).fst ≠ (ix a1_b.snd x3).fst → Q false) ∧ (qai a0_a a1_b Q x0 x1 x2 x3)) ∧ (((ix a0_a.snd x3).fst ≠ (ix a1_b.snd x3).fst → Q false) ∧ (qai a0_a a1_b Q x0 x1 x2 x3)) ∧ True) ∧ (qbV a0_a a1_b Q x0 x1 x2 x3) ∧ True)
def qgs (a0_a : Int × List (Int × ((List UInt8) × List UInt8) × List (List UInt8))) (a1_b : Int × List (Int × ((List UInt8) × List UInt8) × List (List UInt8))) (Q : Bool → Prop) (x0 : Bool → Int → Prop) (x1 : Bool → Int → Nat) (x2 : Bool) (x3 : Int) : Prop :=
 ((((0 : Int) ≤ x3 ∧ x3 < (a0_a.snd.length : Int)) ∧ (qcL a0_a a1_b Q x0 x1 x2 x3) ∧ (qdL a0_a a1_b Q x0 x1 x2 x3) ∧ ((qcJ a0_a a1_b Q x0 x1 x2 x3) ∧ (qcM a0_a a1_b Q x0 x1 x2 x3) ∧ True) ∧ True) ∧ (((0 : Int) ≤ x3 ∧ x3 < (a1_b.snd.length : Int)) ∧ (qdM a0_a a1_b Q x0 x1 x2 x3) ∧ (qcK a0_a a1_b Q x0 x1 x2 x3) ∧ ((qcN a0_a a1_b Q x0 x1 x2 x3) ∧ (((0 : Int) ≤ x3 ∧ x3 < (a0_a.snd.length : Int)) ∧ ((ix a0_a.snd x3).fst ≠ (ix a1_b.snd x3).fst → Q false) ∧ (qai a0_a a1_b Q x0 x1 x2 x3)) ∧ True) ∧ True) ∧ ((((0 : Int) ≤ x3 ∧ x3 < (a0_a.snd.length : Int)) ∧ (qcJ a0_a a1_b Q x0 x1 x2 x3) ∧ (qcM a0_a a1_b Q x0 x1 x2 x3) ∧ True) ∧ (((0 : Int) ≤ x3 ∧ x3 < (a1_b.snd.length : Int)) ∧ (qcN a0_a a1_b Q x0 x1 x2 x3) ∧ (((0 : Int) ≤ x3 ∧ x3 < (a0_a.snd.length : Int)) ∧ ((ix a0_a.snd x3).fst ≠ (ix a1_b.snd x3).fst → Q false) ∧ (qai a0_a a1_b Q x0 x1 x2 x3)) ∧ True) ∧ True) ∧ True)
def qe3 (a0_a : Int × List (Int × ((List UInt8) × List UInt8) × List (List UInt8))) (a1_b : Int × List (Int × ((List UInt8) × List UInt8) × List (List UInt8))) (Q : Bool → Prop) (x0 : Bool → Int → Prop) (x1 : Bool → Int → Nat) (x2 : Bool) (x3 : Int) : Prop :=
 (((((ix a0_a.snd x3).fst ≠ (ix a1_b.snd x3).fst → Q false) ∧ (qai a0_a a1_b Q x0 x1 x2 x3)) ∧ (((ix a0_a.snd x3).fst ≠ (ix a1_b.snd x3).fst → Q false) ∧ (qai a0_a a1_b Q x0 x1 x2 x3)) ∧ True) ∧ ((((ix a0_a.snd x3).fst ≠ (ix a1_b.snd x3).fst → Q false) ∧ (qai a0_a a1_b Q x0 x1 x2 x3)) ∧ (((ix a0_a.snd x3).fst ≠ (ix a1_b.snd x3).fst → Q false) ∧ (qai a0_a a1_b Q x0 x1 x2 x3)) ∧ True) ∧ ((((ix a0_a.snd x3).fst ≠ (ix a1_b.snd x3).fst → Q false) ∧ (qai a0_a a1_b Q x0 x1 x2 x3)) ∧ (((ix a0_a.snd x3).fst ≠ (ix a1_b.snd x3).fst → Q false) ∧ (qai a0_a a1_b Q x0 x1 x2 x3)) ∧ True) ∧ True)
noncomputable def qdK : Ctr := ⟨[.v (.pr (.int .i64) (.sl (.pr (.int .i64) (.pr (.pr (.sl .byte) (.sl .byte)) (.sl (.arr 32 .byte)))))), .v (.pr (.int .i64) (.sl (.pr (.int .i64) (.pr (.pr (.sl .byte) (.sl .byte)) (.sl (.arr 32 .byte))))))], [.v .bool], none, fun a => (fun (a0_a : Int × List (Int × ((List UInt8) × List UInt8) × List (List UInt8))) (a1_b : Int × List (Int × ((List UInt8) × List UInt8) × List (List UInt8))) => (((eqSn a0_a a1_b), ()), (()))) a.1 a.2.1⟩
noncomputable def qlw : Fx := ⟨seat, some bkT, fns, [(91, qe4)], [], [], [(6, [0, 1, 2, 3, 4, 5, 6, 7, 8, 9, 10, 11, 12], [.o 0 3, .o 2 3, .o 5 3, .o 7 3, .par [1, 3, 4, 6, 8, 9, 10, 11, 12] (.alt 1 1 (.one 3 3 (.alt 4 1 (.alt 6 1 (.one 8 3 (.alt 9 1 (.alt 10 0 (.one 11 0 (.one 12 1 .fin)) (.alt 11 0 (.one 10 0 (.one 12 1 .fin)) .fin)) (.alt 10 0 (.alt 9 1 (.one 11 0 (.one 12 1 .fin)) (.alt 11 0 (.alt 9 1 (.one 12 1 .fin) (.alt 12 1 (.one 9 1 .fin) .fin)) .fin)) (.alt 11 0 (.alt 9 1 (.one 10 0 (.one 12 1 .fin)) (.alt 10 0 (.alt 9 1 (.one 12 1 .fin) (.alt 12 1 (.one 9 1 .fin) .fin)) .fin)) .fin)))) (.alt 10 0 (.alt 6 1 (.one 8 3 (.alt 9 1 (.one 11 0 (.one 12 1 .fin)) (.alt 11 0 (.alt 9 1 (.one 12 1 .fin) (.alt 12 1 (.one 9 1 .fin) .fin)) .fin))) (.alt 11 0 (.alt 6 1 (.one 8 3 (.alt 9 1 (.one 12 1 .fin) (.alt 12 1 (.one 9 1 .fin) .fin))) (.alt 12 1 (.one 6 1 (.one 8 3 (.one 9 1 .fin))) .fin)) .fin)) (.alt 11 0 (.alt 6 1 (.one 8 3 (.alt 9 1 (.one 10 0 (.one 12 1 .fin)) (.alt 10 0 (.alt 9 1 (.one 12 1 .fin) (.alt 12 1 (.one 9 1 .fin) .fin)) .fin))) (.alt 10 0 (.alt 6 1 (.one 8 3 (.alt 9 1 (.one 12 1 .fin) (.alt 12 1 (.one 9 1 .fin) .fin))) (.alt 12 1 (.one 6 1 (.one 8 3 (.one 9 1 .fin))) .fin)) .fin)) .fin))) (.alt 6 1 (.one 8 3 (.alt 4 1 (.alt 9 1 (.alt 10 0 (.one 11 0 (.one 12 1 .fin)) (.alt 11 0 (.one 10 0 (.one 12 1 .fin)) .fin)) (.alt 10 0 (.alt 9 1 (.one 11 0 (.one 12 1 .fin)) (.alt 11 0 (.alt 9 1 (.one 12 1 .fin) (.alt 12 1 (.one 9 1 .fin) .fin)) .fin)) (.alt 11 0 (.alt 9 1 (.one 10 0 (.one 12 1 .fin)) (.alt 10 0 (.alt 9 1 (.one 12 1 .fin) (.alt 12 1 (.one 9 1 .fin) .fin)) .fin)) .fin))) (.alt 9 1 (.alt 4 1 (.alt 10 0 (.one 11 0 (.one 12 1 .fin)) (.alt 11 0 (.one 10 0 (.one 12 1 .fin)) .fin)) (.alt 10 0 (.alt 4 1 (.one 11 0 (.one 12 1 .fin)) (.alt 11 0 (.one 4 1 (.one 12 1 .fin)) .fin)) (.alt 11 0 (.alt 4 1 (.one 10 0 (.one 12 1 .fin)) (.alt 10 0 (.one 4 1 (.one 12 1 .fin)) .fin)) .fin))) (.alt 10 0 (.alt 4 1 (.alt 9 1 (.one 11 0 (.one 12 1 .fin)) (.alt 11 0 (.alt 9 1 (.one 12 1 .fin) (.alt 12 1 (.one 9 1 .fin) .fin)) .fin)) (.alt 9 1 (.alt 4 1 (.one 11 0 (.one 12 1 .fin)) (.alt 11 0 (.one 4 1 (.one 12 1 .fin)) .fin)) (.alt 11 0 (.alt 4 1 (.alt 9 1 (.one 12 1 .fin) (.alt 12 1 (.one 9 1 .fin) .fin)) (.alt 9 1 (.one 4 1 (.one 12 1 .fin)) .fin)) .fin))) (.alt 11 0 (.alt 4 1 (.alt 9 1 (.one 10 0 (.one 12 1 .fin)) (.alt 10 0 (.alt 9 1 (.one 12 1 .fin) (.alt 12 1 (.one 9 1 .fin) .fin)) .fin)) (.alt 9 1 (.alt 4 1 (.one 10 0 (.one 12 1 .fin)) (.alt 10 0 (.one 4 1 (.one 12 1 .fin)) .fin)) (.alt 10 0 (.alt 4 1 (.alt 9 1 (.one 12 1 .fin) (.alt 12 1 (.one 9 1 .fin) .fin)) (.alt 9 1 (.one 4 1 (.one 12 1 .fin)) .fin)) .fin))) .fin))))) (.alt 10 0 (.alt 4 1 (.alt 6 1 (.one 8 3 (.alt 9 1 (.one 11 0 (.one 12 1 .fin)) (.alt 11 0 (.alt 9 1 (.one 12 1 .fin) (.alt 12 1 (.one 9 1 .fin) .fin)) .fin))) (.alt 11 0 (.alt 6 1 (.one 8 3 (.alt 9 1 (.one 12 1 .fin) (.alt 12 1 (.one 9 1 .fin) .fin))) (.alt 12 1 (.one 6 1 (.one 8 3 (.one 9 1 .fin))) .fin)) .fin)) (.alt 6 1 (.one 8 3 (.alt 4 1 (.alt 9 1 (.one 11 0 (.one 12 1 .fin)) (.alt 11 0 (.alt 9 1 (.one 12 1 .fin) (.alt 12 1 (.one 9 1 .fin) .fin)) .fin)) (.alt 9 1 (.alt 4 1 (.one 11 0 (.one 12 1 .fin)) (.alt 11 0 (.one 4 1 (.one 12 1 .fin)) .fin)) (.alt 11 0 (.alt 4 1 (.alt 9 1 (.one 12 1 .fin) (.alt 12 1 (.one 9 1 .fin) .fin)) (.alt 9 1 (.one 4 1 (.one 12 1 .fin)) .fin)) .fin)))) (.alt 11 0 (.alt 4 1 (.alt 6 1 (.one 8 3 (.alt 9 1 (.one 12 1 .fin) (.alt 12 1 (.one 9 1 .fin) .fin))) (.alt 12 1 (.one 6 1 (.one 8 3 (.one 9 1 .fin))) .fin)) (.alt 6 1 (.one 8 3 (.alt 4 1 (.alt 9 1 (.one 12 1 .fin) (.alt 12 1 (.one 9 1 .fin) .fin)) (.alt 9 1 (.one 4 1 (.one 12 1 .fin)) .fin))) .fin)) .fin))) (.alt 11 0 (.alt 4 1 (.alt 6 1 (.one 8 3 (.alt 9 1 (.one 10 0 (.one 12 1 .fin)) (.alt 10 0 (.alt 9 1 (.one 12 1 .fin) (.alt 12 1 (.one 9 1 .fin) .fin)) .fin))) (.alt 10 0 (.alt 6 1 (.one 8 3 (.alt 9 1 (.one 12 1 .fin) (.alt 12 1 (.one 9 1 .fin) .fin))) (.alt 12 1 (.one 6 1 (.one 8 3 (.one 9 1 .fin))) .fin)) .fin)) (.alt 6 1 (.one 8 3 (.alt 4 1 (.alt 9 1 (.one 10 0 (.one 12 1 .fin)) (.alt 10 0 (.alt 9 1 (.one 12 1 .fin) (.alt 12 1 (.one 9 1 .fin) .fin)) .fin)) (.alt 9 1 (.alt 4 1 (.one 10 0 (.one 12 1 .fin)) (.alt 10 0 (.one 4 1 (.one 12 1 .fin)) .fin)) (.alt 10 0 (.alt 4 1 (.alt 9 1 (.one 12 1 .fin) (.alt 12 1 (.one 9 1 .fin) .fin)) (.alt 9 1 (.one 4 1 (.one 12 1 .fin)) .fin)) .fin)))) (.alt 10 0 (.alt 4 1 (.alt 6 1 (.one 8 3 (.alt 9 1 (.one 12 1 .fin) (.alt 12 1 (.one 9 1 .fin) .fin))) (.alt 12 1 (.one 6 1 (.one 8 3 (.one 9 1 .fin))) .fin)) (.alt 6 1 (.one 8 3 (.alt 4 1 (.alt 9 1 (.one 12 1 .fin) (.alt 12 1 (.one 9 1 .fin) .fin)) (.alt 9 1 (.one 4 1 (.one 12 1 .fin)) .fin))) .fin)) .fin))) .fin))))) (.alt 6 1 (.one 8 3 (.alt 1 1 (.one 3 3 (.alt 4 1 (.alt 9 1 (.alt 10 0 (.one 11 0 (.one 12 1 .fin)) (.alt 11 0 (.one 10 0 (.one 12 1 .fin)) .fin)) (.alt 10 0 (.alt 9 1 (.one 11 0 (.one 12 1 .fin)) (.alt 11 0 (.alt 9 1 (.one 12 1 .fin) (.alt 12 1 (.one 9 1 .fin) .fin)) .fin)) (.alt 11 0 (.alt 9 1 (.one 10 0 (.one 12 1 .fin)) (.alt 10 0 (.alt 9 1 (.one 12 1 .fin) (.alt 12 1 (.one 9 1 .fin) .fin)) .fin)) .fin))) (.alt 9 1 (.alt 4 1 (.alt 10 0 (.one 11 0 (.one 12 1 .fin)) (.alt 11 0 (.one 10 0 (.one 12 1 .fin)) .fin)) (.alt 10 0 (.alt 4 1 (.one 11 0 (.one 12 1 .fin)) (.alt 11 0 (.one 4 1 (.one 12 1 .fin)) .fin)) (.alt 11 0 (.alt 4 1 (.one 10 0 (.one 12 1 .fin)) (.alt 10 0 (.one 4 1 (.one 12 1 .fin)) .fin)) .fin))) (.alt 10 0 (.alt 4 1 (.alt 9 1 (.one 11 0 (.one 12 1 .fin)) (.alt 11 0 (.alt 9 1 (.one 12 1 .fin) (.alt 12 1 (.one 9 1 .fin) .fin)) .fin)) (.alt 9 1 (.alt 4 1 (.one 11 0 (.one 12 1 .fin)) (.alt 11 0 (.one 4 1 (.one 12 1 .fin)) .fin)) (.alt 11 0 (.alt 4 1 (.alt 9 1 (.one 12 1 .fin) (.alt 12 1 (.one 9 1 .fin) .fin)) (.alt 9 1 (.one 4 1 (.one 12 1 .fin)) .fin)) .fin))) (.alt 11 0 (.alt 4 1 (.alt 9 1 (.one 10 0 (.one 12 1 .fin)) (.alt 10 0 (.alt 9 1 (.one 12 1 .fin) (.alt 12 1 (.one 9 1 .fin) .fin)) .fin)) (.alt 9 1 (.alt 4 1 (.one 10 0 (.one 12 1 .fin)) (.alt 10 0 (.one 4 1 (.one 12 1 .fin)) .fin)) (.alt 10 0 (.alt 4 1 (.alt 9 1 (.one 12 1 .fin) (.alt 12 1 (.one 9 1 .fin) .fin)) (.alt 9 1 (.one 4 1 (.one 12 1 .fin)) .fin)) .fin))) .fin))))) (.alt 9 1 (.alt 1 1 (.one 3 3 (.alt 4 1 (.alt 10 0 (.one 11 0 (.one 12 1 .fin)) (.alt 11 0 (.one 10 0 (.one 12 1 .fin)) .fin)) (.alt 10 0 (.alt 4 1 (.one 11 0 (.one 12 1 .fin)) (.alt 11 0 (.one 4 1 (.one 12 1 .fin)) .fin)) (.alt 11 0 (.alt 4 1 (.one 10 0 (.one 12 1 .fin)) (.alt 10 0 (.one 4 1 (.one 12 1 .fin)) .fin)) .fin)))) (.alt 10 0 (.alt 1 1 (.one 3 3 (.alt 4 1 (.one 11 0 (.one 12 1 .fin)) (.alt 11 0 (.one 4 1 (.one 12 1 .fin)) .fin))) (.alt 11 0 (.one 1 1 (.one 3 3 (.one 4 1 (.one 12 1 .fin)))) .fin)) (.alt 11 0 (.alt 1 1 (.one 3 3 (.alt 4 1 (.one 10 0 (.one 12 1 .fin)) (.alt 10 0 (.one 4 1 (.one 12 1 .fin)) .fin))) (.alt 10 0 (.one 1 1 (.one 3 3 (.one 4 1 (.one 12 1 .fin)))) .fin)) .fin))) (.alt 10 0 (.alt 1 1 (.one 3 3 (.alt 4 1 (.alt 9 1 (.one 11 0 (.one 12 1 .fin)) (.alt 11 0 (.alt 9 1 (.one 12 1 .fin) (.alt 12 1 (.one 9 1 .fin) .fin)) .fin)) (.alt 9 1 (.alt 4 1 (.one 11 0 (.one 12 1 .fin)) (.alt 11 0 (.one 4 1 (.one 12 1 .fin)) .fin)) (.alt 11 0 (.alt 4 1 (.alt 9 1 (.one 12 1 .fin) (.alt 12 1 (.one 9 1 .fin) .fin)) (.alt 9 1 (.one 4 1 (.one 12 1 .fin)) .fin)) .fin)))) (.alt 9 1 (.alt 1 1 (.one 3 3 (.alt 4 1 (.one 11 0 (.one 12 1 .fin)) (.alt 11 0 (.one 4 1 (.one 12 1 .fin)) .fin))) (.alt 11 0 (.one 1 1 (.one 3 3 (.one 4 1 (.one 12 1 .fin)))) .fin)) (.alt 11 0 (.alt 1 1 (.one 3 3 (.alt 4 1 (.alt 9 1 (.one 12 1 .fin) (.alt 12 1 (.one 9 1 .fin) .fin)) (.alt 9 1 (.one 4 1 (.one 12 1 .fin)) .fin))) (.alt 9 1 (.one 1 1 (.one 3 3 (.one 4 1 (.one 12 1 .fin)))) .fin)) .fin))) (.alt 11 0 (.alt 1 1 (.one 3 3 (.alt 4 1 (.alt 9 1 (.one 10 0 (.one 12 1 .fin)) (.alt 10 0 (.alt 9 1 (.one 12 1 .fin) (.alt 12 1 (.one 9 1 .fin) .fin)) .fin)) (.alt 9 1 (.alt 4 1 (.one 10 0 (.one 12 1 .fin)) (.alt 10 0 (.one 4 1 (.one 12 1 .fin)) .fin)) (.alt 10 0 (.alt 4 1 (.alt 9 1 (.one 12 1 .fin) (.alt 12 1 (.one 9 1 .fin) .fin)) (.alt 9 1 (.one 4 1 (.one 12 1 .fin)) .fin)) .fin)))) (.alt 9 1 (.alt 1 1 (.one 3 3 (.alt 4 1 (.one 10 0 (.one 12 1 .fin)) (.alt 10 0 (.one 4 1 (.one 12 1 .fin)) .fin))) (.alt 10 0 (.one 1 1 (.one 3 3 (.one 4 1 (.one 12 1 .fin)))) .fin)) (.alt 10 0 (.alt 1 1 (.one 3 3 (.alt 4 1 (.alt 9 1 (.one 12 1 .fin) (.alt 12 1 (.one 9 1 .fin) .fin)) (.alt 9 1 (.one 4 1 (.one 12 1 .fin)) .fin))) (.alt 9 1 (.one 1 1 (.one 3 3 (.one 4 1 (.one 12 1 .fin)))) .fin)) .fin))) .fin))))) (.alt 10 0 (.alt 1 1 (.one 3 3 (.alt 4 1 (.alt 6 1 (.one 8 3 (.alt 9 1 (.one 11 0 (.one 12 1 .fin)) (.alt 11 0 (.alt 9 1 (.one 12 1 .fin) (.alt 12 1 (.one 9 1 .fin) .fin)) .fin))) (.alt 11 0 (.alt 6 1 (.one 8 3 (.alt 9 1 (.one 12 1 .fin) (.alt 12 1 (.one 9 1 .fin) .fin))) (.alt 12 1 (.one 6 1 (.one 8 3 (.one 9 1 .fin))) .fin)) .fin)) (.alt 6 1 (.one 8 3 (.alt 4 1 (.alt 9 1 (.one 11 0 (.one 12 1 .fin)) (.alt 11 0 (.alt 9 1 (.one 12 1 .fin) (.alt 12 1 (.one 9 1 .fin) .fin)) .fin)) (.alt 9 1 (.alt 4 1 (.one 11 0 (.one 12 1 .fin)) (.alt 11 0 (.one 4 1 (.one 12 1 .fin)) .fin)) (.alt 11 0 (.alt 4 1 (.alt 9 1 (.one 12 1 .fin) (.alt 12 1 (.one 9 1 .fin) .fin)) (.alt 9 1 (.one 4 1 (.one 12 1 .fin)) .fin)) .fin)))) (.alt 11 0 (.alt 4 1 (.alt 6 1 (.one 8 3 (.alt 9 1 (.one 12 1 .fin) (.alt 12 1 (.one 9 1 .fin) .fin))) (.alt 12 1 (.one 6 1 (.one 8 3 (.one 9 1 .fin))) .fin)) (.alt 6 1 (.one 8 3 (.alt 4 1 (.alt 9 1 (.one 12 1 .fin) (.alt 12 1 (.one 9 1 .fin) .fin)) (.alt 9 1 (.one 4 1 (.one 12 1 .fin)) .fin))) .fin)) .fin)))) (.alt 6 1 (.one 8 3 (.alt 1 1 (.one 3 3 (.alt 4 1 (.alt 9 1 (.one 11 0 (.one 12 1 .fin)) (.alt 11 0 (.alt 9 1 (.one 12 1 .fin) (.alt 12 1 (.one 9 1 .fin) .fin)) .fin)) (.alt 9 1 (.alt 4 1 (.one 11 0 (.one 12 1 .fin)) (.alt 11 0 (.one 4 1 (.one 12 1 .fin)) .fin)) (.alt 11 0 (.alt 4 1 (.alt 9 1 (.one 12 1 .fin) (.alt 12 1 (.one 9 1 .fin) .fin)) (.alt 9 1 (.one 4 1 (.one 12 1 .fin)) .fin)) .fin)))) (.alt 9 1 (.alt 1 1 (.one 3 3 (.alt 4 1 (.one 11 0 (.one 12 1 .fin)) (.alt 11 0 (.one 4 1 (.one 12 1 .fin)) .fin))) (.alt 11 0 (.one 1 1 (.one 3 3 (.one 4 1 (.one 12 1 .fin)))) .fin)) (.alt 11 0 (.alt 1 1 (.one 3 3 (.alt 4 1 (.alt 9 1 (.one 12 1 .fin) (.alt 12 1 (.one 9 1 .fin) .fin)) (.alt 9 1 (.one 4 1 (.one 12 1 .fin)) .fin))) (.alt 9 1 (.one 1 1 (.one 3 3 (.one 4 1 (.one 12 1 .fin)))) .fin)) .fin)))) (.alt 11 0 (.alt 1 1 (.one 3 3 (.alt 4 1 (.alt 6 1 (.one 8 3 (.alt 9 1 (.one 12 1 .fin) (.alt 12 1 (.one 9 1 .fin) .fin))) (.alt 12 1 (.one 6 1 (.one 8 3 (.one 9 1 .fin))) .fin)) (.alt 6 1 (.one 8 3 (.alt 4 1 (.alt 9 1 (.one 12 1 .fin) (.alt 12 1 (.one 9 1 .fin) .fin)) (.alt 9 1 (.one 4 1 (.one 12 1 .fin)) .fin))) .fin))) (.alt 6 1 (.one 8 3 (.alt 1 1 (.one 3 3 (.alt 4 1 (.alt 9 1 (.one 12 1 .fin) (.alt 12 1 (.one 9 1 .fin) .fin)) (.alt 9 1 (.one 4 1 (.one 12 1 .fin)) .fin))) (.alt 9 1 (.one 1 1 (.one 3 3 (.one 4 1 (.one 12 1 .fin)))) .fin))) .fin)) .fin))) (.alt 11 0 (.alt 1 1 (.one 3 3 (.alt 4 1 (.alt 6 1 (.one 8 3 (.alt 9 1 (.one 10 0 (.one 12 1 .fin)) (.alt 10 0 (.alt 9 1 (.one 12 1 .fin) (.alt 12 1 (.one 9 1 .fin) .fin)) .fin))) (.alt 10 0 (.alt 6 1 (.one 8 3 (.alt 9 1 (.one 12 1 .fin) (.alt 12 1 (.one 9 1 .fin) .fin))) (.alt 12 1 (.one 6 1 (.one 8 3 (.one 9 1 .fin))) .fin)) .fin)) (.alt 6 1 (.one 8 3 (.alt 4 1 (.alt 9 1 (.one 10 0 (.one 12 1 .fin)) (.alt 10 0 (.alt 9 1 (.one 12 1 .fin) (.alt 12 1 (.one 9 1 .fin) .fin)) .fin)) (.alt 9 1 (.alt 4 1 (.one 10 0 (.one 12 1 .fin)) (.alt 10 0 (.one 4 1 (.one 12 1 .fin)) .fin)) (.alt 10 0 (.alt 4 1 (.alt 9 1 (.one 12 1 .fin) (.alt 12 1 (.one 9 1 .fin) .fin)) (.alt 9 1 (.one 4 1 (.one 12 1 .fin)) .fin)) .fin)))) (.alt 10 0 (.alt 4 1 (.alt 6 1 (.one 8 3 (.alt 9 1 (.one 12 1 .fin) (.alt 12 1 (.one 9 1 .fin) .fin))) (.alt 12 1 (.one 6 1 (.one 8 3 (.one 9 1 .fin))) .fin)) (.alt 6 1 (.one 8 3 (.alt 4 1 (.alt 9 1 (.one 12 1 .fin) (.alt 12 1 (.one 9 1 .fin) .fin)) (.alt 9 1 (.one 4 1 (.one 12 1 .fin)) .fin))) .fin)) .fin)))) (.alt 6 1 (.one 8 3 (.alt 1 1 (.one 3 3 (.alt 4 1 (.alt 9 1 (.one 10 0 (.one 12 1 .fin)) (.alt 10 0 (.alt 9 1 (.one 12 1 .fin) (.alt 12 1 (.one 9 1 .fin) .fin)) .fin)) (.alt 9 1 (.alt 4 1 (.one 10 0 (.one 12 1 .fin)) (.alt 10 0 (.one 4 1 (.one 12 1 .fin)) .fin)) (.alt 10 0 (.alt 4 1 (.alt 9 1 (.one 12 1 .fin) (.alt 12 1 (.one 9 1 .fin) .fin)) (.alt 9 1 (.one 4 1 (.one 12 1 .fin)) .fin)) .fin)))) (.alt 9 1 (.alt 1 1 (.one 3 3 (.alt 4 1 (.one 10 0 (.one 12 1 .fin)) (.alt 10 0 (.one 4 1 (.one 12 1 .fin)) .fin))) (.alt 10 0 (.one 1 1 (.one 3 3 (.one 4 1 (.one 12 1 .fin)))) .fin)) (.alt 10 0 (.alt 1 1 (.one 3 3 (.alt 4 1 (.alt 9 1 (.one 12 1 .fin) (.alt 12 1 (.one 9 1 .fin) .fin)) (.alt 9 1 (.one 4 1 (.one 12 1 .fin)) .fin))) (.alt 9 1 (.one 1 1 (.one 3 3 (.one 4 1 (.one 12 1 .fin)))) .fin)) .fin)))) (.alt 10 0 (.alt 1 1 (.one 3 3 (.alt 4 1 (.alt 6 1 (.one 8 3 (.alt 9 1 (.one 12 1 .fin) (.alt 12 1 (.one 9 1 .fin) .fin))) (.alt 12 1 (.one 6 1 (.one 8 3 (.one 9 1 .fin))) .fin)) (.alt 6 1 (.one 8 3 (.alt 4 1 (.alt 9 1 (.one 12 1 .fin) (.alt 12 1 (.one 9 1 .fin) .fin)) (.alt 9 1 (.one 4 1 (.one 12 1 .fin)) .fin))) .fin))) (.alt 6 1 (.one 8 3 (.alt 1 1 (.one 3 3 (.alt 4 1 (.alt 9 1 (.one 12 1 .fin) (.alt 12 1 (.one 9 1 .fin) .fin)) (.alt 9 1 (.one 4 1 (.one 12 1 .fin)) .fin))) (.alt 9 1 (.one 1 1 (.one 3 3 (.one 4 1 (.one 12 1 .fin)))) .fin))) .fin)) .fin))) .fin)))), .o 13 1])]⟩
def qev (a0_a : Int × List (Int × ((List UInt8) × List UInt8) × List (List UInt8))) (a1_b : Int × List (Int × ((List UInt8) × List UInt8) × List (List UInt8))) (Q : Bool → Prop) : Prop :=
 (a0_a.fst ≠ a1_b.fst → Q false) ∧ (¬a0_a.fst ≠ a1_b.fst → ((a0_a.snd.length : Int) ≠ (a1_b.snd.length : Int) → Q false) ∧ (¬(a0_a.snd.length : Int) ≠ (a1_b.snd.length : Int) → ∃ (x0 : Bool → Int → Prop), ∃ (x1 : Bool → Int → Nat), x0 false (0 : Int) ∧ ∀ (x2 : Bool) (x3 : Int), x0 x2 x3 → (Kd.int IntKind.i64).wf x3 → (x3 < (a0_a.snd.length : Int) → (((0 : Int) ≤ x3 ∧ x3 < (a0_a.snd.length : Int)) ∧ ((((0 : Int) ≤ x3 ∧ x3 < (a1_b.snd.length : Int)) ∧ ((((ix a0_a.snd x3).fst ≠ (ix a1_b.snd x3).fst → Q false) ∧ (qai a0_a a1_b Q x0 x1 x2 x3)) ∧ (((ix a0_a.snd x3).fst ≠ (ix a1_b.snd x3).fst → Q false) ∧ (qai a0_a a1_b Q x0 x1 x2 x3)) ∧ True) ∧ (qaV a0_a a1_b Q x0 x1 x2 x3) ∧ (qaV a0_a a1_b Q x0 x1 x2 x3) ∧ True) ∧ (qcL a0_a a1_b Q x0 x1 x2 x3) ∧ (qcL a0_a a1_b Q x0 x1 x2 x3) ∧ True) ∧ (((0 : Int) ≤ x3 ∧ x3 < (a1_b.snd.length : Int)) ∧ (((((ix a0_a.snd x3).fst ≠ (ix a1_b.snd x3).fst → Q false) ∧ (qai a0_a a1_b Q x0 x1 x2 x3)) ∧ (((ix a0_a.snd x3).fst ≠ (ix a1_b.snd x3).fst → Q false) ∧ (qai a0_a a1_b Q x0 x1 x2 x3)) ∧ True) ∧ (qaV a0_a a1_b Q x0 x1 x2 x3) ∧ (qaV a0_a a1_b Q x0 x1 x2 x3) ∧ True) ∧ (qe3 a0_a a1_b Q x0 x1 x2 x3) ∧ ((qaV a0_a a1_b Q x0 x1 x2 x3) ∧ ((((ix a0_a.snd x3).fst ≠ (ix a1_b.snd x3).fst → Q false) ∧ (qai a0_a a1_b Q x0 x1 x2 x3)) ∧ (((ix a0_a.snd x3).fst ≠ (ix a1_b.snd x3).fst → Q false) ∧ (qai a0_a a1_b Q x0 x1 x2 x3)) ∧ True) ∧ (qbV a0_a a1_b Q x0 x1 x2 x3) ∧ True) ∧ ((qaV a0_a a1_b Q x0 x1 x2 x3) ∧ ((((ix a0_a.snd x3).fst ≠ (ix a1_b.snd x3).fst → Q false) ∧ (qai a0_a a1_b Q x0 x1 x2 x3)) ∧ (((ix a0_a.snd x3).fst ≠ (ix a1_b.snd x3).fst → Q false) ∧ (qai a0_a a1_b Q x0 x1 x2 x3)) ∧ True) ∧ (qbV a0_a a1_b Q x0 x1 x2 x3) ∧ True) ∧ True) ∧ ((qcL a0_a a1_b Q x0 x1 x2 x3) ∧ (qdL a0_a a1_b Q x0 x1 x2 x3) ∧ ((qcJ a0_a a1_b Q x0 x1 x2 x3) ∧ (qcM a0_a a1_b Q x0 x1 x2 x3) ∧ True) ∧ True) ∧ ((qcL a0_a a1_b Q x0 x1 x2 x3) ∧ (qdL a0_a a1_b Q x0 x1 x2 x3) ∧ ((qcJ a0_a a1_b Q x0 x1 x2 x3) ∧ (qcM a0_a a1_b Q x0 x1 x2 x3) ∧ True) ∧ True) ∧ True) ∧ (((0 : Int) ≤ x3 ∧ x3 < (a1_b.snd.length : Int)) ∧ (((0 : Int) ≤ x3 ∧ x3 < (a0_a.snd.length : Int)) ∧ (((((ix a0_a.snd x3).fst ≠ (ix a1_b.snd x3).fst → Q false) ∧ (qai a0_a a1_b Q x0 x1 x2 x3)) ∧ (((ix a0_a.snd x3).fst ≠ (ix a1_b.snd x3).fst → Q false) ∧ (qai a0_a a1_b Q x0 x1 x2 x3)) ∧ True) ∧ (qaV a0_a a1_b Q x0 x1 x2 x3) ∧ (qaV a0_a a1_b Q x0 x1 x2 x3) ∧ True) ∧ (qe3 a0_a a1_b Q x0 x1 x2 x3) ∧ ((qaV a0_a a1_b Q x0 x1 x2 x3) ∧ ((((ix a0_a.snd x3).fst ≠ (ix a1_b.snd x3).fst → Q false) ∧ (qai a0_a a1_b Q x0 x1 x2 x3)) ∧ (((ix a0_a.snd x3).fst ≠ (ix a1_b.snd x3).fst → Q false) ∧ (qai a0_a a1_b Q x0 x1 x2 x3)) ∧ True) ∧ (qbV a0_a a1_b Q x0 x1 x2 x3) ∧ True) ∧ ((qaV a0_a a1_b Q x0 x1 x2 x3) ∧ ((((ix a0_a.snd x3).fst ≠ (ix a1_b.snd x3).fst → Q false) ∧ (qai a0_a a1_b Q x0 x1 x2 x3)) ∧ (((ix a0_a.snd x3).fst ≠ (ix a1_b.snd x3).fst → Q false) ∧ (qai a0_a a1_b Q x0 x1 x2 x3)) ∧ True) ∧ (qbV a0_a a1_b Q x0 x1 x2 x3) ∧ True) ∧ True) ∧ ((((0 : Int) ≤ x3 ∧ x3 < (a0_a.snd.length : Int)) ∧ ((((ix a0_a.snd x3).fst ≠ (ix a1_b.snd x3).fst → Q false) ∧ (qai a0_a a1_b Q x0 x1 x2 x3)) ∧ (((ix a0_a.snd x3).fst ≠ (ix a1_b.snd x3).fst → Q false) ∧ (qai a0_a a1_b Q x0 x1 x2 x3)) ∧ True) ∧ ((((ix a0_a.snd x3).fst ≠ (ix a1_b.snd x3).fst → Q false) ∧ (qai a0_a a1_b Q x0 x1 x2 x3)) ∧ (((ix a0_a.snd x3).fst ≠ (ix a1_b.snd x3).fst → Q false) ∧ (qai a0_a a1_b Q x0 x1 x2 x3)) ∧ True) ∧ ((((ix a0_a.snd x3).fst ≠ (ix a1_b.snd x3).fst → Q false) ∧ (qai a0_a a1_b Q x0 x1 x2 x3)) ∧ (((ix a0_a.snd x3).fst ≠ (ix a1_b.snd x3).fst → Q false) ∧ (qai a0_a a1_b Q x0 x1 x2 x3)) ∧ True) ∧ True) ∧ (qcK a0_a a1_b Q x0 x1 x2 x3) ∧ (qcK a0_a a1_b Q x0 x1 x2 x3) ∧ True) ∧ ((qdM a0_a a1_b Q x0 x1 x2 x3) ∧ (qcK a0_a a1_b Q x0 x1 x2 x3) ∧ ((qcN a0_a a1_b Q x0 x1 x2 x3) ∧ (((0 : Int) ≤ x3 ∧ x3 < (a0_a.snd.length : Int)) ∧ ((ix a0_a.snd x3).fst ≠ (ix a1_b.snd x3).fst → Q false) ∧ (qai a0_a a1_b Q x0 x1 x2 x3)) ∧ True) ∧ True) ∧ ((qdM a0_a a1_b Q x0 x1 x2 x3) ∧ (qcK a0_a a1_b Q x0 x1 x2 x3) ∧ ((qcN a0_a a1_b Q x0 x1 x2 x3) ∧ (((0 : Int) ≤ x3 ∧ x3 < (a0_a.snd.length : Int)) ∧ ((ix a0_a.snd x3).fst ≠ (ix a1_b.snd x3).fst → Q false) ∧ (qai a0_a a1_b Q x0 x1 x2 x3)) ∧ True) ∧ True) ∧ True) ∧ (qgs a0_a a1_b Q x0 x1 x2 x3) ∧ (qgs a0_a a1_b Q x0 x1 x2 x3) ∧ True) ∧ (¬x3 < (a0_a.snd.length : Int) → Q true)))
theorem qnM {a0_a : Int × List (Int × ((List UInt8) × List UInt8) × List (List UInt8))} {a1_b : Int × List (Int × ((List UInt8) × List UInt8) × List (List UInt8))} (w_0 : (Ty.kd (.pr (.int .i64) (.sl (.pr (.int .i64) (.pr (.pr (.sl .byte) (.sl .byte)) (.sl (.arr 32 .byte))))))).wf a0_a) (w_1 : (Ty.kd (.pr (.int .i64) (.sl (.pr (.int .i64) (.pr (.pr (.sl .byte) (.sl .byte)) (.sl (.arr 32 .byte))))))).wf a1_b) : qev a0_a a1_b (fun o0 => o0 = (eqSn a0_a a1_b)) := by
 show qev a0_a a1_b (fun o0 => o0 = decide (a0_a = a1_b))
 unfold qev
 refine ⟨fun h => (decide_eq_false fun e => h (congrArg Prod.fst e)).symm, fun h1 => ⟨fun h => (decide_eq_false fun e => h (by rw [e])).symm, fun h2 => ?_⟩⟩
 have hn : a0_a.1 = a1_b.1 := Classical.not_not.1 h1
 have hl : a0_a.2.length = a1_b.2.length := by
  have : (a0_a.2.length : Int) = (a1_b.2.length : Int) := Classical.not_not.1 h2
  omega
 refine ⟨fun _ i => ∃ j : Nat, i = (j : Int) ∧ j ≤ a0_a.2.length ∧ ∀ k : Nat, k < j → ix a0_a.2 (k : Int) = ix a1_b.2 (k : Int), fun _ i => ((a0_a.2.length : Int) - i).toNat, ⟨0, rfl, Nat.zero_le _, fun k h => absurd h (Nat.not_lt_zero _)⟩, ?_⟩
 rintro x2 _ ⟨j, rfl, hj, hI⟩ _
 have end_ : ¬ (j : Int) < (a0_a.2.length : Int) → true = decide (a0_a = a1_b) := fun h => by
  refine (decide_eq_true (Prod.ext hn ?_)).symm
  exact List.ext_getElem hl fun k h1 h2 => by
   have := hI k (by omega)
   rwa [ixN h1, ixN h2] at this
 have step : (j : Int) < (a0_a.2.length : Int) → ∀ (Q : Bool → Prop) (x0 : Bool → Int → Prop) (x1 : Bool → Int → Nat), (∀ b, b = decide (a0_a = a1_b) → Q b) →
  (x0 = fun _ i => ∃ j : Nat, i = (j : Int) ∧ j ≤ a0_a.2.length ∧ ∀ k : Nat, k < j → ix a0_a.2 (k : Int) = ix a1_b.2 (k : Int)) → (x1 = fun _ i => ((a0_a.2.length : Int) - i).toNat) →
  (((ix a0_a.2 (j : Int)).1 ≠ (ix a1_b.2 (j : Int)).1 → Q false) ∧ qai a0_a a1_b Q x0 x1 x2 (j : Int)) := fun hlt Q x0 x1 hQ e0 e1 => by
  have bad : ix a0_a.2 (j : Int) ≠ ix a1_b.2 (j : Int) → Q false := fun h => hQ _ (decide_eq_false fun e => h (by rw [e])).symm
  refine ⟨fun h => bad fun e => h (congrArg Prod.fst e), ?_⟩
  unfold qai
  refine fun g1 => ⟨fun h => bad fun e => h (by rw [e]), fun g2 => ⟨fun h => bad fun e => h (by rw [e]), fun g3 => ⟨fun h => bad fun e => h (decide_eq_true (by rw [e])), fun g4 => ?_⟩⟩⟩
  have e : ix a0_a.2 (j : Int) = ix a1_b.2 (j : Int) := Prod.ext (Classical.not_not.1 g1) (Prod.ext (Prod.ext (Classical.not_not.1 g2) (Classical.not_not.1 g3)) (of_decide_eq_true g4))
  rw [e0, e1]
  refine ⟨by have : a0_a.2.length ≤ LM := w_0.2.1; unfold LM at this; omega, ⟨j + 1, rfl, by omega, fun k hk => ?_⟩, by dsimp only; omega⟩
  rcases Nat.lt_or_ge k j with h | h
  ·exact hI k h
  ·obtain rfl : k = j := by omega
   exact e
 refine ⟨fun hlt => ?_, end_⟩
 have base := step hlt _ _ _ (fun b h => h) rfl rfl
 have b0 : (0 : Int) ≤ (j : Int) ∧ (j : Int) < (a0_a.2.length : Int) := ⟨by omega, hlt⟩
 have b1 : (0 : Int) ≤ (j : Int) ∧ (j : Int) < (a1_b.2.length : Int) := ⟨by omega, by omega⟩
 clear step end_ hI
 generalize (fun (_ : Bool) (i : Int) => ∃ j : Nat, i = (j : Int) ∧ j ≤ a0_a.2.length ∧ ∀ k : Nat, k < j → ix a0_a.2 (k : Int) = ix a1_b.2 (k : Int)) = x0 at base ⊢
 generalize (fun (_ : Bool) (i : Int) => ((a0_a.2.length : Int) - i).toNat) = x1 at base ⊢
 have k3 : qaV a0_a a1_b (fun b => b = decide (a0_a = a1_b)) x0 x1 x2 (j : Int) := ⟨base, ⟨base, base, trivial⟩, trivial⟩
 have k4 : qcJ a0_a a1_b (fun b => b = decide (a0_a = a1_b)) x0 x1 x2 (j : Int) := ⟨⟨b1, base, base, trivial⟩, ⟨b1, base⟩, trivial⟩
 have k5 : qbV a0_a a1_b (fun b => b = decide (a0_a = a1_b)) x0 x1 x2 (j : Int) := by
  unfold qbV
  repeat' (first | exact base | exact b0 | exact b1 | exact trivial | refine ⟨?_, ?_⟩)
 have k6 : qcK a0_a a1_b (fun b => b = decide (a0_a = a1_b)) x0 x1 x2 (j : Int) := ⟨⟨b0, base, base, trivial⟩, ⟨b0, base⟩, trivial⟩
 have k7 : qcL a0_a a1_b (fun b => b = decide (a0_a = a1_b)) x0 x1 x2 (j : Int) := ⟨⟨b1, base, ⟨base, base, trivial⟩, trivial⟩, k4, trivial⟩
 have k8 : qcM a0_a a1_b (fun b => b = decide (a0_a = a1_b)) x0 x1 x2 (j : Int) := by
  unfold qcM
  repeat' (first | exact base | exact b0 | exact b1 | exact trivial | refine ⟨?_, ?_⟩)
 have k9 : qcN a0_a a1_b (fun b => b = decide (a0_a = a1_b)) x0 x1 x2 (j : Int) := by
  unfold qcN
  repeat' (first | exact base | exact b0 | exact b1 | exact trivial | refine ⟨?_, ?_⟩)
 have b2 := And.intro base (And.intro base trivial)
 have k10 : qdL a0_a a1_b (fun b => b = decide (a0_a = a1_b)) x0 x1 x2 (j : Int) := ⟨b1, k3, b2, k5, trivial⟩
 have k11 : qdM a0_a a1_b (fun b => b = decide (a0_a = a1_b)) x0 x1 x2 (j : Int) := ⟨b0, k3, b2, k5, trivial⟩
 have k2 : qgs a0_a a1_b (fun b => b = decide (a0_a = a1_b)) x0 x1 x2 (j : Int) := ⟨⟨b0, k7, k10, ⟨k4, k8, trivial⟩, trivial⟩, ⟨b1, k11, k6, ⟨k9, ⟨b0, base⟩, trivial⟩, trivial⟩, ⟨⟨b0, k4, k8, trivial⟩, ⟨b1, k9, ⟨b0, base⟩, trivial⟩, trivial⟩, trivial⟩
 have k12 : qe3 a0_a a1_b (fun b => b = decide (a0_a = a1_b)) x0 x1 x2 (j : Int) := ⟨b2, b2, b2, trivial⟩
 repeat' (first | exact base | exact b0 | exact b1 | exact trivial | exact k3 | exact k4 | exact k5 | exact k6 | exact k7 | exact k8 | exact k9 | exact k10 | exact k11 | exact k2 | exact k12 | refine ⟨?_, ?_⟩)
theorem qnL : (∀ a, qdK.pre a → PM.wfP qdK.pm a (fvc qlw 200 39 qdK a (eqO qdK a))) = (∀ a : (Int × List (Int × ((List UInt8) × List UInt8) × List (List UInt8))) × (Int × List (Int × ((List UInt8) × List UInt8) × List (List UInt8))) × Unit, True → (Ty.kd (.pr (.int .i64) (.sl (.pr (.int .i64) (.pr (.pr (.sl .byte) (.sl .byte)) (.sl (.arr 32 .byte))))))).wf a.1 → (Ty.kd (.pr (.int .i64) (.sl (.pr (.int .i64) (.pr (.pr (.sl .byte) (.sl .byte)) (.sl (.arr 32 .byte))))))).wf a.2.1 → qev a.1 a.2.1 (fun o0 => o0 = (eqSn (a.1) (a.2.1)))) := by kernel_rfl
theorem qqr : qdK.valid Try.prog 39 := qau (X := qlw) (qaJ qal (fun b hb => by cases hb; exact qar) qas ⟨qtm, trivial⟩) 200 (qnL.mpr fun a hp w_0 w_1 => @qnM a.1 a.2.1 w_0 w_1)
end Go.Proofs.Ytmjjkpiglbpkhaa

set_option linter.unusedVariables false
namespace Go.Inc
open Go
theorem bad1 {s : Cu} (h : s.2 = true) : (qaR sumC (numC 32 s).1 (numC 32 s).2).2.2 = true := (qg9.iter _).bad _ ((qeI 32 (by decide)).bad s h)
theorem bad2 {s : Cu} (h : s.2 = true) : (qaR sumC (numC 32 (qaE 1048576 s).2).1 (numC 32 (qaE 1048576 s).2).2).2.2 = true := bad1 ((qdP _).bad s h)
theorem bad3 {s : Cu} (h : s.2 = true) : (qaR sumC (numC 32 (qaE 1048576 (qaE 256 s).2).2).1 (numC 32 (qaE 1048576 (qaE 256 s).2).2).2).2.2 = true := bad2 ((qdP _).bad s h)
theorem quF {x : Sp} (ha : (Kd.int .i64).wf x.1) (h1 : x.2.1.1.length < 2 ^ 64) (h2 : x.2.1.2.length < 2 ^ 64) (h3 : x.2.2.length < 2 ^ 62) (h4 : ∀ z ∈ x.2.2, z.length = 32) (q : List UInt8) :
 (qgJ x → qdD (spB x ++ q, false) = (x, (q, false))) ∧ (¬ qgJ x → (qdD (spB x ++ q, false)).2.2 = true) := by
 obtain ⟨a, ⟨k, v⟩, p⟩ := x
 dsimp only at ha h1 h2 h3 h4
 have e : spB (a, ((k, v), p)) ++ q = numB (u64I a).toNat ++ (qc7 k ++ (qc7 v ++ (numB (u64I (p.length : Int)).toNat ++ (p.flatten ++ q)))) := by
  unfold spB
  dsimp only
  rw [num1, num1, qtK]
  simp only [List.append_assoc]
 have hp : (Kd.int .i64).wf (p.length : Int) := ⟨by show (-9223372036854775808 : Int) ≤ _; omega, by show (p.length : Int) ≤ 9223372036854775807; omega⟩
 rw [e, qmp]
 have n1 := qiS (most := 2147483647) (by decide) ha (qc7 k ++ (qc7 v ++ (numB (u64I (p.length : Int)).toNat ++ (p.flatten ++ q))))
 have b1 := qgB (most := 256) h1 (qc7 v ++ (numB (u64I (p.length : Int)).toNat ++ (p.flatten ++ q)))
 have b2 := qgB (most := 1048576) h2 (numB (u64I (p.length : Int)).toNat ++ (p.flatten ++ q))
 have n2 := qiS (most := 32) (by decide) hp (p.flatten ++ q)
 generalize numC 2147483647 (numB (u64I a).toNat ++ _, false) = S1 at n1 ⊢
 by_cases c1 : 0 ≤ a ∧ a ≤ (2147483647 : Nat)
 ·rw [if_pos c1] at n1
  subst n1
  dsimp only
  generalize qaE 256 (qc7 k ++ _, false) = S2 at b1 ⊢
  by_cases c2 : k.length ≤ 256
  ·rw [if_pos c2] at b1
   subst b1
   dsimp only
   generalize qaE 1048576 (qc7 v ++ _, false) = S3 at b2 ⊢
   by_cases c3 : v.length ≤ 1048576
   ·rw [if_pos c3] at b2
    subst b2
    dsimp only
    generalize numC 32 (numB (u64I (p.length : Int)).toNat ++ _, false) = S4 at n2 ⊢
    by_cases c4 : p.length ≤ 32
    ·rw [if_pos ⟨by omega, by omega⟩] at n2
     subst n2
     dsimp only
     rw [Int.toNat_natCast, qjE p q h4]
     refine ⟨fun _ => ?_, fun h => absurd ⟨⟨c1.1, by omega⟩, c2, c3, c4⟩ h⟩
     rw [Int.toNat_of_nonneg c1.1]
    ·rw [if_neg (by omega)] at n2
     subst n2
     exact ⟨fun h => absurd h.2.2.2 c4, fun _ => (qg9.iter _).bad _ rfl⟩
   ·rw [if_neg c3] at b2
    subst b2
    exact ⟨fun h => absurd h.2.2.1 c3, fun _ => bad1 rfl⟩
  ·rw [if_neg c2] at b1
   subst b1
   exact ⟨fun h => absurd h.2.1 c2, fun _ => bad2 rfl⟩
 ·rw [if_neg c1] at n1
  subst n1
  exact ⟨fun h => absurd ⟨h.1.1, by have := h.1.2; exact this⟩ c1, fun _ => bad3 rfl⟩
def okW (x : Sp) : Prop := (Kd.int .i64).wf x.1 ∧ x.2.1.1.length < 2 ^ 64 ∧ x.2.1.2.length < 2 ^ 64 ∧ x.2.2.length < 2 ^ 62 ∧ ∀ z ∈ x.2.2, z.length = 32
theorem qmq : ∀ {l : List Sp} (h : ∀ x ∈ l, okW x) (q : List UInt8),
 ((∀ x ∈ l, qgJ x) → qaR qdD l.length (l.flatMap spB ++ q, false) = (l, (q, false))) ∧ (¬ (∀ x ∈ l, qgJ x) → (qaR qdD l.length (l.flatMap spB ++ q, false)).2.2 = true)
 | [], _, q => ⟨fun _ => rfl, fun h => absurd (fun x hx => by cases hx) h⟩
 | x :: l, h, q => by
   obtain ⟨a1, a2, a3, a4, a5⟩ := h x (by simp)
   have ih := qmq (l := l) (fun z hz => h z (by simp [hz])) q
   obtain ⟨s1, s2⟩ := quF a1 a2 a3 a4 a5 (l.flatMap spB ++ q)
   have e : (x :: l).flatMap spB ++ q = spB x ++ (l.flatMap spB ++ q) := by rw [List.flatMap_cons, List.append_assoc]
   have eI : qaR qdD (x :: l).length ((x :: l).flatMap spB ++ q, false) = ((qdD (spB x ++ (l.flatMap spB ++ q), false)).1 :: (qaR qdD l.length (qdD (spB x ++ (l.flatMap spB ++ q), false)).2).1, (qaR qdD l.length (qdD (spB x ++ (l.flatMap spB ++ q), false)).2).2) := by rw [e]; rfl
   rw [eI]
   by_cases hx : qgJ x
   ·rw [s1 hx]
    dsimp only
    refine ⟨fun hl => ?_, fun hl => ih.2 fun hl' => hl fun z hz => ?_⟩
    ·rw [ih.1 fun z hz => hl z (by simp [hz])]
    ·rcases List.mem_cons.1 hz with rfl | hz
     ·exact hx
     ·exact hl' z hz
   ·exact ⟨fun hl => absurd (hl x (by simp)) hx, fun _ => (qfI.iter _).bad _ (s2 hx)⟩
theorem quB {s : Sn} (ha : (Kd.int .i64).wf s.1) (hl : s.2.length < 2 ^ 62) (h : ∀ x ∈ s.2, okW x) (q : List UInt8) :
 (fitS s → qg6 (qaP s ++ q, false) = (s, (q, false))) ∧ (¬ fitS s → (qg6 (qaP s ++ q, false)).2.2 = true) := by
 obtain ⟨a, l⟩ := s
 dsimp only at ha hl h
 have e : qaP (a, l) ++ q = numB (u64I a).toNat ++ (numB (u64I (l.length : Int)).toNat ++ (l.flatMap spB ++ q)) := by
  unfold qaP
  dsimp only
  rw [num2]
  simp only [List.append_assoc]
 have hp : (Kd.int .i64).wf (l.length : Int) := ⟨by show (-9223372036854775808 : Int) ≤ _; omega, by show (l.length : Int) ≤ 9223372036854775807; omega⟩
 rw [e, qml]
 have n1 := qiS (most := 2147483647) (by decide) ha (numB (u64I (l.length : Int)).toNat ++ (l.flatMap spB ++ q))
 have n2 := qiS (most := 2) (by decide) hp (l.flatMap spB ++ q)
 obtain ⟨i1, i2⟩ := qmq h q
 generalize numC 2147483647 (numB (u64I a).toNat ++ _, false) = S1 at n1 ⊢
 by_cases c1 : 0 ≤ a ∧ a ≤ (2147483647 : Nat)
 ·rw [if_pos c1] at n1
  subst n1
  dsimp only
  generalize numC 2 (numB (u64I (l.length : Int)).toNat ++ _, false) = S2 at n2 ⊢
  by_cases c2 : l.length ≤ 2
  ·rw [if_pos ⟨by omega, by omega⟩] at n2
   subst n2
   dsimp only
   rw [Int.toNat_natCast]
   refine ⟨fun hf => ?_, fun hf => i2 fun hx => hf ⟨⟨c1.1, by have := c1.2; exact this⟩, c2, hx⟩⟩
   rw [i1 hf.2.2, Int.toNat_of_nonneg c1.1]
  ·rw [if_neg (by omega)] at n2
   subst n2
   exact ⟨fun hf => absurd hf.2.1 c2, fun _ => (qfI.iter _).bad _ rfl⟩
 ·rw [if_neg c1] at n1
  subst n1
  refine ⟨fun hf => absurd ⟨hf.1.1, by have := hf.1.2; exact this⟩ c1, fun _ => (qfI.iter _).bad _ ((qeI 2 (by decide)).bad _ rfl)⟩
theorem quD {x : Sp} (h1 : x.2.1.1.length + x.2.1.2.length ≤ 16777216) (h2 : x.2.2.length ≤ 65536) (h32 : ∀ z ∈ x.2.2, z.length = 32) : (spB x).length ≤ 20000000 := by
 have l1 := qaS x.1
 have l2 := qbY h1
 have l3 := qaS (x.2.2.length : Int)
 have l4 := qca h32
 unfold spB
 simp only [List.length_append]
 omega
theorem qlW : ∀ l : List Sp, (∀ x ∈ l, (spB x).length ≤ 20000000) → (l.flatMap spB).length ≤ 20000000 * l.length
 | [], _ => by simp
 | x :: l, h => by
   have ih := qlW l fun z hz => h z (by simp [hz])
   have := h x (by simp)
   rw [List.flatMap_cons, List.length_append, List.length_cons]
   omega
theorem qpx {s : Sn} (hn : s.2.length ≤ 65536) (h : ∀ x ∈ s.2, (spB x).length ≤ 20000000) : (qaP s).length ≤ 20000000 * 65536 + 18 := by
 have l1 := qes s.1
 have l2 := qes (s.2.length : Int)
 have n1 := qaC (n := (u64I s.1).toNat) (by omega)
 have n2 := qaC (n := (u64I (s.2.length : Int)).toNat) (by omega)
 have := qlW s.2 h
 unfold qaP
 rw [num2, List.length_append, List.length_append]
 omega
end Go.Inc
