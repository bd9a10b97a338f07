/- S12, S13, P7. -/
import Derived.Test.YtmjjkpiglbpkhaaM6
import Derived.Test.YtmjjkpiglbpkhaaM5
import Derived.Test.YtmjjkpiglbpkhaaChecked
import Derived.Test.YtmjjkpiglbpkhaaRows
import Derived.Test.YtmjjkpiglbpkhaaM4
import Derived.WalkKit
import Derived.ProofKit
import Derived.OpenShut
import Derived.JoinedCond
import Derived.Carry
set_option linter.unusedVariables false
set_option maxRecDepth 100000
set_option maxHeartbeats 20000000
namespace Go.Proofs.Ytmjjkpiglbpkhaa
open Go Go.RowKit Go.Inc
noncomputable def qce : Ctr := ⟨[.v (.int .u64)], [.ow 5 .byte], none, fun a => (fun (a0_x : Int) => (((numB a0_x.toNat), ()), (()))) a.1⟩
noncomputable def qjj : Fx := ⟨seat, some bkT, fns, [], [], [], []⟩
def qe1 (a0_x : Int) (Q : (List UInt8) → Prop) : Prop :=
 ∃ (x0 : Int → List UInt8 → Prop), ∃ (x1 : Int → List UInt8 → Nat), x0 a0_x ([] : List UInt8) ∧ ∀ (x2 : Int) (x3 : List UInt8), x0 x2 x3 → (Kd.int IntKind.u64).wf x2 → Ty.byte.kd.sl.wf x3 → ((0 : Int) < x2 → (x3.length + (toB (IntKind.u8.wrap (x2.tmod (256 : Int))) :: ([] : List UInt8)).length) * (1 : Nat) ≤ (140737488355328 : Nat) ∧ x0 (IntKind.u64.wrap (x2.tdiv (256 : Int))) (x3 ++ toB (IntKind.u8.wrap (x2.tmod (256 : Int))) :: ([] : List UInt8)) ∧ x1 (IntKind.u64.wrap (x2.tdiv (256 : Int))) (x3 ++ toB (IntKind.u8.wrap (x2.tmod (256 : Int))) :: ([] : List UInt8)) < x1 x2 x3) ∧ (¬(0 : Int) < x2 → ∃ (x8 : List UInt8 → Int → Prop), ∃ (x9 : List UInt8 → Int → Nat), x8 (toB (IntKind.u8.wrap (x3.length : Int)) :: ([] : List UInt8)) (x3.length : Int) ∧ ∀ (x10 : List UInt8) (x11 : Int), x8 x10 x11 → Ty.byte.kd.sl.wf x10 → (Kd.int IntKind.i64).wf x11 → ((0 : Int) < x11 → ((0 : Int) ≤ IntKind.i64.wrap (x11 - (1 : Int)) ∧ IntKind.i64.wrap (x11 - (1 : Int)) < (x3.length : Int)) ∧ (x10.length + (ix x3 (IntKind.i64.wrap (x11 - (1 : Int))) :: ([] : List UInt8)).length) * (1 : Nat) ≤ (140737488355328 : Nat) ∧ x8 (x10 ++ ix x3 (IntKind.i64.wrap (x11 - (1 : Int))) :: ([] : List UInt8)) (IntKind.i64.wrap (x11 - (1 : Int))) ∧ x9 (x10 ++ ix x3 (IntKind.i64.wrap (x11 - (1 : Int))) :: ([] : List UInt8)) (IntKind.i64.wrap (x11 - (1 : Int))) < x9 x10 x11) ∧ (¬(0 : Int) < x11 → Q x10))
theorem qmF {a0_x : Int} (w_0 : (Ty.kd (.int .u64)).wf a0_x) : qe1 a0_x (fun o0 => o0 = (numB a0_x.toNat)) := by
 obtain ⟨n, rfl⟩ := Int.eq_ofNat_of_zero_le w_0.1
 have hn : n < 18446744073709551616 := by have h : (n : Int) ≤ 18446744073709551615 := w_0.2; omega
 rw [Int.toNat_natCast]
 have w64 : ∀ a : Int, -1000 ≤ a → a ≤ 1000 → IntKind.i64.wrap a = a := fun a h1 h2 => qam (wf64 (by omega) (by omega))
 unfold qe1
 refine ⟨fun x low => ∃ j : Nat, j ≤ 8 ∧ x = ((n / 2 ^ (8 * j) : Nat) : Int) ∧ low = (List.range j).map (fun i => UInt8.ofNat (n / 2 ^ (8 * i))) ∧ (j = 0 ∨ 0 < n / 2 ^ (8 * (j - 1))), fun x _ => x.toNat, ⟨0, by omega, by simp, rfl, .inl rfl⟩, ?_⟩
 rintro x low ⟨j, hj, rfl, rfl, hlow⟩ _ _
 have hdd : n / 2 ^ (8 * (j + 1)) = n / 2 ^ (8 * j) / 256 := by
  rw [Nat.div_div_eq_div_mul, show 8 * (j + 1) = 8 * j + 8 by omega, Nat.pow_add]
 refine ⟨fun hpos => ?_, fun hz => ?_⟩
 ·have hj8 : j < 8 := by
   rcases Nat.lt_or_eq_of_le hj with h | h
   ·exact h
   ·subst h
    rw [Nat.div_eq_of_lt (by simpa using hn)] at hpos
    omega
  have hle : n / 2 ^ (8 * j) ≤ n := Nat.div_le_self _ _
  have e1 : IntKind.u64.wrap (Int.tdiv ((n / 2 ^ (8 * j) : Nat) : Int) 256) = ((n / 2 ^ (8 * (j + 1)) : Nat) : Int) := by
   rw [hdd]
   clear hdd hlow hpos
   generalize n / 2 ^ (8 * j) = A at *
   rw [show (256 : Int) = ((256 : Nat) : Int) from rfl, ← Int.ofNat_tdiv, qam ⟨by show (0 : Int) ≤ _; omega, by show _ ≤ (18446744073709551615 : Int); omega⟩]
  have e2 : toB (IntKind.u8.wrap (Int.tmod ((n / 2 ^ (8 * j) : Nat) : Int) 256)) = UInt8.ofNat (n / 2 ^ (8 * j)) := by
   generalize n / 2 ^ (8 * j) = A
   rw [show (256 : Int) = ((256 : Nat) : Int) from rfl, ← Int.ofNat_tmod, qam ⟨by show (0 : Int) ≤ _; omega, by show _ ≤ (255 : Int); omega⟩]
   unfold toB
   rw [Int.toNat_natCast]
   apply UInt8.toNat_inj.1
   simp
  rw [e1, e2]
  refine ⟨by simp; omega, ⟨j + 1, by omega, rfl, by rw [List.range_succ]; simp, .inr ?_⟩, ?_⟩
  ·rw [show j + 1 - 1 = j by omega]
   clear hdd hlow e1 e2
   generalize n / 2 ^ (8 * j) = A at *
   omega
  ·show ((n / 2 ^ (8 * (j + 1)) : Nat) : Int).toNat < ((n / 2 ^ (8 * j) : Nat) : Int).toNat
   rw [hdd]
   clear hdd hlow e1 e2
   generalize n / 2 ^ (8 * j) = A at *
   omega
 ·have hz0 : n / 2 ^ (8 * j) = 0 := by
   revert hz
   generalize n / 2 ^ (8 * j) = A
   intro hz
   omega
  have hlt : n < 2 ^ (8 * j) := by
   rcases Nat.lt_or_ge n (2 ^ (8 * j)) with h | h
   ·exact h
   ·have := Nat.div_pos h (Nat.two_pow_pos (8 * j)); omega
  have hk : (blen n + 7) / 8 = j := by
   have h1 := qcE (8 * j) hlt
   rcases hlow with h | h
   ·subst h; omega
   ·have h2 : 2 ^ (8 * (j - 1)) ≤ n := by
     rcases Nat.lt_or_ge n (2 ^ (8 * (j - 1))) with hq | hq
     ·rw [Nat.div_eq_of_lt hq] at h; omega
     ·exact hq
    have h3 := Nat.lt_of_le_of_lt h2 (qpb n)
    have h4 : 8 * (j - 1) < blen n := (Nat.pow_lt_pow_iff_right (by omega)).1 h3
    rcases Nat.eq_zero_or_pos j with hj0 | hj0
    ·subst hj0; omega
    ·omega
  have hlen : ((List.range j).map (fun i => UInt8.ofNat (n / 2 ^ (8 * i)))).length = j := by simp
  have hix : ∀ i : Nat, i < j → ix ((List.range j).map (fun i => UInt8.ofNat (n / 2 ^ (8 * i)))) (i : Int) = UInt8.ofNat (n / 2 ^ (8 * i)) := fun i hi => by
   unfold ix
   simp [hi]
  have hn0 : numB n = toB (IntKind.u8.wrap (j : Int)) :: be n j := by
   unfold numB
   simp only [hk]
   congr 1
   rw [qam ⟨by show (0 : Int) ≤ _; omega, by show _ ≤ (255 : Int); omega⟩]
   unfold toB
   rw [Int.toNat_natCast]
  rw [hlen, hn0]
  refine ⟨fun out i => ∃ m : Nat, i = (m : Int) ∧ m ≤ j ∧ out ++ be n m = toB (IntKind.u8.wrap (j : Int)) :: be n j, fun _ i => i.toNat, ⟨j, rfl, by omega, rfl⟩, ?_⟩
  rintro out i ⟨m, rfl, hm, hout⟩ _ _
  have hol := congrArg List.length hout
  simp only [List.length_append, List.length_cons, qaM] at hol
  refine ⟨fun hpos => ?_, fun h0 => ?_⟩
  ·obtain ⟨m, rfl⟩ : ∃ m', m = m' + 1 := ⟨m - 1, by omega⟩
   have e : IntKind.i64.wrap (((m + 1 : Nat) : Int) - 1) = (m : Int) := by rw [w64 _ (by omega) (by omega)]; omega
   rw [e, hix m (by omega)]
   refine ⟨by omega, by simp only [List.length_cons, List.length_nil]; omega, ⟨m, rfl, by omega, ?_⟩, by show (m : Int).toNat < ((m + 1 : Nat) : Int).toNat; omega⟩
   rw [← hout]
   simp [be]
  ·have : m = 0 := by omega
   subst this
   simpa [be] using hout
theorem qmE : (∀ a, qce.pre a → PM.wfP qce.pm a (fvc qjj 200 109 qce a (eqO qce a))) = (∀ a : Int × Unit, True → (Ty.kd (.int .u64)).wf a.1 → qe1 a.1 (fun o0 => o0 = (numB (a.1).toNat))) := by kernel_rfl
theorem qjk : qce.valid Try.prog 109 := qau (X := qjj) (qaJ qal (fun b hb => by cases hb; exact qar) qas trivial) 200 (qmE.mpr fun a hp w_0 => @qmF a.1 w_0)
noncomputable def qdI : Ctr := ⟨[.v (.sl .byte), .v (.sl (.sl .byte))], [.ow 5 .byte], some (fun a => (fun (a0_b : List UInt8) (a1_l : List (List UInt8)) => (a0_b.length + qaj a1_l ≤ 140737488355328 : Prop)) a.1 a.2.1), fun a => (fun (a0_b : List UInt8) (a1_l : List (List UInt8)) => (((a0_b ++ qak a1_l), ()), (()))) a.1 a.2.1⟩
noncomputable def qlu : Fx := ⟨seat, some bkT, fns, [(109, qce)], [], [], []⟩
def qgq (a0_b : List UInt8) (a1_l : List (List UInt8)) (Q : (List UInt8) → Prop) : Prop :=
 (([] : List UInt8).length + a0_b.length) * (1 : Nat) ≤ (140737488355328 : Nat) ∧ ∃ (x0 : List UInt8 → Int → Prop), ∃ (x1 : List UInt8 → Int → Nat), x0 (([] : List UInt8) ++ a0_b) (0 : Int) ∧ ∀ (x2 : List UInt8) (x3 : Int), x0 x2 x3 → Ty.byte.kd.sl.wf x2 → (Kd.int IntKind.i64).wf x3 → (x3 < (a1_l.length : Int) → ((0 : Int) ≤ x3 ∧ x3 < (a1_l.length : Int)) ∧ (Ty.byte.kd.sl.wf (numB (IntKind.u64.wrap ((ix a1_l x3).length : Int)).toNat) → (x2.length + (numB (IntKind.u64.wrap ((ix a1_l x3).length : Int)).toNat).length) * (1 : Nat) ≤ (140737488355328 : Nat) ∧ ((0 : Int) ≤ x3 ∧ x3 < (a1_l.length : Int)) ∧ ((x2 ++ numB (IntKind.u64.wrap ((ix a1_l x3).length : Int)).toNat).length + (ix a1_l x3).length) * (1 : Nat) ≤ (140737488355328 : Nat) ∧ x3 < (9223372036854775807 : Int) ∧ x0 (x2 ++ numB (IntKind.u64.wrap ((ix a1_l x3).length : Int)).toNat ++ ix a1_l x3) (x3 + (1 : Int)) ∧ x1 (x2 ++ numB (IntKind.u64.wrap ((ix a1_l x3).length : Int)).toNat ++ ix a1_l x3) (x3 + (1 : Int)) < x1 x2 x3)) ∧ (¬x3 < (a1_l.length : Int) → Q x2)
theorem qnF {a0_b : List UInt8} {a1_l : List (List UInt8)} (w_0 : (Ty.kd (.sl .byte)).wf a0_b) (w_1 : (Ty.kd (.sl (.sl .byte))).wf a1_l) (hp : a0_b.length + qaj a1_l ≤ 140737488355328) : qgq a0_b a1_l (fun o0 => o0 = (a0_b ++ qak a1_l)) := by
 have hw : ∀ x ∈ a1_l, x.length ≤ LM := fun x hx => (w_1.2 x hx).1
 have hL : a1_l.length ≤ LM := w_1.1
 unfold LM at hL
 unfold qgq
 simp only [List.nil_append]
 refine ⟨by simp only [List.length_nil]; omega, fun out i => ∃ j : Nat, i = (j : Int) ∧ j ≤ a1_l.length ∧ out = a0_b ++ qak (a1_l.take j), fun _ i => a1_l.length - i.toNat, ⟨0, rfl, by omega, by simp [qak]⟩, ?_⟩
 rintro out i ⟨j, rfl, hj, rfl⟩ _ _
 refine ⟨fun hlt => ?_, fun hge => ?_⟩
 ·have h1 := qbq (a1_l.take j) (fun y hy => by have := hw y (List.mem_of_mem_take hy); unfold LM at this; omega)
  have h2 := qc8 hlt
  have h3 := hw _ (qd5 (by omega) hlt)
  have h4 : IntKind.u64.wrap ((ix a1_l (j : Int)).length : Int) = ((ix a1_l (j : Int)).length : Int) := qam ⟨by show (0 : Int) ≤ _; omega, by unfold LM at h3; show _ ≤ (18446744073709551615 : Int); omega⟩
  have h5 := qaC (n := (ix a1_l (j : Int)).length) (by unfold LM at h3; omega)
  rw [h4, Int.toNat_natCast]
  refine ⟨⟨by omega, hlt⟩, fun _ => ⟨?_, ⟨by omega, hlt⟩, ?_, by omega, ⟨j + 1, by omega, by omega, ?_⟩, ?_⟩⟩
  ·simp only [List.length_append]; omega
  ·simp only [List.length_append]; omega
  ·rw [qbf hlt]
   simp [qak]
  ·show a1_l.length - ((j : Int) + 1).toNat < a1_l.length - (j : Int).toNat
   omega
 ·have : j = a1_l.length := by omega
  subst this
  rw [List.take_length]
theorem qnE : (∀ a, qdI.pre a → PM.wfP qdI.pm a (fvc qlu 200 96 qdI a (eqO qdI a))) = (∀ a : (List UInt8) × (List (List UInt8)) × Unit, ((a.1).length + qaj (a.2.1) ≤ 140737488355328) → (Ty.kd (.sl .byte)).wf a.1 → (Ty.kd (.sl (.sl .byte))).wf a.2.1 → qgq a.1 a.2.1 (fun o0 => o0 = ((a.1) ++ qak (a.2.1)))) := by kernel_rfl
theorem qql : qdI.valid Try.prog 96 := qau (X := qlu) (qaJ qal (fun b hb => by cases hb; exact qar) qas ⟨qjk, trivial⟩) 200 (qnE.mpr fun a hp w_0 w_1 => @qnF a.1 a.2.1 w_0 w_1 hp)
noncomputable def qe2 : Ctr := ⟨[.v (.sl .byte), .v (.sl (.int .u64))], [.ow 5 .byte], some (fun a => (fun (a0_b : List UInt8) (a1_l : List Int) => (a0_b.length + 9 * a1_l.length ≤ 140737488355328 : Prop)) a.1 a.2.1), fun a => (fun (a0_b : List UInt8) (a1_l : List Int) => (((a0_b ++ qaf a1_l), ()), (()))) a.1 a.2.1⟩
noncomputable def qnI : Fx := ⟨seat, some bkT, fns, [(109, qce)], [], [], []⟩
def qia (a0_b : List UInt8) (a1_l : List Int) (Q : (List UInt8) → Prop) : Prop :=
 (([] : List UInt8).length + a0_b.length) * (1 : Nat) ≤ (140737488355328 : Nat) ∧ ∃ (x0 : List UInt8 → Int → Prop), ∃ (x1 : List UInt8 → Int → Nat), x0 (([] : List UInt8) ++ a0_b) (0 : Int) ∧ ∀ (x2 : List UInt8) (x3 : Int), x0 x2 x3 → Ty.byte.kd.sl.wf x2 → (Kd.int IntKind.i64).wf x3 → (x3 < (a1_l.length : Int) → ((0 : Int) ≤ x3 ∧ x3 < (a1_l.length : Int)) ∧ (Ty.byte.kd.sl.wf (numB (ix a1_l x3).toNat) → (x2.length + (numB (ix a1_l x3).toNat).length) * (1 : Nat) ≤ (140737488355328 : Nat) ∧ x3 < (9223372036854775807 : Int) ∧ x0 (x2 ++ numB (ix a1_l x3).toNat) (x3 + (1 : Int)) ∧ x1 (x2 ++ numB (ix a1_l x3).toNat) (x3 + (1 : Int)) < x1 x2 x3)) ∧ (¬x3 < (a1_l.length : Int) → Q x2)
theorem qqp {a0_b : List UInt8} {a1_l : List Int} (w_0 : (Ty.kd (.sl .byte)).wf a0_b) (w_1 : (Ty.kd (.sl (.int .u64))).wf a1_l) (hp : a0_b.length + 9 * a1_l.length ≤ 140737488355328) : qia a0_b a1_l (fun o0 => o0 = (a0_b ++ qaf a1_l)) := by
 have hw : ∀ x ∈ a1_l, x.toNat < 2 ^ 64 := fun x hx => by
  have := (w_1.2 x hx).2
  have h : x ≤ 18446744073709551615 := this
  omega
 have hL : a1_l.length ≤ LM := w_1.1
 unfold LM at hL
 have hlen : ∀ j, j ≤ a1_l.length → (qaf (a1_l.take j)).length ≤ 9 * j := by
  intro j
  induction j with
  | zero => intro _; simp [qaf]
  | succ j ih =>
    intro hj
    have h1 := ih (by omega)
    have h2 := qaC (hw _ (qd5 (l := a1_l) (i := (j : Int)) (by omega) (by omega)))
    rw [qbf (by omega)]
    unfold qaf at *
    simp only [List.flatMap_append, List.length_append, List.flatMap_cons, List.flatMap_nil, List.length_nil]
    omega
 unfold qia
 refine ⟨by simp only [List.length_nil]; omega, fun out i => ∃ j : Nat, i = (j : Int) ∧ j ≤ a1_l.length ∧ out = a0_b ++ qaf (a1_l.take j), fun _ i => a1_l.length - i.toNat, ⟨0, rfl, by omega, by simp [qaf]⟩, ?_⟩
 rintro out i ⟨j, rfl, hj, rfl⟩ _ _
 refine ⟨fun hlt => ⟨⟨by omega, hlt⟩, fun _ => ?_⟩, fun hge => ?_⟩
 ·have h1 := hlen j hj
  have h2 := qaC (hw _ (qd5 (l := a1_l) (i := (j : Int)) (by omega) hlt))
  refine ⟨by simp only [List.length_append]; omega, by omega, ⟨j + 1, by omega, by omega, ?_⟩, ?_⟩
  ·rw [qbf hlt]
   simp [qaf]
  ·show a1_l.length - ((j : Int) + 1).toNat < a1_l.length - (j : Int).toNat
   omega
 ·have : j = a1_l.length := by omega
  subst this
  rw [List.take_length]
theorem qqo : (∀ a, qe2.pre a → PM.wfP qe2.pm a (fvc qnI 200 65 qe2 a (eqO qe2 a))) = (∀ a : (List UInt8) × (List Int) × Unit, ((a.1).length + 9 * (a.2.1).length ≤ 140737488355328) → (Ty.kd (.sl .byte)).wf a.1 → (Ty.kd (.sl (.int .u64))).wf a.2.1 → qia a.1 a.2.1 (fun o0 => o0 = ((a.1) ++ qaf (a.2.1)))) := by kernel_rfl
theorem qtl : qe2.valid Try.prog 65 := qau (X := qnI) (qaJ qal (fun b hb => by cases hb; exact qar) qas ⟨qjk, trivial⟩) 200 (qqo.mpr fun a hp w_0 w_1 => @qqp a.1 a.2.1 w_0 w_1 hp)
noncomputable def qe5 : Ctr := ⟨[.v (.sl .byte), .v (.sl (.arr 32 .byte))], [.ow 5 .byte], some (fun a => (fun (a0_b : List UInt8) (a1_l : List (List UInt8)) => (a0_b.length + 32 * a1_l.length ≤ 140737488355328 ∧ ∀ x ∈ a1_l, x.length = 32 : Prop)) a.1 a.2.1), fun a => (fun (a0_b : List UInt8) (a1_l : List (List UInt8)) => (((a0_b ++ a1_l.flatten), ()), (()))) a.1 a.2.1⟩
noncomputable def qnO : Fx := ⟨seat, some bkT, fns, [], [], [], []⟩
def qic (a0_b : List UInt8) (a1_l : List (List UInt8)) (Q : (List UInt8) → Prop) : Prop :=
 (([] : List UInt8).length + a0_b.length) * (1 : Nat) ≤ (140737488355328 : Nat) ∧ ∃ (x0 : List UInt8 → Int → Prop), ∃ (x1 : List UInt8 → Int → Nat), x0 (([] : List UInt8) ++ a0_b) (0 : Int) ∧ ∀ (x2 : List UInt8) (x3 : Int), x0 x2 x3 → Ty.byte.kd.sl.wf x2 → (Kd.int IntKind.i64).wf x3 → (x3 < (a1_l.length : Int) → ∃ (x8 : List UInt8 → Int → Prop), ∃ (x9 : List UInt8 → Int → Nat), x8 x2 (0 : Int) ∧ ∀ (x10 : List UInt8) (x11 : Int), x8 x10 x11 → Ty.byte.kd.sl.wf x10 → (Kd.int IntKind.i64).wf x11 → (x11 < (32 : Int) → ((0 : Int) ≤ x3 ∧ x3 < (a1_l.length : Int)) ∧ ((0 : Int) ≤ x11 ∧ x11 < ((32 : Nat) : Int)) ∧ (x10.length + (ix (ix a1_l x3) x11 :: ([] : List UInt8)).length) * (1 : Nat) ≤ (140737488355328 : Nat) ∧ x11 < (9223372036854775807 : Int) ∧ x8 (x10 ++ ix (ix a1_l x3) x11 :: ([] : List UInt8)) (x11 + (1 : Int)) ∧ x9 (x10 ++ ix (ix a1_l x3) x11 :: ([] : List UInt8)) (x11 + (1 : Int)) < x9 x10 x11) ∧ (¬x11 < (32 : Int) → x3 < (9223372036854775807 : Int) ∧ x0 x10 (x3 + (1 : Int)) ∧ x1 x10 (x3 + (1 : Int)) < x1 x2 x3)) ∧ (¬x3 < (a1_l.length : Int) → Q x2)
theorem qqv {a0_b : List UInt8} {a1_l : List (List UInt8)} (w_0 : (Ty.kd (.sl .byte)).wf a0_b) (w_1 : (Ty.kd (.sl (.arr 32 .byte))).wf a1_l) (hp : a0_b.length + 32 * a1_l.length ≤ 140737488355328 ∧ ∀ x ∈ a1_l, x.length = 32) : qic a0_b a1_l (fun o0 => o0 = (a0_b ++ a1_l.flatten)) := by
 have hL : a1_l.length ≤ LM := w_1.1
 unfold LM at hL
 have h32 := hp.2
 have hp1 := hp.1
 have hlen : ∀ j, j ≤ a1_l.length → (a1_l.take j).flatten.length = 32 * j := by
  intro j
  induction j with
  | zero => intro _; rfl
  | succ j ih =>
    intro hj
    rw [qci (by omega), List.length_append, ih (by omega), h32 _ (qd5 (by omega) (by omega))]
    omega
 unfold qic
 refine ⟨by simp only [List.length_nil]; omega, fun out i => ∃ j : Nat, i = (j : Int) ∧ j ≤ a1_l.length ∧ out = a0_b ++ (a1_l.take j).flatten, fun _ i => a1_l.length - i.toNat, ⟨0, rfl, by omega, by simp⟩, ?_⟩
 rintro out i ⟨j, rfl, hj, rfl⟩ _ _
 refine ⟨fun hlt => ?_, fun hge => ?_⟩
 ·have hx := h32 _ (qd5 (l := a1_l) (by omega) hlt)
  have h1 := hlen j hj
  refine ⟨fun o k => ∃ q : Nat, k = (q : Int) ∧ q ≤ 32 ∧ o = a0_b ++ (a1_l.take j).flatten ++ (ix a1_l (j : Int)).take q, fun _ k => 32 - k.toNat, ⟨0, rfl, by omega, by simp⟩, ?_⟩
  rintro o k ⟨q, rfl, hq, rfl⟩ _ _
  refine ⟨fun hk => ⟨⟨by omega, hlt⟩, ⟨by omega, by omega⟩, ?_, by omega, ⟨q + 1, by omega, by omega, ?_⟩, ?_⟩, fun hk => ⟨by omega, ⟨j + 1, by omega, by omega, ?_⟩, ?_⟩⟩
  ·simp only [List.length_append, List.length_take, List.length_cons, List.length_nil]
   omega
  ·rw [qbf (l := ix a1_l (j : Int)) (by omega)]
   simp
  ·show 32 - ((q : Int) + 1).toNat < 32 - (q : Int).toNat
   omega
  ·have : q = 32 := by omega
   subst this
   rw [qci hlt, List.take_of_length_le (l := ix a1_l (j : Int)) (by omega)]
   simp
  ·show a1_l.length - ((j : Int) + 1).toNat < a1_l.length - (j : Int).toNat
   omega
 ·have : j = a1_l.length := by omega
  subst this
  rw [List.take_length]
theorem qqu : (∀ a, qe5.pre a → PM.wfP qe5.pm a (fvc qnO 200 66 qe5 a (eqO qe5 a))) = (∀ a : (List UInt8) × (List (List UInt8)) × Unit, ((a.1).length + 32 * (a.2.1).length ≤ 140737488355328 ∧ ∀ x ∈ (a.2.1), x.length = 32) → (Ty.kd (.sl .byte)).wf a.1 → (Ty.kd (.sl (.arr 32 .byte))).wf a.2.1 → qic a.1 a.2.1 (fun o0 => o0 = ((a.1) ++ (a.2.1).flatten))) := by kernel_rfl
theorem qtn : qe5.valid Try.prog 66 := qau (X := qnO) (qaJ qal (fun b hb => by cases hb; exact qar) qas trivial) 200 (qqu.mpr fun a hp w_0 w_1 => @qqv a.1 a.2.1 w_0 w_1 hp)
noncomputable def qcO : Ctr := ⟨[.v (.pr (.int .i64) (.sl (.pr (.int .i64) (.pr (.pr (.sl .byte) (.sl .byte)) (.sl (.arr 32 .byte))))))], [.ow 5 .byte], some (fun a => (fun (a0_s : Int × List (Int × ((List UInt8) × List UInt8) × List (List UInt8))) => (a0_s.2.length ≤ 65536 ∧ (∀ x ∈ a0_s.2, x.2.1.1.length + x.2.1.2.length ≤ 16777216 ∧ x.2.2.length ≤ 65536) : Prop)) a.1), fun a => (fun (a0_s : Int × List (Int × ((List UInt8) × List UInt8) × List (List UInt8))) => (((qaP a0_s), ()), (()))) a.1⟩
noncomputable def qjl : Fx := ⟨seat, some bkT, fns, [(65, qe2), (96, qdI), (66, qe5)], [], [], []⟩
def qe7 (a0_s : Int × List (Int × ((List UInt8) × List UInt8) × List (List UInt8))) (Q : (List UInt8) → Prop) : Prop :=
 ([] : List UInt8).length + (9 : Nat) * (IntKind.u64.wrap a0_s.fst :: IntKind.u64.wrap (a0_s.snd.length : Int) :: ([] : List Int)).length ≤ (140737488355328 : Nat) ∧ (Ty.byte.kd.sl.wf (([] : List UInt8) ++ qaf (IntKind.u64.wrap a0_s.fst :: IntKind.u64.wrap (a0_s.snd.length : Int) :: ([] : List Int))) → ∃ (x0 : List UInt8 → Int → Prop), ∃ (x1 : List UInt8 → Int → Nat), x0 (([] : List UInt8) ++ qaf (IntKind.u64.wrap a0_s.fst :: IntKind.u64.wrap (a0_s.snd.length : Int) :: ([] : List Int))) (0 : Int) ∧ ∀ (x2 : List UInt8) (x3 : Int), x0 x2 x3 → Ty.byte.kd.sl.wf x2 → (Kd.int IntKind.i64).wf x3 → (x3 < (a0_s.snd.length : Int) → ((0 : Int) ≤ x3 ∧ x3 < (a0_s.snd.length : Int)) ∧ x2.length + (9 : Nat) * (IntKind.u64.wrap (ix a0_s.snd x3).fst :: ([] : List Int)).length ≤ (140737488355328 : Nat) ∧ (Ty.byte.kd.sl.wf (x2 ++ qaf (IntKind.u64.wrap (ix a0_s.snd x3).fst :: ([] : List Int))) → (x2 ++ qaf (IntKind.u64.wrap (ix a0_s.snd x3).fst :: ([] : List Int))).length + qaj ((ix a0_s.snd x3).snd.fst.fst :: (ix a0_s.snd x3).snd.fst.snd :: ([] : List (List UInt8))) ≤ (140737488355328 : Nat) ∧ (Ty.byte.kd.sl.wf (x2 ++ qaf (IntKind.u64.wrap (ix a0_s.snd x3).fst :: ([] : List Int)) ++ qak ((ix a0_s.snd x3).snd.fst.fst :: (ix a0_s.snd x3).snd.fst.snd :: ([] : List (List UInt8)))) → (x2 ++ qaf (IntKind.u64.wrap (ix a0_s.snd x3).fst :: ([] : List Int)) ++ qak ((ix a0_s.snd x3).snd.fst.fst :: (ix a0_s.snd x3).snd.fst.snd :: ([] : List (List UInt8)))).length + (9 : Nat) * (IntKind.u64.wrap ((ix a0_s.snd x3).snd.snd.length : Int) :: ([] : List Int)).length ≤ (140737488355328 : Nat) ∧ (Ty.byte.kd.sl.wf (x2 ++ qaf (IntKind.u64.wrap (ix a0_s.snd x3).fst :: ([] : List Int)) ++ qak ((ix a0_s.snd x3).snd.fst.fst :: (ix a0_s.snd x3).snd.fst.snd :: ([] : List (List UInt8))) ++ qaf (IntKind.u64.wrap ((ix a0_s.snd x3).snd.snd.length : Int) :: ([] : List Int))) → ((x2 ++ qaf (IntKind.u64.wrap (ix a0_s.snd x3).fst :: ([] : List Int)) ++ qak ((ix a0_s.snd x3).snd.fst.fst :: (ix a0_s.snd x3).snd.fst.snd :: ([] : List (List UInt8))) ++ qaf (IntKind.u64.wrap ((ix a0_s.snd x3).snd.snd.length : Int) :: ([] : List Int))).length + (32 : Nat) * (ix a0_s.snd x3).snd.snd.length ≤ (140737488355328 : Nat) ∧ ∀ (x11 : List UInt8), x11 ∈ (ix a0_s.snd x3).snd.snd → x11.length = (32 : Nat)) ∧ (Ty.byte.kd.sl.wf (x2 ++ qaf (IntKind.u64.wrap (ix a0_s.snd x3).fst :: ([] : List Int)) ++ qak ((ix a0_s.snd x3).snd.fst.fst :: (ix a0_s.snd x3).snd.fst.snd :: ([] : List (List UInt8))) ++ qaf (IntKind.u64.wrap ((ix a0_s.snd x3).snd.snd.length : Int) :: ([] : List Int)) ++ (ix a0_s.snd x3).snd.snd.flatten) → x3 < (9223372036854775807 : Int) ∧ x0 (x2 ++ qaf (IntKind.u64.wrap (ix a0_s.snd x3).fst :: ([] : List Int)) ++ qak ((ix a0_s.snd x3).snd.fst.fst :: (ix a0_s.snd x3).snd.fst.snd :: ([] : List (List UInt8))) ++ qaf (IntKind.u64.wrap ((ix a0_s.snd x3).snd.snd.length : Int) :: ([] : List Int)) ++ (ix a0_s.snd x3).snd.snd.flatten) (x3 + (1 : Int)) ∧ x1 (x2 ++ qaf (IntKind.u64.wrap (ix a0_s.snd x3).fst :: ([] : List Int)) ++ qak ((ix a0_s.snd x3).snd.fst.fst :: (ix a0_s.snd x3).snd.fst.snd :: ([] : List (List UInt8))) ++ qaf (IntKind.u64.wrap ((ix a0_s.snd x3).snd.snd.length : Int) :: ([] : List Int)) ++ (ix a0_s.snd x3).snd.snd.flatten) (x3 + (1 : Int)) < x1 x2 x3))))) ∧ (¬x3 < (a0_s.snd.length : Int) → Q x2))
theorem qmJ {a0_s : Int × List (Int × ((List UInt8) × List UInt8) × List (List UInt8))} (w_0 : (Ty.kd (.pr (.int .i64) (.sl (.pr (.int .i64) (.pr (.pr (.sl .byte) (.sl .byte)) (.sl (.arr 32 .byte))))))).wf a0_s) (hp : a0_s.2.length ≤ 65536 ∧ (∀ x ∈ a0_s.2, x.2.1.1.length + x.2.1.2.length ≤ 16777216 ∧ x.2.2.length ≤ 65536)) : qe7 a0_s (fun o0 => o0 = (qaP a0_s)) := by
 obtain ⟨hn, hs⟩ := hp
 have hw := w_0.2.2
 unfold qe7
 have sp : ∀ x ∈ a0_s.2, (spB x).length ≤ 20000000 := fun x hx => by
  obtain ⟨h1, h2⟩ := hs x hx
  have h32 : ∀ z ∈ x.2.2, z.length = 32 := fun z hz => ((hw x hx).2.2.2 z hz).1
  have l1 := qaS x.1
  have l2 := qbY h1
  have l3 := qaS (x.2.2.length : Int)
  have l4 := qca h32
  unfold spB
  simp only [List.length_append]
  omega
 have fl : ∀ l : List Sp, (∀ x ∈ l, (spB x).length ≤ 20000000) → (l.flatMap spB).length ≤ 20000000 * l.length := fun l => by
  induction l with
  | nil => intro _; simp
  | cons x l ih =>
    intro h
    rw [List.flatMap_cons, List.length_append, List.length_cons]
    have := h x (by simp)
    have := ih fun z hz => h z (by simp [hz])
    omega
 have hd : (qaf [u64I a0_s.1, u64I a0_s.2.length]).length ≤ 18 := by
  have l1 := qes a0_s.1
  have l2 := qes (a0_s.2.length : Int)
  have n1 := qaC (n := (u64I a0_s.1).toNat) (by omega)
  have n2 := qaC (n := (u64I (a0_s.2.length : Int)).toNat) (by omega)
  rw [num2, List.length_append]
  omega
 refine ⟨by simp, fun _ => ⟨fun o i => ∃ j : Nat, i = (j : Int) ∧ j ≤ a0_s.2.length ∧ o = ([] : List UInt8) ++ (qaf [u64I a0_s.1, u64I a0_s.2.length] ++ (a0_s.2.take j).flatMap spB), fun _ i => ((a0_s.2.length : Int) - i).toNat, ⟨0, rfl, Nat.zero_le _, by simp [u64I]⟩, ?_⟩⟩
 rintro _ _ ⟨j, rfl, hj, rfl⟩ _ _
 have tl : ((a0_s.2.take j).flatMap spB).length ≤ 20000000 * 65536 := by
  have := fl (a0_s.2.take j) fun x hx => sp x (List.mem_of_mem_take hx)
  have h3 : (a0_s.2.take j).length ≤ 65536 := by rw [List.length_take]; omega
  omega
 refine ⟨fun hlt => ?_, fun hge => ?_⟩
 ·have hj' : j < a0_s.2.length := by omega
  have eix : ix a0_s.2 (j : Int) = a0_s.2[j] := ixN hj'
  have hm := List.getElem_mem hj'
  obtain ⟨h1, h2⟩ := hs _ hm
  have h32 : ∀ z ∈ a0_s.2[j].2.2, z.length = 32 := fun z hz => ((hw _ hm).2.2.2 z hz).1
  have l1 := qaS a0_s.2[j].1
  have l2 := qbY h1
  have l3 := qaS (a0_s.2[j].2.2.length : Int)
  have l4 := qca h32
  have eo : (a0_s.2.take (j + 1)).flatMap spB = (a0_s.2.take j).flatMap spB ++ spB a0_s.2[j] := by
   rw [List.take_add_one, List.getElem?_eq_getElem hj', List.flatMap_append]
   simp
  have hr : qaj [a0_s.2[j].2.1.1, a0_s.2[j].2.1.2] = a0_s.2[j].2.1.1.length + a0_s.2[j].2.1.2.length + 18 := by
   show (a0_s.2[j].2.1.1.length + 9) + ((a0_s.2[j].2.1.2.length + 9) + 0) = _
   omega
  simp only [eix]
  have u : ∀ a : Int, IntKind.u64.wrap a = u64I a := fun _ => rfl
  simp only [u, hr]
  have b : (0 : Int) ≤ (j : Int) ∧ (j : Int) < (a0_s.2.length : Int) := ⟨by omega, hlt⟩
  have last : (j : Int) < 9223372036854775807 ∧ (∃ i : Nat, (j : Int) + 1 = (i : Int) ∧ i ≤ a0_s.2.length ∧ ([] : List UInt8) ++ (qaf [u64I a0_s.1, u64I a0_s.2.length] ++ (a0_s.2.take j).flatMap spB) ++ qaf [u64I a0_s.2[j].1] ++ qak [a0_s.2[j].2.1.1, a0_s.2[j].2.1.2] ++ qaf [u64I (a0_s.2[j].2.2.length : Int)] ++ a0_s.2[j].2.2.flatten = ([] : List UInt8) ++ (qaf [u64I a0_s.1, u64I a0_s.2.length] ++ (a0_s.2.take i).flatMap spB)) ∧ ((a0_s.2.length : Int) - ((j : Int) + 1)).toNat < ((a0_s.2.length : Int) - (j : Int)).toNat := by
   refine ⟨by omega, ⟨j + 1, rfl, hj', ?_⟩, by omega⟩
   rw [eo]
   unfold spB
   simp only [List.append_assoc]
  repeat' (first | (with_reducible exact b) | (with_reducible exact trivial) | (with_reducible exact last) | (with_reducible exact h32) | (intro _) | (with_reducible apply And.intro) | (simp only [List.length_append, List.length_cons, List.length_nil]; omega))
 ·obtain rfl : j = a0_s.2.length := by omega
  show ([] : List UInt8) ++ (qaf [u64I a0_s.1, u64I a0_s.2.length] ++ (a0_s.2.take a0_s.2.length).flatMap spB) = qaP a0_s
  rw [List.take_length, List.nil_append]
  rfl
theorem qmI : (∀ a, qcO.pre a → PM.wfP qcO.pm a (fvc qjl 200 46 qcO a (eqO qcO a))) = (∀ a : (Int × List (Int × ((List UInt8) × List UInt8) × List (List UInt8))) × Unit, ((a.1).2.length ≤ 65536 ∧ (∀ x ∈ (a.1).2, x.2.1.1.length + x.2.1.2.length ≤ 16777216 ∧ x.2.2.length ≤ 65536)) → (Ty.kd (.pr (.int .i64) (.sl (.pr (.int .i64) (.pr (.pr (.sl .byte) (.sl .byte)) (.sl (.arr 32 .byte))))))).wf a.1 → qe7 a.1 (fun o0 => o0 = (qaP (a.1)))) := by kernel_rfl
theorem qnU : qcO.valid Try.prog 46 := qau (X := qjl) (qaJ qal (fun b hb => by cases hb; exact qar) qas ⟨qtl, qql, qtn, trivial⟩) 200 (qmI.mpr fun a hp w_0 => @qmJ a.1 w_0 hp)
noncomputable def qhx : Ctr := ⟨[.v (.pr (.int .i64) (.sl (.pr (.int .i64) (.pr (.pr (.sl .byte) (.sl .byte)) (.sl (.arr 32 .byte))))))], [.v .bool], none, fun a => (fun (a0_s : Int × List (Int × ((List UInt8) × List UInt8) × List (List UInt8))) => ((decide (fitS a0_s), ()), (()))) a.1⟩
noncomputable def qsi : Fx := ⟨seat, some bkT, fns, [], [], [], []⟩
def qkl (a0_s : Int × List (Int × ((List UInt8) × List UInt8) × List (List UInt8))) (Q : Bool → Prop) : Prop :=
 (a0_s.fst < (0 : Int) → Q false) ∧ (¬a0_s.fst < (0 : Int) → ((2147483647 : Int) < a0_s.fst → Q false) ∧ (¬(2147483647 : Int) < a0_s.fst → ((2 : Int) < (a0_s.snd.length : Int) → Q false) ∧ (¬(2 : Int) < (a0_s.snd.length : Int) → ∃ (x0 : Bool → Int → Prop), ∃ (x1 : Bool → Int → Nat), x0 false (0 : Int) ∧ ∀ (x2 : Bool) (x3 : Int), x0 x2 x3 → (Kd.int IntKind.i64).wf x3 → (x3 < (a0_s.snd.length : Int) → ((0 : Int) ≤ x3 ∧ x3 < (a0_s.snd.length : Int)) ∧ ((ix a0_s.snd x3).fst < (0 : Int) → Q false) ∧ (¬(ix a0_s.snd x3).fst < (0 : Int) → ((2147483647 : Int) < (ix a0_s.snd x3).fst → Q false) ∧ (¬(2147483647 : Int) < (ix a0_s.snd x3).fst → ((256 : Int) < ((ix a0_s.snd x3).snd.fst.fst.length : Int) → Q false) ∧ (¬(256 : Int) < ((ix a0_s.snd x3).snd.fst.fst.length : Int) → ((1048576 : Int) < ((ix a0_s.snd x3).snd.fst.snd.length : Int) → Q false) ∧ (¬(1048576 : Int) < ((ix a0_s.snd x3).snd.fst.snd.length : Int) → ((32 : Int) < ((ix a0_s.snd x3).snd.snd.length : Int) → Q false) ∧ (¬(32 : Int) < ((ix a0_s.snd x3).snd.snd.length : Int) → x3 < (9223372036854775807 : Int) ∧ x0 x2 (x3 + (1 : Int)) ∧ x1 x2 (x3 + (1 : Int)) < x1 x2 x3)))))) ∧ (¬x3 < (a0_s.snd.length : Int) → Q true))))
theorem qtk {a0_s : Int × List (Int × ((List UInt8) × List UInt8) × List (List UInt8))} (w_0 : (Ty.kd (.pr (.int .i64) (.sl (.pr (.int .i64) (.pr (.pr (.sl .byte) (.sl .byte)) (.sl (.arr 32 .byte))))))).wf a0_s) : qkl a0_s (fun o0 => o0 = decide (fitS a0_s)) := by
 unfold qkl
 have no : ¬ fitS a0_s → false = decide (fitS a0_s) := fun h => (decide_eq_false h).symm
 refine ⟨fun h => no fun f => ?_, fun h1 => ⟨fun h => no fun f => ?_, fun h2 => ⟨fun h => no fun f => ?_, fun h3 => ?_⟩⟩⟩
 ·have := f.1.1; omega
 ·have := f.1.2; omega
 ·have := f.2.1; omega
 refine ⟨fun _ i => ∃ j : Nat, i = (j : Int) ∧ j ≤ a0_s.2.length ∧ ∀ x ∈ a0_s.2.take j, qgJ x, fun _ i => ((a0_s.2.length : Int) - i).toNat, ⟨0, rfl, Nat.zero_le _, fun x hx => by simp at hx⟩, ?_⟩
 rintro _ _ ⟨j, rfl, hj, hI⟩ _
 refine ⟨fun hlt => ?_, fun hge => ?_⟩
 ·have hj' : j < a0_s.2.length := by omega
  have eix : ix a0_s.2 (j : Int) = a0_s.2[j] := ixN hj'
  have hm := List.getElem_mem hj'
  simp only [eix]
  have no' : ¬ qgJ a0_s.2[j] → false = decide (fitS a0_s) := fun h => no fun f => h (f.2.2 _ hm)
  refine ⟨⟨by omega, by omega⟩, fun h => no' fun f => ?_, fun g1 => ⟨fun h => no' fun f => ?_, fun g2 => ⟨fun h => no' fun f => ?_, fun g3 => ⟨fun h => no' fun f => ?_, fun g4 => ⟨fun h => no' fun f => ?_, fun g5 => ⟨by omega, ⟨j + 1, rfl, hj', fun x hx => ?_⟩, by omega⟩⟩⟩⟩⟩⟩
  ·have := f.1.1; omega
  ·have := f.1.2; omega
  ·have := f.2.1; omega
  ·have := f.2.2.1; omega
  ·have := f.2.2.2; omega
  ·rw [List.take_add_one, List.getElem?_eq_getElem hj'] at hx
   rcases List.mem_append.1 hx with hx | hx
   ·exact hI x hx
   ·obtain rfl : x = a0_s.2[j] := by simpa using hx
    exact ⟨⟨by omega, by omega⟩, by omega, by omega, by omega⟩
 ·obtain rfl : j = a0_s.2.length := by omega
  rw [List.take_length] at hI
  exact (decide_eq_true (show fitS a0_s from ⟨⟨by omega, by omega⟩, by omega, hI⟩)).symm
theorem qtj : (∀ a, qhx.pre a → PM.wfP qhx.pm a (fvc qsi 200 48 qhx a (eqO qhx a))) = (∀ a : (Int × List (Int × ((List UInt8) × List UInt8) × List (List UInt8))) × Unit, True → (Ty.kd (.pr (.int .i64) (.sl (.pr (.int .i64) (.pr (.pr (.sl .byte) (.sl .byte)) (.sl (.arr 32 .byte))))))).wf a.1 → qkl a.1 (fun o0 => o0 = decide (fitS (a.1)))) := by kernel_rfl
theorem qvi : qhx.valid Try.prog 48 := qau (X := qsi) (qaJ qal (fun b hb => by cases hb; exact qar) qas trivial) 200 (qtj.mpr fun a hp w_0 => @qtk a.1 w_0)
end Go.Proofs.Ytmjjkpiglbpkhaa

set_option linter.unusedVariables false
set_option maxRecDepth 100000
set_option maxHeartbeats 20000000
namespace Go.Proofs.Ytmjjkpiglbpkhaa
open Go Go.RowKit Go.Inc
noncomputable def qdJ : Ctr := ⟨[.v (.sl (.pr (.sl .byte) (.sl .byte)))], [.ow 57 (.pr (.sl .byte) (.sl .byte))], some (fun a => (fun (a0_l : List ((List UInt8) × List UInt8)) => (a0_l.length ≤ 65536 ∧ (∀ p ∈ a0_l, p.1.length + p.2.length ≤ 35184372088832) : Prop)) a.1), fun a => (fun (a0_l : List ((List UInt8) × List UInt8)) => ((a0_l, ()), (()))) a.1⟩
noncomputable def qlv : Fx := ⟨seat, some bkT, fns, [], [], [], [(5, [1], [.o 0 3, .o 2 3, .o 3 3, .o 4 3, .o 5 3, .o 6 3, .o 9 3, .o 10 3, .o 11 3, .o 12 3, .o 13 3, .par [1, 7, 8] (.alt 1 1 (.alt 7 1 (.one 8 1 .fin) (.alt 8 1 (.one 7 1 .fin) .fin)) (.alt 8 1 (.one 1 1 (.one 7 1 .fin)) .fin)), .o 14 1, .o 15 3, .o 16 1, .o 17 1, .o 18 3])]⟩
def qgr (a0_l : List ((List UInt8) × List UInt8)) (Q : (List ((List UInt8) × List UInt8)) → Prop) : Prop :=
 ∃ (x0 : List (List UInt8 × List UInt8) → Int → Prop), ∃ (x1 : List (List UInt8 × List UInt8) → Int → Nat), x0 ([] : List (List UInt8 × List UInt8)) (0 : Int) ∧ ∀ (x2 : List (List UInt8 × List UInt8)) (x3 : Int), x0 x2 x3 → (Ty.byte.sl.pr Ty.byte.sl).kd.sl.wf x2 → (Kd.int IntKind.i64).wf x3 → (x3 < (a0_l.length : Int) → ((0 : Int) ≤ x3 ∧ x3 < (a0_l.length : Int)) ∧ ((0 : Int) ≤ x3 ∧ x3 < (a0_l.length : Int)) ∧ (((([] : List UInt8).length + (ix a0_l x3).fst.length) * (1 : Nat) ≤ (140737488355328 : Nat) ∧ (([] : List UInt8).length + (ix a0_l x3).snd.length) * (1 : Nat) ≤ (140737488355328 : Nat) ∧ (x2.length + ((([] : List UInt8) ++ (ix a0_l x3).fst, ([] : List UInt8) ++ (ix a0_l x3).snd) :: ([] : List (List UInt8 × List UInt8))).length) * (48 : Nat) ≤ (140737488355328 : Nat) ∧ x3 < (9223372036854775807 : Int) ∧ x0 (x2 ++ (([] : List UInt8) ++ (ix a0_l x3).fst, ([] : List UInt8) ++ (ix a0_l x3).snd) :: ([] : List (List UInt8 × List UInt8))) (x3 + (1 : Int)) ∧ x1 (x2 ++ (([] : List UInt8) ++ (ix a0_l x3).fst, ([] : List UInt8) ++ (ix a0_l x3).snd) :: ([] : List (List UInt8 × List UInt8))) (x3 + (1 : Int)) < x1 x2 x3) ∧ ((([] : List UInt8).length + (ix a0_l x3).fst.length) * (1 : Nat) ≤ (140737488355328 : Nat) ∧ (([] : List UInt8).length + (ix a0_l x3).snd.length) * (1 : Nat) ≤ (140737488355328 : Nat) ∧ (x2.length + ((([] : List UInt8) ++ (ix a0_l x3).fst, ([] : List UInt8) ++ (ix a0_l x3).snd) :: ([] : List (List UInt8 × List UInt8))).length) * (48 : Nat) ≤ (140737488355328 : Nat) ∧ x3 < (9223372036854775807 : Int) ∧ x0 (x2 ++ (([] : List UInt8) ++ (ix a0_l x3).fst, ([] : List UInt8) ++ (ix a0_l x3).snd) :: ([] : List (List UInt8 × List UInt8))) (x3 + (1 : Int)) ∧ x1 (x2 ++ (([] : List UInt8) ++ (ix a0_l x3).fst, ([] : List UInt8) ++ (ix a0_l x3).snd) :: ([] : List (List UInt8 × List UInt8))) (x3 + (1 : Int)) < x1 x2 x3) ∧ True) ∧ ((([] : List UInt8).length + (ix a0_l x3).fst.length) * (1 : Nat) ≤ (140737488355328 : Nat) ∧ (([] : List UInt8).length + (ix a0_l x3).snd.length) * (1 : Nat) ≤ (140737488355328 : Nat) ∧ (x2.length + ((([] : List UInt8) ++ (ix a0_l x3).fst, ([] : List UInt8) ++ (ix a0_l x3).snd) :: ([] : List (List UInt8 × List UInt8))).length) * (48 : Nat) ≤ (140737488355328 : Nat) ∧ x3 < (9223372036854775807 : Int) ∧ x0 (x2 ++ (([] : List UInt8) ++ (ix a0_l x3).fst, ([] : List UInt8) ++ (ix a0_l x3).snd) :: ([] : List (List UInt8 × List UInt8))) (x3 + (1 : Int)) ∧ x1 (x2 ++ (([] : List UInt8) ++ (ix a0_l x3).fst, ([] : List UInt8) ++ (ix a0_l x3).snd) :: ([] : List (List UInt8 × List UInt8))) (x3 + (1 : Int)) < x1 x2 x3) ∧ True) ∧ (¬x3 < (a0_l.length : Int) → Q x2)
theorem qnK {a0_l : List ((List UInt8) × List UInt8)} (w_0 : (Ty.kd (.sl (.pr (.sl .byte) (.sl .byte)))).wf a0_l) (hp : a0_l.length ≤ 65536 ∧ (∀ p ∈ a0_l, p.1.length + p.2.length ≤ 35184372088832)) : qgr a0_l (fun o0 => o0 = a0_l) := by
 obtain ⟨hl, hs⟩ := hp
 unfold qgr
 refine ⟨fun x2 x3 => ∃ j : Nat, x3 = (j : Int) ∧ j ≤ a0_l.length ∧ x2 = a0_l.take j, fun _ x3 => ((a0_l.length : Int) - x3).toNat, ⟨0, rfl, Nat.zero_le _, rfl⟩, ?_⟩
 rintro x2 _ ⟨j, rfl, hj, rfl⟩ _ _
 refine ⟨fun hlt => ?_, fun hge => ?_⟩
 ·have hj' : j < a0_l.length := by omega
  have eix : ix a0_l (j : Int) = a0_l[j] := ixN hj'
  have hb := hs _ (List.getElem_mem hj')
  have e : a0_l.take j ++ [([] ++ a0_l[j].1, [] ++ a0_l[j].2)] = a0_l.take (j + 1) := by rw [List.take_add_one, List.getElem?_eq_getElem hj']; rfl
  have b : (0 : Int) ≤ (j : Int) ∧ (j : Int) < (a0_l.length : Int) := ⟨by omega, hlt⟩
  have go : ((([] : List UInt8).length + a0_l[j].1.length) * 1 ≤ 140737488355328 ∧ (([] : List UInt8).length + a0_l[j].2.length) * 1 ≤ 140737488355328 ∧ ((a0_l.take j).length + [(([] : List UInt8) ++ a0_l[j].1, ([] : List UInt8) ++ a0_l[j].2)].length) * 48 ≤ 140737488355328 ∧ (j : Int) < 9223372036854775807 ∧ (∃ i : Nat, (j : Int) + 1 = (i : Int) ∧ i ≤ a0_l.length ∧ a0_l.take j ++ [([] ++ a0_l[j].1, [] ++ a0_l[j].2)] = a0_l.take i) ∧ ((a0_l.length : Int) - ((j : Int) + 1)).toNat < ((a0_l.length : Int) - (j : Int)).toNat) := by
   refine ⟨?_, ?_, ?_, by omega, ⟨j + 1, rfl, hj', e⟩, by omega⟩
   ·simp only [List.length_nil]; omega
   ·simp only [List.length_nil]; omega
   ·simp only [List.length_take, List.length_cons, List.length_nil]; omega
  simp only [eix]
  exact ⟨b, b, ⟨go, go, trivial⟩, go, trivial⟩
 ·obtain rfl : j = a0_l.length := by omega
  show a0_l.take a0_l.length = _
  rw [List.take_length]
theorem qnJ : (∀ a, qdJ.pre a → PM.wfP qdJ.pm a (fvc qlv 200 40 qdJ a (eqO qdJ a))) = (∀ a : (List ((List UInt8) × List UInt8)) × Unit, ((a.1).length ≤ 65536 ∧ (∀ p ∈ (a.1), p.1.length + p.2.length ≤ 35184372088832)) → (Ty.kd (.sl (.pr (.sl .byte) (.sl .byte)))).wf a.1 → qgr a.1 (fun o0 => o0 = (a.1))) := by kernel_rfl
theorem qqq : qdJ.valid Try.prog 40 := qau (X := qlv) (qaJ qal (fun b hb => by cases hb; exact qar) qas trivial) 200 (qnJ.mpr fun a hp w_0 => @qnK a.1 w_0 hp)
noncomputable def qe0 : Ctr := ⟨[.v (.pr (.int .i64) (.sl (.pr (.int .i64) (.pr (.pr (.sl .byte) (.sl .byte)) (.sl (.arr 32 .byte))))))], [.v (.pr (.int .i64) (.sl (.pr (.int .i64) (.pr (.pr (.sl .byte) (.sl .byte)) (.sl (.arr 32 .byte))))))], some (fun a => (fun (a0_s : Int × List (Int × ((List UInt8) × List UInt8) × List (List UInt8))) => (a0_s.2.length ≤ 65536 ∧ ∀ x ∈ a0_s.2, x.2.1.1.length + x.2.1.2.length ≤ 35184372088832 ∧ x.2.2.length ≤ 65536 : Prop)) a.1), fun a => (fun (a0_s : Int × List (Int × ((List UInt8) × List UInt8) × List (List UInt8))) => ((a0_s, ()), (()))) a.1⟩
noncomputable def qnG : Fx := ⟨{ seat with rws := [3000003, 4000009] }, some bkT, fns, [(40, qdJ)], [], [(3, [3], [])], [(7, [3, 5], [.o 0 3, .o 2 3, .o 3 3, .o 4 3, .o 5 3, .o 6 3, .o 8 3, .o 9 3, .par [1, 7, 10, 11, 12] (.alt 1 1 (.one 7 1 (.one 10 1 (.one 11 3 (.one 12 1 .fin)))) (.alt 7 1 (.alt 1 1 (.one 10 1 (.one 11 3 (.one 12 1 .fin))) (.alt 10 1 (.one 11 3 (.alt 1 1 (.one 12 1 .fin) (.alt 12 1 (.one 1 1 .fin) .fin))) .fin)) .fin)), .o 13 1, .o 14 3, .o 15 1])]⟩
def qh8 (a0_s : Int × List (Int × ((List UInt8) × List UInt8) × List (List UInt8))) (Q : (Int × List (Int × ((List UInt8) × List UInt8) × List (List UInt8))) → Prop) : Prop :=
 ∃ (x0 : Int → List (Int × (List UInt8 × List UInt8) × List (List UInt8)) → Int × Unit → Prop), ∃ (x1 : Int → List (Int × (List UInt8 × List UInt8) × List (List UInt8)) → Int × Unit → Nat), x0 (0 : Int) ([] : List (Int × (List UInt8 × List UInt8) × List (List UInt8))) (a0_s.fst, ()) ∧ ∀ (x2 : Int) (x3 : List (Int × (List UInt8 × List UInt8) × List (List UInt8))) (x4 : Int × Unit), x0 x2 x3 x4 → (Kd.int IntKind.i64).wf x2 → ((Ty.int IntKind.i64).pr ((Ty.byte.sl.pr Ty.byte.sl).pr (Ty.arr (32 : Nat) Ty.byte).sl)).kd.sl.wf x3 → (x2 < (a0_s.snd.length : Int) → ((0 : Int) ≤ x2 ∧ x2 < (a0_s.snd.length : Int)) ∧ (((ix a0_s.snd x2).snd.fst :: ([] : List (List UInt8 × List UInt8))).length ≤ (65536 : Nat) ∧ ∀ (x9 : List UInt8 × List UInt8), x9 ∈ (ix a0_s.snd x2).snd.fst :: ([] : List (List UInt8 × List UInt8)) → x9.fst.length + x9.snd.length ≤ (35184372088832 : Nat)) ∧ ((Ty.byte.sl.pr Ty.byte.sl).kd.sl.wf ((ix a0_s.snd x2).snd.fst :: ([] : List (List UInt8 × List UInt8))) → ((0 : Int) ≤ (0 : Int) ∧ (0 : Int) < (((ix a0_s.snd x2).snd.fst :: ([] : List (List UInt8 × List UInt8))).length : Int)) ∧ ((([] : List (List UInt8)).length + (ix a0_s.snd x2).snd.snd.length) * (32 : Nat) ≤ (140737488355328 : Nat) ∧ (x3.length + (((ix a0_s.snd x2).fst, ix ((ix a0_s.snd x2).snd.fst :: ([] : List (List UInt8 × List UInt8))) (0 : Int), ([] : List (List UInt8)) ++ (ix a0_s.snd x2).snd.snd) :: ([] : List (Int × (List UInt8 × List UInt8) × List (List UInt8)))).length) * (80 : Nat) ≤ (140737488355328 : Nat) ∧ x2 < (9223372036854775807 : Int) ∧ x0 (x2 + (1 : Int)) (x3 ++ ((ix a0_s.snd x2).fst, ix ((ix a0_s.snd x2).snd.fst :: ([] : List (List UInt8 × List UInt8))) (0 : Int), ([] : List (List UInt8)) ++ (ix a0_s.snd x2).snd.snd) :: ([] : List (Int × (List UInt8 × List UInt8) × List (List UInt8)))) (x4.fst, x4.snd) ∧ x1 (x2 + (1 : Int)) (x3 ++ ((ix a0_s.snd x2).fst, ix ((ix a0_s.snd x2).snd.fst :: ([] : List (List UInt8 × List UInt8))) (0 : Int), ([] : List (List UInt8)) ++ (ix a0_s.snd x2).snd.snd) :: ([] : List (Int × (List UInt8 × List UInt8) × List (List UInt8)))) (x4.fst, x4.snd) < x1 x2 x3 x4) ∧ (((([] : List (List UInt8)).length + (ix a0_s.snd x2).snd.snd.length) * (32 : Nat) ≤ (140737488355328 : Nat) ∧ (x3.length + (((ix a0_s.snd x2).fst, ix ((ix a0_s.snd x2).snd.fst :: ([] : List (List UInt8 × List UInt8))) (0 : Int), ([] : List (List UInt8)) ++ (ix a0_s.snd x2).snd.snd) :: ([] : List (Int × (List UInt8 × List UInt8) × List (List UInt8)))).length) * (80 : Nat) ≤ (140737488355328 : Nat) ∧ x2 < (9223372036854775807 : Int) ∧ x0 (x2 + (1 : Int)) (x3 ++ ((ix a0_s.snd x2).fst, ix ((ix a0_s.snd x2).snd.fst :: ([] : List (List UInt8 × List UInt8))) (0 : Int), ([] : List (List UInt8)) ++ (ix a0_s.snd x2).snd.snd) :: ([] : List (Int × (List UInt8 × List UInt8) × List (List UInt8)))) (x4.fst, x4.snd) ∧ x1 (x2 + (1 : Int)) (x3 ++ ((ix a0_s.snd x2).fst, ix ((ix a0_s.snd x2).snd.fst :: ([] : List (List UInt8 × List UInt8))) (0 : Int), ([] : List (List UInt8)) ++ (ix a0_s.snd x2).snd.snd) :: ([] : List (Int × (List UInt8 × List UInt8) × List (List UInt8)))) (x4.fst, x4.snd) < x1 x2 x3 x4) ∧ ((([] : List (List UInt8)).length + (ix a0_s.snd x2).snd.snd.length) * (32 : Nat) ≤ (140737488355328 : Nat) ∧ ((x3.length + (((ix a0_s.snd x2).fst, ix ((ix a0_s.snd x2).snd.fst :: ([] : List (List UInt8 × List UInt8))) (0 : Int), ([] : List (List UInt8)) ++ (ix a0_s.snd x2).snd.snd) :: ([] : List (Int × (List UInt8 × List UInt8) × List (List UInt8)))).length) * (80 : Nat) ≤ (140737488355328 : Nat) ∧ x2 < (9223372036854775807 : Int) ∧ x0 (x2 + (1 : Int)) (x3 ++ ((ix a0_s.snd x2).fst, ix ((ix a0_s.snd x2).snd.fst :: ([] : List (List UInt8 × List UInt8))) (0 : Int), ([] : List (List UInt8)) ++ (ix a0_s.snd x2).snd.snd) :: ([] : List (Int × (List UInt8 × List UInt8) × List (List UInt8)))) (x4.fst, x4.snd) ∧ x1 (x2 + (1 : Int)) (x3 ++ ((ix a0_s.snd x2).fst, ix ((ix a0_s.snd x2).snd.fst :: ([] : List (List UInt8 × List UInt8))) (0 : Int), ([] : List (List UInt8)) ++ (ix a0_s.snd x2).snd.snd) :: ([] : List (Int × (List UInt8 × List UInt8) × List (List UInt8)))) (x4.fst, x4.snd) < x1 x2 x3 x4) ∧ ((x3.length + (((ix a0_s.snd x2).fst, ix ((ix a0_s.snd x2).snd.fst :: ([] : List (List UInt8 × List UInt8))) (0 : Int), ([] : List (List UInt8)) ++ (ix a0_s.snd x2).snd.snd) :: ([] : List (Int × (List UInt8 × List UInt8) × List (List UInt8)))).length) * (80 : Nat) ≤ (140737488355328 : Nat) ∧ x2 < (9223372036854775807 : Int) ∧ x0 (x2 + (1 : Int)) (x3 ++ ((ix a0_s.snd x2).fst, ix ((ix a0_s.snd x2).snd.fst :: ([] : List (List UInt8 × List UInt8))) (0 : Int), ([] : List (List UInt8)) ++ (ix a0_s.snd x2).snd.snd) :: ([] : List (Int × (List UInt8 × List UInt8) × List (List UInt8)))) (x4.fst, x4.snd) ∧ x1 (x2 + (1 : Int)) (x3 ++ ((ix a0_s.snd x2).fst, ix ((ix a0_s.snd x2).snd.fst :: ([] : List (List UInt8 × List UInt8))) (0 : Int), ([] : List (List UInt8)) ++ (ix a0_s.snd x2).snd.snd) :: ([] : List (Int × (List UInt8 × List UInt8) × List (List UInt8)))) (x4.fst, x4.snd) < x1 x2 x3 x4) ∧ True) ∧ True) ∧ True)) ∧ (¬x2 < (a0_s.snd.length : Int) → Q (x4.fst, x3))
theorem qqn {a0_s : Int × List (Int × ((List UInt8) × List UInt8) × List (List UInt8))} (w_0 : (Ty.kd (.pr (.int .i64) (.sl (.pr (.int .i64) (.pr (.pr (.sl .byte) (.sl .byte)) (.sl (.arr 32 .byte))))))).wf a0_s) (hp : a0_s.2.length ≤ 65536 ∧ ∀ x ∈ a0_s.2, x.2.1.1.length + x.2.1.2.length ≤ 35184372088832 ∧ x.2.2.length ≤ 65536) : qh8 a0_s (fun o0 => o0 = a0_s) := by
 obtain ⟨hl, hs⟩ := hp
 unfold qh8
 refine ⟨fun x2 x3 x4 => ∃ j : Nat, x2 = (j : Int) ∧ j ≤ a0_s.2.length ∧ x3 = a0_s.2.take j ∧ x4.1 = a0_s.1, fun x2 _ _ => ((a0_s.2.length : Int) - x2).toNat, ⟨0, rfl, Nat.zero_le _, rfl, rfl⟩, ?_⟩
 rintro _ x3 x4 ⟨j, rfl, hj, rfl, h4⟩ _ _
 refine ⟨fun hlt => ?_, fun hge => ?_⟩
 ·have hj' : j < a0_s.2.length := by omega
  have eix : ix a0_s.2 (j : Int) = a0_s.2[j] := ixN hj'
  have hb := hs _ (List.getElem_mem hj')
  have e0 : ∀ x : (List UInt8) × List UInt8, ix [x] 0 = x := fun _ => rfl
  have e : a0_s.2.take j ++ [(a0_s.2[j].1, a0_s.2[j].2.1, ([] : List (List UInt8)) ++ a0_s.2[j].2.2)] = a0_s.2.take (j + 1) := by rw [List.take_add_one, List.getElem?_eq_getElem hj']; rfl
  have b : (0 : Int) ≤ (j : Int) ∧ (j : Int) < (a0_s.2.length : Int) := ⟨by omega, hlt⟩
  have g1 : (([] : List (List UInt8)).length + a0_s.2[j].2.2.length) * 32 ≤ 140737488355328 := by simp only [List.length_nil]; omega
  have g2 : ((a0_s.2.take j).length + [(a0_s.2[j].1, a0_s.2[j].2.1, ([] : List (List UInt8)) ++ a0_s.2[j].2.2)].length) * 80 ≤ 140737488355328 ∧ (j : Int) < 9223372036854775807 ∧ (∃ i : Nat, (j : Int) + 1 = (i : Int) ∧ i ≤ a0_s.2.length ∧ a0_s.2.take j ++ [(a0_s.2[j].1, a0_s.2[j].2.1, ([] : List (List UInt8)) ++ a0_s.2[j].2.2)] = a0_s.2.take i ∧ x4.1 = a0_s.1) ∧ ((a0_s.2.length : Int) - ((j : Int) + 1)).toNat < ((a0_s.2.length : Int) - (j : Int)).toNat := by
   refine ⟨?_, by omega, ⟨j + 1, rfl, hj', e, h4⟩, by omega⟩
   simp only [List.length_take, List.length_cons, List.length_nil]; omega
  simp only [eix, e0]
  refine ⟨b, ⟨by simp, fun x hx => ?_⟩, fun _ => ⟨by simp, ?_⟩⟩
  ·obtain rfl := List.mem_singleton.1 hx
   exact hb.1
  ·repeat' (first | exact g1 | exact g2 | exact trivial | refine ⟨?_, ?_⟩)
 ·obtain rfl : j = a0_s.2.length := by omega
  show (x4.1, a0_s.2.take a0_s.2.length) = a0_s
  rw [List.take_length, h4]
theorem qqm : (∀ a, qe0.pre a → PM.wfP qe0.pm a (fvc qnG 200 37 qe0 a (eqO qe0 a))) = (∀ a : (Int × List (Int × ((List UInt8) × List UInt8) × List (List UInt8))) × Unit, ((a.1).2.length ≤ 65536 ∧ ∀ x ∈ (a.1).2, x.2.1.1.length + x.2.1.2.length ≤ 35184372088832 ∧ x.2.2.length ≤ 65536) → (Ty.kd (.pr (.int .i64) (.sl (.pr (.int .i64) (.pr (.pr (.sl .byte) (.sl .byte)) (.sl (.arr 32 .byte))))))).wf a.1 → qh8 a.1 (fun o0 => o0 = (a.1))) := by kernel_rfl
theorem qti : qe0.valid Try.prog 37 := qau (X := qnG) (qaJ (qal.rows [3000003, 4000009]) (fun b hb => by cases hb; exact qar) qas ⟨qqq, trivial⟩) 200 (qqm.mpr fun a hp w_0 => @qqn a.1 w_0 hp)
noncomputable def qbU : Ctr := ⟨[.v (.pr (.int .i64) (.sl (.pr (.int .i64) (.pr (.pr (.sl .byte) (.sl .byte)) (.sl (.arr 32 .byte)))))), .v (.sl .byte), .v (.sl .byte)], [.v .bool], none, fun a => (fun (a0_s : Int × List (Int × ((List UInt8) × List UInt8) × List (List UInt8))) (a1_ahead : List UInt8) (a2_behind : List UInt8) => ((true, ()), (()))) a.1 a.2.1 a.2.2.1⟩
noncomputable def qfR : Fx := ⟨{ seat with rws := [5000050] }, some bkT, fns, [(35, qhY), (30, qcP), (37, qe0), (45, qdU), (46, qcO), (39, qdK), (23, qhr), (47, qfu), (48, qhx), (26, qgE), (27, qfg)], [], [], [(5, [], [.o 1 2, .o 3 3, .o 0 0, .o 2 1, .o 4 1, .o 5 1, .o 6 3])]⟩
def qc6 (a0_s : Int × List (Int × ((List UInt8) × List UInt8) × List (List UInt8))) (a1_ahead : List UInt8) (a2_behind : List UInt8) (Q : Bool → Prop) : Prop :=
 (qni a0_s = true → Q true) ∧ (qni a0_s = false → ((1000 : Int) < (a1_ahead.length : Int) → Q true) ∧ (¬(1000 : Int) < (a1_ahead.length : Int) → ((1000 : Int) < (a2_behind.length : Int) → Q true) ∧ (¬(1000 : Int) < (a2_behind.length : Int) → (a0_s.snd.length ≤ (65536 : Nat) ∧ ∀ (x0 : Int × (List UInt8 × List UInt8) × List (List UInt8)), x0 ∈ a0_s.snd → x0.snd.fst.fst.length + x0.snd.fst.snd.length ≤ (35184372088832 : Nat) ∧ x0.snd.snd.length ≤ (65536 : Nat)) ∧ (((Ty.int IntKind.i64).pr ((Ty.int IntKind.i64).pr ((Ty.byte.sl.pr Ty.byte.sl).pr (Ty.arr (32 : Nat) Ty.byte).sl)).sl).kd.wf a0_s → (a1_ahead.length ≤ (1099511627776 : Nat) ∧ a0_s.snd.length ≤ (65536 : Nat) ∧ ∀ (x0 : Int × (List UInt8 × List UInt8) × List (List UInt8)), x0 ∈ a0_s.snd → x0.snd.fst.fst.length + x0.snd.fst.snd.length ≤ (16777216 : Nat) ∧ x0.snd.snd.length ≤ (65536 : Nat)) ∧ (Ty.byte.kd.sl.wf (a1_ahead ++ qaP a0_s) → (([] : List UInt8).length + a1_ahead.length) * (1 : Nat) ≤ (140737488355328 : Nat) ∧ (a0_s.snd.length ≤ (65536 : Nat) ∧ ∀ (x0 : Int × (List UInt8 × List UInt8) × List (List UInt8)), x0 ∈ a0_s.snd → x0.snd.fst.fst.length + x0.snd.fst.snd.length ≤ (16777216 : Nat) ∧ x0.snd.snd.length ≤ (65536 : Nat)) ∧ (Ty.byte.kd.sl.wf (qaP a0_s) → ((([] : List UInt8) ++ a1_ahead).length + (qaP a0_s).length) * (1 : Nat) ≤ (140737488355328 : Nat) ∧ (a1_ahead ++ qaP a0_s ≠ ([] : List UInt8) ++ a1_ahead ++ qaP a0_s → Q false) ∧ (¬a1_ahead ++ qaP a0_s ≠ ([] : List UInt8) ++ a1_ahead ++ qaP a0_s → (¬eqSn a0_s a0_s = true → Q false) ∧ (eqSn a0_s a0_s = true → ((0 : Int) ≤ (a1_ahead.length : Int) ∧ (a1_ahead.length : Int) ≤ ((a1_ahead ++ qaP a0_s).length : Int)) ∧ ((List.drop (a1_ahead.length : Int).toNat (a1_ahead ++ qaP a0_s)).length + a2_behind.length) * (1 : Nat) ≤ (140737488355328 : Nat) ∧ (List.drop (a1_ahead.length : Int).toNat (a1_ahead ++ qaP a0_s) ++ a2_behind).length ≤ (140737488355328 : Nat) ∧ ((Ty.byte.sl.pr Ty.bool).st.kd.wf (List.drop (a1_ahead.length : Int).toNat (a1_ahead ++ qaP a0_s) ++ a2_behind, false) → (List.drop (a1_ahead.length : Int).toNat (a1_ahead ++ qaP a0_s) ++ a2_behind).length ≤ (140737488355328 : Nat) ∧ (((Ty.int IntKind.i64).pr ((Ty.int IntKind.i64).pr ((Ty.byte.sl.pr Ty.byte.sl).pr (Ty.arr (32 : Nat) Ty.byte).sl)).sl).kd.wf (qbK (List.drop (a1_ahead.length : Int).toNat (a1_ahead ++ qaP a0_s) ++ a2_behind, false)).fst → (¬decide (fitS a0_s) = true → (eqSn (qbK (List.drop (a1_ahead.length : Int).toNat (a1_ahead ++ qaP a0_s) ++ a2_behind, false)).fst ((Ty.int IntKind.i64).pr ((Ty.int IntKind.i64).pr ((Ty.byte.sl.pr Ty.byte.sl).pr (Ty.arr (32 : Nat) Ty.byte).sl)).sl).kd.z = true → (Ty.int IntKind.i64).kd.wf (if (qbK (List.drop (a1_ahead.length : Int).toNat (a1_ahead ++ qaP a0_s) ++ a2_behind, false)).snd.snd = true then (2 : Int) else (0 : Int)) → ((if (qbK (List.drop (a1_ahead.length : Int).toNat (a1_ahead ++ qaP a0_s) ++ a2_behind, false)).snd.snd = true then (2 : Int) else (0 : Int)) = (2 : Int) → Q true) ∧ (¬(if (qbK (List.drop (a1_ahead.length : Int).toNat (a1_ahead ++ qaP a0_s) ++ a2_behind, false)).snd.snd = true then (2 : Int) else (0 : Int)) = (2 : Int) → Q false)) ∧ (eqSn (qbK (List.drop (a1_ahead.length : Int).toNat (a1_ahead ++ qaP a0_s) ++ a2_behind, false)).fst ((Ty.int IntKind.i64).pr ((Ty.int IntKind.i64).pr ((Ty.byte.sl.pr Ty.byte.sl).pr (Ty.arr (32 : Nat) Ty.byte).sl)).sl).kd.z = false → Q false)) ∧ (decide (fitS a0_s) = true → (eqSn (qbK (List.drop (a1_ahead.length : Int).toNat (a1_ahead ++ qaP a0_s) ++ a2_behind, false)).fst a0_s = true → (Ty.int IntKind.i64).kd.wf (if (qbK (List.drop (a1_ahead.length : Int).toNat (a1_ahead ++ qaP a0_s) ++ a2_behind, false)).snd.snd = true then (2 : Int) else (0 : Int)) → ((if (qbK (List.drop (a1_ahead.length : Int).toNat (a1_ahead ++ qaP a0_s) ++ a2_behind, false)).snd.snd = true then (2 : Int) else (0 : Int)) = (0 : Int) → (Ty.int IntKind.i64).kd.wf ((qbK (List.drop (a1_ahead.length : Int).toNat (a1_ahead ++ qaP a0_s) ++ a2_behind, false)).snd.fst.length : Int) → (((qbK (List.drop (a1_ahead.length : Int).toNat (a1_ahead ++ qaP a0_s) ++ a2_behind, false)).snd.fst.length : Int) = (a2_behind.length : Int) → Q true) ∧ (¬((qbK (List.drop (a1_ahead.length : Int).toNat (a1_ahead ++ qaP a0_s) ++ a2_behind, false)).snd.fst.length : Int) = (a2_behind.length : Int) → Q false)) ∧ (¬(if (qbK (List.drop (a1_ahead.length : Int).toNat (a1_ahead ++ qaP a0_s) ++ a2_behind, false)).snd.snd = true then (2 : Int) else (0 : Int)) = (0 : Int) → Q false)) ∧ (eqSn (qbK (List.drop (a1_ahead.length : Int).toNat (a1_ahead ++ qaP a0_s) ++ a2_behind, false)).fst a0_s = false → Q false))))))))))))
theorem qh4 {a0_s : Int × List (Int × ((List UInt8) × List UInt8) × List (List UInt8))} {a1_ahead : List UInt8} {a2_behind : List UInt8} (w_0 : (Ty.kd (.pr (.int .i64) (.sl (.pr (.int .i64) (.pr (.pr (.sl .byte) (.sl .byte)) (.sl (.arr 32 .byte))))))).wf a0_s) (w_1 : (Ty.kd (.sl .byte)).wf a1_ahead) (w_2 : (Ty.kd (.sl .byte)).wf a2_behind) : qc6 a0_s a1_ahead a2_behind (fun o0 => o0 = true) := by
 unfold qc6
 refine ⟨fun _ => rfl, fun hw => ⟨fun _ => rfl, fun ha => ⟨fun _ => rfl, fun hb => ?_⟩⟩⟩
 obtain ⟨hn, hx⟩ := qr8 hw
 have hwf := w_0.2.2
 have s1 : ∀ x ∈ a0_s.2, x.2.1.1.length + x.2.1.2.length ≤ 35184372088832 ∧ x.2.2.length ≤ 65536 := fun x h => ⟨by have := (hx x h).1; omega, by have := (hx x h).2; omega⟩
 have s2 : ∀ x ∈ a0_s.2, x.2.1.1.length + x.2.1.2.length ≤ 16777216 ∧ x.2.2.length ≤ 65536 := fun x h => ⟨by have := (hx x h).1; omega, by have := (hx x h).2; omega⟩
 have h32 : ∀ x ∈ a0_s.2, ∀ z ∈ x.2.2, z.length = 32 := fun x h z hz => ((hwf x h).2.2.2 z hz).1
 have hlen : (qaP a0_s).length ≤ 20000000 * 65536 + 18 := qpx (by omega) fun x h => quD (s2 x h).1 (s2 x h).2 (h32 x h)
 obtain ⟨f1, f2⟩ := quB (s := a0_s) w_0.1 (by omega) (fun x h => ⟨(hwf x h).1, by have := (s2 x h).1; omega, by have := (s2 x h).1; omega, by have := (s2 x h).2; omega, h32 x h⟩) a2_behind
 have ed : List.drop (a1_ahead.length : Int).toNat (a1_ahead ++ qaP a0_s) = qaP a0_s := by rw [Int.toNat_natCast, List.drop_left]
 have eq1 : ∀ s : Int × List (Int × ((List UInt8) × List UInt8) × List (List UInt8)), eqSn s s = true := fun s => decide_eq_true rfl
 rw [ed]
 have z : (([] : List UInt8) ++ a1_ahead).length = a1_ahead.length := rfl
 refine ⟨⟨by omega, s1⟩, fun _ => ⟨⟨by omega, by omega, s2⟩, fun _ => ⟨by simp only [List.length_nil]; omega, ⟨by omega, s2⟩, fun _ => ⟨by rw [z]; omega, fun h => absurd rfl h, fun _ => ⟨fun h => absurd (eq1 _) h, fun _ => ⟨⟨by omega, by rw [List.length_append]; omega⟩, by omega, by rw [List.length_append]; omega, fun _ => ⟨by rw [List.length_append]; omega, fun _ => ⟨fun hf => ?_, fun hf => ?_⟩⟩⟩⟩⟩⟩⟩⟩
 ·have hf : ¬ fitS a0_s := fun h => hf (decide_eq_true h)
  have hbad : (qbK (qaP a0_s ++ a2_behind, false)).2.2 = true := f2 hf
  rw [qjS hbad]
  refine ⟨fun _ _ => ⟨fun _ => rfl, fun h => absurd (if_pos hbad) h⟩, fun h => ?_⟩
  have h' : eqSn (0, []) (0, []) = false := h
  rw [eq1] at h'; cases h'
 ·have hf : fitS a0_s := of_decide_eq_true hf
  have e := f1 hf
  have e2 : (qbK (qaP a0_s ++ a2_behind, false)).2 = (a2_behind, false) := by show (qg6 (qaP a0_s ++ a2_behind, false)).2 = _; rw [e]
  have e1 : (qbK (qaP a0_s ++ a2_behind, false)).1 = a0_s := by rw [qmf (by rw [e2]), e]
  rw [e1, e2]
  refine ⟨fun _ _ => ⟨fun _ _ => ⟨fun _ => rfl, fun h => absurd rfl h⟩, fun h => absurd (if_neg (fun h : false = true => by cases h)) h⟩, fun h => ?_⟩
  rw [eq1] at h; cases h
theorem qh3 : (∀ a, qbU.pre a → PM.wfP qbU.pm a (fvc qfR 200 9 qbU a (eqO qbU a))) = (∀ a : (Int × List (Int × ((List UInt8) × List UInt8) × List (List UInt8))) × (List UInt8) × (List UInt8) × Unit, True → (Ty.kd (.pr (.int .i64) (.sl (.pr (.int .i64) (.pr (.pr (.sl .byte) (.sl .byte)) (.sl (.arr 32 .byte))))))).wf a.1 → (Ty.kd (.sl .byte)).wf a.2.1 → (Ty.kd (.sl .byte)).wf a.2.2.1 → qc6 a.1 a.2.1 a.2.2.1 (fun o0 => o0 = true)) := by kernel_rfl
theorem qjh : qbU.valid Try.prog 9 := qau (X := qfR) (qaJ (qal.rows [5000050]) (fun b hb => by cases hb; exact qar) qas ⟨qwC, qn9, qti, qrl, qnU, qqr, qu2, quj, qvi, qsu, qtQ, trivial⟩) 200 (qh3.mpr fun a hp w_0 w_1 w_2 => @qh4 a.1 a.2.1 a.2.2.1 w_0 w_1 w_2)
end Go.Proofs.Ytmjjkpiglbpkhaa

set_option linter.unusedVariables false
namespace Go.Proofs.Ytmjjkpiglbpkhaa
open Go Go.RowKit Go.Inc Go.ChangeShapes Go.WideShapes Go.ChangeAt
theorem qwl {H : Type} (d : DataW H) : 1 ≤ Rows.uptoBulk d := by
 cases d with
 | lit l => cases l <;> simp [Rows.uptoBulk]
 | nil => simp [Rows.uptoBulk]
 | ptr d => simp [Rows.uptoBulk]
 | slice elems spare => simp [Rows.uptoBulk]
 | agg parts => simp [Rows.uptoBulk]
 | iface t d => simp [Rows.uptoBulk]
 | map entries => simp [Rows.uptoBulk]
 | held h => simp [Rows.uptoBulk]
theorem qk4 {H : Type} {d : DataW H} {l : List (DataW H)} (h : d ∈ l) : Rows.uptoBulk d ≤ Rows.uptoBulkAll l := by
 induction l with
 | nil => cases h
 | cons x r ih =>
   simp only [Rows.uptoBulkAll]
   cases List.mem_cons.1 h with
   | inl e => subst e; omega
   | inr e => have := ih e; omega
theorem qjJ {H : Type} (l : List (DataW H)) : l.length ≤ Rows.uptoBulkAll l := by
 induction l with
 | nil => simp [Rows.uptoBulkAll]
 | cons x r ih => have := qwl x; simp only [Rows.uptoBulkAll, List.length_cons]; omega
theorem qrP {H : Type} {l : List (DataW H)} (hk : Rows.uptoSmall H l = true) : Rows.uptoBulkAll l ≤ 1048576 := by
 simpa [Rows.uptoSmall] using hk
def qeu (w : World) : Ghost := fun b => match w.heap[b]? with
 | some (.cells c t _) => some (t, c.toList)
 | _ => none
theorem Models.ofW (w : World) : Models w (qeu w) := fun b t l h => by
 unfold qeu at h
 split at h
 ·rename_i c t' fr hh
  cases h
  exact ⟨c, fr, hh, List.prefix_refl _⟩
 ·cases h
section
variable {P : Program} {α β : Type} {k : Kd α} {k' : Kd β} {t e : TypeId} {by_ : Nat} {S : α → Prop} {S' : β → Prop}
def sm0 {α : Type} : α → Prop := fun _ => True
def smL {α : Type} (S : α → Prop) : List α → Prop := fun l => l.length ≤ 1048576 ∧ ∀ x ∈ l, S x
def smP {α β : Type} (S : α → Prop) (T : β → Prop) : α × β → Prop := fun x => S x.1 ∧ T x.2
def Rds (P : Program) (t : TypeId) (k : Kd α) (S : α → Prop) : Prop := ∀ (H : Type) (enc : TypeId × Value → H) (w : World) (base : Nat) (held : Bool) (fuel : Nat) (cs : List Value) (x : DataW H × List MemPlace),
 DataW.trod enc P w base (fun _ => true) held fuel t cs = some x → Rows.uptoBulk x.1 ≤ 1048576 → ∃ a, k.R (qeu w) a cs ∧ S a
theorem qb9 (h : TyOk P t k by_) : P.cellsOf t = k.sz := by
 obtain ⟨i, z, hi, hs, _⟩ := h.info
 simp [Program.cellsOf, hi, hs]
theorem quv {ik : IntKind} (ht : P.underlying t = some (.int ik)) : Rds P t (Kd.int ik) sm0 := fun H enc w base held fuel cs x h hb => by
 obtain ⟨n, rfl, _, hw⟩ := DataW.trod_int ht h
 refine ⟨n, ⟨rfl, ?_⟩, trivial⟩
 simpa [Lit.wf] using hw
theorem qrH (ht : P.underlying t = some (.int .u8)) : Rds P t Kd.byte sm0 := fun H enc w base held fuel cs x h hb => by
 obtain ⟨n, rfl, _, hw⟩ := DataW.trod_int ht h
 have hw : 0 ≤ n ∧ n ≤ 255 := by simpa [Lit.wf, IntKind.min, IntKind.max, IntKind.signed, IntKind.bits] using hw
 refine ⟨UInt8.ofNat n.toNat, ?_, trivial⟩
 show [Value.int .u8 n] = [.int .u8 _]
 congr 2
 have : (UInt8.ofNat n.toNat).toNat = n.toNat := by simp; omega
 omega
theorem qgL {w : World} {base n : Nat} {a : Addr} {cs : List Value} (h : w.cells? base a n = some cs) (hn : 0 < n) :
 a.spot = none ∧ ∃ e l, qeu w a.block = some (e, l) ∧ a.off + n ≤ l.length ∧ (l.drop a.off).take n = cs := by
 unfold World.cells? at h
 split at h
 case isFalse => cases h
 case isTrue hb =>
 have hl := mapM_some_length h
 have hg := fun i (hi : i < n) => mapM_some_get h i i (by simp [hi])
 have h0 := hg 0 hn
 have hc0 : 0 < cs.length := by rw [hl]; simpa using hn
 rw [List.getElem?_eq_getElem hc0] at h0
 unfold World.cell? at h0
 have ea : ∀ i, (a.add i).block = a.block := fun i => by unfold Addr.add; split <;> rfl
 have eo : ∀ i, (a.add i).off = a.off + i := fun i => by unfold Addr.add; split <;> simp_all
 have ha0 : a.add 0 = a := by simp [Addr.add]
 rw [ha0] at h0
 cases hh : w.heap[a.block]? with
 | none => rw [hh] at h0; cases h0
 | some o =>
   rw [hh] at h0
   cases o with
   | cells c e fr =>
     simp only at h0
     split at h0
     ·cases h0
     ·rename_i hs
      have hs : a.spot = none := by simpa using hs
      refine ⟨hs, e, c.toList, by simp [qeu, hh], ?_⟩
      have hgc : ∀ i, i < n → c[a.off + i]? = cs[i]? := fun i hi => by
       have := hg i hi
       unfold World.cell? at this
       rw [ea, eo, hh] at this
       have hs' : (a.add i).spot.isSome = false := by unfold Addr.add; split <;> simp_all
       simpa [hs'] using this
      have hlen : cs.length = n := by rw [hl]; simp
      have hbound : a.off + n ≤ c.toList.length := by
       have h1 := hgc (n - 1) (by omega)
       rw [List.getElem?_eq_getElem (by omega)] at h1
       have := (Array.getElem?_eq_some_iff.1 h1).1
       simp only [Array.length_toList]
       omega
      refine ⟨hbound, ?_⟩
      apply List.ext_getElem?
      intro i
      rcases Nat.lt_or_ge i n with hi | hi
      ·rw [List.getElem?_take, if_pos hi, List.getElem?_drop, ← hgc i hi]
       simp
      ·rw [List.getElem?_take, if_neg (by omega), List.getElem?_eq_none (by omega)]
   | _ => simp at h0
theorem qkm {R : α → List Value → Prop} : ∀ (n : Nat) (f : Nat → List Value), (∀ i, i < n → ∃ a, R a (f i) ∧ S a) → ∃ l, l.length = n ∧ RL R l ((List.range n).map f).flatten ∧ ∀ x ∈ l, S x
 | 0, f, _ => ⟨[], rfl, by simp [RL], by simp⟩
 | n + 1, f, h => by
   obtain ⟨l, hl, hR, hS⟩ := qkm n f (fun i hi => h i (by omega))
   obtain ⟨a, ha, hs⟩ := h n (by omega)
   refine ⟨l ++ [a], by simp [hl], ?_, fun x hx => (List.mem_append.1 hx).elim (hS x) (fun h => by rw [List.mem_singleton.1 h]; exact hs)⟩
   rw [List.range_succ]
   simp only [List.map_append, List.map_cons, List.map_nil, List.flatten_append, List.flatten_cons, List.flatten_nil, List.append_nil]
   exact RL.append hR (RL.single ha)
theorem qfC (s : Nat) : ∀ (n : Nat) (l : List Value), n * s ≤ l.length → ((List.range n).map fun i => (l.drop (i * s)).take s).flatten = l.take (n * s)
 | 0, l, _ => by simp
 | n + 1, l, h => by
   have e : (n + 1) * s = n * s + s := Nat.succ_mul n s
   rw [List.range_succ]
   simp only [List.map_append, List.map_cons, List.map_nil, List.flatten_append, List.flatten_cons, List.flatten_nil, List.append_nil]
   rw [qfC s n l (by omega), e, List.take_add]
theorem qpp (ht : P.underlying t = some (.slice e)) (hT : TyOk P e k by_) (h0 : Nat.blt 0 k.sz = true) (hR : Rds P e k S) : Rds P t (Kd.sl k) (smL S) := fun H enc w base held fuel cs x h hb => by
 have h0 : 0 < k.sz := Nat.le_of_ble_eq_true h0
 rcases DataW.trod_slice ht h with ⟨rfl, rfl⟩ | ⟨a, len, cap, elems, rest, n, _, rfl, rfl, hbs, hl, hm, hlen, hel, _, _⟩
 ·exact ⟨[], ⟨none, 0, rfl, by simp, by simp [LM], by simp, .inl rfl⟩, by simp, by simp⟩
 ·rw [qb9 hT] at hel
  have hbulk : elems.length ≤ 1048576 := by
   have := qjJ (elems.map (·.1))
   simp only [Rows.uptoBulk, List.length_map] at hb this
   omega
  have hparts : ∀ i, i < len → ∃ cs' y, w.cells? base (a.add (i * k.sz)) k.sz = some cs' ∧ DataW.trod enc P w base (fun _ => true) held n e cs' = some y ∧ Rows.uptoBulk y.1 ≤ 1048576 := fun i hi => by
   have h1 := hel i hi
   rw [List.getElem?_eq_getElem (by omega)] at h1
   obtain ⟨cs', h2, h3⟩ := Option.bind_eq_some_iff.1 h1
   refine ⟨cs', _, h2, h3, ?_⟩
   have := qk4 (l := elems.map (·.1)) (d := (elems[i]'(by omega)).1) (List.mem_map.2 ⟨_, List.getElem_mem _, rfl⟩)
   simp only [Rows.uptoBulk] at hb
   omega
  rcases Nat.eq_zero_or_pos len with hz | hp
  ·exact ⟨[], ⟨some a, cap, by simp [hz], by simp, by simp [LM], by simp, .inl rfl⟩, by simp, by simp⟩
  ·obtain ⟨cs0, y0, hc0, _, _⟩ := hparts 0 hp
   rw [Nat.zero_mul, show a.add 0 = a by simp [Addr.add]] at hc0
   obtain ⟨hs, e', l, hg, _, _⟩ := qgL hc0 h0
   have ea : a = ⟨a.block, a.off, none⟩ := by cases a; simp_all
   have key : ∀ i, i < len → a.off + i * k.sz + k.sz ≤ l.length ∧ w.cells? base (a.add (i * k.sz)) k.sz = some (((l.drop a.off).drop (i * k.sz)).take k.sz) := fun i hi => by
    obtain ⟨cs', y, hc, _, _⟩ := hparts i hi
    obtain ⟨_, e2, l2, hg2, hle, htk⟩ := qgL hc h0
    rw [ea, qbn] at hg2 hle htk
    simp only at hg2 hle htk
    rw [hg] at hg2
    cases hg2
    refine ⟨hle, ?_⟩
    rw [hc, List.drop_drop, ← htk]
   have hlast := (key (len - 1) (by omega)).1
   have hall : a.off + len * k.sz ≤ l.length := by
    have : len * k.sz = (len - 1) * k.sz + k.sz := by
     conv => lhs; rw [show len = (len - 1) + 1 by omega]
     exact Nat.succ_mul _ _
    omega
   obtain ⟨xs, hxl, hxR, hxS⟩ := qkm (S := S) (R := k.R (qeu w)) len (fun i => ((l.drop a.off).drop (i * k.sz)).take k.sz) (fun i hi => by
    obtain ⟨cs', y, hc, ht', hb'⟩ := hparts i hi
    rw [(key i hi).2] at hc
    cases hc
    exact hR _ _ _ _ _ _ _ _ ht' hb')
   rw [qfC k.sz len (l.drop a.off) (by rw [List.length_drop]; omega)] at hxR
   refine ⟨xs, ⟨some a, cap, by rw [hxl], by omega, by simp only [LM]; omega, fun x hx => ?_, .inr ⟨a.block, e', l.take a.off, (l.drop a.off).take (len * k.sz), (l.drop a.off).drop (len * k.sz), ?_, ?_, hxR⟩⟩, by omega, hxS⟩
   ·exact RL.all (p := k.wf) (fun _ _ => k.hwf) hxR x hx
   ·rw [List.length_take, Nat.min_eq_left (by omega)]
    exact congrArg some ea
   ·rw [hg, List.append_assoc, List.take_append_drop, List.take_append_drop]
theorem quu {n by_' : Nat} (ht : P.underlying t = some (.array n e)) (hT : TyOk P e k by_) (hT' : TyOk P t (Kd.arr n k) by_') (hR : Rds P e k S) : Rds P t (Kd.arr n k) (smL S) := fun H enc w base held fuel cs x h hb => by
 obtain ⟨xs, m, _, rfl, hlen, hxl, hx⟩ := DataW.trod_array ht h
 rw [qb9 hT] at hx
 rw [qb9 hT'] at hlen
 have hlen : cs.length = n * k.sz := hlen
 obtain ⟨l, hl, hlR, hlS⟩ := qkm (S := S) (R := k.R (qeu w)) n (fun i => (cs.drop (i * k.sz)).take k.sz) (fun i hi => by
  have h1 := hx i hi
  rw [List.getElem?_eq_getElem (by omega)] at h1
  refine hR _ _ _ _ _ _ _ _ h1 ?_
  have := qk4 (l := xs.map (·.1)) (d := (xs[i]'(by omega)).1) (List.mem_map.2 ⟨_, List.getElem_mem _, rfl⟩)
  simp only [Rows.uptoBulk] at hb
  omega)
 rw [qfC k.sz n cs (by omega), List.take_of_length_le (by omega)] at hlR
 have hbulk : xs.length ≤ 1048576 := by
  have := qjJ (xs.map (·.1))
  simp only [Rows.uptoBulk, List.length_map] at hb this
  omega
 exact ⟨l, ⟨hl, hlR⟩, by omega, hlS⟩
def RdsF (P : Program) (fs : List Field) (off : Nat) (k : Kd α) (S : α → Prop) : Prop := ∀ (H : Type) (enc : TypeId × Value → H) (w : World) (base : Nat) (held : Bool) (fuel : Nat) (cs : List Value),
 (∀ f ∈ fs, ∃ x : DataW H × List MemPlace, DataW.trod enc P w base (fun _ => true) held fuel f.type ((cs.drop f.offset).take (P.cellsOf f.type)) = some x ∧ Rows.uptoBulk x.1 ≤ 1048576) → ∃ a, k.R (qeu w) a ((cs.drop off).take k.sz) ∧ S a
theorem qiY {f : Field} {off : Nat} (hT : TyOk P f.type k by_) (ho : Nat.beq f.offset off = true) (hR : Rds P f.type k S) : RdsF P [f] off k S := fun H enc w base held fuel cs h => by
 obtain ⟨x, h1, h2⟩ := h f (.head _)
 rw [Nat.eq_of_beq_eq_true ho, qb9 hT] at h1
 exact hR _ _ _ _ _ _ _ _ h1 h2
theorem qeK {fs : List Field} {f : Field} {off : Nat} (hT : TyOk P f.type k by_) (ho : Nat.beq f.offset off = true) (hR : Rds P f.type k S) (hF : RdsF P fs (off + k.sz) k' S') : RdsF P (f :: fs) off (Kd.pr k k') (smP S S') := fun H enc w base held fuel cs h => by
 obtain ⟨b, hb, hbS⟩ := hF H enc w base held fuel cs (fun f hf => h f (.tail _ hf))
 obtain ⟨x, h1, h2⟩ := h f (.head _)
 rw [Nat.eq_of_beq_eq_true ho, qb9 hT] at h1
 obtain ⟨a, ha, haS⟩ := hR _ _ _ _ _ _ _ _ h1 h2
 refine ⟨(a, b), ⟨_, _, ?_, ha, hb⟩, haS, hbS⟩
 show (cs.drop off).take (k.sz + k'.sz) = _
 rw [List.take_add, List.drop_drop]
theorem qfE {fs : Array Field} (ht : P.underlying t = some (.struct fs)) (hT : TyOk P t k by_) (hF : RdsF P fs.toList 0 k S) : Rds P t k S := fun H enc w base held fuel cs x h hb => by
 obtain ⟨xs, n, _, rfl, hlen, hxl, hx⟩ := DataW.trod_struct ht h
 rw [qb9 hT] at hlen
 obtain ⟨a, ha, haS⟩ := hF H enc w base held n cs (fun f hf => by
  obtain ⟨i, hi, rfl⟩ := List.getElem_of_mem hf
  have hi' : i < fs.size := by simpa using hi
  have h1 := hx i fs[i] (by simp [hi'])
  rw [List.getElem?_eq_getElem (by omega)] at h1
  refine ⟨xs[i]'(by omega), by simpa using h1, ?_⟩
  have := qk4 (l := xs.map (·.1)) (d := (xs[i]'(by omega)).1) (List.mem_map.2 ⟨_, List.getElem_mem _, rfl⟩)
  simp only [Rows.uptoBulk] at hb
  omega)
 rw [List.drop_zero, List.take_of_length_le (by omega)] at ha
 exact ⟨a, ha, haS⟩
theorem qiU {H : Type} {enc : TypeId × Value → H} {w : World} {r : Reach} {b0 base : Nat} {held : Bool} {v : Value} {d : DataW H} {ps : List MemPlace} (hR : Rds P t k S) (hT : TyOk P t k by_)
 (hval : Value.okWide P w r b0 t v) (h : DataW.Trod enc P w base (fun _ => true) held t v d ps) (hb : Rows.uptoBulk d ≤ 1048576) : ∃ a, k.V (qeu w) a v ∧ S a := by
 obtain ⟨fuel, h⟩ := h
 obtain ⟨a, ha, haS⟩ := hR _ _ _ _ _ _ _ _ h hb
 refine ⟨a, ⟨v.cells.toList, ha, ?_⟩, haS⟩
 obtain ⟨dd, hd, hagg⟩ := hT.desc
 unfold Value.okWide at hval
 rw [hd] at hval
 cases hk : k.agg with
 | true =>
   rw [hk] at hagg
   have : ∃ cs, v = .agg cs := by
    cases dd <;> first | (cases hagg; done) | (obtain ⟨cs, rfl, _⟩ := hval; exact ⟨cs, rfl⟩)
   obtain ⟨cs, rfl⟩ := this
   simp [Value.cells]
 | false =>
   have hlen := k.len ha
   rw [k.hs hk] at hlen
   have hna : ∀ cs, v ≠ .agg cs := fun cs e => by
    subst e
    rw [hk] at hagg
    cases dd <;> first | (cases hagg; done) | (simp [Cell.okWide, hd, Cell.ok] at hval)
   cases v <;> first | rfl | exact absurd rfl (hna _)
end
section
variable {H : Type} {enc : TypeId × Value → H} {P : Program}
theorem qqM {w w' : World} {K K' : Ghost} (h : Ext NX w K w' K') : Below w.heap.size w w' := ⟨h.os, h.tape, h.output, h.size, fun b hb => h.heap b hb (fun x => x)⟩
theorem qfY {W W' : World} {sp : Nat → Bool} (hl : laidOutB P = true) (hb : Below W.heap.size W W') : ∀ {ts : List TypeId} {vs : List Value} {ds : List (DataW H)} {ps : List MemPlace},
 (ts.all fun t => P.readableRec t && decide (t < P.types.size)) = true → DataW.TrodAll enc P W 0 (fun _ => true) true ts vs ds ps → (∀ p ∈ ps, p.block < W.heap.size) → (∀ p ∈ ps, sp p.block = true) → DataW.TrodAll enc P W' 0 sp true ts vs ds ps
 | [], [], [], ps, _, h, _, _ => h
 | t :: ts, v :: vs, d :: ds, ps, hr, ⟨p, q, h1, h2, e⟩, hlt, hs => by
   subst e
   simp only [List.all_cons, Bool.and_eq_true, decide_eq_true_eq] at hr
   exact ⟨p, q, WideElems.Trod_stays hl hr.1.1 hr.1.2 h1 (fun x hx => hb.same (hlt x (List.mem_append.2 (.inl hx)))) (fun x hx => hs x (List.mem_append.2 (.inl hx))),
    qfY hl hb (ts := ts) hr.2 h2 (fun x hx => hlt x (List.mem_append.2 (.inr hx))) (fun x hx => hs x (List.mem_append.2 (.inr hx))), rfl⟩
 | [], _ :: _, _, _, _, h, _, _ => h.elim
 | [], [], _ :: _, _, _, h, _, _ => h.elim
 | _ :: _, [], _, _, _, h, _, _ => h.elim
 | _ :: _, _ :: _, [], _, _, h, _, _ => h.elim
theorem qpm {f : Func} {s : ChangeSpec} {apart fresh handsOn again : Bool} {W W' : World} {args : Array Value} {ds gs : List (DataW H)} {before : List MemPlace} {tb : TypeId}
 (hW : DataW.Whole enc P f.params.toList s.vars apart W args.toList ds gs before) (hl : laidOutB P = true) (hr : (f.params.toList.all fun t => P.readableRec t && decide (t < P.types.size)) = true)
 (hrt : f.resultTypes = #[tb]) (htb : P.underlying tb = some .bool) (hs : s.vars = []) (hv : (s.fn H (ds ++ gs)).vars = []) (hres : (s.fn H (ds ++ gs)).results = [.lit (.bool true)]) (hargs : (s.fn H (ds ++ gs)).args = ds)
 (hb : Below W.heap.size W W') : s.post enc P f apart fresh handsOn again W args (.bool true) W' := by
 have hlt : ∀ p ∈ before, p.block < W.heap.size := fun p hp => hW.lt p hp
 have hW' := hW
 obtain ⟨p, q, hA, hV, e, hz, hn⟩ := hW'
 rw [hs] at hV
 have hq : q = [] ∧ gs = [] := by
  cases gs with
  | nil => exact ⟨hV, rfl⟩
  | cons g r => exact hV.elim
 obtain ⟨rfl, rfl⟩ := hq
 rw [List.append_nil] at e
 subst e
 have ht : ∀ (b : Nat) (sp : Nat → Bool) (hd : Bool), DataW.TrodAll enc P W' b sp hd f.resultTypes.toList ((Value.bool true).resultList f.resultTypes.size) (s.fn H (ds ++ [])).results [] := fun b sp hd => by
  rw [hres, hrt]
  exact ⟨[], [], shut_bool htb _, rfl, rfl⟩
 have ha : ∀ sp : Nat → Bool, (∀ p ∈ before, sp p.block = true) → DataW.TrodAll enc P W' 0 sp true f.params.toList args.toList (s.fn H (ds ++ [])).args before := fun sp hsp => by
  rw [hargs]
  exact qfY hl hb hr hA hlt hsp
 have hvs : ∀ sp : Nat → Bool, DataW.TrodVars enc P W' sp s.vars (s.fn H (ds ++ [])).vars [] := fun sp => by
  rw [hs, hv]
  rfl
 have hold : ∀ p ∈ before, (fun b => decide (b < W.heap.size)) p.block = true := fun p hp => by simpa using hlt p hp
 refine ⟨ds, [], before, [], before, [], hW, ht _ _ _, ha _ hold, hvs _, World.keptBut_mono (fun p hp => ⟨hp, ?_⟩) (hb.frame (· ∈ before)), fun _ => ?_⟩
 ·exact Or.inr (by simpa using hp)
 ·refine ⟨?_, _, _, ([] ++ before) ++ [], ⟨[] ++ before, [], trodAll_append (ha _ (fun _ _ => rfl)) (ht _ _ _), hvs _, rfl, ?_, ?_⟩, ?_⟩
  ·exact ok_one hrt rfl (okWide_bool_mk htb _)
  ·intro b off hp
   have hin : MemPlace.cell b off ∈ before := by simpa using hp
   rw [hb.frozen (hlt _ hin)]
   exact hz b off hin
  ·intro hap
   simpa using hn hap
  ·intro p hp _
   simpa using hp
end
end Go.Proofs.Ytmjjkpiglbpkhaa
