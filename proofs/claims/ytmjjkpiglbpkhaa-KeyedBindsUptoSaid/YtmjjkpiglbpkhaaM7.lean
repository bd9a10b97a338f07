/- S7, P7. -/
import Derived.Test.YtmjjkpiglbpkhaaM6
import Derived.Test.YtmjjkpiglbpkhaaChecked
import Derived.Test.YtmjjkpiglbpkhaaRows
import Derived.Test.YtmjjkpiglbpkhaaM4
import Derived.WalkKit
import Derived.ProofKit
import Derived.OpenShut
import Derived.JoinedCond
import Derived.Carry
/- Each function that stands here: what it is asked and leaves (_C), its condition (_VC), that it holds (_ok), its contract (_c). -/
set_option linter.unusedVariables false
set_option maxRecDepth 100000
set_option maxHeartbeats 20000000
namespace Go.Proofs.Ytmjjkpiglbpkhaa
open Go Go.RowKit Go.Inc
noncomputable def much_C : Ctr := ⟨[.v (.sl (.pr (.sl .byte) (.sl .byte)))], [.v .bool], none, fun a => (fun (a0_l : List ((List UInt8) × List UInt8)) => (((muchK a0_l), ()), (()))) a.1⟩
noncomputable def much_X : Fx := ⟨seat, some bkT, fns, [], [], [], [(5, [], [.o 0 2, .o 1 2, .o 2 2, .o 3 2, .o 4 2, .o 5 2, .o 6 2, .o 8 2, .o 9 2, .o 10 2, .o 11 2, .o 12 2, .o 13 2, .par [7, 14, 15, 16, 17] (.alt 7 0 (.one 14 0 (.one 15 2 (.one 16 2 (.one 17 2 .fin)))) (.alt 14 0 (.one 7 0 (.one 15 2 (.one 16 2 (.one 17 2 .fin)))) .fin))])]⟩
def much_VC (a0_l : List ((List UInt8) × List UInt8)) (Q : Bool → Prop) : Prop :=
  ∃ (x0 : Int → Int → Prop), ∃ (x1 : Int → Int → Nat), x0 (100000 : Int) (0 : Int) ∧ ∀ (x2 x3 : Int), x0 x2 x3 → (Kd.int IntKind.i64).wf x2 → (Kd.int IntKind.i64).wf x3 → (x3 < (a0_l.length : Int) → (x3 ≤ (100 : Int) → ((0 : Int) ≤ x2 → ((0 : Int) ≤ x3 ∧ x3 < (a0_l.length : Int)) ∧ ((0 : Int) ≤ x3 ∧ x3 < (a0_l.length : Int)) ∧ (x3 < (9223372036854775807 : Int) ∧ x0 (IntKind.i64.wrap (x2 - IntKind.i64.wrap ((bif false then max ((ix a0_l x3).fst.length : Int) (200000 : Int) else min ((ix a0_l x3).fst.length : Int) (200000 : Int)) + bif false then max ((ix a0_l x3).snd.length : Int) (200000 : Int) else min ((ix a0_l x3).snd.length : Int) (200000 : Int)))) (x3 + (1 : Int)) ∧ x1 (IntKind.i64.wrap (x2 - IntKind.i64.wrap ((bif false then max ((ix a0_l x3).fst.length : Int) (200000 : Int) else min ((ix a0_l x3).fst.length : Int) (200000 : Int)) + bif false then max ((ix a0_l x3).snd.length : Int) (200000 : Int) else min ((ix a0_l x3).snd.length : Int) (200000 : Int)))) (x3 + (1 : Int)) < x1 x2 x3) ∧ (x3 < (9223372036854775807 : Int) ∧ x0 (IntKind.i64.wrap (x2 - IntKind.i64.wrap ((bif false then max ((ix a0_l x3).fst.length : Int) (200000 : Int) else min ((ix a0_l x3).fst.length : Int) (200000 : Int)) + bif false then max ((ix a0_l x3).snd.length : Int) (200000 : Int) else min ((ix a0_l x3).snd.length : Int) (200000 : Int)))) (x3 + (1 : Int)) ∧ x1 (IntKind.i64.wrap (x2 - IntKind.i64.wrap ((bif false then max ((ix a0_l x3).fst.length : Int) (200000 : Int) else min ((ix a0_l x3).fst.length : Int) (200000 : Int)) + bif false then max ((ix a0_l x3).snd.length : Int) (200000 : Int) else min ((ix a0_l x3).snd.length : Int) (200000 : Int)))) (x3 + (1 : Int)) < x1 x2 x3) ∧ True) ∧ (¬(0 : Int) ≤ x2 → ((100 : Int) < (a0_l.length : Int) → Q true) ∧ (¬(100 : Int) < (a0_l.length : Int) → Q (decide (x2 < (0 : Int)))))) ∧ (¬x3 ≤ (100 : Int) → ((100 : Int) < (a0_l.length : Int) → Q true) ∧ (¬(100 : Int) < (a0_l.length : Int) → Q (decide (x2 < (0 : Int)))))) ∧ (¬x3 < (a0_l.length : Int) → ((100 : Int) < (a0_l.length : Int) → Q true) ∧ (¬(100 : Int) < (a0_l.length : Int) → Q (decide (x2 < (0 : Int)))))
theorem much_ok {a0_l : List ((List UInt8) × List UInt8)} (w_0 : (Ty.kd (.sl (.pr (.sl .byte) (.sl .byte)))).wf a0_l) : much_VC a0_l (fun o0 => o0 = (muchK a0_l)) := by
  unfold much_VC
  have hpos : ∀ x ∈ a0_l.map szK, 0 ≤ x := fun x hx => by obtain ⟨q, _, rfl⟩ := List.mem_map.1 hx; exact szK_pos q
  have hl : a0_l.length ≤ 281474976710656 := w_0.1
  refine ⟨fun left i => ∃ j : Nat, i = (j : Int) ∧ j ≤ a0_l.length ∧ j ≤ 101 ∧ left = 100000 - totI ((a0_l.map szK).take j) ∧ -700000 ≤ left ∧ left ≤ 100000, fun _ i => ((a0_l.length : Int) - i).toNat, ⟨0, rfl, Nat.zero_le _, by omega, by simp [totI], by omega, by omega⟩, ?_⟩
  rintro left i ⟨j, rfl, hj, hc, hleft, hlo, hhi⟩ _ _
  have big : (100 : Int) < (a0_l.length : Int) → true = muchK a0_l := fun h => (decide_eq_true (.inl (by omega))).symm
  have neg : left < 0 → ¬ (100 : Int) < (a0_l.length : Int) → decide (left < 0) = muchK a0_l := fun h hb => by
    have h1 := totI_take_le j hpos
    rw [decide_eq_true h]
    exact (decide_eq_true (.inr (by omega))).symm
  have all : j = a0_l.length → ¬ (100 : Int) < (a0_l.length : Int) → decide (left < 0) = muchK a0_l := fun h hb => by
    rw [h, List.take_of_length_le (by rw [List.length_map]; exact Nat.le_refl _)] at hleft
    exact decide_eq_decide.2 ⟨fun hn => .inr (by omega), fun hn => by omega⟩
  refine ⟨fun hlt => ⟨fun h100 => ⟨fun h0 => ?_, fun h0 => ⟨big, neg (by omega)⟩⟩, fun h100 => ⟨big, fun hb => absurd hb (by omega)⟩⟩, fun hge => ⟨big, all (by omega)⟩⟩
  have hj' : j < a0_l.length := by omega
  have htk := totI_take (l := a0_l.map szK) (i := j) (by rw [List.length_map]; exact hj')
  rw [List.getElem_map] at htk
  have hsz : szK a0_l[j] = min (a0_l[j].1.length : Int) 200000 + min (a0_l[j].2.length : Int) 200000 := rfl
  have h1 := szK_pos a0_l[j]
  rw [ixN hj']
  simp only [cond_false]
  have w1 : IntKind.i64.wrap (min (a0_l[j].1.length : Int) 200000 + min (a0_l[j].2.length : Int) 200000) = szK a0_l[j] := by
    rw [hsz]
    exact wrap_id (wf64 (by omega) (by omega))
  have w2 : IntKind.i64.wrap (left - szK a0_l[j]) = left - szK a0_l[j] := wrap_id (wf64 (by omega) (by omega))
  rw [w1, w2]
  have b : (0 : Int) ≤ (j : Int) ∧ (j : Int) < (a0_l.length : Int) := ⟨by omega, by omega⟩
  have go : (j : Int) < 9223372036854775807 ∧ (∃ j' : Nat, (j : Int) + 1 = (j' : Int) ∧ j' ≤ a0_l.length ∧ j' ≤ 101 ∧ left - szK a0_l[j] = 100000 - totI ((a0_l.map szK).take j') ∧ -700000 ≤ left - szK a0_l[j] ∧ left - szK a0_l[j] ≤ 100000) ∧ ((a0_l.length : Int) - ((j : Int) + 1)).toNat < ((a0_l.length : Int) - (j : Int)).toNat :=
    ⟨by omega, ⟨j + 1, rfl, hj', by omega, by omega, by omega, by omega⟩, by omega⟩
  exact ⟨b, b, go, go, trivial⟩
theorem much_eq : (∀ a, much_C.pre a → PM.wfP much_C.pm a (fvc much_X 200 28 much_C a (eqO much_C a))) = (∀ a : (List ((List UInt8) × List UInt8)) × Unit, True → (Ty.kd (.sl (.pr (.sl .byte) (.sl .byte)))).wf a.1 → much_VC a.1 (fun o0 => o0 = (muchK (a.1)))) := by kernel_rfl
theorem much_k : much_C.valid Try.prog 28 := ctr_of (X := much_X) (ok_of seat_ok (fun b hb => by cases hb; exact bkT_ok) fns_ok trivial) 200 (much_eq.mpr fun a hp w_0 => @much_ok a.1 w_0)
noncomputable def wide_C : Ctr := ⟨[.v (.pr (.int .i64) (.sl (.pr (.int .i64) (.pr (.pr (.sl .byte) (.sl .byte)) (.sl (.arr 32 .byte))))))], [.v .bool], none, fun a => (fun (a0_s : Int × List (Int × ((List UInt8) × List UInt8) × List (List UInt8))) => (((wideK a0_s), ()), (()))) a.1⟩
noncomputable def wide_X : Fx := ⟨seat, some bkT, fns, [], [], [], []⟩
def wide_VC (a0_s : Int × List (Int × ((List UInt8) × List UInt8) × List (List UInt8))) (Q : Bool → Prop) : Prop :=
  ∃ (x0 : Int → Int → Prop), ∃ (x1 : Int → Int → Nat), x0 (100000 : Int) (0 : Int) ∧ ∀ (x2 x3 : Int), x0 x2 x3 → (Kd.int IntKind.i64).wf x2 → (Kd.int IntKind.i64).wf x3 → (x3 < (a0_s.snd.length : Int) → (x3 ≤ (10 : Int) → ((0 : Int) ≤ x2 → ((0 : Int) ≤ x3 ∧ x3 < (a0_s.snd.length : Int)) ∧ x3 < (9223372036854775807 : Int) ∧ x0 (IntKind.i64.wrap (x2 - IntKind.i64.wrap (IntKind.i64.wrap ((bif false then max ((ix a0_s.snd x3).snd.fst.fst.length : Int) (200000 : Int) else min ((ix a0_s.snd x3).snd.fst.fst.length : Int) (200000 : Int)) + bif false then max ((ix a0_s.snd x3).snd.fst.snd.length : Int) (200000 : Int) else min ((ix a0_s.snd x3).snd.fst.snd.length : Int) (200000 : Int)) + IntKind.i64.wrap ((1000 : Int) * bif false then max ((ix a0_s.snd x3).snd.snd.length : Int) (200 : Int) else min ((ix a0_s.snd x3).snd.snd.length : Int) (200 : Int))))) (x3 + (1 : Int)) ∧ x1 (IntKind.i64.wrap (x2 - IntKind.i64.wrap (IntKind.i64.wrap ((bif false then max ((ix a0_s.snd x3).snd.fst.fst.length : Int) (200000 : Int) else min ((ix a0_s.snd x3).snd.fst.fst.length : Int) (200000 : Int)) + bif false then max ((ix a0_s.snd x3).snd.fst.snd.length : Int) (200000 : Int) else min ((ix a0_s.snd x3).snd.fst.snd.length : Int) (200000 : Int)) + IntKind.i64.wrap ((1000 : Int) * bif false then max ((ix a0_s.snd x3).snd.snd.length : Int) (200 : Int) else min ((ix a0_s.snd x3).snd.snd.length : Int) (200 : Int))))) (x3 + (1 : Int)) < x1 x2 x3) ∧ (¬(0 : Int) ≤ x2 → ((10 : Int) < (a0_s.snd.length : Int) → Q true) ∧ (¬(10 : Int) < (a0_s.snd.length : Int) → Q (decide (x2 < (0 : Int)))))) ∧ (¬x3 ≤ (10 : Int) → ((10 : Int) < (a0_s.snd.length : Int) → Q true) ∧ (¬(10 : Int) < (a0_s.snd.length : Int) → Q (decide (x2 < (0 : Int)))))) ∧ (¬x3 < (a0_s.snd.length : Int) → ((10 : Int) < (a0_s.snd.length : Int) → Q true) ∧ (¬(10 : Int) < (a0_s.snd.length : Int) → Q (decide (x2 < (0 : Int)))))
theorem wide_ok {a0_s : Int × List (Int × ((List UInt8) × List UInt8) × List (List UInt8))} (w_0 : (Ty.kd (.pr (.int .i64) (.sl (.pr (.int .i64) (.pr (.pr (.sl .byte) (.sl .byte)) (.sl (.arr 32 .byte))))))).wf a0_s) : wide_VC a0_s (fun o0 => o0 = (wideK a0_s)) := by
  obtain ⟨n, l⟩ := a0_s
  unfold wide_VC
  dsimp only
  have hpos : ∀ x ∈ l.map szW, 0 ≤ x := fun x hx => by obtain ⟨q, _, rfl⟩ := List.mem_map.1 hx; exact szW_pos q
  have hl : l.length ≤ 281474976710656 := w_0.2.1
  refine ⟨fun left i => ∃ j : Nat, i = (j : Int) ∧ j ≤ l.length ∧ j ≤ 11 ∧ left = 100000 - totI ((l.map szW).take j) ∧ -700000 ≤ left ∧ left ≤ 100000, fun _ i => ((l.length : Int) - i).toNat, ⟨0, rfl, Nat.zero_le _, by omega, by simp [totI], by omega, by omega⟩, ?_⟩
  rintro left i ⟨j, rfl, hj, hc, hleft, hlo, hhi⟩ _ _
  have big : (10 : Int) < (l.length : Int) → true = decide (10 < l.length ∨ 100000 < totI (l.map szW)) := fun h => (decide_eq_true (.inl (by omega))).symm
  have neg : left < 0 → ¬ (10 : Int) < (l.length : Int) → decide (left < 0) = decide (10 < l.length ∨ 100000 < totI (l.map szW)) := fun h hb => by
    have h1 := totI_take_le j hpos
    rw [decide_eq_true h]
    exact (decide_eq_true (.inr (by omega))).symm
  have all : j = l.length → ¬ (10 : Int) < (l.length : Int) → decide (left < 0) = decide (10 < l.length ∨ 100000 < totI (l.map szW)) := fun h hb => by
    rw [h, List.take_of_length_le (by rw [List.length_map]; exact Nat.le_refl _)] at hleft
    exact decide_eq_decide.2 ⟨fun hn => .inr (by omega), fun hn => by omega⟩
  refine ⟨fun hlt => ⟨fun h100 => ⟨fun h0 => ?_, fun h0 => ⟨big, neg (by omega)⟩⟩, fun h100 => ⟨big, fun hb => absurd hb (by omega)⟩⟩, fun hge => ⟨big, all (by omega)⟩⟩
  have hj' : j < l.length := by omega
  have htk := totI_take (l := l.map szW) (i := j) (by rw [List.length_map]; exact hj')
  rw [List.getElem_map] at htk
  have hsz : szW l[j] = min (l[j].2.1.1.length : Int) 200000 + min (l[j].2.1.2.length : Int) 200000 + 1000 * min (l[j].2.2.length : Int) 200 := rfl
  have h1 := szW_pos l[j]
  rw [ixN hj']
  simp only [cond_false]
  have w0 : IntKind.i64.wrap (1000 * min (l[j].2.2.length : Int) 200) = 1000 * min (l[j].2.2.length : Int) 200 := wrap_id (wf64 (by omega) (by omega))
  have w1 : IntKind.i64.wrap (min (l[j].2.1.1.length : Int) 200000 + min (l[j].2.1.2.length : Int) 200000 + 1000 * min (l[j].2.2.length : Int) 200) = szW l[j] := by
    rw [hsz]
    exact wrap_id (wf64 (by omega) (by omega))
  have w3 : IntKind.i64.wrap (min (l[j].2.1.1.length : Int) 200000 + min (l[j].2.1.2.length : Int) 200000) = min (l[j].2.1.1.length : Int) 200000 + min (l[j].2.1.2.length : Int) 200000 := wrap_id (wf64 (by omega) (by omega))
  have w2 : IntKind.i64.wrap (left - szW l[j]) = left - szW l[j] := wrap_id (wf64 (by omega) (by omega))
  rw [w0]
  first | rw [w1, w2] | rw [w3, w1, w2]
  exact ⟨⟨by omega, by show (j : Int) < (l.length : Int); omega⟩, by omega, ⟨j + 1, rfl, hj', by omega, by omega, by omega, by omega⟩, by omega⟩
theorem wide_eq : (∀ a, wide_C.pre a → PM.wfP wide_C.pm a (fvc wide_X 200 35 wide_C a (eqO wide_C a))) = (∀ a : (Int × List (Int × ((List UInt8) × List UInt8) × List (List UInt8))) × Unit, True → (Ty.kd (.pr (.int .i64) (.sl (.pr (.int .i64) (.pr (.pr (.sl .byte) (.sl .byte)) (.sl (.arr 32 .byte))))))).wf a.1 → wide_VC a.1 (fun o0 => o0 = (wideK (a.1)))) := by kernel_rfl
theorem wide_k : wide_C.valid Try.prog 35 := ctr_of (X := wide_X) (ok_of seat_ok (fun b hb => by cases hb; exact bkT_ok) fns_ok trivial) 200 (wide_eq.mpr fun a hp w_0 => @wide_ok a.1 w_0)
def strc0_0 : List UInt8 := []
noncomputable def stands_C : Ctr := ⟨[.v (.sl (.pr (.sl .byte) (.sl .byte))), .v (.sl .byte)], [.v .str, .v .bool], none, fun a => (fun (a0_l : List ((List UInt8) × List UInt8)) (a1_key : List UInt8) => (((standsK a0_l a1_key).1, (standsK a0_l a1_key).2, ()), (()))) a.1 a.2.1⟩
noncomputable def stands_X : Fx := ⟨seat, some bkT, fns, [], [], [], [(4, [], [.o 0 2, .o 1 2, .o 2 2, .o 3 2, .o 4 2, .o 5 2, .o 6 2, .o 7 2, .o 8 2])]⟩
def stands_VC (a0_l : List ((List UInt8) × List UInt8)) (a1_key : List UInt8) (Q : (List UInt8) → Bool → Prop) : Prop :=
  ∃ (x0 : List UInt8 → Bool → Int → Prop), ∃ (x1 : List UInt8 → Bool → Int → Nat), x0 strc0_0 false (0 : Int) ∧ ∀ (x2 : List UInt8) (x3 : Bool) (x4 : Int), x0 x2 x3 x4 → x2.length ≤ LM → (Kd.int IntKind.i64).wf x4 → (x4 < (a0_l.length : Int) → ((0 : Int) ≤ x4 ∧ x4 < (a0_l.length : Int)) ∧ ((ix a0_l x4).fst = a1_key → ((0 : Int) ≤ x4 ∧ x4 < (a0_l.length : Int)) ∧ Q (ix a0_l x4).snd true) ∧ (¬(ix a0_l x4).fst = a1_key → x4 < (9223372036854775807 : Int) ∧ x0 x2 x3 (x4 + (1 : Int)) ∧ x1 x2 x3 (x4 + (1 : Int)) < x1 x2 x3 x4)) ∧ (¬x4 < (a0_l.length : Int) → Q strc0_0 false)
theorem stands_ok {a0_l : List ((List UInt8) × List UInt8)} {a1_key : List UInt8} (w_0 : (Ty.kd (.sl (.pr (.sl .byte) (.sl .byte)))).wf a0_l) (w_1 : (Ty.kd (.sl .byte)).wf a1_key) : stands_VC a0_l a1_key (fun o0 o1 => o0 = (standsK a0_l a1_key).1 ∧ o1 = (standsK a0_l a1_key).2) := by
  unfold stands_VC
  have hl : a0_l.length ≤ 281474976710656 := w_0.1
  have e0 : strc0_0 = [] := rfl
  refine ⟨fun _ _ i => ∃ j : Nat, i = (j : Int) ∧ j ≤ a0_l.length ∧ standsK (a0_l.drop j) a1_key = standsK a0_l a1_key, fun _ _ i => ((a0_l.length : Int) - i).toNat, ⟨0, rfl, Nat.zero_le _, rfl⟩, ?_⟩
  rintro w b i ⟨j, rfl, hj, h⟩ _ _
  refine ⟨fun hlt => ?_, fun hge => ?_⟩
  · have hj' : j < a0_l.length := by omega
    rw [ixN hj']
    rw [List.drop_eq_getElem_cons hj'] at h
    have h : (if a0_l[j].1 = a1_key then (a0_l[j].2, true) else standsK (a0_l.drop (j + 1)) a1_key) = standsK a0_l a1_key := h
    refine ⟨⟨by omega, by omega⟩, fun he => ⟨⟨by omega, by omega⟩, ?_⟩, fun he => ⟨by omega, ⟨j + 1, rfl, hj', ?_⟩, by dsimp only; omega⟩⟩
    · rw [if_pos he] at h
      rw [← h]
      exact ⟨rfl, rfl⟩
    · rw [if_neg he] at h
      exact h
  · obtain rfl : j = a0_l.length := by omega
    rw [List.drop_length] at h
    rw [← h, e0]
    exact ⟨rfl, rfl⟩
theorem stands_eq : (∀ a, stands_C.pre a → PM.wfP stands_C.pm a (fvc stands_X 200 34 stands_C a (eqO stands_C a))) = (∀ a : (List ((List UInt8) × List UInt8)) × (List UInt8) × Unit, True → (Ty.kd (.sl (.pr (.sl .byte) (.sl .byte)))).wf a.1 → (Ty.kd (.sl .byte)).wf a.2.1 → stands_VC a.1 a.2.1 (fun o0 o1 => o0 = (standsK (a.1) (a.2.1)).1 ∧ o1 = (standsK (a.1) (a.2.1)).2)) := by kernel_rfl
theorem stands_k : stands_C.valid Try.prog 34 := ctr_of (X := stands_X) (ok_of seat_ok (fun b hb => by cases hb; exact bkT_ok) fns_ok trivial) 200 (stands_eq.mpr fun a hp w_0 w_1 => @stands_ok a.1 a.2.1 w_0 w_1)
noncomputable def three6_C : Ctr := ⟨[], [.ow 57 (.pr (.sl .byte) (.sl .byte))], none, fun _ => ((threeK, ()), (()))⟩
noncomputable def three6_X : Fx := ⟨seat, some bkT, fns, [], [], [], []⟩
def three6_VC (Q : (List ((List UInt8) × List UInt8)) → Prop) : Prop :=
  toB (98 : Int) :: ([] : List UInt8) ≠ ([] : List UInt8) ∧ toB (49 : Int) :: ([] : List UInt8) ≠ ([] : List UInt8) ∧ toB (100 : Int) :: ([] : List UInt8) ≠ ([] : List UInt8) ∧ toB (50 : Int) :: ([] : List UInt8) ≠ ([] : List UInt8) ∧ toB (102 : Int) :: ([] : List UInt8) ≠ ([] : List UInt8) ∧ toB (51 : Int) :: ([] : List UInt8) ≠ ([] : List UInt8) ∧ Q ((toB (98 : Int) :: ([] : List UInt8), toB (49 : Int) :: ([] : List UInt8)) :: (toB (100 : Int) :: ([] : List UInt8), toB (50 : Int) :: ([] : List UInt8)) :: (toB (102 : Int) :: ([] : List UInt8), toB (51 : Int) :: ([] : List UInt8)) :: ([] : List (List UInt8 × List UInt8)))
theorem three6_ok  : three6_VC  (fun o0 => o0 = threeK) := by
  exact ⟨by simp, by simp, by simp, by simp, by simp, by simp, rfl⟩
theorem three6_eq : (∀ a, three6_C.pre a → PM.wfP three6_C.pm a (fvc three6_X 200 76 three6_C a (eqO three6_C a))) = (∀ a : Unit, True → three6_VC  (fun o0 => o0 = threeK)) := by kernel_rfl
theorem three6_k : three6_C.valid Try.prog 76 := ctr_of (X := three6_X) (ok_of seat_ok (fun b hb => by cases hb; exact bkT_ok) fns_ok trivial) 200 (three6_eq.mpr fun a hp  => @three6_ok )
def strc1_50 : List UInt8 := [50]
def awake6_K1 (Q : Bool → Prop) : Prop :=
  (Ty.byte.sl.kd.wf (lookV (rootK threeK) (toB (120 : Int) :: ([] : List UInt8)) (showK threeK (toB (97 : Int) :: ([] : List UInt8)))) → (Ty.int IntKind.i64).kd.wf (lookE (rootK threeK) (toB (120 : Int) :: ([] : List UInt8)) (showK threeK (toB (97 : Int) :: ([] : List UInt8)))) → (mayK threeK = true → ((0 : Int) ≤ (1 : Int) ∧ (1 : Int) < (threeK.length : Int)) ∧ ((0 : Int) ≤ (0 : Int) ∧ (0 : Int) < (threeK.length : Int)) ∧ (¬mayK (ix threeK (1 : Int) :: ix threeK (0 : Int) :: ([] : List (List UInt8 × List UInt8))) = true → (((showK threeK (toB (100 : Int) :: ([] : List UInt8))).snd.length : Int) = (1 : Int) → ((0 : Int) ≤ (0 : Int) ∧ (0 : Int) < ((showK threeK (toB (100 : Int) :: ([] : List UInt8))).snd.length : Int)) ∧ ((ix (showK threeK (toB (100 : Int) :: ([] : List UInt8))).snd (0 : Int)).fst = (1 : Int) → (((showK threeK (toB (99 : Int) :: ([] : List UInt8))).snd.length : Int) = (2 : Int) → (lookV (rootK threeK) (toB (100 : Int) :: ([] : List UInt8)) (showK threeK (toB (100 : Int) :: ([] : List UInt8))) = strc1_50 → (lookT (rootK threeK) (toB (100 : Int) :: ([] : List UInt8)) (showK threeK (toB (100 : Int) :: ([] : List UInt8))) = true → (lookE (rootK threeK) (toB (100 : Int) :: ([] : List UInt8)) (showK threeK (toB (100 : Int) :: ([] : List UInt8))) = (0 : Int) → (¬lookT (rootK threeK) (toB (99 : Int) :: ([] : List UInt8)) (showK threeK (toB (99 : Int) :: ([] : List UInt8))) = true → (lookE (rootK threeK) (toB (99 : Int) :: ([] : List UInt8)) (showK threeK (toB (99 : Int) :: ([] : List UInt8))) = (0 : Int) → (lookE (rootK threeK) (toB (99 : Int) :: ([] : List UInt8)) (showK threeK (toB (100 : Int) :: ([] : List UInt8))) = (10 : Int) → Q (decide (lookE (rootK threeK) (toB (120 : Int) :: ([] : List UInt8)) (showK threeK (toB (97 : Int) :: ([] : List UInt8))) = (10 : Int)))) ∧ (¬lookE (rootK threeK) (toB (99 : Int) :: ([] : List UInt8)) (showK threeK (toB (100 : Int) :: ([] : List UInt8))) = (10 : Int) → Q false)) ∧ (¬lookE (rootK threeK) (toB (99 : Int) :: ([] : List UInt8)) (showK threeK (toB (99 : Int) :: ([] : List UInt8))) = (0 : Int) → Q false)) ∧ (lookT (rootK threeK) (toB (99 : Int) :: ([] : List UInt8)) (showK threeK (toB (99 : Int) :: ([] : List UInt8))) = true → Q false)) ∧ (¬lookE (rootK threeK) (toB (100 : Int) :: ([] : List UInt8)) (showK threeK (toB (100 : Int) :: ([] : List UInt8))) = (0 : Int) → Q false)) ∧ (lookT (rootK threeK) (toB (100 : Int) :: ([] : List UInt8)) (showK threeK (toB (100 : Int) :: ([] : List UInt8))) = false → Q false)) ∧ (¬lookV (rootK threeK) (toB (100 : Int) :: ([] : List UInt8)) (showK threeK (toB (100 : Int) :: ([] : List UInt8))) = strc1_50 → Q false)) ∧ (¬((showK threeK (toB (99 : Int) :: ([] : List UInt8))).snd.length : Int) = (2 : Int) → Q false)) ∧ (¬(ix (showK threeK (toB (100 : Int) :: ([] : List UInt8))).snd (0 : Int)).fst = (1 : Int) → Q false)) ∧ (¬((showK threeK (toB (100 : Int) :: ([] : List UInt8))).snd.length : Int) = (1 : Int) → Q false)) ∧ (mayK (ix threeK (1 : Int) :: ix threeK (0 : Int) :: ([] : List (List UInt8 × List UInt8))) = true → Q false)) ∧ (mayK threeK = false → Q false))
def awake6_K2 (Q : Bool → Prop) : Prop :=
  (((Ty.int IntKind.i64).pr ((Ty.int IntKind.i64).pr ((Ty.byte.sl.pr Ty.byte.sl).pr (Ty.arr (32 : Nat) Ty.byte).sl)).sl).kd.wf (showK threeK (toB (97 : Int) :: ([] : List UInt8))) → (∀ (x0 : Int × (List UInt8 × List UInt8) × List (List UInt8)), x0 ∈ (showK threeK (toB (97 : Int) :: ([] : List UInt8))).snd → x0.snd.fst.fst.length + x0.snd.fst.snd.length ≤ (70368744177664 : Nat) ∧ x0.snd.snd.length ≤ (65536 : Nat)) ∧ (awake6_K1 Q))
def awake6_K3 (Q : Bool → Prop) : Prop :=
  ((threeK.length ≤ (65536 : Nat) ∧ ∀ (x0 : List UInt8 × List UInt8), x0 ∈ threeK → x0.fst.length + x0.snd.length ≤ (70368744177664 : Nat)) ∧ (((Ty.int IntKind.i64).pr ((Ty.int IntKind.i64).pr ((Ty.byte.sl.pr Ty.byte.sl).pr (Ty.arr (32 : Nat) Ty.byte).sl)).sl).kd.wf (showK threeK (toB (97 : Int) :: ([] : List UInt8))) → toB (120 : Int) :: ([] : List UInt8) ≠ ([] : List UInt8) ∧ (∀ (x0 : Int × (List UInt8 × List UInt8) × List (List UInt8)), x0 ∈ (showK threeK (toB (97 : Int) :: ([] : List UInt8))).snd → x0.snd.fst.fst.length + x0.snd.fst.snd.length ≤ (70368744177664 : Nat) ∧ x0.snd.snd.length ≤ (65536 : Nat)) ∧ (awake6_K1 Q)))
def awake6_K4 (Q : Bool → Prop) : Prop :=
  ((toB (120 : Int) :: ([] : List UInt8) ≠ ([] : List UInt8) ∧ toB (97 : Int) :: ([] : List UInt8) ≠ ([] : List UInt8) ∧ (threeK.length ≤ (65536 : Nat) ∧ ∀ (x0 : List UInt8 × List UInt8), x0 ∈ threeK → x0.fst.length + x0.snd.length ≤ (70368744177664 : Nat)) ∧ (awake6_K2 Q)) ∧ (toB (97 : Int) :: ([] : List UInt8) ≠ ([] : List UInt8) ∧ (toB (120 : Int) :: ([] : List UInt8) ≠ ([] : List UInt8) ∧ (threeK.length ≤ (65536 : Nat) ∧ ∀ (x0 : List UInt8 × List UInt8), x0 ∈ threeK → x0.fst.length + x0.snd.length ≤ (70368744177664 : Nat)) ∧ (awake6_K2 Q)) ∧ (awake6_K3 Q) ∧ True) ∧ True)
noncomputable def awake6_C : Ctr := ⟨[], [.v .bool], none, fun _ => ((true, ()), (()))⟩
noncomputable def awake6_X : Fx := ⟨seat, some bkT, fns, [(76, three6_C), (32, kRootN_C), (32, kRoot_C), (33, kShow_C), (31, kLookN_C), (31, kLook_C), (29, kMay_C)], [], [], [(7, [], [.o 0 3, .o 3 3, .par [1, 2, 4, 5, 6] (.alt 1 1 (.alt 2 1 (.one 4 1 (.one 5 1 (.one 6 1 .fin))) (.alt 4 1 (.alt 2 1 (.one 5 1 (.one 6 1 .fin)) (.alt 5 1 (.alt 2 1 (.one 6 1 .fin) (.alt 6 1 (.one 2 1 .fin) .fin)) .fin)) .fin)) (.alt 4 1 (.alt 1 1 (.alt 2 1 (.one 5 1 (.one 6 1 .fin)) (.alt 5 1 (.alt 2 1 (.one 6 1 .fin) (.alt 6 1 (.one 2 1 .fin) .fin)) .fin)) (.alt 5 1 (.alt 1 1 (.alt 2 1 (.one 6 1 .fin) (.alt 6 1 (.one 2 1 .fin) .fin)) (.alt 6 1 (.one 1 1 (.one 2 1 .fin)) .fin)) .fin)) .fin)), .o 7 1, .o 8 3, .o 9 3, .o 10 3, .o 11 3, .o 12 3, .o 13 3, .o 14 3]), (8, [], [.o 0 2, .o 1 0, .o 2 2, .o 3 2, .o 4 2, .o 5 2, .o 6 2, .o 7 2, .o 8 2, .o 9 0, .o 10 0, .o 11 2, .o 12 2, .o 13 2, .o 14 2, .o 15 2, .o 16 2, .o 17 2, .o 18 2, .o 19 2, .o 20 2, .o 21 2, .o 22 2, .o 23 2, .o 24 2, .o 25 2, .o 26 2, .o 27 2, .o 28 2, .o 29 2, .o 30 2, .o 31 2, .o 32 2, .o 33 2, .o 34 2, .o 35 2, .o 36 2, .o 37 2, .o 38 2, .o 39 2, .o 40 2, .o 41 2, .o 42 2, .o 43 2, .o 44 2, .o 45 2, .o 46 2, .o 47 2, .o 48 2, .o 49 2, .o 50 2, .o 51 2, .o 52 2, .o 53 2, .o 54 2, .o 55 2, .o 56 2, .o 57 2, .o 58 2, .o 59 2, .o 60 2, .o 61 2])]⟩
def awake6_VC (Q : Bool → Prop) : Prop :=
  (Ty.byte.sl.pr Ty.byte.sl).kd.sl.wf threeK → (threeK.length ≤ (65536 : Nat) ∧ ∀ (x0 : List UInt8 × List UInt8), x0 ∈ threeK → x0.fst.length + x0.snd.length ≤ (70368744177664 : Nat)) ∧ ((Ty.arr (32 : Nat) Ty.byte).kd.wf (rootK threeK) → toB (100 : Int) :: ([] : List UInt8) ≠ ([] : List UInt8) ∧ (threeK.length ≤ (65536 : Nat) ∧ ∀ (x0 : List UInt8 × List UInt8), x0 ∈ threeK → x0.fst.length + x0.snd.length ≤ (70368744177664 : Nat)) ∧ (((Ty.int IntKind.i64).pr ((Ty.int IntKind.i64).pr ((Ty.byte.sl.pr Ty.byte.sl).pr (Ty.arr (32 : Nat) Ty.byte).sl)).sl).kd.wf (showK threeK (toB (100 : Int) :: ([] : List UInt8))) → toB (99 : Int) :: ([] : List UInt8) ≠ ([] : List UInt8) ∧ (threeK.length ≤ (65536 : Nat) ∧ ∀ (x0 : List UInt8 × List UInt8), x0 ∈ threeK → x0.fst.length + x0.snd.length ≤ (70368744177664 : Nat)) ∧ (((Ty.int IntKind.i64).pr ((Ty.int IntKind.i64).pr ((Ty.byte.sl.pr Ty.byte.sl).pr (Ty.arr (32 : Nat) Ty.byte).sl)).sl).kd.wf (showK threeK (toB (99 : Int) :: ([] : List UInt8))) → toB (100 : Int) :: ([] : List UInt8) ≠ ([] : List UInt8) ∧ (∀ (x0 : Int × (List UInt8 × List UInt8) × List (List UInt8)), x0 ∈ (showK threeK (toB (100 : Int) :: ([] : List UInt8))).snd → x0.snd.fst.fst.length + x0.snd.fst.snd.length ≤ (70368744177664 : Nat) ∧ x0.snd.snd.length ≤ (65536 : Nat)) ∧ (Ty.byte.sl.kd.wf (lookV (rootK threeK) (toB (100 : Int) :: ([] : List UInt8)) (showK threeK (toB (100 : Int) :: ([] : List UInt8)))) → (Ty.int IntKind.i64).kd.wf (lookE (rootK threeK) (toB (100 : Int) :: ([] : List UInt8)) (showK threeK (toB (100 : Int) :: ([] : List UInt8)))) → toB (99 : Int) :: ([] : List UInt8) ≠ ([] : List UInt8) ∧ (∀ (x0 : Int × (List UInt8 × List UInt8) × List (List UInt8)), x0 ∈ (showK threeK (toB (99 : Int) :: ([] : List UInt8))).snd → x0.snd.fst.fst.length + x0.snd.fst.snd.length ≤ (70368744177664 : Nat) ∧ x0.snd.snd.length ≤ (65536 : Nat)) ∧ (Ty.byte.sl.kd.wf (lookV (rootK threeK) (toB (99 : Int) :: ([] : List UInt8)) (showK threeK (toB (99 : Int) :: ([] : List UInt8)))) → (Ty.int IntKind.i64).kd.wf (lookE (rootK threeK) (toB (99 : Int) :: ([] : List UInt8)) (showK threeK (toB (99 : Int) :: ([] : List UInt8)))) → toB (99 : Int) :: ([] : List UInt8) ≠ ([] : List UInt8) ∧ (∀ (x0 : Int × (List UInt8 × List UInt8) × List (List UInt8)), x0 ∈ (showK threeK (toB (100 : Int) :: ([] : List UInt8))).snd → x0.snd.fst.fst.length + x0.snd.fst.snd.length ≤ (70368744177664 : Nat) ∧ x0.snd.snd.length ≤ (65536 : Nat)) ∧ (Ty.byte.sl.kd.wf (lookV (rootK threeK) (toB (99 : Int) :: ([] : List UInt8)) (showK threeK (toB (100 : Int) :: ([] : List UInt8)))) → (Ty.int IntKind.i64).kd.wf (lookE (rootK threeK) (toB (99 : Int) :: ([] : List UInt8)) (showK threeK (toB (100 : Int) :: ([] : List UInt8)))) → ((toB (120 : Int) :: ([] : List UInt8) ≠ ([] : List UInt8) ∧ toB (97 : Int) :: ([] : List UInt8) ≠ ([] : List UInt8) ∧ (threeK.length ≤ (65536 : Nat) ∧ ∀ (x0 : List UInt8 × List UInt8), x0 ∈ threeK → x0.fst.length + x0.snd.length ≤ (70368744177664 : Nat)) ∧ (awake6_K2 Q)) ∧ (awake6_K4 Q) ∧ True) ∧ ((awake6_K4 Q) ∧ (toB (97 : Int) :: ([] : List UInt8) ≠ ([] : List UInt8) ∧ ((toB (120 : Int) :: ([] : List UInt8) ≠ ([] : List UInt8) ∧ (threeK.length ≤ (65536 : Nat) ∧ ∀ (x0 : List UInt8 × List UInt8), x0 ∈ threeK → x0.fst.length + x0.snd.length ≤ (70368744177664 : Nat)) ∧ (awake6_K2 Q)) ∧ (awake6_K3 Q) ∧ True) ∧ (awake6_K3 Q) ∧ True) ∧ True) ∧ True))))))
theorem awake6_ok  : awake6_VC  (fun o0 => o0 = true) := by
  have e100 : toB (100 : Int) = 100 := by decide
  have e99 : toB (99 : Int) = 99 := by decide
  have e97 : toB (97 : Int) = 97 := by decide
  have e120 : toB (120 : Int) = 120 := by decide
  have p1 := three_small
  have sm := fun key : By => show_small (key := key) p1.1 p1.2
  obtain ⟨d1, d2, d3⟩ := tells (key := [100]) three_may
  obtain ⟨c1, c2, c3⟩ := tells (key := [99]) three_may
  have s1 : standsK threeK [100] = ([50], true) := by decide +kernel
  have s2 : standsK threeK [99] = ([], false) := by decide +kernel
  rw [s1] at d2 d3
  rw [s2] at c2 c3
  have n1 : mayK [ix threeK 1, ix threeK 0] = false := by decide +kernel
  have l1 : ((showK threeK [100]).2.length : Int) = 1 := by rw [three_d]; rfl
  have l2 : ((showK threeK [99]).2.length : Int) = 2 := by rw [three_c]; rfl
  have l3 : (ix (showK threeK [100]).2 0).1 = 1 := by rw [three_d]; rfl
  have k1 : awake6_K1 (fun o0 => o0 = true) := by
    unfold awake6_K1
    simp only [e100, e99, e97, e120]
    refine fun _ _ => ⟨fun _ => ⟨⟨by decide, by decide⟩, ⟨by decide, by decide⟩, fun _ => ⟨fun _ => ⟨⟨by omega, by omega⟩, fun _ => ⟨fun _ => ⟨fun _ => ⟨fun _ => ⟨fun _ => ⟨fun _ => ⟨fun _ => ⟨fun _ => decide_eq_true three_xa, fun h => absurd three_cd h⟩, fun h => absurd c1 h⟩, fun h => ?_⟩, fun h => absurd d1 h⟩, fun h => ?_⟩, fun h => absurd d3 h⟩, fun h => absurd l2 h⟩, fun h => absurd l3 h⟩, fun h => absurd l1 h⟩, fun h => ?_⟩, fun h => ?_⟩
    · rw [c2] at h; cases h
    · rw [d2] at h; cases h
    · rw [n1] at h; cases h
    · rw [three_may] at h; cases h
  have q : ∀ x : UInt8, [x] ≠ ([] : List UInt8) := fun x h => by cases h
  have k2 : awake6_K2 (fun o0 => o0 = true) := fun _ => ⟨sm _, k1⟩
  have k3 : awake6_K3 (fun o0 => o0 = true) := ⟨p1, fun _ => ⟨q _, sm _, k1⟩⟩
  have k4 : awake6_K4 (fun o0 => o0 = true) := ⟨⟨q _, q _, p1, k2⟩, ⟨q _, ⟨q _, p1, k2⟩, k3, trivial⟩, trivial⟩
  unfold awake6_VC
  exact fun _ => ⟨p1, fun _ => ⟨q _, p1, fun _ => ⟨q _, p1, fun _ => ⟨q _, sm _, fun _ _ => ⟨q _, sm _, fun _ _ => ⟨q _, sm _, fun _ _ => ⟨⟨⟨q _, q _, p1, k2⟩, k4, trivial⟩, ⟨k4, ⟨q _, ⟨⟨q _, p1, k2⟩, k3, trivial⟩, k3, trivial⟩, trivial⟩, trivial⟩⟩⟩⟩⟩⟩⟩
theorem awake6_eq : (∀ a, awake6_C.pre a → PM.wfP awake6_C.pm a (fvc awake6_X 200 30 awake6_C a (eqO awake6_C a))) = (∀ a : Unit, True → awake6_VC  (fun o0 => o0 = true)) := by kernel_rfl
theorem awake6_k : awake6_C.valid Try.prog 30 := ctr_of (X := awake6_X) (ok_of seat_ok (fun b hb => by cases hb; exact bkT_ok) fns_ok ⟨three6_k, kRootN_k, kRoot_k, kShow_k, kLookN_k, kLook_k, kMay_k, trivial⟩) 200 (awake6_eq.mpr fun a hp  => @awake6_ok )
noncomputable def KeyedTells_C : Ctr := ⟨[.v (.sl (.pr (.sl .byte) (.sl .byte))), .v (.sl .byte)], [.v .bool], none, fun a => (fun (a0_l : List ((List UInt8) × List UInt8)) (a1_key : List UInt8) => ((true, ()), (()))) a.1 a.2.1⟩
noncomputable def KeyedTells_X : Fx := ⟨seat, some bkT, fns, [(28, much_C), (29, kMay_C), (30, awake6_C), (32, kRootN_C), (32, kRoot_C), (33, kShow_C), (31, kLookN_C), (31, kLook_C), (34, stands_C)], [], [], []⟩
def KeyedTells_VC (a0_l : List ((List UInt8) × List UInt8)) (a1_key : List UInt8) (Q : Bool → Prop) : Prop :=
  (muchK a0_l = true → Q true) ∧ (muchK a0_l = false → ((1000 : Int) < (a1_key.length : Int) → Q true) ∧ (¬(1000 : Int) < (a1_key.length : Int) → (¬mayK a0_l = true → Q true) ∧ (mayK a0_l = true → ∃ (x0 : Bool → Int → Prop), ∃ (x1 : Bool → Int → Nat), x0 false (0 : Int) ∧ ∀ (x2 : Bool) (x3 : Int), x0 x2 x3 → (Kd.int IntKind.i64).wf x3 → (x3 ≤ (a0_l.length : Int) → (x3 < (a0_l.length : Int) → ((0 : Int) ≤ x3 ∧ x3 < (a0_l.length : Int)) ∧ (a0_l.length ≤ (65536 : Nat) ∧ ∀ (x8 : List UInt8 × List UInt8), x8 ∈ a0_l → x8.fst.length + x8.snd.length ≤ (70368744177664 : Nat)) ∧ ((Ty.arr (32 : Nat) Ty.byte).kd.wf (rootK a0_l) → (a0_l.length ≤ (65536 : Nat) ∧ ∀ (x9 : List UInt8 × List UInt8), x9 ∈ a0_l → x9.fst.length + x9.snd.length ≤ (70368744177664 : Nat)) ∧ (((Ty.int IntKind.i64).pr ((Ty.int IntKind.i64).pr ((Ty.byte.sl.pr Ty.byte.sl).pr (Ty.arr (32 : Nat) Ty.byte).sl)).sl).kd.wf (showK a0_l (ix a0_l x3).fst) → (∀ (x10 : Int × (List UInt8 × List UInt8) × List (List UInt8)), x10 ∈ (showK a0_l (ix a0_l x3).fst).snd → x10.snd.fst.fst.length + x10.snd.fst.snd.length ≤ (70368744177664 : Nat) ∧ x10.snd.snd.length ≤ (65536 : Nat)) ∧ (Ty.byte.sl.kd.wf (lookV (rootK a0_l) (ix a0_l x3).fst (showK a0_l (ix a0_l x3).fst)) → (Ty.int IntKind.i64).kd.wf (lookE (rootK a0_l) (ix a0_l x3).fst (showK a0_l (ix a0_l x3).fst)) → Ty.str.kd.wf (standsK a0_l (ix a0_l x3).fst).fst → (lookE (rootK a0_l) (ix a0_l x3).fst (showK a0_l (ix a0_l x3).fst) ≠ (0 : Int) → Q false) ∧ (¬lookE (rootK a0_l) (ix a0_l x3).fst (showK a0_l (ix a0_l x3).fst) ≠ (0 : Int) → (lookT (rootK a0_l) (ix a0_l x3).fst (showK a0_l (ix a0_l x3).fst) ≠ (standsK a0_l (ix a0_l x3).fst).snd → Q false) ∧ (¬lookT (rootK a0_l) (ix a0_l x3).fst (showK a0_l (ix a0_l x3).fst) ≠ (standsK a0_l (ix a0_l x3).fst).snd → (lookV (rootK a0_l) (ix a0_l x3).fst (showK a0_l (ix a0_l x3).fst) ≠ (standsK a0_l (ix a0_l x3).fst).fst → Q false) ∧ (¬lookV (rootK a0_l) (ix a0_l x3).fst (showK a0_l (ix a0_l x3).fst) ≠ (standsK a0_l (ix a0_l x3).fst).fst → x3 < (9223372036854775807 : Int) ∧ x0 x2 (x3 + (1 : Int)) ∧ x1 x2 (x3 + (1 : Int)) < x1 x2 x3))))))) ∧ (¬x3 < (a0_l.length : Int) → (a0_l.length ≤ (65536 : Nat) ∧ ∀ (x8 : List UInt8 × List UInt8), x8 ∈ a0_l → x8.fst.length + x8.snd.length ≤ (70368744177664 : Nat)) ∧ ((Ty.arr (32 : Nat) Ty.byte).kd.wf (rootK a0_l) → (a0_l.length ≤ (65536 : Nat) ∧ ∀ (x9 : List UInt8 × List UInt8), x9 ∈ a0_l → x9.fst.length + x9.snd.length ≤ (70368744177664 : Nat)) ∧ (((Ty.int IntKind.i64).pr ((Ty.int IntKind.i64).pr ((Ty.byte.sl.pr Ty.byte.sl).pr (Ty.arr (32 : Nat) Ty.byte).sl)).sl).kd.wf (showK a0_l a1_key) → (∀ (x10 : Int × (List UInt8 × List UInt8) × List (List UInt8)), x10 ∈ (showK a0_l a1_key).snd → x10.snd.fst.fst.length + x10.snd.fst.snd.length ≤ (70368744177664 : Nat) ∧ x10.snd.snd.length ≤ (65536 : Nat)) ∧ (Ty.byte.sl.kd.wf (lookV (rootK a0_l) a1_key (showK a0_l a1_key)) → (Ty.int IntKind.i64).kd.wf (lookE (rootK a0_l) a1_key (showK a0_l a1_key)) → Ty.str.kd.wf (standsK a0_l a1_key).fst → (lookE (rootK a0_l) a1_key (showK a0_l a1_key) ≠ (0 : Int) → Q false) ∧ (¬lookE (rootK a0_l) a1_key (showK a0_l a1_key) ≠ (0 : Int) → (lookT (rootK a0_l) a1_key (showK a0_l a1_key) ≠ (standsK a0_l a1_key).snd → Q false) ∧ (¬lookT (rootK a0_l) a1_key (showK a0_l a1_key) ≠ (standsK a0_l a1_key).snd → (lookV (rootK a0_l) a1_key (showK a0_l a1_key) ≠ (standsK a0_l a1_key).fst → Q false) ∧ (¬lookV (rootK a0_l) a1_key (showK a0_l a1_key) ≠ (standsK a0_l a1_key).fst → x3 < (9223372036854775807 : Int) ∧ x0 x2 (x3 + (1 : Int)) ∧ x1 x2 (x3 + (1 : Int)) < x1 x2 x3)))))))) ∧ (¬x3 ≤ (a0_l.length : Int) → Q true))))
theorem KeyedTells_ok {a0_l : List ((List UInt8) × List UInt8)} {a1_key : List UInt8} (w_0 : (Ty.kd (.sl (.pr (.sl .byte) (.sl .byte)))).wf a0_l) (w_1 : (Ty.kd (.sl .byte)).wf a1_key) : KeyedTells_VC a0_l a1_key (fun o0 => o0 = true) := by
  unfold KeyedTells_VC
  refine ⟨fun _ => rfl, fun hmu => ⟨fun _ => rfl, fun hk => ⟨fun _ => rfl, fun hm => ?_⟩⟩⟩
  obtain ⟨hl, hs⟩ := muchK_no hmu
  have p1 : a0_l.length ≤ (65536 : Nat) ∧ ∀ p ∈ a0_l, p.1.length + p.2.length ≤ (70368744177664 : Nat) := ⟨by omega, fun p hp => by have := hs p hp; omega⟩
  refine ⟨fun _ i => 0 ≤ i ∧ i ≤ (a0_l.length : Int) + 1, fun _ i => ((a0_l.length : Int) + 1 - i).toNat, ⟨by omega, by omega⟩, ?_⟩
  rintro b i ⟨h0, h1⟩ _
  refine ⟨fun hle => ⟨fun hlt => ?_, fun hge => ?_⟩, fun _ => rfl⟩
  · obtain ⟨t1, t2, t3⟩ := tells (key := (ix a0_l i).1) hm
    exact ⟨⟨h0, hlt⟩, p1, fun _ => ⟨p1, fun _ => ⟨show_small p1.1 p1.2, fun _ _ _ => ⟨fun hx => absurd t1 hx, fun _ => ⟨fun hx => absurd t2 hx, fun _ => ⟨fun hx => absurd t3 hx, fun _ => ⟨by omega, ⟨by omega, by omega⟩, by dsimp only; omega⟩⟩⟩⟩⟩⟩⟩
  · obtain ⟨t1, t2, t3⟩ := tells (key := a1_key) hm
    exact ⟨p1, fun _ => ⟨p1, fun _ => ⟨show_small p1.1 p1.2, fun _ _ _ => ⟨fun hx => absurd t1 hx, fun _ => ⟨fun hx => absurd t2 hx, fun _ => ⟨fun hx => absurd t3 hx, fun _ => ⟨by omega, ⟨by omega, by omega⟩, by dsimp only; omega⟩⟩⟩⟩⟩⟩⟩
theorem KeyedTells_eq : (∀ a, KeyedTells_C.pre a → PM.wfP KeyedTells_C.pm a (fvc KeyedTells_X 200 5 KeyedTells_C a (eqO KeyedTells_C a))) = (∀ a : (List ((List UInt8) × List UInt8)) × (List UInt8) × Unit, True → (Ty.kd (.sl (.pr (.sl .byte) (.sl .byte)))).wf a.1 → (Ty.kd (.sl .byte)).wf a.2.1 → KeyedTells_VC a.1 a.2.1 (fun o0 => o0 = true)) := by kernel_rfl
theorem KeyedTells_k : KeyedTells_C.valid Try.prog 5 := ctr_of (X := KeyedTells_X) (ok_of seat_ok (fun b hb => by cases hb; exact bkT_ok) fns_ok ⟨much_k, kMay_k, awake6_k, kRootN_k, kRoot_k, kShow_k, kLookN_k, kLook_k, stands_k, trivial⟩) 200 (KeyedTells_eq.mpr fun a hp w_0 w_1 => @KeyedTells_ok a.1 a.2.1 w_0 w_1)
def KeyedBinds_K1 (a0_l : List ((List UInt8) × List UInt8)) (a1_key : List UInt8) (a2_s : Int × List (Int × ((List UInt8) × List UInt8) × List (List UInt8))) (Q : Bool → Prop) : Prop :=
  (Ty.byte.sl.kd.wf (clashA (Option.map (fun (x0 : List Nt × Int) => ((x0.fst, ()), x0.snd)) (rootKbk (some (([] : List Nt), (0 : Int))) a0_l) :: Option.map (fun (x0 : List Nt × Int) => ((x0.fst, ()), x0.snd)) (lookBk (some (([] : List Nt), (0 : Int))) a1_key a2_s) :: ([] : List (Option ((List (List UInt8 × List UInt8) × Unit) × Int))))).fst → Ty.byte.sl.kd.wf (clashA (Option.map (fun (x0 : List Nt × Int) => ((x0.fst, ()), x0.snd)) (rootKbk (some (([] : List Nt), (0 : Int))) a0_l) :: Option.map (fun (x0 : List Nt × Int) => ((x0.fst, ()), x0.snd)) (lookBk (some (([] : List Nt), (0 : Int))) a1_key a2_s) :: ([] : List (Option ((List (List UInt8 × List UInt8) × Unit) × Int))))).snd.fst → ((clashA (Option.map (fun (x0 : List Nt × Int) => ((x0.fst, ()), x0.snd)) (rootKbk (some (([] : List Nt), (0 : Int))) a0_l) :: Option.map (fun (x0 : List Nt × Int) => ((x0.fst, ()), x0.snd)) (lookBk (some (([] : List Nt), (0 : Int))) a1_key a2_s) :: ([] : List (Option ((List (List UInt8 × List UInt8) × Unit) × Int))))).snd.snd = true → ((clashA (Option.map (fun (x0 : List Nt × Int) => ((x0.fst, ()), x0.snd)) (rootKbk (some (([] : List Nt), (0 : Int))) a0_l) :: Option.map (fun (x0 : List Nt × Int) => ((x0.fst, ()), x0.snd)) (lookBk (some (([] : List Nt), (0 : Int))) a1_key a2_s) :: ([] : List (Option ((List (List UInt8 × List UInt8) × Unit) × Int))))).fst ≠ (clashA (Option.map (fun (x0 : List Nt × Int) => ((x0.fst, ()), x0.snd)) (rootKbk (some (([] : List Nt), (0 : Int))) a0_l) :: Option.map (fun (x0 : List Nt × Int) => ((x0.fst, ()), x0.snd)) (lookBk (some (([] : List Nt), (0 : Int))) a1_key a2_s) :: ([] : List (Option ((List (List UInt8 × List UInt8) × Unit) × Int))))).snd.fst → Q true) ∧ (¬(clashA (Option.map (fun (x0 : List Nt × Int) => ((x0.fst, ()), x0.snd)) (rootKbk (some (([] : List Nt), (0 : Int))) a0_l) :: Option.map (fun (x0 : List Nt × Int) => ((x0.fst, ()), x0.snd)) (lookBk (some (([] : List Nt), (0 : Int))) a1_key a2_s) :: ([] : List (Option ((List (List UInt8 × List UInt8) × Unit) × Int))))).fst ≠ (clashA (Option.map (fun (x0 : List Nt × Int) => ((x0.fst, ()), x0.snd)) (rootKbk (some (([] : List Nt), (0 : Int))) a0_l) :: Option.map (fun (x0 : List Nt × Int) => ((x0.fst, ()), x0.snd)) (lookBk (some (([] : List Nt), (0 : Int))) a1_key a2_s) :: ([] : List (Option ((List (List UInt8 × List UInt8) × Unit) × Int))))).snd.fst → Q false)) ∧ ((clashA (Option.map (fun (x0 : List Nt × Int) => ((x0.fst, ()), x0.snd)) (rootKbk (some (([] : List Nt), (0 : Int))) a0_l) :: Option.map (fun (x0 : List Nt × Int) => ((x0.fst, ()), x0.snd)) (lookBk (some (([] : List Nt), (0 : Int))) a1_key a2_s) :: ([] : List (Option ((List (List UInt8 × List UInt8) × Unit) × Int))))).snd.snd = false → Q false))
def KeyedBinds_K2 (a0_l : List ((List UInt8) × List UInt8)) (a1_key : List UInt8) (a2_s : Int × List (Int × ((List UInt8) × List UInt8) × List (List UInt8))) (Q : Bool → Prop) : Prop :=
  (((a0_l.length ≤ (65536 : Nat) ∧ ∀ (x0 : List UInt8 × List UInt8), x0 ∈ a0_l → x0.fst.length + x0.snd.length ≤ (70368744177664 : Nat)) ∧ bookUpto (some (([] : List Nt), (0 : Int))) ((2 : Nat) * a0_l.length + (2 : Nat))) ∧ ((Ty.arr (32 : Nat) Ty.byte).kd.wf (rootK a0_l) → ((∀ (x0 : Int × (List UInt8 × List UInt8) × List (List UInt8)), x0 ∈ a2_s.snd → x0.snd.fst.fst.length + x0.snd.fst.snd.length ≤ (70368744177664 : Nat) ∧ x0.snd.snd.length ≤ (65536 : Nat)) ∧ bookUpto (some (([] : List Nt), (0 : Int))) (300000 : Nat)) ∧ (Ty.byte.sl.kd.wf (lookV (rootK a0_l) a1_key a2_s) → (Ty.int IntKind.i64).kd.wf (lookE (rootK a0_l) a1_key a2_s) → Ty.str.kd.wf (standsK a0_l a1_key).fst → (lookE (rootK a0_l) a1_key a2_s ≠ (0 : Int) → Q true) ∧ (¬lookE (rootK a0_l) a1_key a2_s ≠ (0 : Int) → (lookT (rootK a0_l) a1_key a2_s = (standsK a0_l a1_key).snd → (lookV (rootK a0_l) a1_key a2_s = (standsK a0_l a1_key).fst → Q true) ∧ (¬lookV (rootK a0_l) a1_key a2_s = (standsK a0_l a1_key).fst → clashPre (Option.map (fun (x0 : List Nt × Int) => ((x0.fst, ()), x0.snd)) (rootKbk (some (([] : List Nt), (0 : Int))) a0_l) :: Option.map (fun (x0 : List Nt × Int) => ((x0.fst, ()), x0.snd)) (lookBk (some (([] : List Nt), (0 : Int))) a1_key a2_s) :: ([] : List (Option ((List (List UInt8 × List UInt8) × Unit) × Int)))) ∧ (KeyedBinds_K1 a0_l a1_key a2_s Q))) ∧ (¬lookT (rootK a0_l) a1_key a2_s = (standsK a0_l a1_key).snd → clashPre (Option.map (fun (x0 : List Nt × Int) => ((x0.fst, ()), x0.snd)) (rootKbk (some (([] : List Nt), (0 : Int))) a0_l) :: Option.map (fun (x0 : List Nt × Int) => ((x0.fst, ()), x0.snd)) (lookBk (some (([] : List Nt), (0 : Int))) a1_key a2_s) :: ([] : List (Option ((List (List UInt8 × List UInt8) × Unit) × Int)))) ∧ (KeyedBinds_K1 a0_l a1_key a2_s Q))))))
noncomputable def KeyedBinds_C : Ctr := ⟨[.v (.sl (.pr (.sl .byte) (.sl .byte))), .v (.sl .byte), .v (.pr (.int .i64) (.sl (.pr (.int .i64) (.pr (.pr (.sl .byte) (.sl .byte)) (.sl (.arr 32 .byte))))))], [.v .bool], none, fun a => (fun (a0_l : List ((List UInt8) × List UInt8)) (a1_key : List UInt8) (a2_s : Int × List (Int × ((List UInt8) × List UInt8) × List (List UInt8))) => ((true, ()), (()))) a.1 a.2.1 a.2.2.1⟩
noncomputable def KeyedBinds_X : Fx := ⟨seat, some bkT, fns, [(28, much_C), (35, wide_C), (29, kMay_C), (30, awake6_C), (32, kRootN_C), (32, kRoot_C), (31, kLookN_C), (31, kLook_C), (34, stands_C), (36, Clash_C)], [], [], [(4, [0, 1, 2, 3, 4, 5, 6, 7, 8, 9, 10, 11, 12], [.o 0 3, .o 1 3, .o 2 3, .o 4 3, .par [3, 5] (.alt 3 1 (.one 5 1 .fin) (.alt 5 1 (.one 3 1 .fin) .fin)), .o 6 1, .o 7 3, .o 8 3, .o 9 3, .o 10 3, .o 11 3, .o 12 3, .o 13 3])]⟩
def KeyedBinds_VC (a0_l : List ((List UInt8) × List UInt8)) (a1_key : List UInt8) (a2_s : Int × List (Int × ((List UInt8) × List UInt8) × List (List UInt8))) (Q : Bool → Prop) : Prop :=
  (muchK a0_l = true → Q true) ∧ (muchK a0_l = false → (wideK a2_s = true → Q true) ∧ (wideK a2_s = false → ((1000 : Int) < (a1_key.length : Int) → Q true) ∧ (¬(1000 : Int) < (a1_key.length : Int) → (¬mayK a0_l = true → Q true) ∧ (mayK a0_l = true → (KeyedBinds_K2 a0_l a1_key a2_s Q) ∧ (KeyedBinds_K2 a0_l a1_key a2_s Q) ∧ True))))
theorem KeyedBinds_ok {a0_l : List ((List UInt8) × List UInt8)} {a1_key : List UInt8} {a2_s : Int × List (Int × ((List UInt8) × List UInt8) × List (List UInt8))} (w_0 : (Ty.kd (.sl (.pr (.sl .byte) (.sl .byte)))).wf a0_l) (w_1 : (Ty.kd (.sl .byte)).wf a1_key) (w_2 : (Ty.kd (.pr (.int .i64) (.sl (.pr (.int .i64) (.pr (.pr (.sl .byte) (.sl .byte)) (.sl (.arr 32 .byte))))))).wf a2_s) : KeyedBinds_VC a0_l a1_key a2_s (fun o0 => o0 = true) := by
  have up : ∀ n, n ≤ 1048576 → bookUpto (some (([] : List Nt), (0 : Int))) n := fun n hn y hy => by
    cases hy
    simpa using hn
  have gr : greatB (some (([] : List Nt), (0 : Int))) := fun y hy z hz => by
    cases hy
    cases hz
  have fz : ∀ b : BookA, Option.map (fun x : List Nt × Int => ((x.1, ()), x.2)) b = frzB b := fun _ => rfl
  unfold KeyedBinds_VC
  refine ⟨fun _ => rfl, fun hmu => ⟨fun _ => rfl, fun hwi => ⟨fun _ => rfl, fun hk => ⟨fun _ => rfl, fun hm => ?_⟩⟩⟩⟩
  obtain ⟨hl, hs⟩ := muchK_no hmu
  obtain ⟨hn, hx⟩ := wideK_no hwi
  have ho : ∀ x ∈ a2_s.2, okSp x := fun x h => ⟨(hx x h).1, (hx x h).2, fun z hz => ((w_2.2.2 x h).2.2.2 z hz).1⟩
  obtain ⟨A, hA⟩ := Option.isSome_iff_exists.1 (rootKbk_isSome (l := a0_l) (b := some (([] : List Nt), (0 : Int))) rfl)
  obtain ⟨B, hB⟩ := Option.isSome_iff_exists.1 (lookBk_isSome (key := a1_key) (s := a2_s) (b := some (([] : List Nt), (0 : Int))) rfl)
  obtain ⟨gA, uA⟩ := rootKbk_small hl hs gr (up _ (by omega))
  obtain ⟨gB, uB⟩ := lookBk_small (key := a1_key) ho hn w_2.1 gr (up _ (by omega))
  rw [hA] at gA uA
  rw [hB] at gB uB
  have cp := clashPre_great uA uB gA gB
  have hcl := clash_pair A B
  have main : lookE (rootK a0_l) a1_key a2_s = 0 → ¬ (lookT (rootK a0_l) a1_key a2_s = (standsK a0_l a1_key).2 ∧ lookV (rootK a0_l) a1_key a2_s = (standsK a0_l a1_key).1) → (clashA [frzB (some A), frzB (some B)]).2.2 = true := fun he hne => by
    cases hf : (clashA [frzB (some A), frzB (some B)]).2.2 with
    | true => rfl
    | false => exact absurd (binds hm (hcl.2 hf) hA hB hl hs ho w_2.1 he) hne
  have k1 : lookE (rootK a0_l) a1_key a2_s = 0 → ¬ (lookT (rootK a0_l) a1_key a2_s = (standsK a0_l a1_key).2 ∧ lookV (rootK a0_l) a1_key a2_s = (standsK a0_l a1_key).1) → KeyedBinds_K1 a0_l a1_key a2_s (fun o0 => o0 = true) := fun he hne => by
    have hD := main he hne
    unfold KeyedBinds_K1
    simp only [fz, hA, hB]
    exact fun _ _ => ⟨fun h => ⟨fun _ => trivial, fun h2 => absurd (hcl.1 h) h2⟩, fun h => by rw [hD] at h; cases h⟩
  have k2 : KeyedBinds_K2 a0_l a1_key a2_s (fun o0 => o0 = true) := by
    unfold KeyedBinds_K2
    simp only [fz, hA, hB]
    refine ⟨⟨⟨by omega, fun p hp => by have := hs p hp; omega⟩, up _ (by omega)⟩, fun _ => ⟨⟨fun x h => by obtain ⟨h1, h2⟩ := hx x h; omega, up _ (by omega)⟩, fun _ _ _ => ⟨fun _ => trivial, fun he => ⟨fun h1 => ⟨fun _ => trivial, fun h2 => ⟨cp, k1 (Classical.not_not.1 he) fun hh => h2 hh.2⟩⟩, fun h1 => ⟨cp, k1 (Classical.not_not.1 he) fun hh => h1 hh.1⟩⟩⟩⟩⟩
  exact ⟨k2, k2, trivial⟩
theorem KeyedBinds_eq : (∀ a, KeyedBinds_C.pre a → PM.wfP KeyedBinds_C.pm a (fvc KeyedBinds_X 200 6 KeyedBinds_C a (eqO KeyedBinds_C a))) = (∀ a : (List ((List UInt8) × List UInt8)) × (List UInt8) × (Int × List (Int × ((List UInt8) × List UInt8) × List (List UInt8))) × Unit, True → (Ty.kd (.sl (.pr (.sl .byte) (.sl .byte)))).wf a.1 → (Ty.kd (.sl .byte)).wf a.2.1 → (Ty.kd (.pr (.int .i64) (.sl (.pr (.int .i64) (.pr (.pr (.sl .byte) (.sl .byte)) (.sl (.arr 32 .byte))))))).wf a.2.2.1 → KeyedBinds_VC a.1 a.2.1 a.2.2.1 (fun o0 => o0 = true)) := by kernel_rfl
theorem KeyedBinds_k : KeyedBinds_C.valid Try.prog 6 := ctr_of (X := KeyedBinds_X) (ok_of seat_ok (fun b hb => by cases hb; exact bkT_ok) fns_ok ⟨much_k, wide_k, kMay_k, awake6_k, kRootN_k, kRoot_k, kLookN_k, kLook_k, stands_k, Clash_k, trivial⟩) 200 (KeyedBinds_eq.mpr fun a hp w_0 w_1 w_2 => @KeyedBinds_ok a.1 a.2.1 a.2.2.1 w_0 w_1 w_2)
end Go.Proofs.Ytmjjkpiglbpkhaa

/-
  PLAIN 7: what the arguments of a statement are, told in the kinds of BASE: each argument that can be read is of its kind, over the ghost of the whole heap.
-/
set_option linter.unusedVariables false
namespace Go.Proofs.Ytmjjkpiglbpkhaa
open Go Go.RowKit Go.Inc Go.ChangeShapes Go.WideShapes Go.ChangeAt

theorem one_le {H : Type} (d : DataW H) : 1 ≤ Rows.uptoBulk d := by
  cases d with
  | lit l => cases l <;> simp [Rows.uptoBulk]
  | nil => simp [Rows.uptoBulk]
  | ptr d => simp [Rows.uptoBulk]
  | slice elems spare => simp [Rows.uptoBulk]
  | agg parts => simp [Rows.uptoBulk]
  | iface t d => simp [Rows.uptoBulk]
  | map entries => simp [Rows.uptoBulk]
  | held h => simp [Rows.uptoBulk]
theorem part_le {H : Type} {d : DataW H} {l : List (DataW H)} (h : d ∈ l) : Rows.uptoBulk d ≤ Rows.uptoBulkAll l := by
  induction l with
  | nil => cases h
  | cons x r ih =>
    simp only [Rows.uptoBulkAll]
    cases List.mem_cons.1 h with
    | inl e => subst e; omega
    | inr e => have := ih e; omega
theorem length_le {H : Type} (l : List (DataW H)) : l.length ≤ Rows.uptoBulkAll l := by
  induction l with
  | nil => simp [Rows.uptoBulkAll]
  | cons x r ih => have := one_le x; simp only [Rows.uptoBulkAll, List.length_cons]; omega
theorem small_of {H : Type} {l : List (DataW H)} (hk : Rows.uptoSmall H l = true) : Rows.uptoBulkAll l ≤ 1048576 := by
  simpa [Rows.uptoSmall] using hk

/-- the whole heap's rows, as they are -/
def GhostW (w : World) : Ghost := fun b => match w.heap[b]? with
  | some (.cells c t _) => some (t, c.toList)
  | _ => none
theorem Models.ofW (w : World) : Models w (GhostW w) := fun b t l h => by
  unfold GhostW at h
  split at h
  · rename_i c t' fr hh
    cases h
    exact ⟨c, fr, hh, List.prefix_refl _⟩
  · cases h
section
variable {P : Program} {α β : Type} {k : Kd α} {k' : Kd β} {t e : TypeId} {by_ : Nat} {S : α → Prop} {S' : β → Prop}
/-- so great a thing may be: every list has at most 1048576 members -/
def sm0 {α : Type} : α → Prop := fun _ => True
def smL {α : Type} (S : α → Prop) : List α → Prop := fun l => l.length ≤ 1048576 ∧ ∀ x ∈ l, S x
def smP {α β : Type} (S : α → Prop) (T : β → Prop) : α × β → Prop := fun x => S x.1 ∧ T x.2
/-- Whatever can be read at type t, within the bound, is of kind k (and not too great). -/
def Rds (P : Program) (t : TypeId) (k : Kd α) (S : α → Prop) : Prop := ∀ (H : Type) (enc : TypeId × Value → H) (w : World) (base : Nat) (held : Bool) (fuel : Nat) (cs : List Value) (x : DataW H × List MemPlace),
  DataW.trod enc P w base (fun _ => true) held fuel t cs = some x → Rows.uptoBulk x.1 ≤ 1048576 → ∃ a, k.R (GhostW w) a cs ∧ S a
theorem cellsOf_ty (h : TyOk P t k by_) : P.cellsOf t = k.sz := by
  obtain ⟨i, z, hi, hs, _⟩ := h.info
  simp [Program.cellsOf, hi, hs]
theorem rds_int {ik : IntKind} (ht : P.underlying t = some (.int ik)) : Rds P t (Kd.int ik) sm0 := fun H enc w base held fuel cs x h hb => by
  obtain ⟨n, rfl, _, hw⟩ := DataW.trod_int ht h
  refine ⟨n, ⟨rfl, ?_⟩, trivial⟩
  simpa [Lit.wf] using hw
theorem rds_byte (ht : P.underlying t = some (.int .u8)) : Rds P t Kd.byte sm0 := fun H enc w base held fuel cs x h hb => by
  obtain ⟨n, rfl, _, hw⟩ := DataW.trod_int ht h
  have hw : 0 ≤ n ∧ n ≤ 255 := by simpa [Lit.wf, IntKind.min, IntKind.max, IntKind.signed, IntKind.bits] using hw
  refine ⟨UInt8.ofNat n.toNat, ?_, trivial⟩
  show [Value.int .u8 n] = [.int .u8 _]
  congr 2
  have : (UInt8.ofNat n.toNat).toNat = n.toNat := by simp; omega
  omega
/-- so many cells, one after another -/
theorem ghost_cells {w : World} {base n : Nat} {a : Addr} {cs : List Value} (h : w.cells? base a n = some cs) (hn : 0 < n) :
    a.spot = none ∧ ∃ e l, GhostW w a.block = some (e, l) ∧ a.off + n ≤ l.length ∧ (l.drop a.off).take n = cs := by
  unfold World.cells? at h
  split at h
  case isFalse => cases h
  case isTrue hb =>
  have hl := mapM_some_length h
  have hg := fun i (hi : i < n) => mapM_some_get h i i (by simp [hi])
  have h0 := hg 0 hn
  have hc0 : 0 < cs.length := by rw [hl]; simpa using hn
  rw [List.getElem?_eq_getElem hc0] at h0
  unfold World.cell? at h0
  have ea : ∀ i, (a.add i).block = a.block := fun i => by unfold Addr.add; split <;> rfl
  have eo : ∀ i, (a.add i).off = a.off + i := fun i => by unfold Addr.add; split <;> simp_all
  have ha0 : a.add 0 = a := by simp [Addr.add]
  rw [ha0] at h0
  cases hh : w.heap[a.block]? with
  | none => rw [hh] at h0; cases h0
  | some o =>
    rw [hh] at h0
    cases o with
    | cells c e fr =>
      simp only at h0
      split at h0
      · cases h0
      · rename_i hs
        have hs : a.spot = none := by simpa using hs
        refine ⟨hs, e, c.toList, by simp [GhostW, hh], ?_⟩
        have hgc : ∀ i, i < n → c[a.off + i]? = cs[i]? := fun i hi => by
          have := hg i hi
          unfold World.cell? at this
          rw [ea, eo, hh] at this
          have hs' : (a.add i).spot.isSome = false := by unfold Addr.add; split <;> simp_all
          simpa [hs'] using this
        have hlen : cs.length = n := by rw [hl]; simp
        have hbound : a.off + n ≤ c.toList.length := by
          have h1 := hgc (n - 1) (by omega)
          rw [List.getElem?_eq_getElem (by omega)] at h1
          have := (Array.getElem?_eq_some_iff.1 h1).1
          simp only [Array.length_toList]
          omega
        refine ⟨hbound, ?_⟩
        apply List.ext_getElem?
        intro i
        rcases Nat.lt_or_ge i n with hi | hi
        · rw [List.getElem?_take, if_pos hi, List.getElem?_drop, ← hgc i hi]
          simp
        · rw [List.getElem?_take, if_neg (by omega), List.getElem?_eq_none (by omega)]
    | _ => simp at h0
theorem RL_flat {R : α → List Value → Prop} : ∀ (n : Nat) (f : Nat → List Value), (∀ i, i < n → ∃ a, R a (f i) ∧ S a) → ∃ l, l.length = n ∧ RL R l ((List.range n).map f).flatten ∧ ∀ x ∈ l, S x
  | 0, f, _ => ⟨[], rfl, by simp [RL], by simp⟩
  | n + 1, f, h => by
    obtain ⟨l, hl, hR, hS⟩ := RL_flat n f (fun i hi => h i (by omega))
    obtain ⟨a, ha, hs⟩ := h n (by omega)
    refine ⟨l ++ [a], by simp [hl], ?_, fun x hx => (List.mem_append.1 hx).elim (hS x) (fun h => by rw [List.mem_singleton.1 h]; exact hs)⟩
    rw [List.range_succ]
    simp only [List.map_append, List.map_cons, List.map_nil, List.flatten_append, List.flatten_cons, List.flatten_nil, List.append_nil]
    exact RL.append hR (RL.single ha)
/-- a list cut into n parts of s each -/
theorem parts_flat (s : Nat) : ∀ (n : Nat) (l : List Value), n * s ≤ l.length → ((List.range n).map fun i => (l.drop (i * s)).take s).flatten = l.take (n * s)
  | 0, l, _ => by simp
  | n + 1, l, h => by
    have e : (n + 1) * s = n * s + s := Nat.succ_mul n s
    rw [List.range_succ]
    simp only [List.map_append, List.map_cons, List.map_nil, List.flatten_append, List.flatten_cons, List.flatten_nil, List.append_nil]
    rw [parts_flat s n l (by omega), e, List.take_add]
theorem rds_sl (ht : P.underlying t = some (.slice e)) (hT : TyOk P e k by_) (h0 : Nat.blt 0 k.sz = true) (hR : Rds P e k S) : Rds P t (Kd.sl k) (smL S) := fun H enc w base held fuel cs x h hb => by
  have h0 : 0 < k.sz := Nat.le_of_ble_eq_true h0
  rcases DataW.trod_slice ht h with ⟨rfl, rfl⟩ | ⟨a, len, cap, elems, rest, n, _, rfl, rfl, hbs, hl, hm, hlen, hel, _, _⟩
  · exact ⟨[], ⟨none, 0, rfl, by simp, by simp [LM], by simp, .inl rfl⟩, by simp, by simp⟩
  · rw [cellsOf_ty hT] at hel
    have hbulk : elems.length ≤ 1048576 := by
      have := length_le (elems.map (·.1))
      simp only [Rows.uptoBulk, List.length_map] at hb this
      omega
    have hparts : ∀ i, i < len → ∃ cs' y, w.cells? base (a.add (i * k.sz)) k.sz = some cs' ∧ DataW.trod enc P w base (fun _ => true) held n e cs' = some y ∧ Rows.uptoBulk y.1 ≤ 1048576 := fun i hi => by
      have h1 := hel i hi
      rw [List.getElem?_eq_getElem (by omega)] at h1
      obtain ⟨cs', h2, h3⟩ := Option.bind_eq_some_iff.1 h1
      refine ⟨cs', _, h2, h3, ?_⟩
      have := part_le (l := elems.map (·.1)) (d := (elems[i]'(by omega)).1) (List.mem_map.2 ⟨_, List.getElem_mem _, rfl⟩)
      simp only [Rows.uptoBulk] at hb
      omega
    rcases Nat.eq_zero_or_pos len with hz | hp
    · exact ⟨[], ⟨some a, cap, by simp [hz], by simp, by simp [LM], by simp, .inl rfl⟩, by simp, by simp⟩
    · obtain ⟨cs0, y0, hc0, _, _⟩ := hparts 0 hp
      rw [Nat.zero_mul, show a.add 0 = a by simp [Addr.add]] at hc0
      obtain ⟨hs, e', l, hg, _, _⟩ := ghost_cells hc0 h0
      have ea : a = ⟨a.block, a.off, none⟩ := by cases a; simp_all
      have key : ∀ i, i < len → a.off + i * k.sz + k.sz ≤ l.length ∧ w.cells? base (a.add (i * k.sz)) k.sz = some (((l.drop a.off).drop (i * k.sz)).take k.sz) := fun i hi => by
        obtain ⟨cs', y, hc, _, _⟩ := hparts i hi
        obtain ⟨_, e2, l2, hg2, hle, htk⟩ := ghost_cells hc h0
        rw [ea, add_lit] at hg2 hle htk
        simp only at hg2 hle htk
        rw [hg] at hg2
        cases hg2
        refine ⟨hle, ?_⟩
        rw [hc, List.drop_drop, ← htk]
      have hlast := (key (len - 1) (by omega)).1
      have hall : a.off + len * k.sz ≤ l.length := by
        have : len * k.sz = (len - 1) * k.sz + k.sz := by
          conv => lhs; rw [show len = (len - 1) + 1 by omega]
          exact Nat.succ_mul _ _
        omega
      obtain ⟨xs, hxl, hxR, hxS⟩ := RL_flat (S := S) (R := k.R (GhostW w)) len (fun i => ((l.drop a.off).drop (i * k.sz)).take k.sz) (fun i hi => by
        obtain ⟨cs', y, hc, ht', hb'⟩ := hparts i hi
        rw [(key i hi).2] at hc
        cases hc
        exact hR _ _ _ _ _ _ _ _ ht' hb')
      rw [parts_flat k.sz len (l.drop a.off) (by rw [List.length_drop]; omega)] at hxR
      refine ⟨xs, ⟨some a, cap, by rw [hxl], by omega, by simp only [LM]; omega, fun x hx => ?_, .inr ⟨a.block, e', l.take a.off, (l.drop a.off).take (len * k.sz), (l.drop a.off).drop (len * k.sz), ?_, ?_, hxR⟩⟩, by omega, hxS⟩
      · exact RL.all (p := k.wf) (fun _ _ => k.hwf) hxR x hx
      · rw [List.length_take, Nat.min_eq_left (by omega)]
        exact congrArg some ea
      · rw [hg, List.append_assoc, List.take_append_drop, List.take_append_drop]
theorem rds_arr {n by_' : Nat} (ht : P.underlying t = some (.array n e)) (hT : TyOk P e k by_) (hT' : TyOk P t (Kd.arr n k) by_') (hR : Rds P e k S) : Rds P t (Kd.arr n k) (smL S) := fun H enc w base held fuel cs x h hb => by
  obtain ⟨xs, m, _, rfl, hlen, hxl, hx⟩ := DataW.trod_array ht h
  rw [cellsOf_ty hT] at hx
  rw [cellsOf_ty hT'] at hlen
  have hlen : cs.length = n * k.sz := hlen
  obtain ⟨l, hl, hlR, hlS⟩ := RL_flat (S := S) (R := k.R (GhostW w)) n (fun i => (cs.drop (i * k.sz)).take k.sz) (fun i hi => by
    have h1 := hx i hi
    rw [List.getElem?_eq_getElem (by omega)] at h1
    refine hR _ _ _ _ _ _ _ _ h1 ?_
    have := part_le (l := xs.map (·.1)) (d := (xs[i]'(by omega)).1) (List.mem_map.2 ⟨_, List.getElem_mem _, rfl⟩)
    simp only [Rows.uptoBulk] at hb
    omega)
  rw [parts_flat k.sz n cs (by omega), List.take_of_length_le (by omega)] at hlR
  have hbulk : xs.length ≤ 1048576 := by
    have := length_le (xs.map (·.1))
    simp only [Rows.uptoBulk, List.length_map] at hb this
    omega
  exact ⟨l, ⟨hl, hlR⟩, by omega, hlS⟩
/-- the fields fs, read out of cs from off on, are of kind k -/
def RdsF (P : Program) (fs : List Field) (off : Nat) (k : Kd α) (S : α → Prop) : Prop := ∀ (H : Type) (enc : TypeId × Value → H) (w : World) (base : Nat) (held : Bool) (fuel : Nat) (cs : List Value),
  (∀ f ∈ fs, ∃ x : DataW H × List MemPlace, DataW.trod enc P w base (fun _ => true) held fuel f.type ((cs.drop f.offset).take (P.cellsOf f.type)) = some x ∧ Rows.uptoBulk x.1 ≤ 1048576) → ∃ a, k.R (GhostW w) a ((cs.drop off).take k.sz) ∧ S a
theorem rdsF_one {f : Field} {off : Nat} (hT : TyOk P f.type k by_) (ho : Nat.beq f.offset off = true) (hR : Rds P f.type k S) : RdsF P [f] off k S := fun H enc w base held fuel cs h => by
  obtain ⟨x, h1, h2⟩ := h f (.head _)
  rw [Nat.eq_of_beq_eq_true ho, cellsOf_ty hT] at h1
  exact hR _ _ _ _ _ _ _ _ h1 h2
theorem rdsF_cons {fs : List Field} {f : Field} {off : Nat} (hT : TyOk P f.type k by_) (ho : Nat.beq f.offset off = true) (hR : Rds P f.type k S) (hF : RdsF P fs (off + k.sz) k' S') : RdsF P (f :: fs) off (Kd.pr k k') (smP S S') := fun H enc w base held fuel cs h => by
  obtain ⟨b, hb, hbS⟩ := hF H enc w base held fuel cs (fun f hf => h f (.tail _ hf))
  obtain ⟨x, h1, h2⟩ := h f (.head _)
  rw [Nat.eq_of_beq_eq_true ho, cellsOf_ty hT] at h1
  obtain ⟨a, ha, haS⟩ := hR _ _ _ _ _ _ _ _ h1 h2
  refine ⟨(a, b), ⟨_, _, ?_, ha, hb⟩, haS, hbS⟩
  show (cs.drop off).take (k.sz + k'.sz) = _
  rw [List.take_add, List.drop_drop]
theorem rds_struct {fs : Array Field} (ht : P.underlying t = some (.struct fs)) (hT : TyOk P t k by_) (hF : RdsF P fs.toList 0 k S) : Rds P t k S := fun H enc w base held fuel cs x h hb => by
  obtain ⟨xs, n, _, rfl, hlen, hxl, hx⟩ := DataW.trod_struct ht h
  rw [cellsOf_ty hT] at hlen
  obtain ⟨a, ha, haS⟩ := hF H enc w base held n cs (fun f hf => by
    obtain ⟨i, hi, rfl⟩ := List.getElem_of_mem hf
    have hi' : i < fs.size := by simpa using hi
    have h1 := hx i fs[i] (by simp [hi'])
    rw [List.getElem?_eq_getElem (by omega)] at h1
    refine ⟨xs[i]'(by omega), by simpa using h1, ?_⟩
    have := part_le (l := xs.map (·.1)) (d := (xs[i]'(by omega)).1) (List.mem_map.2 ⟨_, List.getElem_mem _, rfl⟩)
    simp only [Rows.uptoBulk] at hb
    omega)
  rw [List.drop_zero, List.take_of_length_le (by omega)] at ha
  exact ⟨a, ha, haS⟩
/-- an argument, opened -/
theorem open_arg {H : Type} {enc : TypeId × Value → H} {w : World} {r : Reach} {b0 base : Nat} {held : Bool} {v : Value} {d : DataW H} {ps : List MemPlace} (hR : Rds P t k S) (hT : TyOk P t k by_)
    (hval : Value.okWide P w r b0 t v) (h : DataW.Trod enc P w base (fun _ => true) held t v d ps) (hb : Rows.uptoBulk d ≤ 1048576) : ∃ a, k.V (GhostW w) a v ∧ S a := by
  obtain ⟨fuel, h⟩ := h
  obtain ⟨a, ha, haS⟩ := hR _ _ _ _ _ _ _ _ h hb
  refine ⟨a, ⟨v.cells.toList, ha, ?_⟩, haS⟩
  obtain ⟨dd, hd, hagg⟩ := hT.desc
  unfold Value.okWide at hval
  rw [hd] at hval
  cases hk : k.agg with
  | true =>
    rw [hk] at hagg
    have : ∃ cs, v = .agg cs := by
      cases dd <;> first | (cases hagg; done) | (obtain ⟨cs, rfl, _⟩ := hval; exact ⟨cs, rfl⟩)
    obtain ⟨cs, rfl⟩ := this
    simp [Value.cells]
  | false =>
    have hlen := k.len ha
    rw [k.hs hk] at hlen
    have hna : ∀ cs, v ≠ .agg cs := fun cs e => by
      subst e
      rw [hk] at hagg
      cases dd <;> first | (cases hagg; done) | (simp [Cell.okWide, hd, Cell.ok] at hval)
    cases v <;> first | rfl | exact absurd rfl (hna _)
end
section
variable {H : Type} {enc : TypeId × Value → H} {P : Program}
theorem below_of {w w' : World} {K K' : Ghost} (h : Ext NX w K w' K') : Below w.heap.size w w' := ⟨h.os, h.tape, h.output, h.size, fun b hb => h.heap b hb (fun x => x)⟩
theorem trodAll_same {W W' : World} {sp : Nat → Bool} (hl : laidOutB P = true) (hb : Below W.heap.size W W') : ∀ {ts : List TypeId} {vs : List Value} {ds : List (DataW H)} {ps : List MemPlace},
    (ts.all fun t => P.readableRec t && decide (t < P.types.size)) = true → DataW.TrodAll enc P W 0 (fun _ => true) true ts vs ds ps → (∀ p ∈ ps, p.block < W.heap.size) → (∀ p ∈ ps, sp p.block = true) → DataW.TrodAll enc P W' 0 sp true ts vs ds ps
  | [], [], [], ps, _, h, _, _ => h
  | t :: ts, v :: vs, d :: ds, ps, hr, ⟨p, q, h1, h2, e⟩, hlt, hs => by
    subst e
    simp only [List.all_cons, Bool.and_eq_true, decide_eq_true_eq] at hr
    exact ⟨p, q, WideElems.Trod_stays hl hr.1.1 hr.1.2 h1 (fun x hx => hb.same (hlt x (List.mem_append.2 (.inl hx)))) (fun x hx => hs x (List.mem_append.2 (.inl hx))),
      trodAll_same hl hb (ts := ts) hr.2 h2 (fun x hx => hlt x (List.mem_append.2 (.inr hx))) (fun x hx => hs x (List.mem_append.2 (.inr hx))), rfl⟩
  | [], _ :: _, _, _, _, h, _, _ => h.elim
  | [], [], _ :: _, _, _, h, _, _ => h.elim
  | _ :: _, [], _, _, _, h, _, _ => h.elim
  | _ :: _, _ :: _, [], _, _, h, _, _ => h.elim
/-- the end of a law's call: true, and all that was there is as it was -/
theorem post_true {f : Func} {s : ChangeSpec} {apart fresh handsOn again : Bool} {W W' : World} {args : Array Value} {ds gs : List (DataW H)} {before : List MemPlace} {tb : TypeId}
    (hW : DataW.Whole enc P f.params.toList s.vars apart W args.toList ds gs before) (hl : laidOutB P = true) (hr : (f.params.toList.all fun t => P.readableRec t && decide (t < P.types.size)) = true)
    (hrt : f.resultTypes = #[tb]) (htb : P.underlying tb = some .bool) (hs : s.vars = []) (hv : (s.fn H (ds ++ gs)).vars = []) (hres : (s.fn H (ds ++ gs)).results = [.lit (.bool true)]) (hargs : (s.fn H (ds ++ gs)).args = ds)
    (hb : Below W.heap.size W W') : s.post enc P f apart fresh handsOn again W args (.bool true) W' := by
  have hlt : ∀ p ∈ before, p.block < W.heap.size := fun p hp => hW.lt p hp
  have hW' := hW
  obtain ⟨p, q, hA, hV, e, hz, hn⟩ := hW'
  rw [hs] at hV
  have hq : q = [] ∧ gs = [] := by
    cases gs with
    | nil => exact ⟨hV, rfl⟩
    | cons g r => exact hV.elim
  obtain ⟨rfl, rfl⟩ := hq
  rw [List.append_nil] at e
  subst e
  have ht : ∀ (b : Nat) (sp : Nat → Bool) (hd : Bool), DataW.TrodAll enc P W' b sp hd f.resultTypes.toList ((Value.bool true).resultList f.resultTypes.size) (s.fn H (ds ++ [])).results [] := fun b sp hd => by
    rw [hres, hrt]
    exact ⟨[], [], shut_bool htb _, rfl, rfl⟩
  have ha : ∀ sp : Nat → Bool, (∀ p ∈ before, sp p.block = true) → DataW.TrodAll enc P W' 0 sp true f.params.toList args.toList (s.fn H (ds ++ [])).args before := fun sp hsp => by
    rw [hargs]
    exact trodAll_same hl hb hr hA hlt hsp
  have hvs : ∀ sp : Nat → Bool, DataW.TrodVars enc P W' sp s.vars (s.fn H (ds ++ [])).vars [] := fun sp => by
    rw [hs, hv]
    rfl
  have hold : ∀ p ∈ before, (fun b => decide (b < W.heap.size)) p.block = true := fun p hp => by simpa using hlt p hp
  refine ⟨ds, [], before, [], before, [], hW, ht _ _ _, ha _ hold, hvs _, World.keptBut_mono (fun p hp => ⟨hp, ?_⟩) (hb.frame (· ∈ before)), fun _ => ?_⟩
  · exact Or.inr (by simpa using hp)
  · refine ⟨?_, _, _, ([] ++ before) ++ [], ⟨[] ++ before, [], trodAll_append (ha _ (fun _ _ => rfl)) (ht _ _ _), hvs _, rfl, ?_, ?_⟩, ?_⟩
    · exact ok_one hrt rfl (okWide_bool_mk htb _)
    · intro b off hp
      have hin : MemPlace.cell b off ∈ before := by simpa using hp
      rw [hb.frozen (hlt _ hin)]
      exact hz b off hin
    · intro hap
      simpa using hn hap
    · intro p hp _
      simpa using hp
end
end Go.Proofs.Ytmjjkpiglbpkhaa
