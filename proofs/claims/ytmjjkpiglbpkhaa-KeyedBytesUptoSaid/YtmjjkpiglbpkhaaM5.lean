/- G1, K1, S1, S2, S3, K2, G2, K3, S4. -/
import Derived.Test.YtmjjkpiglbpkhaaM1
import Derived.Test.YtmjjkpiglbpkhaaM4
import Derived.Test.YtmjjkpiglbpkhaaChecked
set_option linter.unusedVariables false
set_option maxRecDepth 100000
set_option maxHeartbeats 2000000
namespace Go.Proofs.Ytmjjkpiglbpkhaa
open Go Go.RowKit Go.Inc
abbrev qaB : Kd (List UInt8) := (Kd.sl Kd.byte)
theorem ty5b : TyOk Try.prog 5 Kd.byte 1 := ⟨⟨Try.t5, _, Try.type5, rfl, rfl, rfl, rfl, rfl⟩, ⟨_, Try.underlying5, rfl⟩⟩
def qat : List UInt8 := [0, 1, 2, 2, 3, 3, 3, 3, 4, 4, 4, 4, 4, 4, 4, 4, 5, 5, 5, 5, 5, 5, 5, 5, 5, 5, 5, 5, 5, 5, 5, 5, 6, 6, 6, 6, 6, 6, 6, 6, 6, 6, 6, 6, 6, 6, 6, 6, 6, 6, 6, 6, 6, 6, 6, 6, 6, 6, 6, 6, 6, 6, 6, 6, 7, 7, 7, 7, 7, 7, 7, 7, 7, 7, 7, 7, 7, 7, 7, 7, 7, 7, 7, 7, 7, 7, 7, 7, 7, 7, 7, 7, 7, 7, 7, 7, 7, 7, 7, 7, 7, 7, 7, 7, 7, 7, 7, 7, 7, 7, 7, 7, 7, 7, 7, 7, 7, 7, 7, 7, 7, 7, 7, 7, 7, 7, 7, 7, 8, 8, 8, 8, 8, 8, 8, 8, 8, 8, 8, 8, 8, 8, 8, 8, 8, 8, 8, 8, 8, 8, 8, 8, 8, 8, 8, 8, 8, 8, 8, 8, 8, 8, 8, 8, 8, 8, 8, 8, 8, 8, 8, 8, 8, 8, 8, 8, 8, 8, 8, 8, 8, 8, 8, 8, 8, 8, 8, 8, 8, 8, 8, 8, 8, 8, 8, 8, 8, 8, 8, 8, 8, 8, 8, 8, 8, 8, 8, 8, 8, 8, 8, 8, 8, 8, 8, 8, 8, 8, 8, 8, 8, 8, 8, 8, 8, 8, 8, 8, 8, 8, 8, 8, 8, 8, 8, 8, 8, 8, 8, 8, 8, 8, 8, 8, 8, 8, 8, 8, 8, 8, 8, 8, 8, 8, 8, 8]
abbrev qa5 : Kd (List (List UInt8)) := (Kd.sl qaB)
theorem ty32 : TyOk Try.prog 32 qaB 24 := ⟨⟨Try.t32, _, Try.type32, rfl, rfl, rfl, rfl, rfl⟩, ⟨_, Try.underlying32, rfl⟩⟩
def qh2 (a1_n : Int) (Q : (List UInt8) → Prop) : Prop :=
 ((a1_n < 0) → False) ∧ ((¬ (a1_n < 0)) → ((0 < (IntKind.i64.wrap (a1_n - (IntKind.i64.wrap (0 - (([] : List UInt8).length : Int)))))) → (0 < (IntKind.i64.wrap (a1_n - (IntKind.i64.wrap (0 - (([] : List UInt8).length : Int))))) ∧ (IntKind.i64.wrap (a1_n - (IntKind.i64.wrap (0 - (([] : List UInt8).length : Int))))) * 1 ≤ 140737488355328) ∧ (Q ([] : List UInt8))) ∧ ((¬ (0 < (IntKind.i64.wrap (a1_n - (IntKind.i64.wrap (0 - (([] : List UInt8).length : Int))))))) → Q ([] : List UInt8)))
theorem qs2 {a1_n : Int} (w_0 : (Kd.int .i64).wf a1_n) (hp : 0 ≤ a1_n ∧ a1_n ≤ 140737488355328) : qh2 a1_n (fun o0 => o0 = ([] : List UInt8)) := by
 have e1 : IntKind.i64.wrap (0 - (([] : List UInt8).length : Int)) = 0 := by decide
 have e2 : IntKind.i64.wrap (a1_n - 0) = a1_n := by rw [Int.sub_zero]; exact qam w_0
 unfold qh2
 rw [e1, e2]
 exact ⟨fun h => by omega, fun _ => ⟨fun h => ⟨⟨h, by omega⟩, rfl⟩, fun _ => rfl⟩⟩
theorem qnr {w0 : World} {K0 : Ghost} {a1_n_v : Value} {a1_n : Int} {Q : (List UInt8) → Prop} (hM0 : Models w0 K0) (h_a1_n : (Kd.int .i64).V K0 a1_n a1_n_v) (h : qh2 a1_n Q) : Calls Try.prog 145 #[(.slice none 0 0), a1_n_v] w0 (fun e w' => ∃ (K' : Ghost) (r0 : Value) (o0 : (List UInt8)), e = .returned r0 ∧ Q o0 ∧ Ext NX w0 K0 w' K' ∧ Models w' K' ∧ Own Kd.byte 5 w' K' o0 r0 ∧ (∀ g, ob r0 = some g → w0.heap.size ≤ g)) := by
 unfold qh2 at h
 have hR1 : Own Kd.byte 5 w0 K0 ([] : List UInt8) (.slice none 0 0) := Own.nil
 obtain rfl := qbS h_a1_n
 have hE0 : Ext NX w0 K0 w0 K0 := Ext.refl _ _ _
 refine qbr fun R hR => ?_
 refine qaW (args := [(.slice none 0 0), (.int .i64 a1_n)]) Try.func145 rfl (Nat.le_of_ble_eq_true rfl) ?_
 refine qao ?_
 refine qag ?_
 have hR2 : Own Kd.byte 5 w0 K0 ([] : List UInt8) (.slice none 0 0) := Own.nil
 refine qaa (.slice none 0 0) (R_as rfl) rfl rfl ?_
 refine qay ?_
 refine qao ?_
 refine qao ?_
 refine qag ?_
 refine qaa (.int .i64 a1_n) (R_mv rfl) rfl rfl ?_
 refine qaa (.bool (decide (a1_n < 0))) (qmG rfl rfl) rfl rfl ?_
 refine qay ?_
 refine qa1 (decide (a1_n < 0)) rfl (fun hc3 => ?_) (fun hc3 => ?_)
 ·have hd3 : a1_n < 0 := qjt hc3
  have h := h.1 hd3
  refine qag ?_
  exact h.elim
 ·have hd3 : ¬ (a1_n < 0) := qjs hc3
  have h := h.2 hd3
  refine qbN ?_
  refine qao ?_
  refine qao ?_
  refine qag ?_
  refine qaa (.int .i64 a1_n) (R_mv rfl) rfl rfl ?_
  refine qaa (.slice none 0 0) (R_mv rfl) rfl rfl ?_
  refine qaa (.int .i64 0) (qvk rfl Try.underlying32) rfl rfl ?_
  refine qaa (.slice none 0 0) (R_mv rfl) rfl rfl ?_
  refine qaa (.int .i64 (([] : List UInt8).length : Int)) (qgt rfl hR1.V Try.underlying32) rfl rfl ?_
  refine qaa (.int .i64 (IntKind.i64.wrap (0 - (([] : List UInt8).length : Int)))) (qtu rfl rfl) rfl rfl ?_
  refine qaa (.int .i64 (IntKind.i64.wrap (a1_n - (IntKind.i64.wrap (0 - (([] : List UInt8).length : Int)))))) (qtu rfl rfl) rfl rfl ?_
  refine qaa (.int .i64 (IntKind.i64.wrap (a1_n - (IntKind.i64.wrap (0 - (([] : List UInt8).length : Int)))))) (R_as rfl) rfl rfl ?_
  refine qay ?_
  refine qao ?_
  refine qag ?_
  refine qaa (.int .i64 (IntKind.i64.wrap (a1_n - (IntKind.i64.wrap (0 - (([] : List UInt8).length : Int)))))) (R_mv rfl) rfl rfl ?_
  refine qaa (.bool (decide (0 < (IntKind.i64.wrap (a1_n - (IntKind.i64.wrap (0 - (([] : List UInt8).length : Int)))))))) (qvq rfl rfl) rfl rfl ?_
  refine qay ?_
  refine qa1 (decide (0 < (IntKind.i64.wrap (a1_n - (IntKind.i64.wrap (0 - (([] : List UInt8).length : Int))))))) rfl (fun hc4 => ?_) (fun hc4 => ?_)
  ·have hd4 : 0 < (IntKind.i64.wrap (a1_n - (IntKind.i64.wrap (0 - (([] : List UInt8).length : Int))))) := qjt hc4
   have h := h.1 hd4
   refine qag ?_
   refine qaa (.slice none 0 0) (R_mv rfl) rfl rfl ?_
   refine qaa (.slice none 0 0) (R_mv rfl) rfl rfl ?_
   refine qaa (.int .i64 0) (qvk rfl Try.underlying32) rfl rfl ?_
   refine qaa (.slice none 0 0) (qqy rfl rfl Try.underlying32 ty5b) rfl rfl ?_
   refine qaa (.int .i64 (IntKind.i64.wrap (a1_n - (IntKind.i64.wrap (0 - (([] : List UInt8).length : Int)))))) (R_mv rfl) rfl rfl ?_
   obtain ⟨hp7, h⟩ := h
   refine qaQ rfl rfl (qw5 (qvI hM0 rfl rfl Try.underlying32 Try.underlying3 ty5b rfl hp7.1 hp7.2) ?_)
   rintro v6 w6 hF6 hS6 hM6 hg6
   have hE6 := hE0.andN hS6
   have hf6 : ∀ g, ob v6 = some g → w0.heap.size ≤ g := fun g hg => Nat.le_trans hE0.size (hg6 g hg)
   refine qaa (.slice none 0 0) (R_mv rfl) rfl rfl ?_
   refine qaa (.int .i64 (([] : List UInt8).length : Int)) (qgt rfl (hR1.V.mono hS6.le) Try.underlying32) rfl rfl ?_
   refine qaQ rfl rfl (qw4 (qvN hM6 rfl hF6 rfl Try.underlying32 ty5b) ?_)
   rintro v8 w8 K8 (hO8 : Own Kd.byte 5 w8 K8 ([] : List UInt8) v8) hS8 hM8 hob8
   have hE8 := hE6.comp hS8 (fun c hx hlt => absurd hlt (Nat.not_lt.2 (hf6 c hx)))
   have hf8 : ∀ g, ob v8 = some g → w0.heap.size ≤ g := fun g hg => hf6 g (hob8 g hg)
   refine qaa v8 (R_as rfl) rfl rfl ?_
   refine qay ?_
   refine qao ?_
   refine qag ?_
   refine qaa v8 (R_mv rfl) rfl rfl ?_
   refine qaa v8 (R_as rfl) rfl rfl ?_
   refine qay ?_
   refine qcv ?_
   exact qbE hR (v := v8) (qd7 rfl rfl) ⟨K8, v8, ([] : List UInt8), rfl, h, hE8, hM8, hO8, hf8⟩
  ·have hd4 : ¬ (0 < (IntKind.i64.wrap (a1_n - (IntKind.i64.wrap (0 - (([] : List UInt8).length : Int)))))) := qjs hc4
   have h := h.2 hd4
   refine qbN ?_
   refine qao ?_
   refine qag ?_
   refine qaa (.slice none 0 0) (R_mv rfl) rfl rfl ?_
   refine qaa (.slice none 0 0) (R_as rfl) rfl rfl ?_
   refine qay ?_
   refine qcv ?_
   exact qbE hR (v := (.slice none 0 0)) (qd7 rfl rfl) ⟨K0, (.slice none 0 0), ([] : List UInt8), rfl, h, hE0, hM0, hR1, (fun g hg => nilS hg)⟩
theorem qu3 {w0 : World} {K0 : Ghost} {a1_n_v : Value} {a1_n : Int} (hM0 : Models w0 K0) (h_a1_n : (Kd.int .i64).V K0 a1_n a1_n_v) (hp : 0 ≤ a1_n ∧ a1_n ≤ 140737488355328) : Calls Try.prog 145 #[(.slice none 0 0), a1_n_v] w0 (fun e w' => ∃ (K' : Ghost) (r0 : Value), e = .returned r0 ∧ Ext NX w0 K0 w' K' ∧ Models w' K' ∧ Own Kd.byte 5 w' K' ([] : List UInt8) r0 ∧ (∀ g, ob r0 = some g → w0.heap.size ≤ g)) := by
 refine (qnr hM0 h_a1_n (qs2 h_a1_n.wf hp)).mono ?_
 rintro _ w' ⟨K', r0, o0, rfl, rfl, hF⟩
 exact ⟨K', r0, rfl, hF⟩
def qet (a0_slices : (List (List UInt8))) (Q : (List UInt8) → Prop) : Prop :=
 ∃ (I3 : Int → Int → Prop) (μ3 : Int → Int → Nat), I3 0 0 ∧ ∀ (size3 : Int) (i3 : Int), I3 size3 i3 → ((Kd.int .i64).wf size3) → ((Kd.int .i64).wf i3) → (((i3 < (a0_slices.length : Int)) → (0 ≤ i3 ∧ i3 < (a0_slices.length : Int)) ∧ ((((IntKind.i64.wrap (size3 + ((ix a0_slices i3).length : Int))) < 0) → False) ∧ ((¬ ((IntKind.i64.wrap (size3 + ((ix a0_slices i3).length : Int))) < 0)) → I3 (IntKind.i64.wrap (size3 + ((ix a0_slices i3).length : Int))) (i3 + 1) ∧ μ3 (IntKind.i64.wrap (size3 + ((ix a0_slices i3).length : Int))) (i3 + 1) < μ3 size3 i3))) ∧ ((¬ (i3 < (a0_slices.length : Int))) → (0 ≤ size3 ∧ size3 ≤ 140737488355328) ∧ ((qaB.wf ([] : List UInt8)) → (∃ (I17 : (List UInt8) → Int → Prop) (μ17 : (List UInt8) → Int → Nat), I17 ([] : List UInt8) 0 ∧ ∀ (newslice17 : (List UInt8)) (i17 : Int), I17 newslice17 i17 → (qaB.wf newslice17) → ((Kd.int .i64).wf i17) → (((i17 < (a0_slices.length : Int)) → (0 ≤ i17 ∧ i17 < (a0_slices.length : Int)) ∧ (((newslice17.length + (ix a0_slices i17).length) * 1 ≤ 140737488355328) ∧ (I17 (newslice17 ++ (ix a0_slices i17)) (i17 + 1) ∧ μ17 (newslice17 ++ (ix a0_slices i17)) (i17 + 1) < μ17 newslice17 i17))) ∧ ((¬ (i17 < (a0_slices.length : Int))) → Q newslice17))))))
theorem qnn {a0_slices : (List (List UInt8))} (w_0 : qa5.wf a0_slices) (hp : a0_slices.flatten.length ≤ 140737488355328) : qet a0_slices (fun o0 => o0 = a0_slices.flatten) := by
 have hst : ∀ j : Nat, (j : Int) < (a0_slices.length : Int) → (a0_slices.take j).flatten.length + (ix a0_slices (j : Int)).length ≤ 140737488355328 := fun j hj => by
  have h1 := qgK (l := a0_slices) (j + 1)
  rw [qci hj, List.length_append] at h1
  omega
 unfold qet
 refine ⟨fun s i => ∃ j : Nat, i = (j : Int) ∧ j ≤ a0_slices.length ∧ s = ((a0_slices.take j).flatten.length : Int), fun _ i => a0_slices.length - i.toNat, ⟨0, rfl, by omega, by simp⟩, ?_⟩
 rintro s i ⟨j, rfl, hj, rfl⟩ _ _
 refine ⟨fun hlt => ⟨⟨by omega, hlt⟩, ?_⟩, fun hge => ?_⟩
 ·have h1 := hst j hlt
  have e : IntKind.i64.wrap (((a0_slices.take j).flatten.length : Int) + ((ix a0_slices (j : Int)).length : Int)) = ((a0_slices.take (j + 1)).flatten.length : Int) := by
   rw [qam (wf64 (by omega) (by omega)), qci hlt, List.length_append]
   omega
  rw [e]
  refine ⟨fun h => by omega, fun _ => ⟨⟨j + 1, by omega, by omega, rfl⟩, ?_⟩⟩
  show a0_slices.length - ((j : Int) + 1).toNat < a0_slices.length - (j : Int).toNat
  omega
 ·have h1 := qgK (l := a0_slices) j
  refine ⟨⟨by omega, by omega⟩, fun _ => ⟨fun out i => ∃ j : Nat, i = (j : Int) ∧ j ≤ a0_slices.length ∧ out = (a0_slices.take j).flatten, fun _ i => a0_slices.length - i.toNat, ⟨0, rfl, by omega, by simp⟩, ?_⟩⟩
  rintro out i ⟨m, rfl, hm, rfl⟩ _ _
  refine ⟨fun hlt => ⟨⟨by omega, hlt⟩, ?_, ⟨m + 1, by omega, by omega, (qci hlt).symm⟩, ?_⟩, fun hge => ?_⟩
  ·have := hst m hlt
   omega
  ·show a0_slices.length - ((m : Int) + 1).toNat < a0_slices.length - (m : Int).toNat
   omega
  ·have : m = a0_slices.length := by omega
   subst this
   rw [List.take_length]
theorem qkb {w0 : World} {K0 : Ghost} {a0_slices_v : Value} {a0_slices : (List (List UInt8))} {Q : (List UInt8) → Prop} (hM0 : Models w0 K0) (h_a0_slices : qa5.V K0 a0_slices a0_slices_v) (h : qet a0_slices Q) : Calls Try.prog 134 #[a0_slices_v] w0 (fun e w' => ∃ (K' : Ghost) (r0 : Value) (o0 : (List UInt8)), e = .returned r0 ∧ Q o0 ∧ Ext NX w0 K0 w' K' ∧ Models w' K' ∧ Own Kd.byte 5 w' K' o0 r0 ∧ (∀ g, ob r0 = some g → w0.heap.size ≤ g)) := by
 unfold qet at h
 have hE0 : Ext NX w0 K0 w0 K0 := Ext.refl _ _ _
 refine qbr fun R hR => ?_
 refine qaW (args := [a0_slices_v]) Try.func134 rfl (Nat.le_of_ble_eq_true rfl) ?_
 refine qao ?_
 refine qag ?_
 have hR2 : Own Kd.byte 5 w0 K0 ([] : List UInt8) (.slice none 0 0) := Own.nil
 refine qaa (.slice none 0 0) (R_as rfl) rfl rfl ?_
 refine qay ?_
 refine qao ?_
 refine qag ?_
 refine qaa (.int .i64 0) (R_as rfl) rfl rfl ?_
 refine qay ?_
 refine qao ?_
 refine qao ?_
 refine qag ?_
 refine qaa a0_slices_v (R_mv rfl) rfl rfl ?_
 refine qaa (.int .i64 (a0_slices.length : Int)) (qgt rfl h_a0_slices Try.underlying96) rfl rfl ?_
 refine qaa (.int .i64 0) (R_mv rfl) rfl rfl ?_
 refine qay ?_
 refine qb4 ?_
 obtain ⟨I3, μ3, h0, h⟩ := h
 refine qii (ι := Int × Int) [3, 5, 11, 12, 13, 14, 15, 16, 17, 18, 19, 20, 21, 22] (fun s l w => ∃ K, I3 s.1 s.2 ∧ l = [(3, (.int .i64 s.1)), (11, (.int .i64 s.2))] ∧ Ext NX w0 K0 w K ∧ Models w K ∧ (Kd.int .i64).wf s.1 ∧ (Kd.int .i64).wf s.2) (fun s => μ3 s.1 s.2) (0, 0) [(3, (.int .i64 0)), (11, (.int .i64 0))]
  ⟨K0, h0, rfl, Ext.refl _ _ _, hM0, (show (Kd.int .i64).wf 0 from by constructor <;> decide), (show (Kd.int .i64).wf 0 from by constructor <;> decide)⟩ (by repeat (first | exact trivial | refine ⟨rfl, ?_⟩)) ?_
 rintro ⟨size3, i3⟩ l σ3 w4 ⟨K4, hI, rfl, hX4, hM4, hw3_3, hw3_11⟩
 dsimp only at hI hw3_3 hw3_11
 have hE4 := hE0.andN hX4
 have h := h size3 i3 hI hw3_3 hw3_11
 refine qao ?_
 refine qag ?_
 refine qaa (.bool (decide (i3 < (a0_slices.length : Int)))) (qmG rfl rfl) rfl rfl ?_
 refine qay ?_
 refine qao ?_
 refine qa1 (decide (i3 < (a0_slices.length : Int))) rfl (fun hc5 => ?_) (fun hc5 => ?_)
 ·have hd5 : i3 < (a0_slices.length : Int) := qjt hc5
  have h := h.1 hd5
  refine qbN ?_
  refine qao ?_
  refine qb4 ?_
  refine qao ?_
  refine qag ?_
  obtain ⟨hp7, h⟩ := h
  refine WL_P (qnZ rfl (h_a0_slices.mono hX4.le) rfl Try.underlying96 ty32 hp7.1 hp7.2) rfl rfl ?_
  rintro b6 o6 hP6
  refine WL_L hM4 (S_ld rfl ty32 hP6) rfl rfl ?_
  rintro v9 (hV9 : qaB.V _ (ix a0_slices i3) _)
  refine qaa v9 (R_as rfl) rfl rfl ?_
  refine qay ?_
  refine qao ?_
  refine qag ?_
  refine qaa (.int .i64 size3) (R_mv rfl) rfl rfl ?_
  refine qaa v9 (R_mv rfl) rfl rfl ?_
  refine qaa (.int .i64 ((ix a0_slices i3).length : Int)) (qgt rfl hV9 Try.underlying32) rfl rfl ?_
  refine qaa (.int .i64 (IntKind.i64.wrap (size3 + ((ix a0_slices i3).length : Int)))) (qnP rfl rfl) rfl rfl ?_
  refine qaa (.int .i64 (IntKind.i64.wrap (size3 + ((ix a0_slices i3).length : Int)))) (R_as rfl) rfl rfl ?_
  refine qay ?_
  refine qao ?_
  refine qag ?_
  refine qaa (.int .i64 (IntKind.i64.wrap (size3 + ((ix a0_slices i3).length : Int)))) (R_mv rfl) rfl rfl ?_
  refine qaa (.bool (decide ((IntKind.i64.wrap (size3 + ((ix a0_slices i3).length : Int))) < 0))) (qmG rfl rfl) rfl rfl ?_
  refine qay ?_
  refine qa1 (decide ((IntKind.i64.wrap (size3 + ((ix a0_slices i3).length : Int))) < 0)) rfl (fun hc11 => ?_) (fun hc11 => ?_)
  ·have hd11 : (IntKind.i64.wrap (size3 + ((ix a0_slices i3).length : Int))) < 0 := qjt hc11
   have h := h.1 hd11
   refine qag ?_
   exact h.elim
  ·have hd11 : ¬ ((IntKind.i64.wrap (size3 + ((ix a0_slices i3).length : Int))) < 0) := qjs hc11
   have h := h.2 hd11
   refine qbN ?_
   refine qag ?_
   refine qaa (.int .i64 (i3 + 1)) (qto rfl rfl hw3_11 hd5 (qcU (h_a0_slices).wf.1)) rfl rfl ?_
   refine qaa (.int .i64 (i3 + 1)) (R_mv rfl) rfl rfl ?_
   refine qay ?_
   refine qj8.mk ((IntKind.i64.wrap (size3 + ((ix a0_slices i3).length : Int))), (i3 + 1)) [(3, (.int .i64 (IntKind.i64.wrap (size3 + ((ix a0_slices i3).length : Int))))), (11, (.int .i64 (i3 + 1)))] ?_ ?_ ?_ ?_
   rotate_left
   ·exact h.2
   ·repeat (first | exact Off.lay0 rfl | refine Off.updO ?_ rfl _ | refine Off.updN ?_ _ | refine Off.lay ?_ rfl)
   ·repeat (first | exact trivial | refine ⟨rfl, ?_⟩)
   exact ⟨K4, h.1, rfl, ((Ext.refl _ _ _).andN hX4), hM4, (qbI _ _), (qoQ hw3_11 hd5 (qcU (h_a0_slices).wf.1))⟩
 ·have hd5 : ¬ (i3 < (a0_slices.length : Int)) := qjs hc5
  have h := h.2 hd5
  refine qih ?_
  refine qao ?_
  refine qag ?_
  refine qaa (.int .i64 size3) (R_mv rfl) rfl rfl ?_
  have hR12 : Own Kd.byte 5 w4 K4 ([] : List UInt8) (.slice none 0 0) := Own.nil
  have hR13 := (hR2.extN hX4)
  obtain ⟨hp15, h⟩ := h
  refine qaQ rfl rfl (qbM (qdt Try.call145 rfl) ((qu3 hM4 (qhj hw3_3) hp15).mono ?_))
  rintro _ w14 ⟨K14, v14_0, rfl, hS14, hM14, hO14_0, hg14_0⟩
  refine ⟨v14_0, rfl, ?_⟩
  have hE14 := hE4.andN hS14
  have h := h hO14_0.wf
  refine qaa v14_0 (R_as rfl) rfl rfl ?_
  refine qay ?_
  refine qao ?_
  refine qao ?_
  refine qag ?_
  refine qaa a0_slices_v (R_mv rfl) rfl rfl ?_
  refine qaa (.int .i64 (a0_slices.length : Int)) (qgt rfl (h_a0_slices.mono (hX4.le.trans hS14.le)) Try.underlying96) rfl rfl ?_
  refine qaa (.int .i64 0) (R_mv rfl) rfl rfl ?_
  refine qay ?_
  refine qb4 ?_
  obtain ⟨I17, μ17, h0, h⟩ := h
  refine qii (ι := (List UInt8) × Int) [6, 8, 27, 28, 29, 30, 31, 32, 33, 34] (fun s l w => ∃ K u6, I17 s.1 s.2 ∧ l = [(6, u6), (27, (.int .i64 s.2))] ∧ Ext (fun c => ob v14_0 = some c) w14 K14 w K ∧ Models w K ∧ (Kd.int .i64).wf s.2 ∧ Own Kd.byte 5 w K s.1 u6 ∧ (∀ g, ob u6 = some g → ob v14_0 = some g ∨ w14.heap.size ≤ g)) (fun s => μ17 s.1 s.2) (([] : List UInt8), 0) [(6, v14_0), (27, (.int .i64 0))]
   ⟨K14, v14_0, h0, rfl, Ext.refl _ _ _, hM14, (show (Kd.int .i64).wf 0 from by constructor <;> decide), hO14_0, (fun g hg => (.inl hg))⟩ (by repeat (first | exact trivial | refine ⟨rfl, ?_⟩)) ?_
  rintro ⟨newslice17, i17⟩ l σ17 w18 ⟨K18, u6_17, hI, rfl, hX18, hM18, hw17_27, hL17_u6, ho17_u6⟩
  dsimp only at hI hw17_27 hL17_u6 ho17_u6
  have hE18 := hE14.comp hX18 (fun c hx hlt => (fun g hg hlt => absurd hlt (Nat.not_lt.2 ((fun g hg => Nat.le_trans hE4.size (hg14_0 g hg)) g hg))) c hx hlt)
  have hR19 := (hR13.extN hS14)
  have hR20 := (hR19.ext hX18 (fun g hg hx => (fun g hg hx => (fun g hg hx => absurd (hR13.lt _ hx) (Nat.not_lt.2 (hg14_0 g hg))) g hx hg) g hg hx))
  have hR21 := (hR12.extN hS14)
  have hR22 := (hR21.ext hX18 (fun g hg hx => (fun g hg hx => (fun g hg hx => absurd (hR12.lt _ hx) (Nat.not_lt.2 (hg14_0 g hg))) g hx hg) g hg hx))
  have hR23 := (hR13.extN hS14)
  have hR24 := (hR12.extN hS14)
  have h := h newslice17 i17 hI hL17_u6.wf hw17_27
  refine qao ?_
  refine qag ?_
  refine qaa (.bool (decide (i17 < (a0_slices.length : Int)))) (qmG rfl rfl) rfl rfl ?_
  refine qay ?_
  refine qao ?_
  refine qa1 (decide (i17 < (a0_slices.length : Int))) rfl (fun hc25 => ?_) (fun hc25 => ?_)
  ·have hd25 : i17 < (a0_slices.length : Int) := qjt hc25
   have h := h.1 hd25
   refine qbN ?_
   refine qao ?_
   refine qb4 ?_
   refine qao ?_
   refine qag ?_
   obtain ⟨hp27, h⟩ := h
   refine WL_P (qnZ rfl (h_a0_slices.mono (hX4.le.trans (hS14.le.trans hX18.le))) rfl Try.underlying96 ty32 hp27.1 hp27.2) rfl rfl ?_
   rintro b26 o26 hP26
   refine WL_L hM18 (S_ld rfl ty32 hP26) rfl rfl ?_
   rintro v29 (hV29 : qaB.V _ (ix a0_slices i17) _)
   refine qaa v29 (R_as rfl) rfl rfl ?_
   refine qay ?_
   refine qag ?_
   refine qaa u6_17 (R_mv rfl) rfl rfl ?_
   refine qaa v29 (R_mv rfl) rfl rfl ?_
   obtain ⟨hp32, h⟩ := h
   refine qaQ rfl rfl (St_S (qvH hM18 rfl hL17_u6 rfl hV29 Try.underlying32 ty5b rfl hp32) ?_)
   rintro v31 w31 K31 hO31 hS31 hM31 hob31
   have hE31 := hE18.comp hS31 (fun c hx hlt => (fun g hg hlt => absurd hlt (Nat.not_lt.2 ((fun g hg => (ho17_u6 g hg).elim (fun hx => (fun g hg => Nat.le_trans hE4.size (hg14_0 g hg)) g hx) (fun hx => Nat.le_trans hE14.size hx)) g hg))) c hx hlt)
   have hR33 := (hR20.ext hS31 (fun g hg hx => (fun g hg hx => (fun g hg hy => (ho17_u6 g hg).elim (fun hz => (fun g hg hx => absurd (hR13.lt _ hx) (Nat.not_lt.2 (hg14_0 g hg))) g hz hy) (fun hz => absurd (hR23.lt _ hy) (Nat.not_lt.2 hz))) g hx hg) g hg hx))
   have hR34 := (hR22.ext hS31 (fun g hg hx => (fun g hg hx => (fun g hg hy => (ho17_u6 g hg).elim (fun hz => (fun g hg hx => absurd (hR12.lt _ hx) (Nat.not_lt.2 (hg14_0 g hg))) g hz hy) (fun hz => absurd (hR24.lt _ hy) (Nat.not_lt.2 hz))) g hx hg) g hg hx))
   have hf31 : ∀ g, ob v31 = some g → w0.heap.size ≤ g := fun g hg => by rcases hob31 with hq | hq <;> rw [hq] at hg; exact (fun g hg => (ho17_u6 g hg).elim (fun hx => (fun g hg => Nat.le_trans hE4.size (hg14_0 g hg)) g hx) (fun hx => Nat.le_trans hE14.size hx)) g hg; cases hg; exact hE18.size
   refine qaa v31 (R_as rfl) rfl rfl ?_
   refine qay ?_
   refine qag ?_
   refine qaa (.int .i64 (i17 + 1)) (qto rfl rfl hw17_27 hd25 (qcU (h_a0_slices).wf.1)) rfl rfl ?_
   refine qaa (.int .i64 (i17 + 1)) (R_mv rfl) rfl rfl ?_
   refine qay ?_
   refine qj8.mk ((newslice17 ++ (ix a0_slices i17)), (i17 + 1)) [(6, v31), (27, (.int .i64 (i17 + 1)))] ?_ ?_ ?_ ?_
   rotate_left
   ·exact h.2
   ·repeat (first | exact Off.lay0 rfl | refine Off.updO ?_ rfl _ | refine Off.updN ?_ _ | refine Off.lay ?_ rfl)
   ·repeat (first | exact trivial | refine ⟨rfl, ?_⟩)
   exact ⟨K31, v31, h.1, rfl, (((Ext.refl _ _ _).comp hX18 (fun c hx hlt => (hx))).comp hS31 (fun c hx hlt => ((((ho17_u6 c hx).elim (fun hz => (.inl hz)) (fun hz => .inr (Nat.le_trans (Nat.le_refl _) hz))) : ob v14_0 = some c ∨ w14.heap.size ≤ c).elim (fun hx => (hx)) (fun hz => absurd hlt (Nat.not_lt.2 hz))))), hM31, (qoQ hw17_27 hd25 (qcU (h_a0_slices).wf.1)), hO31, (fun g hg => (by have hg : ob v31 = some g := hg; rcases hob31 with hq | hq <;> rw [hq] at hg; exact ((ho17_u6 g hg).elim (fun hz => (.inl hz)) (fun hz => .inr (Nat.le_trans (Nat.le_refl _) hz))); cases hg; exact .inr hX18.size))⟩
  ·have hd25 : ¬ (i17 < (a0_slices.length : Int)) := qjs hc25
   have h := h.2 hd25
   refine qih ?_
   refine qao ?_
   refine qag ?_
   refine qaa u6_17 (R_mv rfl) rfl rfl ?_
   refine qaa u6_17 (R_as rfl) rfl rfl ?_
   refine qay ?_
   refine qcv ?_
   exact qbE hR (v := u6_17) (qd7 rfl rfl) ⟨K18, u6_17, newslice17, rfl, h, hE18, hM18, hL17_u6, (fun g hg => (ho17_u6 g hg).elim (fun hx => (fun g hg => Nat.le_trans hE4.size (hg14_0 g hg)) g hx) (fun hx => Nat.le_trans hE14.size hx))⟩
theorem qp4 {w0 : World} {K0 : Ghost} {a0_slices_v : Value} {a0_slices : (List (List UInt8))} (hM0 : Models w0 K0) (h_a0_slices : qa5.V K0 a0_slices a0_slices_v) (hp : a0_slices.flatten.length ≤ 140737488355328) : Calls Try.prog 134 #[a0_slices_v] w0 (fun e w' => ∃ (K' : Ghost) (r0 : Value), e = .returned r0 ∧ Ext NX w0 K0 w' K' ∧ Models w' K' ∧ Own Kd.byte 5 w' K' a0_slices.flatten r0 ∧ (∀ g, ob r0 = some g → w0.heap.size ≤ g)) := by
 refine (qkb hM0 h_a0_slices (qnn h_a0_slices.wf hp)).mono ?_
 rintro _ w' ⟨K', r0, o0, rfl, rfl, hF⟩
 exact ⟨K', r0, rfl, hF⟩
end Go.Proofs.Ytmjjkpiglbpkhaa

set_option linter.unusedVariables false
set_option maxRecDepth 100000
set_option maxHeartbeats 2000000
namespace Go.Proofs.Ytmjjkpiglbpkhaa
open Go Go.RowKit Go.Inc
noncomputable def qlm : Ctr := ⟨[.v (.sl (.sl .byte))], [.ow 5 .byte], some (fun a => (fun (a0_slices : List (List UInt8)) => (a0_slices.flatten.length ≤ 140737488355328 : Prop)) a.1), fun a => (fun (a0_slices : List (List UInt8)) => ((a0_slices.flatten, ()), (()))) a.1⟩
theorem qp5 : qlm.valid Try.prog 134 := qxg (k := .byte) (fun _ => rfl) fun a hp θ vs w K hM hv => by
 obtain ⟨v, vs, rfl, h1, h2⟩ := hv
 have h2' : vs = [] := h2
 subst h2'
 exact qp4 hM (qdk (t := .sl (.sl .byte)) h1 rfl) hp
end Go.Proofs.Ytmjjkpiglbpkhaa

set_option linter.unusedVariables false
set_option maxRecDepth 100000
set_option maxHeartbeats 20000000
namespace Go.Proofs.Ytmjjkpiglbpkhaa
open Go Go.RowKit Go.Inc
noncomputable def qb0 : Ctr := ⟨[.v (.sl .byte)], [.ow 5 .byte], some (fun a => (fun (a0_s : List UInt8) => (a0_s.length ≤ 140737488355328 : Prop)) a.1), fun a => (fun (a0_s : List UInt8) => ((a0_s, ()), (()))) a.1⟩
noncomputable def qnm : Fx := ⟨seat, some bkT, fns, [], [], [], []⟩
def qh0 (a0_s : List UInt8) (Q : (List UInt8) → Prop) : Prop :=
 ∀ (x0 : Bool), (x0 = true → a0_s = ([] : List UInt8)) → (x0 = true → Q ([] : List UInt8)) ∧ (x0 = false → (([] : List UInt8).length + a0_s.length) * (1 : Nat) ≤ (140737488355328 : Nat) ∧ Q (([] : List UInt8) ++ a0_s))
theorem qp2 {a0_s : List UInt8} (w_0 : (Ty.kd (.sl .byte)).wf a0_s) (hp : a0_s.length ≤ 140737488355328) : qh0 a0_s (fun o0 => o0 = a0_s) := by
 unfold qh0
 intro r hr
 refine ⟨fun h => ?_, fun _ => ⟨?_, rfl⟩⟩
 ·rw [hr h]
 ·simpa using hp
theorem qp1 : (∀ a, qb0.pre a → PM.wfP qb0.pm a (fvc qnm 200 69 qb0 a (eqO qb0 a))) = (∀ a : (List UInt8) × Unit, ((a.1).length ≤ 140737488355328) → (Ty.kd (.sl .byte)).wf a.1 → qh0 a.1 (fun o0 => o0 = (a.1))) := by kernel_rfl
theorem qds : qb0.valid Try.prog 69 := qau (X := qnm) (qaJ qal (fun b hb => by cases hb; exact qar) qas trivial) 200 (qp1.mpr fun a hp w_0 => @qp2 a.1 w_0 hp)
noncomputable def qgn : Ctr := ⟨[.v (.sl .byte), .v (.sl .byte)], [.v .bool], none, fun a => (fun (a0_a : List UInt8) (a1_b : List UInt8) => ((decide (a0_a = a1_b), ()), (()))) a.1 a.2.1⟩
noncomputable def qnq : Fx := ⟨seat, some bkT, fns, [], [], [], []⟩
def qlo (a0_a : List UInt8) (a1_b : List UInt8) (Q : Bool → Prop) : Prop :=
 Q (decide (a0_a = a1_b))
theorem qp9 {a0_a : List UInt8} {a1_b : List UInt8} (w_0 : (Ty.kd (.sl .byte)).wf a0_a) (w_1 : (Ty.kd (.sl .byte)).wf a1_b) : qlo a0_a a1_b (fun o0 => o0 = decide (a0_a = a1_b)) := by
 exact rfl
theorem qp8 : (∀ a, qgn.pre a → PM.wfP qgn.pm a (fvc qnq 200 85 qgn a (eqO qgn a))) = (∀ a : (List UInt8) × (List UInt8) × Unit, True → (Ty.kd (.sl .byte)).wf a.1 → (Ty.kd (.sl .byte)).wf a.2.1 → qlo a.1 a.2.1 (fun o0 => o0 = decide ((a.1) = (a.2.1)))) := by kernel_rfl
theorem qsZ : qgn.valid Try.prog 85 := qau (X := qnq) (qaJ qal (fun b hb => by cases hb; exact qar) qas trivial) 200 (qp8.mpr fun a hp w_0 w_1 => @qp9 a.1 a.2.1 w_0 w_1)
noncomputable def qeX : Ctr := ⟨[.v (.int .u64)], [.v (.int .i64)], none, fun a => (fun (a0_x : Int) => (((blen a0_x.toNat : Int), ()), (()))) a.1⟩
noncomputable def qny : Fx := ⟨seat, some bkT, fns, [], [], [], []⟩
def qh5 (a0_x : Int) (Q : Int → Prop) : Prop :=
 ((4294967296 : Int) ≤ a0_x → ((65536 : Int) ≤ shr IntKind.u64 a0_x (32 : Int) → ((256 : Int) ≤ shr IntKind.u64 (shr IntKind.u64 a0_x (32 : Int)) (16 : Int) → ((0 : Int) ≤ IntKind.u8.wrap (shr IntKind.u64 (shr IntKind.u64 (shr IntKind.u64 a0_x (32 : Int)) (16 : Int)) (8 : Int)) ∧ IntKind.u8.wrap (shr IntKind.u64 (shr IntKind.u64 (shr IntKind.u64 a0_x (32 : Int)) (16 : Int)) (8 : Int)) < (qat.length : Int)) ∧ Q (IntKind.i64.wrap (IntKind.i64.wrap (IntKind.i64.wrap ((32 : Int) + (16 : Int)) + (8 : Int)) + bI (ix qat (IntKind.u8.wrap (shr IntKind.u64 (shr IntKind.u64 (shr IntKind.u64 a0_x (32 : Int)) (16 : Int)) (8 : Int))))))) ∧ (¬(256 : Int) ≤ shr IntKind.u64 (shr IntKind.u64 a0_x (32 : Int)) (16 : Int) → ((0 : Int) ≤ IntKind.u8.wrap (shr IntKind.u64 (shr IntKind.u64 a0_x (32 : Int)) (16 : Int)) ∧ IntKind.u8.wrap (shr IntKind.u64 (shr IntKind.u64 a0_x (32 : Int)) (16 : Int)) < (qat.length : Int)) ∧ Q (IntKind.i64.wrap (IntKind.i64.wrap ((32 : Int) + (16 : Int)) + bI (ix qat (IntKind.u8.wrap (shr IntKind.u64 (shr IntKind.u64 a0_x (32 : Int)) (16 : Int)))))))) ∧ (¬(65536 : Int) ≤ shr IntKind.u64 a0_x (32 : Int) → ((256 : Int) ≤ shr IntKind.u64 a0_x (32 : Int) → ((0 : Int) ≤ IntKind.u8.wrap (shr IntKind.u64 (shr IntKind.u64 a0_x (32 : Int)) (8 : Int)) ∧ IntKind.u8.wrap (shr IntKind.u64 (shr IntKind.u64 a0_x (32 : Int)) (8 : Int)) < (qat.length : Int)) ∧ Q (IntKind.i64.wrap (IntKind.i64.wrap ((32 : Int) + (8 : Int)) + bI (ix qat (IntKind.u8.wrap (shr IntKind.u64 (shr IntKind.u64 a0_x (32 : Int)) (8 : Int))))))) ∧ (¬(256 : Int) ≤ shr IntKind.u64 a0_x (32 : Int) → ((0 : Int) ≤ IntKind.u8.wrap (shr IntKind.u64 a0_x (32 : Int)) ∧ IntKind.u8.wrap (shr IntKind.u64 a0_x (32 : Int)) < (qat.length : Int)) ∧ Q (IntKind.i64.wrap ((32 : Int) + bI (ix qat (IntKind.u8.wrap (shr IntKind.u64 a0_x (32 : Int))))))))) ∧ (¬(4294967296 : Int) ≤ a0_x → ((65536 : Int) ≤ a0_x → ((256 : Int) ≤ shr IntKind.u64 a0_x (16 : Int) → ((0 : Int) ≤ IntKind.u8.wrap (shr IntKind.u64 (shr IntKind.u64 a0_x (16 : Int)) (8 : Int)) ∧ IntKind.u8.wrap (shr IntKind.u64 (shr IntKind.u64 a0_x (16 : Int)) (8 : Int)) < (qat.length : Int)) ∧ Q (IntKind.i64.wrap (IntKind.i64.wrap (IntKind.i64.wrap ((0 : Int) + (16 : Int)) + (8 : Int)) + bI (ix qat (IntKind.u8.wrap (shr IntKind.u64 (shr IntKind.u64 a0_x (16 : Int)) (8 : Int))))))) ∧ (¬(256 : Int) ≤ shr IntKind.u64 a0_x (16 : Int) → ((0 : Int) ≤ IntKind.u8.wrap (shr IntKind.u64 a0_x (16 : Int)) ∧ IntKind.u8.wrap (shr IntKind.u64 a0_x (16 : Int)) < (qat.length : Int)) ∧ Q (IntKind.i64.wrap (IntKind.i64.wrap ((0 : Int) + (16 : Int)) + bI (ix qat (IntKind.u8.wrap (shr IntKind.u64 a0_x (16 : Int)))))))) ∧ (¬(65536 : Int) ≤ a0_x → ((256 : Int) ≤ a0_x → ((0 : Int) ≤ IntKind.u8.wrap (shr IntKind.u64 a0_x (8 : Int)) ∧ IntKind.u8.wrap (shr IntKind.u64 a0_x (8 : Int)) < (qat.length : Int)) ∧ Q (IntKind.i64.wrap (IntKind.i64.wrap ((0 : Int) + (8 : Int)) + bI (ix qat (IntKind.u8.wrap (shr IntKind.u64 a0_x (8 : Int))))))) ∧ (¬(256 : Int) ≤ a0_x → ((0 : Int) ≤ IntKind.u8.wrap a0_x ∧ IntKind.u8.wrap a0_x < (qat.length : Int)) ∧ Q (IntKind.i64.wrap ((0 : Int) + bI (ix qat (IntKind.u8.wrap a0_x)))))))
theorem qqe {a0_x : Int} (w_0 : (Ty.kd (.int .u64)).wf a0_x) : qh5 a0_x (fun o0 => o0 = (blen a0_x.toNat : Int)) := by
 obtain ⟨n, rfl⟩ := Int.eq_ofNat_of_zero_le w_0.1
 have hn : n < 18446744073709551616 := by
  have h : ((n : Int)) ≤ (18446744073709551615 : Int) := w_0.2
  omega
 have ht : qat = qfe := by decide +kernel
 have s32 : ∀ m : Nat, shr .u64 (m : Int) 32 = ((m / 4294967296 : Nat) : Int) := fun m => qg7 (k := 32) (by decide)
 have s16 : ∀ m : Nat, shr .u64 (m : Int) 16 = ((m / 65536 : Nat) : Int) := fun m => qg7 (k := 16) (by decide)
 have s8 : ∀ m : Nat, shr .u64 (m : Int) 8 = ((m / 256 : Nat) : Int) := fun m => qg7 (k := 8) (by decide)
 have b32 : ∀ m : Nat, 4294967296 ≤ m → blen m = 32 + blen (m / 4294967296) := fun m h => qcR 32 h
 have b16 : ∀ m : Nat, 65536 ≤ m → blen m = 16 + blen (m / 65536) := fun m h => qcR 16 h
 have b8 : ∀ m : Nat, 256 ≤ m → blen m = 8 + blen (m / 256) := fun m h => qcR 8 h
 unfold qh5
 simp only [s32, s16, s8, Int.toNat_natCast]
 refine ⟨fun h1 => ⟨fun h2 => ⟨fun h3 => ?_, fun h3 => ?_⟩, fun h2 => ⟨fun h3 => ?_, fun h3 => ?_⟩⟩, fun h1 => ⟨fun h2 => ⟨fun h3 => ?_, fun h3 => ?_⟩, fun h2 => ⟨fun h3 => ?_, fun h3 => ?_⟩⟩⟩
 ·exact qcx (k := 56) (by omega) (by omega) (by rw [b32 n (by omega), b16 _ (by omega), b8 _ (by omega)]; omega) (by decide) ht
 ·exact qcx (k := 48) (by omega) (by omega) (by rw [b32 n (by omega), b16 _ (by omega)]; omega) (by decide) ht
 ·exact qcx (k := 40) (by omega) (by omega) (by rw [b32 n (by omega), b8 _ (by omega)]; omega) (by decide) ht
 ·exact qcx (k := 32) (by omega) (by omega) (by rw [b32 n (by omega)]) (by decide) ht
 ·exact qcx (k := 24) (by omega) (by omega) (by rw [b16 n (by omega), b8 _ (by omega)]; omega) (by decide) ht
 ·exact qcx (k := 16) (by omega) (by omega) (by rw [b16 n (by omega)]) (by decide) ht
 ·exact qcx (k := 8) (by omega) (by omega) (by rw [b8 n (by omega)]) (by decide) ht
 ·exact qcx (k := 0) (by omega) (by omega) (by omega) (by decide) ht
theorem qqd : (∀ a, qeX.pre a → PM.wfP qeX.pm a (fvc qny 200 108 qeX a (eqO qeX a))) = (∀ a : Int × Unit, True → (Ty.kd (.int .u64)).wf a.1 → qh5 a.1 (fun o0 => o0 = (blen (a.1).toNat : Int))) := by kernel_rfl
theorem qtd : qeX.valid Try.prog 108 := qau (X := qny) (qaJ qal (fun b hb => by cases hb; exact qar) qas trivial) 200 (qqd.mpr fun a hp w_0 => @qqe a.1 w_0)
noncomputable def qji : Ctr := ⟨[.v (.sl .byte), .v (.sl (.int .u64))], [.ow 5 .byte], some (fun a => (fun (a0_b : List UInt8) (a1_l : List Int) => (a0_b.length + 9 * a1_l.length ≤ 140737488355328 : Prop)) a.1 a.2.1), fun a => (fun (a0_b : List UInt8) (a1_l : List Int) => (((a0_b ++ qaf a1_l), ()), (()))) a.1 a.2.1⟩
noncomputable def qvc : Fx := ⟨seat, some bkT, fns, [(69, qb0), (108, qeX)], [], [], []⟩
def qnz (a0_b : List UInt8) (a1_l : List Int) (Q : (List UInt8) → Prop) : Prop :=
 a0_b.length ≤ (140737488355328 : Nat) ∧ (Ty.byte.kd.sl.wf a0_b → ∃ (x0 : List UInt8 → Int → Prop), ∃ (x1 : List UInt8 → Int → Nat), x0 a0_b (0 : Int) ∧ ∀ (x2 : List UInt8) (x3 : Int), x0 x2 x3 → Ty.byte.kd.sl.wf x2 → (Kd.int IntKind.i64).wf x3 → (x3 < (a1_l.length : Int) → ((0 : Int) ≤ x3 ∧ x3 < (a1_l.length : Int)) ∧ ((Ty.int IntKind.i64).kd.wf (blen (ix a1_l x3).toNat : Int) → (x2.length + (toB (IntKind.u8.wrap (IntKind.i64.wrap ((IntKind.i64.wrap ((blen (ix a1_l x3).toNat : Int) + (7 : Int))).tdiv (8 : Int)))) :: ([] : List UInt8)).length) * (1 : Nat) ≤ (140737488355328 : Nat) ∧ ∃ (x9 : List UInt8 → Int → Prop), ∃ (x10 : List UInt8 → Int → Nat), x9 (x2 ++ toB (IntKind.u8.wrap (IntKind.i64.wrap ((IntKind.i64.wrap ((blen (ix a1_l x3).toNat : Int) + (7 : Int))).tdiv (8 : Int)))) :: ([] : List UInt8)) (IntKind.i64.wrap ((8 : Int) * IntKind.i64.wrap ((IntKind.i64.wrap ((blen (ix a1_l x3).toNat : Int) + (7 : Int))).tdiv (8 : Int)))) ∧ ∀ (x11 : List UInt8) (x12 : Int), x9 x11 x12 → Ty.byte.kd.sl.wf x11 → (Kd.int IntKind.i64).wf x12 → ((0 : Int) < x12 → (0 : Int) ≤ IntKind.i64.wrap (x12 - (8 : Int)) ∧ (x11.length + (toB (IntKind.u8.wrap (shr IntKind.u64 (ix a1_l x3) (IntKind.i64.wrap (x12 - (8 : Int))))) :: ([] : List UInt8)).length) * (1 : Nat) ≤ (140737488355328 : Nat) ∧ x9 (x11 ++ toB (IntKind.u8.wrap (shr IntKind.u64 (ix a1_l x3) (IntKind.i64.wrap (x12 - (8 : Int))))) :: ([] : List UInt8)) (IntKind.i64.wrap (x12 - (8 : Int))) ∧ x10 (x11 ++ toB (IntKind.u8.wrap (shr IntKind.u64 (ix a1_l x3) (IntKind.i64.wrap (x12 - (8 : Int))))) :: ([] : List UInt8)) (IntKind.i64.wrap (x12 - (8 : Int))) < x10 x11 x12) ∧ (¬(0 : Int) < x12 → x3 < (9223372036854775807 : Int) ∧ x0 x11 (x3 + (1 : Int)) ∧ x1 x11 (x3 + (1 : Int)) < x1 x2 x3))) ∧ (¬x3 < (a1_l.length : Int) → Q x2))
theorem qve {a0_b : List UInt8} {a1_l : List Int} (w_0 : (Ty.kd (.sl .byte)).wf a0_b) (w_1 : (Ty.kd (.sl (.int .u64))).wf a1_l) (hp : a0_b.length + 9 * a1_l.length ≤ 140737488355328) : qnz a0_b a1_l (fun o0 => o0 = (a0_b ++ qaf a1_l)) := by
 have hw : ∀ x ∈ a1_l, ∃ n : Nat, x = (n : Int) ∧ n < 2 ^ 64 := fun x hx => by
  obtain ⟨n, rfl⟩ := Int.eq_ofNat_of_zero_le (w_1.2 x hx).1
  have h : ((n : Int)) ≤ (18446744073709551615 : Int) := (w_1.2 (n : Int) hx).2
  exact ⟨n, rfl, by omega⟩
 have hlen : ∀ j, j ≤ a1_l.length → (qaf (a1_l.take j)).length ≤ 9 * j := by
  intro j
  induction j with
  | zero => intro _; simp [qaf]
  | succ j ih =>
    intro hj
    have hlt : (j : Int) < (a1_l.length : Int) := by omega
    obtain ⟨n, hn, hb⟩ := hw _ (qd5 (by omega) hlt)
    have h1 := qaC hb
    have h2 := ih (by omega)
    rw [qbf hlt]
    unfold qaf at *
    rw [List.flatMap_append, List.length_append]
    simp only [List.flatMap_cons, List.flatMap_nil, List.append_nil, hn, Int.toNat_natCast]
    omega
 unfold qnz
 refine ⟨by omega, fun _ => ⟨fun out i => ∃ j : Nat, i = (j : Int) ∧ j ≤ a1_l.length ∧ out = a0_b ++ qaf (a1_l.take j), fun _ i => a1_l.length - i.toNat, ⟨0, rfl, by omega, by simp [qaf]⟩, ?_⟩⟩
 rintro out i ⟨j, rfl, hj, rfl⟩ _ hwi
 refine ⟨fun hlt => ⟨⟨by omega, hlt⟩, fun _ => ⟨?_, ?_⟩⟩, fun hge => ?_⟩
 ·have := hlen j hj
  simp only [List.length_append, List.length_cons, List.length_nil]
  omega
 ·obtain ⟨n, hn, hb⟩ := hw _ (qd5 (by omega) hlt)
  have hbl := qcE 64 hb
  have hk := qxo hbl
  rw [hn]
  simp only [Int.toNat_natCast, hk]
  rw [qsN]
  generalize hkk : (blen n + 7) / 8 = k
  have hk8 : k ≤ 8 := by omega
  have hT : a0_b ++ qaf (a1_l.take (j + 1)) = a0_b ++ qaf (a1_l.take j) ++ [UInt8.ofNat k] ++ be n k := by
   rw [qbf hlt]
   simp [qaf, numB, hn, hkk]
  have hTl := hlen (j + 1) (by omega)
  have hTl2 : (a0_b ++ qaf (a1_l.take (j + 1))).length ≤ 140737488355328 := by
   rw [List.length_append]
   omega
  refine ⟨fun out at_ => ∃ m : Nat, m ≤ k ∧ at_ = ((8 * m : Nat) : Int) ∧ out ++ be n m = a0_b ++ qaf (a1_l.take (j + 1)), fun _ at_ => at_.toNat, ⟨k, Nat.le_refl _, ?_, hT.symm⟩, ?_⟩
  ·rw [qam (wf64 (by omega) (by omega))]
   omega
  ·rintro out at_ ⟨m, hm, rfl, hout⟩ _ _
   refine ⟨fun hpos => ?_, fun hz => ?_⟩
   ·obtain ⟨m, rfl⟩ : ∃ m', m = m' + 1 := ⟨m - 1, by omega⟩
    have e8 : IntKind.i64.wrap (((8 * (m + 1) : Nat) : Int) - 8) = ((8 * m : Nat) : Int) := by
     rw [qam (wf64 (by omega) (by omega))]
     omega
    rw [e8, qoh (by omega)]
    have hol := congrArg List.length hout
    simp only [List.length_append, qaM] at hol
    simp only [List.length_append] at hTl2
    refine ⟨by omega, ?_, ⟨m, by omega, rfl, ?_⟩, ?_⟩
    ·simp only [List.length_cons, List.length_nil]
     omega
    ·rw [← hout]
     simp [be]
    ·show ((8 * m : Nat) : Int).toNat < ((8 * (m + 1) : Nat) : Int).toNat
     omega
   ·have : m = 0 := by omega
    subst this
    have h2 := w_1.1
    unfold LM at h2
    refine ⟨by omega, ⟨j + 1, rfl, by omega, by simpa [be] using hout⟩, ?_⟩
    show a1_l.length - ((j + 1 : Nat) : Int).toNat < a1_l.length - (j : Int).toNat
    omega
 ·have : j = a1_l.length := by omega
  subst this
  rw [List.take_length]
theorem qvd : (∀ a, qji.pre a → PM.wfP qji.pm a (fvc qvc 200 62 qji a (eqO qji a))) = (∀ a : (List UInt8) × (List Int) × Unit, ((a.1).length + 9 * (a.2.1).length ≤ 140737488355328) → (Ty.kd (.sl .byte)).wf a.1 → (Ty.kd (.sl (.int .u64))).wf a.2.1 → qnz a.1 a.2.1 (fun o0 => o0 = ((a.1) ++ qaf (a.2.1)))) := by kernel_rfl
theorem qte : qji.valid Try.prog 62 := qau (X := qvc) (qaJ qal (fun b hb => by cases hb; exact qar) qas ⟨qds, qtd, trivial⟩) 200 (qvd.mpr fun a hp w_0 w_1 => @qve a.1 a.2.1 w_0 w_1 hp)
noncomputable def qgl : Ctr := ⟨[.v (.sl .byte), .v (.sl (.sl .byte))], [.ow 5 .byte], some (fun a => (fun (a0_b : List UInt8) (a1_l : List (List UInt8)) => (a0_b.length + qaj a1_l ≤ 140737488355328 : Prop)) a.1 a.2.1), fun a => (fun (a0_b : List UInt8) (a1_l : List (List UInt8)) => (((a0_b ++ qak a1_l), ()), (()))) a.1 a.2.1⟩
noncomputable def qsa : Fx := ⟨seat, some bkT, fns, [(69, qb0), (62, qji)], [], [], []⟩
def qka (a0_b : List UInt8) (a1_l : List (List UInt8)) (Q : (List UInt8) → Prop) : Prop :=
 a0_b.length ≤ (140737488355328 : Nat) ∧ (Ty.byte.kd.sl.wf a0_b → ∃ (x0 : List UInt8 → Int → Prop), ∃ (x1 : List UInt8 → Int → Nat), x0 a0_b (0 : Int) ∧ ∀ (x2 : List UInt8) (x3 : Int), x0 x2 x3 → Ty.byte.kd.sl.wf x2 → (Kd.int IntKind.i64).wf x3 → (x3 < (a1_l.length : Int) → ((0 : Int) ≤ x3 ∧ x3 < (a1_l.length : Int)) ∧ x2.length + (9 : Nat) * (IntKind.u64.wrap ((ix a1_l x3).length : Int) :: ([] : List Int)).length ≤ (140737488355328 : Nat) ∧ (Ty.byte.kd.sl.wf (x2 ++ qaf (IntKind.u64.wrap ((ix a1_l x3).length : Int) :: ([] : List Int))) → ((x2 ++ qaf (IntKind.u64.wrap ((ix a1_l x3).length : Int) :: ([] : List Int))).length + (ix a1_l x3).length) * (1 : Nat) ≤ (140737488355328 : Nat) ∧ x3 < (9223372036854775807 : Int) ∧ x0 (x2 ++ qaf (IntKind.u64.wrap ((ix a1_l x3).length : Int) :: ([] : List Int)) ++ ix a1_l x3) (x3 + (1 : Int)) ∧ x1 (x2 ++ qaf (IntKind.u64.wrap ((ix a1_l x3).length : Int) :: ([] : List Int)) ++ ix a1_l x3) (x3 + (1 : Int)) < x1 x2 x3)) ∧ (¬x3 < (a1_l.length : Int) → Q x2))
theorem qsU {a0_b : List UInt8} {a1_l : List (List UInt8)} (w_0 : (Ty.kd (.sl .byte)).wf a0_b) (w_1 : (Ty.kd (.sl (.sl .byte))).wf a1_l) (hp : a0_b.length + qaj a1_l ≤ 140737488355328) : qka a0_b a1_l (fun o0 => o0 = (a0_b ++ qak a1_l)) := by
 have hw : ∀ x ∈ a1_l, x.length ≤ LM := fun x hx => (w_1.2 x hx).1
 unfold qka
 refine ⟨by omega, fun _ => ⟨fun out i => ∃ j : Nat, i = (j : Int) ∧ j ≤ a1_l.length ∧ out = a0_b ++ qak (a1_l.take j), fun _ i => a1_l.length - i.toNat, ⟨0, rfl, by omega, by simp [qak]⟩, ?_⟩⟩
 rintro out i ⟨j, rfl, hj, rfl⟩ _ _
 refine ⟨fun hlt => ⟨⟨by omega, hlt⟩, ?_, fun _ => ⟨?_, by have := w_1.1; unfold LM at this; omega, ?_, ?_⟩⟩, fun hge => ?_⟩
 ·have h1 := qbq (a1_l.take j) (fun y hy => by have := hw y (List.mem_of_mem_take hy); unfold LM at this; omega)
  have h2 := qc8 hlt
  simp only [List.length_append, List.length_cons, List.length_nil]
  omega
 ·have h1 := qbq (a1_l.take j) (fun y hy => by have := hw y (List.mem_of_mem_take hy); unfold LM at this; omega)
  have h2 := qc8 hlt
  have h3 := hw _ (qd5 (by omega) hlt)
  have h4 : IntKind.u64.wrap ((ix a1_l (j : Int)).length : Int) = ((ix a1_l (j : Int)).length : Int) := qam ⟨by show (0 : Int) ≤ _; omega, by unfold LM at h3; show _ ≤ (18446744073709551615 : Int); omega⟩
  have h5 := qaC (n := (ix a1_l (j : Int)).length) (by unfold LM at h3; omega)
  rw [h4]
  simp only [List.length_append, qaf, List.flatMap_cons, List.flatMap_nil, List.append_nil, Int.toNat_natCast]
  omega
 ·have h3 := hw _ (qd5 (by omega) hlt)
  have h4 : IntKind.u64.wrap ((ix a1_l (j : Int)).length : Int) = ((ix a1_l (j : Int)).length : Int) := qam ⟨by show (0 : Int) ≤ _; omega, by unfold LM at h3; show _ ≤ (18446744073709551615 : Int); omega⟩
  refine ⟨j + 1, by omega, by omega, ?_⟩
  rw [h4, qbf hlt]
  simp [qak, qaf]
 ·show a1_l.length - ((j : Int) + 1).toNat < a1_l.length - (j : Int).toNat
  omega
 ·have : j = a1_l.length := by omega
  subst this
  rw [List.take_length]
theorem qsT : (∀ a, qgl.pre a → PM.wfP qgl.pm a (fvc qsa 200 95 qgl a (eqO qgl a))) = (∀ a : (List UInt8) × (List (List UInt8)) × Unit, ((a.1).length + qaj (a.2.1) ≤ 140737488355328) → (Ty.kd (.sl .byte)).wf a.1 → (Ty.kd (.sl (.sl .byte))).wf a.2.1 → qka a.1 a.2.1 (fun o0 => o0 = ((a.1) ++ qak (a.2.1)))) := by kernel_rfl
theorem qsb : qgl.valid Try.prog 95 := qau (X := qsa) (qaJ qal (fun b hb => by cases hb; exact qar) qas ⟨qds, qte, trivial⟩) 200 (qsT.mpr fun a hp w_0 w_1 => @qsU a.1 a.2.1 w_0 w_1 hp)
noncomputable def qcI : Ctr := ⟨[.v (.int .i64), .v (.sl (.sl .byte))], [.ow 5 .byte], some (fun a => (fun (a0_kind : Int) (a1_parts : List (List UInt8)) => (1 + qaj a1_parts ≤ 140737488355328 : Prop)) a.1 a.2.1), fun a => (fun (a0_kind : Int) (a1_parts : List (List UInt8)) => (((preimage a0_kind a1_parts), ()), (()))) a.1 a.2.1⟩
noncomputable def qhv : Fx := ⟨seat, some bkT, fns, [(95, qgl)], [], [], []⟩
def qeb (a0_kind : Int) (a1_parts : List (List UInt8)) (Q : (List UInt8) → Prop) : Prop :=
 (toB (IntKind.u8.wrap a0_kind) :: ([] : List UInt8)).length + qaj a1_parts ≤ (140737488355328 : Nat) ∧ (Ty.byte.kd.sl.wf (toB (IntKind.u8.wrap a0_kind) :: ([] : List UInt8) ++ qak a1_parts) → Q (toB (IntKind.u8.wrap a0_kind) :: ([] : List UInt8) ++ qak a1_parts))
theorem qkk {a0_kind : Int} {a1_parts : List (List UInt8)} (w_0 : (Ty.kd (.int .i64)).wf a0_kind) (w_1 : (Ty.kd (.sl (.sl .byte))).wf a1_parts) (hp : 1 + qaj a1_parts ≤ 140737488355328) : qeb a0_kind a1_parts (fun o0 => o0 = (preimage a0_kind a1_parts)) := by
 unfold qeb
 refine ⟨by simpa using hp, fun _ => rfl⟩
theorem qkj : (∀ a, qcI.pre a → PM.wfP qcI.pm a (fvc qhv 200 98 qcI a (eqO qcI a))) = (∀ a : Int × (List (List UInt8)) × Unit, (1 + qaj (a.2.1) ≤ 140737488355328) → (Ty.kd (.int .i64)).wf a.1 → (Ty.kd (.sl (.sl .byte))).wf a.2.1 → qeb a.1 a.2.1 (fun o0 => o0 = (preimage (a.1) (a.2.1)))) := by kernel_rfl
theorem qmD : qcI.valid Try.prog 98 := qau (X := qhv) (qaJ qal (fun b hb => by cases hb; exact qar) qas ⟨qsb, trivial⟩) 200 (qkj.mpr fun a hp w_0 w_1 => @qkk a.1 a.2.1 w_0 w_1 hp)
noncomputable def qki : Ctr := ⟨[], [.bx (.pr (.arr 8 (.int .u32)) (.pr (.int .u64) (.sl .byte)))], none, fun _ => ((((List.replicate 8 (0 : Int), (0 : Int), ([] : List UInt8)) : List Int × Int × List UInt8), ()), (()))⟩
noncomputable def qu8 : Fx := ⟨seat, some bkT, fns, [], [], [], []⟩
def qsh (Q : ((List Int) × Int × List UInt8) → Prop) : Prop :=
 Q ((Ty.arr (8 : Nat) (Ty.int IntKind.u32)).pr ((Ty.int IntKind.u64).pr Ty.byte.sl)).kd.z
theorem qvb  : qsh  (fun o0 => o0 = ((List.replicate 8 (0 : Int), (0 : Int), ([] : List UInt8)) : List Int × Int × List UInt8)) := by
 exact rfl
theorem qu9 : (∀ a, qki.pre a → PM.wfP qki.pm a (fvc qu8 200 123 qki a (eqO qki a))) = (∀ a : Unit, True → qsh  (fun o0 => o0 = ((List.replicate 8 (0 : Int), (0 : Int), ([] : List UInt8)) : List Int × Int × List UInt8))) := by kernel_rfl
theorem qva : qki.valid Try.prog 123 := qau (X := qu8) (qaJ qal (fun b hb => by cases hb; exact qar) qas trivial) 200 (qu9.mpr fun a hp  => @qvb )
noncomputable def qhK : Ctr := ⟨[.v (.int .u64)], [.ow 5 .byte], none, fun a => (fun (a0_x : Int) => (((be a0_x.toNat 8), ()), (()))) a.1⟩
noncomputable def qsz : Fx := ⟨seat, some bkT, fns, [], [], [], []⟩
def qkQ (a0_x : Int) (Q : (List UInt8) → Prop) : Prop :=
 ∃ (x0 : List UInt8 → Int → Prop), ∃ (x1 : List UInt8 → Int → Nat), x0 ([] : List UInt8) (56 : Int) ∧ ∀ (x2 : List UInt8) (x3 : Int), x0 x2 x3 → Ty.byte.kd.sl.wf x2 → (Kd.int IntKind.i64).wf x3 → ((0 : Int) ≤ x3 → (0 : Int) ≤ x3 ∧ (x2.length + (toB (IntKind.u8.wrap (shr IntKind.u64 a0_x x3)) :: ([] : List UInt8)).length) * (1 : Nat) ≤ (140737488355328 : Nat) ∧ x0 (x2 ++ toB (IntKind.u8.wrap (shr IntKind.u64 a0_x x3)) :: ([] : List UInt8)) (IntKind.i64.wrap (x3 - (8 : Int))) ∧ x1 (x2 ++ toB (IntKind.u8.wrap (shr IntKind.u64 a0_x x3)) :: ([] : List UInt8)) (IntKind.i64.wrap (x3 - (8 : Int))) < x1 x2 x3) ∧ (¬(0 : Int) ≤ x3 → Q x2)
theorem qud {a0_x : Int} (w_0 : (Ty.kd (.int .u64)).wf a0_x) : qkQ a0_x (fun o0 => o0 = (be a0_x.toNat 8)) := by
 obtain ⟨n, rfl⟩ := Int.eq_ofNat_of_zero_le w_0.1
 unfold qkQ
 rw [Int.toNat_natCast]
 refine ⟨fun b i => ∃ m : Nat, m ≤ 8 ∧ i = 8 * (m : Int) - 8 ∧ b ++ be n m = be n 8, fun _ i => (i + 8).toNat, ⟨8, by omega, by omega, rfl⟩, ?_⟩
 rintro b i ⟨m, hm, rfl, hb⟩ _ _
 have hbl := congrArg List.length hb
 simp only [List.length_append, qaM] at hbl
 refine ⟨fun h0 => ⟨h0, ?_, ?_, ?_⟩, fun h => ?_⟩
 ·simp only [List.length_cons, List.length_nil]
  omega
 ·obtain ⟨m, rfl⟩ : ∃ m', m = m' + 1 := ⟨m - 1, by omega⟩
  have e : 8 * ((m + 1 : Nat) : Int) - 8 = ((8 * m : Nat) : Int) := by omega
  rw [e, qoh (by omega), qam (wf64 (by omega) (by omega))]
  refine ⟨m, by omega, by omega, ?_⟩
  rw [← hb]
  simp [be]
 ·rw [qam (wf64 (by omega) (by omega))]
  show (8 * (m : Int) - 8 - 8 + 8).toNat < (8 * (m : Int) - 8 + 8).toNat
  omega
 ·have : m = 0 := by omega
  subst this
  simpa [be] using hb
theorem quc : (∀ a, qhK.pre a → PM.wfP qhK.pm a (fvc qsz 200 139 qhK a (eqO qhK a))) = (∀ a : Int × Unit, True → (Ty.kd (.int .u64)).wf a.1 → qkQ a.1 (fun o0 => o0 = (be (a.1).toNat 8))) := by kernel_rfl
theorem qwc : qhK.valid Try.prog 139 := qau (X := qsz) (qaJ qal (fun b hb => by cases hb; exact qar) qas trivial) 200 (quc.mpr fun a hp w_0 => @qud a.1 w_0)
noncomputable def qfo : Ctr := ⟨[], [.v (.arr 8 (.int .u32))], none, fun _ => ((shaH, ()), (()))⟩
noncomputable def qoG : Fx := ⟨seat, some bkT, fns, [], [], [], []⟩
def qlV (Q : (List Int) → Prop) : Prop :=
 Q ((1779033703 : Int) :: (3144134277 : Int) :: (1013904242 : Int) :: (2773480762 : Int) :: (1359893119 : Int) :: (2600822924 : Int) :: (528734635 : Int) :: (1541459225 : Int) :: ([] : List Int))
theorem qq6  : qlV  (fun o0 => o0 = shaH) := by
 exact rfl
theorem qq5 : (∀ a, qfo.pre a → PM.wfP qfo.pm a (fvc qoG 200 135 qfo a (eqO qfo a))) = (∀ a : Unit, True → qlV  (fun o0 => o0 = shaH)) := by kernel_rfl
theorem qt7 : qfo.valid Try.prog 135 := qau (X := qoG) (qaJ qal (fun b hb => by cases hb; exact qar) qas trivial) 200 (qq5.mpr fun a hp  => @qq6 )
noncomputable def qdZ : Ctr := ⟨[], [.v (.arr 64 (.int .u32))], none, fun _ => ((shaK, ()), (()))⟩
noncomputable def qmi : Fx := ⟨seat, some bkT, fns, [], [], [], []⟩
def qjV (Q : (List Int) → Prop) : Prop :=
 Q ((1116352408 : Int) :: (1899447441 : Int) :: (3049323471 : Int) :: (3921009573 : Int) :: (961987163 : Int) :: (1508970993 : Int) :: (2453635748 : Int) :: (2870763221 : Int) :: (3624381080 : Int) :: (310598401 : Int) :: (607225278 : Int) :: (1426881987 : Int) :: (1925078388 : Int) :: (2162078206 : Int) :: (2614888103 : Int) :: (3248222580 : Int) :: (3835390401 : Int) :: (4022224774 : Int) :: (264347078 : Int) :: (604807628 : Int) :: (770255983 : Int) :: (1249150122 : Int) :: (1555081692 : Int) :: (1996064986 : Int) :: (2554220882 : Int) :: (2821834349 : Int) :: (2952996808 : Int) :: (3210313671 : Int) :: (3336571891 : Int) :: (3584528711 : Int) :: (113926993 : Int) :: (338241895 : Int) :: (666307205 : Int) :: (773529912 : Int) :: (1294757372 : Int) :: (1396182291 : Int) :: (1695183700 : Int) :: (1986661051 : Int) :: (2177026350 : Int) :: (2456956037 : Int) :: (2730485921 : Int) :: (2820302411 : Int) :: (3259730800 : Int) :: (3345764771 : Int) :: (3516065817 : Int) :: (3600352804 : Int) :: (4094571909 : Int) :: (275423344 : Int) :: (430227734 : Int) :: (506948616 : Int) :: (659060556 : Int) :: (883997877 : Int) :: (958139571 : Int) :: (1322822218 : Int) :: (1537002063 : Int) :: (1747873779 : Int) :: (1955562222 : Int) :: (2024104815 : Int) :: (2227730452 : Int) :: (2361852424 : Int) :: (2428436474 : Int) :: (2756734187 : Int) :: (3204031479 : Int) :: (3329325298 : Int) :: ([] : List Int))
theorem qpt  : qjV  (fun o0 => o0 = shaK) := by
 exact rfl
theorem qps : (∀ a, qdZ.pre a → PM.wfP qdZ.pm a (fvc qmi 200 147 qdZ a (eqO qdZ a))) = (∀ a : Unit, True → qjV  (fun o0 => o0 = shaK)) := by kernel_rfl
theorem qrJ : qdZ.valid Try.prog 147 := qau (X := qmi) (qaJ qal (fun b hb => by cases hb; exact qar) qas trivial) 200 (qps.mpr fun a hp  => @qpt )
noncomputable def qhy : Ctr := ⟨[.v (.int .u32), .v (.int .i64)], [.v (.int .u32)], none, fun a => (fun (a0_x : Int) (a1_k : Int) => (((rotl a0_x a1_k), ()), (()))) a.1 a.2.1⟩
noncomputable def qsk : Fx := ⟨seat, some bkT, fns, [], [], [], []⟩
def qnW (a0_x : Int) (a1_k : Int) (Q : Int → Prop) : Prop :=
 Q (bor IntKind.u32 (shl IntKind.u32 a0_x (band IntKind.u64 (IntKind.u64.wrap a1_k) (31 : Int))) (shr IntKind.u32 a0_x (IntKind.u64.wrap ((32 : Int) - band IntKind.u64 (IntKind.u64.wrap a1_k) (31 : Int)))))
theorem qtz {a0_x : Int} {a1_k : Int} (w_0 : (Ty.kd (.int .u32)).wf a0_x) (w_1 : (Ty.kd (.int .i64)).wf a1_k) : qnW a0_x a1_k (fun o0 => o0 = (rotl a0_x a1_k)) := by
 exact rfl
theorem qty : (∀ a, qhy.pre a → PM.wfP qhy.pm a (fvc qsk 200 148 qhy a (eqO qhy a))) = (∀ a : Int × Int × Unit, True → (Ty.kd (.int .u32)).wf a.1 → (Ty.kd (.int .i64)).wf a.2.1 → qnW a.1 a.2.1 (fun o0 => o0 = (rotl (a.1) (a.2.1)))) := by kernel_rfl
theorem qvG : qhy.valid Try.prog 148 := qau (X := qsk) (qaJ qal (fun b hb => by cases hb; exact qar) qas trivial) 200 (qty.mpr fun a hp w_0 w_1 => @qtz a.1 a.2.1 w_0 w_1)
noncomputable def qfM : Ctr := ⟨[.v (.int .u32), .v (.sl (.int .i64))], [.v (.int .u32)], none, fun a => (fun (a0_x : Int) (a1_l : List Int) => (((qaD a0_x a1_l), ()), (()))) a.1 a.2.1⟩
noncomputable def qpI : Fx := ⟨seat, some bkT, fns, [(148, qhy)], [], [], []⟩
def qi7 (a0_x : Int) (a1_l : List Int) (Q : Int → Prop) : Prop :=
 ∃ (x0 : Int → Int → Prop), ∃ (x1 : Int → Int → Nat), x0 (0 : Int) (0 : Int) ∧ ∀ (x2 x3 : Int), x0 x2 x3 → (Kd.int IntKind.u32).wf x2 → (Kd.int IntKind.i64).wf x3 → (x3 < (a1_l.length : Int) → ((0 : Int) ≤ x3 ∧ x3 < (a1_l.length : Int)) ∧ ((Ty.int IntKind.u32).kd.wf (rotl a0_x (IntKind.i64.wrap ((0 : Int) - ix a1_l x3))) → x3 < (9223372036854775807 : Int) ∧ x0 (bxor IntKind.u32 x2 (rotl a0_x (IntKind.i64.wrap ((0 : Int) - ix a1_l x3)))) (x3 + (1 : Int)) ∧ x1 (bxor IntKind.u32 x2 (rotl a0_x (IntKind.i64.wrap ((0 : Int) - ix a1_l x3)))) (x3 + (1 : Int)) < x1 x2 x3)) ∧ (¬x3 < (a1_l.length : Int) → Q x2)
theorem qr1 {a0_x : Int} {a1_l : List Int} (w_0 : (Ty.kd (.int .u32)).wf a0_x) (w_1 : (Ty.kd (.sl (.int .i64))).wf a1_l) : qi7 a0_x a1_l (fun o0 => o0 = (qaD a0_x a1_l)) := by
 unfold qi7
 refine ⟨fun s i => ∃ j : Nat, i = (j : Int) ∧ j ≤ a1_l.length ∧ s = qaD a0_x (a1_l.take j), fun _ i => a1_l.length - i.toNat, ⟨0, rfl, by omega, rfl⟩, ?_⟩
 rintro s i ⟨j, rfl, hj, rfl⟩ _ _
 refine ⟨fun hlt => ⟨⟨by omega, hlt⟩, fun _ => ⟨by have := w_1.1; unfold LM at this; omega, ⟨j + 1, by omega, by omega, ?_⟩, ?_⟩⟩, fun hge => ?_⟩
 ·rw [qbf hlt]
  simp [qaD]
 ·show a1_l.length - ((j : Int) + 1).toNat < a1_l.length - (j : Int).toNat
  omega
 ·have : j = a1_l.length := by omega
  subst this
  rw [List.take_length]
theorem qr0 : (∀ a, qfM.pre a → PM.wfP qfM.pm a (fvc qpI 200 146 qfM a (eqO qfM a))) = (∀ a : Int × (List Int) × Unit, True → (Ty.kd (.int .u32)).wf a.1 → (Ty.kd (.sl (.int .i64))).wf a.2.1 → qi7 a.1 a.2.1 (fun o0 => o0 = (qaD (a.1) (a.2.1)))) := by kernel_rfl
theorem quM : qfM.valid Try.prog 146 := qau (X := qpI) (qaJ qal (fun b hb => by cases hb; exact qar) qas ⟨qvG, trivial⟩) 200 (qr0.mpr fun a hp w_0 w_1 => @qr1 a.1 a.2.1 w_0 w_1)
noncomputable def qhs : Ctr := ⟨[.bx (.pr (.arr 8 (.int .u32)) (.pr (.int .u64) (.sl .byte))) false], [.v (.int .u64)], none, fun a => (fun (a0_h : (List Int) × Int × List UInt8) => (((hLen a0_h), ()), (()))) a.1⟩
noncomputable def qsd : Fx := ⟨seat, some bkT, fns, [], [], [], [(3, [], [.o 0 2, .o 1 2, .o 2 2, .o 3 2, .o 4 2, .o 5 2, .o 6 2, .o 7 2, .o 8 2, .o 9 2, .o 10 2, .o 11 2, .o 12 2])]⟩
def qnt (a0_h : (List Int) × Int × List UInt8) (Q : Int → Prop) : Prop :=
 Q (IntKind.u64.wrap (IntKind.u64.wrap ((64 : Int) * a0_h.snd.fst) + IntKind.u64.wrap (a0_h.snd.snd.length : Int)))
theorem qs5 {a0_h : (List Int) × Int × List UInt8} (w_0 : (Ty.kd (.pr (.arr 8 (.int .u32)) (.pr (.int .u64) (.sl .byte)))).wf a0_h) : qnt a0_h (fun o0 => o0 = (hLen a0_h)) := by
 exact rfl
theorem qs4 : (∀ a, qhs.pre a → PM.wfP qhs.pm a (fvc qsd 200 138 qhs a (eqO qhs a))) = (∀ a : ((List Int) × Int × List UInt8) × Unit, True → (Ty.kd (.pr (.arr 8 (.int .u32)) (.pr (.int .u64) (.sl .byte)))).wf a.1 → qnt a.1 (fun o0 => o0 = (hLen (a.1)))) := by kernel_rfl
theorem qu4 : qhs.valid Try.prog 138 := qau (X := qsd) (qaJ qal (fun b hb => by cases hb; exact qar) qas trivial) 200 (qs4.mpr fun a hp w_0 => @qs5 a.1 w_0)
noncomputable def qeV : Ctr := ⟨[.bx (.pr (.arr 8 (.int .u32)) (.pr (.int .u64) (.sl .byte))) false], [.bx (.pr (.arr 8 (.int .u32)) (.pr (.int .u64) (.sl .byte)))], some (fun a => (fun (a0_h : (List Int) × Int × List UInt8) => (a0_h.2.2.length ≤ 140737488355328 : Prop)) a.1), fun a => (fun (a0_h : (List Int) × Int × List UInt8) => ((a0_h, ()), (()))) a.1⟩
noncomputable def qns : Fx := ⟨seat, some bkT, fns, [(69, qb0)], [], [], []⟩
def qlp (a0_h : (List Int) × Int × List UInt8) (Q : ((List Int) × Int × List UInt8) → Prop) : Prop :=
 a0_h.snd.snd.length ≤ (140737488355328 : Nat) ∧ (Ty.byte.kd.sl.wf a0_h.snd.snd → Q (a0_h.fst, a0_h.snd.fst, a0_h.snd.snd))
theorem qqb {a0_h : (List Int) × Int × List UInt8} (w_0 : (Ty.kd (.pr (.arr 8 (.int .u32)) (.pr (.int .u64) (.sl .byte)))).wf a0_h) (hp : a0_h.2.2.length ≤ 140737488355328) : qlp a0_h (fun o0 => o0 = a0_h) := by
 exact ⟨hp, fun _ => rfl⟩
theorem qqa : (∀ a, qeV.pre a → PM.wfP qeV.pm a (fvc qns 200 137 qeV a (eqO qeV a))) = (∀ a : ((List Int) × Int × List UInt8) × Unit, ((a.1).2.2.length ≤ 140737488355328) → (Ty.kd (.pr (.arr 8 (.int .u32)) (.pr (.int .u64) (.sl .byte)))).wf a.1 → qlp a.1 (fun o0 => o0 = (a.1))) := by kernel_rfl
theorem qs3 : qeV.valid Try.prog 137 := qau (X := qns) (qaJ qal (fun b hb => by cases hb; exact qar) qas ⟨qds, trivial⟩) 200 (qqa.mpr fun a hp w_0 => @qqb a.1 w_0 hp)
end Go.Proofs.Ytmjjkpiglbpkhaa

set_option linter.unusedVariables false
set_option maxRecDepth 100000
set_option maxHeartbeats 20000000
namespace Go.Proofs.Ytmjjkpiglbpkhaa
open Go Go.RowKit Go.Inc
noncomputable def qhW : Ctr := ⟨[.bx (.arr 8 (.int .u32)) true, .v (.sl .byte)], [], some (fun a => (fun (a0_s : List Int) (a1_b : List UInt8) => (a1_b.length = 64 : Prop)) a.1 a.2.1), fun a => (fun (a0_s : List Int) (a1_b : List UInt8) => ((()), ((qjZ a0_s a1_b), ()))) a.1 a.2.1⟩
noncomputable def qsL : Fx := ⟨seat, some bkT, fns, [(146, qfM), (147, qdZ)], [], [(2, [1], []), (10, [2], []), (18, [0], [])], [(5, [1], [.o 0 2, .o 1 2, .o 2 2, .o 3 2, .o 4 2, .o 5 2, .o 6 2, .o 7 2, .o 8 2, .o 9 2, .o 10 2, .o 11 2, .o 12 2, .o 13 2, .o 14 2, .o 15 2, .o 16 2, .o 17 2, .o 18 2, .o 19 2, .o 20 2, .o 21 2, .o 22 2, .o 23 2, .o 24 2, .o 25 2, .o 26 2, .o 27 2, .o 28 2, .o 29 2, .o 30 2, .o 31 2, .o 32 2, .o 33 2, .o 34 2, .o 35 1]), (6, [1], [.o 0 2, .o 1 2, .o 2 2, .o 3 2, .o 4 2, .o 5 2, .o 6 2, .o 7 2, .o 8 2, .o 9 2, .o 10 2, .o 11 2, .o 12 2, .o 13 2, .o 16 2, .o 17 2, .o 18 2, .o 19 2, .o 20 2, .o 23 2, .o 24 2, .o 25 2, .o 26 2, .o 29 2, .o 30 2, .o 31 2, .o 32 2, .o 33 2, .par [14, 15, 21, 22, 27] (.alt 14 0 (.alt 15 0 (.one 21 2 (.one 22 2 (.one 27 0 .fin))) (.alt 27 0 (.one 15 0 (.one 21 2 (.one 22 2 .fin))) .fin)) (.alt 27 0 (.one 14 0 (.one 15 0 (.one 21 2 (.one 22 2 .fin)))) .fin)), .o 28 0, .o 34 2, .o 35 2, .o 36 2, .o 37 1]), (12, [], [.o 0 2, .o 1 2, .o 2 2, .o 3 2, .o 4 2, .o 5 2]), (13, [], [.o 0 2, .o 1 2, .o 2 2, .o 6 2, .o 7 2, .o 8 2, .o 9 2, .o 10 2, .o 11 2, .o 12 2, .o 13 2, .o 14 2, .o 15 2, .o 17 2, .o 19 2, .o 20 2, .o 21 2, .o 3 0, .o 4 0, .o 5 2, .o 16 2, .o 18 2, .o 22 2, .o 23 2]), (14, [], [.o 0 2, .o 3 2, .o 4 2, .o 5 2, .o 6 2, .o 7 2, .o 8 2, .o 9 2, .o 10 2, .o 11 2, .o 12 2, .o 13 2, .o 14 2, .o 15 2, .o 16 2, .o 17 2, .o 1 0, .o 2 0, .o 18 2, .o 19 2]), (20, [0], [.o 0 2, .o 1 2, .o 2 2, .o 3 2, .o 4 2, .o 5 2, .o 6 2, .o 7 2, .o 8 2, .o 9 2, .o 10 2, .o 11 1])]⟩
def qk9 (a0_s : List Int) (a1_b : List UInt8) (Q : (List Int) → Prop) : Prop :=
 ∃ (x0 : Int → List Int → Prop), ∃ (x1 : Int → List Int → Nat), x0 (0 : Int) (Ty.arr (64 : Nat) (Ty.int IntKind.u32)).kd.z ∧ ∀ (x2 : Int) (x3 : List Int), x0 x2 x3 → (Kd.int IntKind.i64).wf x2 → (Ty.arr (64 : Nat) (Ty.int IntKind.u32)).kd.wf x3 → (x2 < (64 : Int) → (x2 < (16 : Int) → ((0 : Int) ≤ IntKind.i64.wrap ((4 : Int) * x2) ∧ IntKind.i64.wrap ((4 : Int) * x2) < (a1_b.length : Int)) ∧ ((0 : Int) ≤ IntKind.i64.wrap (IntKind.i64.wrap ((4 : Int) * x2) + (1 : Int)) ∧ IntKind.i64.wrap (IntKind.i64.wrap ((4 : Int) * x2) + (1 : Int)) < (a1_b.length : Int)) ∧ ((0 : Int) ≤ IntKind.i64.wrap (IntKind.i64.wrap ((4 : Int) * x2) + (2 : Int)) ∧ IntKind.i64.wrap (IntKind.i64.wrap ((4 : Int) * x2) + (2 : Int)) < (a1_b.length : Int)) ∧ ((0 : Int) ≤ IntKind.i64.wrap (IntKind.i64.wrap ((4 : Int) * x2) + (3 : Int)) ∧ IntKind.i64.wrap (IntKind.i64.wrap ((4 : Int) * x2) + (3 : Int)) < (a1_b.length : Int)) ∧ ((0 : Int) ≤ x2 ∧ x2 < ((64 : Nat) : Int)) ∧ x2 < (9223372036854775807 : Int) ∧ x0 (x2 + (1 : Int)) (x3.set x2.toNat (bor IntKind.u32 (bor IntKind.u32 (bor IntKind.u32 (shl IntKind.u32 (bI (ix a1_b (IntKind.i64.wrap ((4 : Int) * x2)))) (24 : Int)) (shl IntKind.u32 (bI (ix a1_b (IntKind.i64.wrap (IntKind.i64.wrap ((4 : Int) * x2) + (1 : Int))))) (16 : Int))) (shl IntKind.u32 (bI (ix a1_b (IntKind.i64.wrap (IntKind.i64.wrap ((4 : Int) * x2) + (2 : Int))))) (8 : Int))) (bI (ix a1_b (IntKind.i64.wrap (IntKind.i64.wrap ((4 : Int) * x2) + (3 : Int))))))) ∧ x1 (x2 + (1 : Int)) (x3.set x2.toNat (bor IntKind.u32 (bor IntKind.u32 (bor IntKind.u32 (shl IntKind.u32 (bI (ix a1_b (IntKind.i64.wrap ((4 : Int) * x2)))) (24 : Int)) (shl IntKind.u32 (bI (ix a1_b (IntKind.i64.wrap (IntKind.i64.wrap ((4 : Int) * x2) + (1 : Int))))) (16 : Int))) (shl IntKind.u32 (bI (ix a1_b (IntKind.i64.wrap (IntKind.i64.wrap ((4 : Int) * x2) + (2 : Int))))) (8 : Int))) (bI (ix a1_b (IntKind.i64.wrap (IntKind.i64.wrap ((4 : Int) * x2) + (3 : Int))))))) < x1 x2 x3) ∧ (¬x2 < (16 : Int) → ((0 : Int) ≤ IntKind.i64.wrap (x2 - (16 : Int)) ∧ IntKind.i64.wrap (x2 - (16 : Int)) < ((64 : Nat) : Int)) ∧ ((0 : Int) ≤ IntKind.i64.wrap (x2 - (7 : Int)) ∧ IntKind.i64.wrap (x2 - (7 : Int)) < ((64 : Nat) : Int)) ∧ ((0 : Int) ≤ IntKind.i64.wrap (x2 - (15 : Int)) ∧ IntKind.i64.wrap (x2 - (15 : Int)) < ((64 : Nat) : Int)) ∧ ((0 : Int) ≤ IntKind.i64.wrap (x2 - (15 : Int)) ∧ IntKind.i64.wrap (x2 - (15 : Int)) < ((64 : Nat) : Int)) ∧ ((0 : Int) ≤ IntKind.i64.wrap (x2 - (2 : Int)) ∧ IntKind.i64.wrap (x2 - (2 : Int)) < ((64 : Nat) : Int)) ∧ ((0 : Int) ≤ IntKind.i64.wrap (x2 - (2 : Int)) ∧ IntKind.i64.wrap (x2 - (2 : Int)) < ((64 : Nat) : Int)) ∧ (((Ty.int IntKind.u32).kd.wf (qaD (ix x3 (IntKind.i64.wrap (x2 - (15 : Int)))) ((7 : Int) :: (18 : Int) :: ([] : List Int))) → (Ty.int IntKind.u32).kd.wf (qaD (ix x3 (IntKind.i64.wrap (x2 - (2 : Int)))) ((17 : Int) :: (19 : Int) :: ([] : List Int))) → ((0 : Int) ≤ x2 ∧ x2 < ((64 : Nat) : Int)) ∧ x2 < (9223372036854775807 : Int) ∧ x0 (x2 + (1 : Int)) (x3.set x2.toNat (IntKind.u32.wrap (IntKind.u32.wrap (IntKind.u32.wrap (ix x3 (IntKind.i64.wrap (x2 - (16 : Int))) + ix x3 (IntKind.i64.wrap (x2 - (7 : Int)))) + bxor IntKind.u32 (qaD (ix x3 (IntKind.i64.wrap (x2 - (15 : Int)))) ((7 : Int) :: (18 : Int) :: ([] : List Int))) (shr IntKind.u32 (ix x3 (IntKind.i64.wrap (x2 - (15 : Int)))) (3 : Int))) + bxor IntKind.u32 (qaD (ix x3 (IntKind.i64.wrap (x2 - (2 : Int)))) ((17 : Int) :: (19 : Int) :: ([] : List Int))) (shr IntKind.u32 (ix x3 (IntKind.i64.wrap (x2 - (2 : Int)))) (10 : Int))))) ∧ x1 (x2 + (1 : Int)) (x3.set x2.toNat (IntKind.u32.wrap (IntKind.u32.wrap (IntKind.u32.wrap (ix x3 (IntKind.i64.wrap (x2 - (16 : Int))) + ix x3 (IntKind.i64.wrap (x2 - (7 : Int)))) + bxor IntKind.u32 (qaD (ix x3 (IntKind.i64.wrap (x2 - (15 : Int)))) ((7 : Int) :: (18 : Int) :: ([] : List Int))) (shr IntKind.u32 (ix x3 (IntKind.i64.wrap (x2 - (15 : Int)))) (3 : Int))) + bxor IntKind.u32 (qaD (ix x3 (IntKind.i64.wrap (x2 - (2 : Int)))) ((17 : Int) :: (19 : Int) :: ([] : List Int))) (shr IntKind.u32 (ix x3 (IntKind.i64.wrap (x2 - (2 : Int)))) (10 : Int))))) < x1 x2 x3) ∧ ((Ty.int IntKind.u32).kd.wf (qaD (ix x3 (IntKind.i64.wrap (x2 - (15 : Int)))) ((7 : Int) :: (18 : Int) :: ([] : List Int))) → (Ty.int IntKind.u32).kd.wf (qaD (ix x3 (IntKind.i64.wrap (x2 - (2 : Int)))) ((17 : Int) :: (19 : Int) :: ([] : List Int))) → ((0 : Int) ≤ x2 ∧ x2 < ((64 : Nat) : Int)) ∧ x2 < (9223372036854775807 : Int) ∧ x0 (x2 + (1 : Int)) (x3.set x2.toNat (IntKind.u32.wrap (IntKind.u32.wrap (IntKind.u32.wrap (ix x3 (IntKind.i64.wrap (x2 - (16 : Int))) + ix x3 (IntKind.i64.wrap (x2 - (7 : Int)))) + bxor IntKind.u32 (qaD (ix x3 (IntKind.i64.wrap (x2 - (15 : Int)))) ((7 : Int) :: (18 : Int) :: ([] : List Int))) (shr IntKind.u32 (ix x3 (IntKind.i64.wrap (x2 - (15 : Int)))) (3 : Int))) + bxor IntKind.u32 (qaD (ix x3 (IntKind.i64.wrap (x2 - (2 : Int)))) ((17 : Int) :: (19 : Int) :: ([] : List Int))) (shr IntKind.u32 (ix x3 (IntKind.i64.wrap (x2 - (2 : Int)))) (10 : Int))))) ∧ x1 (x2 + (1 : Int)) (x3.set x2.toNat (IntKind.u32.wrap (IntKind.u32.wrap (IntKind.u32.wrap (ix x3 (IntKind.i64.wrap (x2 - (16 : Int))) + ix x3 (IntKind.i64.wrap (x2 - (7 : Int)))) + bxor IntKind.u32 (qaD (ix x3 (IntKind.i64.wrap (x2 - (15 : Int)))) ((7 : Int) :: (18 : Int) :: ([] : List Int))) (shr IntKind.u32 (ix x3 (IntKind.i64.wrap (x2 - (15 : Int)))) (3 : Int))) + bxor IntKind.u32 (qaD (ix x3 (IntKind.i64.wrap (x2 - (2 : Int)))) ((17 : Int) :: (19 : Int) :: ([] : List Int))) (shr IntKind.u32 (ix x3 (IntKind.i64.wrap (x2 - (2 : Int)))) (10 : Int))))) < x1 x2 x3) ∧ True) ∧ ((Ty.int IntKind.u32).kd.wf (qaD (ix x3 (IntKind.i64.wrap (x2 - (15 : Int)))) ((7 : Int) :: (18 : Int) :: ([] : List Int))) → (Ty.int IntKind.u32).kd.wf (qaD (ix x3 (IntKind.i64.wrap (x2 - (2 : Int)))) ((17 : Int) :: (19 : Int) :: ([] : List Int))) → ((0 : Int) ≤ x2 ∧ x2 < ((64 : Nat) : Int)) ∧ x2 < (9223372036854775807 : Int) ∧ x0 (x2 + (1 : Int)) (x3.set x2.toNat (IntKind.u32.wrap (IntKind.u32.wrap (IntKind.u32.wrap (ix x3 (IntKind.i64.wrap (x2 - (16 : Int))) + ix x3 (IntKind.i64.wrap (x2 - (7 : Int)))) + bxor IntKind.u32 (qaD (ix x3 (IntKind.i64.wrap (x2 - (15 : Int)))) ((7 : Int) :: (18 : Int) :: ([] : List Int))) (shr IntKind.u32 (ix x3 (IntKind.i64.wrap (x2 - (15 : Int)))) (3 : Int))) + bxor IntKind.u32 (qaD (ix x3 (IntKind.i64.wrap (x2 - (2 : Int)))) ((17 : Int) :: (19 : Int) :: ([] : List Int))) (shr IntKind.u32 (ix x3 (IntKind.i64.wrap (x2 - (2 : Int)))) (10 : Int))))) ∧ x1 (x2 + (1 : Int)) (x3.set x2.toNat (IntKind.u32.wrap (IntKind.u32.wrap (IntKind.u32.wrap (ix x3 (IntKind.i64.wrap (x2 - (16 : Int))) + ix x3 (IntKind.i64.wrap (x2 - (7 : Int)))) + bxor IntKind.u32 (qaD (ix x3 (IntKind.i64.wrap (x2 - (15 : Int)))) ((7 : Int) :: (18 : Int) :: ([] : List Int))) (shr IntKind.u32 (ix x3 (IntKind.i64.wrap (x2 - (15 : Int)))) (3 : Int))) + bxor IntKind.u32 (qaD (ix x3 (IntKind.i64.wrap (x2 - (2 : Int)))) ((17 : Int) :: (19 : Int) :: ([] : List Int))) (shr IntKind.u32 (ix x3 (IntKind.i64.wrap (x2 - (2 : Int)))) (10 : Int))))) < x1 x2 x3) ∧ True)) ∧ (¬x2 < (64 : Int) → (Ty.arr (64 : Nat) (Ty.int IntKind.u32)).kd.wf shaK → ∃ (x9 : Int → List Int → Prop), ∃ (x10 : Int → List Int → Nat), x9 (0 : Int) a0_s ∧ ∀ (x11 : Int) (x12 : List Int), x9 x11 x12 → (Kd.int IntKind.i64).wf x11 → (Ty.arr (8 : Nat) (Ty.int IntKind.u32)).kd.wf x12 → (x11 < (64 : Int) → ((0 : Int) ≤ x11 ∧ x11 < ((64 : Nat) : Int)) ∧ ((0 : Int) ≤ x11 ∧ x11 < ((64 : Nat) : Int)) ∧ ((Ty.int IntKind.u32).kd.wf (qaD (ix x12 (4 : Int)) ((6 : Int) :: (11 : Int) :: (25 : Int) :: ([] : List Int))) → (Ty.int IntKind.u32).kd.wf (qaD (ix x12 (0 : Int)) ((2 : Int) :: (13 : Int) :: (22 : Int) :: ([] : List Int))) → x11 < (9223372036854775807 : Int) ∧ x9 (x11 + (1 : Int)) (IntKind.u32.wrap (IntKind.u32.wrap (IntKind.u32.wrap (IntKind.u32.wrap (IntKind.u32.wrap (ix x12 (7 : Int) + qaD (ix x12 (4 : Int)) ((6 : Int) :: (11 : Int) :: (25 : Int) :: ([] : List Int))) + bxor IntKind.u32 (band IntKind.u32 (ix x12 (4 : Int)) (ix x12 (5 : Int))) (band IntKind.u32 (bxor IntKind.u32 (if IntKind.u32.signed = true then (-1 : Int) else IntKind.u32.max) (ix x12 (4 : Int))) (ix x12 (6 : Int)))) + ix shaK x11) + ix x3 x11) + IntKind.u32.wrap (qaD (ix x12 (0 : Int)) ((2 : Int) :: (13 : Int) :: (22 : Int) :: ([] : List Int)) + bxor IntKind.u32 (bxor IntKind.u32 (band IntKind.u32 (ix x12 (0 : Int)) (ix x12 (1 : Int))) (band IntKind.u32 (ix x12 (0 : Int)) (ix x12 (2 : Int)))) (band IntKind.u32 (ix x12 (1 : Int)) (ix x12 (2 : Int))))) :: ix x12 (0 : Int) :: ix x12 (1 : Int) :: ix x12 (2 : Int) :: IntKind.u32.wrap (ix x12 (3 : Int) + IntKind.u32.wrap (IntKind.u32.wrap (IntKind.u32.wrap (IntKind.u32.wrap (ix x12 (7 : Int) + qaD (ix x12 (4 : Int)) ((6 : Int) :: (11 : Int) :: (25 : Int) :: ([] : List Int))) + bxor IntKind.u32 (band IntKind.u32 (ix x12 (4 : Int)) (ix x12 (5 : Int))) (band IntKind.u32 (bxor IntKind.u32 (if IntKind.u32.signed = true then (-1 : Int) else IntKind.u32.max) (ix x12 (4 : Int))) (ix x12 (6 : Int)))) + ix shaK x11) + ix x3 x11)) :: ix x12 (4 : Int) :: ix x12 (5 : Int) :: ix x12 (6 : Int) :: ([] : List Int)) ∧ x10 (x11 + (1 : Int)) (IntKind.u32.wrap (IntKind.u32.wrap (IntKind.u32.wrap (IntKind.u32.wrap (IntKind.u32.wrap (ix x12 (7 : Int) + qaD (ix x12 (4 : Int)) ((6 : Int) :: (11 : Int) :: (25 : Int) :: ([] : List Int))) + bxor IntKind.u32 (band IntKind.u32 (ix x12 (4 : Int)) (ix x12 (5 : Int))) (band IntKind.u32 (bxor IntKind.u32 (if IntKind.u32.signed = true then (-1 : Int) else IntKind.u32.max) (ix x12 (4 : Int))) (ix x12 (6 : Int)))) + ix shaK x11) + ix x3 x11) + IntKind.u32.wrap (qaD (ix x12 (0 : Int)) ((2 : Int) :: (13 : Int) :: (22 : Int) :: ([] : List Int)) + bxor IntKind.u32 (bxor IntKind.u32 (band IntKind.u32 (ix x12 (0 : Int)) (ix x12 (1 : Int))) (band IntKind.u32 (ix x12 (0 : Int)) (ix x12 (2 : Int)))) (band IntKind.u32 (ix x12 (1 : Int)) (ix x12 (2 : Int))))) :: ix x12 (0 : Int) :: ix x12 (1 : Int) :: ix x12 (2 : Int) :: IntKind.u32.wrap (ix x12 (3 : Int) + IntKind.u32.wrap (IntKind.u32.wrap (IntKind.u32.wrap (IntKind.u32.wrap (ix x12 (7 : Int) + qaD (ix x12 (4 : Int)) ((6 : Int) :: (11 : Int) :: (25 : Int) :: ([] : List Int))) + bxor IntKind.u32 (band IntKind.u32 (ix x12 (4 : Int)) (ix x12 (5 : Int))) (band IntKind.u32 (bxor IntKind.u32 (if IntKind.u32.signed = true then (-1 : Int) else IntKind.u32.max) (ix x12 (4 : Int))) (ix x12 (6 : Int)))) + ix shaK x11) + ix x3 x11)) :: ix x12 (4 : Int) :: ix x12 (5 : Int) :: ix x12 (6 : Int) :: ([] : List Int)) < x10 x11 x12)) ∧ (¬x11 < (64 : Int) → ∃ (x17 : Int → List Int → Prop), ∃ (x18 : Int → List Int → Nat), x17 (0 : Int) a0_s ∧ ∀ (x19 : Int) (x20 : List Int), x17 x19 x20 → (Kd.int IntKind.i64).wf x19 → (Ty.arr (8 : Nat) (Ty.int IntKind.u32)).kd.wf x20 → (x19 < (8 : Int) → ((0 : Int) ≤ x19 ∧ x19 < ((8 : Nat) : Int)) ∧ ((0 : Int) ≤ x19 ∧ x19 < ((8 : Nat) : Int)) ∧ ((0 : Int) ≤ x19 ∧ x19 < ((8 : Nat) : Int)) ∧ x19 < (9223372036854775807 : Int) ∧ x17 (x19 + (1 : Int)) (x20.set x19.toNat (IntKind.u32.wrap (ix x20 x19 + ix x12 x19))) ∧ x18 (x19 + (1 : Int)) (x20.set x19.toNat (IntKind.u32.wrap (ix x20 x19 + ix x12 x19))) < x18 x19 x20) ∧ (¬x19 < (8 : Int) → Q x20)))
theorem quJ {a0_s : List Int} {a1_b : List UInt8} (w_0 : (Ty.kd (.arr 8 (.int .u32))).wf a0_s) (w_1 : (Ty.kd (.sl .byte)).wf a1_b) (hp : a1_b.length = 64) : qk9 a0_s a1_b (fun o0 => o0 = (qjZ a0_s a1_b)) := by
 have wr : ∀ a : Int, -1000 ≤ a → a ≤ 1000 → IntKind.i64.wrap a = a := fun a h1 h2 => qam (wf64 (by omega) (by omega))
 unfold qk9
 refine ⟨fun i w => ∃ n : Nat, i = (n : Int) ∧ n ≤ 64 ∧ w = qfZ a1_b n, fun i _ => 64 - i.toNat, ⟨0, rfl, by omega, rfl⟩, ?_⟩
 rintro i w ⟨n, rfl, hn, rfl⟩ _ _
 refine ⟨fun hlt => ⟨fun h16 => ?_, fun h16 => ?_⟩, fun hge _ => ?_⟩
 ·rw [wr (4 * (n : Int)) (by omega) (by omega), wr (4 * (n : Int) + 1) (by omega) (by omega), wr (4 * (n : Int) + 2) (by omega) (by omega), wr (4 * (n : Int) + 3) (by omega) (by omega)]
  refine ⟨by omega, by omega, by omega, by omega, by omega, by omega, ⟨n + 1, by omega, by omega, ?_⟩, ?_⟩
  ·simp only [qfZ, Int.toNat_natCast]
   rw [if_pos (by omega)]
   rfl
  ·show 64 - ((n : Int) + 1).toNat < 64 - (n : Int).toNat
   omega
 ·rw [wr ((n : Int) - 16) (by omega) (by omega), wr ((n : Int) - 7) (by omega) (by omega), wr ((n : Int) - 15) (by omega) (by omega), wr ((n : Int) - 2) (by omega) (by omega)]
  iterate 14 (all_goals (try intros); all_goals (try omega); all_goals (try (refine And.intro ?_ ?_)))
  all_goals first | trivial | omega | exact ⟨n + 1, by omega, by omega, by simp only [qfZ, Int.toNat_natCast]; rw [if_neg (by omega)]; rfl⟩ | (show 64 - ((n : Int) + 1).toNat < 64 - (n : Int).toNat; omega)
 ·have : n = 64 := by omega
  subst this
  refine ⟨fun i x => ∃ n : Nat, i = (n : Int) ∧ n ≤ 64 ∧ x = qiZ (qfZ a1_b 64) a0_s n, fun i _ => 64 - i.toNat, ⟨0, rfl, by omega, rfl⟩, ?_⟩
  rintro i x ⟨n, rfl, hn, rfl⟩ _ _
  refine ⟨fun hlt => ?_, fun hge => ?_⟩
  ·iterate 14 (all_goals (try intros); all_goals (try omega); all_goals (try (refine And.intro ?_ ?_)))
   all_goals first | trivial | omega | exact ⟨n + 1, by omega, by omega, rfl⟩ | (show 64 - ((n : Int) + 1).toNat < 64 - (n : Int).toNat; omega)
  ·have : n = 64 := by omega
   subst this
   refine ⟨fun i s => ∃ n : Nat, i = (n : Int) ∧ n ≤ 8 ∧ s = addN a0_s (qiZ (qfZ a1_b 64) a0_s 64) n, fun i _ => 8 - i.toNat, ⟨0, rfl, by omega, rfl⟩, ?_⟩
   rintro i s ⟨n, rfl, hn, rfl⟩ _ _
   refine ⟨fun hlt => ?_, fun hge => ?_⟩
   ·iterate 14 (all_goals (try intros); all_goals (try omega); all_goals (try (refine And.intro ?_ ?_)))
    all_goals first | trivial | omega | exact ⟨n + 1, by omega, by omega, by simp [addN]⟩ | (show 8 - ((n : Int) + 1).toNat < 8 - (n : Int).toNat; omega)
   ·have : n = 8 := by omega
    subst this
    rfl
theorem quI : (∀ a, qhW.pre a → PM.wfP qhW.pm a (fvc qsL 200 136 qhW a (eqO qhW a))) = (∀ a : (List Int) × (List UInt8) × Unit, ((a.2.1).length = 64) → (Ty.kd (.arr 8 (.int .u32))).wf a.1 → (Ty.kd (.sl .byte)).wf a.2.1 → qk9 a.1 a.2.1 (fun o0 => o0 = (qjZ (a.1) (a.2.1)))) := by kernel_rfl
theorem qwr : qhW.valid Try.prog 136 := qau (X := qsL) (qaJ qal (fun b hb => by cases hb; exact qar) qas ⟨quM, qrJ, trivial⟩) 200 (quI.mpr fun a hp w_0 w_1 => @quJ a.1 a.2.1 w_0 w_1 hp)
end Go.Proofs.Ytmjjkpiglbpkhaa

set_option linter.unusedVariables false
set_option maxRecDepth 100000
set_option maxHeartbeats 20000000
namespace Go.Proofs.Ytmjjkpiglbpkhaa
open Go Go.RowKit Go.Inc
noncomputable def qc5 : Ctr := ⟨[.bx (.pr (.arr 8 (.int .u32)) (.pr (.int .u64) (.sl .byte))) true, .v (.sl (.sl .byte))], [], some (fun a => (fun (a0_h : (List Int) × Int × List UInt8) (a1_parts : List (List UInt8)) => ((1 + a1_parts.length) * 24 ≤ 140737488355328 ∧ (a0_h.2.2 ++ a1_parts.flatten).length ≤ 140737488355328 : Prop)) a.1 a.2.1), fun a => (fun (a0_h : (List Int) × Int × List UInt8) (a1_parts : List (List UInt8)) => ((()), ((qaA a0_h a1_parts), ()))) a.1 a.2.1⟩
noncomputable def qlq : Fx := ⟨seat, some bkT, fns, [(134, qlm), (135, qfo), (136, qhW)], [], [(2, [0], [])], [(6, [0, 1, 2, 3, 4, 5, 6, 7, 8, 9, 10, 11, 12], [.o 0 2, .o 1 2, .o 2 2, .o 3 2, .o 4 2, .o 5 2, .o 6 2, .o 7 2, .o 8 1])]⟩
def qgo (a0_h : (List Int) × Int × List UInt8) (a1_parts : List (List UInt8)) (Q : ((List Int) × Int × List UInt8) → Prop) : Prop :=
 ((a0_h.snd.snd :: ([] : List (List UInt8))).length + a1_parts.length) * (24 : Nat) ≤ (140737488355328 : Nat) ∧ (a0_h.snd.snd :: ([] : List (List UInt8)) ++ a1_parts).flatten.length ≤ (140737488355328 : Nat) ∧ (Ty.byte.kd.sl.wf (a0_h.snd.snd :: ([] : List (List UInt8)) ++ a1_parts).flatten → ∃ (x0 : List Int × Int × List UInt8 → Prop), ∃ (x1 : List Int × Int × List UInt8 → Nat), x0 (a0_h.fst, a0_h.snd.fst, (a0_h.snd.snd :: ([] : List (List UInt8)) ++ a1_parts).flatten) ∧ ∀ (x2 : List Int × Int × List UInt8), x0 x2 → ((Ty.arr (8 : Nat) (Ty.int IntKind.u32)).pr ((Ty.int IntKind.u64).pr Ty.byte.sl)).kd.wf x2 → ((64 : Int) ≤ (x2.snd.snd.length : Int) → (x2.snd.fst = (0 : Int) → (Ty.arr (8 : Nat) (Ty.int IntKind.u32)).kd.wf shaH → ((0 : Int) ≤ (64 : Int) ∧ (64 : Int) ≤ (x2.snd.snd.length : Int)) ∧ (List.take (Int.toNat (64 : Int)) x2.snd.snd).length = (64 : Nat) ∧ ((0 : Int) ≤ (64 : Int) ∧ (64 : Int) ≤ (x2.snd.snd.length : Int)) ∧ x0 (qjZ shaH (List.take (Int.toNat (64 : Int)) x2.snd.snd), IntKind.u64.wrap (x2.snd.fst + (1 : Int)), List.drop (Int.toNat (64 : Int)) x2.snd.snd) ∧ x1 (qjZ shaH (List.take (Int.toNat (64 : Int)) x2.snd.snd), IntKind.u64.wrap (x2.snd.fst + (1 : Int)), List.drop (Int.toNat (64 : Int)) x2.snd.snd) < x1 x2) ∧ (¬x2.snd.fst = (0 : Int) → ((0 : Int) ≤ (64 : Int) ∧ (64 : Int) ≤ (x2.snd.snd.length : Int)) ∧ (List.take (Int.toNat (64 : Int)) x2.snd.snd).length = (64 : Nat) ∧ ((0 : Int) ≤ (64 : Int) ∧ (64 : Int) ≤ (x2.snd.snd.length : Int)) ∧ x0 (qjZ x2.fst (List.take (Int.toNat (64 : Int)) x2.snd.snd), IntKind.u64.wrap (x2.snd.fst + (1 : Int)), List.drop (Int.toNat (64 : Int)) x2.snd.snd) ∧ x1 (qjZ x2.fst (List.take (Int.toNat (64 : Int)) x2.snd.snd), IntKind.u64.wrap (x2.snd.fst + (1 : Int)), List.drop (Int.toNat (64 : Int)) x2.snd.snd) < x1 x2)) ∧ (¬(64 : Int) ≤ (x2.snd.snd.length : Int) → Q x2))
theorem qnv {a0_h : (List Int) × Int × List UInt8} {a1_parts : List (List UInt8)} (w_0 : (Ty.kd (.pr (.arr 8 (.int .u32)) (.pr (.int .u64) (.sl .byte)))).wf a0_h) (w_1 : (Ty.kd (.sl (.sl .byte))).wf a1_parts) (hp : (1 + a1_parts.length) * 24 ≤ 140737488355328 ∧ (a0_h.2.2 ++ a1_parts.flatten).length ≤ 140737488355328) : qgo a0_h a1_parts (fun o0 => o0 = (qaA a0_h a1_parts)) := by
 obtain ⟨h1, h2⟩ := hp
 unfold qgo
 refine ⟨by simp only [List.length_cons, List.length_nil]; omega, by simpa using h2, fun _ => ⟨fun b => eat b.1 b.2.1 b.2.2 = qaA a0_h a1_parts, fun b => b.2.2.length, by simp [qaA], ?_⟩⟩
 rintro ⟨s, n, r⟩ hI hwf
 refine ⟨fun h64 => ?_, fun h64 => ?_⟩
 ·have hl : 64 ≤ r.length := by
   have h : (64 : Int) ≤ (r.length : Int) := h64
   omega
  have ht : (r.take 64).length = 64 := by rw [List.length_take]; omega
  have hd : (r.drop 64).length < r.length := by rw [List.length_drop]; omega
  dsimp only at hI ⊢
  rw [eat, if_pos hl] at hI
  refine ⟨fun h0 _ => ⟨⟨by omega, by omega⟩, ht, ⟨by omega, by omega⟩, ?_, hd⟩, fun h0 => ⟨⟨by omega, by omega⟩, ht, ⟨by omega, by omega⟩, ?_, hd⟩⟩
  ·rw [if_pos h0] at hI
   exact hI
  ·rw [if_neg h0] at hI
   exact hI
 ·have hl : ¬ (64 ≤ r.length) := fun h => h64 (by show (64 : Int) ≤ (r.length : Int); omega)
  dsimp only at hI ⊢
  rw [eat, if_neg hl] at hI
  exact hI
theorem qnu : (∀ a, qc5.pre a → PM.wfP qc5.pm a (fvc qlq 200 124 qc5 a (eqO qc5 a))) = (∀ a : ((List Int) × Int × List UInt8) × (List (List UInt8)) × Unit, ((1 + (a.2.1).length) * 24 ≤ 140737488355328 ∧ ((a.1).2.2 ++ (a.2.1).flatten).length ≤ 140737488355328) → (Ty.kd (.pr (.arr 8 (.int .u32)) (.pr (.int .u64) (.sl .byte)))).wf a.1 → (Ty.kd (.sl (.sl .byte))).wf a.2.1 → qgo a.1 a.2.1 (fun o0 => o0 = (qaA (a.1) (a.2.1)))) := by kernel_rfl
theorem qlr : qc5.valid Try.prog 124 := qau (X := qlq) (qaJ qal (fun b hb => by cases hb; exact qar) qas ⟨qp5, qt7, qwr, trivial⟩) 200 (qnu.mpr fun a hp w_0 w_1 => @qnv a.1 a.2.1 w_0 w_1 hp)
noncomputable def qht : Ctr := ⟨[.bx (.pr (.arr 8 (.int .u32)) (.pr (.int .u64) (.sl .byte))) false], [.v (.arr 32 .byte)], some (fun a => (fun (a0_h : (List Int) × Int × List UInt8) => (a0_h.2.2.length < 64 : Prop)) a.1), fun a => (fun (a0_h : (List Int) × Int × List UInt8) => (((hSum a0_h), ()), (()))) a.1⟩
noncomputable def qse : Fx := ⟨seat, some bkT, fns, [(123, qki), (137, qeV), (138, qhs), (139, qhK), (124, qc5)], [], [(8, [8], [])], [(5, [0, 1, 2, 3, 4, 5, 6, 7, 8, 9, 10, 11, 12], [.o 0 2, .o 2 2, .o 3 2, .o 4 2, .o 5 2, .o 6 2, .o 7 2, .o 8 2, .o 10 2, .o 11 2, .par [1, 9, 12] (.alt 1 0 (.alt 9 0 (.one 12 0 .fin) (.alt 12 0 (.one 9 0 .fin) .fin)) (.alt 9 0 (.alt 1 0 (.one 12 0 .fin) (.alt 12 0 (.one 1 0 .fin) .fin)) (.alt 12 0 (.alt 1 0 (.one 9 0 .fin) (.alt 9 0 (.one 1 0 .fin) .fin)) .fin))), .o 13 0, .o 14 1]), (10, [0, 1, 2, 3, 4, 5, 6, 7, 8, 9, 10, 11, 12], [.o 0 2, .o 1 2, .o 2 2, .o 3 2, .o 4 2, .o 5 0, .o 6 2, .o 7 1])]⟩
def qkd (a0_h : (List Int) × Int × List UInt8) (Q : (List UInt8) → Prop) : Prop :=
 ((Ty.arr (8 : Nat) (Ty.int IntKind.u32)).pr ((Ty.int IntKind.u64).pr Ty.byte.sl)).kd.wf (List.replicate (8 : Nat) (0 : Int), (0 : Int), ([] : List UInt8)) → a0_h.snd.snd.length ≤ (140737488355328 : Nat) ∧ (((Ty.arr (8 : Nat) (Ty.int IntKind.u32)).pr ((Ty.int IntKind.u64).pr Ty.byte.sl)).kd.wf a0_h → (Ty.int IntKind.u64).kd.wf (hLen a0_h) → ((((0 : Int) ≤ (IntKind.i64.wrap ((119 : Int) - (a0_h.snd.snd.length : Int))).tmod (64 : Int) ∧ (IntKind.i64.wrap ((119 : Int) - (a0_h.snd.snd.length : Int))).tmod (64 : Int) ≤ (IntKind.i64.wrap ((119 : Int) - (a0_h.snd.snd.length : Int))).tmod (64 : Int) ∧ ((1 : Nat) : Int) * (IntKind.i64.wrap ((119 : Int) - (a0_h.snd.snd.length : Int))).tmod (64 : Int) ≤ (281474976710656 : Int) ∧ (IntKind.i64.wrap ((119 : Int) - (a0_h.snd.snd.length : Int))).tmod (64 : Int) ≤ (281474976710656 : Int)) ∧ (Ty.byte.kd.sl.wf (be (IntKind.u64.wrap ((8 : Int) * hLen a0_h)).toNat (8 : Nat)) → (((1 : Nat) + ((toB (128 : Int) :: ([] : List UInt8)) :: List.replicate ((IntKind.i64.wrap ((119 : Int) - (a0_h.snd.snd.length : Int))).tmod (64 : Int)).toNat Ty.byte.kd.z :: be (IntKind.u64.wrap ((8 : Int) * hLen a0_h)).toNat (8 : Nat) :: ([] : List (List UInt8))).length) * (24 : Nat) ≤ (140737488355328 : Nat) ∧ (a0_h.snd.snd ++ ((toB (128 : Int) :: ([] : List UInt8)) :: List.replicate ((IntKind.i64.wrap ((119 : Int) - (a0_h.snd.snd.length : Int))).tmod (64 : Int)).toNat Ty.byte.kd.z :: be (IntKind.u64.wrap ((8 : Int) * hLen a0_h)).toNat (8 : Nat) :: ([] : List (List UInt8))).flatten).length ≤ (140737488355328 : Nat)) ∧ ∃ (x0 : Int → List UInt8 → Prop), ∃ (x1 : Int → List UInt8 → Nat), x0 (0 : Int) (Ty.arr (32 : Nat) Ty.byte).kd.z ∧ ∀ (x2 : Int) (x3 : List UInt8), x0 x2 x3 → (Kd.int IntKind.i64).wf x2 → (Ty.arr (32 : Nat) Ty.byte).kd.wf x3 → (x2 < (8 : Int) → ((0 : Int) ≤ x2 ∧ x2 < ((8 : Nat) : Int)) ∧ ((0 : Int) ≤ IntKind.i64.wrap ((4 : Int) * x2) ∧ IntKind.i64.wrap ((4 : Int) * x2) ≤ ((32 : Nat) : Int) ∧ ((32 : Nat) : Int) ≤ ((32 : Nat) : Int) ∧ IntKind.i64.wrap ((4 : Int) * x2) < ((32 : Nat) : Int)) ∧ (Ty.byte.kd.sl.wf (be (ix (qaA a0_h ((toB (128 : Int) :: ([] : List UInt8)) :: List.replicate ((IntKind.i64.wrap ((119 : Int) - (a0_h.snd.snd.length : Int))).tmod (64 : Int)).toNat Ty.byte.kd.z :: be (IntKind.u64.wrap ((8 : Int) * hLen a0_h)).toNat (8 : Nat) :: ([] : List (List UInt8)))).fst x2).toNat (8 : Nat)) → ((0 : Int) ≤ (4 : Int) ∧ (4 : Int) ≤ ((be (ix (qaA a0_h ((toB (128 : Int) :: ([] : List UInt8)) :: List.replicate ((IntKind.i64.wrap ((119 : Int) - (a0_h.snd.snd.length : Int))).tmod (64 : Int)).toNat Ty.byte.kd.z :: be (IntKind.u64.wrap ((8 : Int) * hLen a0_h)).toNat (8 : Nat) :: ([] : List (List UInt8)))).fst x2).toNat (8 : Nat)).length : Int)) ∧ x2 < (9223372036854775807 : Int) ∧ x0 (x2 + (1 : Int)) (List.take (IntKind.i64.wrap ((4 : Int) * x2)).toNat x3 ++ List.take (((32 : Nat) : Int).toNat - (IntKind.i64.wrap ((4 : Int) * x2)).toNat) (List.drop (Int.toNat (4 : Int)) (be (ix (qaA a0_h ((toB (128 : Int) :: ([] : List UInt8)) :: List.replicate ((IntKind.i64.wrap ((119 : Int) - (a0_h.snd.snd.length : Int))).tmod (64 : Int)).toNat Ty.byte.kd.z :: be (IntKind.u64.wrap ((8 : Int) * hLen a0_h)).toNat (8 : Nat) :: ([] : List (List UInt8)))).fst x2).toNat (8 : Nat))) ++ List.drop ((IntKind.i64.wrap ((4 : Int) * x2)).toNat + min (List.drop (Int.toNat (4 : Int)) (be (ix (qaA a0_h ((toB (128 : Int) :: ([] : List UInt8)) :: List.replicate ((IntKind.i64.wrap ((119 : Int) - (a0_h.snd.snd.length : Int))).tmod (64 : Int)).toNat Ty.byte.kd.z :: be (IntKind.u64.wrap ((8 : Int) * hLen a0_h)).toNat (8 : Nat) :: ([] : List (List UInt8)))).fst x2).toNat (8 : Nat))).length (((32 : Nat) : Int).toNat - (IntKind.i64.wrap ((4 : Int) * x2)).toNat)) x3) ∧ x1 (x2 + (1 : Int)) (List.take (IntKind.i64.wrap ((4 : Int) * x2)).toNat x3 ++ List.take (((32 : Nat) : Int).toNat - (IntKind.i64.wrap ((4 : Int) * x2)).toNat) (List.drop (Int.toNat (4 : Int)) (be (ix (qaA a0_h ((toB (128 : Int) :: ([] : List UInt8)) :: List.replicate ((IntKind.i64.wrap ((119 : Int) - (a0_h.snd.snd.length : Int))).tmod (64 : Int)).toNat Ty.byte.kd.z :: be (IntKind.u64.wrap ((8 : Int) * hLen a0_h)).toNat (8 : Nat) :: ([] : List (List UInt8)))).fst x2).toNat (8 : Nat))) ++ List.drop ((IntKind.i64.wrap ((4 : Int) * x2)).toNat + min (List.drop (Int.toNat (4 : Int)) (be (ix (qaA a0_h ((toB (128 : Int) :: ([] : List UInt8)) :: List.replicate ((IntKind.i64.wrap ((119 : Int) - (a0_h.snd.snd.length : Int))).tmod (64 : Int)).toNat Ty.byte.kd.z :: be (IntKind.u64.wrap ((8 : Int) * hLen a0_h)).toNat (8 : Nat) :: ([] : List (List UInt8)))).fst x2).toNat (8 : Nat))).length (((32 : Nat) : Int).toNat - (IntKind.i64.wrap ((4 : Int) * x2)).toNat)) x3) < x1 x2 x3)) ∧ (¬x2 < (8 : Int) → Q x3))) ∧ (Ty.byte.kd.sl.wf (be (IntKind.u64.wrap ((8 : Int) * hLen a0_h)).toNat (8 : Nat)) → ((0 : Int) ≤ (IntKind.i64.wrap ((119 : Int) - (a0_h.snd.snd.length : Int))).tmod (64 : Int) ∧ (IntKind.i64.wrap ((119 : Int) - (a0_h.snd.snd.length : Int))).tmod (64 : Int) ≤ (IntKind.i64.wrap ((119 : Int) - (a0_h.snd.snd.length : Int))).tmod (64 : Int) ∧ ((1 : Nat) : Int) * (IntKind.i64.wrap ((119 : Int) - (a0_h.snd.snd.length : Int))).tmod (64 : Int) ≤ (281474976710656 : Int) ∧ (IntKind.i64.wrap ((119 : Int) - (a0_h.snd.snd.length : Int))).tmod (64 : Int) ≤ (281474976710656 : Int)) ∧ (((1 : Nat) + ((toB (128 : Int) :: ([] : List UInt8)) :: List.replicate ((IntKind.i64.wrap ((119 : Int) - (a0_h.snd.snd.length : Int))).tmod (64 : Int)).toNat Ty.byte.kd.z :: be (IntKind.u64.wrap ((8 : Int) * hLen a0_h)).toNat (8 : Nat) :: ([] : List (List UInt8))).length) * (24 : Nat) ≤ (140737488355328 : Nat) ∧ (a0_h.snd.snd ++ ((toB (128 : Int) :: ([] : List UInt8)) :: List.replicate ((IntKind.i64.wrap ((119 : Int) - (a0_h.snd.snd.length : Int))).tmod (64 : Int)).toNat Ty.byte.kd.z :: be (IntKind.u64.wrap ((8 : Int) * hLen a0_h)).toNat (8 : Nat) :: ([] : List (List UInt8))).flatten).length ≤ (140737488355328 : Nat)) ∧ ∃ (x0 : Int → List UInt8 → Prop), ∃ (x1 : Int → List UInt8 → Nat), x0 (0 : Int) (Ty.arr (32 : Nat) Ty.byte).kd.z ∧ ∀ (x2 : Int) (x3 : List UInt8), x0 x2 x3 → (Kd.int IntKind.i64).wf x2 → (Ty.arr (32 : Nat) Ty.byte).kd.wf x3 → (x2 < (8 : Int) → ((0 : Int) ≤ x2 ∧ x2 < ((8 : Nat) : Int)) ∧ ((0 : Int) ≤ IntKind.i64.wrap ((4 : Int) * x2) ∧ IntKind.i64.wrap ((4 : Int) * x2) ≤ ((32 : Nat) : Int) ∧ ((32 : Nat) : Int) ≤ ((32 : Nat) : Int) ∧ IntKind.i64.wrap ((4 : Int) * x2) < ((32 : Nat) : Int)) ∧ (Ty.byte.kd.sl.wf (be (ix (qaA a0_h ((toB (128 : Int) :: ([] : List UInt8)) :: List.replicate ((IntKind.i64.wrap ((119 : Int) - (a0_h.snd.snd.length : Int))).tmod (64 : Int)).toNat Ty.byte.kd.z :: be (IntKind.u64.wrap ((8 : Int) * hLen a0_h)).toNat (8 : Nat) :: ([] : List (List UInt8)))).fst x2).toNat (8 : Nat)) → ((0 : Int) ≤ (4 : Int) ∧ (4 : Int) ≤ ((be (ix (qaA a0_h ((toB (128 : Int) :: ([] : List UInt8)) :: List.replicate ((IntKind.i64.wrap ((119 : Int) - (a0_h.snd.snd.length : Int))).tmod (64 : Int)).toNat Ty.byte.kd.z :: be (IntKind.u64.wrap ((8 : Int) * hLen a0_h)).toNat (8 : Nat) :: ([] : List (List UInt8)))).fst x2).toNat (8 : Nat)).length : Int)) ∧ x2 < (9223372036854775807 : Int) ∧ x0 (x2 + (1 : Int)) (List.take (IntKind.i64.wrap ((4 : Int) * x2)).toNat x3 ++ List.take (((32 : Nat) : Int).toNat - (IntKind.i64.wrap ((4 : Int) * x2)).toNat) (List.drop (Int.toNat (4 : Int)) (be (ix (qaA a0_h ((toB (128 : Int) :: ([] : List UInt8)) :: List.replicate ((IntKind.i64.wrap ((119 : Int) - (a0_h.snd.snd.length : Int))).tmod (64 : Int)).toNat Ty.byte.kd.z :: be (IntKind.u64.wrap ((8 : Int) * hLen a0_h)).toNat (8 : Nat) :: ([] : List (List UInt8)))).fst x2).toNat (8 : Nat))) ++ List.drop ((IntKind.i64.wrap ((4 : Int) * x2)).toNat + min (List.drop (Int.toNat (4 : Int)) (be (ix (qaA a0_h ((toB (128 : Int) :: ([] : List UInt8)) :: List.replicate ((IntKind.i64.wrap ((119 : Int) - (a0_h.snd.snd.length : Int))).tmod (64 : Int)).toNat Ty.byte.kd.z :: be (IntKind.u64.wrap ((8 : Int) * hLen a0_h)).toNat (8 : Nat) :: ([] : List (List UInt8)))).fst x2).toNat (8 : Nat))).length (((32 : Nat) : Int).toNat - (IntKind.i64.wrap ((4 : Int) * x2)).toNat)) x3) ∧ x1 (x2 + (1 : Int)) (List.take (IntKind.i64.wrap ((4 : Int) * x2)).toNat x3 ++ List.take (((32 : Nat) : Int).toNat - (IntKind.i64.wrap ((4 : Int) * x2)).toNat) (List.drop (Int.toNat (4 : Int)) (be (ix (qaA a0_h ((toB (128 : Int) :: ([] : List UInt8)) :: List.replicate ((IntKind.i64.wrap ((119 : Int) - (a0_h.snd.snd.length : Int))).tmod (64 : Int)).toNat Ty.byte.kd.z :: be (IntKind.u64.wrap ((8 : Int) * hLen a0_h)).toNat (8 : Nat) :: ([] : List (List UInt8)))).fst x2).toNat (8 : Nat))) ++ List.drop ((IntKind.i64.wrap ((4 : Int) * x2)).toNat + min (List.drop (Int.toNat (4 : Int)) (be (ix (qaA a0_h ((toB (128 : Int) :: ([] : List UInt8)) :: List.replicate ((IntKind.i64.wrap ((119 : Int) - (a0_h.snd.snd.length : Int))).tmod (64 : Int)).toNat Ty.byte.kd.z :: be (IntKind.u64.wrap ((8 : Int) * hLen a0_h)).toNat (8 : Nat) :: ([] : List (List UInt8)))).fst x2).toNat (8 : Nat))).length (((32 : Nat) : Int).toNat - (IntKind.i64.wrap ((4 : Int) * x2)).toNat)) x3) < x1 x2 x3)) ∧ (¬x2 < (8 : Int) → Q x3)) ∧ True) ∧ (((0 : Int) ≤ (IntKind.i64.wrap ((119 : Int) - (a0_h.snd.snd.length : Int))).tmod (64 : Int) ∧ (IntKind.i64.wrap ((119 : Int) - (a0_h.snd.snd.length : Int))).tmod (64 : Int) ≤ (IntKind.i64.wrap ((119 : Int) - (a0_h.snd.snd.length : Int))).tmod (64 : Int) ∧ ((1 : Nat) : Int) * (IntKind.i64.wrap ((119 : Int) - (a0_h.snd.snd.length : Int))).tmod (64 : Int) ≤ (281474976710656 : Int) ∧ (IntKind.i64.wrap ((119 : Int) - (a0_h.snd.snd.length : Int))).tmod (64 : Int) ≤ (281474976710656 : Int)) ∧ (Ty.byte.kd.sl.wf (be (IntKind.u64.wrap ((8 : Int) * hLen a0_h)).toNat (8 : Nat)) → (((1 : Nat) + ((toB (128 : Int) :: ([] : List UInt8)) :: List.replicate ((IntKind.i64.wrap ((119 : Int) - (a0_h.snd.snd.length : Int))).tmod (64 : Int)).toNat Ty.byte.kd.z :: be (IntKind.u64.wrap ((8 : Int) * hLen a0_h)).toNat (8 : Nat) :: ([] : List (List UInt8))).length) * (24 : Nat) ≤ (140737488355328 : Nat) ∧ (a0_h.snd.snd ++ ((toB (128 : Int) :: ([] : List UInt8)) :: List.replicate ((IntKind.i64.wrap ((119 : Int) - (a0_h.snd.snd.length : Int))).tmod (64 : Int)).toNat Ty.byte.kd.z :: be (IntKind.u64.wrap ((8 : Int) * hLen a0_h)).toNat (8 : Nat) :: ([] : List (List UInt8))).flatten).length ≤ (140737488355328 : Nat)) ∧ ∃ (x0 : Int → List UInt8 → Prop), ∃ (x1 : Int → List UInt8 → Nat), x0 (0 : Int) (Ty.arr (32 : Nat) Ty.byte).kd.z ∧ ∀ (x2 : Int) (x3 : List UInt8), x0 x2 x3 → (Kd.int IntKind.i64).wf x2 → (Ty.arr (32 : Nat) Ty.byte).kd.wf x3 → (x2 < (8 : Int) → ((0 : Int) ≤ x2 ∧ x2 < ((8 : Nat) : Int)) ∧ ((0 : Int) ≤ IntKind.i64.wrap ((4 : Int) * x2) ∧ IntKind.i64.wrap ((4 : Int) * x2) ≤ ((32 : Nat) : Int) ∧ ((32 : Nat) : Int) ≤ ((32 : Nat) : Int) ∧ IntKind.i64.wrap ((4 : Int) * x2) < ((32 : Nat) : Int)) ∧ (Ty.byte.kd.sl.wf (be (ix (qaA a0_h ((toB (128 : Int) :: ([] : List UInt8)) :: List.replicate ((IntKind.i64.wrap ((119 : Int) - (a0_h.snd.snd.length : Int))).tmod (64 : Int)).toNat Ty.byte.kd.z :: be (IntKind.u64.wrap ((8 : Int) * hLen a0_h)).toNat (8 : Nat) :: ([] : List (List UInt8)))).fst x2).toNat (8 : Nat)) → ((0 : Int) ≤ (4 : Int) ∧ (4 : Int) ≤ ((be (ix (qaA a0_h ((toB (128 : Int) :: ([] : List UInt8)) :: List.replicate ((IntKind.i64.wrap ((119 : Int) - (a0_h.snd.snd.length : Int))).tmod (64 : Int)).toNat Ty.byte.kd.z :: be (IntKind.u64.wrap ((8 : Int) * hLen a0_h)).toNat (8 : Nat) :: ([] : List (List UInt8)))).fst x2).toNat (8 : Nat)).length : Int)) ∧ x2 < (9223372036854775807 : Int) ∧ x0 (x2 + (1 : Int)) (List.take (IntKind.i64.wrap ((4 : Int) * x2)).toNat x3 ++ List.take (((32 : Nat) : Int).toNat - (IntKind.i64.wrap ((4 : Int) * x2)).toNat) (List.drop (Int.toNat (4 : Int)) (be (ix (qaA a0_h ((toB (128 : Int) :: ([] : List UInt8)) :: List.replicate ((IntKind.i64.wrap ((119 : Int) - (a0_h.snd.snd.length : Int))).tmod (64 : Int)).toNat Ty.byte.kd.z :: be (IntKind.u64.wrap ((8 : Int) * hLen a0_h)).toNat (8 : Nat) :: ([] : List (List UInt8)))).fst x2).toNat (8 : Nat))) ++ List.drop ((IntKind.i64.wrap ((4 : Int) * x2)).toNat + min (List.drop (Int.toNat (4 : Int)) (be (ix (qaA a0_h ((toB (128 : Int) :: ([] : List UInt8)) :: List.replicate ((IntKind.i64.wrap ((119 : Int) - (a0_h.snd.snd.length : Int))).tmod (64 : Int)).toNat Ty.byte.kd.z :: be (IntKind.u64.wrap ((8 : Int) * hLen a0_h)).toNat (8 : Nat) :: ([] : List (List UInt8)))).fst x2).toNat (8 : Nat))).length (((32 : Nat) : Int).toNat - (IntKind.i64.wrap ((4 : Int) * x2)).toNat)) x3) ∧ x1 (x2 + (1 : Int)) (List.take (IntKind.i64.wrap ((4 : Int) * x2)).toNat x3 ++ List.take (((32 : Nat) : Int).toNat - (IntKind.i64.wrap ((4 : Int) * x2)).toNat) (List.drop (Int.toNat (4 : Int)) (be (ix (qaA a0_h ((toB (128 : Int) :: ([] : List UInt8)) :: List.replicate ((IntKind.i64.wrap ((119 : Int) - (a0_h.snd.snd.length : Int))).tmod (64 : Int)).toNat Ty.byte.kd.z :: be (IntKind.u64.wrap ((8 : Int) * hLen a0_h)).toNat (8 : Nat) :: ([] : List (List UInt8)))).fst x2).toNat (8 : Nat))) ++ List.drop ((IntKind.i64.wrap ((4 : Int) * x2)).toNat + min (List.drop (Int.toNat (4 : Int)) (be (ix (qaA a0_h ((toB (128 : Int) :: ([] : List UInt8)) :: List.replicate ((IntKind.i64.wrap ((119 : Int) - (a0_h.snd.snd.length : Int))).tmod (64 : Int)).toNat Ty.byte.kd.z :: be (IntKind.u64.wrap ((8 : Int) * hLen a0_h)).toNat (8 : Nat) :: ([] : List (List UInt8)))).fst x2).toNat (8 : Nat))).length (((32 : Nat) : Int).toNat - (IntKind.i64.wrap ((4 : Int) * x2)).toNat)) x3) < x1 x2 x3)) ∧ (¬x2 < (8 : Int) → Q x3)) ∧ (Ty.byte.kd.sl.wf (be (IntKind.u64.wrap ((8 : Int) * hLen a0_h)).toNat (8 : Nat)) → (((1 : Nat) + ((toB (128 : Int) :: ([] : List UInt8)) :: List.replicate ((IntKind.i64.wrap ((119 : Int) - (a0_h.snd.snd.length : Int))).tmod (64 : Int)).toNat Ty.byte.kd.z :: be (IntKind.u64.wrap ((8 : Int) * hLen a0_h)).toNat (8 : Nat) :: ([] : List (List UInt8))).length) * (24 : Nat) ≤ (140737488355328 : Nat) ∧ (a0_h.snd.snd ++ ((toB (128 : Int) :: ([] : List UInt8)) :: List.replicate ((IntKind.i64.wrap ((119 : Int) - (a0_h.snd.snd.length : Int))).tmod (64 : Int)).toNat Ty.byte.kd.z :: be (IntKind.u64.wrap ((8 : Int) * hLen a0_h)).toNat (8 : Nat) :: ([] : List (List UInt8))).flatten).length ≤ (140737488355328 : Nat)) ∧ ∃ (x0 : Int → List UInt8 → Prop), ∃ (x1 : Int → List UInt8 → Nat), x0 (0 : Int) (Ty.arr (32 : Nat) Ty.byte).kd.z ∧ ∀ (x2 : Int) (x3 : List UInt8), x0 x2 x3 → (Kd.int IntKind.i64).wf x2 → (Ty.arr (32 : Nat) Ty.byte).kd.wf x3 → (x2 < (8 : Int) → ((0 : Int) ≤ x2 ∧ x2 < ((8 : Nat) : Int)) ∧ ((0 : Int) ≤ IntKind.i64.wrap ((4 : Int) * x2) ∧ IntKind.i64.wrap ((4 : Int) * x2) ≤ ((32 : Nat) : Int) ∧ ((32 : Nat) : Int) ≤ ((32 : Nat) : Int) ∧ IntKind.i64.wrap ((4 : Int) * x2) < ((32 : Nat) : Int)) ∧ (Ty.byte.kd.sl.wf (be (ix (qaA a0_h ((toB (128 : Int) :: ([] : List UInt8)) :: List.replicate ((IntKind.i64.wrap ((119 : Int) - (a0_h.snd.snd.length : Int))).tmod (64 : Int)).toNat Ty.byte.kd.z :: be (IntKind.u64.wrap ((8 : Int) * hLen a0_h)).toNat (8 : Nat) :: ([] : List (List UInt8)))).fst x2).toNat (8 : Nat)) → ((0 : Int) ≤ (4 : Int) ∧ (4 : Int) ≤ ((be (ix (qaA a0_h ((toB (128 : Int) :: ([] : List UInt8)) :: List.replicate ((IntKind.i64.wrap ((119 : Int) - (a0_h.snd.snd.length : Int))).tmod (64 : Int)).toNat Ty.byte.kd.z :: be (IntKind.u64.wrap ((8 : Int) * hLen a0_h)).toNat (8 : Nat) :: ([] : List (List UInt8)))).fst x2).toNat (8 : Nat)).length : Int)) ∧ x2 < (9223372036854775807 : Int) ∧ x0 (x2 + (1 : Int)) (List.take (IntKind.i64.wrap ((4 : Int) * x2)).toNat x3 ++ List.take (((32 : Nat) : Int).toNat - (IntKind.i64.wrap ((4 : Int) * x2)).toNat) (List.drop (Int.toNat (4 : Int)) (be (ix (qaA a0_h ((toB (128 : Int) :: ([] : List UInt8)) :: List.replicate ((IntKind.i64.wrap ((119 : Int) - (a0_h.snd.snd.length : Int))).tmod (64 : Int)).toNat Ty.byte.kd.z :: be (IntKind.u64.wrap ((8 : Int) * hLen a0_h)).toNat (8 : Nat) :: ([] : List (List UInt8)))).fst x2).toNat (8 : Nat))) ++ List.drop ((IntKind.i64.wrap ((4 : Int) * x2)).toNat + min (List.drop (Int.toNat (4 : Int)) (be (ix (qaA a0_h ((toB (128 : Int) :: ([] : List UInt8)) :: List.replicate ((IntKind.i64.wrap ((119 : Int) - (a0_h.snd.snd.length : Int))).tmod (64 : Int)).toNat Ty.byte.kd.z :: be (IntKind.u64.wrap ((8 : Int) * hLen a0_h)).toNat (8 : Nat) :: ([] : List (List UInt8)))).fst x2).toNat (8 : Nat))).length (((32 : Nat) : Int).toNat - (IntKind.i64.wrap ((4 : Int) * x2)).toNat)) x3) ∧ x1 (x2 + (1 : Int)) (List.take (IntKind.i64.wrap ((4 : Int) * x2)).toNat x3 ++ List.take (((32 : Nat) : Int).toNat - (IntKind.i64.wrap ((4 : Int) * x2)).toNat) (List.drop (Int.toNat (4 : Int)) (be (ix (qaA a0_h ((toB (128 : Int) :: ([] : List UInt8)) :: List.replicate ((IntKind.i64.wrap ((119 : Int) - (a0_h.snd.snd.length : Int))).tmod (64 : Int)).toNat Ty.byte.kd.z :: be (IntKind.u64.wrap ((8 : Int) * hLen a0_h)).toNat (8 : Nat) :: ([] : List (List UInt8)))).fst x2).toNat (8 : Nat))) ++ List.drop ((IntKind.i64.wrap ((4 : Int) * x2)).toNat + min (List.drop (Int.toNat (4 : Int)) (be (ix (qaA a0_h ((toB (128 : Int) :: ([] : List UInt8)) :: List.replicate ((IntKind.i64.wrap ((119 : Int) - (a0_h.snd.snd.length : Int))).tmod (64 : Int)).toNat Ty.byte.kd.z :: be (IntKind.u64.wrap ((8 : Int) * hLen a0_h)).toNat (8 : Nat) :: ([] : List (List UInt8)))).fst x2).toNat (8 : Nat))).length (((32 : Nat) : Int).toNat - (IntKind.i64.wrap ((4 : Int) * x2)).toNat)) x3) < x1 x2 x3)) ∧ (¬x2 < (8 : Int) → Q x3)) ∧ True) ∧ (Ty.byte.kd.sl.wf (be (IntKind.u64.wrap ((8 : Int) * hLen a0_h)).toNat (8 : Nat)) → (((0 : Int) ≤ (IntKind.i64.wrap ((119 : Int) - (a0_h.snd.snd.length : Int))).tmod (64 : Int) ∧ (IntKind.i64.wrap ((119 : Int) - (a0_h.snd.snd.length : Int))).tmod (64 : Int) ≤ (IntKind.i64.wrap ((119 : Int) - (a0_h.snd.snd.length : Int))).tmod (64 : Int) ∧ ((1 : Nat) : Int) * (IntKind.i64.wrap ((119 : Int) - (a0_h.snd.snd.length : Int))).tmod (64 : Int) ≤ (281474976710656 : Int) ∧ (IntKind.i64.wrap ((119 : Int) - (a0_h.snd.snd.length : Int))).tmod (64 : Int) ≤ (281474976710656 : Int)) ∧ (((1 : Nat) + ((toB (128 : Int) :: ([] : List UInt8)) :: List.replicate ((IntKind.i64.wrap ((119 : Int) - (a0_h.snd.snd.length : Int))).tmod (64 : Int)).toNat Ty.byte.kd.z :: be (IntKind.u64.wrap ((8 : Int) * hLen a0_h)).toNat (8 : Nat) :: ([] : List (List UInt8))).length) * (24 : Nat) ≤ (140737488355328 : Nat) ∧ (a0_h.snd.snd ++ ((toB (128 : Int) :: ([] : List UInt8)) :: List.replicate ((IntKind.i64.wrap ((119 : Int) - (a0_h.snd.snd.length : Int))).tmod (64 : Int)).toNat Ty.byte.kd.z :: be (IntKind.u64.wrap ((8 : Int) * hLen a0_h)).toNat (8 : Nat) :: ([] : List (List UInt8))).flatten).length ≤ (140737488355328 : Nat)) ∧ ∃ (x0 : Int → List UInt8 → Prop), ∃ (x1 : Int → List UInt8 → Nat), x0 (0 : Int) (Ty.arr (32 : Nat) Ty.byte).kd.z ∧ ∀ (x2 : Int) (x3 : List UInt8), x0 x2 x3 → (Kd.int IntKind.i64).wf x2 → (Ty.arr (32 : Nat) Ty.byte).kd.wf x3 → (x2 < (8 : Int) → ((0 : Int) ≤ x2 ∧ x2 < ((8 : Nat) : Int)) ∧ ((0 : Int) ≤ IntKind.i64.wrap ((4 : Int) * x2) ∧ IntKind.i64.wrap ((4 : Int) * x2) ≤ ((32 : Nat) : Int) ∧ ((32 : Nat) : Int) ≤ ((32 : Nat) : Int) ∧ IntKind.i64.wrap ((4 : Int) * x2) < ((32 : Nat) : Int)) ∧ (Ty.byte.kd.sl.wf (be (ix (qaA a0_h ((toB (128 : Int) :: ([] : List UInt8)) :: List.replicate ((IntKind.i64.wrap ((119 : Int) - (a0_h.snd.snd.length : Int))).tmod (64 : Int)).toNat Ty.byte.kd.z :: be (IntKind.u64.wrap ((8 : Int) * hLen a0_h)).toNat (8 : Nat) :: ([] : List (List UInt8)))).fst x2).toNat (8 : Nat)) → ((0 : Int) ≤ (4 : Int) ∧ (4 : Int) ≤ ((be (ix (qaA a0_h ((toB (128 : Int) :: ([] : List UInt8)) :: List.replicate ((IntKind.i64.wrap ((119 : Int) - (a0_h.snd.snd.length : Int))).tmod (64 : Int)).toNat Ty.byte.kd.z :: be (IntKind.u64.wrap ((8 : Int) * hLen a0_h)).toNat (8 : Nat) :: ([] : List (List UInt8)))).fst x2).toNat (8 : Nat)).length : Int)) ∧ x2 < (9223372036854775807 : Int) ∧ x0 (x2 + (1 : Int)) (List.take (IntKind.i64.wrap ((4 : Int) * x2)).toNat x3 ++ List.take (((32 : Nat) : Int).toNat - (IntKind.i64.wrap ((4 : Int) * x2)).toNat) (List.drop (Int.toNat (4 : Int)) (be (ix (qaA a0_h ((toB (128 : Int) :: ([] : List UInt8)) :: List.replicate ((IntKind.i64.wrap ((119 : Int) - (a0_h.snd.snd.length : Int))).tmod (64 : Int)).toNat Ty.byte.kd.z :: be (IntKind.u64.wrap ((8 : Int) * hLen a0_h)).toNat (8 : Nat) :: ([] : List (List UInt8)))).fst x2).toNat (8 : Nat))) ++ List.drop ((IntKind.i64.wrap ((4 : Int) * x2)).toNat + min (List.drop (Int.toNat (4 : Int)) (be (ix (qaA a0_h ((toB (128 : Int) :: ([] : List UInt8)) :: List.replicate ((IntKind.i64.wrap ((119 : Int) - (a0_h.snd.snd.length : Int))).tmod (64 : Int)).toNat Ty.byte.kd.z :: be (IntKind.u64.wrap ((8 : Int) * hLen a0_h)).toNat (8 : Nat) :: ([] : List (List UInt8)))).fst x2).toNat (8 : Nat))).length (((32 : Nat) : Int).toNat - (IntKind.i64.wrap ((4 : Int) * x2)).toNat)) x3) ∧ x1 (x2 + (1 : Int)) (List.take (IntKind.i64.wrap ((4 : Int) * x2)).toNat x3 ++ List.take (((32 : Nat) : Int).toNat - (IntKind.i64.wrap ((4 : Int) * x2)).toNat) (List.drop (Int.toNat (4 : Int)) (be (ix (qaA a0_h ((toB (128 : Int) :: ([] : List UInt8)) :: List.replicate ((IntKind.i64.wrap ((119 : Int) - (a0_h.snd.snd.length : Int))).tmod (64 : Int)).toNat Ty.byte.kd.z :: be (IntKind.u64.wrap ((8 : Int) * hLen a0_h)).toNat (8 : Nat) :: ([] : List (List UInt8)))).fst x2).toNat (8 : Nat))) ++ List.drop ((IntKind.i64.wrap ((4 : Int) * x2)).toNat + min (List.drop (Int.toNat (4 : Int)) (be (ix (qaA a0_h ((toB (128 : Int) :: ([] : List UInt8)) :: List.replicate ((IntKind.i64.wrap ((119 : Int) - (a0_h.snd.snd.length : Int))).tmod (64 : Int)).toNat Ty.byte.kd.z :: be (IntKind.u64.wrap ((8 : Int) * hLen a0_h)).toNat (8 : Nat) :: ([] : List (List UInt8)))).fst x2).toNat (8 : Nat))).length (((32 : Nat) : Int).toNat - (IntKind.i64.wrap ((4 : Int) * x2)).toNat)) x3) < x1 x2 x3)) ∧ (¬x2 < (8 : Int) → Q x3)) ∧ (((0 : Int) ≤ (IntKind.i64.wrap ((119 : Int) - (a0_h.snd.snd.length : Int))).tmod (64 : Int) ∧ (IntKind.i64.wrap ((119 : Int) - (a0_h.snd.snd.length : Int))).tmod (64 : Int) ≤ (IntKind.i64.wrap ((119 : Int) - (a0_h.snd.snd.length : Int))).tmod (64 : Int) ∧ ((1 : Nat) : Int) * (IntKind.i64.wrap ((119 : Int) - (a0_h.snd.snd.length : Int))).tmod (64 : Int) ≤ (281474976710656 : Int) ∧ (IntKind.i64.wrap ((119 : Int) - (a0_h.snd.snd.length : Int))).tmod (64 : Int) ≤ (281474976710656 : Int)) ∧ (((1 : Nat) + ((toB (128 : Int) :: ([] : List UInt8)) :: List.replicate ((IntKind.i64.wrap ((119 : Int) - (a0_h.snd.snd.length : Int))).tmod (64 : Int)).toNat Ty.byte.kd.z :: be (IntKind.u64.wrap ((8 : Int) * hLen a0_h)).toNat (8 : Nat) :: ([] : List (List UInt8))).length) * (24 : Nat) ≤ (140737488355328 : Nat) ∧ (a0_h.snd.snd ++ ((toB (128 : Int) :: ([] : List UInt8)) :: List.replicate ((IntKind.i64.wrap ((119 : Int) - (a0_h.snd.snd.length : Int))).tmod (64 : Int)).toNat Ty.byte.kd.z :: be (IntKind.u64.wrap ((8 : Int) * hLen a0_h)).toNat (8 : Nat) :: ([] : List (List UInt8))).flatten).length ≤ (140737488355328 : Nat)) ∧ ∃ (x0 : Int → List UInt8 → Prop), ∃ (x1 : Int → List UInt8 → Nat), x0 (0 : Int) (Ty.arr (32 : Nat) Ty.byte).kd.z ∧ ∀ (x2 : Int) (x3 : List UInt8), x0 x2 x3 → (Kd.int IntKind.i64).wf x2 → (Ty.arr (32 : Nat) Ty.byte).kd.wf x3 → (x2 < (8 : Int) → ((0 : Int) ≤ x2 ∧ x2 < ((8 : Nat) : Int)) ∧ ((0 : Int) ≤ IntKind.i64.wrap ((4 : Int) * x2) ∧ IntKind.i64.wrap ((4 : Int) * x2) ≤ ((32 : Nat) : Int) ∧ ((32 : Nat) : Int) ≤ ((32 : Nat) : Int) ∧ IntKind.i64.wrap ((4 : Int) * x2) < ((32 : Nat) : Int)) ∧ (Ty.byte.kd.sl.wf (be (ix (qaA a0_h ((toB (128 : Int) :: ([] : List UInt8)) :: List.replicate ((IntKind.i64.wrap ((119 : Int) - (a0_h.snd.snd.length : Int))).tmod (64 : Int)).toNat Ty.byte.kd.z :: be (IntKind.u64.wrap ((8 : Int) * hLen a0_h)).toNat (8 : Nat) :: ([] : List (List UInt8)))).fst x2).toNat (8 : Nat)) → ((0 : Int) ≤ (4 : Int) ∧ (4 : Int) ≤ ((be (ix (qaA a0_h ((toB (128 : Int) :: ([] : List UInt8)) :: List.replicate ((IntKind.i64.wrap ((119 : Int) - (a0_h.snd.snd.length : Int))).tmod (64 : Int)).toNat Ty.byte.kd.z :: be (IntKind.u64.wrap ((8 : Int) * hLen a0_h)).toNat (8 : Nat) :: ([] : List (List UInt8)))).fst x2).toNat (8 : Nat)).length : Int)) ∧ x2 < (9223372036854775807 : Int) ∧ x0 (x2 + (1 : Int)) (List.take (IntKind.i64.wrap ((4 : Int) * x2)).toNat x3 ++ List.take (((32 : Nat) : Int).toNat - (IntKind.i64.wrap ((4 : Int) * x2)).toNat) (List.drop (Int.toNat (4 : Int)) (be (ix (qaA a0_h ((toB (128 : Int) :: ([] : List UInt8)) :: List.replicate ((IntKind.i64.wrap ((119 : Int) - (a0_h.snd.snd.length : Int))).tmod (64 : Int)).toNat Ty.byte.kd.z :: be (IntKind.u64.wrap ((8 : Int) * hLen a0_h)).toNat (8 : Nat) :: ([] : List (List UInt8)))).fst x2).toNat (8 : Nat))) ++ List.drop ((IntKind.i64.wrap ((4 : Int) * x2)).toNat + min (List.drop (Int.toNat (4 : Int)) (be (ix (qaA a0_h ((toB (128 : Int) :: ([] : List UInt8)) :: List.replicate ((IntKind.i64.wrap ((119 : Int) - (a0_h.snd.snd.length : Int))).tmod (64 : Int)).toNat Ty.byte.kd.z :: be (IntKind.u64.wrap ((8 : Int) * hLen a0_h)).toNat (8 : Nat) :: ([] : List (List UInt8)))).fst x2).toNat (8 : Nat))).length (((32 : Nat) : Int).toNat - (IntKind.i64.wrap ((4 : Int) * x2)).toNat)) x3) ∧ x1 (x2 + (1 : Int)) (List.take (IntKind.i64.wrap ((4 : Int) * x2)).toNat x3 ++ List.take (((32 : Nat) : Int).toNat - (IntKind.i64.wrap ((4 : Int) * x2)).toNat) (List.drop (Int.toNat (4 : Int)) (be (ix (qaA a0_h ((toB (128 : Int) :: ([] : List UInt8)) :: List.replicate ((IntKind.i64.wrap ((119 : Int) - (a0_h.snd.snd.length : Int))).tmod (64 : Int)).toNat Ty.byte.kd.z :: be (IntKind.u64.wrap ((8 : Int) * hLen a0_h)).toNat (8 : Nat) :: ([] : List (List UInt8)))).fst x2).toNat (8 : Nat))) ++ List.drop ((IntKind.i64.wrap ((4 : Int) * x2)).toNat + min (List.drop (Int.toNat (4 : Int)) (be (ix (qaA a0_h ((toB (128 : Int) :: ([] : List UInt8)) :: List.replicate ((IntKind.i64.wrap ((119 : Int) - (a0_h.snd.snd.length : Int))).tmod (64 : Int)).toNat Ty.byte.kd.z :: be (IntKind.u64.wrap ((8 : Int) * hLen a0_h)).toNat (8 : Nat) :: ([] : List (List UInt8)))).fst x2).toNat (8 : Nat))).length (((32 : Nat) : Int).toNat - (IntKind.i64.wrap ((4 : Int) * x2)).toNat)) x3) < x1 x2 x3)) ∧ (¬x2 < (8 : Int) → Q x3)) ∧ True) ∧ True)
theorem qs7 {a0_h : (List Int) × Int × List UInt8} (w_0 : (Ty.kd (.pr (.arr 8 (.int .u32)) (.pr (.int .u64) (.sl .byte)))).wf a0_h) (hp : a0_h.2.2.length < 64) : qkd a0_h (fun o0 => o0 = (hSum a0_h)) := by
 have wr : ∀ a : Int, -1000 ≤ a → a ≤ 1000 → IntKind.i64.wrap a = a := fun a h1 h2 => qam (wf64 (by omega) (by omega))
 have hk : Int.tmod (IntKind.i64.wrap (119 - (a0_h.2.2.length : Int))) 64 = ((119 - (a0_h.2.2.length : Int)) % 64) := by
  rw [wr _ (by omega) (by omega), Int.tmod_eq_emod_of_nonneg (by omega)]
 have hsum : ∀ n, (sumN (qaA a0_h (qm2 a0_h)).1 n).length = 32 := by
  intro n
  induction n with
  | zero => simp [sumN]
  | succ n ih =>
    simp only [sumN, List.length_append, List.length_take, List.length_drop, ih, qaM]
    omega
 have hp' : [[toB 128], List.replicate ((119 - (a0_h.2.2.length : Int)) % 64).toNat Ty.byte.kd.z, be (IntKind.u64.wrap (8 * hLen a0_h)).toNat 8] = qm2 a0_h := by unfold qm2; rw [hk]; rfl
 unfold qkd
 rw [hk, hp']
 intro _
 refine ⟨by omega, fun _ _ => ?_⟩
 repeat' (first | apply And.intro | intro _)
 all_goals first | trivial | omega | (simp only [← hp', List.length_cons, List.length_nil, List.length_append, List.flatten_cons, List.flatten_nil, List.length_replicate, qaM]; omega) | skip
 all_goals
  refine ⟨fun i b => ∃ n : Nat, i = (n : Int) ∧ n ≤ 8 ∧ b = sumN (qaA a0_h (qm2 a0_h)).1 n, fun i _ => 8 - i.toNat, ⟨0, rfl, by omega, rfl⟩, ?_⟩
  rintro i b ⟨n, rfl, hn, rfl⟩ _ _
  refine ⟨fun hlt => ?_, fun hge => ?_⟩
  ·rw [wr (4 * (n : Int)) (by omega) (by omega)]
   have e4 : (4 * (n : Int)).toNat = 4 * n := by omega
   rw [e4]
   refine ⟨⟨by omega, hlt⟩, ⟨by omega, by omega, by omega, by omega⟩, fun _ => ⟨⟨by omega, by rw [qaM]; omega⟩, by omega, ⟨n + 1, by omega, by omega, rfl⟩, ?_⟩⟩
   show 8 - ((n : Int) + 1).toNat < 8 - (n : Int).toNat
   omega
  ·have : n = 8 := by omega
   subst this
   rfl
theorem qs6 : (∀ a, qht.pre a → PM.wfP qht.pm a (fvc qse 200 125 qht a (eqO qht a))) = (∀ a : ((List Int) × Int × List UInt8) × Unit, ((a.1).2.2.length < 64) → (Ty.kd (.pr (.arr 8 (.int .u32)) (.pr (.int .u64) (.sl .byte)))).wf a.1 → qkd a.1 (fun o0 => o0 = (hSum (a.1)))) := by kernel_rfl
theorem qu5 : qht.valid Try.prog 125 := qau (X := qse) (qaJ qal (fun b hb => by cases hb; exact qar) qas ⟨qva, qs3, qu4, qwc, qlr, trivial⟩) 200 (qs6.mpr fun a hp w_0 => @qs7 a.1 w_0 hp)
noncomputable def qew : Ctr := ⟨[.v (.sl (.sl .byte))], [.v (.arr 32 .byte)], some (fun a => (fun (a0_parts : List (List UInt8)) => ((1 + a0_parts.length) * 24 ≤ 140737488355328 ∧ a0_parts.flatten.length ≤ 140737488355328 : Prop)) a.1), fun a => (fun (a0_parts : List (List UInt8)) => (((qbd a0_parts), ()), (()))) a.1⟩
noncomputable def qlA : Fx := ⟨seat, some bkT, fns, [(123, qki), (124, qc5), (125, qht)], [], [], []⟩
def qgu (a0_parts : List (List UInt8)) (Q : (List UInt8) → Prop) : Prop :=
 ((Ty.arr (8 : Nat) (Ty.int IntKind.u32)).pr ((Ty.int IntKind.u64).pr Ty.byte.sl)).kd.wf (List.replicate (8 : Nat) (0 : Int), (0 : Int), ([] : List UInt8)) → (((1 : Nat) + a0_parts.length) * (24 : Nat) ≤ (140737488355328 : Nat) ∧ (([] : List UInt8) ++ a0_parts.flatten).length ≤ (140737488355328 : Nat)) ∧ (qaA (List.replicate (8 : Nat) (0 : Int), (0 : Int), ([] : List UInt8)) a0_parts).snd.snd.length < (64 : Nat) ∧ ((Ty.arr (32 : Nat) Ty.byte).kd.wf (hSum (qaA (List.replicate (8 : Nat) (0 : Int), (0 : Int), ([] : List UInt8)) a0_parts)) → Q (hSum (qaA (List.replicate (8 : Nat) (0 : Int), (0 : Int), ([] : List UInt8)) a0_parts)))
theorem qn1 {a0_parts : List (List UInt8)} (w_0 : (Ty.kd (.sl (.sl .byte))).wf a0_parts) (hp : (1 + a0_parts.length) * 24 ≤ 140737488355328 ∧ a0_parts.flatten.length ≤ 140737488355328) : qgu a0_parts (fun o0 => o0 = (qbd a0_parts)) := by
 unfold qgu
 exact fun _ => ⟨⟨hp.1, hp.2⟩, qq2 _ _ _, fun _ => rfl⟩
theorem qn0 : (∀ a, qew.pre a → PM.wfP qew.pm a (fvc qlA 200 110 qew a (eqO qew a))) = (∀ a : (List (List UInt8)) × Unit, ((1 + (a.1).length) * 24 ≤ 140737488355328 ∧ (a.1).flatten.length ≤ 140737488355328) → (Ty.kd (.sl (.sl .byte))).wf a.1 → qgu a.1 (fun o0 => o0 = (qbd (a.1)))) := by kernel_rfl
theorem qqD : qew.valid Try.prog 110 := qau (X := qlA) (qaJ qal (fun b hb => by cases hb; exact qar) qas ⟨qva, qlr, qu5, trivial⟩) 200 (qn0.mpr fun a hp w_0 => @qn1 a.1 w_0 hp)
end Go.Proofs.Ytmjjkpiglbpkhaa

set_option linter.unusedVariables false
set_option maxRecDepth 100000
set_option maxHeartbeats 2000000
namespace Go.Proofs.Ytmjjkpiglbpkhaa
open Go Go.RowKit Go.Inc
theorem qrI {θ : Th} {n : Nat} {K : Ghost} {s : SVal} {v : Value} (h : s.rel θ n K v) : SVal.relL θ n K [s] [v] := ⟨v, [], rfl, h, rfl⟩
theorem qwn {θ : Th} {n : Nat} {K : Ghost} {s s' : SVal} {v v' : Value} (h : s.rel θ n K v) (h' : s'.rel θ n K v') : SVal.relL θ n K [s, s'] [v, v'] := ⟨v, [v'], rfl, h, qrI h'⟩
theorem qsV {w0 : World} {K0 : Ghost} {a0_s_v : Value} {a0_s : (List UInt8)} (hM0 : Models w0 K0) (h_a0_s : qaB.V K0 a0_s a0_s_v) (hp : a0_s.length ≤ 140737488355328) : Calls Try.prog 69 #[a0_s_v] w0 (fun e w' => ∃ (K' : Ghost) (r0 : Value), e = .returned r0 ∧ Ext NX w0 K0 w' K' ∧ Models w' K' ∧ Own Kd.byte 5 w' K' a0_s r0 ∧ (∀ g, ob r0 = some g → w0.heap.size ≤ g)) :=
 qwA (k := .byte) qds (fun _ => rfl) (a := (a0_s, ())) (vs := [a0_s_v]) hp hM0 fun θ => qrI (SVal.of_rel (t := .sl .byte) h_a0_s)
theorem qsY {w0 : World} {K0 : Ghost} {a0_a_v : Value} {a0_a : (List UInt8)} {a1_b_v : Value} {a1_b : (List UInt8)} (hM0 : Models w0 K0) (h_a0_a : qaB.V K0 a0_a a0_a_v) (h_a1_b : qaB.V K0 a1_b a1_b_v) : Calls Try.prog 85 #[a0_a_v, a1_b_v] w0 (fun e w' => ∃ (K' : Ghost) (r0 : Value), e = .returned r0 ∧ Ext NX w0 K0 w' K' ∧ Models w' K' ∧ Kd.bool.V K' (decide (a0_a = a1_b)) r0) :=
 un_v (t := .bool) qsZ (fun _ => rfl) (fun _ => rfl) (a := (a0_a, a1_b, ())) (vs := [a0_a_v, a1_b_v]) trivial hM0 fun θ => qwn (SVal.of_rel (t := .sl .byte) h_a0_a) (SVal.of_rel (t := .sl .byte) h_a1_b)
theorem qhw {w0 : World} {K0 : Ghost} {a0_kind_v : Value} {a0_kind : Int} {a1_parts_v : Value} {a1_parts : (List (List UInt8))} (hM0 : Models w0 K0) (h_a0_kind : (Kd.int .i64).V K0 a0_kind a0_kind_v) (h_a1_parts : qa5.V K0 a1_parts a1_parts_v) (hp : 1 + qaj a1_parts ≤ 140737488355328) : Calls Try.prog 98 #[a0_kind_v, a1_parts_v] w0 (fun e w' => ∃ (K' : Ghost) (r0 : Value), e = .returned r0 ∧ Ext NX w0 K0 w' K' ∧ Models w' K' ∧ Own Kd.byte 5 w' K' (preimage a0_kind a1_parts) r0 ∧ (∀ g, ob r0 = some g → w0.heap.size ≤ g)) :=
 qwA (k := .byte) qmD (fun _ => rfl) (a := (a0_kind, a1_parts, ())) (vs := [a0_kind_v, a1_parts_v]) hp hM0 fun θ => qwn (SVal.of_rel (t := .int .i64) h_a0_kind) (SVal.of_rel (t := .sl (.sl .byte)) h_a1_parts)
theorem qlB {w0 : World} {K0 : Ghost} {a0_parts_v : Value} {a0_parts : (List (List UInt8))} (hM0 : Models w0 K0) (h_a0_parts : qa5.V K0 a0_parts a0_parts_v) (hp : (1 + a0_parts.length) * 24 ≤ 140737488355328 ∧ a0_parts.flatten.length ≤ 140737488355328) : Calls Try.prog 110 #[a0_parts_v] w0 (fun e w' => ∃ (K' : Ghost) (r0 : Value), e = .returned r0 ∧ Ext NX w0 K0 w' K' ∧ Models w' K' ∧ (Kd.arr 32 Kd.byte).V K' (qbd a0_parts) r0) :=
 un_v (t := .arr 32 .byte) qqD (fun _ => rfl) (fun _ => rfl) (a := (a0_parts, ())) (vs := [a0_parts_v]) hp hM0 fun θ => qrI (SVal.of_rel (t := .sl (.sl .byte)) h_a0_parts)
end Go.Proofs.Ytmjjkpiglbpkhaa

set_option linter.unusedVariables false
set_option maxRecDepth 100000
set_option maxHeartbeats 2000000
namespace Go.Proofs.Ytmjjkpiglbpkhaa
open Go Go.RowKit Go.Inc
theorem ty3 : TyOk Try.prog 3 (Kd.int .i64) 8 := ⟨⟨Try.t3, _, Try.type3, rfl, rfl, rfl, rfl, rfl⟩, ⟨_, Try.underlying3, rfl⟩⟩
abbrev qae : Kd (List UInt8) := (Kd.arr 32 Kd.byte)
abbrev qap : Kd ((List UInt8) × (List UInt8)) := (Kd.pr qae qaB)
theorem ty24 : TyOk Try.prog 24 qae 32 := ⟨⟨Try.t24, _, Try.type24, rfl, rfl, rfl, rfl, rfl⟩, ⟨_, Try.underlying24, rfl⟩⟩
def qgM (a0_x : ((List UInt8) × (List UInt8))) (a1_x : (List UInt8)) (a2_x : (List UInt8)) (Q : Bool → Prop) : Prop :=
 Q (decide ((a0_x.1 = a1_x) ∧ (a0_x.2 = a2_x)))
theorem qoN {a0_x : ((List UInt8) × (List UInt8))} {a1_x : (List UInt8)} {a2_x : (List UInt8)} (w_0 : qap.wf a0_x) (w_1 : qae.wf a1_x) (w_2 : qaB.wf a2_x) : qgM a0_x a1_x a2_x (fun o0 => o0 = decide (a0_x.1 = a1_x ∧ a0_x.2 = a2_x)) := by
 show decide _ = decide _
 simp
theorem qkP {w0 : World} {K0 : Ghost} {a0_x_v : Value} {a0_x : ((List UInt8) × (List UInt8))} {a1_x_b : Nat} {a1_x_pre a1_x_post : List Value} {a1_x : (List UInt8)} {a2_x_b : Nat} {a2_x_pre a2_x_post : List Value} {a2_x : (List UInt8)} {Q : Bool → Prop} (hM0 : Models w0 K0) (h_a0_x : qap.V K0 a0_x a0_x_v) (h_a1_x_B : Bx qae w0 K0 a1_x_b a1_x_pre a1_x_post a1_x) (h_a2_x_B : Bx qaB w0 K0 a2_x_b a2_x_pre a2_x_post a2_x) (hsp2_3 : ¬ (a1_x_b = a2_x_b)) (h : qgM a0_x a1_x a2_x Q) : Calls Try.prog 133 #[a0_x_v, (.pointer (some ⟨a1_x_b, a1_x_pre.length, none⟩)), (.pointer (some ⟨a2_x_b, a2_x_pre.length, none⟩))] w0 (fun e w' => ∃ (K' : Ghost) (r0 : Value) (o0 : Bool), e = .returned r0 ∧ Q o0 ∧ Ext NX w0 K0 w' K' ∧ Models w' K' ∧ Kd.bool.V K' o0 r0) := by
 unfold qgM at h
 have hE0 : Ext NX w0 K0 w0 K0 := Ext.refl _ _ _
 refine qbr fun R hR => ?_
 refine qaW (args := [a0_x_v, (.pointer (some ⟨a1_x_b, a1_x_pre.length, none⟩)), (.pointer (some ⟨a2_x_b, a2_x_pre.length, none⟩))]) Try.func133 rfl (Nat.le_of_ble_eq_true rfl) ?_
 refine qao ?_
 refine qag ?_
 refine qaQ rfl rfl (St_B (qkp hM0 rfl h_a0_x) ?_)
 rintro b4 w4 (hB4 : Bx qap _ _ _ _ _ a0_x) hS4 hM4 hge4
 have hE4 := hE0.andN hS4
 refine qaa (.bool false) (R_as rfl) rfl rfl ?_
 refine qay ?_
 refine qao ?_
 refine qsq (K := K0) NX [.o 0 2, .o 1 2, .o 2 2, .o 3 2, .o 4 2, .o 5 2, .o 6 2, .o 7 2, .o 8 0, .o 9 2, .o 10 2] (by kernel_rfl) hM4 ?_
 refine qax (.pointer (some ⟨b4, 0 + 0, none⟩)) rfl l0 hM4 (fun _ => R_fa rfl Try.underlying146 rfl rfl ty24 rfl) rfl (gN rfl) rfl ?_
 refine qex hM4 (qcs (Foc.fst qae qaB) rfl ty24 hB4 (by first | rfl | simp | omega) (fun h => h)) rfl (gN rfl) rfl ?_
 rintro v6 (hV6 : qae.V _ a0_x.1 _)
 have hR9 := (h_a1_x_B.extN hS4)
 refine qex hM4 (qcs (Foc.id _) rfl ty24 hR9 (by first | rfl | simp | omega) (fun h => h)) rfl (gN rfl) rfl ?_
 rintro v8 (hV8 : qae.V _ a1_x _)
 refine qax (.bool (decide (a0_x.1 = a1_x))) rfl l0 hM4 (fun _ => qvj rfl rfl hV6 hV8 Try.underlying24 Try.underlying5 ty5b (by kernel_rfl)) rfl (gN rfl) rfl ?_
 refine qax (.bool (decide (a0_x.1 = a1_x))) rfl l0 hM4 (fun _ => R_mv rfl) rfl (gN rfl) rfl ?_
 refine qtG (al := true) (l1 := [.o 5 2, .o 6 2, .o 7 2, .o 8 0, .o 9 2]) [10, 11, 12, 13, 14] NX (fun l w K => l = [(14, (.bool (decide ((a0_x.1 = a1_x) ∧ (a0_x.2 = a2_x)))))] ∧ Ext NX w4 K0 w K ∧ Models w K) ?_ ?_
 ·rcases Classical.em (a0_x.1 = a1_x) with hp11 | hp11
  ·skip
   refine qax (.pointer (some ⟨b4, 0 + 32, none⟩)) rfl l0 hM4 (fun _ => R_fa rfl Try.underlying146 rfl rfl ty32 rfl) rfl (gY rfl rfl rfl (decide_eq_true hp11)) rfl ?_
   refine qex hM4 (qcs (Foc.snd qae qaB) rfl ty32 hB4 (by first | rfl | simp | omega) (fun h => h)) rfl (gY rfl rfl rfl (decide_eq_true hp11)) rfl ?_
   rintro v12 (hV12 : qaB.V _ a0_x.2 _)
   have hR15 := (h_a2_x_B.extN hS4)
   refine qex hM4 (qcs (Foc.id _) rfl ty32 hR15 (by first | rfl | simp | omega) (fun h => h)) rfl (gY rfl rfl rfl (decide_eq_true hp11)) rfl ?_
   rintro v14 (hV14 : qaB.V _ a2_x _)
   refine qkt rfl (gY rfl rfl rfl (decide_eq_true hp11)) rfl (qbM (qdt Try.call85 rfl) ((qsY hM4 hV12 hV14).mono ?_))
   rintro _ w17 ⟨K17, v17_0, rfl, hS17, hM17, hV17_0⟩
   refine ⟨v17_0, rfl, ?_⟩
   refine ⟨K17, hS17, hM17, ?_⟩
   have hE17 := hE4.andN hS17
   obtain rfl := qcS hV17_0
   refine qax (.bool (decide ((a0_x.1 = a1_x) ∧ (a0_x.2 = a2_x)))) rfl l0 hM17 (fun _ => qtq rfl (decide_eq_true hp11) rfl (qxc hp11)) rfl (gN rfl) rfl ?_
   exact qsp [(14, (.bool (decide ((a0_x.1 = a1_x) ∧ (a0_x.2 = a2_x)))))] K17 rfl ⟨rfl, ((Ext.refl _ _ _).andN hS17), hM17⟩ (by repeat (first | exact Off.refl _ _ | refine Off.updO ?_ rfl _ | refine Off.updN ?_ _ | refine Off.lay ?_ rfl)) ⟨rfl, trivial⟩
  ·skip
   refine qgv _ hM4 l0 rfl (gF rfl rfl rfl (decide_eq_false hp11)) rfl ?_
   refine qgv _ hM4 l0 rfl (gF rfl rfl rfl (decide_eq_false hp11)) rfl ?_
   refine qgv _ hM4 l0 rfl (gF rfl rfl rfl (decide_eq_false hp11)) rfl ?_
   refine qgv _ hM4 l0 rfl (gF rfl rfl rfl (decide_eq_false hp11)) rfl ?_
   refine qax (.bool (decide ((a0_x.1 = a1_x) ∧ (a0_x.2 = a2_x)))) rfl l0 hM4 (fun _ => qtr rfl (decide_eq_false hp11) rfl (qxb hp11)) rfl (gN rfl) rfl ?_
   exact qsp [(14, (.bool (decide ((a0_x.1 = a1_x) ∧ (a0_x.2 = a2_x)))))] K0 rfl ⟨rfl, (Ext.refl _ _ _), hM4⟩ (by repeat (first | exact Off.refl _ _ | refine Off.updO ?_ rfl _ | refine Off.updN ?_ _ | refine Off.lay ?_ rfl)) ⟨rfl, trivial⟩
 rintro l σ18 w18 K18 ⟨rfl, hS18, hM18⟩
 have hE18 := hE4.andN hS18
 refine qax (.bool (decide ((a0_x.1 = a1_x) ∧ (a0_x.2 = a2_x)))) rfl l0 hM18 (fun _ => R_as rfl) rfl (gN rfl) rfl ?_
 refine qhz ?_
 refine qcv ?_
 exact qbE hR (v := (.bool (decide ((a0_x.1 = a1_x) ∧ (a0_x.2 = a2_x))))) (qd7 rfl rfl) ⟨K18, (.bool (decide ((a0_x.1 = a1_x) ∧ (a0_x.2 = a2_x)))), (decide ((a0_x.1 = a1_x) ∧ (a0_x.2 = a2_x))), rfl, h, hE18, hM18, qgC⟩
theorem qrb {w0 : World} {K0 : Ghost} {a0_x_v : Value} {a0_x : ((List UInt8) × (List UInt8))} {a1_x_b : Nat} {a1_x_pre a1_x_post : List Value} {a1_x : (List UInt8)} {a2_x_b : Nat} {a2_x_pre a2_x_post : List Value} {a2_x : (List UInt8)} (hM0 : Models w0 K0) (h_a0_x : qap.V K0 a0_x a0_x_v) (h_a1_x_B : Bx qae w0 K0 a1_x_b a1_x_pre a1_x_post a1_x) (h_a2_x_B : Bx qaB w0 K0 a2_x_b a2_x_pre a2_x_post a2_x) (hsp2_3 : ¬ (a1_x_b = a2_x_b)) : Calls Try.prog 133 #[a0_x_v, (.pointer (some ⟨a1_x_b, a1_x_pre.length, none⟩)), (.pointer (some ⟨a2_x_b, a2_x_pre.length, none⟩))] w0 (fun e w' => ∃ (K' : Ghost) (r0 : Value), e = .returned r0 ∧ Ext NX w0 K0 w' K' ∧ Models w' K' ∧ Kd.bool.V K' (decide (a0_x.1 = a1_x ∧ a0_x.2 = a2_x)) r0) := by
 refine (qkP hM0 h_a0_x h_a1_x_B h_a2_x_B hsp2_3 (qoN h_a0_x.wf h_a1_x_B.wf h_a2_x_B.wf)).mono ?_
 rintro _ w' ⟨K', r0, o0, rfl, rfl, hF⟩
 exact ⟨K', r0, rfl, hF⟩
abbrev qaO : Kd (List ((List UInt8) × (List UInt8))) := (Kd.sl qap)
theorem qnd : TyOk Try.prog 146 qap 56 := ⟨⟨Try.t146, _, Try.type146, rfl, rfl, rfl, rfl, rfl⟩, ⟨_, Try.underlying146, rfl⟩⟩
def qcu (a0_s : (List ((List UInt8) × (List UInt8)))) (a1_f_0 : (List UInt8)) (a1_f_1 : (List UInt8)) (Q : Int → Prop) : Prop :=
 ∃ (I4 : Int → Int → Prop) (μ4 : Int → Int → Nat), I4 0 0 ∧ ∀ (i4 : Int) (i4' : Int), I4 i4 i4' → ((Kd.int .i64).wf i4) → ((Kd.int .i64).wf i4') → (((i4' < (a0_s.length : Int)) → (0 ≤ i4' ∧ i4' < (a0_s.length : Int)) ∧ ((((ix a0_s i4').1 = a1_f_0 ∧ (ix a0_s i4').2 = a1_f_1) → Q i4') ∧ ((¬ ((ix a0_s i4').1 = a1_f_0 ∧ (ix a0_s i4').2 = a1_f_1)) → I4 i4 (i4' + 1) ∧ μ4 i4 (i4' + 1) < μ4 i4 i4'))) ∧ ((¬ (i4' < (a0_s.length : Int))) → Q (-1)))
theorem qjf {a0_s : (List ((List UInt8) × (List UInt8)))} {a1_f_0 : (List UInt8)} {a1_f_1 : (List UInt8)} (w_0 : qaO.wf a0_s) : qcu a0_s a1_f_0 a1_f_1 (fun o0 => o0 = (qba a1_f_0 a1_f_1 a0_s 0)) := by
 unfold qcu
 refine ⟨fun _ i => ∃ j : Nat, i = (j : Int) ∧ j ≤ a0_s.length ∧ qba a1_f_0 a1_f_1 a0_s 0 = qba a1_f_0 a1_f_1 (a0_s.drop j) (j : Int), fun _ i => a0_s.length - i.toNat, ⟨0, rfl, by omega, by simp⟩, ?_⟩
 rintro _ i ⟨j, rfl, hj, he⟩ _ _
 refine ⟨fun hlt => ⟨⟨by omega, hlt⟩, fun h => ?_, fun h => ⟨⟨j + 1, by omega, by omega, ?_⟩, ?_⟩⟩, fun hge => ?_⟩
 ·rw [qgW hlt, if_pos (h)] at he
  exact he.symm
 ·rw [qgW hlt, if_neg (h)] at he
  rw [he]
  congr 1
 ·show a0_s.length - ((j : Int) + 1).toNat < a0_s.length - (j : Int).toNat
  omega
 ·have : j = a0_s.length := by omega
  subst this
  rw [List.drop_length] at he
  exact he.symm
theorem qhc {w0 : World} {K0 : Ghost} {a0_s_v : Value} {a0_s : (List ((List UInt8) × (List UInt8)))} {a1_f_0_b : Nat} {a1_f_0_pre a1_f_0_post : List Value} {a1_f_0 : (List UInt8)} {a1_f_1_b : Nat} {a1_f_1_pre a1_f_1_post : List Value} {a1_f_1 : (List UInt8)} {Q : Int → Prop} (hM0 : Models w0 K0) (h_a0_s : qaO.V K0 a0_s a0_s_v) (h_a1_f_0_B : Bx qae w0 K0 a1_f_0_b a1_f_0_pre a1_f_0_post a1_f_0) (h_a1_f_1_B : Bx qaB w0 K0 a1_f_1_b a1_f_1_pre a1_f_1_post a1_f_1) (hsp2_3 : ¬ (a1_f_0_b = a1_f_1_b)) (h : qcu a0_s a1_f_0 a1_f_1 Q) : Calls Try.prog 144 #[a0_s_v, (.func (.func 133) #[] #[(.pointer (some ⟨a1_f_0_b, a1_f_0_pre.length, none⟩)), (.pointer (some ⟨a1_f_1_b, a1_f_1_pre.length, none⟩))])] w0 (fun e w' => ∃ (K' : Ghost) (r0 : Value) (o0 : Int), e = .returned r0 ∧ Q o0 ∧ Ext NX w0 K0 w' K' ∧ Models w' K' ∧ (Kd.int .i64).V K' o0 r0) := by
 unfold qcu at h
 have hE0 : Ext NX w0 K0 w0 K0 := Ext.refl _ _ _
 refine qbr fun R hR => ?_
 refine qaW (args := [a0_s_v, (.func (.func 133) #[] #[(.pointer (some ⟨a1_f_0_b, a1_f_0_pre.length, none⟩)), (.pointer (some ⟨a1_f_1_b, a1_f_1_pre.length, none⟩))])]) Try.func144 rfl (Nat.le_of_ble_eq_true rfl) ?_
 refine qao ?_
 refine qag ?_
 refine qaa (.int .i64 0) (R_as rfl) rfl rfl ?_
 refine qay ?_
 refine qao ?_
 refine qao ?_
 refine qag ?_
 refine qaa a0_s_v (R_mv rfl) rfl rfl ?_
 refine qaa (.int .i64 (a0_s.length : Int)) (qgt rfl h_a0_s Try.underlying36) rfl rfl ?_
 refine qaa (.int .i64 0) (R_mv rfl) rfl rfl ?_
 refine qay ?_
 refine qb4 ?_
 obtain ⟨I4, μ4, h0, h⟩ := h
 refine qii (ι := Int × Int) [4, 5, 8, 9, 10, 11, 12, 13, 14, 15, 16, 17, 18] (fun s l w => ∃ K, I4 s.1 s.2 ∧ l = [(4, (.int .i64 s.1)), (8, (.int .i64 s.2))] ∧ Ext NX w0 K0 w K ∧ Models w K ∧ (Kd.int .i64).wf s.1 ∧ (Kd.int .i64).wf s.2) (fun s => μ4 s.1 s.2) (0, 0) [(4, (.int .i64 0)), (8, (.int .i64 0))]
  ⟨K0, h0, rfl, Ext.refl _ _ _, hM0, (show (Kd.int .i64).wf 0 from by constructor <;> decide), (show (Kd.int .i64).wf 0 from by constructor <;> decide)⟩ (by repeat (first | exact trivial | refine ⟨rfl, ?_⟩)) ?_
 rintro ⟨i4, i4'⟩ l σ4 w5 ⟨K5, hI, rfl, hX5, hM5, hw4_4, hw4_8⟩
 dsimp only at hI hw4_4 hw4_8
 have hE5 := hE0.andN hX5
 have h := h i4 i4' hI hw4_4 hw4_8
 refine qao ?_
 refine qag ?_
 refine qaa (.bool (decide (i4' < (a0_s.length : Int)))) (qmG rfl rfl) rfl rfl ?_
 refine qay ?_
 refine qao ?_
 refine qa1 (decide (i4' < (a0_s.length : Int))) rfl (fun hc6 => ?_) (fun hc6 => ?_)
 ·have hd6 : i4' < (a0_s.length : Int) := qjt hc6
  have h := h.1 hd6
  refine qbN ?_
  refine qao ?_
  refine qb4 ?_
  refine qao ?_
  refine qag ?_
  refine qaa (.int .i64 i4') (R_mv rfl) rfl rfl ?_
  refine qaa (.int .i64 i4') (R_as rfl) rfl rfl ?_
  refine qay ?_
  refine qao ?_
  refine qag ?_
  refine qaa (.func (.func 133) #[] #[(.pointer (some ⟨a1_f_0_b, a1_f_0_pre.length, none⟩)), (.pointer (some ⟨a1_f_1_b, a1_f_1_pre.length, none⟩))]) (R_mv rfl) rfl rfl ?_
  refine qaa a0_s_v (R_mv rfl) rfl rfl ?_
  refine qaa (.int .i64 i4') (R_mv rfl) rfl rfl ?_
  obtain ⟨hp8, h⟩ := h
  refine WL_P (qnZ rfl (h_a0_s.mono hX5.le) rfl Try.underlying36 qnd hp8.1 hp8.2) rfl rfl ?_
  rintro b7 o7 hP7
  refine WL_L hM5 (S_ld rfl qnd hP7) rfl rfl ?_
  rintro v10 (hV10 : qap.V _ (ix a0_s i4') _)
  have hR12 := (h_a1_f_0_B.extN hX5)
  have hR13 := (h_a1_f_1_B.extN hX5)
  refine qaQ rfl rfl (qbM (qnQ rfl Try.call133 rfl) ((qrb hM5 hV10 hR12 hR13 hsp2_3).mono ?_))
  rintro _ w14 ⟨K14, v14_0, rfl, hS14, hM14, hV14_0⟩
  refine ⟨v14_0, rfl, ?_⟩
  have hE14 := hE5.andN hS14
  obtain rfl := qcS hV14_0
  refine qay ?_
  refine qa1 (decide ((ix a0_s i4').1 = a1_f_0 ∧ (ix a0_s i4').2 = a1_f_1)) rfl (fun hc15 => ?_) (fun hc15 => ?_)
  ·have hd15 : (ix a0_s i4').1 = a1_f_0 ∧ (ix a0_s i4').2 = a1_f_1 := qjt hc15
   have h := h.1 hd15
   refine qao ?_
   refine qag ?_
   refine qaa (.int .i64 i4') (R_mv rfl) rfl rfl ?_
   refine qaa (.int .i64 i4') (R_as rfl) rfl rfl ?_
   refine qay ?_
   refine qcv ?_
   exact qbE hR (v := (.int .i64 i4')) (qd7 rfl rfl) ⟨K14, (.int .i64 i4'), i4', rfl, h, hE14, hM14, (qhj hw4_8)⟩
  ·have hd15 : ¬ ((ix a0_s i4').1 = a1_f_0 ∧ (ix a0_s i4').2 = a1_f_1) := qjs hc15
   have h := h.2 hd15
   refine qbN ?_
   refine qag ?_
   refine qaa (.int .i64 (i4' + 1)) (qto rfl rfl hw4_8 hd6 (qcU (h_a0_s).wf.1)) rfl rfl ?_
   refine qaa (.int .i64 (i4' + 1)) (R_mv rfl) rfl rfl ?_
   refine qay ?_
   refine qj8.mk (i4, (i4' + 1)) [(4, (.int .i64 i4)), (8, (.int .i64 (i4' + 1)))] ?_ ?_ ?_ ?_
   rotate_left
   ·exact h.2
   ·repeat (first | exact Off.lay0 rfl | refine Off.updO ?_ rfl _ | refine Off.updN ?_ _ | refine Off.lay ?_ rfl)
   ·repeat (first | exact trivial | refine ⟨rfl, ?_⟩)
   exact ⟨K14, h.1, rfl, (((Ext.refl _ _ _).andN hX5).andN hS14), hM14, hw4_4, (qoQ hw4_8 hd6 (qcU (h_a0_s).wf.1))⟩
 ·have hd6 : ¬ (i4' < (a0_s.length : Int)) := qjs hc6
  have h := h.2 hd6
  refine qih ?_
  refine qao ?_
  refine qag ?_
  refine qaa (.int .i64 (-1)) (R_as rfl) rfl rfl ?_
  refine qay ?_
  refine qcv ?_
  exact qbE hR (v := (.int .i64 (-1))) (qd7 rfl rfl) ⟨K5, (.int .i64 (-1)), (-1), rfl, h, hE5, hM5, (qhj (show (Kd.int .i64).wf (-1) from by constructor <;> decide))⟩
theorem qkf {w0 : World} {K0 : Ghost} {a0_s_v : Value} {a0_s : (List ((List UInt8) × (List UInt8)))} {a1_f_0_b : Nat} {a1_f_0_pre a1_f_0_post : List Value} {a1_f_0 : (List UInt8)} {a1_f_1_b : Nat} {a1_f_1_pre a1_f_1_post : List Value} {a1_f_1 : (List UInt8)} (hM0 : Models w0 K0) (h_a0_s : qaO.V K0 a0_s a0_s_v) (h_a1_f_0_B : Bx qae w0 K0 a1_f_0_b a1_f_0_pre a1_f_0_post a1_f_0) (h_a1_f_1_B : Bx qaB w0 K0 a1_f_1_b a1_f_1_pre a1_f_1_post a1_f_1) (hsp2_3 : ¬ (a1_f_0_b = a1_f_1_b)) : Calls Try.prog 144 #[a0_s_v, (.func (.func 133) #[] #[(.pointer (some ⟨a1_f_0_b, a1_f_0_pre.length, none⟩)), (.pointer (some ⟨a1_f_1_b, a1_f_1_pre.length, none⟩))])] w0 (fun e w' => ∃ (K' : Ghost) (r0 : Value), e = .returned r0 ∧ Ext NX w0 K0 w' K' ∧ Models w' K' ∧ (Kd.int .i64).V K' (qba a1_f_0 a1_f_1 a0_s 0) r0) := by
 refine (qhc hM0 h_a0_s h_a1_f_0_B h_a1_f_1_B hsp2_3 (qjf h_a0_s.wf)).mono ?_
 rintro _ w' ⟨K', r0, o0, rfl, rfl, hF⟩
 exact ⟨K', r0, rfl, hF⟩
def qeW (a0_s : (List ((List UInt8) × (List UInt8)))) (a1_f_0 : (List UInt8)) (a1_f_1 : (List UInt8)) (Q : Bool → Prop) : Prop :=
 ((Kd.int .i64).wf (qba a1_f_0 a1_f_1 a0_s 0)) → (Q (decide (0 ≤ (qba a1_f_0 a1_f_1 a0_s 0))))
theorem qmC {a0_s : (List ((List UInt8) × (List UInt8)))} {a1_f_0 : (List UInt8)} {a1_f_1 : (List UInt8)} (w_0 : qaO.wf a0_s) : qeW a0_s a1_f_0 a1_f_1 (fun o0 => o0 = decide (0 ≤ qba a1_f_0 a1_f_1 a0_s 0)) := by
 exact fun _ => rfl
theorem qje {w0 : World} {K0 : Ghost} {a0_s_v : Value} {a0_s : (List ((List UInt8) × (List UInt8)))} {a1_f_0_b : Nat} {a1_f_0_pre a1_f_0_post : List Value} {a1_f_0 : (List UInt8)} {a1_f_1_b : Nat} {a1_f_1_pre a1_f_1_post : List Value} {a1_f_1 : (List UInt8)} {Q : Bool → Prop} (hM0 : Models w0 K0) (h_a0_s : qaO.V K0 a0_s a0_s_v) (h_a1_f_0_B : Bx qae w0 K0 a1_f_0_b a1_f_0_pre a1_f_0_post a1_f_0) (h_a1_f_1_B : Bx qaB w0 K0 a1_f_1_b a1_f_1_pre a1_f_1_post a1_f_1) (hsp2_3 : ¬ (a1_f_0_b = a1_f_1_b)) (h : qeW a0_s a1_f_0 a1_f_1 Q) : Calls Try.prog 132 #[a0_s_v, (.func (.func 133) #[] #[(.pointer (some ⟨a1_f_0_b, a1_f_0_pre.length, none⟩)), (.pointer (some ⟨a1_f_1_b, a1_f_1_pre.length, none⟩))])] w0 (fun e w' => ∃ (K' : Ghost) (r0 : Value) (o0 : Bool), e = .returned r0 ∧ Q o0 ∧ Ext NX w0 K0 w' K' ∧ Models w' K' ∧ Kd.bool.V K' o0 r0) := by
 unfold qeW at h
 have hE0 : Ext NX w0 K0 w0 K0 := Ext.refl _ _ _
 refine qbr fun R hR => ?_
 refine qaW (args := [a0_s_v, (.func (.func 133) #[] #[(.pointer (some ⟨a1_f_0_b, a1_f_0_pre.length, none⟩)), (.pointer (some ⟨a1_f_1_b, a1_f_1_pre.length, none⟩))])]) Try.func132 rfl (Nat.le_of_ble_eq_true rfl) ?_
 refine qao ?_
 refine qag ?_
 refine qaa (.bool false) (R_as rfl) rfl rfl ?_
 refine qay ?_
 refine qao ?_
 refine qag ?_
 refine qaa a0_s_v (R_mv rfl) rfl rfl ?_
 refine qaa (.func (.func 133) #[] #[(.pointer (some ⟨a1_f_0_b, a1_f_0_pre.length, none⟩)), (.pointer (some ⟨a1_f_1_b, a1_f_1_pre.length, none⟩))]) (R_mv rfl) rfl rfl ?_
 refine qaQ rfl rfl (qbM (qdt Try.call144 rfl) ((qkf hM0 h_a0_s h_a1_f_0_B h_a1_f_1_B hsp2_3).mono ?_))
 rintro _ w4 ⟨K4, v4_0, rfl, hS4, hM4, hV4_0⟩
 refine ⟨v4_0, rfl, ?_⟩
 have hE4 := hE0.andN hS4
 obtain rfl := qbS hV4_0
 have h := h hV4_0.wf
 refine qaa (.bool (decide (0 ≤ (qba a1_f_0 a1_f_1 a0_s 0)))) (qvn rfl rfl) rfl rfl ?_
 refine qaa (.bool (decide (0 ≤ (qba a1_f_0 a1_f_1 a0_s 0)))) (R_as rfl) rfl rfl ?_
 refine qay ?_
 refine qcv ?_
 exact qbE hR (v := (.bool (decide (0 ≤ (qba a1_f_0 a1_f_1 a0_s 0))))) (qd7 rfl rfl) ⟨K4, (.bool (decide (0 ≤ (qba a1_f_0 a1_f_1 a0_s 0)))), (decide (0 ≤ (qba a1_f_0 a1_f_1 a0_s 0))), rfl, h, hE4, hM4, qgC⟩
theorem qnx {w0 : World} {K0 : Ghost} {a0_s_v : Value} {a0_s : (List ((List UInt8) × (List UInt8)))} {a1_f_0_b : Nat} {a1_f_0_pre a1_f_0_post : List Value} {a1_f_0 : (List UInt8)} {a1_f_1_b : Nat} {a1_f_1_pre a1_f_1_post : List Value} {a1_f_1 : (List UInt8)} (hM0 : Models w0 K0) (h_a0_s : qaO.V K0 a0_s a0_s_v) (h_a1_f_0_B : Bx qae w0 K0 a1_f_0_b a1_f_0_pre a1_f_0_post a1_f_0) (h_a1_f_1_B : Bx qaB w0 K0 a1_f_1_b a1_f_1_pre a1_f_1_post a1_f_1) (hsp2_3 : ¬ (a1_f_0_b = a1_f_1_b)) : Calls Try.prog 132 #[a0_s_v, (.func (.func 133) #[] #[(.pointer (some ⟨a1_f_0_b, a1_f_0_pre.length, none⟩)), (.pointer (some ⟨a1_f_1_b, a1_f_1_pre.length, none⟩))])] w0 (fun e w' => ∃ (K' : Ghost) (r0 : Value), e = .returned r0 ∧ Ext NX w0 K0 w' K' ∧ Models w' K' ∧ Kd.bool.V K' (decide (0 ≤ qba a1_f_0 a1_f_1 a0_s 0)) r0) := by
 refine (qje hM0 h_a0_s h_a1_f_0_B h_a1_f_1_B hsp2_3 (qmC h_a0_s.wf)).mono ?_
 rintro _ w' ⟨K', r0, o0, rfl, rfl, hF⟩
 exact ⟨K', r0, rfl, hF⟩
abbrev qav : Kd (Value × Value) := (Kd.pr Kd.rsl Kd.rmp)
theorem qhn : TyOk Try.prog 37 Kd.rmp 8 := ⟨⟨Try.t37, _, Try.type37, rfl, rfl, rfl, rfl, rfl⟩, ⟨_, Try.underlying37, rfl⟩⟩
theorem qj3 : TyOk Try.prog 36 Kd.rsl 24 := ⟨⟨Try.t36, _, Try.type36, rfl, rfl, rfl, rfl, rfl⟩, ⟨_, Try.underlying36, rfl⟩⟩
def qlZ (a0_n_0 : (List ((List UInt8) × (List UInt8)))) (a0_n_1 : (List ((List UInt8) × Int))) (a1_s : (List UInt8)) (a2_b : (List UInt8)) (Q : Bool → Prop) : Prop :=
 ((¬ (((mfind a1_s a0_n_1).isSome) = true)) → Q false) ∧ ((((mfind a1_s a0_n_1).isSome) = true) → (0 ≤ ((mfind a1_s a0_n_1).getD 0) ∧ ((mfind a1_s a0_n_1).getD 0) ≤ (a0_n_0.length : Int)) ∧ (Q (decide (0 ≤ qba a1_s a2_b (a0_n_0.drop ((mfind a1_s a0_n_1).getD 0).toNat) 0))))
theorem qwb {a0_n_0 : (List ((List UInt8) × (List UInt8)))} {a0_n_1 : (List ((List UInt8) × Int))} {a1_s : (List UInt8)} {a2_b : (List UInt8)} (w_0 : qae.wf a1_s) (w_1 : qaB.wf a2_b) (hp : qbZ a0_n_0 a0_n_1) : qlZ a0_n_0 a0_n_1 a1_s a2_b (fun o0 => o0 = decide ((a1_s, a2_b) ∈ a0_n_0)) := by
 unfold qlZ
 rw [hp a1_s]
 refine ⟨fun h => ?_, fun h => ?_⟩
 ·have hn : qaY a1_s a0_n_0 0 = none := by
   cases hf : qaY a1_s a0_n_0 0 with
   | none => rfl
   | some a => rw [hf] at h; exact absurd rfl h
  have := qfT hn a2_b
  simp [this]
 ·cases hf : qaY a1_s a0_n_0 0 with
  | none => rw [hf] at h; cases h
  | some a =>
    obtain ⟨j, rfl, hl, hm⟩ := qfU hf
    simp only [Option.getD_some, Int.zero_add, Int.toNat_natCast]
    refine ⟨⟨by omega, by omega⟩, ?_⟩
    rw [decide_eq_decide, qjQ _ _ (Int.le_refl _)]
    exact (hm a2_b).symm
theorem qrc {w0 : World} {K0 : Ghost} {a0_n_b : Nat} {a0_n_pre a0_n_post : List Value} {a0_n_0v : Value} {a0_n_0 : (List ((List UInt8) × (List UInt8)))} {a0_n_1v : Value} {a0_n_1 : (List ((List UInt8) × Int))} {a1_s_v : Value} {a1_s : (List UInt8)} {a2_b_v : Value} {a2_b : (List UInt8)} {Q : Bool → Prop} (hM0 : Models w0 K0) (h_a0_n_B : Bx qav w0 K0 a0_n_b a0_n_pre a0_n_post (a0_n_0v, a0_n_1v)) (h_a0_n_0 : Own qap 146 w0 K0 a0_n_0 a0_n_0v) (h_a0_n_1 : Mp qae (Kd.int .i64) w0 K0 a0_n_1 a0_n_1v) (h_a1_s : qae.V K0 a1_s a1_s_v) (h_a2_b : qaB.V K0 a2_b a2_b_v) (h : qlZ a0_n_0 a0_n_1 a1_s a2_b Q) : Calls Try.prog 120 #[(.pointer (some ⟨a0_n_b, a0_n_pre.length, none⟩)), a1_s_v, a2_b_v] w0 (fun e w' => ∃ (K' : Ghost) (r0 : Value) (o0 : Bool), e = .returned r0 ∧ Q o0 ∧ Ext NX w0 K0 w' K' ∧ Models w' K' ∧ Kd.bool.V K' o0 r0) := by
 unfold qlZ at h
 have hE0 : Ext NX w0 K0 w0 K0 := Ext.refl _ _ _
 refine qbr fun R hR => ?_
 refine qaW (args := [(.pointer (some ⟨a0_n_b, a0_n_pre.length, none⟩)), a1_s_v, a2_b_v]) Try.func120 rfl (Nat.le_of_ble_eq_true rfl) ?_
 refine qao ?_
 refine qag ?_
 refine qaQ rfl rfl (St_B (qkp hM0 rfl h_a1_s) ?_)
 rintro b6 w6 (hB6 : Bx qae _ _ _ _ _ a1_s) hS6 hM6 hge6
 have hE6 := hE0.andN hS6
 refine qaQ rfl rfl (St_B (qkp hM6 rfl (h_a2_b.mono hS6.le)) ?_)
 rintro b8 w8 (hB8 : Bx qaB _ _ _ _ _ a2_b) hS8 hM8 hge8
 have hE8 := hE6.andN hS8
 have hR10 := (h_a0_n_B.extN hS6)
 refine qaa (.bool false) (R_as rfl) rfl rfl ?_
 refine qay ?_
 refine qao ?_
 refine qfa (K := K0) NX [.o 0 2, .o 1 2, .o 2 2, .o 3 2, .o 4 2, .o 5 2, .o 6 2, .o 7 2, .o 8 2, .o 9 2, .o 10 2] (by kernel_rfl) (by kernel_rfl) hM8 ?_
 rintro w11 hS11 hM11
 have hE11 := hE8.andN hS11
 refine qax (.pointer (some ⟨a0_n_b, a0_n_pre.length, none⟩)) rfl l0 hM11 (fun _ => R_mv rfl) rfl (gN rfl) rfl ?_
 refine qax (.pointer (some ⟨a0_n_b, a0_n_pre.length, none⟩)) rfl l0 hM11 (fun _ => qbt rfl) rfl (gN rfl) rfl ?_
 refine qax (.pointer (some ⟨a0_n_b, a0_n_pre.length + 1, none⟩)) rfl l0 hM11 (fun _ => R_fa rfl Try.underlying39 rfl rfl qhn rfl) rfl (gN rfl) rfl ?_
 have hR13 := (((h_a0_n_B.extN hS6).extN hS8).extN hS11)
 refine qex hM11 (qcs (Foc.snd Kd.rsl Kd.rmp) rfl qhn hR13 (by first | rfl | simp | omega) (fun h => h)) rfl (gN rfl) rfl ?_
 rintro v12 (hV12 : Kd.rmp.V _ a0_n_1v _)
 obtain rfl := qeo hV12
 have hR15 := ((hB6.extN hS8).extN hS11)
 refine qex hM11 (qcs (Foc.id _) rfl ty24 hR15 (by first | rfl | simp | omega) (fun h => h)) rfl (gN rfl) rfl ?_
 rintro v14 (hV14 : qae.V _ a1_s _)
 have hR18 := (((h_a0_n_1.extN hS6).extN hS8).extN hS11)
 refine qso hM11 (qtC (kv := (Kd.int .i64)) rfl rfl hR18 hV14 Try.underlying37 (qeG Try.underlying24 Try.underlying5 ty5b) ty3 (fun _ _ h => h)) rfl (gN rfl) rfl ?_
 rintro v17 (hV17 : (Kd.int .i64).V _ ((mfind a1_s a0_n_1).getD 0) _)
 obtain rfl := qbS hV17
 refine qax (.tuple #[(.int .i64 ((mfind a1_s a0_n_1).getD 0)), (.bool ((mfind a1_s a0_n_1).isSome))]) rfl l0 hM11 (fun _ => R_mv rfl) rfl (gN rfl) rfl ?_
 refine qax (.int .i64 ((mfind a1_s a0_n_1).getD 0)) rfl l0 hM11 (fun _ => qnR rfl rfl) rfl (gN rfl) rfl ?_
 refine qax (.bool ((mfind a1_s a0_n_1).isSome)) rfl l0 hM11 (fun _ => qnR rfl rfl) rfl (gN rfl) rfl ?_
 refine qax (.int .i64 ((mfind a1_s a0_n_1).getD 0)) rfl l0 hM11 (fun _ => R_as rfl) rfl (gN rfl) rfl ?_
 refine qax (.bool ((mfind a1_s a0_n_1).isSome)) rfl l0 hM11 (fun _ => R_as rfl) rfl (gN rfl) rfl ?_
 refine qhz ?_
 refine qao ?_
 refine qao ?_
 refine qag ?_
 refine qaa (.bool ((mfind a1_s a0_n_1).isSome)) (R_mv rfl) rfl rfl ?_
 refine qaa (.bool (!((mfind a1_s a0_n_1).isSome))) (qmH rfl) rfl rfl ?_
 refine qay ?_
 refine qa1 (!((mfind a1_s a0_n_1).isSome)) rfl (fun hc19 => ?_) (fun hc19 => ?_)
 ·have hd19 : ¬ (((mfind a1_s a0_n_1).isSome) = true) := qwi hc19
  have h := h.1 hd19
  refine qao ?_
  refine qag ?_
  refine qaa (.bool false) (R_as rfl) rfl rfl ?_
  refine qay ?_
  refine qcv ?_
  exact qbE hR (v := (.bool false)) (qd7 rfl rfl) ⟨K0, (.bool false), false, rfl, h, hE11, hM11, qgC⟩
 ·have hd19 : ((mfind a1_s a0_n_1).isSome) = true := qwh hc19
  have h := h.2 hd19
  refine qbN ?_
  refine qao ?_
  refine qag ?_
  refine qaa (.pointer (some ⟨a0_n_b, a0_n_pre.length, none⟩)) (R_mv rfl) rfl rfl ?_
  refine qaa (.pointer (some ⟨a0_n_b, a0_n_pre.length, none⟩)) (qbt rfl) rfl rfl ?_
  refine qaa (.pointer (some ⟨a0_n_b, a0_n_pre.length + 0, none⟩)) (R_fa rfl Try.underlying39 rfl rfl qj3 rfl) rfl rfl ?_
  refine WL_L hM11 (qcs (Foc.fst Kd.rsl Kd.rmp) rfl qj3 hR13 (by first | rfl | simp | omega) (fun h => h)) rfl rfl ?_
  rintro v20 (hV20 : Kd.rsl.V _ a0_n_0v _)
  obtain rfl := qeo hV20
  refine qaa (.int .i64 ((mfind a1_s a0_n_1).getD 0)) (R_mv rfl) rfl rfl ?_
  obtain ⟨hp22, h⟩ := h
  refine WL_V (qvV rfl (h_a0_n_0.V.mono (hS6.le.trans (hS8.le.trans hS11.le))) Try.underlying36 qnd rfl hp22.1 hp22.2) rfl rfl ?_
  rintro v21 (hV21 : qaO.V _ (a0_n_0.drop ((mfind a1_s a0_n_1).getD 0).toNat) _)
  refine qaa (.func (.func 133) #[] #[(.pointer (some ⟨b6, 0, none⟩)), (.pointer (some ⟨b8, 0, none⟩))]) (qvm rfl) rfl rfl ?_
  have hR25 := (hB8.extN hS11)
  refine qaQ rfl rfl (qbM (qdt Try.call132 rfl) ((qnx hM11 hV21 hR15 hR25 (fun he => (qdy hge8 hB6.lt) he.symm)).mono ?_))
  rintro _ w24 ⟨K24, v24_0, rfl, hS24, hM24, hV24_0⟩
  refine ⟨v24_0, rfl, ?_⟩
  have hE24 := hE11.andN hS24
  obtain rfl := qcS hV24_0
  refine qaa (.bool (decide (0 ≤ qba a1_s a2_b (a0_n_0.drop ((mfind a1_s a0_n_1).getD 0).toNat) 0))) (R_as rfl) rfl rfl ?_
  refine qay ?_
  refine qcv ?_
  exact qbE hR (v := (.bool (decide (0 ≤ qba a1_s a2_b (a0_n_0.drop ((mfind a1_s a0_n_1).getD 0).toNat) 0)))) (qd7 rfl rfl) ⟨K24, (.bool (decide (0 ≤ qba a1_s a2_b (a0_n_0.drop ((mfind a1_s a0_n_1).getD 0).toNat) 0))), (decide (0 ≤ qba a1_s a2_b (a0_n_0.drop ((mfind a1_s a0_n_1).getD 0).toNat) 0)), rfl, h, hE24, hM24, qgC⟩
theorem qxl {w0 : World} {K0 : Ghost} {a0_n_b : Nat} {a0_n_pre a0_n_post : List Value} {a0_n_0v : Value} {a0_n_0 : (List ((List UInt8) × (List UInt8)))} {a0_n_1v : Value} {a0_n_1 : (List ((List UInt8) × Int))} {a1_s_v : Value} {a1_s : (List UInt8)} {a2_b_v : Value} {a2_b : (List UInt8)} (hM0 : Models w0 K0) (h_a0_n_B : Bx qav w0 K0 a0_n_b a0_n_pre a0_n_post (a0_n_0v, a0_n_1v)) (h_a0_n_0 : Own qap 146 w0 K0 a0_n_0 a0_n_0v) (h_a0_n_1 : Mp qae (Kd.int .i64) w0 K0 a0_n_1 a0_n_1v) (h_a1_s : qae.V K0 a1_s a1_s_v) (h_a2_b : qaB.V K0 a2_b a2_b_v) (hp : qbZ a0_n_0 a0_n_1) : Calls Try.prog 120 #[(.pointer (some ⟨a0_n_b, a0_n_pre.length, none⟩)), a1_s_v, a2_b_v] w0 (fun e w' => ∃ (K' : Ghost) (r0 : Value), e = .returned r0 ∧ Ext NX w0 K0 w' K' ∧ Models w' K' ∧ Kd.bool.V K' (decide ((a1_s, a2_b) ∈ a0_n_0)) r0) := by
 refine (qrc hM0 h_a0_n_B h_a0_n_0 h_a0_n_1 h_a1_s h_a2_b (qwb h_a1_s.wf h_a2_b.wf hp)).mono ?_
 rintro _ w' ⟨K', r0, o0, rfl, rfl, hF⟩
 exact ⟨K', r0, rfl, hF⟩
theorem qxk {fs : Array Field} (h : Try.prog.underlying 146 = some (.struct fs)) : ∀ f ∈ fs.toList, ∃ i, Try.prog.info? f.type = some i := by
 have h2 := (Try.underlying146).symm.trans h
 cases h2
 intro f hf
 simp only [List.mem_cons, List.not_mem_nil, or_false] at hf
 rcases hf with rfl | rfl
 ·exact ⟨_, Try.type24⟩
 ·exact ⟨_, Try.type32⟩
def qlG (a0_n_0 : (List ((List UInt8) × (List UInt8)))) (a0_n_1 : (List ((List UInt8) × Int))) (a1_s : (List UInt8)) (a2_b : (List UInt8)) (Q : (List ((List UInt8) × (List UInt8))) → (List ((List UInt8) × Int)) → Prop) : Prop :=
 (qbZ a0_n_0 a0_n_1) ∧ ((((a1_s, a2_b) ∈ a0_n_0) → Q a0_n_0 a0_n_1) ∧ ((¬ ((a1_s, a2_b) ∈ a0_n_0)) → ∀ (r21 : Bool), (r21 = true → a0_n_1 = []) → (∃ (J23 : (List ((List UInt8) × Int)) → Prop), (((r21 = true) → J23 ([] : List ((List UInt8) × Int))) ∧ ((r21 = false) → J23 a0_n_1)) ∧ ∀ (y23 : (List ((List UInt8) × Int))), J23 y23 → (∃ (J42 : (List ((List UInt8) × Int)) → Prop), (((¬ (((mfind a1_s y23).isSome) = true)) → J42 (mset a1_s (a0_n_0.length : Int) y23)) ∧ ((((mfind a1_s y23).isSome) = true) → J42 y23)) ∧ ∀ (y42 : (List ((List UInt8) × Int))), J42 y42 → ((a2_b.length ≤ 140737488355328) ∧ ((qaB.wf a2_b) → (((a0_n_0.length + [(a1_s, a2_b)].length) * 56 ≤ 140737488355328) ∧ (Q (a0_n_0 ++ [(a1_s, a2_b)]) y42))))))))
theorem qv2 {a0_n_0 : (List ((List UInt8) × (List UInt8)))} {a0_n_1 : (List ((List UInt8) × Int))} {a1_s : (List UInt8)} {a2_b : (List UInt8)} (w_0 : qae.wf a1_s) (w_1 : qaB.wf a2_b) (hp : qbZ a0_n_0 a0_n_1 ∧ a2_b.length ≤ 140737488355328 ∧ (a0_n_0.length + 1) * 64 ≤ 140737488355328) : qlG a0_n_0 a0_n_1 a1_s a2_b (fun o0 o1 => o0 = (addL a0_n_0 a1_s a2_b) ∧ o1 = (addM a0_n_0 a0_n_1 a1_s a2_b)) := by
 obtain ⟨h1, h2, h3⟩ := hp
 have hlen : (a0_n_0.length + [(a1_s, a2_b)].length) * 56 ≤ 140737488355328 := by
  simp only [List.length_cons, List.length_nil]
  omega
 unfold qlG
 refine ⟨h1, fun h => ?_, fun h r hr => ?_⟩
 ·have hm := h
  exact ⟨by simp [addL, hm], by simp [addM, hm]⟩
 ·have hm := h
  refine ⟨fun m => m = a0_n_1, ⟨fun h => (hr h).symm, fun _ => rfl⟩, ?_⟩
  rintro m rfl
  refine ⟨fun m' => m' = if (mfind a1_s m).isSome then m else mset a1_s (a0_n_0.length : Int) m, ⟨fun h => by rw [if_neg h], fun h => by rw [if_pos h]⟩, ?_⟩
  rintro m' rfl
  exact ⟨h2, fun _ => ⟨hlen, by simp [addL, hm], by simp [addM, hm]⟩⟩
theorem qqL {w0 : World} {K0 : Ghost} {a0_n_b : Nat} {a0_n_pre a0_n_post : List Value} {a0_n_0v : Value} {a0_n_0 : (List ((List UInt8) × (List UInt8)))} {a0_n_1v : Value} {a0_n_1 : (List ((List UInt8) × Int))} {a1_s_v : Value} {a1_s : (List UInt8)} {a2_b_v : Value} {a2_b : (List UInt8)} {Q : (List ((List UInt8) × (List UInt8))) → (List ((List UInt8) × Int)) → Prop} (hM0 : Models w0 K0) (h_a0_n_B : Bx qav w0 K0 a0_n_b a0_n_pre a0_n_post (a0_n_0v, a0_n_1v)) (h_a0_n_0 : Own qap 146 w0 K0 a0_n_0 a0_n_0v) (h_a0_n_1 : Mp qae (Kd.int .i64) w0 K0 a0_n_1 a0_n_1v) (h_a1_s : qae.V K0 a1_s a1_s_v) (h_a2_b : qaB.V K0 a2_b a2_b_v) (h : qlG a0_n_0 a0_n_1 a1_s a2_b Q) : Calls Try.prog 86 #[(.pointer (some ⟨a0_n_b, a0_n_pre.length, none⟩)), a1_s_v, a2_b_v] w0 (fun e w' => ∃ (K' : Ghost) (u0_0 : Value) (u0_1 : Value) (o0 : (List ((List UInt8) × (List UInt8)))) (o1 : (List ((List UInt8) × Int))), e = .returned (.tuple #[]) ∧ Q o0 o1 ∧ Ext (fun c => c = a0_n_b ∨ ob a0_n_0v = some c ∨ mb a0_n_1v = some c) w0 K0 w' K' ∧ Models w' K' ∧ Bx qav w' K' a0_n_b a0_n_pre a0_n_post (u0_0, u0_1) ∧ Own qap 146 w' K' o0 u0_0 ∧ (∀ g, ob u0_0 = some g → ob a0_n_0v = some g ∨ w0.heap.size ≤ g) ∧ Mp qae (Kd.int .i64) w' K' o1 u0_1 ∧ (∀ g, mb u0_1 = some g → mb a0_n_1v = some g ∨ w0.heap.size ≤ g)) := by
 unfold qlG at h
 have hE0 : Ext (fun c => c = a0_n_b ∨ ob a0_n_0v = some c ∨ mb a0_n_1v = some c) w0 K0 w0 K0 := Ext.refl _ _ _
 refine qbr fun R hR => ?_
 refine qaW (args := [(.pointer (some ⟨a0_n_b, a0_n_pre.length, none⟩)), a1_s_v, a2_b_v]) Try.func86 rfl (Nat.le_of_ble_eq_true rfl) ?_
 refine qao ?_
 refine qag ?_
 refine qaQ rfl rfl (St_B (qkp hM0 rfl h_a1_s) ?_)
 rintro b6 w6 (hB6 : Bx qae _ _ _ _ _ a1_s) hS6 hM6 hge6
 have hE6 := hE0.andN hS6
 refine qay ?_
 refine qao ?_
 refine qao ?_
 refine qag ?_
 refine qaa (.pointer (some ⟨a0_n_b, a0_n_pre.length, none⟩)) (R_mv rfl) rfl rfl ?_
 refine WL_L hM6 (qcs (Foc.id _) rfl ty24 hB6 (by first | rfl | simp | omega) (fun h => h)) rfl rfl ?_
 rintro v8 (hV8 : qae.V _ a1_s _)
 refine qaa a2_b_v (R_mv rfl) rfl rfl ?_
 have hR10 := (h_a0_n_0.extN hS6)
 have hR11 := (h_a0_n_1.extN hS6)
 have hR12 := (h_a0_n_B.extN hS6)
 obtain ⟨hp14, h⟩ := h
 refine qaQ rfl rfl (qbM (qdt Try.call120 rfl) ((qxl hM6 hR12 hR10 hR11 hV8 (h_a2_b.mono hS6.le) hp14).mono ?_))
 rintro _ w13 ⟨K13, v13_0, rfl, hS13, hM13, hV13_0⟩
 refine ⟨v13_0, rfl, ?_⟩
 have hE13 := hE6.andN hS13
 obtain rfl := qcS hV13_0
 refine qay ?_
 refine qa1 (decide ((a1_s, a2_b) ∈ a0_n_0)) rfl (fun hc15 => ?_) (fun hc15 => ?_)
 ·have hd15 : (a1_s, a2_b) ∈ a0_n_0 := qjt hc15
  have h := h.1 hd15
  refine qcv ?_
  have hR16 := (hR10.extN hS13)
  have hR17 := (hR11.extN hS13)
  have hR18 := (hR12.extN hS13)
  exact qbE hR (v := (.tuple #[])) (qpq rfl) ⟨K13, a0_n_0v, a0_n_1v, a0_n_0, a0_n_1, rfl, h, hE13, hM13, hR18, hR16, (fun g hg => (.inl hg)), hR17, (fun g hg => (.inl hg))⟩
 ·have hd15 : ¬ ((a1_s, a2_b) ∈ a0_n_0) := qjs hc15
  have h := h.2 hd15
  refine qbN ?_
  refine qao ?_
  refine qao ?_
  refine qag ?_
  refine qaa (.pointer (some ⟨a0_n_b, a0_n_pre.length, none⟩)) (R_mv rfl) rfl rfl ?_
  refine qaa (.pointer (some ⟨a0_n_b, a0_n_pre.length, none⟩)) (qbt rfl) rfl rfl ?_
  refine qaa (.pointer (some ⟨a0_n_b, a0_n_pre.length + 1, none⟩)) (R_fa rfl Try.underlying39 rfl rfl qhn rfl) rfl rfl ?_
  have hR20 := (hR12.extN hS13)
  refine WL_L hM13 (qcs (Foc.snd Kd.rsl Kd.rmp) rfl qhn hR20 (by first | rfl | simp | omega) (fun h => h)) rfl rfl ?_
  rintro v19 (hV19 : Kd.rmp.V _ a0_n_1v _)
  obtain rfl := qeo hV19
  have hR22 := (hR11.extN hS13)
  refine qw9 (qsn rfl rfl hR22 Try.underlying37) rfl rfl ?_
  rintro r21 ⟨hn21, hnn21⟩
  have h := h r21 (fun hx => (hn21 hx).2)
  refine qay ?_
  obtain ⟨J23, h, hJ23⟩ := h
  refine qn3 [17, 18, 19, 20] (fun l w => ∃ y23 K z1_1, J23 y23 ∧ l = [] ∧ Ext (fun c => mb a0_n_1v = some c ∨ c = a0_n_b) w13 K13 w K ∧ Models w K ∧ Mp qae (Kd.int .i64) w K y23 (.map (some z1_1)) ∧ (∀ g, mb (.map (some z1_1)) = some g → mb a0_n_1v = some g ∨ w13.heap.size ≤ g) ∧ Bx qav w K a0_n_b a0_n_pre a0_n_post (a0_n_0v, (.map (some z1_1)))) ?_ ?_
  ·skip
   refine qa1 r21 rfl (fun hc24 => ?_) (fun hc24 => ?_)
   ·have hd24 : r21 = true := hc24
    have h := h.1 hd24
    refine qag ?_
    refine qaa (.pointer (some ⟨a0_n_b, a0_n_pre.length, none⟩)) (R_mv rfl) rfl rfl ?_
    refine qaQ rfl rfl (qw6 (qvR (kk := qae) (kv := (Kd.int .i64)) hM13) ?_)
    rintro b25 w25 hO25 hS25 hM25 hge25
    have hf25 : ∀ g, mb (.map (some b25)) = some g → w0.heap.size ≤ g := fun g hg => by cases hg; exact Nat.le_trans hE13.size hge25
    have hE25 := hE13.andN hS25
    have hs27 : ∀ g, mb (.map (some b25)) = some g → ¬ (mb a0_n_1v = some g) := fun g hg hx => by cases hg; exact absurd (hR22.lt _ hx) (Nat.not_lt.2 hge25)
    refine qaa (.pointer (some ⟨a0_n_b, a0_n_pre.length, none⟩)) (qbt rfl) rfl rfl ?_
    refine qaa (.pointer (some ⟨a0_n_b, a0_n_pre.length + 1, none⟩)) (R_fa rfl Try.underlying39 rfl rfl qhn rfl) rfl rfl ?_
    have hR29 := (hR20.extN hS25)
    refine qaQ rfl rfl (qks (qkr (Foc.snd Kd.rsl Kd.rmp) hM25 rfl rfl (rw_V hO25.one) qhn hR29 (by first | rfl | simp | omega)) ?_)
    rintro w28 (hB28 : Bx qav _ _ a0_n_b a0_n_pre a0_n_post (a0_n_0v, (.map (some b25)))) hS28 hM28
    have hE28 := hE25.comp hS28 (fun c hx hlt => (by subst hx; exact (fun _ => (.inl rfl)) hlt))
    refine qay ?_
    have hR30 := (hO25.ext hS28 (fun g hg hx => (fun g hg hx => hO25.box hR29 (hg.trans (congrArg some hx))) g hg hx))
    exact qkh.mk [] ⟨([] : List ((List UInt8) × Int)), K13, b25, h, rfl, (((Ext.refl _ _ _).andN hS25).comp hS28 (fun c hx hlt => (.inr (hx)))), hM28, hR30, (fun g hg => .inr ((fun g hg => by cases hg; exact hge25) g hg)), hB28⟩ (by repeat (first | exact Off.lay0 rfl | exact Off.refl _ _ | refine Off.updO ?_ rfl _ | refine Off.updN ?_ _ | refine Off.lay ?_ rfl)) (by repeat (first | exact trivial | refine ⟨rfl, ?_⟩))
   ·have hd24 : r21 = false := hc24
    have h := h.2 hd24
    obtain ⟨b24, hv24⟩ := hnn21 hd24
    subst hv24
    refine qbN ?_
    exact qkh.mk [] ⟨a0_n_1, K13, b24, h, rfl, (Ext.refl _ _ _), hM13, hR22, (fun g hg => (.inl hg)), hR20⟩ (by repeat (first | exact Off.lay0 rfl | exact Off.refl _ _ | refine Off.updO ?_ rfl _ | refine Off.updN ?_ _ | refine Off.lay ?_ rfl)) (by repeat (first | exact trivial | refine ⟨rfl, ?_⟩))
  rintro l σ23 w31 ⟨y23, K31, z1_1_23, hI, rfl, hX31, hM31, hL23_z1_1, ho23_z1_1, hL23_1⟩
  have h := hJ23 y23 hI
  have hE31 := hE13.comp hX31 (fun c hx hlt => Or.elim hx (fun hx => (fun g hg _ => (.inr (.inr (hg)))) c hx hlt) (fun hx => (by subst hx; exact (fun _ => (.inl rfl)) hlt)))
  have hf32 : ∀ g, mb (.map (some z1_1_23)) = some g → g < w0.heap.size → g = a0_n_b ∨ ob a0_n_0v = some g ∨ mb a0_n_1v = some g := fun g hg hlt => (ho23_z1_1 g hg).elim (fun hx => (fun g hg _ => (.inr (.inr (hg)))) g hx hlt) (fun hx => absurd hlt (Nat.not_lt.2 (Nat.le_trans hE13.size hx)))
  refine qao ?_
  refine qao ?_
  refine qfa (K := K31) NX [.o 0 2, .o 1 2, .o 2 2, .o 3 2, .o 4 2, .o 5 2, .o 6 2, .o 7 2, .o 8 2, .o 9 2, .o 10 2] (by kernel_rfl) (by kernel_rfl) hM31 ?_
  rintro w33 hS33 hM33
  have hE33 := hE31.andN hS33
  refine qax (.pointer (some ⟨a0_n_b, a0_n_pre.length, none⟩)) rfl l0 hM33 (fun _ => R_mv rfl) rfl (gN rfl) rfl ?_
  refine qax (.pointer (some ⟨a0_n_b, a0_n_pre.length, none⟩)) rfl l0 hM33 (fun _ => qbt rfl) rfl (gN rfl) rfl ?_
  refine qax (.pointer (some ⟨a0_n_b, a0_n_pre.length + 1, none⟩)) rfl l0 hM33 (fun _ => R_fa rfl Try.underlying39 rfl rfl qhn rfl) rfl (gN rfl) rfl ?_
  have hR35 := (hL23_1.extN hS33)
  refine qex hM33 (qcs (Foc.snd Kd.rsl Kd.rmp) rfl qhn hR35 (by first | rfl | simp | omega) (fun h => h)) rfl (gN rfl) rfl ?_
  rintro v34 (hV34 : Kd.rmp.V _ (.map (some z1_1_23)) _)
  obtain rfl := qeo hV34
  have hR37 := (hB6.extN hS13)
  have hR38 := ((hR37.ext hX31 (fun hx => Or.elim hx (fun hx => (hR22.box hR37) hx) (fun hx => (qdy hge6 h_a0_n_B.lt) hx))).extN hS33)
  refine qex hM33 (qcs (Foc.id _) rfl ty24 hR38 (by first | rfl | simp | omega) (fun h => h)) rfl (gN rfl) rfl ?_
  rintro v36 (hV36 : qae.V _ a1_s _)
  have hR41 := (hL23_z1_1.extN hS33)
  refine qso hM33 (qtC (kv := (Kd.int .i64)) rfl rfl hR41 hV36 Try.underlying37 (qeG Try.underlying24 Try.underlying5 ty5b) ty3 (fun _ _ h => h)) rfl (gN rfl) rfl ?_
  rintro v40 (hV40 : (Kd.int .i64).V _ ((mfind a1_s y23).getD 0) _)
  obtain rfl := qbS hV40
  refine qax (.tuple #[(.int .i64 ((mfind a1_s y23).getD 0)), (.bool ((mfind a1_s y23).isSome))]) rfl l0 hM33 (fun _ => R_mv rfl) rfl (gN rfl) rfl ?_
  refine qax (.int .i64 ((mfind a1_s y23).getD 0)) rfl l0 hM33 (fun _ => qnR rfl rfl) rfl (gN rfl) rfl ?_
  refine qax (.bool ((mfind a1_s y23).isSome)) rfl l0 hM33 (fun _ => qnR rfl rfl) rfl (gN rfl) rfl ?_
  refine qax (.int .i64 ((mfind a1_s y23).getD 0)) rfl l0 hM33 (fun _ => R_as rfl) rfl (gN rfl) rfl ?_
  refine qax (.bool ((mfind a1_s y23).isSome)) rfl l0 hM33 (fun _ => R_as rfl) rfl (gN rfl) rfl ?_
  refine qhz ?_
  refine qao ?_
  refine qag ?_
  refine qaa (.bool ((mfind a1_s y23).isSome)) (R_mv rfl) rfl rfl ?_
  refine qaa (.bool (!((mfind a1_s y23).isSome))) (qmH rfl) rfl rfl ?_
  refine qay ?_
  obtain ⟨J42, h, hJ42⟩ := h
  refine qn3 [32, 33, 34, 35, 36, 37, 38, 39, 40, 41] (fun l w => ∃ y42 K z1_1, J42 y42 ∧ l = [] ∧ Ext (fun c => mb (.map (some z1_1_23)) = some c ∨ c = a0_n_b) w33 K31 w K ∧ Models w K ∧ Mp qae (Kd.int .i64) w K y42 (.map (some z1_1)) ∧ (∀ g, mb (.map (some z1_1)) = some g → mb (.map (some z1_1_23)) = some g ∨ w33.heap.size ≤ g) ∧ Bx qav w K a0_n_b a0_n_pre a0_n_post (a0_n_0v, (.map (some z1_1)))) ?_ ?_
  ·skip
   refine qa1 (!((mfind a1_s y23).isSome)) rfl (fun hc43 => ?_) (fun hc43 => ?_)
   ·have hd43 : ¬ (((mfind a1_s y23).isSome) = true) := qwi hc43
    have h := h.1 hd43
    refine qfa (K := K31) (fun c => mb (.map (some z1_1_23)) = some c ∨ w33.heap.size ≤ c) [.o 0 2, .o 1 2, .o 2 2, .o 3 2, .o 4 2, .o 5 2, .o 6 2, .o 7 2, .o 8 2, .o 9 2, .o 10 1] (by kernel_rfl) (by kernel_rfl) hM33 ?_
    rintro w44 hS44 hM44
    have hE44 := hE33.andN hS44
    refine qax (.pointer (some ⟨a0_n_b, a0_n_pre.length, none⟩)) rfl l0 hM44 (fun _ => R_mv rfl) rfl (gN rfl) rfl ?_
    refine qax (.pointer (some ⟨a0_n_b, a0_n_pre.length, none⟩)) rfl l0 hM44 (fun _ => qbt rfl) rfl (gN rfl) rfl ?_
    refine qax (.pointer (some ⟨a0_n_b, a0_n_pre.length + 1, none⟩)) rfl l0 hM44 (fun _ => R_fa rfl Try.underlying39 rfl rfl qhn rfl) rfl (gN rfl) rfl ?_
    have hR46 := (hR35.extN hS44)
    refine qex hM44 (qcs (Foc.snd Kd.rsl Kd.rmp) rfl qhn hR46 (by first | rfl | simp | omega) (fun h => h)) rfl (gN rfl) rfl ?_
    rintro v45 (hV45 : Kd.rmp.V _ (.map (some z1_1_23)) _)
    obtain rfl := qeo hV45
    have hR48 := (hR38.extN hS44)
    refine qex hM44 (qcs (Foc.id _) rfl ty24 hR48 (by first | rfl | simp | omega) (fun h => h)) rfl (gN rfl) rfl ?_
    rintro v47 (hV47 : qae.V _ a1_s _)
    refine qax (.pointer (some ⟨a0_n_b, a0_n_pre.length, none⟩)) rfl l0 hM44 (fun _ => R_mv rfl) rfl (gN rfl) rfl ?_
    refine qax (.pointer (some ⟨a0_n_b, a0_n_pre.length, none⟩)) rfl l0 hM44 (fun _ => qbt rfl) rfl (gN rfl) rfl ?_
    refine qax (.pointer (some ⟨a0_n_b, a0_n_pre.length + 0, none⟩)) rfl l0 hM44 (fun _ => R_fa rfl Try.underlying39 rfl rfl qj3 rfl) rfl (gN rfl) rfl ?_
    refine qex hM44 (qcs (Foc.fst Kd.rsl Kd.rmp) rfl qj3 hR46 (by first | rfl | simp | omega) (fun h => h)) rfl (gN rfl) rfl ?_
    rintro v50 (hV50 : Kd.rsl.V _ a0_n_0v _)
    obtain rfl := qeo hV50
    refine qax (.int .i64 (a0_n_0.length : Int)) rfl l0 hM44 (fun _ => qgt rfl (hR10.V.mono (hS13.le.trans (hX31.le.trans (hS33.le.trans hS44.le)))) Try.underlying36) rfl (gN rfl) rfl ?_
    have hR52 := (hR41.extN hS44)
    refine qlD rfl (gN rfl) rfl (qw7 (qvS hM44 rfl rfl rfl hR52 hV47 (qhj (qcU ((hR10).V).wf.1)) Try.underlying37 (qeG Try.underlying24 Try.underlying5 ty5b)) ?_)
    rintro w51 hO51 hS51 hM51
    have hS51 : Ext (fun c => mb (.map (some z1_1_23)) = some c) w44 K31 w51 K31 := hS51.weak (fun c _ hc => congrArg some hc.symm)
    refine ⟨K31, (hS51.weak (fun c hlt hx => (.inl (hx)))), hM51, ?_⟩
    have hE51 := hE44.comp hS51 (fun c hx hlt => hf32 c hx hlt)
    refine qhz ?_
    have hR53 := (hR46.ext hS51 (fun hx => (hR52.box hR46) hx))
    exact qkh.mk [] ⟨(mset a1_s (a0_n_0.length : Int) y23), K31, z1_1_23, h, rfl, (((Ext.refl _ _ _).andN hS44).comp hS51 (fun c hx hlt => (.inl (hx)))), hM51, hO51, (fun g hg => (.inl hg)), hR53⟩ (by repeat (first | exact Off.lay0 rfl | exact Off.refl _ _ | refine Off.updO ?_ rfl _ | refine Off.updN ?_ _ | refine Off.lay ?_ rfl)) (by repeat (first | exact trivial | refine ⟨rfl, ?_⟩))
   ·have hd43 : ((mfind a1_s y23).isSome) = true := qwh hc43
    have h := h.2 hd43
    refine qbN ?_
    exact qkh.mk [] ⟨y23, K31, z1_1_23, h, rfl, (Ext.refl _ _ _), hM33, hR41, (fun g hg => (.inl hg)), hR35⟩ (by repeat (first | exact Off.lay0 rfl | exact Off.refl _ _ | refine Off.updO ?_ rfl _ | refine Off.updN ?_ _ | refine Off.lay ?_ rfl)) (by repeat (first | exact trivial | refine ⟨rfl, ?_⟩))
  rintro l σ42 w54 ⟨y42, K54, z1_1_42, hI, rfl, hX54, hM54, hL42_z1_1, ho42_z1_1, hL42_1⟩
  have h := hJ42 y42 hI
  have hE54 := hE33.comp hX54 (fun c hx hlt => Or.elim hx (fun hx => hf32 c hx hlt) (fun hx => (by subst hx; exact (fun _ => (.inl rfl)) hlt)))
  have hf55 : ∀ g, mb (.map (some z1_1_42)) = some g → g < w0.heap.size → g = a0_n_b ∨ ob a0_n_0v = some g ∨ mb a0_n_1v = some g := fun g hg hlt => (ho42_z1_1 g hg).elim (fun hx => hf32 g hx hlt) (fun hx => absurd hlt (Nat.not_lt.2 (Nat.le_trans hE33.size hx)))
  have hR56 := (hR10.extN hS13)
  have hR57 := ((hR56.ext hX31 (fun g hg hx => Or.elim hx (fun hx => (fun g hg => hR22.own hR56 g hg) g hg hx) (fun hx => (fun g hg hx => hR56.box hR20 (hg.trans (congrArg some hx))) g hg hx))).extN hS33)
  have hR58 := (hR57.ext hX54 (fun g hg hx => Or.elim hx (fun hx => (fun g hg => hR41.own hR57 g hg) g hg hx) (fun hx => (fun g hg hx => hR57.box hR35 (hg.trans (congrArg some hx))) g hg hx)))
  have hR59 := (hR38.ext hX54 (fun hx => Or.elim hx (fun hx => (hR41.box hR38) hx) (fun hx => (qdy hge6 h_a0_n_B.lt) hx)))
  refine qfa (K := K54) (fun c => c = a0_n_b ∨ ob a0_n_0v = some c ∨ w54.heap.size ≤ c) [.o 0 3, .o 1 2, .o 2 2, .o 3 2, .o 4 2, .o 5 2, .o 6 2, .o 7 0, .o 8 2, .o 9 0, .o 10 1, .o 11 3, .o 12 3, .o 13 1] (by kernel_rfl) (by kernel_rfl) hM54 ?_
  rintro w60 hS60 hM60
  have hE60 := hE54.andN hS60
  refine qax (.pointer (some ⟨a0_n_b, a0_n_pre.length, none⟩)) rfl l3 hM60 (fun _ => R_mv rfl) rfl (gN rfl) rfl ?_
  refine qax (.pointer (some ⟨a0_n_b, a0_n_pre.length, none⟩)) rfl l0 hM60 (fun _ => R_mv rfl) rfl (gN rfl) rfl ?_
  refine qax (.pointer (some ⟨a0_n_b, a0_n_pre.length, none⟩)) rfl l0 hM60 (fun _ => qbt rfl) rfl (gN rfl) rfl ?_
  refine qax (.pointer (some ⟨a0_n_b, a0_n_pre.length + 0, none⟩)) rfl l0 hM60 (fun _ => R_fa rfl Try.underlying39 rfl rfl qj3 rfl) rfl (gN rfl) rfl ?_
  have hR62 := (hL42_1.extN hS60)
  refine qex hM60 (qcs (Foc.fst Kd.rsl Kd.rmp) rfl qj3 hR62 (by first | rfl | simp | omega) (fun h => h)) rfl (gN rfl) rfl ?_
  rintro v61 (hV61 : Kd.rsl.V _ a0_n_0v _)
  obtain rfl := qeo hV61
  have hR64 := (hR59.extN hS60)
  refine qex hM60 (qcs (Foc.id _) rfl ty24 hR64 (by first | rfl | simp | omega) (fun h => h)) rfl (gN rfl) rfl ?_
  rintro v63 (hV63 : qae.V _ a1_s _)
  refine qax a2_b_v rfl l0 hM60 (fun _ => R_mv rfl) rfl (gN rfl) rfl ?_
  have hR66 := (hR58.extN hS60)
  have hR67 := (hL42_z1_1.extN hS60)
  obtain ⟨hp69, h⟩ := h
  refine qkt rfl (gN rfl) rfl (qbM (qdt Try.call69 rfl) ((qsV hM60 (h_a2_b.mono (hS6.le.trans (hS13.le.trans (hX31.le.trans (hS33.le.trans (hX54.le.trans hS60.le)))))) hp69).mono ?_))
  rintro _ w68 ⟨K68, v68_0, rfl, hS68, hM68, hO68_0, hg68_0⟩
  refine ⟨v68_0, rfl, ?_⟩
  refine ⟨K68, hS68, hM68, ?_⟩
  have hE68 := hE60.andN hS68
  have h := h hO68_0.wf
  refine WO_V rfl l0 hM68 (qvK (K := K68) (vs := [(0, v63), (1, v68_0)]) (Z := (a1_s, a2_b)) qnd rfl Try.underlying146 (qxk Try.underlying146) rfl (Parts.cons rfl rfl ty24 (Foc.fst qae qaB) (hV63.mono hS68.le) (Parts.cons rfl rfl ty32 (Foc.snd qae qaB) hO68_0.V Parts.nil))) rfl (gN rfl) rfl ?_
  rintro v71 (hV71 : qap.V _ (a1_s, a2_b) _)
  refine qkt rfl (gN rfl) rfl (qtD (qqB (k := qap) (l := [((a1_s, a2_b), v71)]) hM68 rfl (by intro p hp; simp only [List.mem_cons, List.not_mem_nil, or_false] at hp; subst hp; exact hV71) rfl Try.underlying36 qnd rfl rfl) ?_)
  rintro v73 w73 K73 (hO73 : Own qap 146 w73 K73 [(a1_s, a2_b)] v73) hS73 hM73 hg73
  refine ⟨K73, hS73, hM73, ?_⟩
  have hE73 := hE68.andN hS73
  have hR75 := (hR66.extN hS68)
  have hR76 := ((hR66.extN hS68).extN hS73)
  obtain ⟨hp78, h⟩ := h
  refine qlD rfl (gN rfl) rfl (St_S (qvH hM73 rfl hR76 rfl hO73.V Try.underlying36 qnd rfl hp78) ?_)
  rintro v77 w77 K77 hO77 hS77 hM77 hob77
  refine ⟨K77, (hS77.weak (fun c hlt hx => (.inr (.inl (hx))))), hM77, ?_⟩
  have hE77 := hE73.comp hS77 (fun c hx hlt => (fun g hg _ => (.inr (.inl hg))) c hx hlt)
  have hR79 := (hO73.ext hS77 (fun g hg hx => (fun g hg hx => absurd (hR75.lt _ hx) (Nat.not_lt.2 (hg73 g hg))) g hg hx))
  have hfx77 : ∀ g, ob v77 = some g → g < w0.heap.size → g = a0_n_b ∨ ob a0_n_0v = some g ∨ mb a0_n_1v = some g := fun g hg hlt => by rcases hob77 with hq | hq <;> rw [hq] at hg; exact (fun g hg _ => (.inr (.inl hg))) g hg hlt; cases hg; exact absurd hlt (Nat.not_lt.2 hE73.size)
  have hs81 : ∀ g, ob v77 = some g → ¬ (ob v73 = some g) := fun g hg hx => by rcases hob77 with hq | hq <;> rw [hq] at hg; exact (fun g hg hx => (fun g hg hx => absurd (hR75.lt _ hx) (Nat.not_lt.2 (hg73 g hg))) g hx hg) g hg hx; cases hg; exact absurd (hO73.lt _ hx) (Nat.not_lt.2 (Nat.le_refl _))
  refine qax (.pointer (some ⟨a0_n_b, a0_n_pre.length, none⟩)) rfl l3 hM77 (fun _ => qbt rfl) rfl (gN rfl) rfl ?_
  refine qax (.pointer (some ⟨a0_n_b, a0_n_pre.length + 0, none⟩)) rfl l3 hM77 (fun _ => R_fa rfl Try.underlying39 rfl rfl qj3 rfl) rfl (gN rfl) rfl ?_
  have hR83 := ((hR62.extN hS68).extN hS73)
  have hR84 := (hR83.ext hS77 (fun hx => (hR76.box hR83) hx))
  refine qlD rfl (gN rfl) rfl (qks (qkr (Foc.fst Kd.rsl Kd.rmp) hM77 rfl rfl (rw_V hO77.one) qj3 hR84 (by first | rfl | simp | omega)) ?_)
  rintro w82 (hB82 : Bx qav _ _ a0_n_b a0_n_pre a0_n_post (v77, (.map (some z1_1_42)))) hS82 hM82
  refine ⟨K77, (hS82.weak (fun c hlt hx => (.inl (hx)))), hM82, ?_⟩
  have hE82 := hE77.comp hS82 (fun c hx hlt => (by subst hx; exact (fun _ => (.inl rfl)) hlt))
  refine qhz ?_
  have hR85 := (hO77.ext hS82 (fun g hg hx => (fun g hg hx => hO77.box hR84 (hg.trans (congrArg some hx))) g hg hx))
  have hR86 := ((hR67.extN hS68).extN hS73)
  have hR87 := (hR86.ext hS77 (fun g hg hx => (fun g hg hx => hR86.own hR76 g hx hg) g hg hx))
  have hR88 := (hR87.ext hS82 (fun g hg hx => (fun g hg hx => hR87.box hR84 (hg.trans (congrArg some hx))) g hg hx))
  exact qq3 hR (v := (.tuple #[])) (qpq rfl) ⟨K77, v77, (.map (some z1_1_42)), (a0_n_0 ++ [(a1_s, a2_b)]), y42, rfl, h, hE82, hM82, hB82, hR85, (fun g hg => (by have hg : ob v77 = some g := hg; rcases hob77 with hq | hq <;> rw [hq] at hg; exact (.inl hg); cases hg; exact .inr hE73.size)), hR88, (fun g hg => ((ho42_z1_1 g hg).elim (fun hz => ((ho23_z1_1 g hz).elim (fun hz => (.inl hz)) (fun hz => .inr (Nat.le_trans hE13.size hz)))) (fun hz => .inr (Nat.le_trans hE33.size hz))))⟩
theorem qxa {w0 : World} {K0 : Ghost} {a0_n_b : Nat} {a0_n_pre a0_n_post : List Value} {a0_n_0v : Value} {a0_n_0 : (List ((List UInt8) × (List UInt8)))} {a0_n_1v : Value} {a0_n_1 : (List ((List UInt8) × Int))} {a1_s_v : Value} {a1_s : (List UInt8)} {a2_b_v : Value} {a2_b : (List UInt8)} (hM0 : Models w0 K0) (h_a0_n_B : Bx qav w0 K0 a0_n_b a0_n_pre a0_n_post (a0_n_0v, a0_n_1v)) (h_a0_n_0 : Own qap 146 w0 K0 a0_n_0 a0_n_0v) (h_a0_n_1 : Mp qae (Kd.int .i64) w0 K0 a0_n_1 a0_n_1v) (h_a1_s : qae.V K0 a1_s a1_s_v) (h_a2_b : qaB.V K0 a2_b a2_b_v) (hp : qbZ a0_n_0 a0_n_1 ∧ a2_b.length ≤ 140737488355328 ∧ (a0_n_0.length + 1) * 64 ≤ 140737488355328) : Calls Try.prog 86 #[(.pointer (some ⟨a0_n_b, a0_n_pre.length, none⟩)), a1_s_v, a2_b_v] w0 (fun e w' => ∃ (K' : Ghost) (u0_0 : Value) (u0_1 : Value), e = .returned (.tuple #[]) ∧ Ext (fun c => c = a0_n_b ∨ ob a0_n_0v = some c ∨ mb a0_n_1v = some c) w0 K0 w' K' ∧ Models w' K' ∧ Bx qav w' K' a0_n_b a0_n_pre a0_n_post (u0_0, u0_1) ∧ Own qap 146 w' K' (addL a0_n_0 a1_s a2_b) u0_0 ∧ (∀ g, ob u0_0 = some g → ob a0_n_0v = some g ∨ w0.heap.size ≤ g) ∧ Mp qae (Kd.int .i64) w' K' (addM a0_n_0 a0_n_1 a1_s a2_b) u0_1 ∧ (∀ g, mb u0_1 = some g → mb a0_n_1v = some g ∨ w0.heap.size ≤ g)) := by
 refine (qqL hM0 h_a0_n_B h_a0_n_0 h_a0_n_1 h_a1_s h_a2_b (qv2 h_a1_s.wf h_a2_b.wf hp)).mono ?_
 rintro _ w' ⟨K', u0, u1, o0, o1, rfl, ⟨rfl, rfl⟩, hF⟩
 exact ⟨K', u0, u1, rfl, hF⟩
abbrev qbh : Kd ((Value × Value) × Int) := (Kd.pr qav (Kd.int .i64))
theorem ty39 : TyOk Try.prog 39 qav 32 := ⟨⟨Try.t39, _, Try.type39, rfl, rfl, rfl, rfl, rfl⟩, ⟨_, Try.underlying39, rfl⟩⟩
abbrev qu1 := qa0 146
def qls (a0_k_0_0 : (List ((List UInt8) × (List UInt8)))) (a0_k_0_1 : (List ((List UInt8) × Int))) (a0_k_1 : Int) (a1_kind : Int) (a2_parts : (List (List UInt8))) (Q : (List UInt8) → (List ((List UInt8) × (List UInt8))) → (List ((List UInt8) × Int)) → Int → Prop) : Prop :=
 (1 + qaj a2_parts ≤ 140737488355328) ∧ ((qaB.wf (preimage a1_kind a2_parts)) → (((1 + [(preimage a1_kind a2_parts)].length) * 24 ≤ 140737488355328 ∧ [(preimage a1_kind a2_parts)].flatten.length ≤ 140737488355328) ∧ ((qae.wf (qbd [(preimage a1_kind a2_parts)])) → ((qbZ a0_k_0_0 a0_k_0_1 ∧ (preimage a1_kind a2_parts).length ≤ 140737488355328 ∧ (a0_k_0_0.length + 1) * 64 ≤ 140737488355328) ∧ (Q (qbd [(preimage a1_kind a2_parts)]) (addL a0_k_0_0 (qbd [(preimage a1_kind a2_parts)]) (preimage a1_kind a2_parts)) (addM a0_k_0_0 a0_k_0_1 (qbd [(preimage a1_kind a2_parts)]) (preimage a1_kind a2_parts)) (IntKind.i64.wrap (a0_k_1 + 1)))))))
theorem qvf {a0_k_0_0 : (List ((List UInt8) × (List UInt8)))} {a0_k_0_1 : (List ((List UInt8) × Int))} {a0_k_1 : Int} {a1_kind : Int} {a2_parts : (List (List UInt8))} (w_0 : (Kd.int .i64).wf a1_kind) (w_1 : qa5.wf a2_parts) (hp : qbZ a0_k_0_0 a0_k_0_1 ∧ 1 + qaj a2_parts ≤ 140737488355328 ∧ (a0_k_0_0.length + 1) * 64 ≤ 140737488355328) : qls a0_k_0_0 a0_k_0_1 a0_k_1 a1_kind a2_parts (fun o0 o1 o2 o3 => o0 = (qaw a1_kind a2_parts) ∧ o1 = (addL a0_k_0_0 (qaw a1_kind a2_parts) (preimage a1_kind a2_parts)) ∧ o2 = (addM a0_k_0_0 a0_k_0_1 (qaw a1_kind a2_parts) (preimage a1_kind a2_parts)) ∧ o3 = (IntKind.i64.wrap (a0_k_1 + 1))) := by
 obtain ⟨h1, h2, h3⟩ := hp
 have hl := qcy a1_kind h2
 unfold qls
 exact ⟨h2, fun _ => ⟨⟨by simp, by simpa using by omega⟩, fun _ => ⟨⟨h1, by omega, h3⟩, rfl, rfl, rfl, rfl⟩⟩⟩
theorem qqf {w0 : World} {K0 : Ghost} {a0_k_b : Nat} {a0_k_pre a0_k_post : List Value} {a0_k_0_0v : Value} {a0_k_0_0 : (List ((List UInt8) × (List UInt8)))} {a0_k_0_1v : Value} {a0_k_0_1 : (List ((List UInt8) × Int))} {a0_k_1 : Int} {a1_kind_v : Value} {a1_kind : Int} {a2_parts_v : Value} {a2_parts : (List (List UInt8))} {Q : (List UInt8) → (List ((List UInt8) × (List UInt8))) → (List ((List UInt8) × Int)) → Int → Prop} (hM0 : Models w0 K0) (h_a0_k_B : Bx qbh w0 K0 a0_k_b a0_k_pre a0_k_post ((a0_k_0_0v, a0_k_0_1v), a0_k_1)) (h_a0_k_0_0 : Own qap 146 w0 K0 a0_k_0_0 a0_k_0_0v) (h_a0_k_0_1 : Mp qae (Kd.int .i64) w0 K0 a0_k_0_1 a0_k_0_1v) (h_a1_kind : (Kd.int .i64).V K0 a1_kind a1_kind_v) (h_a2_parts : qa5.V K0 a2_parts a2_parts_v) (h : qls a0_k_0_0 a0_k_0_1 a0_k_1 a1_kind a2_parts Q) : Calls Try.prog 67 #[(.pointer (some ⟨a0_k_b, a0_k_pre.length, none⟩)), a1_kind_v, a2_parts_v] w0 (fun e w' => ∃ (K' : Ghost) (r0 : Value) (u0_0_0 : Value) (u0_0_1 : Value) (o0 : (List UInt8)) (o1 : (List ((List UInt8) × (List UInt8)))) (o2 : (List ((List UInt8) × Int))) (o3 : Int), e = .returned r0 ∧ Q o0 o1 o2 o3 ∧ Ext (fun c => c = a0_k_b ∨ ob a0_k_0_0v = some c ∨ mb a0_k_0_1v = some c) w0 K0 w' K' ∧ Models w' K' ∧ qae.V K' o0 r0 ∧ Bx qbh w' K' a0_k_b a0_k_pre a0_k_post ((u0_0_0, u0_0_1), o3) ∧ Own qap 146 w' K' o1 u0_0_0 ∧ (∀ g, ob u0_0_0 = some g → ob a0_k_0_0v = some g ∨ w0.heap.size ≤ g) ∧ Mp qae (Kd.int .i64) w' K' o2 u0_0_1 ∧ (∀ g, mb u0_0_1 = some g → mb a0_k_0_1v = some g ∨ w0.heap.size ≤ g)) := by
 unfold qls at h
 obtain rfl := qbS h_a1_kind
 have hE0 : Ext (fun c => c = a0_k_b ∨ ob a0_k_0_0v = some c ∨ mb a0_k_0_1v = some c) w0 K0 w0 K0 := Ext.refl _ _ _
 refine qbr fun R hR => ?_
 refine qaW (args := [(.pointer (some ⟨a0_k_b, a0_k_pre.length, none⟩)), (.int .i64 a1_kind), a2_parts_v]) Try.func67 rfl (Nat.le_of_ble_eq_true rfl) ?_
 refine qao ?_
 refine qag ?_
 refine qaQ rfl rfl (St_B (qe9 hM0 ty24) ?_)
 rintro b5 w5 (hB5 : Bx qae _ _ _ _ _ (List.replicate 32 0)) hS5 hM5 hge5
 have hE5 := hE0.andN hS5
 refine qay ?_
 refine qao ?_
 refine qag ?_
 refine qaa (.int .i64 a1_kind) (R_mv rfl) rfl rfl ?_
 refine qaa a2_parts_v (R_mv rfl) rfl rfl ?_
 have hR7 := (h_a0_k_0_0.extN hS5)
 have hR8 := (h_a0_k_0_1.extN hS5)
 have hR9 := (h_a0_k_B.extN hS5)
 obtain ⟨hp11, h⟩ := h
 refine qaQ rfl rfl (qbM (qdt Try.call98 rfl) ((qhw hM5 (qhj (h_a1_kind).wf) (h_a2_parts.mono hS5.le) hp11).mono ?_))
 rintro _ w10 ⟨K10, v10_0, rfl, hS10, hM10, hO10_0, hg10_0⟩
 refine ⟨v10_0, rfl, ?_⟩
 have hE10 := hE5.andN hS10
 have h := h hO10_0.wf
 refine qaa v10_0 (R_as rfl) rfl rfl ?_
 refine qay ?_
 refine qao ?_
 refine qag ?_
 refine qaa v10_0 (R_mv rfl) rfl rfl ?_
 refine qaQ rfl rfl (qtD (qqB (k := qaB) (l := [((preimage a1_kind a2_parts), v10_0)]) hM10 rfl (by intro p hp; simp only [List.mem_cons, List.not_mem_nil, or_false] at hp; subst hp; exact hO10_0.V) rfl Try.underlying96 ty32 rfl rfl) ?_)
 rintro v13 w13 K13 (hO13 : Own qaB 32 w13 K13 [(preimage a1_kind a2_parts)] v13) hS13 hM13 hg13
 have hE13 := hE10.andN hS13
 obtain ⟨hp16, h⟩ := h
 refine qaQ rfl rfl (qbM (qdt Try.call110 rfl) ((qlB hM13 hO13.V hp16).mono ?_))
 rintro _ w15 ⟨K15, v15_0, rfl, hS15, hM15, hV15_0⟩
 refine ⟨v15_0, rfl, ?_⟩
 have hE15 := hE13.andN hS15
 have h := h hV15_0.wf
 refine qaQ rfl rfl (St_B (qe9 hM15 ty24) ?_)
 rintro b18 w18 (hB18 : Bx qae _ _ _ _ _ (List.replicate 32 0)) hS18 hM18 hge18
 have hE18 := hE15.andN hS18
 have hR20 := (((hR9.extN hS10).extN hS13).extN hS15)
 have hR21 := (((hB5.extN hS10).extN hS13).extN hS15)
 refine qaQ rfl rfl (qks (qkr (Foc.id _) hM18 rfl rfl (hV15_0.mono hS18.le) ty24 hB18 (by first | rfl | simp | omega)) ?_)
 rintro w22 (hB22 : Bx qae _ _ b18 [] [] (qbd [(preimage a1_kind a2_parts)])) hS22 hM22
 have hE22 := hE18.comp hS22 (fun c hx hlt => (by subst hx; exact (fun hlt => absurd hlt (Nat.not_lt.2 (Nat.le_trans hE15.size hge18))) hlt))
 refine qay ?_
 refine qao ?_
 refine qao ?_
 refine qag ?_
 refine qaa (.pointer (some ⟨a0_k_b, a0_k_pre.length, none⟩)) (R_mv rfl) rfl rfl ?_
 refine qaa (.bool true) (qqw rfl rfl Try.underlying35) rfl rfl ?_
 refine qay ?_
 refine qa1 true rfl (fun _ => ?_) (fun hc => by cases hc)
 refine qao ?_
 refine qag ?_
 refine qaa (.pointer (some ⟨a0_k_b, a0_k_pre.length, none⟩)) (R_mv rfl) rfl rfl ?_
 refine qaa (.pointer (some ⟨a0_k_b, a0_k_pre.length, none⟩)) (qbt rfl) rfl rfl ?_
 refine qaa (.pointer (some ⟨a0_k_b, a0_k_pre.length + 2, none⟩)) (R_fa rfl Try.underlying41 rfl rfl ty3 rfl) rfl rfl ?_
 have hR24 := ((((hR9.extN hS10).extN hS13).extN hS15).extN hS18)
 have hR25 := (hR24.ext hS22 (fun hx => (fun he => (qdy hge18 hR20.lt) he.symm) hx))
 refine WL_L hM22 (qcs (Foc.snd qav (Kd.int .i64)) rfl ty3 hR25 (by first | rfl | simp | omega) (fun h => h)) rfl rfl ?_
 rintro v23 (hV23 : (Kd.int .i64).V _ a0_k_1 _)
 obtain rfl := qbS hV23
 refine qaa (.int .i64 (IntKind.i64.wrap (a0_k_1 + 1))) (qnP rfl rfl) rfl rfl ?_
 refine qaa (.pointer (some ⟨a0_k_b, a0_k_pre.length, none⟩)) (qbt rfl) rfl rfl ?_
 refine qaa (.pointer (some ⟨a0_k_b, a0_k_pre.length + 2, none⟩)) (R_fa rfl Try.underlying41 rfl rfl ty3 rfl) rfl rfl ?_
 refine qaQ rfl rfl (qks (qkr (Foc.snd qav (Kd.int .i64)) hM22 rfl rfl (qhj (qbI _ _)) ty3 hR25 (by first | rfl | simp | omega)) ?_)
 rintro w26 (hB26 : Bx qbh _ _ a0_k_b a0_k_pre a0_k_post ((a0_k_0_0v, a0_k_0_1v), (IntKind.i64.wrap (a0_k_1 + 1)))) hS26 hM26
 have hE26 := hE22.comp hS26 (fun c hx hlt => (by subst hx; exact (fun _ => (.inl rfl)) hlt))
 refine qay ?_
 have hR27 := (hB22.ext hS26 (fun hx => (qdy hge18 hR20.lt) hx))
 have hR28 := ((((hR7.extN hS10).extN hS13).extN hS15).extN hS18)
 have hR29 := (hR28.ext hS22 (fun g hg hx => (fun g hg hx => hR28.box hB18 (hg.trans (congrArg some hx))) g hg hx))
 have hR30 := (hR29.ext hS26 (fun g hg hx => (fun g hg hx => hR29.box hR25 (hg.trans (congrArg some hx))) g hg hx))
 have hR31 := ((((hR8.extN hS10).extN hS13).extN hS15).extN hS18)
 have hR32 := (hR31.ext hS22 (fun g hg hx => (fun g hg hx => hR31.box hB18 (hg.trans (congrArg some hx))) g hg hx))
 have hR33 := (hR32.ext hS26 (fun g hg hx => (fun g hg hx => hR32.box hR25 (hg.trans (congrArg some hx))) g hg hx))
 refine qfa (K := K15) (fun c => c = a0_k_b ∨ ob a0_k_0_0v = some c ∨ mb a0_k_0_1v = some c ∨ w26.heap.size ≤ c) [.o 0 2, .o 1 2, .o 2 2, .o 3 2, .o 4 2, .o 5 1] (by kernel_rfl) (by kernel_rfl) hM26 ?_
 rintro w34 hS34 hM34
 have hE34 := hE26.andN hS34
 refine qax (.pointer (some ⟨a0_k_b, a0_k_pre.length, none⟩)) rfl l0 hM34 (fun _ => R_mv rfl) rfl (gN rfl) rfl ?_
 refine qax (.pointer (some ⟨a0_k_b, a0_k_pre.length, none⟩)) rfl l0 hM34 (fun _ => qbt rfl) rfl (gN rfl) rfl ?_
 refine qax (.pointer (some ⟨a0_k_b, a0_k_pre.length + 0, none⟩)) rfl l0 hM34 (fun _ => R_fa rfl Try.underlying41 rfl rfl ty39 rfl) rfl (gN rfl) rfl ?_
 have hR36 := (hR27.extN hS34)
 refine qex hM34 (qcs (Foc.id _) rfl ty24 hR36 (by first | rfl | simp | omega) (fun h => h)) rfl (gN rfl) rfl ?_
 rintro v35 (hV35 : qae.V _ (qbd [(preimage a1_kind a2_parts)]) _)
 refine qax v10_0 rfl l0 hM34 (fun _ => R_mv rfl) rfl (gN rfl) rfl ?_
 have hR38 := (hR30.extN hS34)
 have hR39 := (hR33.extN hS34)
 have hR40 := (hB26.extN hS34)
 have hR41 := ((((hB5.extN hS10).extN hS13).extN hS15).extN hS18)
 have hR42 := (hR41.ext hS22 (fun hx => (fun he => (qdy hge18 hR21.lt) he.symm) hx))
 have hR43 := ((hR42.ext hS26 (fun hx => (qdy hge5 h_a0_k_B.lt) hx)).extN hS34)
 have hR44 := (((hO10_0.extN hS13).extN hS15).extN hS18)
 have hR45 := (hR44.ext hS22 (fun g hg hx => (fun g hg hx => hR44.box hB18 (hg.trans (congrArg some hx))) g hg hx))
 have hR46 := ((hR45.ext hS26 (fun g hg hx => (fun g hg hx => hR45.box hR25 (hg.trans (congrArg some hx))) g hg hx)).extN hS34)
 have hR47 := ((hO13.extN hS15).extN hS18)
 have hR48 := (hR47.ext hS22 (fun g hg hx => (fun g hg hx => hR47.box hB18 (hg.trans (congrArg some hx))) g hg hx))
 have hR49 := ((hR48.ext hS26 (fun g hg hx => (fun g hg hx => hR48.box hR25 (hg.trans (congrArg some hx))) g hg hx)).extN hS34)
 obtain ⟨p51, q51, hl51, hB51, hback51⟩ := Bx.sub (Foc.fst qav (Kd.int .i64)) hR40
 obtain ⟨hp52, h⟩ := h
 refine qlD rfl (gN rfl) rfl (qbM (qdt Try.call86 (mapC (show (Value.pointer (some ⟨a0_k_b, a0_k_pre.length + 0, none⟩)) = .pointer (some ⟨a0_k_b, ((a0_k_pre : List Value) ++ p51).length, none⟩) from by rw [List.length_append, hl51]; first | done | simp) (mapC rfl (mapC rfl mapN)))) ((qxa hM34 hB51 hR38 hR39 hV35 hR46.V hp52).mono ?_))
 rintro _ w50 ⟨K50, u50_0_0, u50_0_1, rfl, hS50, hM50, hB50_m0, hu50_0_0, hxu50_0_0, hu50_0_1, hxu50_0_1⟩
 refine ⟨(.tuple #[]), rfl, ?_⟩
 refine ⟨K50, (hS50.weak (fun c hlt hx => Or.elim hx (fun hx => (.inl (hx))) (fun hx => Or.elim hx (fun hx => (.inr (.inl (hx)))) (fun hx => (.inr (.inr (.inl (hx)))))))), hM50, ?_⟩
 have hE50 := hE34.comp hS50 (fun c hx hlt => Or.elim hx (fun hx => (by subst hx; exact (fun _ => (.inl rfl)) hlt)) (fun hx => Or.elim hx (fun hx => (fun g hg _ => (.inr (.inl hg))) c hx hlt) (fun hx => (fun g hg _ => (.inr (.inr (hg)))) c hx hlt)))
 have hf53 : ∀ g, ob u50_0_0 = some g → g < w0.heap.size → g = a0_k_b ∨ ob a0_k_0_0v = some g ∨ mb a0_k_0_1v = some g := fun g hg hlt => (hxu50_0_0 g hg).elim (fun hx => (fun g hg _ => (.inr (.inl hg))) g hx hlt) (fun hx => absurd hlt (Nat.not_lt.2 (Nat.le_trans hE34.size hx)))
 have hf54 : ∀ g, mb u50_0_1 = some g → g < w0.heap.size → g = a0_k_b ∨ ob a0_k_0_0v = some g ∨ mb a0_k_0_1v = some g := fun g hg hlt => (hxu50_0_1 g hg).elim (fun hx => (fun g hg _ => (.inr (.inr (hg)))) g hx hlt) (fun hx => absurd hlt (Nat.not_lt.2 (Nat.le_trans hE34.size hx)))
 have hB50_w : Bx qbh w50 K50 a0_k_b a0_k_pre a0_k_post ((u50_0_0, u50_0_1), (IntKind.i64.wrap (a0_k_1 + 1))) := hback51 hS50.le hB50_m0
 refine qhz ?_
 refine qao ?_
 refine qag ?_
 have hR56 := (hR36.ext hS50 (fun hx => Or.elim hx (fun hx => (qdy hge18 hR20.lt) hx) (fun hx => Or.elim hx (fun hx => (hR38.box hR36) hx) (fun hx => (hR39.box hR36) hx))))
 refine WL_L hM50 (qcs (Foc.id _) rfl ty24 hR56 (by first | rfl | simp | omega) (fun h => h)) rfl rfl ?_
 rintro v55 (hV55 : qae.V _ (qbd [(preimage a1_kind a2_parts)]) _)
 have hR59 := (hR43.ext hS50 (fun hx => Or.elim hx (fun hx => (qdy hge5 h_a0_k_B.lt) hx) (fun hx => Or.elim hx (fun hx => (hR38.box hR43) hx) (fun hx => (hR39.box hR43) hx))))
 refine qaQ rfl rfl (qks (qkr (Foc.id _) hM50 rfl rfl hV55 ty24 hR59 (by first | rfl | simp | omega)) ?_)
 rintro w58 (hB58 : Bx qae _ _ b5 [] [] (qbd [(preimage a1_kind a2_parts)])) hS58 hM58
 have hE58 := hE50.comp hS58 (fun c hx hlt => (by subst hx; exact (fun hlt => absurd hlt (Nat.not_lt.2 (Nat.le_trans hE0.size hge5))) hlt))
 refine qay ?_
 refine qcv ?_
 refine qlO hR (qsI rfl rfl ty24 hB58) ?_
 rintro v60 hV60
 have hR61 := (hu50_0_0.ext hS58 (fun g hg hx => (fun g hg hx => hu50_0_0.box hR59 (hg.trans (congrArg some hx))) g hg hx))
 have hR62 := (hu50_0_1.ext hS58 (fun g hg hx => (fun g hg hx => hu50_0_1.box hR59 (hg.trans (congrArg some hx))) g hg hx))
 have hR63 := (hB50_w.ext hS58 (fun hx => (fun he => (qdy hge5 h_a0_k_B.lt) he.symm) hx))
 exact ⟨K50, v60, u50_0_0, u50_0_1, (qbd [(preimage a1_kind a2_parts)]), (addL a0_k_0_0 (qbd [(preimage a1_kind a2_parts)]) (preimage a1_kind a2_parts)), (addM a0_k_0_0 a0_k_0_1 (qbd [(preimage a1_kind a2_parts)]) (preimage a1_kind a2_parts)), (IntKind.i64.wrap (a0_k_1 + 1)), rfl, h, hE58, hM58, hV60, hR63, hR61, (fun g hg => ((hxu50_0_0 g hg).elim (fun hz => (.inl hz)) (fun hz => .inr (Nat.le_trans hE34.size hz)))), hR62, (fun g hg => ((hxu50_0_1 g hg).elim (fun hz => (.inl hz)) (fun hz => .inr (Nat.le_trans hE34.size hz))))⟩
theorem qwG {w0 : World} {K0 : Ghost} {a0_k_b : Nat} {a0_k_pre a0_k_post : List Value} {a0_k_0_0v : Value} {a0_k_0_0 : (List ((List UInt8) × (List UInt8)))} {a0_k_0_1v : Value} {a0_k_0_1 : (List ((List UInt8) × Int))} {a0_k_1 : Int} {a1_kind_v : Value} {a1_kind : Int} {a2_parts_v : Value} {a2_parts : (List (List UInt8))} (hM0 : Models w0 K0) (h_a0_k_B : Bx qbh w0 K0 a0_k_b a0_k_pre a0_k_post ((a0_k_0_0v, a0_k_0_1v), a0_k_1)) (h_a0_k_0_0 : Own qap 146 w0 K0 a0_k_0_0 a0_k_0_0v) (h_a0_k_0_1 : Mp qae (Kd.int .i64) w0 K0 a0_k_0_1 a0_k_0_1v) (h_a1_kind : (Kd.int .i64).V K0 a1_kind a1_kind_v) (h_a2_parts : qa5.V K0 a2_parts a2_parts_v) (hp : qbZ a0_k_0_0 a0_k_0_1 ∧ 1 + qaj a2_parts ≤ 140737488355328 ∧ (a0_k_0_0.length + 1) * 64 ≤ 140737488355328) : Calls Try.prog 67 #[(.pointer (some ⟨a0_k_b, a0_k_pre.length, none⟩)), a1_kind_v, a2_parts_v] w0 (fun e w' => ∃ (K' : Ghost) (r0 : Value) (u0_0_0 : Value) (u0_0_1 : Value), e = .returned r0 ∧ Ext (fun c => c = a0_k_b ∨ ob a0_k_0_0v = some c ∨ mb a0_k_0_1v = some c) w0 K0 w' K' ∧ Models w' K' ∧ qae.V K' (qaw a1_kind a2_parts) r0 ∧ Bx qbh w' K' a0_k_b a0_k_pre a0_k_post ((u0_0_0, u0_0_1), (IntKind.i64.wrap (a0_k_1 + 1))) ∧ Own qap 146 w' K' (addL a0_k_0_0 (qaw a1_kind a2_parts) (preimage a1_kind a2_parts)) u0_0_0 ∧ (∀ g, ob u0_0_0 = some g → ob a0_k_0_0v = some g ∨ w0.heap.size ≤ g) ∧ Mp qae (Kd.int .i64) w' K' (addM a0_k_0_0 a0_k_0_1 (qaw a1_kind a2_parts) (preimage a1_kind a2_parts)) u0_0_1 ∧ (∀ g, mb u0_0_1 = some g → mb a0_k_0_1v = some g ∨ w0.heap.size ≤ g)) := by
 refine (qqf hM0 h_a0_k_B h_a0_k_0_0 h_a0_k_0_1 h_a1_kind h_a2_parts (qvf h_a1_kind.wf h_a2_parts.wf hp)).mono ?_
 rintro _ w' ⟨K', r0, u0, u1, o0, o1, o2, o3, rfl, ⟨rfl, rfl, rfl, rfl⟩, hF⟩
 exact ⟨K', r0, u0, u1, rfl, hF⟩
def qlt (a1_kind : Int) (a2_parts : (List (List UInt8))) (Q : (List UInt8) → Prop) : Prop :=
 (1 + qaj a2_parts ≤ 140737488355328) ∧ ((qaB.wf (preimage a1_kind a2_parts)) → (((1 + [(preimage a1_kind a2_parts)].length) * 24 ≤ 140737488355328 ∧ [(preimage a1_kind a2_parts)].flatten.length ≤ 140737488355328) ∧ ((qae.wf (qbd [(preimage a1_kind a2_parts)])) → (Q (qbd [(preimage a1_kind a2_parts)])))))
theorem qvg {a1_kind : Int} {a2_parts : (List (List UInt8))} (w_0 : (Kd.int .i64).wf a1_kind) (w_1 : qa5.wf a2_parts) (hp : 1 + qaj a2_parts ≤ 140737488355328) : qlt a1_kind a2_parts (fun o0 => o0 = (qaw a1_kind a2_parts)) := by
 have hl := qcy a1_kind hp
 unfold qlt
 exact ⟨hp, fun _ => ⟨⟨by simp, by simpa using by omega⟩, fun _ => rfl⟩⟩
theorem qqg {w0 : World} {K0 : Ghost} {a1_kind_v : Value} {a1_kind : Int} {a2_parts_v : Value} {a2_parts : (List (List UInt8))} {Q : (List UInt8) → Prop} (hM0 : Models w0 K0) (h_a1_kind : (Kd.int .i64).V K0 a1_kind a1_kind_v) (h_a2_parts : qa5.V K0 a2_parts a2_parts_v) (h : qlt a1_kind a2_parts Q) : Calls Try.prog 67 #[(.pointer none), a1_kind_v, a2_parts_v] w0 (fun e w' => ∃ (K' : Ghost) (r0 : Value) (o0 : (List UInt8)), e = .returned r0 ∧ Q o0 ∧ Ext NX w0 K0 w' K' ∧ Models w' K' ∧ qae.V K' o0 r0) := by
 unfold qlt at h
 obtain rfl := qbS h_a1_kind
 have hE0 : Ext NX w0 K0 w0 K0 := Ext.refl _ _ _
 refine qbr fun R hR => ?_
 refine qaW (args := [(.pointer none), (.int .i64 a1_kind), a2_parts_v]) Try.func67 rfl (Nat.le_of_ble_eq_true rfl) ?_
 refine qao ?_
 refine qag ?_
 refine qaQ rfl rfl (St_B (qe9 hM0 ty24) ?_)
 rintro b2 w2 (hB2 : Bx qae _ _ _ _ _ (List.replicate 32 0)) hS2 hM2 hge2
 have hE2 := hE0.andN hS2
 refine qay ?_
 refine qao ?_
 refine qag ?_
 refine qaa (.int .i64 a1_kind) (R_mv rfl) rfl rfl ?_
 refine qaa a2_parts_v (R_mv rfl) rfl rfl ?_
 obtain ⟨hp5, h⟩ := h
 refine qaQ rfl rfl (qbM (qdt Try.call98 rfl) ((qhw hM2 (qhj (h_a1_kind).wf) (h_a2_parts.mono hS2.le) hp5).mono ?_))
 rintro _ w4 ⟨K4, v4_0, rfl, hS4, hM4, hO4_0, hg4_0⟩
 refine ⟨v4_0, rfl, ?_⟩
 have hE4 := hE2.andN hS4
 have h := h hO4_0.wf
 refine qaa v4_0 (R_as rfl) rfl rfl ?_
 refine qay ?_
 refine qao ?_
 refine qag ?_
 refine qaa v4_0 (R_mv rfl) rfl rfl ?_
 refine qaQ rfl rfl (qtD (qqB (k := qaB) (l := [((preimage a1_kind a2_parts), v4_0)]) hM4 rfl (by intro p hp; simp only [List.mem_cons, List.not_mem_nil, or_false] at hp; subst hp; exact hO4_0.V) rfl Try.underlying96 ty32 rfl rfl) ?_)
 rintro v7 w7 K7 (hO7 : Own qaB 32 w7 K7 [(preimage a1_kind a2_parts)] v7) hS7 hM7 hg7
 have hE7 := hE4.andN hS7
 obtain ⟨hp10, h⟩ := h
 refine qaQ rfl rfl (qbM (qdt Try.call110 rfl) ((qlB hM7 hO7.V hp10).mono ?_))
 rintro _ w9 ⟨K9, v9_0, rfl, hS9, hM9, hV9_0⟩
 refine ⟨v9_0, rfl, ?_⟩
 have hE9 := hE7.andN hS9
 have h := h hV9_0.wf
 refine qaQ rfl rfl (St_B (qe9 hM9 ty24) ?_)
 rintro b12 w12 (hB12 : Bx qae _ _ _ _ _ (List.replicate 32 0)) hS12 hM12 hge12
 have hE12 := hE9.andN hS12
 have hR14 := (((hB2.extN hS4).extN hS7).extN hS9)
 refine qaQ rfl rfl (qks (qkr (Foc.id _) hM12 rfl rfl (hV9_0.mono hS12.le) ty24 hB12 (by first | rfl | simp | omega)) ?_)
 rintro w15 (hB15 : Bx qae _ _ b12 [] [] (qbd [(preimage a1_kind a2_parts)])) hS15 hM15
 have hE15 := hE12.comp hS15 (fun c hx hlt => (by subst hx; exact (fun hlt => absurd hlt (Nat.not_lt.2 (Nat.le_trans hE9.size hge12))) hlt))
 refine qay ?_
 refine qao ?_
 refine qao ?_
 refine qag ?_
 refine qaa (.pointer none) (R_mv rfl) rfl rfl ?_
 refine qaa (.bool false) (qlx rfl rfl Try.underlying35) rfl rfl ?_
 refine qay ?_
 refine qa1 false rfl (fun hc => by cases hc) (fun _ => ?_)
 refine qbN ?_
 refine qao ?_
 refine qag ?_
 refine WL_L hM15 (qcs (Foc.id _) rfl ty24 hB15 (by first | rfl | simp | omega) (fun h => h)) rfl rfl ?_
 rintro v16 (hV16 : qae.V _ (qbd [(preimage a1_kind a2_parts)]) _)
 have hR19 := ((((hB2.extN hS4).extN hS7).extN hS9).extN hS12)
 have hR20 := (hR19.ext hS15 (fun hx => (fun he => (qdy hge12 hR14.lt) he.symm) hx))
 refine qaQ rfl rfl (qks (qkr (Foc.id _) hM15 rfl rfl hV16 ty24 hR20 (by first | rfl | simp | omega)) ?_)
 rintro w18 (hB18 : Bx qae _ _ b2 [] [] (qbd [(preimage a1_kind a2_parts)])) hS18 hM18
 have hE18 := hE15.comp hS18 (fun c hx hlt => (by subst hx; exact (fun hlt => absurd hlt (Nat.not_lt.2 (Nat.le_trans hE0.size hge2))) hlt))
 refine qay ?_
 refine qcv ?_
 refine qlO hR (qsI rfl rfl ty24 hB18) ?_
 rintro v21 hV21
 exact ⟨K9, v21, (qbd [(preimage a1_kind a2_parts)]), rfl, h, hE18, hM18, hV21⟩
theorem qwH {w0 : World} {K0 : Ghost} {a1_kind_v : Value} {a1_kind : Int} {a2_parts_v : Value} {a2_parts : (List (List UInt8))} (hM0 : Models w0 K0) (h_a1_kind : (Kd.int .i64).V K0 a1_kind a1_kind_v) (h_a2_parts : qa5.V K0 a2_parts a2_parts_v) (hp : 1 + qaj a2_parts ≤ 140737488355328) : Calls Try.prog 67 #[(.pointer none), a1_kind_v, a2_parts_v] w0 (fun e w' => ∃ (K' : Ghost) (r0 : Value), e = .returned r0 ∧ Ext NX w0 K0 w' K' ∧ Models w' K' ∧ qae.V K' (qaw a1_kind a2_parts) r0) := by
 refine (qqg hM0 h_a1_kind h_a2_parts (qvg h_a1_kind.wf h_a2_parts.wf hp)).mono ?_
 rintro _ w' ⟨K', r0, o0, rfl, rfl, hF⟩
 exact ⟨K', r0, rfl, hF⟩
theorem Of_c {w0 : World} {K0 : Ghost} {a0_k_v : Value} {a0_k_F : Nat → Prop} {a0_k : qan} {a1_kind_v : Value} {a1_kind : Int} {a2_parts_v : Value} {a2_parts : (List (List UInt8))} (hM0 : Models w0 K0) (h_a0_k : qu1 w0 K0 a0_k_v a0_k_F a0_k) (h_a1_kind : (Kd.int .i64).V K0 a1_kind a1_kind_v) (h_a2_parts : qa5.V K0 a2_parts a2_parts_v) (hp : 1 + qaj a2_parts ≤ 140737488355328 ∧ qaH a0_k) : Calls Try.prog 67 #[a0_k_v, a1_kind_v, a2_parts_v] w0 (fun e w' => ∃ (K' : Ghost) (r0 : Value) (F0 : Nat → Prop), e = .returned r0 ∧ Ext a0_k_F w0 K0 w' K' ∧ Models w' K' ∧ qae.V K' (qaw a1_kind a2_parts) r0 ∧ qu1 w' K' a0_k_v F0 (qaG a0_k a1_kind a2_parts) ∧ (∀ g, F0 g → a0_k_F g ∨ w0.heap.size ≤ g)) := by
 cases a0_k with
 | none =>
   obtain ⟨rfl, rfl⟩ := h_a0_k
   refine (qwH hM0 h_a1_kind h_a2_parts hp.1).mono ?_
   rintro _ w' ⟨K', r0, rfl, hE, hM, hr0⟩
   exact ⟨K', r0, NX, rfl, hE, hM, hr0, ⟨rfl, rfl⟩, fun g hg => hg.elim⟩
 | some x =>
   obtain ⟨b, pre, post, lv, mv, m, rfl, hB, hO, hm, hi, hF, hlt⟩ := h_a0_k
   refine (qwG hM0 hB hO hm h_a1_kind h_a2_parts ⟨hi, hp.1, hp.2 x rfl⟩).mono ?_
   rintro _ w' ⟨K', r0, u0, u1, rfl, hE, hM, hr0, hB', hO', hx, hm', hy⟩
   refine ⟨K', r0, _, rfl, hE.weak (fun g hg hx => hF g hx), hM, hr0, qa0.mk hB' hO' hm' (qv1 hi _ _), fun g hg => ?_⟩
   rcases hg with rfl | hg | hg
   ·exact .inl (hF _ (.inl rfl))
   ·exact (hx g hg).imp (fun h => hF g (.inr (.inl h))) id
   ·exact (hy g hg).imp (fun h => hF g (.inr (.inr h))) id
end Go.Proofs.Ytmjjkpiglbpkhaa

set_option linter.unusedVariables false
set_option maxRecDepth 100000
set_option maxHeartbeats 2000000
namespace Go.Proofs.Ytmjjkpiglbpkhaa
open Go Go.RowKit Go.Inc
noncomputable def Of_C : Ctr := ⟨[.bk 146 true, .v (.int .i64), .v (.sl (.sl .byte))], [.v (.arr 32 .byte)], some (fun a => (fun (a0_k : qan) (a1_kind : Int) (a2_parts : List (List UInt8)) => (1 + qaj a2_parts ≤ 140737488355328 ∧ qaH a0_k : Prop)) a.1 a.2.1 a.2.2.1), fun a => (fun (a0_k : qan) (a1_kind : Int) (a2_parts : List (List UInt8)) => (((qaw a1_kind a2_parts), ()), ((qaG a0_k a1_kind a2_parts), ()))) a.1 a.2.1 a.2.2.1⟩
theorem Of_k : Of_C.valid Try.prog 67 := qxf (fun _ => rfl) (fun _ => rfl) fun a hp θ v F vs w K hM hB hv => by
 obtain ⟨v1, vs, rfl, h1, v2, vs, rfl, h2, hnil⟩ := hv
 have hnil' : vs = [] := hnil
 subst hnil'
 refine (Of_c hM hB (qdk (t := .int .i64) h1 rfl) (qdk (t := .sl (.sl .byte)) h2 rfl) hp).mono ?_
 rintro ed w' ⟨K', r0, F0, rfl, hE, hM', hr, hB', hg⟩
 exact ⟨K', [r0], F0, rfl, hE, hM', fun θ' => qrI (SVal.of_rel (t := .arr 32 .byte) hr), hB', hg⟩
end Go.Proofs.Ytmjjkpiglbpkhaa

set_option linter.unusedVariables false
set_option maxRecDepth 100000
set_option maxHeartbeats 20000000
namespace Go.Proofs.Ytmjjkpiglbpkhaa
open Go Go.RowKit Go.Inc
noncomputable def qfQ : Ctr := ⟨[.v (.int .i64)], [.v (.int .i64)], none, fun a => (fun (a0_n : Int) => ((((half a0_n.toNat : Nat) : Int), ()), (()))) a.1⟩
noncomputable def qsf : Fx := ⟨seat, some bkT, fns, [], [], [], []⟩
def qke (a0_n : Int) (Q : Int → Prop) : Prop :=
 (a0_n < (2 : Int) → Q (0 : Int)) ∧ (¬a0_n < (2 : Int) → ∃ (x0 : Int → Prop), ∃ (x1 : Int → Nat), x0 (1 : Int) ∧ ∀ (x2 : Int), x0 x2 → (Kd.int IntKind.i64).wf x2 → (x2 ≤ IntKind.i64.wrap ((IntKind.i64.wrap (a0_n - (1 : Int))).tdiv (2 : Int)) → x0 (IntKind.i64.wrap (x2 * (2 : Int))) ∧ x1 (IntKind.i64.wrap (x2 * (2 : Int))) < x1 x2) ∧ (¬x2 ≤ IntKind.i64.wrap ((IntKind.i64.wrap (a0_n - (1 : Int))).tdiv (2 : Int)) → Q x2))
theorem qs9 {a0_n : Int} (w_0 : (Ty.kd (.int .i64)).wf a0_n) : qke a0_n (fun o0 => o0 = ((half a0_n.toNat : Nat) : Int)) := by
 have hn1 : a0_n ≤ 9223372036854775807 := w_0.2
 unfold qke
 refine ⟨fun h => ?_, fun h => ?_⟩
 ·rw [qmU (by omega)]
  rfl
 ·have e1 : IntKind.i64.wrap (a0_n - 1) = a0_n - 1 := qam (wf64 (by omega) (by omega))
  have e2 : (a0_n - 1).tdiv 2 = (a0_n - 1) / 2 := Int.tdiv_eq_ediv_of_nonneg (by omega)
  have e3 : IntKind.i64.wrap ((a0_n - 1) / 2) = (a0_n - 1) / 2 := qam (wf64 (by omega) (by omega))
  rw [e1, e2, e3]
  refine ⟨fun h => ∃ j p : Nat, p = 2 ^ j ∧ h = (p : Int) ∧ (p : Int) < a0_n, fun h => (a0_n - h).toNat, ⟨0, 1, rfl, rfl, by omega⟩, ?_⟩
  rintro x ⟨j, p, hp, rfl, hlt⟩ _
  have hp1 : 1 ≤ p := by rw [hp]; exact Nat.one_le_two_pow
  refine ⟨fun hle => ?_, fun hgt => ?_⟩
  ·have e4 : IntKind.i64.wrap ((p : Int) * 2) = ((2 * p : Nat) : Int) := by
    rw [qam (wf64 (by omega) (by omega))]
    omega
   rw [e4]
   exact ⟨⟨j + 1, 2 * p, by rw [hp, Nat.pow_succ]; omega, rfl, by omega⟩, by show (a0_n - ((2 * p : Nat) : Int)).toNat < (a0_n - (p : Int)).toNat; omega⟩
  ·have := qua (n := a0_n.toNat) (j := j) (by rw [← hp]; omega) (by rw [Nat.pow_succ, ← hp]; omega)
   show (p : Int) = ((half a0_n.toNat : Nat) : Int)
   rw [this, ← hp]
theorem qs8 : (∀ a, qfQ.pre a → PM.wfP qfQ.pm a (fvc qsf 200 105 qfQ a (eqO qfQ a))) = (∀ a : Int × Unit, True → (Ty.kd (.int .i64)).wf a.1 → qke a.1 (fun o0 => o0 = ((half (a.1).toNat : Nat) : Int))) := by kernel_rfl
theorem qnw : qfQ.valid Try.prog 105 := qau (X := qsf) (qaJ qal (fun b hb => by cases hb; exact qar) qas trivial) 200 (qs8.mpr fun a hp w_0 => @qs9 a.1 w_0)
noncomputable def qer : Ctr := ⟨[.bk 146 true, .v (.sl (.arr 32 .byte))], [.v (.arr 32 .byte)], some (fun a => (fun (a0_k : qan) (a1_l : List (List UInt8)) => (a1_l.length ≤ 1048576 ∧ qaH a0_k : Prop)) a.1 a.2.1), fun a => (fun (a0_k : qan) (a1_l : List (List UInt8)) => (((qaw 2 a1_l), ()), ((qaG a0_k 2 a1_l), ()))) a.1 a.2.1⟩
noncomputable def qpF : Fx := ⟨seat, some bkT, fns, [(67, Of_C)], [], [], []⟩
def qi4 (a0_k : qan) (a1_l : List (List UInt8)) (Q : (List UInt8) → qan → Prop) : Prop :=
 ∃ (x0 : List (List UInt8) → Int → Prop), ∃ (x1 : List (List UInt8) → Int → Nat), x0 ([] : List (List UInt8)) (0 : Int) ∧ ∀ (x2 : List (List UInt8)) (x3 : Int), x0 x2 x3 → Ty.byte.sl.kd.sl.wf x2 → (Kd.int IntKind.i64).wf x3 → (x3 < (a1_l.length : Int) → ((0 : Int) ≤ x3 ∧ x3 < (a1_l.length : Int)) ∧ (x2.length + (ix a1_l x3 :: ([] : List (List UInt8))).length) * (24 : Nat) ≤ (140737488355328 : Nat) ∧ x3 < (9223372036854775807 : Int) ∧ x0 (x2 ++ ix a1_l x3 :: ([] : List (List UInt8))) (x3 + (1 : Int)) ∧ x1 (x2 ++ ix a1_l x3 :: ([] : List (List UInt8))) (x3 + (1 : Int)) < x1 x2 x3) ∧ (¬x3 < (a1_l.length : Int) → ((1 : Nat) + qaj x2 ≤ (140737488355328 : Nat) ∧ qaH a0_k) ∧ ((Ty.arr (32 : Nat) Ty.byte).kd.wf (qaw (2 : Int) x2) → Q (qaw (2 : Int) x2) (qaG a0_k (2 : Int) x2)))
theorem qrZ {a0_k : qan} {a1_l : List (List UInt8)} (w_0 : (Ty.kd (.sl (.arr 32 .byte))).wf a1_l) (hp : a1_l.length ≤ 1048576 ∧ qaH a0_k) : qi4 a0_k a1_l (fun o0 o1 => o0 = (qaw 2 a1_l) ∧ o1 = (qaG a0_k 2 a1_l)) := by
 unfold qi4
 refine ⟨fun parts i => ∃ j : Nat, i = (j : Int) ∧ j ≤ a1_l.length ∧ parts = a1_l.take j, fun _ i => a1_l.length - i.toNat, ⟨0, rfl, by omega, rfl⟩, ?_⟩
 rintro parts i ⟨j, rfl, hj, rfl⟩ _ _
 have hp1 := hp.1
 refine ⟨fun hlt => ⟨⟨by omega, hlt⟩, by simp only [List.length_take, List.length_cons, List.length_nil]; omega, by omega, ⟨j + 1, by omega, by omega, (qbf hlt).symm⟩, by show a1_l.length - ((j : Int) + 1).toNat < a1_l.length - (j : Int).toNat; omega⟩, fun hge => ?_⟩
 have : j = a1_l.length := by omega
 subst this
 rw [List.take_length]
 have hr := qhB (l := a1_l) (fun x hx => (w_0.2 x hx).1)
 exact ⟨⟨by omega, hp.2⟩, fun _ => ⟨rfl, rfl⟩⟩
theorem qrY : (∀ a, qer.pre a → PM.wfP qer.pm a (fvc qpF 200 104 qer a (eqO qer a))) = (∀ a : qan × (List (List UInt8)) × Unit, ((a.2.1).length ≤ 1048576 ∧ qaH (a.1)) → (Ty.kd (.sl (.arr 32 .byte))).wf a.2.1 → qi4 a.1 a.2.1 (fun o0 o1 => o0 = (qaw 2 (a.2.1)) ∧ o1 = (qaG (a.1) 2 (a.2.1)))) := by kernel_rfl
theorem qpG : qer.valid Try.prog 104 := qau (X := qpF) (qaJ qal (fun b hb => by cases hb; exact qar) qas ⟨Of_k, trivial⟩) 200 (qrY.mpr fun a hp w_0 => @qrZ a.1 a.2.1 w_0 hp)
noncomputable def qly : Ctr := ⟨[.bk 146 true, .v (.sl (.arr 32 .byte))], [.v (.arr 32 .byte)], some (fun a => (fun (a0_k : qan) (a1_l : List (List UInt8)) => (a1_l.length ≤ 1048576 ∧ qah a0_k a1_l.length : Prop)) a.1 a.2.1), fun a => (fun (a0_k : qan) (a1_l : List (List UInt8)) => (((qaK a1_l), ()), ((qaT a0_k a1_l), ()))) a.1 a.2.1⟩
noncomputable def qe8 (nn : Nat) : Ctr := ⟨[.bk 146 true, .v (.sl (.arr 32 .byte))], [.v (.arr 32 .byte)], some (fun a => (fun (a0_k : qan) (a1_l : List (List UInt8)) => ((a1_l.length ≤ 1048576 ∧ qah a0_k a1_l.length) ∧ a1_l.length < nn : Prop)) a.1 a.2.1), fun a => (fun (a0_k : qan) (a1_l : List (List UInt8)) => (((qaK a1_l), ()), ((qaT a0_k a1_l), ()))) a.1 a.2.1⟩
noncomputable def qsj (nn : Nat) : Fx := ⟨seat, some bkT, fns, [(58, qe8 nn), (104, qer), (105, qfQ)], [], [], [(8, [0, 1], [.o 0 3, .o 1 3, .o 2 2, .o 3 2, .o 4 2, .o 5 2, .o 6 1, .o 7 1, .o 8 1, .o 9 1])]⟩
def qko (nn : Nat) (a0_k : qan) (a1_l : List (List UInt8)) (Q : (List UInt8) → qan → Prop) : Prop :=
 ((a1_l.length : Int) = (0 : Int) → (([] : List (List UInt8)).length ≤ (1048576 : Nat) ∧ qaH a0_k) ∧ ((Ty.arr (32 : Nat) Ty.byte).kd.wf (qaw (2 : Int) ([] : List (List UInt8))) → Q (qaw (2 : Int) ([] : List (List UInt8))) (qaG a0_k (2 : Int) ([] : List (List UInt8))))) ∧ (¬(a1_l.length : Int) = (0 : Int) → ((a1_l.length : Int) = (1 : Int) → ((0 : Int) ≤ (0 : Int) ∧ (0 : Int) < (a1_l.length : Int)) ∧ Q (ix a1_l (0 : Int)) a0_k) ∧ (¬(a1_l.length : Int) = (1 : Int) → (Ty.int IntKind.i64).kd.wf (half (a1_l.length : Int).toNat : Int) → ((0 : Int) ≤ (half (a1_l.length : Int).toNat : Int) ∧ (half (a1_l.length : Int).toNat : Int) ≤ (a1_l.length : Int)) ∧ (((List.take (half (a1_l.length : Int).toNat : Int).toNat a1_l).length ≤ (1048576 : Nat) ∧ qah a0_k (List.take (half (a1_l.length : Int).toNat : Int).toNat a1_l).length) ∧ (List.take (half (a1_l.length : Int).toNat : Int).toNat a1_l).length < nn) ∧ ((Ty.arr (32 : Nat) Ty.byte).kd.wf (qaK (List.take (half (a1_l.length : Int).toNat : Int).toNat a1_l)) → ((0 : Int) ≤ (half (a1_l.length : Int).toNat : Int) ∧ (half (a1_l.length : Int).toNat : Int) ≤ (a1_l.length : Int)) ∧ (((List.drop (half (a1_l.length : Int).toNat : Int).toNat a1_l).length ≤ (1048576 : Nat) ∧ qah (qaT a0_k (List.take (half (a1_l.length : Int).toNat : Int).toNat a1_l)) (List.drop (half (a1_l.length : Int).toNat : Int).toNat a1_l).length) ∧ (List.drop (half (a1_l.length : Int).toNat : Int).toNat a1_l).length < nn) ∧ ((Ty.arr (32 : Nat) Ty.byte).kd.wf (qaK (List.drop (half (a1_l.length : Int).toNat : Int).toNat a1_l)) → ((qaK (List.take (half (a1_l.length : Int).toNat : Int).toNat a1_l) :: qaK (List.drop (half (a1_l.length : Int).toNat : Int).toNat a1_l) :: ([] : List (List UInt8))).length ≤ (1048576 : Nat) ∧ qaH (qaT (qaT a0_k (List.take (half (a1_l.length : Int).toNat : Int).toNat a1_l)) (List.drop (half (a1_l.length : Int).toNat : Int).toNat a1_l))) ∧ ((Ty.arr (32 : Nat) Ty.byte).kd.wf (qaw (2 : Int) (qaK (List.take (half (a1_l.length : Int).toNat : Int).toNat a1_l) :: qaK (List.drop (half (a1_l.length : Int).toNat : Int).toNat a1_l) :: ([] : List (List UInt8)))) → Q (qaw (2 : Int) (qaK (List.take (half (a1_l.length : Int).toNat : Int).toNat a1_l) :: qaK (List.drop (half (a1_l.length : Int).toNat : Int).toNat a1_l) :: ([] : List (List UInt8)))) (qaG (qaT (qaT a0_k (List.take (half (a1_l.length : Int).toNat : Int).toNat a1_l)) (List.drop (half (a1_l.length : Int).toNat : Int).toNat a1_l)) (2 : Int) (qaK (List.take (half (a1_l.length : Int).toNat : Int).toNat a1_l) :: qaK (List.drop (half (a1_l.length : Int).toNat : Int).toNat a1_l) :: ([] : List (List UInt8)))))))))
theorem qtx {nn : Nat} {a0_k : qan} {a1_l : List (List UInt8)} (w_0 : (Ty.kd (.sl (.arr 32 .byte))).wf a1_l) (hp : (a1_l.length ≤ 1048576 ∧ qah a0_k a1_l.length) ∧ a1_l.length < nn + 1) : qko nn a0_k a1_l (fun o0 o1 => o0 = (qaK a1_l) ∧ o1 = (qaT a0_k a1_l)) := by
 unfold qko
 simp only [Int.toNat_natCast]
 refine ⟨fun h => ⟨⟨by simp, hp.1.2.room⟩, fun _ => ?_⟩, fun h => ⟨fun h1 => ⟨⟨by omega, by omega⟩, ?_⟩, fun h1 _ => ?_⟩⟩
 ·have e : a1_l = [] := List.length_eq_zero_iff.1 (by omega)
  subst e
  rw [qjU, qbz]
  exact ⟨rfl, rfl⟩
 ·obtain ⟨x, rfl⟩ := List.length_eq_one_iff.1 (by omega : a1_l.length = 1)
  rw [qg4, qcb]
  exact ⟨rfl, rfl⟩
 ·have b2 : 2 ≤ a1_l.length := by omega
  have a1 := qa3 b2
  have a2 := qbo b2
  have hp1 := hp.1.1
  have hp2 := hp.2
  have l1 : (a1_l.take (half a1_l.length)).length = half a1_l.length := by rw [List.length_take]; omega
  have l2 : (a1_l.drop (half a1_l.length)).length = a1_l.length - half a1_l.length := List.length_drop
  have u1 : qah a0_k (a1_l.take (half a1_l.length)).length := hp.1.2.le (by omega)
  have u2 : qah (qaT a0_k (a1_l.take (half a1_l.length))) (a1_l.drop (half a1_l.length)).length := qah.root _ (Nat.le_refl _) (by omega) (hp.1.2.le (by omega))
  have u3 := (qah.root (n := 0) (l := a1_l.drop (half a1_l.length)) _ (Nat.le_refl _) (by omega) (u2.le (by omega))).room
  refine ⟨⟨by omega, by omega⟩, ⟨⟨by omega, u1⟩, by omega⟩, fun _ => ⟨⟨by omega, by omega⟩, ⟨⟨by omega, u2⟩, by omega⟩, fun _ => ⟨⟨by simp, u3⟩, fun _ => ?_⟩⟩⟩
  rw [qeN b2, qcc _ b2]
  exact ⟨rfl, rfl⟩
theorem qtw (nn : Nat) : (∀ a, (qe8 (nn + 1)).pre a → PM.wfP (qe8 (nn + 1)).pm a (fvc (qsj nn) 200 58 (qe8 (nn + 1)) a (eqO (qe8 (nn + 1)) a))) = (∀ a : qan × (List (List UInt8)) × Unit, (((a.2.1).length ≤ 1048576 ∧ qah (a.1) (a.2.1).length) ∧ (a.2.1).length < nn + 1) → (Ty.kd (.sl (.arr 32 .byte))).wf a.2.1 → qko nn a.1 a.2.1 (fun o0 o1 => o0 = (qaK (a.2.1)) ∧ o1 = (qaT (a.1) (a.2.1)))) := by kernel_rfl
theorem qnV : ∀ nn, (qe8 nn).valid Try.prog 58
 | 0 => fun a hp => absurd (And.right hp) (Nat.not_lt_zero _)
 | nn + 1 => qau (X := qsj nn) (qaJ qal (fun b hb => by cases hb; exact qar) qas ⟨qnV nn, qpG, qnw, trivial⟩) 200 ((qtw nn).mpr fun a hp w_0 => @qtx nn a.1 a.2.1 w_0 hp)
theorem qlz : qly.valid Try.prog 58 := qpY qnV (fun a hp => ⟨_, And.intro hp (Nat.lt_succ_self _)⟩)
noncomputable def qie : Ctr := ⟨[.nil, .v (.sl (.arr 32 .byte))], [.v (.arr 32 .byte)], some (fun a => (fun (a1_l : List (List UInt8)) => (a1_l.length ≤ 1048576 : Prop)) a.2.1), fun a => (fun (a1_l : List (List UInt8)) => (((qaK a1_l), ()), (()))) a.2.1⟩
theorem qkn : qie.valid Try.prog 58 :=
 qwk qlz (fun _ => rfl) (fun a θ θ' n n' K vs h => by
  obtain ⟨v0, vs, rfl, h0, h⟩ := h
  exact ⟨v0, _, rfl, SVal.of_rel (t := .sl (.arr 32 .byte)) (qdk (t := .sl (.arr 32 .byte)) h0 rfl), h⟩) (fun _ => rfl) (fun a hp => ⟨hp, fun y h => by cases h⟩) (fun a _ => rfl)
noncomputable def qdG : Ctr := ⟨[.v (.int .i64), .v (.int .i64)], [.v .bool], none, fun a => (fun (a0_n : Int) (a1_at : Int) => ((decide (0 ≤ a1_at ∧ a1_at < a0_n), ()), (()))) a.1 a.2.1⟩
noncomputable def qpA : Fx := ⟨seat, some bkT, fns, [], [], [], []⟩
def qi3 (a0_n : Int) (a1_at : Int) (Q : Bool → Prop) : Prop :=
 ((0 : Int) ≤ a1_at → Q (decide (a1_at < a0_n))) ∧ (¬(0 : Int) ≤ a1_at → Q false)
theorem qrU {a0_n : Int} {a1_at : Int} (w_0 : (Ty.kd (.int .i64)).wf a0_n) (w_1 : (Ty.kd (.int .i64)).wf a1_at) : qi3 a0_n a1_at (fun o0 => o0 = decide (0 ≤ a1_at ∧ a1_at < a0_n)) := by
 unfold qi3
 exact ⟨fun h => by simp [h], fun h => by simp [h]⟩
theorem qrT : (∀ a, qdG.pre a → PM.wfP qdG.pm a (fvc qpA 200 115 qdG a (eqO qdG a))) = (∀ a : Int × Int × Unit, True → (Ty.kd (.int .i64)).wf a.1 → (Ty.kd (.int .i64)).wf a.2.1 → qi3 a.1 a.2.1 (fun o0 => o0 = decide (0 ≤ (a.2.1) ∧ (a.2.1) < (a.1)))) := by kernel_rfl
theorem qla : qdG.valid Try.prog 115 := qau (X := qpA) (qaJ qal (fun b hb => by cases hb; exact qar) qas trivial) 200 (qrT.mpr fun a hp w_0 w_1 => @qrU a.1 a.2.1 w_0 w_1)
noncomputable def qdC : ICtr := ⟨fun xs => match xs with
 | [a0_n, a1_at] => (0 ≤ a1_at ∧ a1_at < a0_n : Prop)
 | _ => False, fun xs => match xs with
 | [a0_n, a1_at] => (qaI a0_n.toNat a1_at.toNat : List Int)
 | _ => []⟩
noncomputable def qpy : Fx := ⟨seat, some bkT, fns, [(105, qfQ)], [], [], [(7, [0], [.o 0 2, .o 1 2, .o 2 2, .o 3 3, .o 4 3, .o 5 3, .o 6 1, .z 7])]⟩
def qi1 (a0_n : Int) (a1_at : Int) : Prop :=
 ∃ (x0 : Nat → List Int → Prop), ∃ (x1 : List Int → Nat), x0 (0 : Nat) (a0_n :: a1_at :: ([] : List Int)) ∧ ∀ (x2 x3 : Nat) (x4 : Int), (Kd.int IntKind.i64).wf x4 → ∀ (x6 : Int), (Kd.int IntKind.i64).wf x6 → x0 x3 (x4 :: x6 :: ([] : List Int)) → ((1 : Int) < x4 → (Ty.int IntKind.i64).kd.wf (half x4.toNat : Int) → ((half x4.toNat : Int) ≤ x6 → (x2 = x2 ∧ (qaI a0_n.toNat a1_at.toNat)[x3]? = some (1 : Int)) ∧ x2 = x2 ∧ x0 (x3 + (1 : Nat)) (IntKind.i64.wrap (x4 - (half x4.toNat : Int)) :: IntKind.i64.wrap (x6 - (half x4.toNat : Int)) :: ([] : List Int)) ∧ x1 (IntKind.i64.wrap (x4 - (half x4.toNat : Int)) :: IntKind.i64.wrap (x6 - (half x4.toNat : Int)) :: ([] : List Int)) < x1 (x4 :: x6 :: ([] : List Int))) ∧ (¬(half x4.toNat : Int) ≤ x6 → (x2 = x2 ∧ (qaI a0_n.toNat a1_at.toNat)[x3]? = some (0 : Int)) ∧ x2 = x2 ∧ x0 (x3 + (1 : Nat)) ((half x4.toNat : Int) :: x6 :: ([] : List Int)) ∧ x1 ((half x4.toNat : Int) :: x6 :: ([] : List Int)) < x1 (x4 :: x6 :: ([] : List Int)))) ∧ (¬(1 : Int) < x4 → x3 = (qaI a0_n.toNat a1_at.toNat).length)
theorem qmo {a0_n : Int} {a1_at : Int} (hp : 0 ≤ a1_at ∧ a1_at < a0_n) : (∀ x ∈ (qaI a0_n.toNat a1_at.toNat : List Int), (Kd.int .i64).wf x) ∧ qi1 a0_n a1_at := by
 refine ⟨fun x hx => ?_, ?_⟩
 ·rcases qfF _ (Nat.le_refl _) x hx with rfl | rfl <;> exact wf64 (by omega) (by omega)
 unfold qi1
 refine ⟨fun j ys => (∀ y ∈ ys, (Kd.int .i64).wf y) → sdI a0_n (qaI a0_n.toNat a1_at.toNat) j (ys.getD 0 0) (ys.getD 1 0), fun ys => (ys.getD 0 0).toNat, fun _ => ⟨hp.1, hp.2, Int.le_refl _, Nat.zero_le _, rfl⟩, ?_⟩
 intro x2 j n hn a ha hI
 have hI : sdI a0_n (qaI a0_n.toNat a1_at.toNat) j n a := hI (by
  intro y hy
  rcases List.mem_cons.1 hy with rfl | hy
  ·exact hn
  rcases List.mem_cons.1 hy with rfl | hy
  ·exact ha
  ·cases hy)
 have hn1 := hn.1
 have hn2 := hn.2
 have ha1 := ha.1
 have ha2 := ha.2
 refine ⟨fun hlt _ => ?_, fun hge => quA hI hge⟩
 obtain ⟨b1, b2, b3, b4, b5⟩ := qrM hI hlt
 have c1 := hI.1
 have c2 := hI.2.1
 refine ⟨fun hle => ?_, fun hgt => ?_⟩
 ·obtain ⟨d1, d2⟩ := b4 hle
  have e1 : IntKind.i64.wrap (n - ((half n.toNat : Nat) : Int)) = n - ((half n.toNat : Nat) : Int) := qam (wf64 (by have : (IntKind.i64.min : Int) = -9223372036854775808 := rfl; omega) (by have : (IntKind.i64.max : Int) = 9223372036854775807 := rfl; omega))
  have e2 : IntKind.i64.wrap (a - ((half n.toNat : Nat) : Int)) = a - ((half n.toNat : Nat) : Int) := qam (wf64 (by omega) (by have : (IntKind.i64.max : Int) = 9223372036854775807 := rfl; omega))
  rw [e1, e2]
  refine ⟨⟨rfl, d1⟩, ?_⟩
  have g : x2 = x2 ∧ ((∀ y ∈ ([n - ((half n.toNat : Nat) : Int), a - ((half n.toNat : Nat) : Int)] : List Int), (Kd.int .i64).wf y) → sdI a0_n (qaI a0_n.toNat a1_at.toNat) (j + 1) (n - ((half n.toNat : Nat) : Int)) (a - ((half n.toNat : Nat) : Int))) ∧ (n - ((half n.toNat : Nat) : Int)).toNat < n.toNat := ⟨rfl, fun _ => d2, by omega⟩
  exact g
 ·obtain ⟨d1, d2⟩ := b5 hgt
  exact ⟨⟨rfl, d1⟩, rfl, fun _ => d2, by show ((half n.toNat : Nat) : Int).toNat < n.toNat; omega⟩
theorem qrO (a0_n : Int) (a1_at : Int) : (itVC qpy 200 131 qdC [a0_n, a1_at]) = qi1 a0_n a1_at := by kernel_rfl
theorem qk7 : qdC.valid Try.prog 131 := quf (X := qpy) (fuel := 200) (qaJ qal (fun b hb => by cases hb; exact qar) qas ⟨qnw, trivial⟩) fun xs hp => match xs, hp with
 | [a0_n, a1_at], hp => ⟨(qmo hp).1, (qrO a0_n a1_at).mpr (qmo hp).2⟩
 | [], hp => hp.elim
 | [_], hp => hp.elim
 | _ :: _ :: _ :: _, hp => hp.elim
noncomputable def qeU : Ctr := ⟨[.v (.int .i64), .v (.int .i64)], [.v (.int .i64)], none, fun a => (fun (a0_n : Int) (a1_at : Int) => (((qcT a0_n a1_at), ()), (()))) a.1 a.2.1⟩
noncomputable def qno : Fx := ⟨seat, some bkT, fns, [(115, qdG)], [117, 118, 130], [(3, [3], [])], []⟩
def qh1 (a0_n : Int) (a1_at : Int) (Q : Int → Prop) : Prop :=
 (¬decide ((0 : Int) ≤ a1_at ∧ a1_at < a0_n) = true → Q (0 : Int)) ∧ (decide ((0 : Int) ≤ a1_at ∧ a1_at < a0_n) = true → ((0 : Int) ≤ a1_at ∧ a1_at < a0_n) ∧ ∃ (x0 : Nat → List Int → Unit → Prop), x0 (0 : Nat) ([] : List Int) (Ty.hsl (3 : Nat) (Ty.int IntKind.i64)).kd.z ∧ (∀ (x1 : Nat) (x2 : Int), (qaI a0_n.toNat a1_at.toNat)[x1]? = some x2 → (Kd.int IntKind.i64).wf x2 → ∀ (x5 : List Int) (x6 : Unit), x0 x1 x5 x6 → (Ty.int IntKind.i64).kd.sl.wf x5 → (x5.length + (x2 :: ([] : List Int)).length) * (8 : Nat) ≤ (140737488355328 : Nat) ∧ x0 (x1 + (1 : Nat)) (x5 ++ x2 :: ([] : List Int)) x6) ∧ ∀ (x1 : List Int) (x2 : Unit), x0 (qaI a0_n.toNat a1_at.toNat).length x1 x2 → (Ty.int IntKind.i64).kd.sl.wf x1 → Q (x1.length : Int))
theorem qp7 {a0_n : Int} {a1_at : Int} (w_0 : (Ty.kd (.int .i64)).wf a0_n) (w_1 : (Ty.kd (.int .i64)).wf a1_at) : qh1 a0_n a1_at (fun o0 => o0 = (qcT a0_n a1_at)) := by
 have hn1 : a0_n ≤ 9223372036854775807 := w_0.2
 unfold qh1
 refine ⟨fun h => ?_, fun h => ?_⟩
 ·have h' : ¬ ((0 : Int) ≤ a1_at ∧ a1_at < a0_n) := fun hh => h (decide_eq_true hh)
  show (0 : Int) = qcT a0_n a1_at
  rw [qcT, if_neg h']
 ·have h' := of_decide_eq_true h
  refine ⟨h', fun j l _ => l = (qaI a0_n.toNat a1_at.toNat).take j, rfl, ?_, ?_⟩
  ·rintro j x hx _ l u rfl hw
   have hj := (List.getElem?_eq_some_iff.1 hx).1
   have hlen := qcd 63 (n := a0_n.toNat) (a := a1_at.toNat) (by omega)
   refine ⟨by rw [List.length_take]; simp only [List.length_cons, List.length_nil]; omega, ?_⟩
   show List.take j _ ++ [x] = List.take (j + 1) _
   rw [List.take_add_one, hx]
   rfl
  ·rintro l u rfl _
   show ((List.take _ (qaI a0_n.toNat a1_at.toNat)).length : Int) = qcT a0_n a1_at
   rw [List.take_length, qcT, if_pos h']
theorem qp6 : (∀ a, qeU.pre a → PM.wfP qeU.pm a (fvcR qno [(131, qdC)] 200 116 qeU a (eqO qeU a))) = (∀ a : Int × Int × Unit, True → (Ty.kd (.int .i64)).wf a.1 → (Ty.kd (.int .i64)).wf a.2.1 → qh1 a.1 a.2.1 (fun o0 => o0 = (qcT (a.1) (a.2.1)))) := by kernel_rfl
theorem qsX : qeU.valid Try.prog 116 := qkD (X := qno) (qaJ qal (fun b hb => by cases hb; exact qar) qas ⟨qla, trivial⟩) (its := [(131, qdC)]) ⟨qk7, trivial⟩ 200 (qp6.mpr fun a hp w_0 w_1 => @qp7 a.1 a.2.1 w_0 w_1)
noncomputable def qe6 : Ctr := ⟨[.rw 24 (.arr 32 .byte) true], [], none, fun a => (fun (a0_s : List (List UInt8)) => ((()), (a0_s.reverse, ()))) a.1⟩
noncomputable def qnT : Fx := ⟨seat, some bkT, fns, [], [], [(1, [0], [])], [(3, [0], [.o 0 2, .o 1 2, .o 2 3, .o 3 3, .o 4 2, .o 5 2, .o 6 2, .o 7 2, .o 8 2, .o 9 2, .o 10 2, .o 11 2, .o 12 2, .o 13 1, .o 14 3, .o 15 1])]⟩
def qid (a0_s : List (List UInt8)) (Q : (List (List UInt8)) → Prop) : Prop :=
 ∃ (x0 : Int → Int → List (List UInt8) → Prop), ∃ (x1 : Int → Int → List (List UInt8) → Nat), x0 (0 : Int) (IntKind.i64.wrap ((a0_s.length : Int) - (1 : Int))) a0_s ∧ ∀ (x2 x3 : Int) (x4 : List (List UInt8)), x0 x2 x3 x4 → (Kd.int IntKind.i64).wf x2 → (Kd.int IntKind.i64).wf x3 → (Ty.arr (32 : Nat) Ty.byte).kd.sl.wf x4 → (x2 < x3 → ((0 : Int) ≤ x3 ∧ x3 < (x4.length : Int)) ∧ ((0 : Int) ≤ x2 ∧ x2 < (x4.length : Int)) ∧ ((0 : Int) ≤ x2 ∧ x2 < (x4.length : Int)) ∧ ((0 : Int) ≤ x3 ∧ x3 < ((x4.set x2.toNat (ix x4 x3)).length : Int)) ∧ x2 < (9223372036854775807 : Int) ∧ x0 (x2 + (1 : Int)) (IntKind.i64.wrap (x3 - (1 : Int))) ((x4.set x2.toNat (ix x4 x3)).set x3.toNat (ix x4 x2)) ∧ x1 (x2 + (1 : Int)) (IntKind.i64.wrap (x3 - (1 : Int))) ((x4.set x2.toNat (ix x4 x3)).set x3.toNat (ix x4 x2)) < x1 x2 x3 x4) ∧ (¬x2 < x3 → Q x4)
theorem qqA {a0_s : List (List UInt8)} (w_0 : (Ty.kd (.sl (.arr 32 .byte))).wf a0_s) : qid a0_s (fun o0 => o0 = a0_s.reverse) := by
 have hL : a0_s.length ≤ LM := w_0.1
 unfold LM at hL
 unfold qid
 refine ⟨fun i j x => ∃ k : Nat, i = (k : Int) ∧ j = (a0_s.length : Int) - 1 - (k : Int) ∧ 2 * k ≤ a0_s.length + 1 ∧ x.length = a0_s.length ∧ ∀ t, t < a0_s.length → x[t]? = if t < k ∨ a0_s.length ≤ t + k then a0_s[a0_s.length - 1 - t]? else a0_s[t]?, fun i j _ => (j - i + 1).toNat,
  ⟨0, rfl, by rw [qam (wf64 (by omega) (by omega))]; omega, by omega, rfl, fun t ht => by rw [if_neg (by omega)]⟩, ?_⟩
 rintro i j x ⟨k, rfl, rfl, hk, hl, hx⟩ _ _ _
 refine ⟨fun hlt => ?_, fun hge => ?_⟩
 ·have hk1 : k < a0_s.length - 1 - k := by omega
  have ej : (a0_s.length : Int) - 1 - (k : Int) = ((a0_s.length - 1 - k : Nat) : Int) := by omega
  have ew : IntKind.i64.wrap ((a0_s.length : Int) - 1 - (k : Int) - 1) = (a0_s.length : Int) - 1 - ((k + 1 : Nat) : Int) := by
   rw [qam (wf64 (by omega) (by omega))]
   omega
  rw [ew, ej]
  simp only [Int.toNat_natCast]
  have hxk := hx k (by omega)
  rw [if_neg (by omega)] at hxk
  have hxj := hx (a0_s.length - 1 - k) (by omega)
  rw [if_neg (by omega)] at hxj
  have i0 : some (ix x (k : Int)) = a0_s[k]? := by rw [ixN (by omega), ← List.getElem?_eq_getElem, hxk]
  have i1 : some (ix x ((a0_s.length - 1 - k : Nat) : Int)) = a0_s[a0_s.length - 1 - k]? := by rw [ixN (by omega), ← List.getElem?_eq_getElem, hxj]
  refine ⟨⟨by omega, by omega⟩, ⟨by omega, by omega⟩, ⟨by omega, by omega⟩, ⟨by omega, by rw [List.length_set]; omega⟩, by omega, ⟨k + 1, by omega, rfl, by omega, by rw [List.length_set, List.length_set, hl], fun t ht => ?_⟩, ?_⟩
  ·by_cases t1 : a0_s.length - 1 - k = t
   ·subst t1
    rw [List.getElem?_set_self (by rw [List.length_set]; omega), i0, if_pos (by omega)]
    congr 1
    omega
   ·rw [List.getElem?_set_ne t1]
    by_cases t2 : k = t
    ·subst t2
     rw [List.getElem?_set_self (by omega), i1, if_pos (by omega)]
    ·rw [List.getElem?_set_ne t2, hx t ht]
     have : (t < k ∨ a0_s.length ≤ t + k) ↔ (t < k + 1 ∨ a0_s.length ≤ t + (k + 1)) := by omega
     simp only [this]
  ·show ((a0_s.length : Int) - 1 - ((k + 1 : Nat) : Int) - ((k : Int) + 1) + 1).toNat < (((a0_s.length - 1 - k : Nat) : Int) - (k : Int) + 1).toNat
   omega
 ·show x = a0_s.reverse
  apply List.ext_getElem?
  intro t
  rcases Nat.lt_or_ge t a0_s.length with ht | ht
  ·rw [hx t ht, List.getElem?_reverse ht]
   split
   ·rfl
   ·have : t = a0_s.length - 1 - t := by omega
    exact congrArg (fun q => a0_s[q]?) this
  ·rw [List.getElem?_eq_none (by omega), List.getElem?_eq_none (by rw [List.length_reverse]; omega)]
theorem qqz : (∀ a, qe6.pre a → PM.wfP qe6.pm a (fvc qnT 200 119 qe6 a (eqO qe6 a))) = (∀ a : (List (List UInt8)) × Unit, True → (Ty.kd (.sl (.arr 32 .byte))).wf a.1 → qid a.1 (fun o0 => o0 = (a.1).reverse)) := by kernel_rfl
theorem qtv : qe6.valid Try.prog 119 := qau (X := qnT) (qaJ qal (fun b hb => by cases hb; exact qar) qas trivial) 200 (qqz.mpr fun a hp w_0 => @qqA a.1 w_0)
noncomputable def qeZ : Ctr := ⟨[.nil, .v (.sl (.arr 32 .byte)), .v (.int .i64)], [.rw 24 (.arr 32 .byte)], some (fun a => (fun (a1_l : List (List UInt8)) (a2_at : Int) => (a1_l.length ≤ 1048576 : Prop)) a.2.1 a.2.2.1), fun a => (fun (a1_l : List (List UInt8)) (a2_at : Int) => (((qbJ a1_l a2_at), ()), (()))) a.2.1 a.2.2.1⟩
noncomputable def qnC : Fx := ⟨{ seat with rws := [24] }, some bkT, fns, [(115, qdG), (105, qfQ), (58, qie), (58, qly), (119, qe6)], [118], [(6, [2, 4], [])], [(8, [4, 7], [.o 0 2, .o 1 2, .o 2 2, .o 3 2, .o 4 2, .o 8 3, .o 9 3, .o 10 3, .o 5 0, .o 6 0, .o 7 1, .o 11 1, .z 12]), (9, [4, 7], [.o 0 2, .o 1 2, .o 2 2, .o 3 2, .o 4 2, .o 8 3, .o 9 3, .o 10 3, .o 5 0, .o 6 0, .o 7 1, .o 11 1, .z 12])]⟩
def qh7 (a1_l : List (List UInt8)) (a2_at : Int) (Q : (List (List UInt8)) → Prop) : Prop :=
 (¬decide ((0 : Int) ≤ a2_at ∧ a2_at < (a1_l.length : Int)) = true → Q ([] : List (List UInt8))) ∧ (decide ((0 : Int) ≤ a2_at ∧ a2_at < (a1_l.length : Int)) = true → ((0 : Int) ≤ a2_at ∧ a2_at < (a1_l.length : Int)) ∧ ∃ (x0 : Nat → List (List UInt8) → List (List UInt8) → Unit → Prop), x0 (0 : Nat) a1_l ([] : List (List UInt8)) (Ty.hsl (24 : Nat) (Ty.arr (32 : Nat) Ty.byte)).kd.z ∧ (∀ (x1 : Nat) (x2 : Int), (qaI (a1_l.length : Int).toNat a2_at.toNat)[x1]? = some x2 → (Kd.int IntKind.i64).wf x2 → ∀ (x5 x6 : List (List UInt8)) (x7 : Unit), x0 x1 x5 x6 x7 → (Ty.arr (32 : Nat) Ty.byte).sl.kd.wf x5 → (Ty.arr (32 : Nat) Ty.byte).kd.sl.wf x6 → (Ty.int IntKind.i64).kd.wf (half (x5.length : Int).toNat : Int) → (x2 = (0 : Int) → ((0 : Int) ≤ (half (x5.length : Int).toNat : Int) ∧ (half (x5.length : Int).toNat : Int) ≤ (x5.length : Int)) ∧ ((0 : Int) ≤ (half (x5.length : Int).toNat : Int) ∧ (half (x5.length : Int).toNat : Int) ≤ (x5.length : Int)) ∧ (List.drop (half (x5.length : Int).toNat : Int).toNat x5).length ≤ (1048576 : Nat) ∧ ((Ty.arr (32 : Nat) Ty.byte).kd.wf (qaK (List.drop (half (x5.length : Int).toNat : Int).toNat x5)) → (x6.length + (qaK (List.drop (half (x5.length : Int).toNat : Int).toNat x5) :: ([] : List (List UInt8))).length) * (32 : Nat) ≤ (140737488355328 : Nat) ∧ x0 (x1 + (1 : Nat)) (List.take (half (x5.length : Int).toNat : Int).toNat x5) (x6 ++ qaK (List.drop (half (x5.length : Int).toNat : Int).toNat x5) :: ([] : List (List UInt8))) x7)) ∧ (¬x2 = (0 : Int) → ((0 : Int) ≤ (half (x5.length : Int).toNat : Int) ∧ (half (x5.length : Int).toNat : Int) ≤ (x5.length : Int)) ∧ ((0 : Int) ≤ (half (x5.length : Int).toNat : Int) ∧ (half (x5.length : Int).toNat : Int) ≤ (x5.length : Int)) ∧ (List.take (half (x5.length : Int).toNat : Int).toNat x5).length ≤ (1048576 : Nat) ∧ ((Ty.arr (32 : Nat) Ty.byte).kd.wf (qaK (List.take (half (x5.length : Int).toNat : Int).toNat x5)) → (x6.length + (qaK (List.take (half (x5.length : Int).toNat : Int).toNat x5) :: ([] : List (List UInt8))).length) * (32 : Nat) ≤ (140737488355328 : Nat) ∧ x0 (x1 + (1 : Nat)) (List.drop (half (x5.length : Int).toNat : Int).toNat x5) (x6 ++ qaK (List.take (half (x5.length : Int).toNat : Int).toNat x5) :: ([] : List (List UInt8))) x7))) ∧ ∀ (x1 x2 : List (List UInt8)) (x3 : Unit), x0 (qaI (a1_l.length : Int).toNat a2_at.toNat).length x1 x2 x3 → (Ty.arr (32 : Nat) Ty.byte).sl.kd.wf x1 → (Ty.arr (32 : Nat) Ty.byte).kd.sl.wf x2 → Q x2.reverse)
theorem qqk {a1_l : List (List UInt8)} {a2_at : Int} (w_0 : (Ty.kd (.sl (.arr 32 .byte))).wf a1_l) (w_1 : (Ty.kd (.int .i64)).wf a2_at) (hp : a1_l.length ≤ 1048576) : qh7 a1_l a2_at (fun o0 => o0 = (qbJ a1_l a2_at)) := by
 unfold qh7
 simp only [Int.toNat_natCast]
 refine ⟨fun h => ?_, fun h => ⟨of_decide_eq_true h, ?_⟩⟩
 ·have h' : ¬ ((0 : Int) ≤ a2_at ∧ a2_at < (a1_l.length : Int)) := fun hh => h (decide_eq_true hh)
  show [] = qbJ a1_l a2_at
  rw [qbJ, if_neg h']
 have h' := of_decide_eq_true h
 have hS := qcd 20 (n := a1_l.length) (a := a2_at.toNat) (by omega)
 have ht := qdo _ (l := a1_l) (a := a2_at.toNat) (Nat.le_refl _)
 generalize hL : qaI a1_l.length a2_at.toNat = L at hS ht ⊢
 refine ⟨fun j l out _ => ∃ a : Nat, a < l.length ∧ l.length ≤ a1_l.length ∧ out.length = j ∧ out ++ topL l a = topL a1_l a2_at.toNat ∧ L.drop j = qaI l.length a ∧ j ≤ L.length, ⟨a2_at.toNat, by omega, Nat.le_refl _, rfl, rfl, hL.symm, Nat.zero_le _⟩, ?_, ?_⟩
 ·rintro j x hx _ l out u ⟨a, h1, h2, h3, h4, h5, h6⟩ _ _ _
  obtain ⟨hj, hxe⟩ := List.getElem?_eq_some_iff.1 hx
  rw [List.drop_eq_getElem_cons hj, hxe] at h5
  have hl : 1 < l.length := by
   apply Classical.byContradiction
   intro hn
   rw [qbk hn] at h5
   cases h5
  have a1 := qa3 (n := l.length) (by omega)
  have a2 := qbo (n := l.length) (by omega)
  have l1 : (l.take (half l.length)).length = half l.length := by rw [List.length_take]; omega
  have l2 : (l.drop (half l.length)).length = l.length - half l.length := List.length_drop
  rcases Nat.lt_or_ge a (half l.length) with ha | ha
  ·rw [qbx hl ha] at h5
   obtain ⟨h7, h8⟩ := List.cons.inj h5
   rw [qha hl ha] at h4
   refine ⟨fun _ => ⟨⟨by omega, by omega⟩, ⟨by omega, by omega⟩, by omega, fun _ => ⟨by simp only [List.length_cons, List.length_nil]; omega, ⟨a, by omega, by omega, by simp [h3], by rw [← h4]; simp, by rw [l1]; exact h8, hj⟩⟩⟩, fun hn => absurd h7 hn⟩
  ·rw [qbe hl ha] at h5
   obtain ⟨h7, h8⟩ := List.cons.inj h5
   rw [qfK hl ha] at h4
   refine ⟨fun hn => absurd (h7.symm.trans hn) (by decide), fun _ => ⟨⟨by omega, by omega⟩, ⟨by omega, by omega⟩, by omega, fun _ => ⟨by simp only [List.length_cons, List.length_nil]; omega, ⟨a - half l.length, by omega, by omega, by simp [h3], by rw [← h4]; simp, by rw [l2]; exact h8, hj⟩⟩⟩⟩
 ·rintro l out u ⟨a, h1, h2, h3, h4, h5, h6⟩ _ _
  rw [List.drop_length] at h5
  rw [qgj (qhU h5.symm), List.append_nil] at h4
  show out.reverse = qbJ a1_l a2_at
  rw [qbJ, if_pos h', h4]
theorem qqj : (∀ a, qeZ.pre a → PM.wfP qeZ.pm a (fvcR qnC [(131, qdC)] 200 84 qeZ a (eqO qeZ a))) = (∀ a : Unit × (List (List UInt8)) × Int × Unit, ((a.2.1).length ≤ 1048576) → (Ty.kd (.sl (.arr 32 .byte))).wf a.2.1 → (Ty.kd (.int .i64)).wf a.2.2.1 → qh7 a.2.1 a.2.2.1 (fun o0 => o0 = (qbJ (a.2.1) (a.2.2.1)))) := by kernel_rfl
theorem qnD : qeZ.valid Try.prog 84 := qkD (X := qnC) (qaJ (qal.rows [24]) (fun b hb => by cases hb; exact qar) qas ⟨qla, qnw, qkn, qlz, qtv, trivial⟩) (its := [(131, qdC)]) ⟨qk7, trivial⟩ 200 (qqj.mpr fun a hp w_0 w_1 => @qqk a.2.1 a.2.2.1 w_0 w_1 hp)
noncomputable def qnB : Ctr := ⟨[.nil, .v (.sl (.arr 32 .byte)), .v (.int .i64)], [.ow 24 (.arr 32 .byte)], some (fun a => (fun (a1_l : List (List UInt8)) (a2_at : Int) => (a1_l.length ≤ 1048576 : Prop)) a.2.1 a.2.2.1), fun a => (fun (a1_l : List (List UInt8)) (a2_at : Int) => (((qbJ a1_l a2_at), ()), (()))) a.2.1 a.2.2.1⟩
theorem qtg : qnB.valid Try.prog 84 := qrE qnD
noncomputable def qhu : Ctr := ⟨[.bk 146 true, .v (.int .i64), .v (.int .i64), .v (.arr 32 .byte), .v (.sl (.arr 32 .byte))], [.v (.arr 32 .byte), .v (.int .i64)], some (fun a => (fun (a0_k : qan) (a1_n : Int) (a2_at : Int) (a3_leaf : List UInt8) (a4_path : List (List UInt8)) => (a4_path.length ≤ 1048576 ∧ qah a0_k a4_path.length : Prop)) a.1 a.2.1 a.2.2.1 a.2.2.2.1 a.2.2.2.2.1), fun a => (fun (a0_k : qan) (a1_n : Int) (a2_at : Int) (a3_leaf : List UInt8) (a4_path : List (List UInt8)) => (((qbA a1_n a2_at a3_leaf a4_path), (qhl a1_n a2_at a4_path), ()), ((leadK a0_k a1_n a2_at a3_leaf a4_path), ()))) a.1 a.2.1 a.2.2.1 a.2.2.2.1 a.2.2.2.2.1⟩
noncomputable def qsg : Fx := ⟨seat, some bkT, fns, [(115, qdG), (116, qeU), (104, qer)], [117, 118, 130], [(3, [6], []), (5, [0, 1], [])], []⟩
def qkg (a0_k : qan) (a1_n : Int) (a2_at : Int) (a3_leaf : List UInt8) (a4_path : List (List UInt8)) (Q : (List UInt8) → Int → qan → Prop) : Prop :=
 (¬decide ((0 : Int) ≤ a2_at ∧ a2_at < a1_n) = true → Q (List.replicate (32 : Nat) Ty.byte.kd.z) (10 : Int) a0_k) ∧ (decide ((0 : Int) ≤ a2_at ∧ a2_at < a1_n) = true → (Ty.int IntKind.i64).kd.wf (qcT a1_n a2_at) → ((a4_path.length : Int) ≠ qcT a1_n a2_at → Q (List.replicate (32 : Nat) Ty.byte.kd.z) (10 : Int) a0_k) ∧ (¬(a4_path.length : Int) ≠ qcT a1_n a2_at → ((0 : Int) ≤ a2_at ∧ a2_at < a1_n) ∧ ∃ (x0 : Nat → List Int → Unit → Prop), x0 (0 : Nat) ([] : List Int) (Ty.hsl (3 : Nat) (Ty.int IntKind.i64)).kd.z ∧ (∀ (x1 : Nat) (x2 : Int), (qaI a1_n.toNat a2_at.toNat)[x1]? = some x2 → (Kd.int IntKind.i64).wf x2 → ∀ (x5 : List Int) (x6 : Unit), x0 x1 x5 x6 → (Ty.int IntKind.i64).kd.sl.wf x5 → (x5.length + (x2 :: ([] : List Int)).length) * (8 : Nat) ≤ (140737488355328 : Nat) ∧ x0 (x1 + (1 : Nat)) (x5 ++ x2 :: ([] : List Int)) x6) ∧ ∀ (x1 : List Int) (x2 : Unit), x0 (qaI a1_n.toNat a2_at.toNat).length x1 x2 → (Ty.int IntKind.i64).kd.sl.wf x1 → ∃ (x5 : Int → qan → List UInt8 → Prop), ∃ (x6 : Int → qan → List UInt8 → Nat), x5 (0 : Int) a0_k a3_leaf ∧ ∀ (x7 : Int) (x8 : qan) (x9 : List UInt8), x5 x7 x8 x9 → (Kd.int IntKind.i64).wf x7 → (Ty.arr (32 : Nat) Ty.byte).kd.wf x9 → (x7 < (a4_path.length : Int) → ((0 : Int) ≤ x7 ∧ x7 < (a4_path.length : Int)) ∧ ((0 : Int) ≤ IntKind.i64.wrap (IntKind.i64.wrap ((x1.length : Int) - (1 : Int)) - x7) ∧ IntKind.i64.wrap (IntKind.i64.wrap ((x1.length : Int) - (1 : Int)) - x7) < (x1.length : Int)) ∧ (ix x1 (IntKind.i64.wrap (IntKind.i64.wrap ((x1.length : Int) - (1 : Int)) - x7)) = (0 : Int) → ((x9 :: ix a4_path x7 :: ([] : List (List UInt8))).length ≤ (1048576 : Nat) ∧ qaH x8) ∧ ((Ty.arr (32 : Nat) Ty.byte).kd.wf (qaw (2 : Int) (x9 :: ix a4_path x7 :: ([] : List (List UInt8)))) → x7 < (9223372036854775807 : Int) ∧ x5 (x7 + (1 : Int)) (qaG x8 (2 : Int) (x9 :: ix a4_path x7 :: ([] : List (List UInt8)))) (qaw (2 : Int) (x9 :: ix a4_path x7 :: ([] : List (List UInt8)))) ∧ x6 (x7 + (1 : Int)) (qaG x8 (2 : Int) (x9 :: ix a4_path x7 :: ([] : List (List UInt8)))) (qaw (2 : Int) (x9 :: ix a4_path x7 :: ([] : List (List UInt8)))) < x6 x7 x8 x9)) ∧ (¬ix x1 (IntKind.i64.wrap (IntKind.i64.wrap ((x1.length : Int) - (1 : Int)) - x7)) = (0 : Int) → ((ix a4_path x7 :: x9 :: ([] : List (List UInt8))).length ≤ (1048576 : Nat) ∧ qaH x8) ∧ ((Ty.arr (32 : Nat) Ty.byte).kd.wf (qaw (2 : Int) (ix a4_path x7 :: x9 :: ([] : List (List UInt8)))) → x7 < (9223372036854775807 : Int) ∧ x5 (x7 + (1 : Int)) (qaG x8 (2 : Int) (ix a4_path x7 :: x9 :: ([] : List (List UInt8)))) (qaw (2 : Int) (ix a4_path x7 :: x9 :: ([] : List (List UInt8)))) ∧ x6 (x7 + (1 : Int)) (qaG x8 (2 : Int) (ix a4_path x7 :: x9 :: ([] : List (List UInt8)))) (qaw (2 : Int) (ix a4_path x7 :: x9 :: ([] : List (List UInt8)))) < x6 x7 x8 x9))) ∧ (¬x7 < (a4_path.length : Int) → Q x9 (0 : Int) x8)))
theorem qtc {a0_k : qan} {a1_n : Int} {a2_at : Int} {a3_leaf : List UInt8} {a4_path : List (List UInt8)} (w_0 : (Ty.kd (.int .i64)).wf a1_n) (w_1 : (Ty.kd (.int .i64)).wf a2_at) (w_2 : (Ty.kd (.arr 32 .byte)).wf a3_leaf) (w_3 : (Ty.kd (.sl (.arr 32 .byte))).wf a4_path) (hp : a4_path.length ≤ 1048576 ∧ qah a0_k a4_path.length) : qkg a0_k a1_n a2_at a3_leaf a4_path (fun o0 o1 o2 => o0 = (qbA a1_n a2_at a3_leaf a4_path) ∧ o1 = (qhl a1_n a2_at a4_path) ∧ o2 = (leadK a0_k a1_n a2_at a3_leaf a4_path)) := by
 have hn1 : a1_n ≤ 9223372036854775807 := w_0.2
 have bad : qdr a1_n a2_at a4_path = false → List.replicate (32 : Nat) Ty.byte.kd.z = qbA a1_n a2_at a3_leaf a4_path ∧ (10 : Int) = qhl a1_n a2_at a4_path ∧ a0_k = leadK a0_k a1_n a2_at a3_leaf a4_path := fun h => by
  unfold qbA qhl leadK
  rw [h]
  exact ⟨rfl, rfl, rfl⟩
 unfold qkg
 refine ⟨fun h => bad (decide_eq_false fun hh => h (decide_eq_true hh.1)), fun h _ => ?_⟩
 have h' := of_decide_eq_true h
 have hd : qcT a1_n a2_at = ((qaI a1_n.toNat a2_at.toNat).length : Int) := by unfold qcT; rw [if_pos h']
 refine ⟨fun hne => bad (decide_eq_false fun hh => hne (by rw [hd, hh.2])), fun hlen => ?_⟩
 have hP : a4_path.length = (qaI a1_n.toNat a2_at.toNat).length := by
  have : (a4_path.length : Int) = qcT a1_n a2_at := Classical.byContradiction hlen
  omega
 have hb : qdr a1_n a2_at a4_path = true := decide_eq_true ⟨h', hP⟩
 have hS := qcd 63 (n := a1_n.toNat) (a := a2_at.toNat) (by omega)
 refine ⟨h', fun j l _ => l = (qaI a1_n.toNat a2_at.toNat).take j, rfl, ?_, ?_⟩
 ·rintro j x hx _ l u rfl hw
  have hj := (List.getElem?_eq_some_iff.1 hx).1
  refine ⟨by rw [List.length_take]; simp only [List.length_cons, List.length_nil]; omega, ?_⟩
  show List.take j _ ++ [x] = List.take (j + 1) _
  rw [List.take_add_one, hx]
  rfl
 ·rintro l u rfl _
  rw [List.take_length]
  unfold qbA qhl leadK
  rw [hb, if_pos rfl, if_pos rfl, if_pos rfl]
  generalize qaI a1_n.toNat a2_at.toNat = S at hP hS ⊢
  refine ⟨fun i x s => ∃ j : Nat, i = (j : Int) ∧ j ≤ a4_path.length ∧ qah x (a4_path.length - j) ∧ qhh (S.reverse.drop j) (a4_path.drop j) s = qhh S.reverse a4_path a3_leaf ∧ foldK (S.reverse.drop j) (a4_path.drop j) s x = foldK S.reverse a4_path a3_leaf a0_k, fun i _ _ => ((a4_path.length : Int) - i).toNat, ⟨0, rfl, Nat.zero_le _, hp.2, rfl, rfl⟩, ?_⟩
  rintro i x s ⟨j, rfl, hj, hu, e1, e2⟩ _ _
  refine ⟨fun hlt => ?_, fun hge => ?_⟩
  ·have hj1 : j < a4_path.length := by omega
   have hr : j < S.reverse.length := by rw [List.length_reverse]; omega
   have ew : IntKind.i64.wrap (IntKind.i64.wrap ((S.length : Int) - 1) - (j : Int)) = ((S.length - 1 - j : Nat) : Int) := by
    rw [qam (a := (S.length : Int) - 1) (wf64 (by omega) (by omega)), qam (wf64 (by omega) (by omega))]
    omega
   have ev : ix S ((S.length - 1 - j : Nat) : Int) = S.reverse[j] := by rw [ixN (by omega), List.getElem_reverse]
   rw [List.drop_eq_getElem_cons hr, List.drop_eq_getElem_cons hj1] at e1 e2
   rw [ew, ev, ixN hj1]
   simp only [qhh, foldK] at e1 e2
   have hu' : qah x ((a4_path.length - (j + 1)) + 1) := hu.le (by omega)
   refine ⟨⟨by omega, hlt⟩, ⟨by omega, by omega⟩, fun h0 => ?_, fun h0 => ?_⟩
   ·rw [if_pos h0] at e1 e2
    rw [if_pos h0] at e2
    exact ⟨⟨by simp, hu.room⟩, fun _ => ⟨by omega, ⟨j + 1, by omega, hj1, hu'.of _ _, e1, e2⟩, by show ((a4_path.length : Int) - ((j : Int) + 1)).toNat < ((a4_path.length : Int) - (j : Int)).toNat; omega⟩⟩
   ·rw [if_neg h0] at e1 e2
    rw [if_neg h0] at e2
    exact ⟨⟨by simp, hu.room⟩, fun _ => ⟨by omega, ⟨j + 1, by omega, hj1, hu'.of _ _, e1, e2⟩, by show ((a4_path.length : Int) - ((j : Int) + 1)).toNat < ((a4_path.length : Int) - (j : Int)).toNat; omega⟩⟩
  ·have hj1 : j = a4_path.length := by omega
   rw [hj1, List.drop_length] at e1 e2
   have er : S.reverse.drop a4_path.length = [] := List.drop_eq_nil_of_le (by rw [List.length_reverse]; omega)
   rw [er] at e1 e2
   exact ⟨e1, rfl, e2⟩
theorem qtb : (∀ a, qhu.pre a → PM.wfP qhu.pm a (fvcR qsg [(131, qdC)] 200 78 qhu a (eqO qhu a))) = (∀ a : qan × Int × Int × (List UInt8) × (List (List UInt8)) × Unit, ((a.2.2.2.2.1).length ≤ 1048576 ∧ qah (a.1) (a.2.2.2.2.1).length) → (Ty.kd (.int .i64)).wf a.2.1 → (Ty.kd (.int .i64)).wf a.2.2.1 → (Ty.kd (.arr 32 .byte)).wf a.2.2.2.1 → (Ty.kd (.sl (.arr 32 .byte))).wf a.2.2.2.2.1 → qkg a.1 a.2.1 a.2.2.1 a.2.2.2.1 a.2.2.2.2.1 (fun o0 o1 o2 => o0 = (qbA (a.2.1) (a.2.2.1) (a.2.2.2.1) (a.2.2.2.2.1)) ∧ o1 = (qhl (a.2.1) (a.2.2.1) (a.2.2.2.2.1)) ∧ o2 = (leadK (a.1) (a.2.1) (a.2.2.1) (a.2.2.2.1) (a.2.2.2.2.1)))) := by kernel_rfl
theorem qu6 : qhu.valid Try.prog 78 := qkD (X := qsg) (qaJ qal (fun b hb => by cases hb; exact qar) qas ⟨qla, qsX, qpG, trivial⟩) (its := [(131, qdC)]) ⟨qk7, trivial⟩ 200 (qtb.mpr fun a hp w_0 w_1 w_2 w_3 => @qtc a.1 a.2.1 a.2.2.1 a.2.2.2.1 a.2.2.2.2.1 w_0 w_1 w_2 w_3 hp)
end Go.Proofs.Ytmjjkpiglbpkhaa
