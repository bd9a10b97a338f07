/- G2, K3, S4, K4, G3, K5, S5, P18, P19, P20, P21, P22, P24, S6, P7. -/
import Derived.Test.YtmjjkpiglbpkhaaM4
import Derived.Test.YtmjjkpiglbpkhaaChecked
import Derived.Test.YtmjjkpiglbpkhaaRows
import Derived.WalkKit
import Derived.ProofKit
import Derived.OpenShut
import Derived.JoinedCond
import Derived.Carry
set_option linter.unusedVariables false
set_option maxRecDepth 100000
set_option maxHeartbeats 2000000
namespace Go.Proofs.Ytmjjkpiglbpkhaa
open Go Go.RowKit Go.Inc
theorem ty3 : TyOk Try.prog 3 (Kd.int .i64) 8 := ⟨⟨Try.t3, _, Try.type3, rfl, rfl, rfl, rfl, rfl⟩, ⟨_, Try.underlying3, rfl⟩⟩
abbrev qaa : Kd (List UInt8) := (Kd.arr 32 Kd.byte)
abbrev qam : Kd ((List UInt8) × (List UInt8)) := (Kd.pr qaa qao)
theorem ty24 : TyOk Try.prog 24 qaa 32 := ⟨⟨Try.t24, _, Try.type24, rfl, rfl, rfl, rfl, rfl⟩, ⟨_, Try.underlying24, rfl⟩⟩
def qfI (a0_x : ((List UInt8) × (List UInt8))) (a1_x : (List UInt8)) (a2_x : (List UInt8)) (Q : Bool → Prop) : Prop :=
 Q (decide ((a0_x.1 = a1_x) ∧ (a0_x.2 = a2_x)))
theorem qmD {a0_x : ((List UInt8) × (List UInt8))} {a1_x : (List UInt8)} {a2_x : (List UInt8)} (w_0 : qam.wf a0_x) (w_1 : qaa.wf a1_x) (w_2 : qao.wf a2_x) : qfI a0_x a1_x a2_x (fun o0 => o0 = decide (a0_x.1 = a1_x ∧ a0_x.2 = a2_x)) := by
 show decide _ = decide _
 simp
theorem qja {w0 : World} {K0 : Ghost} {a0_x_v : Value} {a0_x : ((List UInt8) × (List UInt8))} {a1_x_b : Nat} {a1_x_pre a1_x_post : List Value} {a1_x : (List UInt8)} {a2_x_b : Nat} {a2_x_pre a2_x_post : List Value} {a2_x : (List UInt8)} {Q : Bool → Prop} (hM0 : Models w0 K0) (h_a0_x : qam.V K0 a0_x a0_x_v) (h_a1_x_B : Bx qaa w0 K0 a1_x_b a1_x_pre a1_x_post a1_x) (h_a2_x_B : Bx qao w0 K0 a2_x_b a2_x_pre a2_x_post a2_x) (hsp2_3 : ¬ (a1_x_b = a2_x_b)) (h : qfI a0_x a1_x a2_x Q) : Calls Try.prog 133 #[a0_x_v, (.pointer (some ⟨a1_x_b, a1_x_pre.length, none⟩)), (.pointer (some ⟨a2_x_b, a2_x_pre.length, none⟩))] w0 (fun e w' => ∃ (K' : Ghost) (r0 : Value) (o0 : Bool), e = .returned r0 ∧ Q o0 ∧ Ext NX w0 K0 w' K' ∧ Models w' K' ∧ Kd.bool.V K' o0 r0) := by
 unfold qfI at h
 have hE0 : Ext NX w0 K0 w0 K0 := Ext.refl _ _ _
 refine qa7 fun R hR => ?_
 refine qaR (args := [a0_x_v, (.pointer (some ⟨a1_x_b, a1_x_pre.length, none⟩)), (.pointer (some ⟨a2_x_b, a2_x_pre.length, none⟩))]) Try.func133 rfl (Nat.le_of_ble_eq_true rfl) ?_
 refine qah ?_
 refine qac ?_
 refine qaw rfl rfl (St_B (qhV hM0 rfl h_a0_x) ?_)
 rintro b4 w4 (hB4 : Bx qam _ _ _ _ _ a0_x) hS4 hM4 hge4
 have hE4 := hE0.andN hS4
 refine qab (.bool false) (R_as rfl) rfl rfl ?_
 refine qak ?_
 refine qah ?_
 refine qpB (K := K0) NX [.o 0 2, .o 1 2, .o 2 2, .o 3 2, .o 4 2, .o 5 2, .o 6 2, .o 7 2, .o 8 0, .o 9 2, .o 10 2] (by kernel_rfl) hM4 ?_
 refine qal (.pointer (some ⟨b4, 0 + 0, none⟩)) rfl l0 hM4 (fun _ => R_fa rfl Try.underlying146 rfl rfl ty24 rfl) rfl (gN rfl) rfl ?_
 refine qdY hM4 (qby (Foc.fst qaa qao) rfl ty24 hB4 (by first | rfl | simp | omega) (fun h => h)) rfl (gN rfl) rfl ?_
 rintro v6 (hV6 : qaa.V _ a0_x.1 _)
 have hR9 := (h_a1_x_B.extN hS4)
 refine qdY hM4 (qby (Foc.id _) rfl ty24 hR9 (by first | rfl | simp | omega) (fun h => h)) rfl (gN rfl) rfl ?_
 rintro v8 (hV8 : qaa.V _ a1_x _)
 refine qal (.bool (decide (a0_x.1 = a1_x))) rfl l0 hM4 (fun _ => qrQ rfl rfl hV6 hV8 Try.underlying24 Try.underlying5 ty5b (by kernel_rfl)) rfl (gN rfl) rfl ?_
 refine qal (.bool (decide (a0_x.1 = a1_x))) rfl l0 hM4 (fun _ => R_mv rfl) rfl (gN rfl) rfl ?_
 refine qqq (al := true) (l1 := [.o 5 2, .o 6 2, .o 7 2, .o 8 0, .o 9 2]) [10, 11, 12, 13, 14] NX (fun l w K => l = [(14, (.bool (decide ((a0_x.1 = a1_x) ∧ (a0_x.2 = a2_x)))))] ∧ Ext NX w4 K0 w K ∧ Models w K) ?_ ?_
 ·rcases Classical.em (a0_x.1 = a1_x) with hp11 | hp11
  ·skip
   refine qal (.pointer (some ⟨b4, 0 + 32, none⟩)) rfl l0 hM4 (fun _ => R_fa rfl Try.underlying146 rfl rfl ty32 rfl) rfl (gY rfl rfl rfl (decide_eq_true hp11)) rfl ?_
   refine qdY hM4 (qby (Foc.snd qaa qao) rfl ty32 hB4 (by first | rfl | simp | omega) (fun h => h)) rfl (gY rfl rfl rfl (decide_eq_true hp11)) rfl ?_
   rintro v12 (hV12 : qao.V _ a0_x.2 _)
   have hR15 := (h_a2_x_B.extN hS4)
   refine qdY hM4 (qby (Foc.id _) rfl ty32 hR15 (by first | rfl | simp | omega) (fun h => h)) rfl (gY rfl rfl rfl (decide_eq_true hp11)) rfl ?_
   rintro v14 (hV14 : qao.V _ a2_x _)
   refine qiQ rfl (gY rfl rfl rfl (decide_eq_true hp11)) rfl (qaQ (qbz Try.call85 rfl) ((qp0 hM4 hV12 hV14).mono ?_))
   rintro _ w17 ⟨K17, v17_0, rfl, hS17, hM17, hV17_0⟩
   refine ⟨v17_0, rfl, ?_⟩
   refine ⟨K17, hS17, hM17, ?_⟩
   have hE17 := hE4.andN hS17
   obtain rfl := qcu hV17_0
   refine qal (.bool (decide ((a0_x.1 = a1_x) ∧ (a0_x.2 = a2_x)))) rfl l0 hM17 (fun _ => qqg rfl (decide_eq_true hp11) rfl (qtF hp11)) rfl (gN rfl) rfl ?_
   exact qpA [(14, (.bool (decide ((a0_x.1 = a1_x) ∧ (a0_x.2 = a2_x)))))] K17 rfl ⟨rfl, ((Ext.refl _ _ _).andN hS17), hM17⟩ (by repeat (first | exact Off.refl _ _ | refine Off.updO ?_ rfl _ | refine Off.updN ?_ _ | refine Off.lay ?_ rfl)) ⟨rfl, trivial⟩
  ·skip
   refine qft _ hM4 l0 rfl (gF rfl rfl rfl (decide_eq_false hp11)) rfl ?_
   refine qft _ hM4 l0 rfl (gF rfl rfl rfl (decide_eq_false hp11)) rfl ?_
   refine qft _ hM4 l0 rfl (gF rfl rfl rfl (decide_eq_false hp11)) rfl ?_
   refine qft _ hM4 l0 rfl (gF rfl rfl rfl (decide_eq_false hp11)) rfl ?_
   refine qal (.bool (decide ((a0_x.1 = a1_x) ∧ (a0_x.2 = a2_x)))) rfl l0 hM4 (fun _ => qqh rfl (decide_eq_false hp11) rfl (qtE hp11)) rfl (gN rfl) rfl ?_
   exact qpA [(14, (.bool (decide ((a0_x.1 = a1_x) ∧ (a0_x.2 = a2_x)))))] K0 rfl ⟨rfl, (Ext.refl _ _ _), hM4⟩ (by repeat (first | exact Off.refl _ _ | refine Off.updO ?_ rfl _ | refine Off.updN ?_ _ | refine Off.lay ?_ rfl)) ⟨rfl, trivial⟩
 rintro l σ18 w18 K18 ⟨rfl, hS18, hM18⟩
 have hE18 := hE4.andN hS18
 refine qal (.bool (decide ((a0_x.1 = a1_x) ∧ (a0_x.2 = a2_x)))) rfl l0 hM18 (fun _ => R_as rfl) rfl (gN rfl) rfl ?_
 refine qfs ?_
 refine qbY ?_
 exact qbt hR (v := (.bool (decide ((a0_x.1 = a1_x) ∧ (a0_x.2 = a2_x))))) (qdy rfl rfl) ⟨K18, (.bool (decide ((a0_x.1 = a1_x) ∧ (a0_x.2 = a2_x)))), (decide ((a0_x.1 = a1_x) ∧ (a0_x.2 = a2_x))), rfl, h, hE18, hM18, qfA⟩
theorem qoF {w0 : World} {K0 : Ghost} {a0_x_v : Value} {a0_x : ((List UInt8) × (List UInt8))} {a1_x_b : Nat} {a1_x_pre a1_x_post : List Value} {a1_x : (List UInt8)} {a2_x_b : Nat} {a2_x_pre a2_x_post : List Value} {a2_x : (List UInt8)} (hM0 : Models w0 K0) (h_a0_x : qam.V K0 a0_x a0_x_v) (h_a1_x_B : Bx qaa w0 K0 a1_x_b a1_x_pre a1_x_post a1_x) (h_a2_x_B : Bx qao w0 K0 a2_x_b a2_x_pre a2_x_post a2_x) (hsp2_3 : ¬ (a1_x_b = a2_x_b)) : Calls Try.prog 133 #[a0_x_v, (.pointer (some ⟨a1_x_b, a1_x_pre.length, none⟩)), (.pointer (some ⟨a2_x_b, a2_x_pre.length, none⟩))] w0 (fun e w' => ∃ (K' : Ghost) (r0 : Value), e = .returned r0 ∧ Ext NX w0 K0 w' K' ∧ Models w' K' ∧ Kd.bool.V K' (decide (a0_x.1 = a1_x ∧ a0_x.2 = a2_x)) r0) := by
 refine (qja hM0 h_a0_x h_a1_x_B h_a2_x_B hsp2_3 (qmD h_a0_x.wf h_a1_x_B.wf h_a2_x_B.wf)).mono ?_
 rintro _ w' ⟨K', r0, o0, rfl, rfl, hF⟩
 exact ⟨K', r0, rfl, hF⟩
abbrev qaM : Kd (List ((List UInt8) × (List UInt8))) := (Kd.sl qam)
theorem qk6 : TyOk Try.prog 146 qam 56 := ⟨⟨Try.t146, _, Try.type146, rfl, rfl, rfl, rfl, rfl⟩, ⟨_, Try.underlying146, rfl⟩⟩
def qcc (a0_s : (List ((List UInt8) × (List UInt8)))) (a1_f_0 : (List UInt8)) (a1_f_1 : (List UInt8)) (Q : Int → Prop) : Prop :=
 ∃ (I4 : Int → Int → Prop) (μ4 : Int → Int → Nat), I4 0 0 ∧ ∀ (i4 : Int) (i4' : Int), I4 i4 i4' → ((Kd.int .i64).wf i4) → ((Kd.int .i64).wf i4') → (((i4' < (a0_s.length : Int)) → (0 ≤ i4' ∧ i4' < (a0_s.length : Int)) ∧ ((((ix a0_s i4').1 = a1_f_0 ∧ (ix a0_s i4').2 = a1_f_1) → Q i4') ∧ ((¬ ((ix a0_s i4').1 = a1_f_0 ∧ (ix a0_s i4').2 = a1_f_1)) → I4 i4 (i4' + 1) ∧ μ4 i4 (i4' + 1) < μ4 i4 i4'))) ∧ ((¬ (i4' < (a0_s.length : Int))) → Q (-1)))
theorem qhU {a0_s : (List ((List UInt8) × (List UInt8)))} {a1_f_0 : (List UInt8)} {a1_f_1 : (List UInt8)} (w_0 : qaM.wf a0_s) : qcc a0_s a1_f_0 a1_f_1 (fun o0 => o0 = (qa6 a1_f_0 a1_f_1 a0_s 0)) := by
 unfold qcc
 refine ⟨fun _ i => ∃ j : Nat, i = (j : Int) ∧ j ≤ a0_s.length ∧ qa6 a1_f_0 a1_f_1 a0_s 0 = qa6 a1_f_0 a1_f_1 (a0_s.drop j) (j : Int), fun _ i => a0_s.length - i.toNat, ⟨0, rfl, by omega, by simp⟩, ?_⟩
 rintro _ i ⟨j, rfl, hj, he⟩ _ _
 refine ⟨fun hlt => ⟨⟨by omega, hlt⟩, fun h => ?_, fun h => ⟨⟨j + 1, by omega, by omega, ?_⟩, ?_⟩⟩, fun hge => ?_⟩
 ·rw [qfU hlt, if_pos (h)] at he
  exact he.symm
 ·rw [qfU hlt, if_neg (h)] at he
  rw [he]
  congr 1
 ·show a0_s.length - ((j : Int) + 1).toNat < a0_s.length - (j : Int).toNat
  omega
 ·have : j = a0_s.length := by omega
  subst this
  rw [List.drop_length] at he
  exact he.symm
theorem qf8 {w0 : World} {K0 : Ghost} {a0_s_v : Value} {a0_s : (List ((List UInt8) × (List UInt8)))} {a1_f_0_b : Nat} {a1_f_0_pre a1_f_0_post : List Value} {a1_f_0 : (List UInt8)} {a1_f_1_b : Nat} {a1_f_1_pre a1_f_1_post : List Value} {a1_f_1 : (List UInt8)} {Q : Int → Prop} (hM0 : Models w0 K0) (h_a0_s : qaM.V K0 a0_s a0_s_v) (h_a1_f_0_B : Bx qaa w0 K0 a1_f_0_b a1_f_0_pre a1_f_0_post a1_f_0) (h_a1_f_1_B : Bx qao w0 K0 a1_f_1_b a1_f_1_pre a1_f_1_post a1_f_1) (hsp2_3 : ¬ (a1_f_0_b = a1_f_1_b)) (h : qcc a0_s a1_f_0 a1_f_1 Q) : Calls Try.prog 144 #[a0_s_v, (.func (.func 133) #[] #[(.pointer (some ⟨a1_f_0_b, a1_f_0_pre.length, none⟩)), (.pointer (some ⟨a1_f_1_b, a1_f_1_pre.length, none⟩))])] w0 (fun e w' => ∃ (K' : Ghost) (r0 : Value) (o0 : Int), e = .returned r0 ∧ Q o0 ∧ Ext NX w0 K0 w' K' ∧ Models w' K' ∧ (Kd.int .i64).V K' o0 r0) := by
 unfold qcc at h
 have hE0 : Ext NX w0 K0 w0 K0 := Ext.refl _ _ _
 refine qa7 fun R hR => ?_
 refine qaR (args := [a0_s_v, (.func (.func 133) #[] #[(.pointer (some ⟨a1_f_0_b, a1_f_0_pre.length, none⟩)), (.pointer (some ⟨a1_f_1_b, a1_f_1_pre.length, none⟩))])]) Try.func144 rfl (Nat.le_of_ble_eq_true rfl) ?_
 refine qah ?_
 refine qac ?_
 refine qab (.int .i64 0) (R_as rfl) rfl rfl ?_
 refine qak ?_
 refine qah ?_
 refine qah ?_
 refine qac ?_
 refine qab a0_s_v (R_mv rfl) rfl rfl ?_
 refine qab (.int .i64 (a0_s.length : Int)) (qfq rfl h_a0_s Try.underlying36) rfl rfl ?_
 refine qab (.int .i64 0) (R_mv rfl) rfl rfl ?_
 refine qak ?_
 refine qa9 ?_
 obtain ⟨I4, μ4, h0, h⟩ := h
 refine qg8 (ι := Int × Int) [4, 5, 8, 9, 10, 11, 12, 13, 14, 15, 16, 17, 18] (fun s l w => ∃ K, I4 s.1 s.2 ∧ l = [(4, (.int .i64 s.1)), (8, (.int .i64 s.2))] ∧ Ext NX w0 K0 w K ∧ Models w K ∧ (Kd.int .i64).wf s.1 ∧ (Kd.int .i64).wf s.2) (fun s => μ4 s.1 s.2) (0, 0) [(4, (.int .i64 0)), (8, (.int .i64 0))]
  ⟨K0, h0, rfl, Ext.refl _ _ _, hM0, (show (Kd.int .i64).wf 0 from by constructor <;> decide), (show (Kd.int .i64).wf 0 from by constructor <;> decide)⟩ (by repeat (first | exact trivial | refine ⟨rfl, ?_⟩)) ?_
 rintro ⟨i4, i4'⟩ l σ4 w5 ⟨K5, hI, rfl, hX5, hM5, hw4_4, hw4_8⟩
 dsimp only at hI hw4_4 hw4_8
 have hE5 := hE0.andN hX5
 have h := h i4 i4' hI hw4_4 hw4_8
 refine qah ?_
 refine qac ?_
 refine qab (.bool (decide (i4' < (a0_s.length : Int)))) (qe1 rfl rfl) rfl rfl ?_
 refine qak ?_
 refine qah ?_
 refine qaK (decide (i4' < (a0_s.length : Int))) rfl (fun hc6 => ?_) (fun hc6 => ?_)
 ·have hd6 : i4' < (a0_s.length : Int) := qh1 hc6
  have h := h.1 hd6
  refine qa3 ?_
  refine qah ?_
  refine qa9 ?_
  refine qah ?_
  refine qac ?_
  refine qab (.int .i64 i4') (R_mv rfl) rfl rfl ?_
  refine qab (.int .i64 i4') (R_as rfl) rfl rfl ?_
  refine qak ?_
  refine qah ?_
  refine qac ?_
  refine qab (.func (.func 133) #[] #[(.pointer (some ⟨a1_f_0_b, a1_f_0_pre.length, none⟩)), (.pointer (some ⟨a1_f_1_b, a1_f_1_pre.length, none⟩))]) (R_mv rfl) rfl rfl ?_
  refine qab a0_s_v (R_mv rfl) rfl rfl ?_
  refine qab (.int .i64 i4') (R_mv rfl) rfl rfl ?_
  obtain ⟨hp8, h⟩ := h
  refine WL_P (qlG rfl (h_a0_s.mono hX5.le) rfl Try.underlying36 qk6 hp8.1 hp8.2) rfl rfl ?_
  rintro b7 o7 hP7
  refine WL_L hM5 (S_ld rfl qk6 hP7) rfl rfl ?_
  rintro v10 (hV10 : qam.V _ (ix a0_s i4') _)
  have hR12 := (h_a1_f_0_B.extN hX5)
  have hR13 := (h_a1_f_1_B.extN hX5)
  refine qaw rfl rfl (qaQ (qlx rfl Try.call133 rfl) ((qoF hM5 hV10 hR12 hR13 hsp2_3).mono ?_))
  rintro _ w14 ⟨K14, v14_0, rfl, hS14, hM14, hV14_0⟩
  refine ⟨v14_0, rfl, ?_⟩
  have hE14 := hE5.andN hS14
  obtain rfl := qcu hV14_0
  refine qak ?_
  refine qaK (decide ((ix a0_s i4').1 = a1_f_0 ∧ (ix a0_s i4').2 = a1_f_1)) rfl (fun hc15 => ?_) (fun hc15 => ?_)
  ·have hd15 : (ix a0_s i4').1 = a1_f_0 ∧ (ix a0_s i4').2 = a1_f_1 := qh1 hc15
   have h := h.1 hd15
   refine qah ?_
   refine qac ?_
   refine qab (.int .i64 i4') (R_mv rfl) rfl rfl ?_
   refine qab (.int .i64 i4') (R_as rfl) rfl rfl ?_
   refine qak ?_
   refine qbY ?_
   exact qbt hR (v := (.int .i64 i4')) (qdy rfl rfl) ⟨K14, (.int .i64 i4'), i4', rfl, h, hE14, hM14, (qfL hw4_8)⟩
  ·have hd15 : ¬ ((ix a0_s i4').1 = a1_f_0 ∧ (ix a0_s i4').2 = a1_f_1) := qh0 hc15
   have h := h.2 hd15
   refine qa3 ?_
   refine qac ?_
   refine qab (.int .i64 (i4' + 1)) (qqe rfl rfl hw4_8 hd6 (qcv (h_a0_s).wf.1)) rfl rfl ?_
   refine qab (.int .i64 (i4' + 1)) (R_mv rfl) rfl rfl ?_
   refine qak ?_
   refine qiA.mk (i4, (i4' + 1)) [(4, (.int .i64 i4)), (8, (.int .i64 (i4' + 1)))] ?_ ?_ ?_ ?_
   rotate_left
   ·exact h.2
   ·repeat (first | exact Off.lay0 rfl | refine Off.updO ?_ rfl _ | refine Off.updN ?_ _ | refine Off.lay ?_ rfl)
   ·repeat (first | exact trivial | refine ⟨rfl, ?_⟩)
   exact ⟨K14, h.1, rfl, (((Ext.refl _ _ _).andN hX5).andN hS14), hM14, hw4_4, (qmG hw4_8 hd6 (qcv (h_a0_s).wf.1))⟩
 ·have hd6 : ¬ (i4' < (a0_s.length : Int)) := qh0 hc6
  have h := h.2 hd6
  refine qfu ?_
  refine qah ?_
  refine qac ?_
  refine qab (.int .i64 (-1)) (R_as rfl) rfl rfl ?_
  refine qak ?_
  refine qbY ?_
  exact qbt hR (v := (.int .i64 (-1))) (qdy rfl rfl) ⟨K5, (.int .i64 (-1)), (-1), rfl, h, hE5, hM5, (qfL (show (Kd.int .i64).wf (-1) from by constructor <;> decide))⟩
theorem qiH {w0 : World} {K0 : Ghost} {a0_s_v : Value} {a0_s : (List ((List UInt8) × (List UInt8)))} {a1_f_0_b : Nat} {a1_f_0_pre a1_f_0_post : List Value} {a1_f_0 : (List UInt8)} {a1_f_1_b : Nat} {a1_f_1_pre a1_f_1_post : List Value} {a1_f_1 : (List UInt8)} (hM0 : Models w0 K0) (h_a0_s : qaM.V K0 a0_s a0_s_v) (h_a1_f_0_B : Bx qaa w0 K0 a1_f_0_b a1_f_0_pre a1_f_0_post a1_f_0) (h_a1_f_1_B : Bx qao w0 K0 a1_f_1_b a1_f_1_pre a1_f_1_post a1_f_1) (hsp2_3 : ¬ (a1_f_0_b = a1_f_1_b)) : Calls Try.prog 144 #[a0_s_v, (.func (.func 133) #[] #[(.pointer (some ⟨a1_f_0_b, a1_f_0_pre.length, none⟩)), (.pointer (some ⟨a1_f_1_b, a1_f_1_pre.length, none⟩))])] w0 (fun e w' => ∃ (K' : Ghost) (r0 : Value), e = .returned r0 ∧ Ext NX w0 K0 w' K' ∧ Models w' K' ∧ (Kd.int .i64).V K' (qa6 a1_f_0 a1_f_1 a0_s 0) r0) := by
 refine (qf8 hM0 h_a0_s h_a1_f_0_B h_a1_f_1_B hsp2_3 (qhU h_a0_s.wf)).mono ?_
 rintro _ w' ⟨K', r0, o0, rfl, rfl, hF⟩
 exact ⟨K', r0, rfl, hF⟩
def qem (a0_s : (List ((List UInt8) × (List UInt8)))) (a1_f_0 : (List UInt8)) (a1_f_1 : (List UInt8)) (Q : Bool → Prop) : Prop :=
 ((Kd.int .i64).wf (qa6 a1_f_0 a1_f_1 a0_s 0)) → (Q (decide (0 ≤ (qa6 a1_f_0 a1_f_1 a0_s 0))))
theorem qkD {a0_s : (List ((List UInt8) × (List UInt8)))} {a1_f_0 : (List UInt8)} {a1_f_1 : (List UInt8)} (w_0 : qaM.wf a0_s) : qem a0_s a1_f_0 a1_f_1 (fun o0 => o0 = decide (0 ≤ qa6 a1_f_0 a1_f_1 a0_s 0)) := by
 exact fun _ => rfl
theorem qhT {w0 : World} {K0 : Ghost} {a0_s_v : Value} {a0_s : (List ((List UInt8) × (List UInt8)))} {a1_f_0_b : Nat} {a1_f_0_pre a1_f_0_post : List Value} {a1_f_0 : (List UInt8)} {a1_f_1_b : Nat} {a1_f_1_pre a1_f_1_post : List Value} {a1_f_1 : (List UInt8)} {Q : Bool → Prop} (hM0 : Models w0 K0) (h_a0_s : qaM.V K0 a0_s a0_s_v) (h_a1_f_0_B : Bx qaa w0 K0 a1_f_0_b a1_f_0_pre a1_f_0_post a1_f_0) (h_a1_f_1_B : Bx qao w0 K0 a1_f_1_b a1_f_1_pre a1_f_1_post a1_f_1) (hsp2_3 : ¬ (a1_f_0_b = a1_f_1_b)) (h : qem a0_s a1_f_0 a1_f_1 Q) : Calls Try.prog 132 #[a0_s_v, (.func (.func 133) #[] #[(.pointer (some ⟨a1_f_0_b, a1_f_0_pre.length, none⟩)), (.pointer (some ⟨a1_f_1_b, a1_f_1_pre.length, none⟩))])] w0 (fun e w' => ∃ (K' : Ghost) (r0 : Value) (o0 : Bool), e = .returned r0 ∧ Q o0 ∧ Ext NX w0 K0 w' K' ∧ Models w' K' ∧ Kd.bool.V K' o0 r0) := by
 unfold qem at h
 have hE0 : Ext NX w0 K0 w0 K0 := Ext.refl _ _ _
 refine qa7 fun R hR => ?_
 refine qaR (args := [a0_s_v, (.func (.func 133) #[] #[(.pointer (some ⟨a1_f_0_b, a1_f_0_pre.length, none⟩)), (.pointer (some ⟨a1_f_1_b, a1_f_1_pre.length, none⟩))])]) Try.func132 rfl (Nat.le_of_ble_eq_true rfl) ?_
 refine qah ?_
 refine qac ?_
 refine qab (.bool false) (R_as rfl) rfl rfl ?_
 refine qak ?_
 refine qah ?_
 refine qac ?_
 refine qab a0_s_v (R_mv rfl) rfl rfl ?_
 refine qab (.func (.func 133) #[] #[(.pointer (some ⟨a1_f_0_b, a1_f_0_pre.length, none⟩)), (.pointer (some ⟨a1_f_1_b, a1_f_1_pre.length, none⟩))]) (R_mv rfl) rfl rfl ?_
 refine qaw rfl rfl (qaQ (qbz Try.call144 rfl) ((qiH hM0 h_a0_s h_a1_f_0_B h_a1_f_1_B hsp2_3).mono ?_))
 rintro _ w4 ⟨K4, v4_0, rfl, hS4, hM4, hV4_0⟩
 refine ⟨v4_0, rfl, ?_⟩
 have hE4 := hE0.andN hS4
 obtain rfl := qbu hV4_0
 have h := h hV4_0.wf
 refine qab (.bool (decide (0 ≤ (qa6 a1_f_0 a1_f_1 a0_s 0)))) (qrU rfl rfl) rfl rfl ?_
 refine qab (.bool (decide (0 ≤ (qa6 a1_f_0 a1_f_1 a0_s 0)))) (R_as rfl) rfl rfl ?_
 refine qak ?_
 refine qbY ?_
 exact qbt hR (v := (.bool (decide (0 ≤ (qa6 a1_f_0 a1_f_1 a0_s 0))))) (qdy rfl rfl) ⟨K4, (.bool (decide (0 ≤ (qa6 a1_f_0 a1_f_1 a0_s 0)))), (decide (0 ≤ (qa6 a1_f_0 a1_f_1 a0_s 0))), rfl, h, hE4, hM4, qfA⟩
theorem qls {w0 : World} {K0 : Ghost} {a0_s_v : Value} {a0_s : (List ((List UInt8) × (List UInt8)))} {a1_f_0_b : Nat} {a1_f_0_pre a1_f_0_post : List Value} {a1_f_0 : (List UInt8)} {a1_f_1_b : Nat} {a1_f_1_pre a1_f_1_post : List Value} {a1_f_1 : (List UInt8)} (hM0 : Models w0 K0) (h_a0_s : qaM.V K0 a0_s a0_s_v) (h_a1_f_0_B : Bx qaa w0 K0 a1_f_0_b a1_f_0_pre a1_f_0_post a1_f_0) (h_a1_f_1_B : Bx qao w0 K0 a1_f_1_b a1_f_1_pre a1_f_1_post a1_f_1) (hsp2_3 : ¬ (a1_f_0_b = a1_f_1_b)) : Calls Try.prog 132 #[a0_s_v, (.func (.func 133) #[] #[(.pointer (some ⟨a1_f_0_b, a1_f_0_pre.length, none⟩)), (.pointer (some ⟨a1_f_1_b, a1_f_1_pre.length, none⟩))])] w0 (fun e w' => ∃ (K' : Ghost) (r0 : Value), e = .returned r0 ∧ Ext NX w0 K0 w' K' ∧ Models w' K' ∧ Kd.bool.V K' (decide (0 ≤ qa6 a1_f_0 a1_f_1 a0_s 0)) r0) := by
 refine (qhT hM0 h_a0_s h_a1_f_0_B h_a1_f_1_B hsp2_3 (qkD h_a0_s.wf)).mono ?_
 rintro _ w' ⟨K', r0, o0, rfl, rfl, hF⟩
 exact ⟨K', r0, rfl, hF⟩
abbrev qaq : Kd (Value × Value) := (Kd.pr Kd.rsl Kd.rmp)
theorem qgh : TyOk Try.prog 37 Kd.rmp 8 := ⟨⟨Try.t37, _, Try.type37, rfl, rfl, rfl, rfl, rfl⟩, ⟨_, Try.underlying37, rfl⟩⟩
theorem qiv : TyOk Try.prog 36 Kd.rsl 24 := ⟨⟨Try.t36, _, Try.type36, rfl, rfl, rfl, rfl, rfl⟩, ⟨_, Try.underlying36, rfl⟩⟩
def qj8 (a0_n_0 : (List ((List UInt8) × (List UInt8)))) (a0_n_1 : (List ((List UInt8) × Int))) (a1_s : (List UInt8)) (a2_b : (List UInt8)) (Q : Bool → Prop) : Prop :=
 ((¬ (((mfind a1_s a0_n_1).isSome) = true)) → Q false) ∧ ((((mfind a1_s a0_n_1).isSome) = true) → (0 ≤ ((mfind a1_s a0_n_1).getD 0) ∧ ((mfind a1_s a0_n_1).getD 0) ≤ (a0_n_0.length : Int)) ∧ (Q (decide (0 ≤ qa6 a1_s a2_b (a0_n_0.drop ((mfind a1_s a0_n_1).getD 0).toNat) 0))))
theorem qsI {a0_n_0 : (List ((List UInt8) × (List UInt8)))} {a0_n_1 : (List ((List UInt8) × Int))} {a1_s : (List UInt8)} {a2_b : (List UInt8)} (w_0 : qaa.wf a1_s) (w_1 : qao.wf a2_b) (hp : qbL a0_n_0 a0_n_1) : qj8 a0_n_0 a0_n_1 a1_s a2_b (fun o0 => o0 = decide ((a1_s, a2_b) ∈ a0_n_0)) := by
 unfold qj8
 rw [hp a1_s]
 refine ⟨fun h => ?_, fun h => ?_⟩
 ·have hn : qaT a1_s a0_n_0 0 = none := by
   cases hf : qaT a1_s a0_n_0 0 with
   | none => rfl
   | some a => rw [hf] at h; exact absurd rfl h
  have := qeU hn a2_b
  simp [this]
 ·cases hf : qaT a1_s a0_n_0 0 with
  | none => rw [hf] at h; cases h
  | some a =>
    obtain ⟨j, rfl, hl, hm⟩ := qeV hf
    simp only [Option.getD_some, Int.zero_add, Int.toNat_natCast]
    refine ⟨⟨by omega, by omega⟩, ?_⟩
    rw [decide_eq_decide, qim _ _ (Int.le_refl _)]
    exact (hm a2_b).symm
theorem qoG {w0 : World} {K0 : Ghost} {a0_n_b : Nat} {a0_n_pre a0_n_post : List Value} {a0_n_0v : Value} {a0_n_0 : (List ((List UInt8) × (List UInt8)))} {a0_n_1v : Value} {a0_n_1 : (List ((List UInt8) × Int))} {a1_s_v : Value} {a1_s : (List UInt8)} {a2_b_v : Value} {a2_b : (List UInt8)} {Q : Bool → Prop} (hM0 : Models w0 K0) (h_a0_n_B : Bx qaq w0 K0 a0_n_b a0_n_pre a0_n_post (a0_n_0v, a0_n_1v)) (h_a0_n_0 : Own qam 146 w0 K0 a0_n_0 a0_n_0v) (h_a0_n_1 : Mp qaa (Kd.int .i64) w0 K0 a0_n_1 a0_n_1v) (h_a1_s : qaa.V K0 a1_s a1_s_v) (h_a2_b : qao.V K0 a2_b a2_b_v) (h : qj8 a0_n_0 a0_n_1 a1_s a2_b Q) : Calls Try.prog 120 #[(.pointer (some ⟨a0_n_b, a0_n_pre.length, none⟩)), a1_s_v, a2_b_v] w0 (fun e w' => ∃ (K' : Ghost) (r0 : Value) (o0 : Bool), e = .returned r0 ∧ Q o0 ∧ Ext NX w0 K0 w' K' ∧ Models w' K' ∧ Kd.bool.V K' o0 r0) := by
 unfold qj8 at h
 have hE0 : Ext NX w0 K0 w0 K0 := Ext.refl _ _ _
 refine qa7 fun R hR => ?_
 refine qaR (args := [(.pointer (some ⟨a0_n_b, a0_n_pre.length, none⟩)), a1_s_v, a2_b_v]) Try.func120 rfl (Nat.le_of_ble_eq_true rfl) ?_
 refine qah ?_
 refine qac ?_
 refine qaw rfl rfl (St_B (qhV hM0 rfl h_a1_s) ?_)
 rintro b6 w6 (hB6 : Bx qaa _ _ _ _ _ a1_s) hS6 hM6 hge6
 have hE6 := hE0.andN hS6
 refine qaw rfl rfl (St_B (qhV hM6 rfl (h_a2_b.mono hS6.le)) ?_)
 rintro b8 w8 (hB8 : Bx qao _ _ _ _ _ a2_b) hS8 hM8 hge8
 have hE8 := hE6.andN hS8
 have hR10 := (h_a0_n_B.extN hS6)
 refine qab (.bool false) (R_as rfl) rfl rfl ?_
 refine qak ?_
 refine qah ?_
 refine qdD (K := K0) NX [.o 0 2, .o 1 2, .o 2 2, .o 3 2, .o 4 2, .o 5 2, .o 6 2, .o 7 2, .o 8 2, .o 9 2, .o 10 2] (by kernel_rfl) (by kernel_rfl) hM8 ?_
 rintro w11 hS11 hM11
 have hE11 := hE8.andN hS11
 refine qal (.pointer (some ⟨a0_n_b, a0_n_pre.length, none⟩)) rfl l0 hM11 (fun _ => R_mv rfl) rfl (gN rfl) rfl ?_
 refine qal (.pointer (some ⟨a0_n_b, a0_n_pre.length, none⟩)) rfl l0 hM11 (fun _ => qaJ rfl) rfl (gN rfl) rfl ?_
 refine qal (.pointer (some ⟨a0_n_b, a0_n_pre.length + 1, none⟩)) rfl l0 hM11 (fun _ => R_fa rfl Try.underlying39 rfl rfl qgh rfl) rfl (gN rfl) rfl ?_
 have hR13 := (((h_a0_n_B.extN hS6).extN hS8).extN hS11)
 refine qdY hM11 (qby (Foc.snd Kd.rsl Kd.rmp) rfl qgh hR13 (by first | rfl | simp | omega) (fun h => h)) rfl (gN rfl) rfl ?_
 rintro v12 (hV12 : Kd.rmp.V _ a0_n_1v _)
 obtain rfl := qbN hV12
 have hR15 := ((hB6.extN hS8).extN hS11)
 refine qdY hM11 (qby (Foc.id _) rfl ty24 hR15 (by first | rfl | simp | omega) (fun h => h)) rfl (gN rfl) rfl ?_
 rintro v14 (hV14 : qaa.V _ a1_s _)
 have hR18 := (((h_a0_n_1.extN hS6).extN hS8).extN hS11)
 refine qpz hM11 (qqo (kv := (Kd.int .i64)) rfl rfl hR18 hV14 Try.underlying37 (qd7 Try.underlying24 Try.underlying5 ty5b) ty3 (fun _ _ h => h)) rfl (gN rfl) rfl ?_
 rintro v17 (hV17 : (Kd.int .i64).V _ ((mfind a1_s a0_n_1).getD 0) _)
 obtain rfl := qbu hV17
 refine qal (.tuple #[(.int .i64 ((mfind a1_s a0_n_1).getD 0)), (.bool ((mfind a1_s a0_n_1).isSome))]) rfl l0 hM11 (fun _ => R_mv rfl) rfl (gN rfl) rfl ?_
 refine qal (.int .i64 ((mfind a1_s a0_n_1).getD 0)) rfl l0 hM11 (fun _ => qly rfl rfl) rfl (gN rfl) rfl ?_
 refine qal (.bool ((mfind a1_s a0_n_1).isSome)) rfl l0 hM11 (fun _ => qly rfl rfl) rfl (gN rfl) rfl ?_
 refine qal (.int .i64 ((mfind a1_s a0_n_1).getD 0)) rfl l0 hM11 (fun _ => R_as rfl) rfl (gN rfl) rfl ?_
 refine qal (.bool ((mfind a1_s a0_n_1).isSome)) rfl l0 hM11 (fun _ => R_as rfl) rfl (gN rfl) rfl ?_
 refine qfs ?_
 refine qah ?_
 refine qah ?_
 refine qac ?_
 refine qab (.bool ((mfind a1_s a0_n_1).isSome)) (R_mv rfl) rfl rfl ?_
 refine qab (.bool (!((mfind a1_s a0_n_1).isSome))) (qkF rfl) rfl rfl ?_
 refine qak ?_
 refine qaK (!((mfind a1_s a0_n_1).isSome)) rfl (fun hc19 => ?_) (fun hc19 => ?_)
 ·have hd19 : ¬ (((mfind a1_s a0_n_1).isSome) = true) := qsN hc19
  have h := h.1 hd19
  refine qah ?_
  refine qac ?_
  refine qab (.bool false) (R_as rfl) rfl rfl ?_
  refine qak ?_
  refine qbY ?_
  exact qbt hR (v := (.bool false)) (qdy rfl rfl) ⟨K0, (.bool false), false, rfl, h, hE11, hM11, qfA⟩
 ·have hd19 : ((mfind a1_s a0_n_1).isSome) = true := qsM hc19
  have h := h.2 hd19
  refine qa3 ?_
  refine qah ?_
  refine qac ?_
  refine qab (.pointer (some ⟨a0_n_b, a0_n_pre.length, none⟩)) (R_mv rfl) rfl rfl ?_
  refine qab (.pointer (some ⟨a0_n_b, a0_n_pre.length, none⟩)) (qaJ rfl) rfl rfl ?_
  refine qab (.pointer (some ⟨a0_n_b, a0_n_pre.length + 0, none⟩)) (R_fa rfl Try.underlying39 rfl rfl qiv rfl) rfl rfl ?_
  refine WL_L hM11 (qby (Foc.fst Kd.rsl Kd.rmp) rfl qiv hR13 (by first | rfl | simp | omega) (fun h => h)) rfl rfl ?_
  rintro v20 (hV20 : Kd.rsl.V _ a0_n_0v _)
  obtain rfl := qbN hV20
  refine qab (.int .i64 ((mfind a1_s a0_n_1).getD 0)) (R_mv rfl) rfl rfl ?_
  obtain ⟨hp22, h⟩ := h
  refine WL_V (qsr rfl (h_a0_n_0.V.mono (hS6.le.trans (hS8.le.trans hS11.le))) Try.underlying36 qk6 rfl hp22.1 hp22.2) rfl rfl ?_
  rintro v21 (hV21 : qaM.V _ (a0_n_0.drop ((mfind a1_s a0_n_1).getD 0).toNat) _)
  refine qab (.func (.func 133) #[] #[(.pointer (some ⟨b6, 0, none⟩)), (.pointer (some ⟨b8, 0, none⟩))]) (qrT rfl) rfl rfl ?_
  have hR25 := (hB8.extN hS11)
  refine qaw rfl rfl (qaQ (qbz Try.call132 rfl) ((qls hM11 hV21 hR15 hR25 (fun he => (qcP hge8 hB6.lt) he.symm)).mono ?_))
  rintro _ w24 ⟨K24, v24_0, rfl, hS24, hM24, hV24_0⟩
  refine ⟨v24_0, rfl, ?_⟩
  have hE24 := hE11.andN hS24
  obtain rfl := qcu hV24_0
  refine qab (.bool (decide (0 ≤ qa6 a1_s a2_b (a0_n_0.drop ((mfind a1_s a0_n_1).getD 0).toNat) 0))) (R_as rfl) rfl rfl ?_
  refine qak ?_
  refine qbY ?_
  exact qbt hR (v := (.bool (decide (0 ≤ qa6 a1_s a2_b (a0_n_0.drop ((mfind a1_s a0_n_1).getD 0).toNat) 0)))) (qdy rfl rfl) ⟨K24, (.bool (decide (0 ≤ qa6 a1_s a2_b (a0_n_0.drop ((mfind a1_s a0_n_1).getD 0).toNat) 0))), (decide (0 ≤ qa6 a1_s a2_b (a0_n_0.drop ((mfind a1_s a0_n_1).getD 0).toNat) 0)), rfl, h, hE24, hM24, qfA⟩
theorem qtN {w0 : World} {K0 : Ghost} {a0_n_b : Nat} {a0_n_pre a0_n_post : List Value} {a0_n_0v : Value} {a0_n_0 : (List ((List UInt8) × (List UInt8)))} {a0_n_1v : Value} {a0_n_1 : (List ((List UInt8) × Int))} {a1_s_v : Value} {a1_s : (List UInt8)} {a2_b_v : Value} {a2_b : (List UInt8)} (hM0 : Models w0 K0) (h_a0_n_B : Bx qaq w0 K0 a0_n_b a0_n_pre a0_n_post (a0_n_0v, a0_n_1v)) (h_a0_n_0 : Own qam 146 w0 K0 a0_n_0 a0_n_0v) (h_a0_n_1 : Mp qaa (Kd.int .i64) w0 K0 a0_n_1 a0_n_1v) (h_a1_s : qaa.V K0 a1_s a1_s_v) (h_a2_b : qao.V K0 a2_b a2_b_v) (hp : qbL a0_n_0 a0_n_1) : Calls Try.prog 120 #[(.pointer (some ⟨a0_n_b, a0_n_pre.length, none⟩)), a1_s_v, a2_b_v] w0 (fun e w' => ∃ (K' : Ghost) (r0 : Value), e = .returned r0 ∧ Ext NX w0 K0 w' K' ∧ Models w' K' ∧ Kd.bool.V K' (decide ((a1_s, a2_b) ∈ a0_n_0)) r0) := by
 refine (qoG hM0 h_a0_n_B h_a0_n_0 h_a0_n_1 h_a1_s h_a2_b (qsI h_a1_s.wf h_a2_b.wf hp)).mono ?_
 rintro _ w' ⟨K', r0, o0, rfl, rfl, hF⟩
 exact ⟨K', r0, rfl, hF⟩
theorem qtM {fs : Array Field} (h : Try.prog.underlying 146 = some (.struct fs)) : ∀ f ∈ fs.toList, ∃ i, Try.prog.info? f.type = some i := by
 have h2 := (Try.underlying146).symm.trans h
 cases h2
 intro f hf
 simp only [List.mem_cons, List.not_mem_nil, or_false] at hf
 rcases hf with rfl | rfl
 ·exact ⟨_, Try.type24⟩
 ·exact ⟨_, Try.type32⟩
def qjU (a0_n_0 : (List ((List UInt8) × (List UInt8)))) (a0_n_1 : (List ((List UInt8) × Int))) (a1_s : (List UInt8)) (a2_b : (List UInt8)) (Q : (List ((List UInt8) × (List UInt8))) → (List ((List UInt8) × Int)) → Prop) : Prop :=
 (qbL a0_n_0 a0_n_1) ∧ ((((a1_s, a2_b) ∈ a0_n_0) → Q a0_n_0 a0_n_1) ∧ ((¬ ((a1_s, a2_b) ∈ a0_n_0)) → ∀ (r21 : Bool), (r21 = true → a0_n_1 = []) → (∃ (J23 : (List ((List UInt8) × Int)) → Prop), (((r21 = true) → J23 ([] : List ((List UInt8) × Int))) ∧ ((r21 = false) → J23 a0_n_1)) ∧ ∀ (y23 : (List ((List UInt8) × Int))), J23 y23 → (∃ (J42 : (List ((List UInt8) × Int)) → Prop), (((¬ (((mfind a1_s y23).isSome) = true)) → J42 (mset a1_s (a0_n_0.length : Int) y23)) ∧ ((((mfind a1_s y23).isSome) = true) → J42 y23)) ∧ ∀ (y42 : (List ((List UInt8) × Int))), J42 y42 → ((a2_b.length ≤ 140737488355328) ∧ ((qao.wf a2_b) → (((a0_n_0.length + [(a1_s, a2_b)].length) * 56 ≤ 140737488355328) ∧ (Q (a0_n_0 ++ [(a1_s, a2_b)]) y42))))))))
theorem qsw {a0_n_0 : (List ((List UInt8) × (List UInt8)))} {a0_n_1 : (List ((List UInt8) × Int))} {a1_s : (List UInt8)} {a2_b : (List UInt8)} (w_0 : qaa.wf a1_s) (w_1 : qao.wf a2_b) (hp : qbL a0_n_0 a0_n_1 ∧ a2_b.length ≤ 140737488355328 ∧ (a0_n_0.length + 1) * 64 ≤ 140737488355328) : qjU a0_n_0 a0_n_1 a1_s a2_b (fun o0 o1 => o0 = (addL a0_n_0 a1_s a2_b) ∧ o1 = (addM a0_n_0 a0_n_1 a1_s a2_b)) := by
 obtain ⟨h1, h2, h3⟩ := hp
 have hlen : (a0_n_0.length + [(a1_s, a2_b)].length) * 56 ≤ 140737488355328 := by
  simp only [List.length_cons, List.length_nil]
  omega
 unfold qjU
 refine ⟨h1, fun h => ?_, fun h r hr => ?_⟩
 ·have hm := h
  exact ⟨by simp [addL, hm], by simp [addM, hm]⟩
 ·have hm := h
  refine ⟨fun m => m = a0_n_1, ⟨fun h => (hr h).symm, fun _ => rfl⟩, ?_⟩
  rintro m rfl
  refine ⟨fun m' => m' = if (mfind a1_s m).isSome then m else mset a1_s (a0_n_0.length : Int) m, ⟨fun h => by rw [if_neg h], fun h => by rw [if_pos h]⟩, ?_⟩
  rintro m' rfl
  exact ⟨h2, fun _ => ⟨hlen, by simp [addL, hm], by simp [addM, hm]⟩⟩
theorem qoa {w0 : World} {K0 : Ghost} {a0_n_b : Nat} {a0_n_pre a0_n_post : List Value} {a0_n_0v : Value} {a0_n_0 : (List ((List UInt8) × (List UInt8)))} {a0_n_1v : Value} {a0_n_1 : (List ((List UInt8) × Int))} {a1_s_v : Value} {a1_s : (List UInt8)} {a2_b_v : Value} {a2_b : (List UInt8)} {Q : (List ((List UInt8) × (List UInt8))) → (List ((List UInt8) × Int)) → Prop} (hM0 : Models w0 K0) (h_a0_n_B : Bx qaq w0 K0 a0_n_b a0_n_pre a0_n_post (a0_n_0v, a0_n_1v)) (h_a0_n_0 : Own qam 146 w0 K0 a0_n_0 a0_n_0v) (h_a0_n_1 : Mp qaa (Kd.int .i64) w0 K0 a0_n_1 a0_n_1v) (h_a1_s : qaa.V K0 a1_s a1_s_v) (h_a2_b : qao.V K0 a2_b a2_b_v) (h : qjU a0_n_0 a0_n_1 a1_s a2_b Q) : Calls Try.prog 86 #[(.pointer (some ⟨a0_n_b, a0_n_pre.length, none⟩)), a1_s_v, a2_b_v] w0 (fun e w' => ∃ (K' : Ghost) (u0_0 : Value) (u0_1 : Value) (o0 : (List ((List UInt8) × (List UInt8)))) (o1 : (List ((List UInt8) × Int))), e = .returned (.tuple #[]) ∧ Q o0 o1 ∧ Ext (fun c => c = a0_n_b ∨ ob a0_n_0v = some c ∨ mb a0_n_1v = some c) w0 K0 w' K' ∧ Models w' K' ∧ Bx qaq w' K' a0_n_b a0_n_pre a0_n_post (u0_0, u0_1) ∧ Own qam 146 w' K' o0 u0_0 ∧ (∀ g, ob u0_0 = some g → ob a0_n_0v = some g ∨ w0.heap.size ≤ g) ∧ Mp qaa (Kd.int .i64) w' K' o1 u0_1 ∧ (∀ g, mb u0_1 = some g → mb a0_n_1v = some g ∨ w0.heap.size ≤ g)) := by
 unfold qjU at h
 have hE0 : Ext (fun c => c = a0_n_b ∨ ob a0_n_0v = some c ∨ mb a0_n_1v = some c) w0 K0 w0 K0 := Ext.refl _ _ _
 refine qa7 fun R hR => ?_
 refine qaR (args := [(.pointer (some ⟨a0_n_b, a0_n_pre.length, none⟩)), a1_s_v, a2_b_v]) Try.func86 rfl (Nat.le_of_ble_eq_true rfl) ?_
 refine qah ?_
 refine qac ?_
 refine qaw rfl rfl (St_B (qhV hM0 rfl h_a1_s) ?_)
 rintro b6 w6 (hB6 : Bx qaa _ _ _ _ _ a1_s) hS6 hM6 hge6
 have hE6 := hE0.andN hS6
 refine qak ?_
 refine qah ?_
 refine qah ?_
 refine qac ?_
 refine qab (.pointer (some ⟨a0_n_b, a0_n_pre.length, none⟩)) (R_mv rfl) rfl rfl ?_
 refine WL_L hM6 (qby (Foc.id _) rfl ty24 hB6 (by first | rfl | simp | omega) (fun h => h)) rfl rfl ?_
 rintro v8 (hV8 : qaa.V _ a1_s _)
 refine qab a2_b_v (R_mv rfl) rfl rfl ?_
 have hR10 := (h_a0_n_0.extN hS6)
 have hR11 := (h_a0_n_1.extN hS6)
 have hR12 := (h_a0_n_B.extN hS6)
 obtain ⟨hp14, h⟩ := h
 refine qaw rfl rfl (qaQ (qbz Try.call120 rfl) ((qtN hM6 hR12 hR10 hR11 hV8 (h_a2_b.mono hS6.le) hp14).mono ?_))
 rintro _ w13 ⟨K13, v13_0, rfl, hS13, hM13, hV13_0⟩
 refine ⟨v13_0, rfl, ?_⟩
 have hE13 := hE6.andN hS13
 obtain rfl := qcu hV13_0
 refine qak ?_
 refine qaK (decide ((a1_s, a2_b) ∈ a0_n_0)) rfl (fun hc15 => ?_) (fun hc15 => ?_)
 ·have hd15 : (a1_s, a2_b) ∈ a0_n_0 := qh1 hc15
  have h := h.1 hd15
  refine qbY ?_
  have hR16 := (hR10.extN hS13)
  have hR17 := (hR11.extN hS13)
  have hR18 := (hR12.extN hS13)
  exact qbt hR (v := (.tuple #[])) (qpN rfl) ⟨K13, a0_n_0v, a0_n_1v, a0_n_0, a0_n_1, rfl, h, hE13, hM13, hR18, hR16, (fun g hg => (.inl hg)), hR17, (fun g hg => (.inl hg))⟩
 ·have hd15 : ¬ ((a1_s, a2_b) ∈ a0_n_0) := qh0 hc15
  have h := h.2 hd15
  refine qa3 ?_
  refine qah ?_
  refine qah ?_
  refine qac ?_
  refine qab (.pointer (some ⟨a0_n_b, a0_n_pre.length, none⟩)) (R_mv rfl) rfl rfl ?_
  refine qab (.pointer (some ⟨a0_n_b, a0_n_pre.length, none⟩)) (qaJ rfl) rfl rfl ?_
  refine qab (.pointer (some ⟨a0_n_b, a0_n_pre.length + 1, none⟩)) (R_fa rfl Try.underlying39 rfl rfl qgh rfl) rfl rfl ?_
  have hR20 := (hR12.extN hS13)
  refine WL_L hM13 (qby (Foc.snd Kd.rsl Kd.rmp) rfl qgh hR20 (by first | rfl | simp | omega) (fun h => h)) rfl rfl ?_
  rintro v19 (hV19 : Kd.rmp.V _ a0_n_1v _)
  obtain rfl := qbN hV19
  have hR22 := (hR11.extN hS13)
  refine qtC (qpy rfl rfl hR22 Try.underlying37) rfl rfl ?_
  rintro r21 ⟨hn21, hnn21⟩
  have h := h r21 (fun hx => (hn21 hx).2)
  refine qak ?_
  obtain ⟨J23, h, hJ23⟩ := h
  refine qlL [17, 18, 19, 20] (fun l w => ∃ y23 K z1_1, J23 y23 ∧ l = [] ∧ Ext (fun c => mb a0_n_1v = some c ∨ c = a0_n_b) w13 K13 w K ∧ Models w K ∧ Mp qaa (Kd.int .i64) w K y23 (.map (some z1_1)) ∧ (∀ g, mb (.map (some z1_1)) = some g → mb a0_n_1v = some g ∨ w13.heap.size ≤ g) ∧ Bx qaq w K a0_n_b a0_n_pre a0_n_post (a0_n_0v, (.map (some z1_1)))) ?_ ?_
  ·skip
   refine qaK r21 rfl (fun hc24 => ?_) (fun hc24 => ?_)
   ·have hd24 : r21 = true := hc24
    have h := h.1 hd24
    refine qac ?_
    refine qab (.pointer (some ⟨a0_n_b, a0_n_pre.length, none⟩)) (R_mv rfl) rfl rfl ?_
    refine qaw rfl rfl (qtA (qsn (kk := qaa) (kv := (Kd.int .i64)) hM13) ?_)
    rintro b25 w25 hO25 hS25 hM25 hge25
    have hf25 : ∀ g, mb (.map (some b25)) = some g → w0.heap.size ≤ g := fun g hg => by cases hg; exact Nat.le_trans hE13.size hge25
    have hE25 := hE13.andN hS25
    have hs27 : ∀ g, mb (.map (some b25)) = some g → ¬ (mb a0_n_1v = some g) := fun g hg hx => by cases hg; exact absurd (hR22.lt _ hx) (Nat.not_lt.2 hge25)
    refine qab (.pointer (some ⟨a0_n_b, a0_n_pre.length, none⟩)) (qaJ rfl) rfl rfl ?_
    refine qab (.pointer (some ⟨a0_n_b, a0_n_pre.length + 1, none⟩)) (R_fa rfl Try.underlying39 rfl rfl qgh rfl) rfl rfl ?_
    have hR29 := (hR20.extN hS25)
    refine qaw rfl rfl (qhX (qhW (Foc.snd Kd.rsl Kd.rmp) hM25 rfl rfl (rw_V hO25.one) qgh hR29 (by first | rfl | simp | omega)) ?_)
    rintro w28 (hB28 : Bx qaq _ _ a0_n_b a0_n_pre a0_n_post (a0_n_0v, (.map (some b25)))) hS28 hM28
    have hE28 := hE25.comp hS28 (fun c hx hlt => (by subst hx; exact (fun _ => (.inl rfl)) hlt))
    refine qak ?_
    have hR30 := (hO25.ext hS28 (fun g hg hx => (fun g hg hx => hO25.box hR29 (hg.trans (congrArg some hx))) g hg hx))
    exact qiI.mk [] ⟨([] : List ((List UInt8) × Int)), K13, b25, h, rfl, (((Ext.refl _ _ _).andN hS25).comp hS28 (fun c hx hlt => (.inr (hx)))), hM28, hR30, (fun g hg => .inr ((fun g hg => by cases hg; exact hge25) g hg)), hB28⟩ (by repeat (first | exact Off.lay0 rfl | exact Off.refl _ _ | refine Off.updO ?_ rfl _ | refine Off.updN ?_ _ | refine Off.lay ?_ rfl)) (by repeat (first | exact trivial | refine ⟨rfl, ?_⟩))
   ·have hd24 : r21 = false := hc24
    have h := h.2 hd24
    obtain ⟨b24, hv24⟩ := hnn21 hd24
    subst hv24
    refine qa3 ?_
    exact qiI.mk [] ⟨a0_n_1, K13, b24, h, rfl, (Ext.refl _ _ _), hM13, hR22, (fun g hg => (.inl hg)), hR20⟩ (by repeat (first | exact Off.lay0 rfl | exact Off.refl _ _ | refine Off.updO ?_ rfl _ | refine Off.updN ?_ _ | refine Off.lay ?_ rfl)) (by repeat (first | exact trivial | refine ⟨rfl, ?_⟩))
  rintro l σ23 w31 ⟨y23, K31, z1_1_23, hI, rfl, hX31, hM31, hL23_z1_1, ho23_z1_1, hL23_1⟩
  have h := hJ23 y23 hI
  have hE31 := hE13.comp hX31 (fun c hx hlt => Or.elim hx (fun hx => (fun g hg _ => (.inr (.inr (hg)))) c hx hlt) (fun hx => (by subst hx; exact (fun _ => (.inl rfl)) hlt)))
  have hf32 : ∀ g, mb (.map (some z1_1_23)) = some g → g < w0.heap.size → g = a0_n_b ∨ ob a0_n_0v = some g ∨ mb a0_n_1v = some g := fun g hg hlt => (ho23_z1_1 g hg).elim (fun hx => (fun g hg _ => (.inr (.inr (hg)))) g hx hlt) (fun hx => absurd hlt (Nat.not_lt.2 (Nat.le_trans hE13.size hx)))
  refine qah ?_
  refine qah ?_
  refine qdD (K := K31) NX [.o 0 2, .o 1 2, .o 2 2, .o 3 2, .o 4 2, .o 5 2, .o 6 2, .o 7 2, .o 8 2, .o 9 2, .o 10 2] (by kernel_rfl) (by kernel_rfl) hM31 ?_
  rintro w33 hS33 hM33
  have hE33 := hE31.andN hS33
  refine qal (.pointer (some ⟨a0_n_b, a0_n_pre.length, none⟩)) rfl l0 hM33 (fun _ => R_mv rfl) rfl (gN rfl) rfl ?_
  refine qal (.pointer (some ⟨a0_n_b, a0_n_pre.length, none⟩)) rfl l0 hM33 (fun _ => qaJ rfl) rfl (gN rfl) rfl ?_
  refine qal (.pointer (some ⟨a0_n_b, a0_n_pre.length + 1, none⟩)) rfl l0 hM33 (fun _ => R_fa rfl Try.underlying39 rfl rfl qgh rfl) rfl (gN rfl) rfl ?_
  have hR35 := (hL23_1.extN hS33)
  refine qdY hM33 (qby (Foc.snd Kd.rsl Kd.rmp) rfl qgh hR35 (by first | rfl | simp | omega) (fun h => h)) rfl (gN rfl) rfl ?_
  rintro v34 (hV34 : Kd.rmp.V _ (.map (some z1_1_23)) _)
  obtain rfl := qbN hV34
  have hR37 := (hB6.extN hS13)
  have hR38 := ((hR37.ext hX31 (fun hx => Or.elim hx (fun hx => (hR22.box hR37) hx) (fun hx => (qcP hge6 h_a0_n_B.lt) hx))).extN hS33)
  refine qdY hM33 (qby (Foc.id _) rfl ty24 hR38 (by first | rfl | simp | omega) (fun h => h)) rfl (gN rfl) rfl ?_
  rintro v36 (hV36 : qaa.V _ a1_s _)
  have hR41 := (hL23_z1_1.extN hS33)
  refine qpz hM33 (qqo (kv := (Kd.int .i64)) rfl rfl hR41 hV36 Try.underlying37 (qd7 Try.underlying24 Try.underlying5 ty5b) ty3 (fun _ _ h => h)) rfl (gN rfl) rfl ?_
  rintro v40 (hV40 : (Kd.int .i64).V _ ((mfind a1_s y23).getD 0) _)
  obtain rfl := qbu hV40
  refine qal (.tuple #[(.int .i64 ((mfind a1_s y23).getD 0)), (.bool ((mfind a1_s y23).isSome))]) rfl l0 hM33 (fun _ => R_mv rfl) rfl (gN rfl) rfl ?_
  refine qal (.int .i64 ((mfind a1_s y23).getD 0)) rfl l0 hM33 (fun _ => qly rfl rfl) rfl (gN rfl) rfl ?_
  refine qal (.bool ((mfind a1_s y23).isSome)) rfl l0 hM33 (fun _ => qly rfl rfl) rfl (gN rfl) rfl ?_
  refine qal (.int .i64 ((mfind a1_s y23).getD 0)) rfl l0 hM33 (fun _ => R_as rfl) rfl (gN rfl) rfl ?_
  refine qal (.bool ((mfind a1_s y23).isSome)) rfl l0 hM33 (fun _ => R_as rfl) rfl (gN rfl) rfl ?_
  refine qfs ?_
  refine qah ?_
  refine qac ?_
  refine qab (.bool ((mfind a1_s y23).isSome)) (R_mv rfl) rfl rfl ?_
  refine qab (.bool (!((mfind a1_s y23).isSome))) (qkF rfl) rfl rfl ?_
  refine qak ?_
  obtain ⟨J42, h, hJ42⟩ := h
  refine qlL [32, 33, 34, 35, 36, 37, 38, 39, 40, 41] (fun l w => ∃ y42 K z1_1, J42 y42 ∧ l = [] ∧ Ext (fun c => mb (.map (some z1_1_23)) = some c ∨ c = a0_n_b) w33 K31 w K ∧ Models w K ∧ Mp qaa (Kd.int .i64) w K y42 (.map (some z1_1)) ∧ (∀ g, mb (.map (some z1_1)) = some g → mb (.map (some z1_1_23)) = some g ∨ w33.heap.size ≤ g) ∧ Bx qaq w K a0_n_b a0_n_pre a0_n_post (a0_n_0v, (.map (some z1_1)))) ?_ ?_
  ·skip
   refine qaK (!((mfind a1_s y23).isSome)) rfl (fun hc43 => ?_) (fun hc43 => ?_)
   ·have hd43 : ¬ (((mfind a1_s y23).isSome) = true) := qsN hc43
    have h := h.1 hd43
    refine qdD (K := K31) (fun c => mb (.map (some z1_1_23)) = some c ∨ w33.heap.size ≤ c) [.o 0 2, .o 1 2, .o 2 2, .o 3 2, .o 4 2, .o 5 2, .o 6 2, .o 7 2, .o 8 2, .o 9 2, .o 10 1] (by kernel_rfl) (by kernel_rfl) hM33 ?_
    rintro w44 hS44 hM44
    have hE44 := hE33.andN hS44
    refine qal (.pointer (some ⟨a0_n_b, a0_n_pre.length, none⟩)) rfl l0 hM44 (fun _ => R_mv rfl) rfl (gN rfl) rfl ?_
    refine qal (.pointer (some ⟨a0_n_b, a0_n_pre.length, none⟩)) rfl l0 hM44 (fun _ => qaJ rfl) rfl (gN rfl) rfl ?_
    refine qal (.pointer (some ⟨a0_n_b, a0_n_pre.length + 1, none⟩)) rfl l0 hM44 (fun _ => R_fa rfl Try.underlying39 rfl rfl qgh rfl) rfl (gN rfl) rfl ?_
    have hR46 := (hR35.extN hS44)
    refine qdY hM44 (qby (Foc.snd Kd.rsl Kd.rmp) rfl qgh hR46 (by first | rfl | simp | omega) (fun h => h)) rfl (gN rfl) rfl ?_
    rintro v45 (hV45 : Kd.rmp.V _ (.map (some z1_1_23)) _)
    obtain rfl := qbN hV45
    have hR48 := (hR38.extN hS44)
    refine qdY hM44 (qby (Foc.id _) rfl ty24 hR48 (by first | rfl | simp | omega) (fun h => h)) rfl (gN rfl) rfl ?_
    rintro v47 (hV47 : qaa.V _ a1_s _)
    refine qal (.pointer (some ⟨a0_n_b, a0_n_pre.length, none⟩)) rfl l0 hM44 (fun _ => R_mv rfl) rfl (gN rfl) rfl ?_
    refine qal (.pointer (some ⟨a0_n_b, a0_n_pre.length, none⟩)) rfl l0 hM44 (fun _ => qaJ rfl) rfl (gN rfl) rfl ?_
    refine qal (.pointer (some ⟨a0_n_b, a0_n_pre.length + 0, none⟩)) rfl l0 hM44 (fun _ => R_fa rfl Try.underlying39 rfl rfl qiv rfl) rfl (gN rfl) rfl ?_
    refine qdY hM44 (qby (Foc.fst Kd.rsl Kd.rmp) rfl qiv hR46 (by first | rfl | simp | omega) (fun h => h)) rfl (gN rfl) rfl ?_
    rintro v50 (hV50 : Kd.rsl.V _ a0_n_0v _)
    obtain rfl := qbN hV50
    refine qal (.int .i64 (a0_n_0.length : Int)) rfl l0 hM44 (fun _ => qfq rfl (hR10.V.mono (hS13.le.trans (hX31.le.trans (hS33.le.trans hS44.le)))) Try.underlying36) rfl (gN rfl) rfl ?_
    have hR52 := (hR41.extN hS44)
    refine qhY rfl (gN rfl) rfl (qtB (qso hM44 rfl rfl rfl hR52 hV47 (qfL (qcv ((hR10).V).wf.1)) Try.underlying37 (qd7 Try.underlying24 Try.underlying5 ty5b)) ?_)
    rintro w51 hO51 hS51 hM51
    have hS51 : Ext (fun c => mb (.map (some z1_1_23)) = some c) w44 K31 w51 K31 := hS51.weak (fun c _ hc => congrArg some hc.symm)
    refine ⟨K31, (hS51.weak (fun c hlt hx => (.inl (hx)))), hM51, ?_⟩
    have hE51 := hE44.comp hS51 (fun c hx hlt => hf32 c hx hlt)
    refine qfs ?_
    have hR53 := (hR46.ext hS51 (fun hx => (hR52.box hR46) hx))
    exact qiI.mk [] ⟨(mset a1_s (a0_n_0.length : Int) y23), K31, z1_1_23, h, rfl, (((Ext.refl _ _ _).andN hS44).comp hS51 (fun c hx hlt => (.inl (hx)))), hM51, hO51, (fun g hg => (.inl hg)), hR53⟩ (by repeat (first | exact Off.lay0 rfl | exact Off.refl _ _ | refine Off.updO ?_ rfl _ | refine Off.updN ?_ _ | refine Off.lay ?_ rfl)) (by repeat (first | exact trivial | refine ⟨rfl, ?_⟩))
   ·have hd43 : ((mfind a1_s y23).isSome) = true := qsM hc43
    have h := h.2 hd43
    refine qa3 ?_
    exact qiI.mk [] ⟨y23, K31, z1_1_23, h, rfl, (Ext.refl _ _ _), hM33, hR41, (fun g hg => (.inl hg)), hR35⟩ (by repeat (first | exact Off.lay0 rfl | exact Off.refl _ _ | refine Off.updO ?_ rfl _ | refine Off.updN ?_ _ | refine Off.lay ?_ rfl)) (by repeat (first | exact trivial | refine ⟨rfl, ?_⟩))
  rintro l σ42 w54 ⟨y42, K54, z1_1_42, hI, rfl, hX54, hM54, hL42_z1_1, ho42_z1_1, hL42_1⟩
  have h := hJ42 y42 hI
  have hE54 := hE33.comp hX54 (fun c hx hlt => Or.elim hx (fun hx => hf32 c hx hlt) (fun hx => (by subst hx; exact (fun _ => (.inl rfl)) hlt)))
  have hf55 : ∀ g, mb (.map (some z1_1_42)) = some g → g < w0.heap.size → g = a0_n_b ∨ ob a0_n_0v = some g ∨ mb a0_n_1v = some g := fun g hg hlt => (ho42_z1_1 g hg).elim (fun hx => hf32 g hx hlt) (fun hx => absurd hlt (Nat.not_lt.2 (Nat.le_trans hE33.size hx)))
  have hR56 := (hR10.extN hS13)
  have hR57 := ((hR56.ext hX31 (fun g hg hx => Or.elim hx (fun hx => (fun g hg => hR22.own hR56 g hg) g hg hx) (fun hx => (fun g hg hx => hR56.box hR20 (hg.trans (congrArg some hx))) g hg hx))).extN hS33)
  have hR58 := (hR57.ext hX54 (fun g hg hx => Or.elim hx (fun hx => (fun g hg => hR41.own hR57 g hg) g hg hx) (fun hx => (fun g hg hx => hR57.box hR35 (hg.trans (congrArg some hx))) g hg hx)))
  have hR59 := (hR38.ext hX54 (fun hx => Or.elim hx (fun hx => (hR41.box hR38) hx) (fun hx => (qcP hge6 h_a0_n_B.lt) hx)))
  refine qdD (K := K54) (fun c => c = a0_n_b ∨ ob a0_n_0v = some c ∨ w54.heap.size ≤ c) [.o 0 3, .o 1 2, .o 2 2, .o 3 2, .o 4 2, .o 5 2, .o 6 2, .o 7 0, .o 8 2, .o 9 0, .o 10 1, .o 11 3, .o 12 3, .o 13 1] (by kernel_rfl) (by kernel_rfl) hM54 ?_
  rintro w60 hS60 hM60
  have hE60 := hE54.andN hS60
  refine qal (.pointer (some ⟨a0_n_b, a0_n_pre.length, none⟩)) rfl l3 hM60 (fun _ => R_mv rfl) rfl (gN rfl) rfl ?_
  refine qal (.pointer (some ⟨a0_n_b, a0_n_pre.length, none⟩)) rfl l0 hM60 (fun _ => R_mv rfl) rfl (gN rfl) rfl ?_
  refine qal (.pointer (some ⟨a0_n_b, a0_n_pre.length, none⟩)) rfl l0 hM60 (fun _ => qaJ rfl) rfl (gN rfl) rfl ?_
  refine qal (.pointer (some ⟨a0_n_b, a0_n_pre.length + 0, none⟩)) rfl l0 hM60 (fun _ => R_fa rfl Try.underlying39 rfl rfl qiv rfl) rfl (gN rfl) rfl ?_
  have hR62 := (hL42_1.extN hS60)
  refine qdY hM60 (qby (Foc.fst Kd.rsl Kd.rmp) rfl qiv hR62 (by first | rfl | simp | omega) (fun h => h)) rfl (gN rfl) rfl ?_
  rintro v61 (hV61 : Kd.rsl.V _ a0_n_0v _)
  obtain rfl := qbN hV61
  have hR64 := (hR59.extN hS60)
  refine qdY hM60 (qby (Foc.id _) rfl ty24 hR64 (by first | rfl | simp | omega) (fun h => h)) rfl (gN rfl) rfl ?_
  rintro v63 (hV63 : qaa.V _ a1_s _)
  refine qal a2_b_v rfl l0 hM60 (fun _ => R_mv rfl) rfl (gN rfl) rfl ?_
  have hR66 := (hR58.extN hS60)
  have hR67 := (hL42_z1_1.extN hS60)
  obtain ⟨hp69, h⟩ := h
  refine qiQ rfl (gN rfl) rfl (qaQ (qbz Try.call69 rfl) ((qpZ hM60 (h_a2_b.mono (hS6.le.trans (hS13.le.trans (hX31.le.trans (hS33.le.trans (hX54.le.trans hS60.le)))))) hp69).mono ?_))
  rintro _ w68 ⟨K68, v68_0, rfl, hS68, hM68, hO68_0, hg68_0⟩
  refine ⟨v68_0, rfl, ?_⟩
  refine ⟨K68, hS68, hM68, ?_⟩
  have hE68 := hE60.andN hS68
  have h := h hO68_0.wf
  refine WO_V rfl l0 hM68 (qsh (K := K68) (vs := [(0, v63), (1, v68_0)]) (Z := (a1_s, a2_b)) qk6 rfl Try.underlying146 (qtM Try.underlying146) rfl (Parts.cons rfl rfl ty24 (Foc.fst qaa qao) (hV63.mono hS68.le) (Parts.cons rfl rfl ty32 (Foc.snd qaa qao) hO68_0.V Parts.nil))) rfl (gN rfl) rfl ?_
  rintro v71 (hV71 : qam.V _ (a1_s, a2_b) _)
  refine qiQ rfl (gN rfl) rfl (qg5 (qga (k := qam) (l := [((a1_s, a2_b), v71)]) hM68 rfl (by intro p hp; simp only [List.mem_cons, List.not_mem_nil, or_false] at hp; subst hp; exact hV71) rfl Try.underlying36 qk6 rfl rfl) ?_)
  rintro v73 w73 K73 (hO73 : Own qam 146 w73 K73 [(a1_s, a2_b)] v73) hS73 hM73 hg73
  refine ⟨K73, hS73, hM73, ?_⟩
  have hE73 := hE68.andN hS73
  have hR75 := (hR66.extN hS68)
  have hR76 := ((hR66.extN hS68).extN hS73)
  obtain ⟨hp78, h⟩ := h
  refine qhY rfl (gN rfl) rfl (St_S (qse hM73 rfl hR76 rfl hO73.V Try.underlying36 qk6 rfl hp78) ?_)
  rintro v77 w77 K77 hO77 hS77 hM77 hob77
  refine ⟨K77, (hS77.weak (fun c hlt hx => (.inr (.inl (hx))))), hM77, ?_⟩
  have hE77 := hE73.comp hS77 (fun c hx hlt => (fun g hg _ => (.inr (.inl hg))) c hx hlt)
  have hR79 := (hO73.ext hS77 (fun g hg hx => (fun g hg hx => absurd (hR75.lt _ hx) (Nat.not_lt.2 (hg73 g hg))) g hg hx))
  have hfx77 : ∀ g, ob v77 = some g → g < w0.heap.size → g = a0_n_b ∨ ob a0_n_0v = some g ∨ mb a0_n_1v = some g := fun g hg hlt => by rcases hob77 with hq | hq <;> rw [hq] at hg; exact (fun g hg _ => (.inr (.inl hg))) g hg hlt; cases hg; exact absurd hlt (Nat.not_lt.2 hE73.size)
  have hs81 : ∀ g, ob v77 = some g → ¬ (ob v73 = some g) := fun g hg hx => by rcases hob77 with hq | hq <;> rw [hq] at hg; exact (fun g hg hx => (fun g hg hx => absurd (hR75.lt _ hx) (Nat.not_lt.2 (hg73 g hg))) g hx hg) g hg hx; cases hg; exact absurd (hO73.lt _ hx) (Nat.not_lt.2 (Nat.le_refl _))
  refine qal (.pointer (some ⟨a0_n_b, a0_n_pre.length, none⟩)) rfl l3 hM77 (fun _ => qaJ rfl) rfl (gN rfl) rfl ?_
  refine qal (.pointer (some ⟨a0_n_b, a0_n_pre.length + 0, none⟩)) rfl l3 hM77 (fun _ => R_fa rfl Try.underlying39 rfl rfl qiv rfl) rfl (gN rfl) rfl ?_
  have hR83 := ((hR62.extN hS68).extN hS73)
  have hR84 := (hR83.ext hS77 (fun hx => (hR76.box hR83) hx))
  refine qhY rfl (gN rfl) rfl (qhX (qhW (Foc.fst Kd.rsl Kd.rmp) hM77 rfl rfl (rw_V hO77.one) qiv hR84 (by first | rfl | simp | omega)) ?_)
  rintro w82 (hB82 : Bx qaq _ _ a0_n_b a0_n_pre a0_n_post (v77, (.map (some z1_1_42)))) hS82 hM82
  refine ⟨K77, (hS82.weak (fun c hlt hx => (.inl (hx)))), hM82, ?_⟩
  have hE82 := hE77.comp hS82 (fun c hx hlt => (by subst hx; exact (fun _ => (.inl rfl)) hlt))
  refine qfs ?_
  have hR85 := (hO77.ext hS82 (fun g hg hx => (fun g hg hx => hO77.box hR84 (hg.trans (congrArg some hx))) g hg hx))
  have hR86 := ((hR67.extN hS68).extN hS73)
  have hR87 := (hR86.ext hS77 (fun g hg hx => (fun g hg hx => hR86.own hR76 g hx hg) g hg hx))
  have hR88 := (hR87.ext hS82 (fun g hg hx => (fun g hg hx => hR87.box hR84 (hg.trans (congrArg some hx))) g hg hx))
  exact qow hR (v := (.tuple #[])) (qpN rfl) ⟨K77, v77, (.map (some z1_1_42)), (a0_n_0 ++ [(a1_s, a2_b)]), y42, rfl, h, hE82, hM82, hB82, hR85, (fun g hg => (by have hg : ob v77 = some g := hg; rcases hob77 with hq | hq <;> rw [hq] at hg; exact (.inl hg); cases hg; exact .inr hE73.size)), hR88, (fun g hg => ((ho42_z1_1 g hg).elim (fun hz => ((ho23_z1_1 g hz).elim (fun hz => (.inl hz)) (fun hz => .inr (Nat.le_trans hE13.size hz)))) (fun hz => .inr (Nat.le_trans hE33.size hz))))⟩
theorem qtD {w0 : World} {K0 : Ghost} {a0_n_b : Nat} {a0_n_pre a0_n_post : List Value} {a0_n_0v : Value} {a0_n_0 : (List ((List UInt8) × (List UInt8)))} {a0_n_1v : Value} {a0_n_1 : (List ((List UInt8) × Int))} {a1_s_v : Value} {a1_s : (List UInt8)} {a2_b_v : Value} {a2_b : (List UInt8)} (hM0 : Models w0 K0) (h_a0_n_B : Bx qaq w0 K0 a0_n_b a0_n_pre a0_n_post (a0_n_0v, a0_n_1v)) (h_a0_n_0 : Own qam 146 w0 K0 a0_n_0 a0_n_0v) (h_a0_n_1 : Mp qaa (Kd.int .i64) w0 K0 a0_n_1 a0_n_1v) (h_a1_s : qaa.V K0 a1_s a1_s_v) (h_a2_b : qao.V K0 a2_b a2_b_v) (hp : qbL a0_n_0 a0_n_1 ∧ a2_b.length ≤ 140737488355328 ∧ (a0_n_0.length + 1) * 64 ≤ 140737488355328) : Calls Try.prog 86 #[(.pointer (some ⟨a0_n_b, a0_n_pre.length, none⟩)), a1_s_v, a2_b_v] w0 (fun e w' => ∃ (K' : Ghost) (u0_0 : Value) (u0_1 : Value), e = .returned (.tuple #[]) ∧ Ext (fun c => c = a0_n_b ∨ ob a0_n_0v = some c ∨ mb a0_n_1v = some c) w0 K0 w' K' ∧ Models w' K' ∧ Bx qaq w' K' a0_n_b a0_n_pre a0_n_post (u0_0, u0_1) ∧ Own qam 146 w' K' (addL a0_n_0 a1_s a2_b) u0_0 ∧ (∀ g, ob u0_0 = some g → ob a0_n_0v = some g ∨ w0.heap.size ≤ g) ∧ Mp qaa (Kd.int .i64) w' K' (addM a0_n_0 a0_n_1 a1_s a2_b) u0_1 ∧ (∀ g, mb u0_1 = some g → mb a0_n_1v = some g ∨ w0.heap.size ≤ g)) := by
 refine (qoa hM0 h_a0_n_B h_a0_n_0 h_a0_n_1 h_a1_s h_a2_b (qsw h_a1_s.wf h_a2_b.wf hp)).mono ?_
 rintro _ w' ⟨K', u0, u1, o0, o1, rfl, ⟨rfl, rfl⟩, hF⟩
 exact ⟨K', u0, u1, rfl, hF⟩
abbrev qbc : Kd ((Value × Value) × Int) := (Kd.pr qaq (Kd.int .i64))
theorem ty39 : TyOk Try.prog 39 qaq 32 := ⟨⟨Try.t39, _, Try.type39, rfl, rfl, rfl, rfl, rfl⟩, ⟨_, Try.underlying39, rfl⟩⟩
abbrev qrB := qaW 146
def qjL (a0_k_0_0 : (List ((List UInt8) × (List UInt8)))) (a0_k_0_1 : (List ((List UInt8) × Int))) (a0_k_1 : Int) (a1_kind : Int) (a2_parts : (List (List UInt8))) (Q : (List UInt8) → (List ((List UInt8) × (List UInt8))) → (List ((List UInt8) × Int)) → Int → Prop) : Prop :=
 (1 + qai a2_parts ≤ 140737488355328) ∧ ((qao.wf (preimage a1_kind a2_parts)) → (((1 + [(preimage a1_kind a2_parts)].length) * 24 ≤ 140737488355328 ∧ [(preimage a1_kind a2_parts)].flatten.length ≤ 140737488355328) ∧ ((qaa.wf (qa1 [(preimage a1_kind a2_parts)])) → ((qbL a0_k_0_0 a0_k_0_1 ∧ (preimage a1_kind a2_parts).length ≤ 140737488355328 ∧ (a0_k_0_0.length + 1) * 64 ≤ 140737488355328) ∧ (Q (qa1 [(preimage a1_kind a2_parts)]) (addL a0_k_0_0 (qa1 [(preimage a1_kind a2_parts)]) (preimage a1_kind a2_parts)) (addM a0_k_0_0 a0_k_0_1 (qa1 [(preimage a1_kind a2_parts)]) (preimage a1_kind a2_parts)) (IntKind.i64.wrap (a0_k_1 + 1)))))))
theorem qrO {a0_k_0_0 : (List ((List UInt8) × (List UInt8)))} {a0_k_0_1 : (List ((List UInt8) × Int))} {a0_k_1 : Int} {a1_kind : Int} {a2_parts : (List (List UInt8))} (w_0 : (Kd.int .i64).wf a1_kind) (w_1 : qa0.wf a2_parts) (hp : qbL a0_k_0_0 a0_k_0_1 ∧ 1 + qai a2_parts ≤ 140737488355328 ∧ (a0_k_0_0.length + 1) * 64 ≤ 140737488355328) : qjL a0_k_0_0 a0_k_0_1 a0_k_1 a1_kind a2_parts (fun o0 o1 o2 o3 => o0 = (qae a1_kind a2_parts) ∧ o1 = (addL a0_k_0_0 (qae a1_kind a2_parts) (preimage a1_kind a2_parts)) ∧ o2 = (addM a0_k_0_0 a0_k_0_1 (qae a1_kind a2_parts) (preimage a1_kind a2_parts)) ∧ o3 = (IntKind.i64.wrap (a0_k_1 + 1))) := by
 obtain ⟨h1, h2, h3⟩ := hp
 have hl := qcj a1_kind h2
 unfold qjL
 exact ⟨h2, fun _ => ⟨⟨by simp, by simpa using by omega⟩, fun _ => ⟨⟨h1, by omega, h3⟩, rfl, rfl, rfl, rfl⟩⟩⟩
theorem qnU {w0 : World} {K0 : Ghost} {a0_k_b : Nat} {a0_k_pre a0_k_post : List Value} {a0_k_0_0v : Value} {a0_k_0_0 : (List ((List UInt8) × (List UInt8)))} {a0_k_0_1v : Value} {a0_k_0_1 : (List ((List UInt8) × Int))} {a0_k_1 : Int} {a1_kind_v : Value} {a1_kind : Int} {a2_parts_v : Value} {a2_parts : (List (List UInt8))} {Q : (List UInt8) → (List ((List UInt8) × (List UInt8))) → (List ((List UInt8) × Int)) → Int → Prop} (hM0 : Models w0 K0) (h_a0_k_B : Bx qbc w0 K0 a0_k_b a0_k_pre a0_k_post ((a0_k_0_0v, a0_k_0_1v), a0_k_1)) (h_a0_k_0_0 : Own qam 146 w0 K0 a0_k_0_0 a0_k_0_0v) (h_a0_k_0_1 : Mp qaa (Kd.int .i64) w0 K0 a0_k_0_1 a0_k_0_1v) (h_a1_kind : (Kd.int .i64).V K0 a1_kind a1_kind_v) (h_a2_parts : qa0.V K0 a2_parts a2_parts_v) (h : qjL a0_k_0_0 a0_k_0_1 a0_k_1 a1_kind a2_parts Q) : Calls Try.prog 67 #[(.pointer (some ⟨a0_k_b, a0_k_pre.length, none⟩)), a1_kind_v, a2_parts_v] w0 (fun e w' => ∃ (K' : Ghost) (r0 : Value) (u0_0_0 : Value) (u0_0_1 : Value) (o0 : (List UInt8)) (o1 : (List ((List UInt8) × (List UInt8)))) (o2 : (List ((List UInt8) × Int))) (o3 : Int), e = .returned r0 ∧ Q o0 o1 o2 o3 ∧ Ext (fun c => c = a0_k_b ∨ ob a0_k_0_0v = some c ∨ mb a0_k_0_1v = some c) w0 K0 w' K' ∧ Models w' K' ∧ qaa.V K' o0 r0 ∧ Bx qbc w' K' a0_k_b a0_k_pre a0_k_post ((u0_0_0, u0_0_1), o3) ∧ Own qam 146 w' K' o1 u0_0_0 ∧ (∀ g, ob u0_0_0 = some g → ob a0_k_0_0v = some g ∨ w0.heap.size ≤ g) ∧ Mp qaa (Kd.int .i64) w' K' o2 u0_0_1 ∧ (∀ g, mb u0_0_1 = some g → mb a0_k_0_1v = some g ∨ w0.heap.size ≤ g)) := by
 unfold qjL at h
 obtain rfl := qbu h_a1_kind
 have hE0 : Ext (fun c => c = a0_k_b ∨ ob a0_k_0_0v = some c ∨ mb a0_k_0_1v = some c) w0 K0 w0 K0 := Ext.refl _ _ _
 refine qa7 fun R hR => ?_
 refine qaR (args := [(.pointer (some ⟨a0_k_b, a0_k_pre.length, none⟩)), (.int .i64 a1_kind), a2_parts_v]) Try.func67 rfl (Nat.le_of_ble_eq_true rfl) ?_
 refine qah ?_
 refine qac ?_
 refine qaw rfl rfl (St_B (qdC hM0 ty24) ?_)
 rintro b5 w5 (hB5 : Bx qaa _ _ _ _ _ (List.replicate 32 0)) hS5 hM5 hge5
 have hE5 := hE0.andN hS5
 refine qak ?_
 refine qah ?_
 refine qac ?_
 refine qab (.int .i64 a1_kind) (R_mv rfl) rfl rfl ?_
 refine qab a2_parts_v (R_mv rfl) rfl rfl ?_
 have hR7 := (h_a0_k_0_0.extN hS5)
 have hR8 := (h_a0_k_0_1.extN hS5)
 have hR9 := (h_a0_k_B.extN hS5)
 obtain ⟨hp11, h⟩ := h
 refine qaw rfl rfl (qaQ (qbz Try.call98 rfl) ((qgq hM5 (qfL (h_a1_kind).wf) (h_a2_parts.mono hS5.le) hp11).mono ?_))
 rintro _ w10 ⟨K10, v10_0, rfl, hS10, hM10, hO10_0, hg10_0⟩
 refine ⟨v10_0, rfl, ?_⟩
 have hE10 := hE5.andN hS10
 have h := h hO10_0.wf
 refine qab v10_0 (R_as rfl) rfl rfl ?_
 refine qak ?_
 refine qah ?_
 refine qac ?_
 refine qab v10_0 (R_mv rfl) rfl rfl ?_
 refine qaw rfl rfl (qg5 (qga (k := qao) (l := [((preimage a1_kind a2_parts), v10_0)]) hM10 rfl (by intro p hp; simp only [List.mem_cons, List.not_mem_nil, or_false] at hp; subst hp; exact hO10_0.V) rfl Try.underlying96 ty32 rfl rfl) ?_)
 rintro v13 w13 K13 (hO13 : Own qao 32 w13 K13 [(preimage a1_kind a2_parts)] v13) hS13 hM13 hg13
 have hE13 := hE10.andN hS13
 obtain ⟨hp16, h⟩ := h
 refine qaw rfl rfl (qaQ (qbz Try.call110 rfl) ((qjP hM13 hO13.V hp16).mono ?_))
 rintro _ w15 ⟨K15, v15_0, rfl, hS15, hM15, hV15_0⟩
 refine ⟨v15_0, rfl, ?_⟩
 have hE15 := hE13.andN hS15
 have h := h hV15_0.wf
 refine qaw rfl rfl (St_B (qdC hM15 ty24) ?_)
 rintro b18 w18 (hB18 : Bx qaa _ _ _ _ _ (List.replicate 32 0)) hS18 hM18 hge18
 have hE18 := hE15.andN hS18
 have hR20 := (((hR9.extN hS10).extN hS13).extN hS15)
 have hR21 := (((hB5.extN hS10).extN hS13).extN hS15)
 refine qaw rfl rfl (qhX (qhW (Foc.id _) hM18 rfl rfl (hV15_0.mono hS18.le) ty24 hB18 (by first | rfl | simp | omega)) ?_)
 rintro w22 (hB22 : Bx qaa _ _ b18 [] [] (qa1 [(preimage a1_kind a2_parts)])) hS22 hM22
 have hE22 := hE18.comp hS22 (fun c hx hlt => (by subst hx; exact (fun hlt => absurd hlt (Nat.not_lt.2 (Nat.le_trans hE15.size hge18))) hlt))
 refine qak ?_
 refine qah ?_
 refine qah ?_
 refine qac ?_
 refine qab (.pointer (some ⟨a0_k_b, a0_k_pre.length, none⟩)) (R_mv rfl) rfl rfl ?_
 refine qab (.bool true) (qnY rfl rfl Try.underlying35) rfl rfl ?_
 refine qak ?_
 refine qaK true rfl (fun _ => ?_) (fun hc => by cases hc)
 refine qah ?_
 refine qac ?_
 refine qab (.pointer (some ⟨a0_k_b, a0_k_pre.length, none⟩)) (R_mv rfl) rfl rfl ?_
 refine qab (.pointer (some ⟨a0_k_b, a0_k_pre.length, none⟩)) (qaJ rfl) rfl rfl ?_
 refine qab (.pointer (some ⟨a0_k_b, a0_k_pre.length + 2, none⟩)) (R_fa rfl Try.underlying41 rfl rfl ty3 rfl) rfl rfl ?_
 have hR24 := ((((hR9.extN hS10).extN hS13).extN hS15).extN hS18)
 have hR25 := (hR24.ext hS22 (fun hx => (fun he => (qcP hge18 hR20.lt) he.symm) hx))
 refine WL_L hM22 (qby (Foc.snd qaq (Kd.int .i64)) rfl ty3 hR25 (by first | rfl | simp | omega) (fun h => h)) rfl rfl ?_
 rintro v23 (hV23 : (Kd.int .i64).V _ a0_k_1 _)
 obtain rfl := qbu hV23
 refine qab (.int .i64 (IntKind.i64.wrap (a0_k_1 + 1))) (qf9 rfl rfl) rfl rfl ?_
 refine qab (.pointer (some ⟨a0_k_b, a0_k_pre.length, none⟩)) (qaJ rfl) rfl rfl ?_
 refine qab (.pointer (some ⟨a0_k_b, a0_k_pre.length + 2, none⟩)) (R_fa rfl Try.underlying41 rfl rfl ty3 rfl) rfl rfl ?_
 refine qaw rfl rfl (qhX (qhW (Foc.snd qaq (Kd.int .i64)) hM22 rfl rfl (qfL (qcq _ _)) ty3 hR25 (by first | rfl | simp | omega)) ?_)
 rintro w26 (hB26 : Bx qbc _ _ a0_k_b a0_k_pre a0_k_post ((a0_k_0_0v, a0_k_0_1v), (IntKind.i64.wrap (a0_k_1 + 1)))) hS26 hM26
 have hE26 := hE22.comp hS26 (fun c hx hlt => (by subst hx; exact (fun _ => (.inl rfl)) hlt))
 refine qak ?_
 have hR27 := (hB22.ext hS26 (fun hx => (qcP hge18 hR20.lt) hx))
 have hR28 := ((((hR7.extN hS10).extN hS13).extN hS15).extN hS18)
 have hR29 := (hR28.ext hS22 (fun g hg hx => (fun g hg hx => hR28.box hB18 (hg.trans (congrArg some hx))) g hg hx))
 have hR30 := (hR29.ext hS26 (fun g hg hx => (fun g hg hx => hR29.box hR25 (hg.trans (congrArg some hx))) g hg hx))
 have hR31 := ((((hR8.extN hS10).extN hS13).extN hS15).extN hS18)
 have hR32 := (hR31.ext hS22 (fun g hg hx => (fun g hg hx => hR31.box hB18 (hg.trans (congrArg some hx))) g hg hx))
 have hR33 := (hR32.ext hS26 (fun g hg hx => (fun g hg hx => hR32.box hR25 (hg.trans (congrArg some hx))) g hg hx))
 refine qdD (K := K15) (fun c => c = a0_k_b ∨ ob a0_k_0_0v = some c ∨ mb a0_k_0_1v = some c ∨ w26.heap.size ≤ c) [.o 0 2, .o 1 2, .o 2 2, .o 3 2, .o 4 2, .o 5 1] (by kernel_rfl) (by kernel_rfl) hM26 ?_
 rintro w34 hS34 hM34
 have hE34 := hE26.andN hS34
 refine qal (.pointer (some ⟨a0_k_b, a0_k_pre.length, none⟩)) rfl l0 hM34 (fun _ => R_mv rfl) rfl (gN rfl) rfl ?_
 refine qal (.pointer (some ⟨a0_k_b, a0_k_pre.length, none⟩)) rfl l0 hM34 (fun _ => qaJ rfl) rfl (gN rfl) rfl ?_
 refine qal (.pointer (some ⟨a0_k_b, a0_k_pre.length + 0, none⟩)) rfl l0 hM34 (fun _ => R_fa rfl Try.underlying41 rfl rfl ty39 rfl) rfl (gN rfl) rfl ?_
 have hR36 := (hR27.extN hS34)
 refine qdY hM34 (qby (Foc.id _) rfl ty24 hR36 (by first | rfl | simp | omega) (fun h => h)) rfl (gN rfl) rfl ?_
 rintro v35 (hV35 : qaa.V _ (qa1 [(preimage a1_kind a2_parts)]) _)
 refine qal v10_0 rfl l0 hM34 (fun _ => R_mv rfl) rfl (gN rfl) rfl ?_
 have hR38 := (hR30.extN hS34)
 have hR39 := (hR33.extN hS34)
 have hR40 := (hB26.extN hS34)
 have hR41 := ((((hB5.extN hS10).extN hS13).extN hS15).extN hS18)
 have hR42 := (hR41.ext hS22 (fun hx => (fun he => (qcP hge18 hR21.lt) he.symm) hx))
 have hR43 := ((hR42.ext hS26 (fun hx => (qcP hge5 h_a0_k_B.lt) hx)).extN hS34)
 have hR44 := (((hO10_0.extN hS13).extN hS15).extN hS18)
 have hR45 := (hR44.ext hS22 (fun g hg hx => (fun g hg hx => hR44.box hB18 (hg.trans (congrArg some hx))) g hg hx))
 have hR46 := ((hR45.ext hS26 (fun g hg hx => (fun g hg hx => hR45.box hR25 (hg.trans (congrArg some hx))) g hg hx)).extN hS34)
 have hR47 := ((hO13.extN hS15).extN hS18)
 have hR48 := (hR47.ext hS22 (fun g hg hx => (fun g hg hx => hR47.box hB18 (hg.trans (congrArg some hx))) g hg hx))
 have hR49 := ((hR48.ext hS26 (fun g hg hx => (fun g hg hx => hR48.box hR25 (hg.trans (congrArg some hx))) g hg hx)).extN hS34)
 obtain ⟨p51, q51, hl51, hB51, hback51⟩ := Bx.sub (Foc.fst qaq (Kd.int .i64)) hR40
 obtain ⟨hp52, h⟩ := h
 refine qhY rfl (gN rfl) rfl (qaQ (qbz Try.call86 (mapC (show (Value.pointer (some ⟨a0_k_b, a0_k_pre.length + 0, none⟩)) = .pointer (some ⟨a0_k_b, ((a0_k_pre : List Value) ++ p51).length, none⟩) from by rw [List.length_append, hl51]; first | done | simp) (mapC rfl (mapC rfl mapN)))) ((qtD hM34 hB51 hR38 hR39 hV35 hR46.V hp52).mono ?_))
 rintro _ w50 ⟨K50, u50_0_0, u50_0_1, rfl, hS50, hM50, hB50_m0, hu50_0_0, hxu50_0_0, hu50_0_1, hxu50_0_1⟩
 refine ⟨(.tuple #[]), rfl, ?_⟩
 refine ⟨K50, (hS50.weak (fun c hlt hx => Or.elim hx (fun hx => (.inl (hx))) (fun hx => Or.elim hx (fun hx => (.inr (.inl (hx)))) (fun hx => (.inr (.inr (.inl (hx)))))))), hM50, ?_⟩
 have hE50 := hE34.comp hS50 (fun c hx hlt => Or.elim hx (fun hx => (by subst hx; exact (fun _ => (.inl rfl)) hlt)) (fun hx => Or.elim hx (fun hx => (fun g hg _ => (.inr (.inl hg))) c hx hlt) (fun hx => (fun g hg _ => (.inr (.inr (hg)))) c hx hlt)))
 have hf53 : ∀ g, ob u50_0_0 = some g → g < w0.heap.size → g = a0_k_b ∨ ob a0_k_0_0v = some g ∨ mb a0_k_0_1v = some g := fun g hg hlt => (hxu50_0_0 g hg).elim (fun hx => (fun g hg _ => (.inr (.inl hg))) g hx hlt) (fun hx => absurd hlt (Nat.not_lt.2 (Nat.le_trans hE34.size hx)))
 have hf54 : ∀ g, mb u50_0_1 = some g → g < w0.heap.size → g = a0_k_b ∨ ob a0_k_0_0v = some g ∨ mb a0_k_0_1v = some g := fun g hg hlt => (hxu50_0_1 g hg).elim (fun hx => (fun g hg _ => (.inr (.inr (hg)))) g hx hlt) (fun hx => absurd hlt (Nat.not_lt.2 (Nat.le_trans hE34.size hx)))
 have hB50_w : Bx qbc w50 K50 a0_k_b a0_k_pre a0_k_post ((u50_0_0, u50_0_1), (IntKind.i64.wrap (a0_k_1 + 1))) := hback51 hS50.le hB50_m0
 refine qfs ?_
 refine qah ?_
 refine qac ?_
 have hR56 := (hR36.ext hS50 (fun hx => Or.elim hx (fun hx => (qcP hge18 hR20.lt) hx) (fun hx => Or.elim hx (fun hx => (hR38.box hR36) hx) (fun hx => (hR39.box hR36) hx))))
 refine WL_L hM50 (qby (Foc.id _) rfl ty24 hR56 (by first | rfl | simp | omega) (fun h => h)) rfl rfl ?_
 rintro v55 (hV55 : qaa.V _ (qa1 [(preimage a1_kind a2_parts)]) _)
 have hR59 := (hR43.ext hS50 (fun hx => Or.elim hx (fun hx => (qcP hge5 h_a0_k_B.lt) hx) (fun hx => Or.elim hx (fun hx => (hR38.box hR43) hx) (fun hx => (hR39.box hR43) hx))))
 refine qaw rfl rfl (qhX (qhW (Foc.id _) hM50 rfl rfl hV55 ty24 hR59 (by first | rfl | simp | omega)) ?_)
 rintro w58 (hB58 : Bx qaa _ _ b5 [] [] (qa1 [(preimage a1_kind a2_parts)])) hS58 hM58
 have hE58 := hE50.comp hS58 (fun c hx hlt => (by subst hx; exact (fun hlt => absurd hlt (Nat.not_lt.2 (Nat.le_trans hE0.size hge5))) hlt))
 refine qak ?_
 refine qbY ?_
 refine qhm hR (qm9 rfl rfl ty24 hB58) ?_
 rintro v60 hV60
 have hR61 := (hu50_0_0.ext hS58 (fun g hg hx => (fun g hg hx => hu50_0_0.box hR59 (hg.trans (congrArg some hx))) g hg hx))
 have hR62 := (hu50_0_1.ext hS58 (fun g hg hx => (fun g hg hx => hu50_0_1.box hR59 (hg.trans (congrArg some hx))) g hg hx))
 have hR63 := (hB50_w.ext hS58 (fun hx => (fun he => (qcP hge5 h_a0_k_B.lt) he.symm) hx))
 exact ⟨K50, v60, u50_0_0, u50_0_1, (qa1 [(preimage a1_kind a2_parts)]), (addL a0_k_0_0 (qa1 [(preimage a1_kind a2_parts)]) (preimage a1_kind a2_parts)), (addM a0_k_0_0 a0_k_0_1 (qa1 [(preimage a1_kind a2_parts)]) (preimage a1_kind a2_parts)), (IntKind.i64.wrap (a0_k_1 + 1)), rfl, h, hE58, hM58, hV60, hR63, hR61, (fun g hg => ((hxu50_0_0 g hg).elim (fun hz => (.inl hz)) (fun hz => .inr (Nat.le_trans hE34.size hz)))), hR62, (fun g hg => ((hxu50_0_1 g hg).elim (fun hz => (.inl hz)) (fun hz => .inr (Nat.le_trans hE34.size hz))))⟩
theorem qtb {w0 : World} {K0 : Ghost} {a0_k_b : Nat} {a0_k_pre a0_k_post : List Value} {a0_k_0_0v : Value} {a0_k_0_0 : (List ((List UInt8) × (List UInt8)))} {a0_k_0_1v : Value} {a0_k_0_1 : (List ((List UInt8) × Int))} {a0_k_1 : Int} {a1_kind_v : Value} {a1_kind : Int} {a2_parts_v : Value} {a2_parts : (List (List UInt8))} (hM0 : Models w0 K0) (h_a0_k_B : Bx qbc w0 K0 a0_k_b a0_k_pre a0_k_post ((a0_k_0_0v, a0_k_0_1v), a0_k_1)) (h_a0_k_0_0 : Own qam 146 w0 K0 a0_k_0_0 a0_k_0_0v) (h_a0_k_0_1 : Mp qaa (Kd.int .i64) w0 K0 a0_k_0_1 a0_k_0_1v) (h_a1_kind : (Kd.int .i64).V K0 a1_kind a1_kind_v) (h_a2_parts : qa0.V K0 a2_parts a2_parts_v) (hp : qbL a0_k_0_0 a0_k_0_1 ∧ 1 + qai a2_parts ≤ 140737488355328 ∧ (a0_k_0_0.length + 1) * 64 ≤ 140737488355328) : Calls Try.prog 67 #[(.pointer (some ⟨a0_k_b, a0_k_pre.length, none⟩)), a1_kind_v, a2_parts_v] w0 (fun e w' => ∃ (K' : Ghost) (r0 : Value) (u0_0_0 : Value) (u0_0_1 : Value), e = .returned r0 ∧ Ext (fun c => c = a0_k_b ∨ ob a0_k_0_0v = some c ∨ mb a0_k_0_1v = some c) w0 K0 w' K' ∧ Models w' K' ∧ qaa.V K' (qae a1_kind a2_parts) r0 ∧ Bx qbc w' K' a0_k_b a0_k_pre a0_k_post ((u0_0_0, u0_0_1), (IntKind.i64.wrap (a0_k_1 + 1))) ∧ Own qam 146 w' K' (addL a0_k_0_0 (qae a1_kind a2_parts) (preimage a1_kind a2_parts)) u0_0_0 ∧ (∀ g, ob u0_0_0 = some g → ob a0_k_0_0v = some g ∨ w0.heap.size ≤ g) ∧ Mp qaa (Kd.int .i64) w' K' (addM a0_k_0_0 a0_k_0_1 (qae a1_kind a2_parts) (preimage a1_kind a2_parts)) u0_0_1 ∧ (∀ g, mb u0_0_1 = some g → mb a0_k_0_1v = some g ∨ w0.heap.size ≤ g)) := by
 refine (qnU hM0 h_a0_k_B h_a0_k_0_0 h_a0_k_0_1 h_a1_kind h_a2_parts (qrO h_a1_kind.wf h_a2_parts.wf hp)).mono ?_
 rintro _ w' ⟨K', r0, u0, u1, o0, o1, o2, o3, rfl, ⟨rfl, rfl, rfl, rfl⟩, hF⟩
 exact ⟨K', r0, u0, u1, rfl, hF⟩
def qjM (a1_kind : Int) (a2_parts : (List (List UInt8))) (Q : (List UInt8) → Prop) : Prop :=
 (1 + qai a2_parts ≤ 140737488355328) ∧ ((qao.wf (preimage a1_kind a2_parts)) → (((1 + [(preimage a1_kind a2_parts)].length) * 24 ≤ 140737488355328 ∧ [(preimage a1_kind a2_parts)].flatten.length ≤ 140737488355328) ∧ ((qaa.wf (qa1 [(preimage a1_kind a2_parts)])) → (Q (qa1 [(preimage a1_kind a2_parts)])))))
theorem qrP {a1_kind : Int} {a2_parts : (List (List UInt8))} (w_0 : (Kd.int .i64).wf a1_kind) (w_1 : qa0.wf a2_parts) (hp : 1 + qai a2_parts ≤ 140737488355328) : qjM a1_kind a2_parts (fun o0 => o0 = (qae a1_kind a2_parts)) := by
 have hl := qcj a1_kind hp
 unfold qjM
 exact ⟨hp, fun _ => ⟨⟨by simp, by simpa using by omega⟩, fun _ => rfl⟩⟩
theorem qnV {w0 : World} {K0 : Ghost} {a1_kind_v : Value} {a1_kind : Int} {a2_parts_v : Value} {a2_parts : (List (List UInt8))} {Q : (List UInt8) → Prop} (hM0 : Models w0 K0) (h_a1_kind : (Kd.int .i64).V K0 a1_kind a1_kind_v) (h_a2_parts : qa0.V K0 a2_parts a2_parts_v) (h : qjM a1_kind a2_parts Q) : Calls Try.prog 67 #[(.pointer none), a1_kind_v, a2_parts_v] w0 (fun e w' => ∃ (K' : Ghost) (r0 : Value) (o0 : (List UInt8)), e = .returned r0 ∧ Q o0 ∧ Ext NX w0 K0 w' K' ∧ Models w' K' ∧ qaa.V K' o0 r0) := by
 unfold qjM at h
 obtain rfl := qbu h_a1_kind
 have hE0 : Ext NX w0 K0 w0 K0 := Ext.refl _ _ _
 refine qa7 fun R hR => ?_
 refine qaR (args := [(.pointer none), (.int .i64 a1_kind), a2_parts_v]) Try.func67 rfl (Nat.le_of_ble_eq_true rfl) ?_
 refine qah ?_
 refine qac ?_
 refine qaw rfl rfl (St_B (qdC hM0 ty24) ?_)
 rintro b2 w2 (hB2 : Bx qaa _ _ _ _ _ (List.replicate 32 0)) hS2 hM2 hge2
 have hE2 := hE0.andN hS2
 refine qak ?_
 refine qah ?_
 refine qac ?_
 refine qab (.int .i64 a1_kind) (R_mv rfl) rfl rfl ?_
 refine qab a2_parts_v (R_mv rfl) rfl rfl ?_
 obtain ⟨hp5, h⟩ := h
 refine qaw rfl rfl (qaQ (qbz Try.call98 rfl) ((qgq hM2 (qfL (h_a1_kind).wf) (h_a2_parts.mono hS2.le) hp5).mono ?_))
 rintro _ w4 ⟨K4, v4_0, rfl, hS4, hM4, hO4_0, hg4_0⟩
 refine ⟨v4_0, rfl, ?_⟩
 have hE4 := hE2.andN hS4
 have h := h hO4_0.wf
 refine qab v4_0 (R_as rfl) rfl rfl ?_
 refine qak ?_
 refine qah ?_
 refine qac ?_
 refine qab v4_0 (R_mv rfl) rfl rfl ?_
 refine qaw rfl rfl (qg5 (qga (k := qao) (l := [((preimage a1_kind a2_parts), v4_0)]) hM4 rfl (by intro p hp; simp only [List.mem_cons, List.not_mem_nil, or_false] at hp; subst hp; exact hO4_0.V) rfl Try.underlying96 ty32 rfl rfl) ?_)
 rintro v7 w7 K7 (hO7 : Own qao 32 w7 K7 [(preimage a1_kind a2_parts)] v7) hS7 hM7 hg7
 have hE7 := hE4.andN hS7
 obtain ⟨hp10, h⟩ := h
 refine qaw rfl rfl (qaQ (qbz Try.call110 rfl) ((qjP hM7 hO7.V hp10).mono ?_))
 rintro _ w9 ⟨K9, v9_0, rfl, hS9, hM9, hV9_0⟩
 refine ⟨v9_0, rfl, ?_⟩
 have hE9 := hE7.andN hS9
 have h := h hV9_0.wf
 refine qaw rfl rfl (St_B (qdC hM9 ty24) ?_)
 rintro b12 w12 (hB12 : Bx qaa _ _ _ _ _ (List.replicate 32 0)) hS12 hM12 hge12
 have hE12 := hE9.andN hS12
 have hR14 := (((hB2.extN hS4).extN hS7).extN hS9)
 refine qaw rfl rfl (qhX (qhW (Foc.id _) hM12 rfl rfl (hV9_0.mono hS12.le) ty24 hB12 (by first | rfl | simp | omega)) ?_)
 rintro w15 (hB15 : Bx qaa _ _ b12 [] [] (qa1 [(preimage a1_kind a2_parts)])) hS15 hM15
 have hE15 := hE12.comp hS15 (fun c hx hlt => (by subst hx; exact (fun hlt => absurd hlt (Nat.not_lt.2 (Nat.le_trans hE9.size hge12))) hlt))
 refine qak ?_
 refine qah ?_
 refine qah ?_
 refine qac ?_
 refine qab (.pointer none) (R_mv rfl) rfl rfl ?_
 refine qab (.bool false) (qjN rfl rfl Try.underlying35) rfl rfl ?_
 refine qak ?_
 refine qaK false rfl (fun hc => by cases hc) (fun _ => ?_)
 refine qa3 ?_
 refine qah ?_
 refine qac ?_
 refine WL_L hM15 (qby (Foc.id _) rfl ty24 hB15 (by first | rfl | simp | omega) (fun h => h)) rfl rfl ?_
 rintro v16 (hV16 : qaa.V _ (qa1 [(preimage a1_kind a2_parts)]) _)
 have hR19 := ((((hB2.extN hS4).extN hS7).extN hS9).extN hS12)
 have hR20 := (hR19.ext hS15 (fun hx => (fun he => (qcP hge12 hR14.lt) he.symm) hx))
 refine qaw rfl rfl (qhX (qhW (Foc.id _) hM15 rfl rfl hV16 ty24 hR20 (by first | rfl | simp | omega)) ?_)
 rintro w18 (hB18 : Bx qaa _ _ b2 [] [] (qa1 [(preimage a1_kind a2_parts)])) hS18 hM18
 have hE18 := hE15.comp hS18 (fun c hx hlt => (by subst hx; exact (fun hlt => absurd hlt (Nat.not_lt.2 (Nat.le_trans hE0.size hge2))) hlt))
 refine qak ?_
 refine qbY ?_
 refine qhm hR (qm9 rfl rfl ty24 hB18) ?_
 rintro v21 hV21
 exact ⟨K9, v21, (qa1 [(preimage a1_kind a2_parts)]), rfl, h, hE18, hM18, hV21⟩
theorem qtc {w0 : World} {K0 : Ghost} {a1_kind_v : Value} {a1_kind : Int} {a2_parts_v : Value} {a2_parts : (List (List UInt8))} (hM0 : Models w0 K0) (h_a1_kind : (Kd.int .i64).V K0 a1_kind a1_kind_v) (h_a2_parts : qa0.V K0 a2_parts a2_parts_v) (hp : 1 + qai a2_parts ≤ 140737488355328) : Calls Try.prog 67 #[(.pointer none), a1_kind_v, a2_parts_v] w0 (fun e w' => ∃ (K' : Ghost) (r0 : Value), e = .returned r0 ∧ Ext NX w0 K0 w' K' ∧ Models w' K' ∧ qaa.V K' (qae a1_kind a2_parts) r0) := by
 refine (qnV hM0 h_a1_kind h_a2_parts (qrP h_a1_kind.wf h_a2_parts.wf hp)).mono ?_
 rintro _ w' ⟨K', r0, o0, rfl, rfl, hF⟩
 exact ⟨K', r0, rfl, hF⟩
theorem Of_c {w0 : World} {K0 : Ghost} {a0_k_v : Value} {a0_k_F : Nat → Prop} {a0_k : qag} {a1_kind_v : Value} {a1_kind : Int} {a2_parts_v : Value} {a2_parts : (List (List UInt8))} (hM0 : Models w0 K0) (h_a0_k : qrB w0 K0 a0_k_v a0_k_F a0_k) (h_a1_kind : (Kd.int .i64).V K0 a1_kind a1_kind_v) (h_a2_parts : qa0.V K0 a2_parts a2_parts_v) (hp : 1 + qai a2_parts ≤ 140737488355328 ∧ qan a0_k) : Calls Try.prog 67 #[a0_k_v, a1_kind_v, a2_parts_v] w0 (fun e w' => ∃ (K' : Ghost) (r0 : Value) (F0 : Nat → Prop), e = .returned r0 ∧ Ext a0_k_F w0 K0 w' K' ∧ Models w' K' ∧ qaa.V K' (qae a1_kind a2_parts) r0 ∧ qrB w' K' a0_k_v F0 (qaj a0_k a1_kind a2_parts) ∧ (∀ g, F0 g → a0_k_F g ∨ w0.heap.size ≤ g)) := by
 cases a0_k with
 | none =>
   obtain ⟨rfl, rfl⟩ := h_a0_k
   refine (qtc hM0 h_a1_kind h_a2_parts hp.1).mono ?_
   rintro _ w' ⟨K', r0, rfl, hE, hM, hr0⟩
   exact ⟨K', r0, NX, rfl, hE, hM, hr0, ⟨rfl, rfl⟩, fun g hg => hg.elim⟩
 | some x =>
   obtain ⟨b, pre, post, lv, mv, m, rfl, hB, hO, hm, hi, hF, hlt⟩ := h_a0_k
   refine (qtb hM0 hB hO hm h_a1_kind h_a2_parts ⟨hi, hp.1, hp.2 x rfl⟩).mono ?_
   rintro _ w' ⟨K', r0, u0, u1, rfl, hE, hM, hr0, hB', hO', hx, hm', hy⟩
   refine ⟨K', r0, _, rfl, hE.weak (fun g hg hx => hF g hx), hM, hr0, qaW.mk hB' hO' hm' (qsv hi _ _), fun g hg => ?_⟩
   rcases hg with rfl | hg | hg
   ·exact .inl (hF _ (.inl rfl))
   ·exact (hx g hg).imp (fun h => hF g (.inr (.inl h))) id
   ·exact (hy g hg).imp (fun h => hF g (.inr (.inr h))) id
end Go.Proofs.Ytmjjkpiglbpkhaa

set_option linter.unusedVariables false
set_option maxRecDepth 100000
set_option maxHeartbeats 2000000
namespace Go.Proofs.Ytmjjkpiglbpkhaa
open Go Go.RowKit Go.Inc
noncomputable def Of_C : Ctr := ⟨[.bk 146 true, .v (.int .i64), .v (.sl (.sl .byte))], [.v (.arr 32 .byte)], some (fun a => (fun (a0_k : qag) (a1_kind : Int) (a2_parts : List (List UInt8)) => (1 + qai a2_parts ≤ 140737488355328 ∧ qan a0_k : Prop)) a.1 a.2.1 a.2.2.1), fun a => (fun (a0_k : qag) (a1_kind : Int) (a2_parts : List (List UInt8)) => (((qae a1_kind a2_parts), ()), ((qaj a0_k a1_kind a2_parts), ()))) a.1 a.2.1 a.2.2.1⟩
theorem Of_k : Of_C.valid Try.prog 67 := qtI (fun _ => rfl) (fun _ => rfl) fun a hp θ v F vs w K hM hB hv => by
 obtain ⟨v1, vs, rfl, h1, v2, vs, rfl, h2, hnil⟩ := hv
 have hnil' : vs = [] := hnil
 subst hnil'
 refine (Of_c hM hB (qbM (t := .int .i64) h1 rfl) (qbM (t := .sl (.sl .byte)) h2 rfl) hp).mono ?_
 rintro ed w' ⟨K', r0, F0, rfl, hE, hM', hr, hB', hg⟩
 exact ⟨K', [r0], F0, rfl, hE, hM', fun θ' => qo5 (SVal.of_rel (t := .arr 32 .byte) hr), hB', hg⟩
end Go.Proofs.Ytmjjkpiglbpkhaa

set_option linter.unusedVariables false
set_option maxRecDepth 100000
set_option maxHeartbeats 20000000
namespace Go.Proofs.Ytmjjkpiglbpkhaa
open Go Go.RowKit Go.Inc
noncomputable def qfo : Ctr := ⟨[.v (.sl .byte), .v (.sl (.arr 32 .byte))], [.ow 5 .byte], some (fun a => (fun (a0_b : List UInt8) (a1_l : List (List UInt8)) => (a0_b.length + a1_l.flatten.length ≤ 140737488355328 ∧ ∀ x ∈ a1_l, x.length = 32 : Prop)) a.1 a.2.1), fun a => (fun (a0_b : List UInt8) (a1_l : List (List UInt8)) => (((a0_b ++ a1_l.flatten), ()), (()))) a.1 a.2.1⟩
noncomputable def qlv : Fx := ⟨seat, some bkT, fns, [(69, qck)], [], [], []⟩
def qg2 (a0_b : List UInt8) (a1_l : List (List UInt8)) (Q : (List UInt8) → Prop) : Prop :=
 a0_b.length ≤ (140737488355328 : Nat) ∧ (Ty.byte.kd.sl.wf a0_b → ∃ (x0 : List UInt8 → Int → Prop), ∃ (x1 : List UInt8 → Int → Nat), x0 a0_b (0 : Int) ∧ ∀ (x2 : List UInt8) (x3 : Int), x0 x2 x3 → Ty.byte.kd.sl.wf x2 → (Kd.int IntKind.i64).wf x3 → (x3 < (a1_l.length : Int) → ((0 : Int) ≤ x3 ∧ x3 < (a1_l.length : Int)) ∧ (x2.length + (List.drop (Int.toNat (0 : Int)) (List.take ((32 : Nat) : Int).toNat (ix a1_l x3))).length) * (1 : Nat) ≤ (140737488355328 : Nat) ∧ x3 < (9223372036854775807 : Int) ∧ x0 (x2 ++ List.drop (Int.toNat (0 : Int)) (List.take ((32 : Nat) : Int).toNat (ix a1_l x3))) (x3 + (1 : Int)) ∧ x1 (x2 ++ List.drop (Int.toNat (0 : Int)) (List.take ((32 : Nat) : Int).toNat (ix a1_l x3))) (x3 + (1 : Int)) < x1 x2 x3) ∧ (¬x3 < (a1_l.length : Int) → Q x2))
theorem qnX {a0_b : List UInt8} {a1_l : List (List UInt8)} (w_0 : (Ty.kd (.sl .byte)).wf a0_b) (w_1 : (Ty.kd (.sl (.arr 32 .byte))).wf a1_l) (hp : a0_b.length + a1_l.flatten.length ≤ 140737488355328 ∧ ∀ x ∈ a1_l, x.length = 32) : qg2 a0_b a1_l (fun o0 => o0 = (a0_b ++ a1_l.flatten)) := by
 unfold qg2
 refine ⟨by omega, fun _ => ⟨fun out i => ∃ j : Nat, i = (j : Int) ∧ j ≤ a1_l.length ∧ out = a0_b ++ (a1_l.take j).flatten, fun _ i => a1_l.length - i.toNat, ⟨0, rfl, by omega, by simp⟩, ?_⟩⟩
 rintro out i ⟨j, rfl, hj, rfl⟩ _ _
 refine ⟨fun hlt => ?_, fun hge => ?_⟩
 ·have h1 := qfF (l := a1_l) (j + 1)
  rw [qcU hlt, List.length_append] at h1
  have h32 := hp.2 _ (qic (l := a1_l) (by omega) hlt)
  have e : List.drop (Int.toNat 0) (List.take ((32 : Nat) : Int).toNat (ix a1_l (j : Int))) = ix a1_l (j : Int) := by show ((ix a1_l (j : Int)).take 32).drop 0 = _; rw [List.drop_zero, List.take_of_length_le (by omega)]
  rw [e]
  refine ⟨⟨by omega, hlt⟩, by simp only [List.length_append]; omega, by have := w_1.1; unfold LM at this; omega, ⟨j + 1, by omega, by omega, by rw [qcU hlt]; simp⟩, ?_⟩
  show a1_l.length - ((j : Int) + 1).toNat < a1_l.length - (j : Int).toNat
  omega
 ·have : j = a1_l.length := by omega
  subst this
  rw [List.take_length]
theorem qnW : (∀ a, qfo.pre a → PM.wfP qfo.pm a (fvc qlv 200 64 qfo a (eqO qfo a))) = (∀ a : (List UInt8) × (List (List UInt8)) × Unit, ((a.1).length + (a.2.1).flatten.length ≤ 140737488355328 ∧ ∀ x ∈ (a.2.1), x.length = 32) → (Ty.kd (.sl .byte)).wf a.1 → (Ty.kd (.sl (.arr 32 .byte))).wf a.2.1 → qg2 a.1 a.2.1 (fun o0 => o0 = ((a.1) ++ (a.2.1).flatten))) := by kernel_rfl
theorem qqd : qfo.valid Try.prog 64 := qaz (X := qlv) (qaV qat (fun b hb => by cases hb; exact qay) qaA ⟨qek, trivial⟩) 200 (qnW.mpr fun a hp w_0 w_1 => @qnX a.1 a.2.1 w_0 w_1 hp)
noncomputable def qeL : Ctr := ⟨[.bk 146 true, .v (.sl (.arr 32 .byte))], [.v (.arr 32 .byte)], some (fun a => (fun (a0_k : qag) (a1_l : List (List UInt8)) => (a1_l.length ≤ 1048576 ∧ qan a0_k : Prop)) a.1 a.2.1), fun a => (fun (a0_k : qag) (a1_l : List (List UInt8)) => (((qae 2 a1_l), ()), ((qaj a0_k 2 a1_l), ()))) a.1 a.2.1⟩
noncomputable def qnj : Fx := ⟨seat, some bkT, fns, [(67, Of_C)], [], [], []⟩
def qhI (a0_k : qag) (a1_l : List (List UInt8)) (Q : (List UInt8) → qag → Prop) : Prop :=
 ∃ (x0 : List (List UInt8) → Int → Prop), ∃ (x1 : List (List UInt8) → Int → Nat), x0 ([] : List (List UInt8)) (0 : Int) ∧ ∀ (x2 : List (List UInt8)) (x3 : Int), x0 x2 x3 → Ty.byte.sl.kd.sl.wf x2 → (Kd.int IntKind.i64).wf x3 → (x3 < (a1_l.length : Int) → ((0 : Int) ≤ x3 ∧ x3 < (a1_l.length : Int)) ∧ (x2.length + (ix a1_l x3 :: ([] : List (List UInt8))).length) * (24 : Nat) ≤ (140737488355328 : Nat) ∧ x3 < (9223372036854775807 : Int) ∧ x0 (x2 ++ ix a1_l x3 :: ([] : List (List UInt8))) (x3 + (1 : Int)) ∧ x1 (x2 ++ ix a1_l x3 :: ([] : List (List UInt8))) (x3 + (1 : Int)) < x1 x2 x3) ∧ (¬x3 < (a1_l.length : Int) → ((1 : Nat) + qai x2 ≤ (140737488355328 : Nat) ∧ qan a0_k) ∧ ((Ty.arr (32 : Nat) Ty.byte).kd.wf (qae (2 : Int) x2) → Q (qae (2 : Int) x2) (qaj a0_k (2 : Int) x2)))
theorem qpg {a0_k : qag} {a1_l : List (List UInt8)} (w_0 : (Ty.kd (.sl (.arr 32 .byte))).wf a1_l) (hp : a1_l.length ≤ 1048576 ∧ qan a0_k) : qhI a0_k a1_l (fun o0 o1 => o0 = (qae 2 a1_l) ∧ o1 = (qaj a0_k 2 a1_l)) := by
 unfold qhI
 refine ⟨fun parts i => ∃ j : Nat, i = (j : Int) ∧ j ≤ a1_l.length ∧ parts = a1_l.take j, fun _ i => a1_l.length - i.toNat, ⟨0, rfl, by omega, rfl⟩, ?_⟩
 rintro parts i ⟨j, rfl, hj, rfl⟩ _ _
 have hp1 := hp.1
 refine ⟨fun hlt => ⟨⟨by omega, hlt⟩, by simp only [List.length_take, List.length_cons, List.length_nil]; omega, by omega, ⟨j + 1, by omega, by omega, (qbK hlt).symm⟩, by show a1_l.length - ((j : Int) + 1).toNat < a1_l.length - (j : Int).toNat; omega⟩, fun hge => ?_⟩
 have : j = a1_l.length := by omega
 subst this
 rw [List.take_length]
 have hr := qgu (l := a1_l) (fun x hx => (w_0.2 x hx).1)
 exact ⟨⟨by omega, hp.2⟩, fun _ => ⟨rfl, rfl⟩⟩
theorem qpf : (∀ a, qeL.pre a → PM.wfP qeL.pm a (fvc qnj 200 104 qeL a (eqO qeL a))) = (∀ a : qag × (List (List UInt8)) × Unit, ((a.2.1).length ≤ 1048576 ∧ qan (a.1)) → (Ty.kd (.sl (.arr 32 .byte))).wf a.2.1 → qhI a.1 a.2.1 (fun o0 o1 => o0 = (qae 2 (a.2.1)) ∧ o1 = (qaj (a.1) 2 (a.2.1)))) := by kernel_rfl
theorem qrm : qeL.valid Try.prog 104 := qaz (X := qnj) (qaV qat (fun b hb => by cases hb; exact qay) qaA ⟨Of_k, trivial⟩) 200 (qpf.mpr fun a hp w_0 => @qpg a.1 a.2.1 w_0 hp)
noncomputable def qep : Ctr := ⟨[.bk 146 true, .v (.sl .str)], [.v (.arr 32 .byte)], some (fun a => (fun (a0_k : qag) (a1_stops : List (List UInt8)) => (a1_stops.length ≤ 1048576 ∧ 1 + qai a1_stops ≤ 140737488355328 ∧ qan a0_k : Prop)) a.1 a.2.1), fun a => (fun (a0_k : qag) (a1_stops : List (List UInt8)) => (((qae 8 a1_stops), ()), ((qaj a0_k 8 a1_stops), ()))) a.1 a.2.1⟩
noncomputable def qlM : Fx := ⟨seat, some bkT, fns, [(67, Of_C)], [], [], []⟩
def qg9 (a0_k : qag) (a1_stops : List (List UInt8)) (Q : (List UInt8) → qag → Prop) : Prop :=
 ∃ (x0 : List (List UInt8) → Int → Prop), ∃ (x1 : List (List UInt8) → Int → Nat), x0 ([] : List (List UInt8)) (0 : Int) ∧ ∀ (x2 : List (List UInt8)) (x3 : Int), x0 x2 x3 → Ty.byte.sl.kd.sl.wf x2 → (Kd.int IntKind.i64).wf x3 → (x3 < (a1_stops.length : Int) → ((0 : Int) ≤ x3 ∧ x3 < (a1_stops.length : Int)) ∧ (x2.length + (ix a1_stops x3 :: ([] : List (List UInt8))).length) * (24 : Nat) ≤ (140737488355328 : Nat) ∧ x3 < (9223372036854775807 : Int) ∧ x0 (x2 ++ ix a1_stops x3 :: ([] : List (List UInt8))) (x3 + (1 : Int)) ∧ x1 (x2 ++ ix a1_stops x3 :: ([] : List (List UInt8))) (x3 + (1 : Int)) < x1 x2 x3) ∧ (¬x3 < (a1_stops.length : Int) → ((1 : Nat) + qai x2 ≤ (140737488355328 : Nat) ∧ qan a0_k) ∧ ((Ty.arr (32 : Nat) Ty.byte).kd.wf (qae (8 : Int) x2) → Q (qae (8 : Int) x2) (qaj a0_k (8 : Int) x2)))
theorem qn7 {a0_k : qag} {a1_stops : List (List UInt8)} (w_0 : (Ty.kd (.sl .str)).wf a1_stops) (hp : a1_stops.length ≤ 1048576 ∧ 1 + qai a1_stops ≤ 140737488355328 ∧ qan a0_k) : qg9 a0_k a1_stops (fun o0 o1 => o0 = (qae 8 a1_stops) ∧ o1 = (qaj a0_k 8 a1_stops)) := by
 unfold qg9
 refine ⟨fun parts i => ∃ j : Nat, i = (j : Int) ∧ j ≤ a1_stops.length ∧ parts = a1_stops.take j, fun _ i => a1_stops.length - i.toNat, ⟨0, rfl, by omega, rfl⟩, ?_⟩
 rintro parts i ⟨j, rfl, hj, rfl⟩ _ _
 have hp1 := hp.1
 refine ⟨fun hlt => ⟨⟨by omega, hlt⟩, by simp only [List.length_take, List.length_cons, List.length_nil]; omega, by omega, ⟨j + 1, by omega, by omega, (qbK hlt).symm⟩, by show a1_stops.length - ((j : Int) + 1).toNat < a1_stops.length - (j : Int).toNat; omega⟩, fun hge => ?_⟩
 have : j = a1_stops.length := by omega
 subst this
 rw [List.take_length]
 exact ⟨hp.2, fun _ => ⟨rfl, rfl⟩⟩
theorem qn6 : (∀ a, qep.pre a → PM.wfP qep.pm a (fvc qlM 200 59 qep a (eqO qep a))) = (∀ a : qag × (List (List UInt8)) × Unit, ((a.2.1).length ≤ 1048576 ∧ 1 + qai (a.2.1) ≤ 140737488355328 ∧ qan (a.1)) → (Ty.kd (.sl .str)).wf a.2.1 → qg9 a.1 a.2.1 (fun o0 o1 => o0 = (qae 8 (a.2.1)) ∧ o1 = (qaj (a.1) 8 (a.2.1)))) := by kernel_rfl
theorem qqr : qep.valid Try.prog 59 := qaz (X := qlM) (qaV qat (fun b hb => by cases hb; exact qay) qaA ⟨Of_k, trivial⟩) 200 (qn6.mpr fun a hp w_0 => @qn7 a.1 a.2.1 w_0 hp)
noncomputable def qeD : Ctr := ⟨[.bk 146 true, .v (.pr (.sl .byte) (.sl .byte))], [.v (.arr 32 .byte)], some (fun a => (fun (a0_k : qag) (a1_p : (List UInt8) × List UInt8) => (a1_p.1.length + a1_p.2.length ≤ 70368744177664 ∧ qan a0_k : Prop)) a.1 a.2.1), fun a => (fun (a0_k : qag) (a1_p : (List UInt8) × List UInt8) => (((qae 4 [a1_p.1, a1_p.2]), ()), ((qaj a0_k 4 [a1_p.1, a1_p.2]), ()))) a.1 a.2.1⟩
noncomputable def qmN : Fx := ⟨seat, some bkT, fns, [(67, Of_C)], [], [], []⟩
def qhu (a0_k : qag) (a1_p : (List UInt8) × List UInt8) (Q : (List UInt8) → qag → Prop) : Prop :=
 ((1 : Nat) + qai (a1_p.fst :: a1_p.snd :: ([] : List (List UInt8))) ≤ (140737488355328 : Nat) ∧ qan a0_k) ∧ ((Ty.arr (32 : Nat) Ty.byte).kd.wf (qae (4 : Int) (a1_p.fst :: a1_p.snd :: ([] : List (List UInt8)))) → Q (qae (4 : Int) (a1_p.fst :: a1_p.snd :: ([] : List (List UInt8)))) (qaj a0_k (4 : Int) (a1_p.fst :: a1_p.snd :: ([] : List (List UInt8)))))
theorem qoS {a0_k : qag} {a1_p : (List UInt8) × List UInt8} (w_0 : (Ty.kd (.pr (.sl .byte) (.sl .byte))).wf a1_p) (hp : a1_p.1.length + a1_p.2.length ≤ 70368744177664 ∧ qan a0_k) : qhu a0_k a1_p (fun o0 o1 => o0 = (qae 4 [a1_p.1, a1_p.2]) ∧ o1 = (qaj a0_k 4 [a1_p.1, a1_p.2])) := by
 unfold qhu
 exact ⟨⟨by simp [qai]; omega, hp.2⟩, fun _ => ⟨rfl, rfl⟩⟩
theorem qoR : (∀ a, qeD.pre a → PM.wfP qeD.pm a (fvc qmN 200 79 qeD a (eqO qeD a))) = (∀ a : qag × ((List UInt8) × List UInt8) × Unit, ((a.2.1).1.length + (a.2.1).2.length ≤ 70368744177664 ∧ qan (a.1)) → (Ty.kd (.pr (.sl .byte) (.sl .byte))).wf a.2.1 → qhu a.1 a.2.1 (fun o0 o1 => o0 = (qae 4 [(a.2.1).1, (a.2.1).2]) ∧ o1 = (qaj (a.1) 4 [(a.2.1).1, (a.2.1).2]))) := by kernel_rfl
theorem qq1 : qeD.valid Try.prog 79 := qaz (X := qmN) (qaV qat (fun b hb => by cases hb; exact qay) qaA ⟨Of_k, trivial⟩) 200 (qoR.mpr fun a hp w_0 => @qoS a.1 a.2.1 w_0 hp)
noncomputable def qdh : Ctr := ⟨[.bk 146 true, .v (.int .i64), .v (.arr 32 .byte)], [.v (.arr 32 .byte)], some (fun a => (fun (a0_k : qag) (a1_n : Int) (a2_t : List UInt8) => (0 ≤ a1_n ∧ qan a0_k : Prop)) a.1 a.2.1 a.2.2.1), fun a => (fun (a0_k : qag) (a1_n : Int) (a2_t : List UInt8) => (((qae 5 [numB a1_n.toNat, a2_t]), ()), ((qaj a0_k 5 [numB a1_n.toNat, a2_t]), ()))) a.1 a.2.1 a.2.2.1⟩
noncomputable def qkd : Fx := ⟨seat, some bkT, fns, [(62, qiK), (67, Of_C)], [], [], [(1, [0, 1, 2], [.o 0 3, .o 1 2, .o 2 2, .o 5 2, .o 3 0, .o 4 0, .o 6 1, .o 7 1, .o 8 1])]⟩
def qfO (a0_k : qag) (a1_n : Int) (a2_t : List UInt8) (Q : (List UInt8) → qag → Prop) : Prop :=
 ([] : List UInt8).length + (9 : Nat) * (IntKind.u64.wrap a1_n :: ([] : List Int)).length ≤ (140737488355328 : Nat) ∧ (Ty.byte.kd.sl.wf (([] : List UInt8) ++ qax (IntKind.u64.wrap a1_n :: ([] : List Int))) → ((1 : Nat) + qai ((([] : List UInt8) ++ qax (IntKind.u64.wrap a1_n :: ([] : List Int))) :: a2_t :: ([] : List (List UInt8))) ≤ (140737488355328 : Nat) ∧ qan a0_k) ∧ ((Ty.arr (32 : Nat) Ty.byte).kd.wf (qae (5 : Int) ((([] : List UInt8) ++ qax (IntKind.u64.wrap a1_n :: ([] : List Int))) :: a2_t :: ([] : List (List UInt8)))) → Q (qae (5 : Int) ((([] : List UInt8) ++ qax (IntKind.u64.wrap a1_n :: ([] : List Int))) :: a2_t :: ([] : List (List UInt8)))) (qaj a0_k (5 : Int) ((([] : List UInt8) ++ qax (IntKind.u64.wrap a1_n :: ([] : List Int))) :: a2_t :: ([] : List (List UInt8))))))
theorem qmP {a0_k : qag} {a1_n : Int} {a2_t : List UInt8} (w_0 : (Ty.kd (.int .i64)).wf a1_n) (w_1 : (Ty.kd (.arr 32 .byte)).wf a2_t) (hp : 0 ≤ a1_n ∧ qan a0_k) : qfO a0_k a1_n a2_t (fun o0 o1 => o0 = (qae 5 [numB a1_n.toNat, a2_t]) ∧ o1 = (qaj a0_k 5 [numB a1_n.toNat, a2_t])) := by
 have e : IntKind.u64.wrap a1_n = a1_n := qaD ⟨hp.1, by have : a1_n ≤ 9223372036854775807 := w_0.2; show _ ≤ (18446744073709551615 : Int); omega⟩
 have hl := qaP (n := a1_n.toNat) (by have : a1_n ≤ 9223372036854775807 := w_0.2; omega)
 have ht : a2_t.length = 32 := w_1.1
 unfold qfO
 rw [e]
 refine ⟨by simp, fun _ => ⟨⟨by simp [qai, qax]; omega, hp.2⟩, fun _ => ?_⟩⟩
 first
  | (simp [qax]; done)
  | (simp [qax, qiz]; done)
theorem qmO : (∀ a, qdh.pre a → PM.wfP qdh.pm a (fvc qkd 200 80 qdh a (eqO qdh a))) = (∀ a : qag × Int × (List UInt8) × Unit, (0 ≤ (a.2.1) ∧ qan (a.1)) → (Ty.kd (.int .i64)).wf a.2.1 → (Ty.kd (.arr 32 .byte)).wf a.2.2.1 → qfO a.1 a.2.1 a.2.2.1 (fun o0 o1 => o0 = (qae 5 [numB (a.2.1).toNat, (a.2.2.1)]) ∧ o1 = (qaj (a.1) 5 [numB (a.2.1).toNat, (a.2.2.1)]))) := by kernel_rfl
theorem qoT : qdh.valid Try.prog 80 := qaz (X := qkd) (qaV qat (fun b hb => by cases hb; exact qay) qaA ⟨qqc, Of_k, trivial⟩) 200 (qmO.mpr fun a hp w_0 w_1 => @qmP a.1 a.2.1 a.2.2.1 w_0 w_1 hp)
noncomputable def qj7 : Ctr := ⟨[.v (.int .i64)], [.v (.int .i64)], some (fun a => (fun (a0_n : Int) => (False : Prop)) a.1), fun a => (fun (a0_n : Int) => (((0 : Int), ()), (()))) a.1⟩
theorem qoE : qj7.valid Try.prog 105 :=  fun a hp => hp.elim
noncomputable def qkq : Ctr := ⟨[.bk 146 true, .v (.sl (.arr 32 .byte))], [.v (.arr 32 .byte)], some (fun a => (fun (a0_k : qag) (a1_l : List (List UInt8)) => (False : Prop)) a.1 a.2.1), fun a => (fun (a0_k : qag) (a1_l : List (List UInt8)) => (((qae 2 []), ()), (a0_k, ()))) a.1 a.2.1⟩
theorem qo7 : qkq.valid Try.prog 58 :=  fun a hp => hp.elim
noncomputable def qdB : Ctr := ⟨[.bk 146 true, .v (.sl (.arr 32 .byte))], [.v (.arr 32 .byte)], some (fun a => (fun (a0_k : qag) (a1_l : List (List UInt8)) => (a1_l = [] ∧ qan a0_k : Prop)) a.1 a.2.1), fun a => (fun (a0_k : qag) (a1_l : List (List UInt8)) => (((qae 2 []), ()), ((qaj a0_k 2 []), ()))) a.1 a.2.1⟩
noncomputable def qlA : Fx := ⟨seat, some bkT, fns, [(104, qeL), (105, qj7), (58, qkq)], [], [], [(8, [0, 1], [.o 0 3, .o 1 3, .o 2 2, .o 3 2, .o 4 2, .o 5 2, .o 6 1, .o 7 1, .o 8 1, .o 9 1])]⟩
def qg4 (a0_k : qag) (a1_l : List (List UInt8)) (Q : (List UInt8) → qag → Prop) : Prop :=
 ((a1_l.length : Int) = (0 : Int) → (([] : List (List UInt8)).length ≤ (1048576 : Nat) ∧ qan a0_k) ∧ ((Ty.arr (32 : Nat) Ty.byte).kd.wf (qae (2 : Int) ([] : List (List UInt8))) → Q (qae (2 : Int) ([] : List (List UInt8))) (qaj a0_k (2 : Int) ([] : List (List UInt8))))) ∧ (¬(a1_l.length : Int) = (0 : Int) → ((a1_l.length : Int) = (1 : Int) → ((0 : Int) ≤ (0 : Int) ∧ (0 : Int) < (a1_l.length : Int)) ∧ Q (ix a1_l (0 : Int)) a0_k) ∧ (¬(a1_l.length : Int) = (1 : Int) → False ∧ ((Ty.int IntKind.i64).kd.wf (0 : Int) → ((0 : Int) ≤ (0 : Int) ∧ (0 : Int) ≤ (a1_l.length : Int)) ∧ False ∧ ((Ty.arr (32 : Nat) Ty.byte).kd.wf (qae (2 : Int) ([] : List (List UInt8))) → ((0 : Int) ≤ (0 : Int) ∧ (0 : Int) ≤ (a1_l.length : Int)) ∧ False ∧ ((Ty.arr (32 : Nat) Ty.byte).kd.wf (qae (2 : Int) ([] : List (List UInt8))) → ((qae (2 : Int) ([] : List (List UInt8)) :: qae (2 : Int) ([] : List (List UInt8)) :: ([] : List (List UInt8))).length ≤ (1048576 : Nat) ∧ qan a0_k) ∧ ((Ty.arr (32 : Nat) Ty.byte).kd.wf (qae (2 : Int) (qae (2 : Int) ([] : List (List UInt8)) :: qae (2 : Int) ([] : List (List UInt8)) :: ([] : List (List UInt8)))) → Q (qae (2 : Int) (qae (2 : Int) ([] : List (List UInt8)) :: qae (2 : Int) ([] : List (List UInt8)) :: ([] : List (List UInt8)))) (qaj a0_k (2 : Int) (qae (2 : Int) ([] : List (List UInt8)) :: qae (2 : Int) ([] : List (List UInt8)) :: ([] : List (List UInt8))))))))))
theorem qn2 {a0_k : qag} {a1_l : List (List UInt8)} (w_0 : (Ty.kd (.sl (.arr 32 .byte))).wf a1_l) (hp : a1_l = [] ∧ qan a0_k) : qg4 a0_k a1_l (fun o0 o1 => o0 = (qae 2 []) ∧ o1 = (qaj a0_k 2 [])) := by
 obtain ⟨rfl, hb⟩ := hp
 unfold qg4
 exact ⟨fun _ => ⟨⟨by simp, hb⟩, fun _ => ⟨rfl, rfl⟩⟩, fun h => absurd rfl h⟩
theorem qn1 : (∀ a, qdB.pre a → PM.wfP qdB.pm a (fvc qlA 200 58 qdB a (eqO qdB a))) = (∀ a : qag × (List (List UInt8)) × Unit, ((a.2.1) = [] ∧ qan (a.1)) → (Ty.kd (.sl (.arr 32 .byte))).wf a.2.1 → qg4 a.1 a.2.1 (fun o0 o1 => o0 = (qae 2 []) ∧ o1 = (qaj (a.1) 2 []))) := by kernel_rfl
theorem qlB : qdB.valid Try.prog 58 := qaz (X := qlA) (qaV qat (fun b hb => by cases hb; exact qay) qaA ⟨qrm, qoE, qo7, trivial⟩) 200 (qn1.mpr fun a hp w_0 => @qn2 a.1 a.2.1 w_0 hp)
noncomputable def qbU : Ctr := ⟨[.bk 146 true, .v (.sl (.pr (.sl .byte) (.sl .byte)))], [.ow 24 (.arr 32 .byte)], some (fun a => (fun (a0_k : qag) (a1_l : List ((List UInt8) × List UInt8)) => (a1_l = [] : Prop)) a.1 a.2.1), fun a => (fun (a0_k : qag) (a1_l : List ((List UInt8) × List UInt8)) => ((([] : List (List UInt8)), ()), (a0_k, ()))) a.1 a.2.1⟩
noncomputable def qgE : Fx := ⟨seat, some bkT, fns, [(79, qeD)], [], [(3, [0], [])], []⟩
def qdK (a0_k : qag) (a1_l : List ((List UInt8) × List UInt8)) (Q : (List (List UInt8)) → qag → Prop) : Prop :=
 ∃ (x0 : List (List UInt8) → Int → qag → Prop), ∃ (x1 : List (List UInt8) → Int → qag → Nat), x0 ([] : List (List UInt8)) (0 : Int) a0_k ∧ ∀ (x2 : List (List UInt8)) (x3 : Int) (x4 : qag), x0 x2 x3 x4 → (Ty.arr (32 : Nat) Ty.byte).kd.sl.wf x2 → (Kd.int IntKind.i64).wf x3 → (x3 < (a1_l.length : Int) → ((0 : Int) ≤ x3 ∧ x3 < (a1_l.length : Int)) ∧ ((ix a1_l x3).fst.length + (ix a1_l x3).snd.length ≤ (70368744177664 : Nat) ∧ qan x4) ∧ ((Ty.arr (32 : Nat) Ty.byte).kd.wf (qae (4 : Int) ((ix a1_l x3).fst :: (ix a1_l x3).snd :: ([] : List (List UInt8)))) → (x2.length + (qae (4 : Int) ((ix a1_l x3).fst :: (ix a1_l x3).snd :: ([] : List (List UInt8))) :: ([] : List (List UInt8))).length) * (32 : Nat) ≤ (140737488355328 : Nat) ∧ x3 < (9223372036854775807 : Int) ∧ x0 (x2 ++ qae (4 : Int) ((ix a1_l x3).fst :: (ix a1_l x3).snd :: ([] : List (List UInt8))) :: ([] : List (List UInt8))) (x3 + (1 : Int)) (qaj x4 (4 : Int) ((ix a1_l x3).fst :: (ix a1_l x3).snd :: ([] : List (List UInt8)))) ∧ x1 (x2 ++ qae (4 : Int) ((ix a1_l x3).fst :: (ix a1_l x3).snd :: ([] : List (List UInt8))) :: ([] : List (List UInt8))) (x3 + (1 : Int)) (qaj x4 (4 : Int) ((ix a1_l x3).fst :: (ix a1_l x3).snd :: ([] : List (List UInt8)))) < x1 x2 x3 x4)) ∧ (¬x3 < (a1_l.length : Int) → Q x2 x4)
theorem qjg {a0_k : qag} {a1_l : List ((List UInt8) × List UInt8)} (w_0 : (Ty.kd (.sl (.pr (.sl .byte) (.sl .byte)))).wf a1_l) (hp : a1_l = []) : qdK a0_k a1_l (fun o0 o1 => o0 = ([] : List (List UInt8)) ∧ o1 = a0_k) := by
 subst hp
 unfold qdK
 refine ⟨fun out i k => out = [] ∧ i = 0 ∧ k = a0_k, fun _ _ _ => 0, ⟨rfl, rfl, rfl⟩, ?_⟩
 rintro out i k ⟨rfl, rfl, rfl⟩ _ _
 exact ⟨fun h => by simp at h, fun _ => ⟨rfl, rfl⟩⟩
theorem qjf : (∀ a, qbU.pre a → PM.wfP qbU.pm a (fvc qgE 200 81 qbU a (eqO qbU a))) = (∀ a : qag × (List ((List UInt8) × List UInt8)) × Unit, ((a.2.1) = []) → (Ty.kd (.sl (.pr (.sl .byte) (.sl .byte)))).wf a.2.1 → qdK a.1 a.2.1 (fun o0 o1 => o0 = ([] : List (List UInt8)) ∧ o1 = (a.1))) := by kernel_rfl
theorem qkT : qbU.valid Try.prog 81 := qaz (X := qgE) (qaV qat (fun b hb => by cases hb; exact qay) qaA ⟨qq1, trivial⟩) 200 (qjf.mpr fun a hp w_0 => @qjg a.1 a.2.1 w_0 hp)
noncomputable def qdg : Ctr := ⟨[.bk 146 true, .v (.sl (.pr (.sl .byte) (.sl .byte)))], [.v (.arr 32 .byte)], some (fun a => (fun (a0_k : qag) (a1_l : List ((List UInt8) × List UInt8)) => (a1_l = [] ∧ a0_k = none : Prop)) a.1 a.2.1), fun a => (fun (a0_k : qag) (a1_l : List ((List UInt8) × List UInt8)) => ((qdN, ()), ((qaj (qaj a0_k 2 []) 5 [numB 0, qae 2 []]), ()))) a.1 a.2.1⟩
noncomputable def qkc : Fx := ⟨seat, some bkT, fns, [(81, qbU), (58, qdB), (80, qdh)], [], [], []⟩
def qfN (a0_k : qag) (a1_l : List ((List UInt8) × List UInt8)) (Q : (List UInt8) → qag → Prop) : Prop :=
 a1_l = ([] : List (List UInt8 × List UInt8)) ∧ ((Ty.arr (32 : Nat) Ty.byte).kd.sl.wf ([] : List (List UInt8)) → (([] : List (List UInt8)) = ([] : List (List UInt8)) ∧ qan a0_k) ∧ ((Ty.arr (32 : Nat) Ty.byte).kd.wf (qae (2 : Int) ([] : List (List UInt8))) → ((0 : Int) ≤ (a1_l.length : Int) ∧ qan (qaj a0_k (2 : Int) ([] : List (List UInt8)))) ∧ ((Ty.arr (32 : Nat) Ty.byte).kd.wf (qae (5 : Int) (numB (a1_l.length : Int).toNat :: qae (2 : Int) ([] : List (List UInt8)) :: ([] : List (List UInt8)))) → Q (qae (5 : Int) (numB (a1_l.length : Int).toNat :: qae (2 : Int) ([] : List (List UInt8)) :: ([] : List (List UInt8)))) (qaj (qaj a0_k (2 : Int) ([] : List (List UInt8))) (5 : Int) (numB (a1_l.length : Int).toNat :: qae (2 : Int) ([] : List (List UInt8)) :: ([] : List (List UInt8)))))))
theorem qmK {a0_k : qag} {a1_l : List ((List UInt8) × List UInt8)} (w_0 : (Ty.kd (.sl (.pr (.sl .byte) (.sl .byte)))).wf a1_l) (hp : a1_l = [] ∧ a0_k = none) : qfN a0_k a1_l (fun o0 o1 => o0 = qdN ∧ o1 = (qaj (qaj a0_k 2 []) 5 [numB 0, qae 2 []])) := by
 obtain ⟨rfl, rfl⟩ := hp
 have hb : qan none := by rintro y h; cases h
 unfold qfN
 exact ⟨rfl, fun _ => ⟨⟨rfl, hb⟩, fun _ => ⟨⟨by simp, hb⟩, fun _ => ⟨rfl, rfl⟩⟩⟩⟩
theorem qmJ : (∀ a, qdg.pre a → PM.wfP qdg.pm a (fvc qkc 200 32 qdg a (eqO qdg a))) = (∀ a : qag × (List ((List UInt8) × List UInt8)) × Unit, ((a.2.1) = [] ∧ (a.1) = none) → (Ty.kd (.sl (.pr (.sl .byte) (.sl .byte)))).wf a.2.1 → qfN a.1 a.2.1 (fun o0 o1 => o0 = qdN ∧ o1 = (qaj (qaj (a.1) 2 []) 5 [numB 0, qae 2 []]))) := by kernel_rfl
theorem qoP : qdg.valid Try.prog 32 := qaz (X := qkc) (qaV qat (fun b hb => by cases hb; exact qay) qaA ⟨qkT, qlB, qoT, trivial⟩) 200 (qmJ.mpr fun a hp w_0 => @qmK a.1 a.2.1 w_0 hp)
noncomputable def qda : Ctr := ⟨[.bk 146 true, .v (.sl .str)], [.v (.pr (.int .u64) (.pr (.arr 32 .byte) (.pr (.arr 32 .byte) (.pr (.arr 32 .byte) (.pr (.arr 32 .byte) (.arr 32 .byte))))))], some (fun a => (fun (a0_k : qag) (a1_stops : List (List UInt8)) => (a0_k = none ∧ a1_stops.length ≤ 1048576 ∧ 1 + qai a1_stops ≤ 140737488355328 : Prop)) a.1 a.2.1), fun a => (fun (a0_k : qag) (a1_stops : List (List UInt8)) => (((qaG a1_stops), ()), ((none : qag), ()))) a.1 a.2.1⟩
noncomputable def qjC : Fx := ⟨seat, some bkT, fns, [(32, qdg), (58, qdB), (59, qep)], [], [], [(2, [0, 1], [.o 0 3, .o 1 3, .o 2 2, .o 4 3, .o 5 3, .o 3 1, .o 6 1, .o 7 3, .o 8 1])]⟩
def qfj (a0_k : qag) (a1_stops : List (List UInt8)) (Q : (Int × (List UInt8) × (List UInt8) × (List UInt8) × (List UInt8) × List UInt8) → qag → Prop) : Prop :=
 (([] : List (List UInt8 × List UInt8)) = ([] : List (List UInt8 × List UInt8)) ∧ a0_k = (none : Option (List Nt × Int))) ∧ ((Ty.arr (32 : Nat) Ty.byte).kd.wf qdN → (([] : List (List UInt8)) = ([] : List (List UInt8)) ∧ qan (qaj (qaj a0_k (2 : Int) ([] : List (List UInt8))) (5 : Int) (numB (0 : Nat) :: qae (2 : Int) ([] : List (List UInt8)) :: ([] : List (List UInt8))))) ∧ ((Ty.arr (32 : Nat) Ty.byte).kd.wf (qae (2 : Int) ([] : List (List UInt8))) → (a1_stops.length ≤ (1048576 : Nat) ∧ (1 : Nat) + qai a1_stops ≤ (140737488355328 : Nat) ∧ qan (qaj (qaj (qaj a0_k (2 : Int) ([] : List (List UInt8))) (5 : Int) (numB (0 : Nat) :: qae (2 : Int) ([] : List (List UInt8)) :: ([] : List (List UInt8)))) (2 : Int) ([] : List (List UInt8)))) ∧ ((Ty.arr (32 : Nat) Ty.byte).kd.wf (qae (8 : Int) a1_stops) → Q (((Ty.int IntKind.u64).pr ((Ty.arr (32 : Nat) Ty.byte).pr ((Ty.arr (32 : Nat) Ty.byte).pr ((Ty.arr (32 : Nat) Ty.byte).pr ((Ty.arr (32 : Nat) Ty.byte).pr (Ty.arr (32 : Nat) Ty.byte)))))).kd.z.fst, ((Ty.int IntKind.u64).pr ((Ty.arr (32 : Nat) Ty.byte).pr ((Ty.arr (32 : Nat) Ty.byte).pr ((Ty.arr (32 : Nat) Ty.byte).pr ((Ty.arr (32 : Nat) Ty.byte).pr (Ty.arr (32 : Nat) Ty.byte)))))).kd.z.snd.fst, qdN, qdN, qae (2 : Int) ([] : List (List UInt8)), qae (8 : Int) a1_stops) (qaj (qaj (qaj (qaj a0_k (2 : Int) ([] : List (List UInt8))) (5 : Int) (numB (0 : Nat) :: qae (2 : Int) ([] : List (List UInt8)) :: ([] : List (List UInt8)))) (2 : Int) ([] : List (List UInt8))) (8 : Int) a1_stops))))
theorem qlf {a0_k : qag} {a1_stops : List (List UInt8)} (w_0 : (Ty.kd (.sl .str)).wf a1_stops) (hp : a0_k = none ∧ a1_stops.length ≤ 1048576 ∧ 1 + qai a1_stops ≤ 140737488355328) : qfj a0_k a1_stops (fun o0 o1 => o0 = (qaG a1_stops) ∧ o1 = (none : qag)) := by
 obtain ⟨rfl, h1, h2⟩ := hp
 have hb : qan none := by rintro y h; cases h
 unfold qfj
 exact ⟨⟨rfl, rfl⟩, fun _ => ⟨⟨rfl, hb⟩, fun _ => ⟨⟨h1, h2, hb⟩, fun _ => ⟨rfl, rfl⟩⟩⟩⟩
theorem qle : (∀ a, qda.pre a → PM.wfP qda.pm a (fvc qjC 200 15 qda a (eqO qda a))) = (∀ a : qag × (List (List UInt8)) × Unit, ((a.1) = none ∧ (a.2.1).length ≤ 1048576 ∧ 1 + qai (a.2.1) ≤ 140737488355328) → (Ty.kd (.sl .str)).wf a.2.1 → qfj a.1 a.2.1 (fun o0 o1 => o0 = (qaG (a.2.1)) ∧ o1 = (none : qag))) := by kernel_rfl
theorem qjD : qda.valid Try.prog 15 := qaz (X := qjC) (qaV qat (fun b hb => by cases hb; exact qay) qaA ⟨qoP, qlB, qqr, trivial⟩) 200 (qle.mpr fun a hp w_0 => @qlf a.1 a.2.1 w_0 hp)
end Go.Proofs.Ytmjjkpiglbpkhaa

set_option linter.unusedVariables false
set_option maxRecDepth 100000
set_option maxHeartbeats 2000000
namespace Go.Proofs.Ytmjjkpiglbpkhaa
open Go Go.RowKit Go.Inc
theorem qta {w0 : World} {K0 : Ghost} {a0_b_v : Value} {a0_b : (List UInt8)} {a1_l_v : Value} {a1_l : (List Int)} (hM0 : Models w0 K0) (h_a0_b : qao.V K0 a0_b a0_b_v) (h_a1_l : (Kd.sl (Kd.int .u64)).V K0 a1_l a1_l_v) (hp : a0_b.length + 9 * a1_l.length ≤ 140737488355328) : Calls Try.prog 62 #[a0_b_v, a1_l_v] w0 (fun e w' => ∃ (K' : Ghost) (r0 : Value), e = .returned r0 ∧ Ext NX w0 K0 w' K' ∧ Models w' K' ∧ Own Kd.byte 5 w' K' (a0_b ++ qax a1_l) r0 ∧ (∀ g, ob r0 = some g → w0.heap.size ≤ g)) :=
 qpk (k := .byte) qqc (fun _ => rfl) (a := (a0_b, a1_l, ())) (vs := [a0_b_v, a1_l_v]) hp hM0 fun θ => qo6 (SVal.of_rel (t := .sl .byte) h_a0_b) (SVal.of_rel (t := .sl (.int .u64)) h_a1_l)
theorem qfp {w0 : World} {K0 : Ghost} {a0_b_v : Value} {a0_b : (List UInt8)} {a1_l_v : Value} {a1_l : (List (List UInt8))} (hM0 : Models w0 K0) (h_a0_b : qao.V K0 a0_b a0_b_v) (h_a1_l : (Kd.sl qaa).V K0 a1_l a1_l_v) (hp : a0_b.length + a1_l.flatten.length ≤ 140737488355328 ∧ ∀ x ∈ a1_l, x.length = 32) : Calls Try.prog 64 #[a0_b_v, a1_l_v] w0 (fun e w' => ∃ (K' : Ghost) (r0 : Value), e = .returned r0 ∧ Ext NX w0 K0 w' K' ∧ Models w' K' ∧ Own Kd.byte 5 w' K' (a0_b ++ a1_l.flatten) r0 ∧ (∀ g, ob r0 = some g → w0.heap.size ≤ g)) :=
 qpk (k := .byte) qqd (fun _ => rfl) (a := (a0_b, a1_l, ())) (vs := [a0_b_v, a1_l_v]) hp hM0 fun θ => qo6 (SVal.of_rel (t := .sl .byte) h_a0_b) (SVal.of_rel (t := .sl (.arr 32 .byte)) h_a1_l)
end Go.Proofs.Ytmjjkpiglbpkhaa

set_option linter.unusedVariables false
set_option maxRecDepth 100000
set_option maxHeartbeats 2000000
namespace Go.Proofs.Ytmjjkpiglbpkhaa
open Go Go.RowKit Go.Inc
abbrev qcf : Kd (Int × ((List UInt8) × ((List UInt8) × ((List UInt8) × ((List UInt8) × (List UInt8)))))) := (Kd.pr (Kd.int .u64) (Kd.pr qaa (Kd.pr qaa (Kd.pr qaa (Kd.pr qaa qaa)))))
abbrev qcW : Kd (List Value) := (Kd.arr 5 Kd.rpt)
theorem qpj : TyOk Try.prog 116 qcW 40 := ⟨⟨Try.t116, _, Try.type116, rfl, rfl, rfl, rfl, rfl⟩, ⟨_, Try.underlying116, rfl⟩⟩
theorem qgT : TyOk Try.prog 115 Kd.rpt 8 := ⟨⟨Try.t115, _, Try.type115, rfl, rfl, rfl, rfl, rfl⟩, ⟨_, Try.underlying115, rfl⟩⟩
def qdU (a0_h : (Int × ((List UInt8) × ((List UInt8) × ((List UInt8) × ((List UInt8) × (List UInt8))))))) (Q : (List UInt8) → Prop) : Prop :=
 (([] : List UInt8).length + 9 * [a0_h.1].length ≤ 140737488355328) ∧ ((qao.wf (([] : List UInt8) ++ qax [a0_h.1])) → (((([] : List UInt8) ++ qax [a0_h.1]).length + [a0_h.2.1].flatten.length ≤ 140737488355328 ∧ ∀ x ∈ [a0_h.2.1], x.length = 32) ∧ ((qao.wf ((([] : List UInt8) ++ qax [a0_h.1]) ++ [a0_h.2.1].flatten)) → ((((([] : List UInt8) ++ qax [a0_h.1]) ++ [a0_h.2.1].flatten).length + [a0_h.2.2.1].flatten.length ≤ 140737488355328 ∧ ∀ x ∈ [a0_h.2.2.1], x.length = 32) ∧ ((qao.wf (((([] : List UInt8) ++ qax [a0_h.1]) ++ [a0_h.2.1].flatten) ++ [a0_h.2.2.1].flatten)) → (((((([] : List UInt8) ++ qax [a0_h.1]) ++ [a0_h.2.1].flatten) ++ [a0_h.2.2.1].flatten).length + [a0_h.2.2.2.1].flatten.length ≤ 140737488355328 ∧ ∀ x ∈ [a0_h.2.2.2.1], x.length = 32) ∧ ((qao.wf ((((([] : List UInt8) ++ qax [a0_h.1]) ++ [a0_h.2.1].flatten) ++ [a0_h.2.2.1].flatten) ++ [a0_h.2.2.2.1].flatten)) → ((((((([] : List UInt8) ++ qax [a0_h.1]) ++ [a0_h.2.1].flatten) ++ [a0_h.2.2.1].flatten) ++ [a0_h.2.2.2.1].flatten).length + [a0_h.2.2.2.2.1].flatten.length ≤ 140737488355328 ∧ ∀ x ∈ [a0_h.2.2.2.2.1], x.length = 32) ∧ ((qao.wf (((((([] : List UInt8) ++ qax [a0_h.1]) ++ [a0_h.2.1].flatten) ++ [a0_h.2.2.1].flatten) ++ [a0_h.2.2.2.1].flatten) ++ [a0_h.2.2.2.2.1].flatten)) → (((((((([] : List UInt8) ++ qax [a0_h.1]) ++ [a0_h.2.1].flatten) ++ [a0_h.2.2.1].flatten) ++ [a0_h.2.2.2.1].flatten) ++ [a0_h.2.2.2.2.1].flatten).length + [a0_h.2.2.2.2.2].flatten.length ≤ 140737488355328 ∧ ∀ x ∈ [a0_h.2.2.2.2.2], x.length = 32) ∧ ((qao.wf ((((((([] : List UInt8) ++ qax [a0_h.1]) ++ [a0_h.2.1].flatten) ++ [a0_h.2.2.1].flatten) ++ [a0_h.2.2.2.1].flatten) ++ [a0_h.2.2.2.2.1].flatten) ++ [a0_h.2.2.2.2.2].flatten)) → (Q ((((((([] : List UInt8) ++ qax [a0_h.1]) ++ [a0_h.2.1].flatten) ++ [a0_h.2.2.1].flatten) ++ [a0_h.2.2.2.1].flatten) ++ [a0_h.2.2.2.2.1].flatten) ++ [a0_h.2.2.2.2.2].flatten)))))))))))))
theorem qlc {a0_h : (Int × ((List UInt8) × ((List UInt8) × ((List UInt8) × ((List UInt8) × (List UInt8))))))} (w_0 : qcf.wf a0_h) : qdU a0_h (fun o0 => o0 = (qaf a0_h)) := by
 have hw : HdWf a0_h := ⟨w_0.1.1, w_0.1.2, w_0.2.1.1, w_0.2.2.1.1, w_0.2.2.2.1.1, w_0.2.2.2.2.1.1, w_0.2.2.2.2.2.1⟩
 have hn := qaP (n := a0_h.1.toNat) (by have := hw.n1; omega)
 have ha := hw.a; have hb := hw.b; have hc := hw.c; have hd := hw.d; have he := hw.e
 have en : qax [a0_h.1] = numB a0_h.1.toNat := by simp [qax]
 unfold qdU
 rw [en]
 refine ⟨by simp, fun _ => ⟨⟨by simp; omega, by simp [ha]⟩, fun _ => ⟨⟨by simp; omega, by simp [hb]⟩, fun _ => ⟨⟨by simp; omega, by simp [hc]⟩, fun _ => ⟨⟨by simp; omega, by simp [hd]⟩, fun _ => ⟨⟨by simp; omega, by simp [he]⟩, fun _ => ?_⟩⟩⟩⟩⟩⟩
 simp [qaf]
theorem qiC {w0 : World} {K0 : Ghost} {a0_h_v : Value} {a0_h : (Int × ((List UInt8) × ((List UInt8) × ((List UInt8) × ((List UInt8) × (List UInt8))))))} {Q : (List UInt8) → Prop} (hM0 : Models w0 K0) (h_a0_h : qcf.V K0 a0_h a0_h_v) (h : qdU a0_h Q) : Calls Try.prog 17 #[a0_h_v] w0 (fun e w' => ∃ (K' : Ghost) (r0 : Value) (o0 : (List UInt8)), e = .returned r0 ∧ Q o0 ∧ Ext NX w0 K0 w' K' ∧ Models w' K' ∧ Own Kd.byte 5 w' K' o0 r0 ∧ (∀ g, ob r0 = some g → w0.heap.size ≤ g)) := by
 unfold qdU at h
 have hE0 : Ext NX w0 K0 w0 K0 := Ext.refl _ _ _
 refine qa7 fun R hR => ?_
 refine qaR (args := [a0_h_v]) Try.func17 rfl (Nat.le_of_ble_eq_true rfl) ?_
 refine qah ?_
 refine qac ?_
 refine qaw rfl rfl (St_B (qhV hM0 rfl h_a0_h) ?_)
 rintro b2 w2 (hB2 : Bx qcf _ _ _ _ _ a0_h) hS2 hM2 hge2
 have hE2 := hE0.andN hS2
 have hR4 : Own Kd.byte 5 w2 K0 ([] : List UInt8) (.slice none 0 0) := Own.nil
 refine qab (.slice none 0 0) (R_as rfl) rfl rfl ?_
 refine qak ?_
 refine qah ?_
 refine qac ?_
 refine qab (.pointer (some ⟨b2, 0 + 0, none⟩)) (R_fa rfl Try.underlying26 rfl rfl ty23 rfl) rfl rfl ?_
 refine WL_L hM2 (qby (Foc.fst (Kd.int .u64) (Kd.pr qaa (Kd.pr qaa (Kd.pr qaa (Kd.pr qaa qaa))))) rfl ty23 hB2 (by first | rfl | simp | omega) (fun h => h)) rfl rfl ?_
 rintro v5 (hV5 : (Kd.int .u64).V _ a0_h.1 _)
 obtain rfl := qbu hV5
 refine qaw rfl rfl (qg5 (qga (k := (Kd.int .u64)) (l := [(a0_h.1, (.int .u64 a0_h.1))]) hM2 rfl (by intro p hp; simp only [List.mem_cons, List.not_mem_nil, or_false] at hp; subst hp; exact (qfL (hV5).wf)) rfl Try.underlying166 ty23 rfl rfl) ?_)
 rintro v6 w6 K6 (hO6 : Own (Kd.int .u64) 23 w6 K6 [a0_h.1] v6) hS6 hM6 hg6
 have hE6 := hE2.andN hS6
 have hR8 : Own Kd.byte 5 w6 K6 ([] : List UInt8) (.slice none 0 0) := Own.nil
 have hR9 := (hB2.extN hS6)
 have hR10 := (hR4.extN hS6)
 obtain ⟨hp12, h⟩ := h
 refine qaw rfl rfl (qaQ (qbz Try.call62 rfl) ((qta hM6 hR8.V hO6.V hp12).mono ?_))
 rintro _ w11 ⟨K11, v11_0, rfl, hS11, hM11, hO11_0, hg11_0⟩
 refine ⟨v11_0, rfl, ?_⟩
 have hE11 := hE6.andN hS11
 have h := h hO11_0.wf
 refine qab v11_0 (R_as rfl) rfl rfl ?_
 refine qak ?_
 refine qah ?_
 refine qah ?_
 refine qac ?_
 refine qaw rfl rfl (qaQ (qbz Try.call63 rfl) (?_))
 refine qa7 fun R14 hR14 => ?_
 refine qaR (args := [(.pointer (some ⟨b2, 0, none⟩))]) Try.func63 rfl (Nat.le_of_ble_eq_true rfl) ?_
 refine qah ?_
 refine qac ?_
 refine qaw rfl rfl (St_B (qdC hM11 qpj) ?_)
 rintro b15 w15 (hB15 : Bx qcW _ _ _ _ _ (List.replicate 5 (.pointer none))) hS15 hM15 hge15
 have hE15 := hE11.andN hS15
 have hR17 := (hR9.extN hS11)
 refine qak ?_
 refine qah ?_
 refine qdD (K := K11) (fun c => c = b15 ∨ w15.heap.size ≤ c) [.o 0 2, .o 1 2, .o 2 2, .o 3 2, .o 4 2, .o 5 2, .o 6 2, .o 7 2, .o 8 2, .o 9 2, .o 10 2, .o 11 2, .o 12 2, .o 13 2, .o 14 2, .o 15 2, .o 16 1] (by kernel_rfl) (by kernel_rfl) hM15 ?_
 rintro w18 hS18 hM18
 have hE18 := hE15.andN hS18
 refine qal (.pointer (some ⟨b2, 0, none⟩)) rfl l0 hM18 (fun _ => R_mv rfl) rfl (gN rfl) rfl ?_
 refine qal (.pointer (some ⟨b2, 0, none⟩)) rfl l0 hM18 (fun _ => qaJ rfl) rfl (gN rfl) rfl ?_
 refine qal (.pointer (some ⟨b2, 0 + 1, none⟩)) rfl l0 hM18 (fun _ => R_fa rfl Try.underlying26 rfl rfl ty24 rfl) rfl (gN rfl) rfl ?_
 refine qal (.pointer (some ⟨b2, 0, none⟩)) rfl l0 hM18 (fun _ => R_mv rfl) rfl (gN rfl) rfl ?_
 refine qal (.pointer (some ⟨b2, 0, none⟩)) rfl l0 hM18 (fun _ => qaJ rfl) rfl (gN rfl) rfl ?_
 refine qal (.pointer (some ⟨b2, 0 + 33, none⟩)) rfl l0 hM18 (fun _ => R_fa rfl Try.underlying26 rfl rfl ty24 rfl) rfl (gN rfl) rfl ?_
 refine qal (.pointer (some ⟨b2, 0, none⟩)) rfl l0 hM18 (fun _ => R_mv rfl) rfl (gN rfl) rfl ?_
 refine qal (.pointer (some ⟨b2, 0, none⟩)) rfl l0 hM18 (fun _ => qaJ rfl) rfl (gN rfl) rfl ?_
 refine qal (.pointer (some ⟨b2, 0 + 65, none⟩)) rfl l0 hM18 (fun _ => R_fa rfl Try.underlying26 rfl rfl ty24 rfl) rfl (gN rfl) rfl ?_
 refine qal (.pointer (some ⟨b2, 0, none⟩)) rfl l0 hM18 (fun _ => R_mv rfl) rfl (gN rfl) rfl ?_
 refine qal (.pointer (some ⟨b2, 0, none⟩)) rfl l0 hM18 (fun _ => qaJ rfl) rfl (gN rfl) rfl ?_
 refine qal (.pointer (some ⟨b2, 0 + 97, none⟩)) rfl l0 hM18 (fun _ => R_fa rfl Try.underlying26 rfl rfl ty24 rfl) rfl (gN rfl) rfl ?_
 refine qal (.pointer (some ⟨b2, 0, none⟩)) rfl l0 hM18 (fun _ => R_mv rfl) rfl (gN rfl) rfl ?_
 refine qal (.pointer (some ⟨b2, 0, none⟩)) rfl l0 hM18 (fun _ => qaJ rfl) rfl (gN rfl) rfl ?_
 refine qal (.pointer (some ⟨b2, 0 + 129, none⟩)) rfl l0 hM18 (fun _ => R_fa rfl Try.underlying26 rfl rfl ty24 rfl) rfl (gN rfl) rfl ?_
 refine WO_V rfl l0 hM18 (qlE (k := Kd.rpt) (l := [((.pointer (some ⟨b2, 0 + 1, none⟩)), (.pointer (some ⟨b2, 0 + 1, none⟩))), ((.pointer (some ⟨b2, 0 + 33, none⟩)), (.pointer (some ⟨b2, 0 + 33, none⟩))), ((.pointer (some ⟨b2, 0 + 65, none⟩)), (.pointer (some ⟨b2, 0 + 65, none⟩))), ((.pointer (some ⟨b2, 0 + 97, none⟩)), (.pointer (some ⟨b2, 0 + 97, none⟩))), ((.pointer (some ⟨b2, 0 + 129, none⟩)), (.pointer (some ⟨b2, 0 + 129, none⟩)))]) (K := K11) qpj qgT Try.underlying116 rfl (by intro p hp; simp only [List.mem_cons, List.not_mem_nil, or_false] at hp; rcases hp with rfl | rfl | rfl | rfl | rfl; exact (rw_V (by rfl)); exact (rw_V (by rfl)); exact (rw_V (by rfl)); exact (rw_V (by rfl)); exact (rw_V (by rfl))) rfl) rfl (gN rfl) rfl ?_
 rintro v19 (hV19 : qcW.V _ [(.pointer (some ⟨b2, 0 + 1, none⟩)), (.pointer (some ⟨b2, 0 + 33, none⟩)), (.pointer (some ⟨b2, 0 + 65, none⟩)), (.pointer (some ⟨b2, 0 + 97, none⟩)), (.pointer (some ⟨b2, 0 + 129, none⟩))] _)
 have hR22 := (hB15.extN hS18)
 refine qhY rfl (gN rfl) rfl (qhX (qhW (Foc.id _) hM18 rfl rfl hV19 qpj hR22 (by first | rfl | simp | omega)) ?_)
 rintro w21 (hB21 : Bx qcW _ _ b15 [] [] [(.pointer (some ⟨b2, 0 + 1, none⟩)), (.pointer (some ⟨b2, 0 + 33, none⟩)), (.pointer (some ⟨b2, 0 + 65, none⟩)), (.pointer (some ⟨b2, 0 + 97, none⟩)), (.pointer (some ⟨b2, 0 + 129, none⟩))]) hS21 hM21
 refine ⟨K11, (hS21.weak (fun c hlt hx => (.inl (hx)))), hM21, ?_⟩
 have hE21 := hE18.comp hS21 (fun c hx hlt => (by subst hx; exact (fun hlt => absurd hlt (Nat.not_lt.2 (Nat.le_trans hE11.size hge15))) hlt))
 refine qfs ?_
 refine qbY ?_
 refine qhm hR14 (qm9 rfl rfl qpj hB21) ?_
 rintro v23 (hV23 : qcW.V _ [(.pointer (some ⟨b2, 0 + 1, none⟩)), (.pointer (some ⟨b2, 0 + 33, none⟩)), (.pointer (some ⟨b2, 0 + 65, none⟩)), (.pointer (some ⟨b2, 0 + 97, none⟩)), (.pointer (some ⟨b2, 0 + 129, none⟩))] _)
 refine ⟨v23, rfl, ?_⟩
 refine qab (.int .i64 0) (R_mv rfl) rfl rfl ?_
 refine qak ?_
 refine qa9 ?_
 refine qjS ?_
 refine qcC ?_
 refine qah ?_
 refine qac ?_
 refine qab (.bool true) ((qe1 (a := 0) (b := 5) rfl rfl).trans (by rfl)) rfl rfl ?_
 refine qak ?_
 refine qah ?_
 refine qaK true rfl (fun _ => ?_) (fun hc => by cases hc)
 refine qa3 ?_
 refine qah ?_
 refine qa9 ?_
 refine qah ?_
 refine qac ?_
 refine WL_V (qiO rfl hV23 rfl Try.underlying116 qgT (by decide) (by decide)) rfl rfl ?_
 rintro v25 (hV25 : Kd.rpt.V _ (.pointer (some ⟨b2, 0 + 1, none⟩)) _)
 obtain rfl := qbN hV25
 refine qab (.pointer (some ⟨b2, 0 + 1, none⟩)) (R_as rfl) rfl rfl ?_
 refine qak ?_
 refine qac ?_
 refine qab v11_0 (R_mv rfl) rfl rfl ?_
 refine qab (.pointer (some ⟨b2, 0 + 1, none⟩)) (R_mv rfl) rfl rfl ?_
 refine qab (.pointer (some ⟨b2, 0 + 1, none⟩)) (qaJ rfl) rfl rfl ?_
 have hR27 := (((hR9.extN hS11).extN hS15).extN hS18)
 have hR28 := (hR27.ext hS21 (fun hx => (fun he => (qcP hge15 hR17.lt) he.symm) hx))
 refine WL_L hM21 (qby (Foc.trans (Foc.snd (Kd.int .u64) (Kd.pr qaa (Kd.pr qaa (Kd.pr qaa (Kd.pr qaa qaa))))) (Foc.fst qaa (Kd.pr qaa (Kd.pr qaa (Kd.pr qaa qaa))))) rfl ty24 hR28 (by first | rfl | simp | omega) (fun h => h)) rfl rfl ?_
 rintro v26 (hV26 : qaa.V _ a0_h.2.1 _)
 refine qaw rfl rfl (qg5 (qga (k := qaa) (l := [(a0_h.2.1, v26)]) hM21 rfl (by intro p hp; simp only [List.mem_cons, List.not_mem_nil, or_false] at hp; subst hp; exact hV26) rfl Try.underlying80 ty24 rfl rfl) ?_)
 rintro v30 w30 K30 (hO30 : Own qaa 24 w30 K30 [a0_h.2.1] v30) hS30 hM30 hg30
 have hE30 := hE21.andN hS30
 have hR32 := (hR28.extN hS30)
 have hR33 := (((hR10.extN hS11).extN hS15).extN hS18)
 have hR34 := ((hR33.ext hS21 (fun g hg hx => (fun g hg hx => hR33.box hR22 (hg.trans (congrArg some hx))) g hg hx)).extN hS30)
 have hR35 := (((hO6.extN hS11).extN hS15).extN hS18)
 have hR36 := ((hR35.ext hS21 (fun g hg hx => (fun g hg hx => hR35.box hR22 (hg.trans (congrArg some hx))) g hg hx)).extN hS30)
 have hR37 := (((hR8.extN hS11).extN hS15).extN hS18)
 have hR38 := ((hR37.ext hS21 (fun g hg hx => (fun g hg hx => hR37.box hR22 (hg.trans (congrArg some hx))) g hg hx)).extN hS30)
 have hR39 := ((hO11_0.extN hS15).extN hS18)
 have hR40 := ((hR39.ext hS21 (fun g hg hx => (fun g hg hx => hR39.box hR22 (hg.trans (congrArg some hx))) g hg hx)).extN hS30)
 have hR41 := (hB21.extN hS30)
 obtain ⟨hp43, h⟩ := h
 refine qaw rfl rfl (qaQ (qbz Try.call64 rfl) ((qfp hM30 hR40.V hO30.V hp43).mono ?_))
 rintro _ w42 ⟨K42, v42_0, rfl, hS42, hM42, hO42_0, hg42_0⟩
 refine ⟨v42_0, rfl, ?_⟩
 have hE42 := hE30.andN hS42
 have h := h hO42_0.wf
 refine qab v42_0 (R_as rfl) rfl rfl ?_
 refine qak ?_
 refine qac ?_
 refine qab (.int .i64 1) ((qf9 (a := 0) (b := 1) rfl rfl).trans (by rfl)) rfl rfl ?_
 refine qab (.int .i64 1) (R_mv rfl) rfl rfl ?_
 refine qak ?_
 refine qcC ?_
 refine qah ?_
 refine qac ?_
 refine qab (.bool true) ((qe1 (a := 1) (b := 5) rfl rfl).trans (by rfl)) rfl rfl ?_
 refine qak ?_
 refine qah ?_
 refine qaK true rfl (fun _ => ?_) (fun hc => by cases hc)
 refine qa3 ?_
 refine qah ?_
 refine qa9 ?_
 refine qah ?_
 refine qac ?_
 refine WL_V (qiO rfl (hV23.mono (hS30.le.trans hS42.le)) rfl Try.underlying116 qgT (by decide) (by decide)) rfl rfl ?_
 rintro v45 (hV45 : Kd.rpt.V _ (.pointer (some ⟨b2, 0 + 33, none⟩)) _)
 obtain rfl := qbN hV45
 refine qab (.pointer (some ⟨b2, 0 + 33, none⟩)) (R_as rfl) rfl rfl ?_
 refine qak ?_
 refine qac ?_
 refine qab v42_0 (R_mv rfl) rfl rfl ?_
 refine qab (.pointer (some ⟨b2, 0 + 33, none⟩)) (R_mv rfl) rfl rfl ?_
 refine qab (.pointer (some ⟨b2, 0 + 33, none⟩)) (qaJ rfl) rfl rfl ?_
 have hR47 := (hR32.extN hS42)
 refine WL_L hM42 (qby (Foc.trans (Foc.snd (Kd.int .u64) (Kd.pr qaa (Kd.pr qaa (Kd.pr qaa (Kd.pr qaa qaa))))) (Foc.trans (Foc.snd qaa (Kd.pr qaa (Kd.pr qaa (Kd.pr qaa qaa)))) (Foc.fst qaa (Kd.pr qaa (Kd.pr qaa qaa))))) rfl ty24 hR47 (by first | rfl | simp | omega) (fun h => h)) rfl rfl ?_
 rintro v46 (hV46 : qaa.V _ a0_h.2.2.1 _)
 refine qaw rfl rfl (qg5 (qga (k := qaa) (l := [(a0_h.2.2.1, v46)]) hM42 rfl (by intro p hp; simp only [List.mem_cons, List.not_mem_nil, or_false] at hp; subst hp; exact hV46) rfl Try.underlying80 ty24 rfl rfl) ?_)
 rintro v49 w49 K49 (hO49 : Own qaa 24 w49 K49 [a0_h.2.2.1] v49) hS49 hM49 hg49
 have hE49 := hE42.andN hS49
 have hR51 := (hO30.extN hS42)
 have hR52 := (hR47.extN hS49)
 have hR53 := ((hR34.extN hS42).extN hS49)
 have hR54 := ((hR36.extN hS42).extN hS49)
 have hR55 := ((hR38.extN hS42).extN hS49)
 have hR56 := ((hR40.extN hS42).extN hS49)
 have hR57 := ((hR41.extN hS42).extN hS49)
 have hR58 := ((hO30.extN hS42).extN hS49)
 have hR59 := (hO42_0.extN hS49)
 obtain ⟨hp61, h⟩ := h
 refine qaw rfl rfl (qaQ (qbz Try.call64 rfl) ((qfp hM49 hR59.V hO49.V hp61).mono ?_))
 rintro _ w60 ⟨K60, v60_0, rfl, hS60, hM60, hO60_0, hg60_0⟩
 refine ⟨v60_0, rfl, ?_⟩
 have hE60 := hE49.andN hS60
 have h := h hO60_0.wf
 refine qab v60_0 (R_as rfl) rfl rfl ?_
 refine qak ?_
 refine qac ?_
 refine qab (.int .i64 2) ((qf9 (a := 1) (b := 1) rfl rfl).trans (by rfl)) rfl rfl ?_
 refine qab (.int .i64 2) (R_mv rfl) rfl rfl ?_
 refine qak ?_
 refine qcC ?_
 refine qah ?_
 refine qac ?_
 refine qab (.bool true) ((qe1 (a := 2) (b := 5) rfl rfl).trans (by rfl)) rfl rfl ?_
 refine qak ?_
 refine qah ?_
 refine qaK true rfl (fun _ => ?_) (fun hc => by cases hc)
 refine qa3 ?_
 refine qah ?_
 refine qa9 ?_
 refine qah ?_
 refine qac ?_
 refine WL_V (qiO rfl (hV23.mono (hS30.le.trans (hS42.le.trans (hS49.le.trans hS60.le)))) rfl Try.underlying116 qgT (by decide) (by decide)) rfl rfl ?_
 rintro v63 (hV63 : Kd.rpt.V _ (.pointer (some ⟨b2, 0 + 65, none⟩)) _)
 obtain rfl := qbN hV63
 refine qab (.pointer (some ⟨b2, 0 + 65, none⟩)) (R_as rfl) rfl rfl ?_
 refine qak ?_
 refine qac ?_
 refine qab v60_0 (R_mv rfl) rfl rfl ?_
 refine qab (.pointer (some ⟨b2, 0 + 65, none⟩)) (R_mv rfl) rfl rfl ?_
 refine qab (.pointer (some ⟨b2, 0 + 65, none⟩)) (qaJ rfl) rfl rfl ?_
 have hR65 := (hR52.extN hS60)
 refine WL_L hM60 (qby (Foc.trans (Foc.snd (Kd.int .u64) (Kd.pr qaa (Kd.pr qaa (Kd.pr qaa (Kd.pr qaa qaa))))) (Foc.trans (Foc.snd qaa (Kd.pr qaa (Kd.pr qaa (Kd.pr qaa qaa)))) (Foc.trans (Foc.snd qaa (Kd.pr qaa (Kd.pr qaa qaa))) (Foc.fst qaa (Kd.pr qaa qaa))))) rfl ty24 hR65 (by first | rfl | simp | omega) (fun h => h)) rfl rfl ?_
 rintro v64 (hV64 : qaa.V _ a0_h.2.2.2.1 _)
 refine qaw rfl rfl (qg5 (qga (k := qaa) (l := [(a0_h.2.2.2.1, v64)]) hM60 rfl (by intro p hp; simp only [List.mem_cons, List.not_mem_nil, or_false] at hp; subst hp; exact hV64) rfl Try.underlying80 ty24 rfl rfl) ?_)
 rintro v67 w67 K67 (hO67 : Own qaa 24 w67 K67 [a0_h.2.2.2.1] v67) hS67 hM67 hg67
 have hE67 := hE60.andN hS67
 have hR69 := (hR58.extN hS60)
 have hR70 := (hO49.extN hS60)
 have hR71 := (hR65.extN hS67)
 have hR72 := ((hR53.extN hS60).extN hS67)
 have hR73 := ((hR54.extN hS60).extN hS67)
 have hR74 := ((hR55.extN hS60).extN hS67)
 have hR75 := ((hR56.extN hS60).extN hS67)
 have hR76 := ((hR57.extN hS60).extN hS67)
 have hR77 := ((hR58.extN hS60).extN hS67)
 have hR78 := ((hR59.extN hS60).extN hS67)
 have hR79 := ((hO49.extN hS60).extN hS67)
 have hR80 := (hO60_0.extN hS67)
 obtain ⟨hp82, h⟩ := h
 refine qaw rfl rfl (qaQ (qbz Try.call64 rfl) ((qfp hM67 hR80.V hO67.V hp82).mono ?_))
 rintro _ w81 ⟨K81, v81_0, rfl, hS81, hM81, hO81_0, hg81_0⟩
 refine ⟨v81_0, rfl, ?_⟩
 have hE81 := hE67.andN hS81
 have h := h hO81_0.wf
 refine qab v81_0 (R_as rfl) rfl rfl ?_
 refine qak ?_
 refine qac ?_
 refine qab (.int .i64 3) ((qf9 (a := 2) (b := 1) rfl rfl).trans (by rfl)) rfl rfl ?_
 refine qab (.int .i64 3) (R_mv rfl) rfl rfl ?_
 refine qak ?_
 refine qcC ?_
 refine qah ?_
 refine qac ?_
 refine qab (.bool true) ((qe1 (a := 3) (b := 5) rfl rfl).trans (by rfl)) rfl rfl ?_
 refine qak ?_
 refine qah ?_
 refine qaK true rfl (fun _ => ?_) (fun hc => by cases hc)
 refine qa3 ?_
 refine qah ?_
 refine qa9 ?_
 refine qah ?_
 refine qac ?_
 refine WL_V (qiO rfl (hV23.mono (hS30.le.trans (hS42.le.trans (hS49.le.trans (hS60.le.trans (hS67.le.trans hS81.le)))))) rfl Try.underlying116 qgT (by decide) (by decide)) rfl rfl ?_
 rintro v84 (hV84 : Kd.rpt.V _ (.pointer (some ⟨b2, 0 + 97, none⟩)) _)
 obtain rfl := qbN hV84
 refine qab (.pointer (some ⟨b2, 0 + 97, none⟩)) (R_as rfl) rfl rfl ?_
 refine qak ?_
 refine qac ?_
 refine qab v81_0 (R_mv rfl) rfl rfl ?_
 refine qab (.pointer (some ⟨b2, 0 + 97, none⟩)) (R_mv rfl) rfl rfl ?_
 refine qab (.pointer (some ⟨b2, 0 + 97, none⟩)) (qaJ rfl) rfl rfl ?_
 have hR86 := (hR71.extN hS81)
 refine WL_L hM81 (qby (Foc.trans (Foc.snd (Kd.int .u64) (Kd.pr qaa (Kd.pr qaa (Kd.pr qaa (Kd.pr qaa qaa))))) (Foc.trans (Foc.snd qaa (Kd.pr qaa (Kd.pr qaa (Kd.pr qaa qaa)))) (Foc.trans (Foc.snd qaa (Kd.pr qaa (Kd.pr qaa qaa))) (Foc.trans (Foc.snd qaa (Kd.pr qaa qaa)) (Foc.fst qaa qaa))))) rfl ty24 hR86 (by first | rfl | simp | omega) (fun h => h)) rfl rfl ?_
 rintro v85 (hV85 : qaa.V _ a0_h.2.2.2.2.1 _)
 refine qaw rfl rfl (qg5 (qga (k := qaa) (l := [(a0_h.2.2.2.2.1, v85)]) hM81 rfl (by intro p hp; simp only [List.mem_cons, List.not_mem_nil, or_false] at hp; subst hp; exact hV85) rfl Try.underlying80 ty24 rfl rfl) ?_)
 rintro v88 w88 K88 (hO88 : Own qaa 24 w88 K88 [a0_h.2.2.2.2.1] v88) hS88 hM88 hg88
 have hE88 := hE81.andN hS88
 have hR90 := (hR77.extN hS81)
 have hR91 := (hR79.extN hS81)
 have hR92 := (hO67.extN hS81)
 have hR93 := (hR86.extN hS88)
 have hR94 := ((hR72.extN hS81).extN hS88)
 have hR95 := ((hR73.extN hS81).extN hS88)
 have hR96 := ((hR74.extN hS81).extN hS88)
 have hR97 := ((hR75.extN hS81).extN hS88)
 have hR98 := ((hR76.extN hS81).extN hS88)
 have hR99 := ((hR77.extN hS81).extN hS88)
 have hR100 := ((hR78.extN hS81).extN hS88)
 have hR101 := ((hR79.extN hS81).extN hS88)
 have hR102 := ((hR80.extN hS81).extN hS88)
 have hR103 := ((hO67.extN hS81).extN hS88)
 have hR104 := (hO81_0.extN hS88)
 obtain ⟨hp106, h⟩ := h
 refine qaw rfl rfl (qaQ (qbz Try.call64 rfl) ((qfp hM88 hR104.V hO88.V hp106).mono ?_))
 rintro _ w105 ⟨K105, v105_0, rfl, hS105, hM105, hO105_0, hg105_0⟩
 refine ⟨v105_0, rfl, ?_⟩
 have hE105 := hE88.andN hS105
 have h := h hO105_0.wf
 refine qab v105_0 (R_as rfl) rfl rfl ?_
 refine qak ?_
 refine qac ?_
 refine qab (.int .i64 4) ((qf9 (a := 3) (b := 1) rfl rfl).trans (by rfl)) rfl rfl ?_
 refine qab (.int .i64 4) (R_mv rfl) rfl rfl ?_
 refine qak ?_
 refine qcC ?_
 refine qah ?_
 refine qac ?_
 refine qab (.bool true) ((qe1 (a := 4) (b := 5) rfl rfl).trans (by rfl)) rfl rfl ?_
 refine qak ?_
 refine qah ?_
 refine qaK true rfl (fun _ => ?_) (fun hc => by cases hc)
 refine qa3 ?_
 refine qah ?_
 refine qa9 ?_
 refine qah ?_
 refine qac ?_
 refine WL_V (qiO rfl (hV23.mono (hS30.le.trans (hS42.le.trans (hS49.le.trans (hS60.le.trans (hS67.le.trans (hS81.le.trans (hS88.le.trans hS105.le)))))))) rfl Try.underlying116 qgT (by decide) (by decide)) rfl rfl ?_
 rintro v108 (hV108 : Kd.rpt.V _ (.pointer (some ⟨b2, 0 + 129, none⟩)) _)
 obtain rfl := qbN hV108
 refine qab (.pointer (some ⟨b2, 0 + 129, none⟩)) (R_as rfl) rfl rfl ?_
 refine qak ?_
 refine qac ?_
 refine qab v105_0 (R_mv rfl) rfl rfl ?_
 refine qab (.pointer (some ⟨b2, 0 + 129, none⟩)) (R_mv rfl) rfl rfl ?_
 refine qab (.pointer (some ⟨b2, 0 + 129, none⟩)) (qaJ rfl) rfl rfl ?_
 have hR110 := (hR93.extN hS105)
 refine WL_L hM105 (qby (Foc.trans (Foc.snd (Kd.int .u64) (Kd.pr qaa (Kd.pr qaa (Kd.pr qaa (Kd.pr qaa qaa))))) (Foc.trans (Foc.snd qaa (Kd.pr qaa (Kd.pr qaa (Kd.pr qaa qaa)))) (Foc.trans (Foc.snd qaa (Kd.pr qaa (Kd.pr qaa qaa))) (Foc.trans (Foc.snd qaa (Kd.pr qaa qaa)) (Foc.snd qaa qaa))))) rfl ty24 hR110 (by first | rfl | simp | omega) (fun h => h)) rfl rfl ?_
 rintro v109 (hV109 : qaa.V _ a0_h.2.2.2.2.2 _)
 refine qaw rfl rfl (qg5 (qga (k := qaa) (l := [(a0_h.2.2.2.2.2, v109)]) hM105 rfl (by intro p hp; simp only [List.mem_cons, List.not_mem_nil, or_false] at hp; subst hp; exact hV109) rfl Try.underlying80 ty24 rfl rfl) ?_)
 rintro v112 w112 K112 (hO112 : Own qaa 24 w112 K112 [a0_h.2.2.2.2.2] v112) hS112 hM112 hg112
 have hE112 := hE105.andN hS112
 have hR114 := (hR99.extN hS105)
 have hR115 := (hR101.extN hS105)
 have hR116 := (hR103.extN hS105)
 have hR117 := (hO88.extN hS105)
 have hR118 := (hR110.extN hS112)
 have hR119 := ((hR94.extN hS105).extN hS112)
 have hR120 := ((hR95.extN hS105).extN hS112)
 have hR121 := ((hR96.extN hS105).extN hS112)
 have hR122 := ((hR97.extN hS105).extN hS112)
 have hR123 := ((hR98.extN hS105).extN hS112)
 have hR124 := ((hR99.extN hS105).extN hS112)
 have hR125 := ((hR100.extN hS105).extN hS112)
 have hR126 := ((hR101.extN hS105).extN hS112)
 have hR127 := ((hR102.extN hS105).extN hS112)
 have hR128 := ((hR103.extN hS105).extN hS112)
 have hR129 := ((hR104.extN hS105).extN hS112)
 have hR130 := ((hO88.extN hS105).extN hS112)
 have hR131 := (hO105_0.extN hS112)
 obtain ⟨hp133, h⟩ := h
 refine qaw rfl rfl (qaQ (qbz Try.call64 rfl) ((qfp hM112 hR131.V hO112.V hp133).mono ?_))
 rintro _ w132 ⟨K132, v132_0, rfl, hS132, hM132, hO132_0, hg132_0⟩
 refine ⟨v132_0, rfl, ?_⟩
 have hE132 := hE112.andN hS132
 have h := h hO132_0.wf
 refine qab v132_0 (R_as rfl) rfl rfl ?_
 refine qak ?_
 refine qac ?_
 refine qab (.int .i64 5) ((qf9 (a := 4) (b := 1) rfl rfl).trans (by rfl)) rfl rfl ?_
 refine qab (.int .i64 5) (R_mv rfl) rfl rfl ?_
 refine qak ?_
 refine qcC ?_
 refine qah ?_
 refine qac ?_
 refine qab (.bool false) ((qe1 (a := 5) (b := 5) rfl rfl).trans (by rfl)) rfl rfl ?_
 refine qak ?_
 refine qah ?_
 refine qaK false rfl (fun hc => by cases hc) (fun _ => ?_)
 refine qfu ?_
 refine qah ?_
 refine qac ?_
 refine qab v132_0 (R_mv rfl) rfl rfl ?_
 refine qab v132_0 (R_as rfl) rfl rfl ?_
 refine qak ?_
 refine qbY ?_
 exact qbt hR (v := v132_0) (qdy rfl rfl) ⟨K132, v132_0, ((((((([] : List UInt8) ++ qax [a0_h.1]) ++ [a0_h.2.1].flatten) ++ [a0_h.2.2.1].flatten) ++ [a0_h.2.2.2.1].flatten) ++ [a0_h.2.2.2.2.1].flatten) ++ [a0_h.2.2.2.2.2].flatten), rfl, h, hE132, hM132, hO132_0, (fun g hg => Nat.le_trans hE112.size (hg132_0 g hg))⟩
theorem qnE {w0 : World} {K0 : Ghost} {a0_h_v : Value} {a0_h : (Int × ((List UInt8) × ((List UInt8) × ((List UInt8) × ((List UInt8) × (List UInt8))))))} (hM0 : Models w0 K0) (h_a0_h : qcf.V K0 a0_h a0_h_v) : Calls Try.prog 17 #[a0_h_v] w0 (fun e w' => ∃ (K' : Ghost) (r0 : Value), e = .returned r0 ∧ Ext NX w0 K0 w' K' ∧ Models w' K' ∧ Own Kd.byte 5 w' K' (qaf a0_h) r0 ∧ (∀ g, ob r0 = some g → w0.heap.size ≤ g)) := by
 refine (qiC hM0 h_a0_h (qlc h_a0_h.wf)).mono ?_
 rintro _ w' ⟨K', r0, o0, rfl, rfl, hF⟩
 exact ⟨K', r0, rfl, hF⟩
end Go.Proofs.Ytmjjkpiglbpkhaa

set_option linter.unusedVariables false
set_option maxRecDepth 100000
set_option maxHeartbeats 2000000
namespace Go.Proofs.Ytmjjkpiglbpkhaa
open Go Go.RowKit Go.Inc
noncomputable def qe4 : Ctr := ⟨[.v (.pr (.int .u64) (.pr (.arr 32 .byte) (.pr (.arr 32 .byte) (.pr (.arr 32 .byte) (.pr (.arr 32 .byte) (.arr 32 .byte))))))], [.ow 5 .byte], none, fun a => (fun (a0_h : Int × (List UInt8) × (List UInt8) × (List UInt8) × (List UInt8) × List UInt8) => (((qaf a0_h), ()), (()))) a.1⟩
theorem qgW : qe4.valid Try.prog 17 := qsA (k := .byte) (fun _ => rfl) fun a hp θ vs w K hM hv => by
 obtain ⟨v, vs, rfl, h1, h2⟩ := hv
 have h2' : vs = [] := h2
 subst h2'
 exact qnE hM (qbM (t := .pr (.int .u64) (.pr (.arr 32 .byte) (.pr (.arr 32 .byte) (.pr (.arr 32 .byte) (.pr (.arr 32 .byte) (.arr 32 .byte)))))) h1 rfl)
end Go.Proofs.Ytmjjkpiglbpkhaa

set_option linter.unusedVariables false
set_option maxRecDepth 100000
set_option maxHeartbeats 20000000
namespace Go.Proofs.Ytmjjkpiglbpkhaa
open Go Go.RowKit Go.Inc
noncomputable def qbW : Ctr := ⟨[.bk 146 true, .v (.pr (.int .u64) (.pr (.arr 32 .byte) (.pr (.arr 32 .byte) (.pr (.arr 32 .byte) (.pr (.arr 32 .byte) (.arr 32 .byte))))))], [.v (.arr 32 .byte)], some (fun a => (fun (a0_k : qag) (a1_h : Int × (List UInt8) × (List UInt8) × (List UInt8) × (List UInt8) × List UInt8) => (qan a0_k : Prop)) a.1 a.2.1), fun a => (fun (a0_k : qag) (a1_h : Int × (List UInt8) × (List UInt8) × (List UInt8) × (List UInt8) × List UInt8) => (((qae 6 [qaf a1_h]), ()), ((qaj a0_k 6 [qaf a1_h]), ()))) a.1 a.2.1⟩
noncomputable def qhP : Fx := ⟨seat, some bkT, fns, [(17, qe4), (67, Of_C)], [], [], []⟩
def qeh (a0_k : qag) (a1_h : Int × (List UInt8) × (List UInt8) × (List UInt8) × (List UInt8) × List UInt8) (Q : (List UInt8) → qag → Prop) : Prop :=
 Ty.byte.kd.sl.wf (qaf a1_h) → ((1 : Nat) + qai (qaf a1_h :: ([] : List (List UInt8))) ≤ (140737488355328 : Nat) ∧ qan a0_k) ∧ ((Ty.arr (32 : Nat) Ty.byte).kd.wf (qae (6 : Int) (qaf a1_h :: ([] : List (List UInt8)))) → Q (qae (6 : Int) (qaf a1_h :: ([] : List (List UInt8)))) (qaj a0_k (6 : Int) (qaf a1_h :: ([] : List (List UInt8)))))
theorem qkB {a0_k : qag} {a1_h : Int × (List UInt8) × (List UInt8) × (List UInt8) × (List UInt8) × List UInt8} (w_0 : (Ty.kd (.pr (.int .u64) (.pr (.arr 32 .byte) (.pr (.arr 32 .byte) (.pr (.arr 32 .byte) (.pr (.arr 32 .byte) (.arr 32 .byte))))))).wf a1_h) (hp : qan a0_k) : qeh a0_k a1_h (fun o0 o1 => o0 = (qae 6 [qaf a1_h]) ∧ o1 = (qaj a0_k 6 [qaf a1_h])) := by
 have hw : HdWf a1_h := ⟨w_0.1.1, w_0.1.2, w_0.2.1.1, w_0.2.2.1.1, w_0.2.2.2.1.1, w_0.2.2.2.2.1.1, w_0.2.2.2.2.2.1⟩
 have hl := qjb hw
 unfold qeh
 exact fun _ => ⟨⟨by simp [qai]; omega, hp⟩, fun _ => ⟨rfl, rfl⟩⟩
theorem qkA : (∀ a, qbW.pre a → PM.wfP qbW.pm a (fvc qhP 200 19 qbW a (eqO qbW a))) = (∀ a : qag × (Int × (List UInt8) × (List UInt8) × (List UInt8) × (List UInt8) × List UInt8) × Unit, (qan (a.1)) → (Ty.kd (.pr (.int .u64) (.pr (.arr 32 .byte) (.pr (.arr 32 .byte) (.pr (.arr 32 .byte) (.pr (.arr 32 .byte) (.arr 32 .byte))))))).wf a.2.1 → qeh a.1 a.2.1 (fun o0 o1 => o0 = (qae 6 [qaf (a.2.1)]) ∧ o1 = (qaj (a.1) 6 [qaf (a.2.1)]))) := by kernel_rfl
theorem qfi : qbW.valid Try.prog 19 := qaz (X := qhP) (qaV qat (fun b hb => by cases hb; exact qay) qaA ⟨qgW, Of_k, trivial⟩) 200 (qkA.mpr fun a hp w_0 => @qkB a.1 a.2.1 w_0 hp)
noncomputable def qei : Ctr := ⟨[.bk 146 true, .v (.pr (.int .u64) (.pr (.arr 32 .byte) (.pr (.arr 32 .byte) (.pr (.arr 32 .byte) (.pr (.arr 32 .byte) (.arr 32 .byte)))))), .v (.arr 32 .byte), .v (.arr 32 .byte), .v (.arr 32 .byte)], [.v (.pr (.int .u64) (.pr (.arr 32 .byte) (.pr (.arr 32 .byte) (.pr (.arr 32 .byte) (.pr (.arr 32 .byte) (.arr 32 .byte))))))], some (fun a => (fun (a0_k : qag) (a1_h : Int × (List UInt8) × (List UInt8) × (List UInt8) × (List UInt8) × List UInt8) (a2_tables : List UInt8) (a3_index : List UInt8) (a4_history : List UInt8) => (qan a0_k : Prop)) a.1 a.2.1 a.2.2.1 a.2.2.2.1 a.2.2.2.2.1), fun a => (fun (a0_k : qag) (a1_h : Int × (List UInt8) × (List UInt8) × (List UInt8) × (List UInt8) × List UInt8) (a2_tables : List UInt8) (a3_index : List UInt8) (a4_history : List UInt8) => (((qdM a1_h a2_tables a3_index a4_history), ()), ((qaj a0_k 6 [qaf a1_h]), ()))) a.1 a.2.1 a.2.2.1 a.2.2.2.1 a.2.2.2.2.1⟩
noncomputable def qlg : Fx := ⟨seat, some bkT, fns, [(19, qbW)], [], [], [(1, [0, 6], [.o 0 3, .o 1 3, .o 2 3, .par [3, 4, 5] (.alt 3 1 (.one 4 3 (.one 5 1 .fin)) (.alt 5 1 (.one 3 1 (.one 4 3 .fin)) .fin)), .o 6 1]), (4, [6], [.o 0 2, .o 1 2, .o 2 3, .o 3 3, .o 4 3, .o 5 2, .o 6 2, .o 7 1, .o 8 3, .o 9 3, .o 10 1, .o 11 3, .o 12 3, .o 13 1, .o 14 3, .o 15 3, .o 16 1])]⟩
def qgX (a0_k : qag) (a1_h : Int × (List UInt8) × (List UInt8) × (List UInt8) × (List UInt8) × List UInt8) (a2_tables : List UInt8) (a3_index : List UInt8) (a4_history : List UInt8) (Q : (Int × (List UInt8) × (List UInt8) × (List UInt8) × (List UInt8) × List UInt8) → qag → Prop) : Prop :=
 (qan a0_k ∧ ((Ty.arr (32 : Nat) Ty.byte).kd.wf (qae (6 : Int) (qaf a1_h :: ([] : List (List UInt8)))) → (a1_h.fst < (4611686018427387903 : Int) → Q (IntKind.u64.wrap (a1_h.fst + (1 : Int)), qae (6 : Int) (qaf a1_h :: ([] : List (List UInt8))), a2_tables, a3_index, a4_history, a1_h.snd.snd.snd.snd.snd) (qaj a0_k (6 : Int) (qaf a1_h :: ([] : List (List UInt8))))) ∧ (¬a1_h.fst < (4611686018427387903 : Int) → Q (a1_h.fst, qae (6 : Int) (qaf a1_h :: ([] : List (List UInt8))), a2_tables, a3_index, a4_history, a1_h.snd.snd.snd.snd.snd) (qaj a0_k (6 : Int) (qaf a1_h :: ([] : List (List UInt8))))))) ∧ (qan a0_k ∧ ((Ty.arr (32 : Nat) Ty.byte).kd.wf (qae (6 : Int) (qaf a1_h :: ([] : List (List UInt8)))) → (a1_h.fst < (4611686018427387903 : Int) → Q (IntKind.u64.wrap (a1_h.fst + (1 : Int)), qae (6 : Int) (qaf a1_h :: ([] : List (List UInt8))), a2_tables, a3_index, a4_history, a1_h.snd.snd.snd.snd.snd) (qaj a0_k (6 : Int) (qaf a1_h :: ([] : List (List UInt8))))) ∧ (¬a1_h.fst < (4611686018427387903 : Int) → Q (a1_h.fst, qae (6 : Int) (qaf a1_h :: ([] : List (List UInt8))), a2_tables, a3_index, a4_history, a1_h.snd.snd.snd.snd.snd) (qaj a0_k (6 : Int) (qaf a1_h :: ([] : List (List UInt8))))))) ∧ True
theorem qnH {a0_k : qag} {a1_h : Int × (List UInt8) × (List UInt8) × (List UInt8) × (List UInt8) × List UInt8} {a2_tables : List UInt8} {a3_index : List UInt8} {a4_history : List UInt8} (w_0 : (Ty.kd (.pr (.int .u64) (.pr (.arr 32 .byte) (.pr (.arr 32 .byte) (.pr (.arr 32 .byte) (.pr (.arr 32 .byte) (.arr 32 .byte))))))).wf a1_h) (w_1 : (Ty.kd (.arr 32 .byte)).wf a2_tables) (w_2 : (Ty.kd (.arr 32 .byte)).wf a3_index) (w_3 : (Ty.kd (.arr 32 .byte)).wf a4_history) (hp : qan a0_k) : qgX a0_k a1_h a2_tables a3_index a4_history (fun o0 o1 => o0 = (qdM a1_h a2_tables a3_index a4_history) ∧ o1 = (qaj a0_k 6 [qaf a1_h])) := by
 have h0 : 0 ≤ a1_h.1 := w_0.1.1
 have hy : ∀ h : a1_h.1 < 4611686018427387903, (IntKind.u64.wrap (a1_h.1 + 1), qae 6 [qaf a1_h], a2_tables, a3_index, a4_history, a1_h.2.2.2.2.2) = qdM a1_h a2_tables a3_index a4_history := fun h => by
  have e : IntKind.u64.wrap (a1_h.1 + 1) = a1_h.1 + 1 := qaD ⟨by show (0 : Int) ≤ _; omega, by show _ ≤ (18446744073709551615 : Int); omega⟩
  rw [e]
  unfold qdM
  rw [if_pos h]
 have hn : ∀ h : ¬ a1_h.1 < 4611686018427387903, (a1_h.1, qae 6 [qaf a1_h], a2_tables, a3_index, a4_history, a1_h.2.2.2.2.2) = qdM a1_h a2_tables a3_index a4_history := fun h => by
  unfold qdM
  rw [if_neg h]
 unfold qgX
 exact ⟨⟨hp, fun _ => ⟨fun h => ⟨hy h, rfl⟩, fun h => ⟨hn h, rfl⟩⟩⟩, ⟨hp, fun _ => ⟨fun h => ⟨hy h, rfl⟩, fun h => ⟨hn h, rfl⟩⟩⟩, trivial⟩
theorem qnG : (∀ a, qei.pre a → PM.wfP qei.pm a (fvc qlg 200 21 qei a (eqO qei a))) = (∀ a : qag × (Int × (List UInt8) × (List UInt8) × (List UInt8) × (List UInt8) × List UInt8) × (List UInt8) × (List UInt8) × (List UInt8) × Unit, (qan (a.1)) → (Ty.kd (.pr (.int .u64) (.pr (.arr 32 .byte) (.pr (.arr 32 .byte) (.pr (.arr 32 .byte) (.pr (.arr 32 .byte) (.arr 32 .byte))))))).wf a.2.1 → (Ty.kd (.arr 32 .byte)).wf a.2.2.1 → (Ty.kd (.arr 32 .byte)).wf a.2.2.2.1 → (Ty.kd (.arr 32 .byte)).wf a.2.2.2.2.1 → qgX a.1 a.2.1 a.2.2.1 a.2.2.2.1 a.2.2.2.2.1 (fun o0 o1 => o0 = (qdM (a.2.1) (a.2.2.1) (a.2.2.2.1) (a.2.2.2.2.1)) ∧ o1 = (qaj (a.1) 6 [qaf (a.2.1)]))) := by kernel_rfl
theorem qlh : qei.valid Try.prog 21 := qaz (X := qlg) (qaV qat (fun b hb => by cases hb; exact qay) qaA ⟨qfi, trivial⟩) 200 (qnG.mpr fun a hp w_0 w_1 w_2 w_3 => @qnH a.1 a.2.1 a.2.2.1 a.2.2.2.1 a.2.2.2.2.1 w_0 w_1 w_2 w_3 hp)
noncomputable def qgl : Ctr := ⟨[.nil, .v (.pr (.int .u64) (.pr (.arr 32 .byte) (.pr (.arr 32 .byte) (.pr (.arr 32 .byte) (.pr (.arr 32 .byte) (.arr 32 .byte))))))], [.v (.arr 32 .byte)], none, fun a => (fun (a1_h : Int × (List UInt8) × (List UInt8) × (List UInt8) × (List UInt8) × List UInt8) => (((digO a1_h), ()), (()))) a.2.1⟩
theorem qkz : qgl.valid Try.prog 19 :=
 qq5 qfi (fun _ => rfl) (fun a θ θ' n n' K vs h => by
  obtain ⟨v0, vs, rfl, h0, h⟩ := h
  exact ⟨v0, _, rfl, SVal.of_rel (t := .pr (.int .u64) (.pr (.arr 32 .byte) (.pr (.arr 32 .byte) (.pr (.arr 32 .byte) (.pr (.arr 32 .byte) (.arr 32 .byte)))))) (qbM (t := .pr (.int .u64) (.pr (.arr 32 .byte) (.pr (.arr 32 .byte) (.pr (.arr 32 .byte) (.pr (.arr 32 .byte) (.arr 32 .byte)))))) h0 rfl), h⟩) (fun _ => rfl) (fun a _ => by rintro y h; cases h) (fun a _ => qmd _)
noncomputable def qjE : Ctr := ⟨[.nil, .v (.pr (.int .u64) (.pr (.arr 32 .byte) (.pr (.arr 32 .byte) (.pr (.arr 32 .byte) (.pr (.arr 32 .byte) (.arr 32 .byte)))))), .v (.arr 32 .byte), .v (.arr 32 .byte), .v (.arr 32 .byte)], [.v (.pr (.int .u64) (.pr (.arr 32 .byte) (.pr (.arr 32 .byte) (.pr (.arr 32 .byte) (.pr (.arr 32 .byte) (.arr 32 .byte))))))], none, fun a => (fun (a1_h : Int × (List UInt8) × (List UInt8) × (List UInt8) × (List UInt8) × List UInt8) (a2_tables : List UInt8) (a3_index : List UInt8) (a4_history : List UInt8) => (((qfS a1_h a2_tables a3_index a4_history), ()), (()))) a.2.1 a.2.2.1 a.2.2.2.1 a.2.2.2.2.1⟩
theorem qnF : qjE.valid Try.prog 21 :=
 qq5 qlh (fun _ => rfl) (fun a θ θ' n n' K vs h => by
  obtain ⟨v0, vs, rfl, h0, ⟨v1, vs, rfl, h1, ⟨v2, vs, rfl, h2, ⟨v3, vs, rfl, h3, h⟩⟩⟩⟩ := h
  exact ⟨v0, _, rfl, SVal.of_rel (t := .pr (.int .u64) (.pr (.arr 32 .byte) (.pr (.arr 32 .byte) (.pr (.arr 32 .byte) (.pr (.arr 32 .byte) (.arr 32 .byte)))))) (qbM (t := .pr (.int .u64) (.pr (.arr 32 .byte) (.pr (.arr 32 .byte) (.pr (.arr 32 .byte) (.pr (.arr 32 .byte) (.arr 32 .byte)))))) h0 rfl), ⟨v1, _, rfl, SVal.of_rel (t := .arr 32 .byte) (qbM (t := .arr 32 .byte) h1 rfl), ⟨v2, _, rfl, SVal.of_rel (t := .arr 32 .byte) (qbM (t := .arr 32 .byte) h2 rfl), ⟨v3, _, rfl, SVal.of_rel (t := .arr 32 .byte) (qbM (t := .arr 32 .byte) h3 rfl), h⟩⟩⟩⟩) (fun _ => rfl) (fun a _ => by rintro y h; cases h) (fun a _ => congrFun (congrFun (congrFun (congrFun qkf _) _) _) _)
noncomputable def qhQ : Ctr := ⟨[.nil, .v (.sl .str)], [.v (.pr (.int .u64) (.pr (.arr 32 .byte) (.pr (.arr 32 .byte) (.pr (.arr 32 .byte) (.pr (.arr 32 .byte) (.arr 32 .byte))))))], some (fun a => (fun (a1_stops : List (List UInt8)) => (a1_stops = [] : Prop)) a.2.1), fun a => (fun (a1_stops : List (List UInt8)) => ((qau, ()), (()))) a.2.1⟩
theorem qld : qhQ.valid Try.prog 15 :=
 qq5 qjD (fun _ => rfl) (fun a θ θ' n n' K vs h => by
  obtain ⟨v0, vs, rfl, h0, h⟩ := h
  exact ⟨v0, _, rfl, SVal.of_rel (t := .sl .str) (qbM (t := .sl .str) h0 rfl), h⟩) (fun _ => rfl) (fun a hp => ⟨rfl, by rw [show a.2.1 = [] from hp]; simp, by rw [show a.2.1 = [] from hp]; simp [qai]⟩) (fun a hp => by have h : a.2.1 = [] := hp; show qau = qaG a.2.1; rw [h]; exact qh6)
noncomputable def qcs : Ctr := ⟨[], [.v .bool], none, fun _ => ((true, ()), (()))⟩
noncomputable def qhZ : Fx := ⟨seat, some bkT, fns, [(15, qhQ), (15, qda), (21, qjE), (21, qei), (19, qgl), (19, qbW), (17, qe4)], [], [], [(3, [], [.o 0 2, .o 1 2, .o 2 2, .o 3 2, .o 4 2, .o 5 2, .o 6 2, .o 7 2, .o 8 2, .o 9 2, .o 10 2, .o 11 2, .o 12 2, .o 13 2, .o 14 2, .o 15 2, .o 16 2, .o 17 2, .o 18 0, .o 19 2, .o 20 2, .o 21 2, .o 22 2, .o 23 2, .o 24 2, .o 25 2, .o 26 2, .o 27 2, .o 28 2, .o 29 0, .o 30 2, .o 31 2, .o 32 2, .o 33 2, .o 34 2, .o 35 0, .o 36 2, .o 37 2, .o 38 2, .o 39 2])]⟩
def qer (Q : Bool → Prop) : Prop :=
 ([] : List (List UInt8)) = ([] : List (List UInt8)) ∧ (((Ty.int IntKind.u64).pr ((Ty.arr (32 : Nat) Ty.byte).pr ((Ty.arr (32 : Nat) Ty.byte).pr ((Ty.arr (32 : Nat) Ty.byte).pr ((Ty.arr (32 : Nat) Ty.byte).pr (Ty.arr (32 : Nat) Ty.byte)))))).kd.wf qau → ((Ty.int IntKind.u64).pr ((Ty.arr (32 : Nat) Ty.byte).pr ((Ty.arr (32 : Nat) Ty.byte).pr ((Ty.arr (32 : Nat) Ty.byte).pr ((Ty.arr (32 : Nat) Ty.byte).pr (Ty.arr (32 : Nat) Ty.byte)))))).kd.wf (qfS qau qau.snd.snd.fst qau.snd.snd.snd.fst qau.snd.snd.snd.snd.fst) → (qau.fst = (0 : Int) → (qau.snd.fst = List.replicate (32 : Nat) Ty.byte.kd.z → ((qfS qau qau.snd.snd.fst qau.snd.snd.snd.fst qau.snd.snd.snd.snd.fst).fst = (1 : Int) → (Ty.arr (32 : Nat) Ty.byte).kd.wf (digO qau) → ((qfS qau qau.snd.snd.fst qau.snd.snd.snd.fst qau.snd.snd.snd.snd.fst).snd.fst = digO qau → ((qfS qau qau.snd.snd.fst qau.snd.snd.snd.fst qau.snd.snd.snd.snd.fst).snd.fst ≠ List.replicate (32 : Nat) Ty.byte.kd.z → Ty.byte.kd.sl.wf (qaf qau) → (((qaf qau).length : Int) = (161 : Int) → Ty.byte.kd.sl.wf (qaf (qfS qau qau.snd.snd.fst qau.snd.snd.snd.fst qau.snd.snd.snd.snd.fst)) → Q (decide (((qaf (qfS qau qau.snd.snd.fst qau.snd.snd.snd.fst qau.snd.snd.snd.snd.fst)).length : Int) = (162 : Int)))) ∧ (¬((qaf qau).length : Int) = (161 : Int) → Q false)) ∧ (¬(qfS qau qau.snd.snd.fst qau.snd.snd.snd.fst qau.snd.snd.snd.snd.fst).snd.fst ≠ List.replicate (32 : Nat) Ty.byte.kd.z → Q false)) ∧ (¬(qfS qau qau.snd.snd.fst qau.snd.snd.snd.fst qau.snd.snd.snd.snd.fst).snd.fst = digO qau → Q false)) ∧ (¬(qfS qau qau.snd.snd.fst qau.snd.snd.snd.fst qau.snd.snd.snd.snd.fst).fst = (1 : Int) → Q false)) ∧ (¬qau.snd.fst = List.replicate (32 : Nat) Ty.byte.kd.z → Q false)) ∧ (¬qau.fst = (0 : Int) → Q false))
theorem qkI  : qer  (fun o0 => o0 = true) := by
 have f6 := qsH
 have e1 : (qdM (qaG []) (qaG []).2.2.1 (qaG []).2.2.2.1 (qaG []).2.2.2.2.1).1 = 1 := by simp [qdM, qaG]
 have e2 : (qdM (qaG []) (qaG []).2.2.1 (qaG []).2.2.2.1 (qaG []).2.2.2.2.1).2.1 = qae 6 [qaf (qaG [])] := rfl
 have hl : ∀ x : List UInt8, x = qdN → x.length = 32 := fun x h => by rw [h]; exact qaE _ _
 have e4 : (qaf (qaG [])).length = 161 := by
  simp only [qaf, qaG, List.length_append, qaE, hl _ rfl, List.length_replicate]
  rw [show ((0 : Int)).toNat = 0 from rfl, qq6]
  rfl
 have e5 : (qaf (qdM (qaG []) (qaG []).2.2.1 (qaG []).2.2.2.1 (qaG []).2.2.2.2.1)).length = 162 := by
  have e : qaf (qdM (qaG []) (qaG []).2.2.1 (qaG []).2.2.2.1 (qaG []).2.2.2.2.1) = numB 1 ++ (qae 6 [qaf (qaG [])] ++ (qdN ++ (qdN ++ (qae 2 [] ++ qae 8 [])))) := by
   unfold qaf
   rw [e1, e2]
   rfl
  rw [e]
  simp only [List.length_append, qaE, hl _ rfl, qtQ]
  rfl
 have e6 : qae 6 [qaf (qaG [])] ≠ List.replicate 32 0 := by rw [f6]; decide
 unfold qer
 simp only [qh6, qkf, qmd]
 have e7 : (qaG ([] : List (List UInt8))).1 = 0 := rfl
 have e8 : (qaG ([] : List (List UInt8))).2.1 = List.replicate 32 0 := rfl
 have e9 : ((qaf (qaG [])).length : Int) = 161 := by rw [e4]; rfl
 have e10 : (qdM (qaG []) (qaG []).2.2.1 (qaG []).2.2.2.1 (qaG []).2.2.2.2.1).2.1 ≠ List.replicate 32 0 := by rw [e2]; exact e6
 refine ⟨by first | rfl | trivial, fun _ _ => ⟨fun _ => ⟨fun _ => ⟨fun _ _ => ⟨fun _ => ⟨fun _ _ => ⟨fun _ _ => ?_, fun h => absurd e9 h⟩, fun h => absurd e10 h⟩, fun h => absurd e2 h⟩, fun h => absurd e1 h⟩, fun h => absurd e8 h⟩, fun h => absurd e7 h⟩⟩
 rw [e5]
 rfl
theorem qkH : (∀ a, qcs.pre a → PM.wfP qcs.pm a (fvc qhZ 200 14 qcs a (eqO qcs a))) = (∀ a : Unit, True → qer  (fun o0 => o0 = true)) := by kernel_rfl
theorem qlS : qcs.valid Try.prog 14 := qaz (X := qhZ) (qaV qat (fun b hb => by cases hb; exact qay) qaA ⟨qld, qjD, qnF, qlh, qkz, qfi, qgW, trivial⟩) 200 (qkH.mpr fun a hp  => @qkI )
end Go.Proofs.Ytmjjkpiglbpkhaa

set_option linter.unusedVariables false
namespace Go.Inc
open Go
theorem qmI {l : List Pk} {i : Nat} (h : i < l.length) : ix (qaU l) (i : Int) = qcb l[i] := by
 rw [ixN (by rw [qbm]; exact h)]
 simp [qaU]
theorem qcA {l : List Pk} {i : Nat} (h : i < l.length) : qfP (l.length : Int) (qf3 l i).1 (qf3 l i).2.2 = true ∧ qcZ (l.length : Int) (qf3 l i).1 (qcb (qf3 l i).2.1) (qf3 l i).2.2 = qbh (qaU l) := by
 have hr : (0 : Int) ≤ (i : Int) ∧ (i : Int) < ((qaU l).length : Int) := by rw [qbm]; omega
 have h1 := qgF hr
 have h2 := qkU hr
 rw [qbm] at h1 h2
 rw [qmI h] at h2
 refine ⟨h1, ?_⟩
 show qcZ (l.length : Int) (i : Int) (qcb (ix l (i : Int))) (qkY (qaU l) (i : Int)) = _
 rw [ixN h]
 exact h2
theorem qjd {l : List Pk} {key : By} (hm : mayK l = true) : isK l key = true ↔ ∃ (i : Nat) (h : i < l.length), l[i].1 = key := by
 unfold isK
 simp only [Bool.and_eq_true, decide_eq_true_eq]
 refine ⟨fun ⟨h1, h2⟩ => ⟨_, h1, by rw [ixN h1] at h2; exact h2⟩, fun ⟨i, h, he⟩ => ?_⟩
 have e : lowK l key = i := qjk (Nat.le_of_lt h) (fun t ht hti => by rw [← he]; exact qc0 ht h hm hti) (fun _ => by rw [he]; exact qaN key)
 refine ⟨by rw [e]; exact h, ?_⟩
 simp only [e]
 rw [ixN h]
 exact he
theorem qi9 {n : Int} {x : Sp} {t r : Sm} (h1 : qfP n x.1 x.2.2 = true) (h2 : qcZ n x.1 (qcb x.2.1) x.2.2 = r) : goK n true [x] t = some r := by
 rw [goK, if_pos ⟨h1, .inl rfl⟩, h2, goK]
theorem qqT {n : Int} {x y : Sp} {t r : Sm} (h1 : qfP n x.1 x.2.2 = true) (h2 : qcZ n x.1 (qcb x.2.1) x.2.2 = r) (h3 : qfP n y.1 y.2.2 = true) (h4 : qcZ n y.1 (qcb y.2.1) y.2.2 = r) : goK n true [x, y] t = some r := by
 rw [goK, if_pos ⟨h1, .inl rfl⟩, h2, goK, if_pos ⟨h3, .inr h4⟩, h4, goK]
theorem qk2 {l : List Pk} {key : By} (hm : mayK l = true) : qgf (qeI l) key (qjt l key) = some (isK l key) ∧ (isK l key = true → ix (qjt l key).2 0 = qf3 l (lowK l key)) := by
 have hle := qmT l key
 have fin : ∀ (L : List Sp) (b : Bool), qng key ((l.length : Int), L) = (b, true) → goK (l.length : Int) true L (begK (l.length : Int)) = some (qbh (qaU l)) → qgf (qeI l) key ((l.length : Int), L) = some b := fun L b h1 h2 => by
  unfold qgf
  rw [h1, if_pos ⟨rfl, Int.natCast_nonneg _⟩, h2]
  show (if qiz (l.length : Int) (qbh (qaU l)) = qeI l then some b else none) = some b
  rw [if_pos (show qiz (l.length : Int) (qbh (qaU l)) = qeI l from rfl)]
 have eshow : qjt l key = ((l.length : Int), (List.range' (qe3 l key) (toK l key - qe3 l key)).map (qf3 l)) := by unfold qjt; rw [if_pos hm]
 rw [eshow]
 cases hi : isK l key with
 | true =>
   have hi' := hi
   unfold isK at hi'
   simp only [Bool.and_eq_true, decide_eq_true_eq] at hi'
   obtain ⟨hp, hk⟩ := hi'
   have e1 : qe3 l key = lowK l key := by unfold qe3; rw [if_pos hi]
   have e2 : toK l key - qe3 l key = 1 := by rw [e1]; unfold toK; omega
   rw [e2, e1]
   obtain ⟨s1, s2⟩ := qcA hp
   refine ⟨fin _ _ ?_ (qi9 s1 s2), fun _ => rfl⟩
   have hc : cmpB key (ix l (lowK l key : Int)).1 = 0 := qma.2 hk.symm
   exact Prod.ext (decide_eq_true hc) (decide_eq_true (.inl hc))
 | false =>
   refine ⟨?_, fun h => by cases h⟩
   have e1 : qe3 l key = lowK l key - 1 := by unfold qe3; rw [hi]; rfl
   have hne : ∀ h : lowK l key < l.length, l[lowK l key].1 ≠ key := fun h he => by
    have : isK l key = true := (qjd hm).2 ⟨_, h, he⟩
    rw [hi] at this; cases this
   rcases Nat.eq_zero_or_pos l.length with h0 | h0
   ·have e0 : l = [] := List.length_eq_zero_iff.1 h0
    subst e0
    exact fin [] false rfl rfl
   rcases Nat.eq_zero_or_pos (lowK l key) with hz | hz
   ·have e2 : toK l key - qe3 l key = 1 := by rw [e1]; unfold toK; omega
    rw [e2, e1, hz]
    obtain ⟨s1, s2⟩ := qcA (l := l) (i := 0) h0
    refine fin _ _ ?_ (qi9 s1 s2)
    have hs : sless key l[0].1 = true := by
     have h1 := qji (l := l) (key := key) (by omega)
     have h2 := hne (by omega)
     simp only [hz] at h1 h2
     exact qec h1 h2
    have hc : cmpB key l[0].1 < 0 := qeu.2 hs
    refine Prod.ext (decide_eq_false ?_) (decide_eq_true (.inr (.inl ⟨?_, rfl⟩)))
    ·show ¬ cmpB key (ix l ((0 : Nat) : Int)).1 = 0
     rw [ixN h0]
     omega
    ·show cmpB key (ix l ((0 : Nat) : Int)).1 < 0
     rw [ixN h0]
     exact hc
   rcases Nat.lt_or_ge (lowK l key) l.length with hp | hp
   ·have e2 : toK l key - qe3 l key = 2 := by rw [e1]; unfold toK; omega
    rw [e2, e1]
    obtain ⟨s1, s2⟩ := qcA (l := l) (i := lowK l key - 1) (by omega)
    obtain ⟨s3, s4⟩ := qcA (l := l) (i := lowK l key) hp
    have ea : (List.range' (lowK l key - 1) 2).map (qf3 l) = [qf3 l (lowK l key - 1), qf3 l (lowK l key)] := by
     simp only [List.range', List.map_cons, List.map_nil]
     rw [show lowK l key - 1 + 1 = lowK l key from by omega]
    rw [ea]
    refine fin _ _ ?_ (qqT s1 s2 s3 s4)
    have ha : sless l[lowK l key - 1].1 key = true := qjj (l := l) (by omega) (by omega)
    have hb : sless key l[lowK l key].1 = true := qec (qji hp) (hne hp)
    refine Prod.ext rfl (decide_eq_true ⟨?_, ?_, ?_, ?_, ?_⟩)
    ·show (0 : Int) ≤ ((lowK l key - 1 : Nat) : Int); omega
    ·show ((lowK l key - 1 : Nat) : Int) < (lowK l key : Int); omega
    ·show (lowK l key : Int) - ((lowK l key - 1 : Nat) : Int) = 1; omega
    ·show cmpB (ix l ((lowK l key - 1 : Nat) : Int)).1 key < 0
     rw [ixN (by omega)]
     exact qeu.2 ha
    ·show cmpB key (ix l (lowK l key : Int)).1 < 0
     rw [ixN hp]
     exact qeu.2 hb
   ·have ep : lowK l key = l.length := by omega
    have e2 : toK l key - qe3 l key = 1 := by rw [e1]; unfold toK; omega
    rw [e2, e1, ep]
    obtain ⟨s1, s2⟩ := qcA (l := l) (i := l.length - 1) (by omega)
    refine fin _ _ ?_ (qi9 s1 s2)
    have ha : sless l[l.length - 1].1 key = true := qjj (l := l) (by omega) (by omega)
    have hc : 0 < cmpB key l[l.length - 1].1 := qmb.2 ha
    refine Prod.ext (decide_eq_false ?_) (decide_eq_true (.inr (.inr ⟨?_, ?_⟩)))
    ·show ¬ cmpB key (ix l ((l.length - 1 : Nat) : Int)).1 = 0
     rw [ixN (by omega)]
     omega
    ·show 0 < cmpB key (ix l ((l.length - 1 : Nat) : Int)).1
     rw [ixN (by omega)]
     exact hc
    ·show ((l.length - 1 : Nat) : Int) = (l.length : Int) - 1; omega
def qcg (b : qag) (l : List Pk) : qag := l.foldl (fun b p => qaj b 4 [p.1, p.2]) b
def qnb (b : qag) (l : List Pk) : qag := qaj (qbw (qcg b l) (qaU l)) 5 [numB l.length, qbh (qaU l)]
theorem qb5 : ∀ {l : List Pk} {b : qag}, b.isSome = true → (qcg b l).isSome = true
 | [], b, h => h
 | p :: l, b, h => qb5 (l := l) (qaC h)
theorem bkIn.leaves : ∀ {l : List Pk} {N : List Nt} {b : qag}, bkIn N (qcg b l) → bkIn N b
 | [], N, b, h => h
 | p :: l, N, b, h => (bkIn.leaves (l := l) h).of
theorem bkIn.leaf : ∀ {l : List Pk} {N : List Nt} {b : qag}, b.isSome = true → bkIn N (qcg b l) → ∀ p ∈ l, (qcb p, preimage 4 [p.1, p.2]) ∈ N
 | [], N, b, hb, h, p, hp => by cases hp
 | q :: l, N, b, hb, h, p, hp => by
   rcases List.mem_cons.1 hp with rfl | hp
   ·exact (bkIn.leaves (l := l) h).node hb
   ·exact bkIn.leaf (l := l) (qaC hb) h p hp
theorem qcn.parts {N : List Nt} (hN : qcn N) {k : Int} {a b : List By} (h1 : (qae k a, preimage k a) ∈ N) (h2 : (qae k b, preimage k b) ∈ N) (he : qae k a = qae k b) (ha : ∀ x ∈ a, x.length < 2 ^ 64) (hb : ∀ x ∈ b, x.length < 2 ^ 64) : a = b := by
 rw [he] at h1
 exact ((qeX ha hb).1 (hN _ _ _ h1 h2)).2
theorem bkIn.foldK : ∀ {A : List Int} {P : List Sm} {s : Sm} {x : qag} {N : List Nt}, bkIn N (foldK A P s x) → bkIn N x
 | [], P, s, x, N, h => by simpa [Go.Inc.foldK] using h
 | _ :: _, [], s, x, N, h => by simpa [Go.Inc.foldK] using h
 | a :: A, p :: P, s, x, N, h => by
   simp only [Go.Inc.foldK] at h
   have := bkIn.foldK h
   split at this
   ·exact this.of
   ·exact this.of
theorem bkIn.leadK {n a : Int} {P : List Sm} {s : Sm} {x : qag} {N : List Nt} (h : bkIn N (leadK x n a s P)) : bkIn N x := by
 unfold Go.Inc.leadK at h
 split at h
 ·exact h.foldK
 ·exact h
theorem qcY {n a : Int} {P : List Sm} {s : Sm} {x : qag} (hx : x.isSome = true) : (leadK x n a s P).isSome = true := by
 unfold leadK
 split
 ·exact qcd hx
 ·exact hx
theorem bkIn.go : ∀ {l : List Sp} {n : Int} {f : Bool} {t : Sm} {b : qag} {N : List Nt}, bkIn N (goBk n f l t b) → bkIn N b
 | [], n, f, t, b, N, h => by simpa [goBk] using h
 | x :: l, n, f, t, b, N, h => by
   simp only [goBk] at h
   split at h
   ·exact (bkIn.leadK (bkIn.go (l := l) h)).of
   ·exact (bkIn.leadK h).of
theorem qfH : ∀ {l : List Sp} {n : Int} {f : Bool} {t : Sm} {b : qag}, b.isSome = true → (goBk n f l t b).isSome = true
 | [], n, f, t, b, h => by simpa [goBk] using h
 | x :: l, n, f, t, b, h => by
   simp only [goBk]
   split
   ·exact qfH (l := l) (qcY (qaC h))
   ·exact qcY (qaC h)
theorem qj6 : ∀ {l : List Sp} {n : Int} {f : Bool} {t r : Sm} {b : qag} {N : List Nt}, b.isSome = true → goK n f l t = some r → bkIn N (goBk n f l t b) → (f = true ∨ t = r ∨ l ≠ []) ∧ ∀ x ∈ l, qfP n x.1 x.2.2 = true ∧ qcZ n x.1 (qcb x.2.1) x.2.2 = r ∧ (qcb x.2.1, preimage 4 [x.2.1.1, x.2.1.2]) ∈ N ∧ ∃ y : qag, y.isSome = true ∧ bkIn N (foldK (qbj n.toNat x.1.toNat).reverse x.2.2 (qcb x.2.1) y)
 | [], n, f, t, r, b, N, hb, hg, h => by
   simp only [goK, Option.some.injEq] at hg
   exact ⟨.inr (.inl hg), fun x hx => by cases hx⟩
 | x :: l, n, f, t, r, b, N, hb, hg, h => by
   refine ⟨.inr (.inr (by simp)), ?_⟩
   simp only [goK, goBk] at hg h
   split at hg
   ·rename_i hc
    rw [if_pos hc] at h
    have hlb : (leadK (qaj b 4 [x.2.1.1, x.2.1.2]) n x.1 (qcb x.2.1) x.2.2).isSome = true := qcY (qaC hb)
    obtain ⟨h1, h2⟩ := qj6 (l := l) hlb hg h
    have hin := bkIn.go (l := l) h
    have hr : qcZ n x.1 (qcb x.2.1) x.2.2 = r := by
     rcases h1 with h1 | h1 | h1
     ·cases h1
     ·exact h1
     ·cases l with
      | nil => exact absurd rfl h1
      | cons z l =>
        obtain ⟨k1, k2, _⟩ := h2 z List.mem_cons_self
        simp only [goK] at hg
        split at hg
        ·rename_i hc2
         rcases hc2.2 with h3 | h3
         ·cases h3
         ·rw [← h3, k2]
        ·cases hg
    intro z hz
    rcases List.mem_cons.1 hz with rfl | hz
    ·refine ⟨hc.1, hr, (bkIn.leadK hin).node hb, qaj b 4 [z.2.1.1, z.2.1.2], qaC hb, ?_⟩
     unfold leadK at hin
     rw [if_pos hc.1] at hin
     exact hin
    ·exact h2 z hz
   ·cases hg
theorem qmC : ∀ {l : List Sp} {n : Int} {f : Bool} {t r : Sm}, goK n f l t = some r → t.length = 32 → (∀ x ∈ l, (qcZ n x.1 (qcb x.2.1) x.2.2).length = 32) → r.length = 32
 | [], n, f, t, r, h, ht, _ => by
   simp only [goK, Option.some.injEq] at h
   rw [← h]; exact ht
 | x :: l, n, f, t, r, h, ht, hl => by
   simp only [goK] at h
   split at h
   ·exact qmC (l := l) h (hl x List.mem_cons_self) (fun z hz => hl z (List.mem_cons_of_mem _ hz))
   ·cases h
theorem qmQ {n a : Int} {s : Sm} {P : List Sm} (h : s.length = 32) : (qcZ n a s P).length = 32 := by
 unfold qcZ
 split
 ·exact qd5 _ _ _ h
 ·rfl
theorem qoc (n : Int) : (begK n).length = 32 := by
 unfold begK
 split
 ·exact qbi (by simp)
 ·rfl
theorem qib {l : List Pk} {key : By} (hm : mayK l = true) (h : ∀ (i : Nat) (h : i < l.length), l[i].1 ≠ key) : isK l key = false := by
 cases hi : isK l key with
 | false => rfl
 | true =>
   obtain ⟨i, hi1, hi2⟩ := (qjd hm).1 hi
   exact absurd hi2 (h i hi1)
theorem qpJ {l : List Pk} {key : By} (hm : mayK l = true) {i : Nat} (h : i < l.length) (he : l[i].1 = key) : isK l key = true ∧ lowK l key = i :=
 ⟨(qjd hm).2 ⟨i, h, he⟩, qjk (Nat.le_of_lt h) (fun t ht hti => by rw [← he]; exact qc0 ht h hm hti) (fun _ => by rw [he]; exact qaN key)⟩
theorem qkV {N : List Nt} (hN : qcn N) {l : List Pk} {key : By} {s : Sn} {x y : qag} {b : Bool} (hm : mayK l = true) (hx : x.isSome = true) (hy : y.isSome = true) (hR : bkIn N (qnb x l)) (hF : bkIn N (qmR y key s)) (ll : l.length < 2 ^ 64) (ls : s.1.toNat < 2 ^ 64)
 (wl : ∀ p ∈ l, p.1.length < 2 ^ 64 ∧ p.2.length < 2 ^ 64) (ws : ∀ p ∈ s.2, (p.2.1.1.length < 2 ^ 64 ∧ p.2.1.2.length < 2 ^ 64) ∧ ∀ z ∈ p.2.2, z.length = 32) (h : qgf (qeI l) key s = some b) : b = isK l key ∧ (b = true → (ix s.2 0).2.1.2 = (ix l (lowK l key : Int)).2) := by
 unfold qgf at h
 split at h
 ·rename_i hs
  unfold qmR at hF
  rw [if_pos hs] at hF
  split at h
  ·rename_i t ht
   rw [ht] at hF
   simp only at hF
   split at h
   ·rename_i hroot
    cases h
    have hyb : (qob s.1 y).isSome = true := by
     unfold qob
     split
     ·exact qaC hy
     ·exact hy
    have hgs := qfH (l := s.2) (n := s.1) (f := true) (t := begK s.1) hyb
    obtain ⟨h1, h2⟩ := qj6 hyb ht hF.of
    have ht32 : t.length = 32 := qmC ht (qoc _) (fun z hz => qmQ (qaE _ _))
    have hxr := qbx (qaU l).length (l := qaU l) (x := qcg x l) (Nat.le_refl _) (qb5 hx)
    have hw := hN.parts (hF.node hgs) (hR.node hxr) hroot (by
     intro z hz
     rcases List.mem_cons.1 hz with rfl | hz
     ·exact Nat.lt_of_le_of_lt (qaP ls) (by decide)
     ·rcases List.mem_cons.1 hz with rfl | hz
      ·rw [ht32]; decide
      ·cases hz) (by
     intro z hz
     rcases List.mem_cons.1 hz with rfl | hz
     ·exact Nat.lt_of_le_of_lt (qaP ll) (by decide)
     ·rcases List.mem_cons.1 hz with rfl | hz
      ·rw [qbi (qgG l)]; decide
      ·cases hz)
    simp only [List.cons.injEq, and_true] at hw
    have hn : s.1.toNat = l.length := (qki ls ll (x := []) (y := []) (by rw [hw.1])).1
    have hs1 : s.1 = (l.length : Int) := by omega
    have hall : ∀ p ∈ s.2, ∃ (i : Nat) (h : i < l.length), p.1 = (i : Int) ∧ p.2.1 = l[i] := fun p hp => by
     obtain ⟨k1, k2, k3, z, k4, k5⟩ := h2 p hp
     have k1' := of_decide_eq_true k1
     have hi : p.1.toNat < l.length := by omega
     have hlp : p.2.2.length = (qbj (qaU l).length p.1.toNat).length := by rw [qbm, ← hn]; exact k1'.2
     have hfl : qdt (qbj (qaU l).length p.1.toNat).reverse p.2.2 (qcb p.2.1) = qbh (qaU l) := by
      unfold qcZ at k2
      rw [if_pos k1] at k2
      rw [qbm, ← hn, k2, hw.2]
     have hb := qeE hN _ (l := qaU l) (a := p.1.toNat) (s := qcb p.2.1) (P := p.2.2) (x := qcg x l) (y := z) (Nat.le_refl _) (by rw [qbm]; exact hi) hlp (qgG l) (ws p hp).2 (qaE _ _) (qb5 hx) k4 hR.of (by rw [qbm, ← hn]; exact k5) hfl
     rw [qmI hi] at hb
     have hlf := bkIn.leaf hx (bkIn.root _ (Nat.le_refl _) hR.of) l[p.1.toNat] (List.getElem_mem hi)
     have he := hN.parts k3 hlf hb.1 (by
      intro z hz
      rcases List.mem_cons.1 hz with rfl | hz
      ·exact (ws p hp).1.1
      ·rcases List.mem_cons.1 hz with rfl | hz
       ·exact (ws p hp).1.2
       ·cases hz) (by
      intro z hz
      rcases List.mem_cons.1 hz with rfl | hz
      ·exact (wl _ (List.getElem_mem hi)).1
      ·rcases List.mem_cons.1 hz with rfl | hz
       ·exact (wl _ (List.getElem_mem hi)).2
       ·cases hz)
     simp only [List.cons.injEq, and_true] at he
     exact ⟨p.1.toNat, hi, by omega, Prod.ext he.1 he.2⟩
    obtain ⟨cnt, L⟩ := s
    simp only at hs1 hall hs ⊢
    subst hs1
    match L, hall, hs with
    | [], _, hs =>
      have h0 : (l.length : Int) = 0 := of_decide_eq_true hs.1
      exact ⟨(qib hm fun i hi => by omega).symm, fun hb => by cases hb⟩
    | [a], hall, hs =>
      obtain ⟨i, hi, e1, e2⟩ := hall a List.mem_cons_self
      have hd := of_decide_eq_true hs.1
      rw [e1, e2] at hd
      show decide (cmpB key a.2.1.1 = 0) = _ ∧ (decide (cmpB key a.2.1.1 = 0) = true → a.2.1.2 = _)
      rw [e2]
      rcases hd with hd | ⟨hd, h0⟩ | ⟨hd, h0⟩
      ·have hk := qma.1 hd
       obtain ⟨q1, q2⟩ := qpJ hm hi hk.symm
       rw [q1, q2, decide_eq_true hd, ixN hi]
       exact ⟨rfl, fun _ => rfl⟩
      ·have hk := qeu.1 hd
       have i0 : i = 0 := by omega
       subst i0
       have hno := qib (key := key) hm fun j hj he => by
        rcases Nat.eq_zero_or_pos j with rfl | hj0
        ·rw [he, qaN] at hk; cases hk
        ·have := qbn hk (qc0 hi hj hm hj0)
         rw [he, qaN] at this; cases this
       rw [hno, decide_eq_false (by omega)]
       exact ⟨rfl, fun h => by cases h⟩
      ·have hk := qmb.1 hd
       have hno := qib (key := key) hm fun j hj he => by
        rcases Nat.lt_or_ge j i with hji | hji
        ·have := qbn (qc0 hj hi hm hji) hk
         rw [he, qaN] at this; cases this
        ·have : j = i := by omega
         subst this
         rw [he, qaN] at hk; cases hk
       rw [hno, decide_eq_false (by omega)]
       exact ⟨rfl, fun h => by cases h⟩
    | [a, c], hall, hs =>
      obtain ⟨i, hi, e1, e2⟩ := hall a List.mem_cons_self
      obtain ⟨j, hj, e3, e4⟩ := hall c (by simp)
      have hd := of_decide_eq_true hs.1
      rw [e1, e2, e3, e4] at hd
      obtain ⟨d1, d2, d3, d4, d5⟩ := hd
      have k1 := qeu.1 d4
      have k2 := qeu.1 d5
      have hno := qib (key := key) hm fun q hq he => by
       rcases Nat.lt_or_ge q i with hqi | hqi
       ·have := qbn (qc0 hq hi hm hqi) k1
        rw [he, qaN] at this; cases this
       ·rcases Nat.lt_or_ge i q with hiq | hiq
        ·rcases Nat.lt_or_ge j q with hjq | hjq
         ·have := qbn k2 (qc0 hj hq hm hjq)
          rw [he, qaN] at this; cases this
         ·have : q = j := by omega
          subst this
          rw [he, qaN] at k2; cases k2
        ·have : q = i := by omega
         subst this
         rw [he, qaN] at k1; cases k1
      exact ⟨hno.symm, fun h => by cases h⟩
    | a :: c :: d :: L, _, hs => exact absurd hs.1 (by simp [qng])
   ·cases h
  ·cases h
 ·cases h
end Go.Inc

set_option linter.unusedVariables false
namespace Go.Inc
open Go
def qcM : List Pk → By → By × Bool
 | [], _ => ([], false)
 | p :: l, key => if p.1 = key then (p.2, true) else qcM l key
theorem qc7 : ∀ {l : List Pk} {key : By} (i : Nat), (∀ (t : Nat) (h : t < l.length), t < i → l[t].1 ≠ key) → qcM (l.drop i) key = qcM l key
 | l, key, 0, h => by simp
 | [], key, i + 1, h => by simp
 | p :: l, key, i + 1, h => by
   have h0 : p.1 ≠ key := h 0 (by simp) (by omega)
   rw [List.drop_succ_cons, qc7 i (fun t ht hti => h (t + 1) (by simpa using ht) (by omega))]
   show _ = if p.1 = key then _ else _
   rw [if_neg h0]
theorem qgP {l : List Pk} {key : By} (hm : mayK l = true) : qcM l key = (if isK l key then (ix l (lowK l key : Int)).2 else [], isK l key) := by
 by_cases h : ∃ (i : Nat) (h : i < l.length), l[i].1 = key
 ·obtain ⟨i, hi, he⟩ := h
  obtain ⟨h1, h2⟩ := qpJ hm hi he
  rw [h1, h2, if_pos rfl, ixN hi]
  rw [← qc7 i (fun t ht hti e => by
   have := qc0 ht hi hm hti
   rw [he, e, qaN] at this
   cases this), List.drop_eq_getElem_cons hi]
  show (if l[i].1 = key then _ else _) = _
  rw [if_pos he]
 ·have h1 : isK l key = false := qib hm fun i hi he => h ⟨i, hi, he⟩
  rw [h1, if_neg (by simp)]
  have := qc7 (l := l) (key := key) l.length (fun t ht _ e => h ⟨t, ht, e⟩)
  rw [← this]
  simp [qcM]
theorem qar.leaves : ∀ {l : List Pk} {x : qag} {n : Nat}, qar x (n + l.length) → qar (qcg x l) n
 | [], x, n, h => h
 | p :: l, x, n, h => by
   refine qar.leaves (l := l) ?_
   exact qar.of (h.le (by simp only [List.length_cons]; omega)) _ _
end Go.Inc

set_option linter.unusedVariables false
namespace Go.Inc
open Go
def qa5 (x : qag) : Prop := ∀ y, x = some y → ∀ z ∈ y.1, z.2.length ≤ 1048576
theorem qa5.of {x : qag} {k : Int} {p : List (List UInt8)} (h : qa5 x) (hp : qai p ≤ 1048575) : qa5 (qaj x k p) := fun y hy z hz => by
 cases x with
 | none => cases hy
 | some u =>
   cases hy
   rcases qjT hz with hz | hz
   ·exact h u rfl z hz
   ·rw [hz]
    have := qcj k (l := p) (by omega)
    exact Nat.le_trans this (by omega)
theorem qa5.of2 {x : qag} {k : Int} {a b : List UInt8} (h : qa5 x) (hp : a.length + b.length ≤ 1000000) : qa5 (qaj x k [a, b]) := h.of (by simp [qai]; omega)
theorem qa5.root : ∀ (k : Nat) {l : List Sm} {x : qag}, l.length ≤ k → (∀ z ∈ l, z.length = 32) → qa5 x → qa5 (qbw x l)
 | 0, l, x, hk, hl, h => by
   obtain rfl : l = [] := List.length_eq_zero_iff.1 (by omega)
   rw [qbp]; exact h.of (by simp [qai])
 | k + 1, l, x, hk, hl, h => by
   rcases Nat.lt_or_ge l.length 2 with h2 | h2
   ·match l, h2 with
    | [], _ => rw [qbp]; exact h.of (by simp [qai])
    | [a], _ => rw [qbV]; exact h
   ·have a1 := qbb h2
    have a2 := qbC h2
    have w1 : ∀ z ∈ l.take (half l.length), z.length = 32 := fun z hz => hl z (List.mem_of_mem_take hz)
    have w2 : ∀ z ∈ l.drop (half l.length), z.length = 32 := fun z hz => hl z (List.mem_of_mem_drop hz)
    rw [qbE x h2]
    exact (qa5.root k (by simp only [List.length_drop]; omega) w2 (qa5.root k (by simp only [List.length_take]; omega) w1 h)).of2 (by rw [qbi w1, qbi w2]; omega)
theorem qa5.foldK : ∀ {A : List Int} {P : List Sm} {s : Sm} {x : qag}, s.length = 32 → (∀ z ∈ P, z.length = 32) → qa5 x → qa5 (foldK A P s x)
 | [], P, s, x, hs, hp, h => by simpa [Go.Inc.foldK] using h
 | _ :: _, [], s, x, hs, hp, h => by simpa [Go.Inc.foldK] using h
 | a :: A, p :: P, s, x, hs, hp, h => by
   have hp1 := hp p List.mem_cons_self
   have hp2 : ∀ z ∈ P, z.length = 32 := fun z hz => hp z (List.mem_cons_of_mem _ hz)
   simp only [Go.Inc.foldK]
   split
   ·exact qa5.foldK (qaE _ _) hp2 (h.of2 (by omega))
   ·exact qa5.foldK (qaE _ _) hp2 (h.of2 (by omega))
theorem qa5.leaves : ∀ {l : List Pk} {x : qag}, (∀ p ∈ l, p.1.length + p.2.length ≤ 1000000) → qa5 x → qa5 (qcg x l)
 | [], x, hl, h => h
 | p :: l, x, hl, h => qa5.leaves (l := l) (fun q hq => hl q (List.mem_cons_of_mem _ hq)) (h.of2 (hl p List.mem_cons_self))
theorem qa5.leadK {n a : Int} {P : List Sm} {s : Sm} {x : qag} (hs : s.length = 32) (hp : ∀ z ∈ P, z.length = 32) (h : qa5 x) : qa5 (leadK x n a s P) := by
 unfold Go.Inc.leadK
 split
 ·exact qa5.foldK hs hp h
 ·exact h
theorem qar.leadK {n a : Int} {P : List Sm} {s : Sm} {x : qag} {m : Nat} (h : qar x (m + P.length)) : qar (leadK x n a s P) m := by
 unfold Go.Inc.leadK
 split
 ·exact qar.foldK h
 ·exact h.le (by omega)
def okSp (x : Sp) : Prop := x.2.1.1.length + x.2.1.2.length ≤ 100000 ∧ x.2.2.length ≤ 100 ∧ ∀ z ∈ x.2.2, z.length = 32
theorem tells {l : List Pk} {key : By} (hm : mayK l = true) : qoU (qeI l) key (qjt l key) = 0 ∧ qoV (qeI l) key (qjt l key) = (qcM l key).2 ∧ qoW (qeI l) key (qjt l key) = (qcM l key).1 := by
 obtain ⟨h1, h2⟩ := qk2 (key := key) hm
 rw [qgP hm]
 unfold qoU qoV qoW
 rw [h1]
 cases hi : isK l key with
 | false => exact ⟨rfl, rfl, rfl⟩
 | true =>
   rw [h2 hi]
   exact ⟨rfl, rfl, rfl⟩
theorem binds {l : List Pk} {key : By} {s : Sn} {A B : List Nt × Int} (hm : mayK l = true) (hN : qcn (A.1 ++ B.1)) (hA : qnb (some ([], 0)) l = some A) (hB : qmR (some ([], 0)) key s = some B) (hl : l.length ≤ 100) (hs : ∀ p ∈ l, p.1.length + p.2.length ≤ 100000) (ho : ∀ x ∈ s.2, okSp x) (hw : (Kd.int .i64).wf s.1) (he : qoU (qeI l) key s = 0) :
 qoV (qeI l) key s = (qcM l key).2 ∧ qoW (qeI l) key s = (qcM l key).1 := by
 have hO : ∃ b, qgf (qeI l) key s = some b := by
  cases h : qgf (qeI l) key s with
  | some b => exact ⟨b, rfl⟩
  | none => unfold qoU at he; rw [h] at he; cases he
 obtain ⟨b, hb⟩ := hO
 obtain ⟨h1, h2⟩ := qkV hN hm (x := some ([], 0)) (y := some ([], 0)) rfl rfl (by
  rw [hA]; intro y hy z hz; cases hy; exact List.mem_append.2 (.inl hz)) (by
  rw [hB]; intro y hy z hz; cases hy; exact List.mem_append.2 (.inr hz)) (by omega) (by have h3 : s.1 ≤ 9223372036854775807 := hw.2; omega)
  (fun p hp => by have := hs p hp; omega) (fun p hp => by obtain ⟨o1, o2, o3⟩ := ho p hp; exact ⟨by omega, o3⟩) hb
 rw [qgP hm]
 unfold qoV qoW
 rw [hb]
 cases hbb : b with
 | false =>
   rw [hbb] at h1
   rw [← h1]
   exact ⟨rfl, rfl⟩
 | true =>
   rw [hbb] at h1
   rw [← h1]
   exact ⟨rfl, (h2 hbb)⟩
end Go.Inc

set_option linter.unusedVariables false
namespace Go.Inc
open Go
abbrev Cu := List UInt8 × Bool
def qdv : List UInt8 → Nat × Nat
 | [] => (0, 0)
 | c :: r => if c.toNat ≤ 8 ∧ c.toNat ≤ r.length ∧ ¬ (0 < c.toNat ∧ r.head? = some 0) then (valB (r.take c.toNat), c.toNat + 1) else (0, 0)
theorem qbD (c : UInt8) (r : List UInt8) : qdv (c :: r) = if c.toNat ≤ 8 ∧ c.toNat ≤ r.length ∧ ¬ (0 < c.toNat ∧ r.head? = some 0) then (valB (r.take c.toNat), c.toNat + 1) else (0, 0) := rfl
theorem qhO : ∀ l : List UInt8, valB l < 256 ^ l.length
 | [] => by simp [valB]
 | c :: l => by
   have h1 := qhO l
   have h2 : c.toNat < 256 := c.toNat_lt
   simp only [valB, List.length_cons, Nat.pow_succ]
   have h3 : c.toNat * 256 ^ l.length ≤ 255 * 256 ^ l.length := Nat.mul_le_mul_right _ (by omega)
   omega
theorem qkx : ∀ a b : List UInt8, valB (a ++ b) = valB a * 256 ^ b.length + valB b
 | [], b => by simp [valB]
 | c :: a, b => by
   simp only [List.cons_append, valB, qkx a b, List.length_append, Nat.pow_add, Nat.add_mul, Nat.mul_assoc, Nat.add_assoc]
theorem qlU : ∀ l : List UInt8, be (valB l) l.length = l
 | [] => rfl
 | c :: l => by
   have h1 := qhO l
   have hp : 0 < 256 ^ l.length := Nat.pow_pos (by omega)
   simp only [valB, List.length_cons, be, pow8]
   have h2 : (c.toNat * 256 ^ l.length + valB l) / 256 ^ l.length = c.toNat := by
    rw [Nat.mul_comm, Nat.mul_add_div hp, Nat.div_eq_of_lt h1, Nat.add_zero]
   rw [h2]
   have h3 : ∀ (n k : Nat) (j : Nat), be (n * 256 ^ k + j) k = be j k := fun n k j => by
    induction k generalizing n j with
    | zero => rfl
    | succ k ih =>
      simp only [be, pow8]
      have hk : 0 < 256 ^ k := Nat.pow_pos (by omega)
      have e1 : n * 256 ^ (k + 1) + j = (n * 256) * 256 ^ k + j := by rw [Nat.pow_succ, Nat.mul_assoc, Nat.mul_comm (256 ^ k)]
      rw [e1, ih]
      have e2 : (n * 256 * 256 ^ k + j) / 256 ^ k = n * 256 + j / 256 ^ k := by rw [Nat.mul_comm, Nat.mul_add_div hk]
      rw [e2]
      congr 1
      apply UInt8.toNat_inj.1
      simp
   rw [h3, qlU l]
   congr 1
   exact UInt8.toNat_inj.1 (by rw [UInt8.toNat_ofNat_of_lt' (by show _ < 256; exact c.toNat_lt)])
theorem qqu {n k : Nat} (h : 2 ^ k ≤ n) : k < blen n := by
 rw [qct k h]
 have : 0 < n / 2 ^ k := Nat.div_pos h (Nat.pow_pos (by omega))
 rw [qe8 this]
 omega
theorem qcK {l : List UInt8} {x k : Nat} (h : qdv l = (x, k)) (hk : 0 < k) : x < 2 ^ 64 ∧ (numB x).length = k ∧ ∃ r, l = numB x ++ r := by
 match l, h with
 | [], h => cases h; omega
 | c :: r, h =>
   rw [qbD] at h
   by_cases hc : c.toNat ≤ 8 ∧ c.toNat ≤ r.length ∧ ¬ (0 < c.toNat ∧ r.head? = some 0)
   ·rw [if_pos hc] at h
    obtain ⟨h1, h2, h3⟩ := hc
    cases h
    have hl : (r.take c.toNat).length = c.toNat := by rw [List.length_take]; omega
    have hv := qhO (r.take c.toNat)
    rw [hl] at hv
    have e64 : 256 ^ c.toNat = 2 ^ (8 * c.toNat) := (pow8 _).symm
    have hx : valB (r.take c.toNat) < 2 ^ 64 := Nat.lt_of_lt_of_le hv (by rw [e64]; exact Nat.pow_le_pow_right (by omega) (by omega))
    have hb1 : blen (valB (r.take c.toNat)) ≤ 8 * c.toNat := qcD _ (by rw [← e64]; exact hv)
    have hkk : (blen (valB (r.take c.toNat)) + 7) / 8 = c.toNat := by
     rcases Nat.eq_zero_or_pos c.toNat with h0 | h0
     ·rw [h0] at hb1 ⊢; omega
     ·match r, h3, h2 with
      | [], h3, h2 => simp at h2; omega
      | d :: r, h3, h2 =>
        have hd : d ≠ 0 := fun hd => h3 ⟨h0, by rw [hd]; rfl⟩
        have hd0 : 0 < d.toNat := Nat.pos_of_ne_zero fun h => hd (UInt8.toNat_inj.1 h)
        obtain ⟨m, hm⟩ : ∃ m, c.toNat = m + 1 := ⟨c.toNat - 1, by omega⟩
        rw [hm, List.take_succ_cons] at hb1 ⊢
        have hlen : (r.take m).length = m := by rw [List.length_take]; simp at h2; omega
        have : 2 ^ (8 * m) ≤ valB (d :: r.take m) := by
         simp only [valB, hlen, pow8]
         exact Nat.le_trans (Nat.le_mul_of_pos_left _ hd0) (Nat.le_add_right _ _)
        have := qqu this
        omega
    refine ⟨hx, ?_, r.drop c.toNat, ?_⟩
    ·simp only [numB, List.length_cons, qaF, hkk]
    ·have e : be (valB (r.take c.toNat)) c.toNat = r.take c.toNat := by
      have := qlU (r.take c.toNat)
      rwa [hl] at this
     simp only [numB, hkk, e, List.cons_append, List.take_append_drop]
     congr 1
     exact UInt8.toNat_inj.1 (by rw [UInt8.toNat_ofNat_of_lt' (by show _ < 256; exact c.toNat_lt)])
   ·rw [if_neg hc] at h
    cases h; omega
theorem qgL {x : Nat} (hx : x < 2 ^ 64) (q : List UInt8) : qdv (numB x ++ q) = (x, (numB x).length) := by
 have hb := qcD 64 hx
 have hk : ((UInt8.ofNat ((blen x + 7) / 8)).toNat) = (blen x + 7) / 8 := UInt8.toNat_ofNat_of_lt' (by show _ < 256; omega)
 have e : numB x ++ q = UInt8.ofNat ((blen x + 7) / 8) :: (be x ((blen x + 7) / 8) ++ q) := rfl
 have hl : (numB x).length = (blen x + 7) / 8 + 1 := by simp only [numB, List.length_cons, qaF]
 rw [e, hl]
 rw [qbD, hk]
 have ht : (be x ((blen x + 7) / 8) ++ q).take ((blen x + 7) / 8) = be x ((blen x + 7) / 8) := by
  rw [List.take_append_of_le_length (by rw [qaF]; exact Nat.le_refl _), List.take_of_length_le (by rw [qaF]; exact Nat.le_refl _)]
 rw [if_pos]
 ·rw [ht, qhN, Nat.mod_eq_of_lt (qhv x)]
 ·refine ⟨by omega, by rw [List.length_append, qaF]; omega, fun hc => ?_⟩
  obtain ⟨h0, h1⟩ := hc
  obtain ⟨m, hm⟩ : ∃ m, (blen x + 7) / 8 = m + 1 := ⟨(blen x + 7) / 8 - 1, by omega⟩
  rw [hm] at h1
  have h1 : some (UInt8.ofNat (x / 2 ^ (8 * m))) = some 0 := h1
  have h2 := congrArg UInt8.toNat (Option.some.inj h1)
  have hlt : x / 2 ^ (8 * m) < 256 := by
   have := qhv x
   rw [hm, Nat.pow_succ] at this
   rw [pow8]
   exact Nat.div_lt_of_lt_mul this
  rw [UInt8.toNat_ofNat_of_lt' (by show _ < 256; exact hlt)] at h2
  have h2 : x / 2 ^ (8 * m) = 0 := h2
  have h3 : x < 2 ^ (8 * m) := by
   rcases Nat.lt_or_ge x (2 ^ (8 * m)) with h | h
   ·exact h
   ·have := Nat.div_pos h (Nat.pow_pos (by omega)); omega
  have := qcD _ h3
  omega
theorem qm7 {l : List UInt8} {x k : Nat} (h : qdv l = (x, k)) (hk : 0 < k) (q : List UInt8) : qdv (l ++ q) = (x, k) := by
 obtain ⟨h1, h2, r, rfl⟩ := qcK h hk
 rw [List.append_assoc, qgL h1, h2]
def qaO (s : Cu) : Nat × Nat := if s.2 = true then (0, 0) else qdv s.1
def numC (most : Nat) (s : Cu) : Nat × Cu := if 0 < (qaO s).2 ∧ (qaO s).1 ≤ most then ((qaO s).1, (s.1.drop (qaO s).2, false)) else (0, (s.1, true))
def sumC (s : Cu) : Sm × Cu := if s.2 = false ∧ 32 ≤ s.1.length then (s.1.take 32, (s.1.drop 32, false)) else (sm0L, (s.1, true))
def qht {α : Type} (f : Cu → α × Cu) : Nat → Cu → List α × Cu
 | 0, s => ([], s)
 | n + 1, s => ((f s).1 :: (qht f n (f s).2).1, (qht f n (f s).2).2)
structure Cuts {α : Type} (f : Cu → α × Cu) (enc : α → List UInt8) (ok : α → Prop) : Prop where
 bad : ∀ s, s.2 = true → (f s).2.2 = true
 sound : ∀ b, (f (b, false)).2.2 = false → b = enc (f (b, false)).1 ++ (f (b, false)).2.1 ∧ ok (f (b, false)).1
 on : ∀ b q, (f (b, false)).2.2 = false → f (b ++ q, false) = ((f (b, false)).1, ((f (b, false)).2.1 ++ q, false))
theorem qfZ {s : Cu} (h : s.2 = true) : qaO s = (0, 0) := if_pos h
theorem qcJ (b : List UInt8) : qaO (b, false) = qdv b := if_neg (fun h : false = true => by cases h)
theorem qm0 (most : Nat) (hm : most < 2 ^ 64) : Cuts (numC most) numB (fun x => x ≤ most) where
 bad := fun s h => by
  unfold numC
  rw [qfZ h, if_neg (by simp)]
 sound := fun b h => by
  unfold numC at h ⊢
  rw [qcJ] at h ⊢
  generalize hp : qdv b = p at h ⊢
  obtain ⟨x, k⟩ := p
  dsimp only at h ⊢
  by_cases hc : 0 < k ∧ x ≤ most
  ·rw [if_pos hc]
   obtain ⟨h1, h2, r, rfl⟩ := qcK hp hc.1
   exact ⟨by rw [← h2, List.drop_left], hc.2⟩
  ·rw [if_neg hc] at h; cases h
 on := fun b q h => by
  unfold numC at h ⊢
  rw [qcJ] at h ⊢
  rw [qcJ]
  generalize hp : qdv b = p at h ⊢
  obtain ⟨x, k⟩ := p
  dsimp only at h ⊢
  by_cases hc : 0 < k ∧ x ≤ most
  ·obtain ⟨h1, h2, r, rfl⟩ := qcK hp hc.1
   rw [qm7 hp hc.1 q]
   dsimp only
   rw [if_pos hc, if_pos hc]
   dsimp only
   rw [List.drop_append_of_le_length (by rw [List.length_append, h2]; omega)]
  ·rw [if_neg hc] at h; cases h
theorem qm1 {most x : Nat} (hx : x < 2 ^ 64) (q : List UInt8) : numC most (numB x ++ q, false) = if x ≤ most then (x, (q, false)) else (0, (numB x ++ q, true)) := by
 unfold numC
 rw [qcJ, qgL hx]
 have hp : 0 < (numB x).length := by simp [numB]
 show (if 0 < (numB x).length ∧ x ≤ most then (x, ((numB x ++ q).drop (numB x).length, false)) else (0, (numB x ++ q, true))) = _
 rw [List.drop_left]
 by_cases h : x ≤ most
 ·rw [if_pos ⟨hp, h⟩, if_pos h]
 ·rw [if_neg (fun hc => h hc.2), if_neg h]
theorem qbk : Cuts sumC (fun x => x) (fun x => x.length = 32) where
 bad := fun s h => by
  unfold sumC
  rw [h, if_neg (by simp)]
 sound := fun b h => by
  unfold sumC at h ⊢
  split at h
  ·rename_i hc
   rw [if_pos hc]
   have hl : 32 ≤ b.length := hc.2
   exact ⟨(List.take_append_drop 32 b).symm, by show (b.take 32).length = 32; rw [List.length_take]; omega⟩
  ·cases h
 on := fun b q h => by
  unfold sumC at h ⊢
  split at h
  ·rename_i hc
   have hl : 32 ≤ b.length := hc.2
   rw [if_pos hc, if_pos ⟨rfl, by show 32 ≤ (b ++ q).length; rw [List.length_append]; omega⟩]
   show ((b ++ q).take 32, ((b ++ q).drop 32, false)) = (b.take 32, (b.drop 32 ++ q, false))
   rw [List.take_append_of_le_length hl, List.drop_append_of_le_length hl]
  ·cases h
theorem qee {x : Sm} (hx : x.length = 32) (q : List UInt8) : sumC (x ++ q, false) = (x, (q, false)) := by
 unfold sumC
 rw [if_pos ⟨rfl, by show 32 ≤ (x ++ q).length; rw [List.length_append]; omega⟩]
 show ((x ++ q).take 32, ((x ++ q).drop 32, false)) = _
 rw [← hx, List.take_left, List.drop_left]
section
variable {α β γ : Type} {f : Cu → α × Cu} {enc : α → List UInt8} {ok : α → Prop}
def andC (f : Cu → α × Cu) (g : α → Cu → β × Cu) (s : Cu) : (α × β) × Cu := (((f s).1, (g (f s).1 (f s).2).1), (g (f s).1 (f s).2).2)
theorem Cuts.and {g : α → Cu → β × Cu} {enc' : β → List UInt8} {ok' : α → β → Prop} (h : Cuts f enc ok) (h' : ∀ a, Cuts (g a) enc' (ok' a)) : Cuts (andC f g) (fun x => enc x.1 ++ enc' x.2) (fun x => ok x.1 ∧ ok' x.1 x.2) := by
 refine ⟨fun s hs => (h' _).bad _ (h.bad s hs), fun b hb => ?_, fun b q hb => ?_⟩
 ·have hb : (g (f (b, false)).1 (f (b, false)).2).2.2 = false := hb
  have h0 : (f (b, false)).2.2 = false := by
   cases hc : (f (b, false)).2.2 with
   | false => rfl
   | true => rw [(h' _).bad _ hc] at hb; cases hb
  have e : (f (b, false)).2 = ((f (b, false)).2.1, false) := Prod.ext rfl h0
  rw [e] at hb
  obtain ⟨s1, s2⟩ := h.sound b h0
  obtain ⟨t1, t2⟩ := (h' _).sound _ hb
  unfold andC
  dsimp only
  rw [e]
  exact ⟨by rw [List.append_assoc, ← t1]; exact s1, s2, t2⟩
 ·have hb : (g (f (b, false)).1 (f (b, false)).2).2.2 = false := hb
  have h0 : (f (b, false)).2.2 = false := by
   cases hc : (f (b, false)).2.2 with
   | false => rfl
   | true => rw [(h' _).bad _ hc] at hb; cases hb
  have e : (f (b, false)).2 = ((f (b, false)).2.1, false) := Prod.ext rfl h0
  rw [e] at hb
  unfold andC
  rw [h.on b q h0, e]
  dsimp only
  rw [(h' _).on _ q hb]
theorem Cuts.map {m : α → β} {enc' : β → List UInt8} {ok' : β → Prop} (h : Cuts f enc ok) (he : ∀ x, ok x → enc' (m x) = enc x) (ho : ∀ x, ok x → ok' (m x)) : Cuts (fun s => (m (f s).1, (f s).2)) enc' ok' :=
 ⟨fun s hs => h.bad s hs, fun b hb => ⟨by rw [he _ (h.sound b hb).2]; exact (h.sound b hb).1, ho _ (h.sound b hb).2⟩, fun b q hb => by dsimp only; rw [h.on b q hb]⟩
end
end Go.Inc

set_option linter.unusedVariables false
namespace Go.Inc
open Go
theorem qtH (a c : Nat) (hc : c < 2 ^ 8) (h : a * 2 ^ 8 + c < 2 ^ 64) : bor .u64 ((a * 2 ^ 8 : Nat) : Int) (c : Int) = ((a * 2 ^ 8 + c : Nat) : Int) := by
 unfold bor
 show IntKind.u64.wrap (((BitVec.ofInt 64 ((a * 2 ^ 8 : Nat) : Int) ||| BitVec.ofInt 64 (c : Int)).toNat : Nat) : Int) = _
 have e1 : (BitVec.ofInt 64 ((a * 2 ^ 8 : Nat) : Int)).toNat = a * 2 ^ 8 := by
  rw [BitVec.toNat_ofInt]
  omega
 have e2 : (BitVec.ofInt 64 (c : Int)).toNat = c := by
  rw [BitVec.toNat_ofInt]
  omega
 rw [BitVec.toNat_or, e1, e2]
 have e3 : a * 2 ^ 8 ||| c = a * 2 ^ 8 + c := by
  rw [Nat.mul_comm]
  exact (Nat.two_pow_add_eq_or_of_lt hc a).symm
 rw [e3]
 exact qaD ⟨by show (0 : Int) ≤ _; omega, by show ((a * 2 ^ 8 + c : Nat) : Int) ≤ 18446744073709551615; omega⟩
theorem qoi {x : Nat} {d : UInt8} (h : x < 2 ^ 56) : bor .u64 (shl .u64 (x : Int) 8) (bI d) = ((x * 256 + d.toNat : Nat) : Int) := by
 have hd : d.toNat < 256 := d.toNat_lt
 have e : shl .u64 (x : Int) 8 = ((x * 2 ^ 8 : Nat) : Int) := by
  unfold shl
  show IntKind.u64.wrap ((x : Int) * 2 ^ 8) = _
  rw [qaD ⟨by show (0 : Int) ≤ _; omega, by show (x : Int) * 2 ^ 8 ≤ 18446744073709551615; omega⟩]
  omega
 rw [e]
 exact qtH x d.toNat (by omega) (by omega)
theorem qnA {l : List UInt8} {j : Nat} (h : j < l.length) : valB (l.take (j + 1)) = valB (l.take j) * 256 + l[j].toNat := by
 rw [List.take_add_one, List.getElem?_eq_getElem h]
 show valB (l.take j ++ [l[j]]) = _
 rw [qkx]
 simp [valB]
theorem qo2 {b : List UInt8} {x k : Nat} (hp : qdv b = (x, k)) : x < 2 ^ 64 ∧ k ≤ 9 ∧ k ≤ b.length := by
 rcases Nat.eq_zero_or_pos k with rfl | hk
 ·refine ⟨?_, by omega, by omega⟩
  match b, hp with
  | [], hp => cases hp; decide
  | c :: r, hp =>
    rw [qbD] at hp
    split at hp
    ·cases hp
    ·cases hp; decide
 ·obtain ⟨h1, h2, r, rfl⟩ := qcK hp hk
  have := qaP h1
  exact ⟨h1, by omega, by rw [List.length_append]; omega⟩
theorem qoZ (m : Nat) (b : List UInt8) : numC m (b, true) = (0, (b, true)) := by
 unfold numC
 rw [qfZ rfl, if_neg (by simp)]
theorem qq7 {m : Nat} {b : List UInt8} {x k : Nat} (hp : qdv b = (x, k)) : numC m (b, false) = if 0 < k ∧ x ≤ m then (x, (b.drop k, false)) else (0, (b, true)) := by
 unfold numC
 rw [qcJ, hp]
def qqS (x : Sp) : Prop := (0 ≤ x.1 ∧ x.1 ≤ 2147483647) ∧ x.2.1.1.length ≤ 256 ∧ x.2.1.2.length ≤ 1048576 ∧ x.2.2.length ≤ 32
instance (x : Sp) : Decidable (qqS x) := by unfold qqS; exact inferInstance
def fitS (s : Sn) : Prop := (0 ≤ s.1 ∧ s.1 ≤ 2147483647) ∧ s.2.length ≤ 2 ∧ ∀ x ∈ s.2, qqS x
instance (s : Sn) : Decidable (fitS s) := by unfold fitS; exact inferInstance
theorem qkS {α : Type} (f : Cu → α × Cu) {n j : Nat} (h : j < n) (s : Cu) : qht f (n - j) s = ((f s).1 :: (qht f (n - (j + 1)) (f s).2).1, (qht f (n - (j + 1)) (f s).2).2) := by
 obtain ⟨m, hm⟩ : ∃ m, n - j = m + 1 := ⟨n - j - 1, by omega⟩
 have e : n - (j + 1) = m := by omega
 rw [hm, e]
 rfl
def atC {α : Type} (f : Cu → α × Cu) (n : Nat) (s0 : Cu) (j : Nat) (l : List α) (s : Cu) : Prop := l.length = j ∧ j ≤ n ∧ qht f n s0 = (l ++ (qht f (n - j) s).1, (qht f (n - j) s).2)
theorem atC.zero {α : Type} (f : Cu → α × Cu) (n : Nat) (s0 : Cu) : atC f n s0 0 [] s0 := ⟨rfl, Nat.zero_le _, rfl⟩
theorem atC.next {α : Type} {f : Cu → α × Cu} {n : Nat} {s0 : Cu} {j : Nat} {l : List α} {s : Cu} (h : atC f n s0 j l s) (hj : j < n) : atC f n s0 (j + 1) (l ++ [(f s).1]) (f s).2 := by
 obtain ⟨h1, h2, h3⟩ := h
 refine ⟨by rw [List.length_append, h1]; rfl, hj, ?_⟩
 rw [h3, qkS f hj, List.append_assoc]
 rfl
theorem atC.end {α : Type} {f : Cu → α × Cu} {n : Nat} {s0 : Cu} {l : List α} {s : Cu} (h : atC f n s0 n l s) : qht f n s0 = (l, s) := by
 obtain ⟨h1, h2, h3⟩ := h
 rw [h3, Nat.sub_self]
 show (l ++ [], s) = _
 rw [List.append_nil]
end Go.Inc

set_option linter.unusedVariables false
namespace Go.Inc
open Go
def qds (s : Cu) : Int × Cu := if s.2 = true ∨ 0 < s.1.length then (2, (s.1, true)) else (0, s)
def qoI : Cu → (Nat × (Sm × (Sm × (Sm × (Sm × Sm))))) × Cu := andC (numC 4611686018427387903) fun _ => andC sumC fun _ => andC sumC fun _ => andC sumC fun _ => andC sumC fun _ => sumC
def qdu (s : Cu) : Hd × Cu := ((((qoI s).1.1 : Int), (qoI s).1.2), (qoI s).2)
def qrz : Hd := (0, sm0L, sm0L, sm0L, sm0L, sm0L)
def qaI (s : Cu) : Hd × Cu := (if (qdu s).2.2 = true then qrz else (qdu s).1, (qdu s).2)
theorem qj9 (s : Cu) : qdu s = ((((numC 4611686018427387903 s).1 : Int), ((sumC (numC 4611686018427387903 s).2).1, ((sumC (sumC (numC 4611686018427387903 s).2).2).1, ((sumC (sumC (sumC (numC 4611686018427387903 s).2).2).2).1, ((sumC (sumC (sumC (sumC (numC 4611686018427387903 s).2).2).2).2).1, (sumC (sumC (sumC (sumC (sumC (numC 4611686018427387903 s).2).2).2).2).2).1))))), (sumC (sumC (sumC (sumC (sumC (numC 4611686018427387903 s).2).2).2).2).2).2) := by simp only [qdu, qoI, andC]
theorem qkQ : Cuts qdu qaf (fun h => h.1 ≤ 4611686018427387903) := by
 have h := (qm0 4611686018427387903 (by decide)).and (g := fun _ => andC sumC fun _ => andC sumC fun _ => andC sumC fun _ => andC sumC fun _ => sumC) fun _ =>
  qbk.and (g := fun _ => andC sumC fun _ => andC sumC fun _ => andC sumC fun _ => sumC) fun _ =>
  qbk.and (g := fun _ => andC sumC fun _ => andC sumC fun _ => sumC) fun _ =>
  qbk.and (g := fun _ => andC sumC fun _ => sumC) fun _ =>
  qbk.and (g := fun _ => sumC) fun _ => qbk
 refine h.map (m := fun x => ((x.1 : Int), x.2)) (fun x hx => ?_) (fun x hx => ?_)
 ·obtain ⟨n, a, b, c, d, e⟩ := x
  show qaf ((n : Int), a, b, c, d, e) = _
  unfold qaf
  simp only [Int.toNat_natCast]
 ·obtain ⟨n, a, b, c, d, e⟩ := x
  have h1 : n ≤ 4611686018427387903 := hx.1
  show (n : Int) ≤ 4611686018427387903
  omega
theorem qf4 {s : Cu} (h : (qaI s).2.2 = true) : (qaI s).1 = qrz := if_pos h
theorem qhH {s : Cu} (h : (qaI s).2.2 = false) : (qaI s).1 = (qdu s).1 := if_neg (by rw [show (qdu s).2.2 = false from h]; exact fun h => by cases h)
theorem qqV {h : Hd} (h0 : 0 ≤ h.1) (h1 : h.1 ≤ 18446744073709551615) (ha : h.2.1.length = 32) (hb : h.2.2.1.length = 32) (hc : h.2.2.2.1.length = 32) (hd : h.2.2.2.2.1.length = 32) (he : h.2.2.2.2.2.length = 32) :
 (h.1 ≤ 4611686018427387903 → qdu (qaf h, false) = (h, ([], false))) ∧ (¬ h.1 ≤ 4611686018427387903 → (qdu (qaf h, false)).2.2 = true) := by
 obtain ⟨n, a, b, c, d, e⟩ := h
 dsimp only at h0 h1 ha hb hc hd he
 have n1 := qm1 (most := 4611686018427387903) (x := n.toNat) (by omega) (a ++ (b ++ (c ++ (d ++ e))))
 have e0 : qaf (n, a, b, c, d, e) = numB n.toNat ++ (a ++ (b ++ (c ++ (d ++ e)))) := rfl
 rw [qj9, e0]
 generalize numC 4611686018427387903 (numB n.toNat ++ _, false) = S at n1 ⊢
 by_cases hm : n ≤ 4611686018427387903
 ·rw [if_pos (by omega)] at n1
  subst n1
  dsimp only
  have e5 : sumC (e, false) = (e, ([], false)) := by have := qee he []; rwa [List.append_nil] at this
  rw [qee ha, qee hb, qee hc, qee hd, e5]
  refine ⟨fun _ => ?_, fun h => absurd hm h⟩
  rw [Int.toNat_of_nonneg h0]
 ·rw [if_neg (by omega)] at n1
  subst n1
  exact ⟨fun h => absurd h hm, fun _ => qbk.bad _ (qbk.bad _ (qbk.bad _ (qbk.bad _ (qbk.bad _ rfl))))⟩
end Go.Inc

set_option linter.unusedVariables false
set_option maxRecDepth 100000
set_option maxHeartbeats 20000000
namespace Go.Proofs.Ytmjjkpiglbpkhaa
open Go Go.RowKit Go.Inc
noncomputable def qev : Ctr := ⟨[.bx (.pr (.sl .byte) .bool) false], [.v (.int .u64), .v (.int .i64)], none, fun a => (fun (a0_r : (List UInt8) × Bool) => ((((qaO a0_r).1 : Int), ((qaO a0_r).2 : Int), ()), (()))) a.1⟩
noncomputable def qmc : Fx := ⟨seat, some bkT, fns, [], [], [], [(1, [], [.o 0 2, .o 1 2, .o 2 2, .o 3 2, .o 4 2, .o 5 2, .o 6 2, .o 7 2, .o 8 2, .o 9 2, .o 10 2, .o 11 2, .o 12 2, .o 13 2, .o 14 2, .o 15 2, .o 16 2, .o 17 2, .o 18 2, .o 19 2, .o 20 2, .o 21 2, .o 22 2, .o 23 2, .o 24 2, .o 25 2, .o 26 2, .o 27 2, .o 28 2, .o 29 2, .o 30 2, .o 31 2, .o 32 2, .o 33 2, .o 34 2, .o 35 2])]⟩
def qhk (a0_r : (List UInt8) × Bool) (Q : Int → Int → Prop) : Prop :=
 (a0_r.snd = true → Q (0 : Int) (0 : Int)) ∧ (a0_r.snd = false → ((a0_r.fst.length : Int) = (0 : Int) → Q (0 : Int) (0 : Int)) ∧ (¬(a0_r.fst.length : Int) = (0 : Int) → ((0 : Int) ≤ (0 : Int) ∧ (0 : Int) < (a0_r.fst.length : Int)) ∧ ((8 : Int) < bI (ix a0_r.fst (0 : Int)) → Q (0 : Int) (0 : Int)) ∧ (¬(8 : Int) < bI (ix a0_r.fst (0 : Int)) → ((0 : Int) ≤ (0 : Int) ∧ (0 : Int) < (a0_r.fst.length : Int)) ∧ ((a0_r.fst.length : Int) ≤ bI (ix a0_r.fst (0 : Int)) → Q (0 : Int) (0 : Int)) ∧ (¬(a0_r.fst.length : Int) ≤ bI (ix a0_r.fst (0 : Int)) → ((0 : Int) ≤ (0 : Int) ∧ (0 : Int) < (a0_r.fst.length : Int)) ∧ ((0 : Int) ≤ (1 : Int) ∧ (1 : Int) ≤ IntKind.i64.wrap ((1 : Int) + bI (ix a0_r.fst (0 : Int))) ∧ IntKind.i64.wrap ((1 : Int) + bI (ix a0_r.fst (0 : Int))) ≤ (a0_r.fst.length : Int)) ∧ ∃ (x0 : Int → Int → Prop), ∃ (x1 : Int → Int → Nat), x0 (0 : Int) (0 : Int) ∧ ∀ (x2 x3 : Int), x0 x2 x3 → (Kd.int IntKind.u64).wf x2 → (Kd.int IntKind.i64).wf x3 → (x3 < ((List.drop (Int.toNat (1 : Int)) (List.take (IntKind.i64.wrap ((1 : Int) + bI (ix a0_r.fst (0 : Int)))).toNat a0_r.fst)).length : Int) → ((0 : Int) ≤ x3 ∧ x3 < ((List.drop (Int.toNat (1 : Int)) (List.take (IntKind.i64.wrap ((1 : Int) + bI (ix a0_r.fst (0 : Int)))).toNat a0_r.fst)).length : Int)) ∧ x3 < (9223372036854775807 : Int) ∧ x0 (bor IntKind.u64 (shl IntKind.u64 x2 (8 : Int)) (bI (ix (List.drop (Int.toNat (1 : Int)) (List.take (IntKind.i64.wrap ((1 : Int) + bI (ix a0_r.fst (0 : Int)))).toNat a0_r.fst)) x3))) (x3 + (1 : Int)) ∧ x1 (bor IntKind.u64 (shl IntKind.u64 x2 (8 : Int)) (bI (ix (List.drop (Int.toNat (1 : Int)) (List.take (IntKind.i64.wrap ((1 : Int) + bI (ix a0_r.fst (0 : Int)))).toNat a0_r.fst)) x3))) (x3 + (1 : Int)) < x1 x2 x3) ∧ (¬x3 < ((List.drop (Int.toNat (1 : Int)) (List.take (IntKind.i64.wrap ((1 : Int) + bI (ix a0_r.fst (0 : Int)))).toNat a0_r.fst)).length : Int) → ((1 : Int) < IntKind.i64.wrap ((1 : Int) + bI (ix a0_r.fst (0 : Int))) → ((0 : Int) ≤ (1 : Int) ∧ (1 : Int) < (a0_r.fst.length : Int)) ∧ (bI (ix a0_r.fst (1 : Int)) = (0 : Int) → Q (0 : Int) (0 : Int)) ∧ (¬bI (ix a0_r.fst (1 : Int)) = (0 : Int) → Q x2 (IntKind.i64.wrap ((1 : Int) + bI (ix a0_r.fst (0 : Int)))))) ∧ (¬(1 : Int) < IntKind.i64.wrap ((1 : Int) + bI (ix a0_r.fst (0 : Int))) → Q x2 (IntKind.i64.wrap ((1 : Int) + bI (ix a0_r.fst (0 : Int))))))))))
theorem qor {a0_r : (List UInt8) × Bool} (w_0 : (Ty.kd (.pr (.sl .byte) .bool)).wf a0_r) : qhk a0_r (fun o0 o1 => o0 = ((qaO a0_r).1 : Int) ∧ o1 = ((qaO a0_r).2 : Int)) := by
 obtain ⟨b, bad⟩ := a0_r
 unfold qhk
 refine ⟨fun h => ?_, fun h => ?_⟩
 ·have h : bad = true := h
  subst h
  exact ⟨rfl, rfl⟩
 have h : bad = false := h
 subst h
 have eP : qaO (b, false) = qdv b := qcJ b
 simp only [eP]
 rcases b with _ | ⟨c, r⟩
 ·exact ⟨fun _ => ⟨rfl, rfl⟩, fun h => absurd rfl h⟩
 have e0 : ix (c :: r) (0 : Int) = c := rfl
 have ec : bI c = (c.toNat : Int) := rfl
 have hc : c.toNat < 256 := c.toNat_lt
 have el : (((c :: r).length : Nat) : Int) = (r.length : Int) + 1 := by simp
 have b0 : (0 : Int) ≤ 0 ∧ (0 : Int) < (((c :: r).length : Nat) : Int) := by rw [el]; omega
 simp only [e0, ec]
 refine ⟨fun h => absurd h (by rw [el]; omega), fun _ => ⟨b0, fun h8 => ?_, fun h8 => ⟨b0, fun hl => ?_, fun hl => ?_⟩⟩⟩
 ·rw [qbD, if_neg (by omega)]; exact ⟨rfl, rfl⟩
 ·rw [el] at hl
  rw [qbD, if_neg (by omega)]; exact ⟨rfl, rfl⟩
 rw [el] at hl
 have h8 : c.toNat ≤ 8 := by omega
 have hkl : c.toNat ≤ r.length := by omega
 have ew : IntKind.i64.wrap (1 + (c.toNat : Int)) = ((c.toNat + 1 : Nat) : Int) := by rw [qaD (wf64 (by omega) (by omega))]; omega
 have eR : List.drop (Int.toNat 1) (List.take ((c.toNat + 1 : Nat) : Int).toNat (c :: r)) = r.take c.toNat := rfl
 have eL : (r.take c.toNat).length = c.toNat := by rw [List.length_take]; omega
 simp only [ew, eR, eL]
 refine ⟨b0, ⟨by omega, by omega, by rw [el]; omega⟩, ?_⟩
 refine ⟨fun x i => ∃ j : Nat, i = (j : Int) ∧ j ≤ c.toNat ∧ x = (valB ((r.take c.toNat).take j) : Int), fun _ i => ((c.toNat : Int) - i).toNat, ⟨0, rfl, Nat.zero_le _, rfl⟩, ?_⟩
 rintro x2 _ ⟨j, rfl, hj, rfl⟩ _ _
 refine ⟨fun hlt => ?_, fun hge => ?_⟩
 ·have hj' : j < c.toNat := by omega
  have hjl : j < (r.take c.toNat).length := by rw [eL]; exact hj'
  have hlen : ((r.take c.toNat).take j).length = j := by rw [List.length_take, eL]; omega
  have hv := qhO ((r.take c.toNat).take j)
  rw [hlen] at hv
  have hv56 : valB ((r.take c.toNat).take j) < 2 ^ 56 := Nat.lt_of_lt_of_le hv (by
   have : 256 ^ j ≤ 256 ^ 7 := Nat.pow_le_pow_right (by omega) (by omega)
   exact this)
  refine ⟨⟨by omega, by omega⟩, by omega, ⟨j + 1, rfl, hj', ?_⟩, by dsimp only; omega⟩
  rw [ixN hjl, qoi hv56, qnA hjl]
 ·obtain rfl : j = c.toNat := by omega
  have eT : (r.take c.toNat).take c.toNat = r.take c.toNat := by rw [List.take_take, Nat.min_self]
  rw [eT]
  have good : ¬ (0 < c.toNat ∧ r.head? = some 0) → ((valB (r.take c.toNat) : Nat) : Int) = ((qdv (c :: r)).1 : Int) ∧ ((c.toNat + 1 : Nat) : Int) = ((qdv (c :: r)).2 : Int) := fun hn => by
   rw [qbD, if_pos ⟨h8, hkl, hn⟩]
   exact ⟨rfl, rfl⟩
  refine ⟨fun h1 => ?_, fun h1 => good fun hn => by omega⟩
  match r, hkl with
  | [], hkl => simp at hkl; omega
  | d :: r, hkl =>
    have e1 : ix (c :: d :: r) (1 : Int) = d := rfl
    simp only [e1]
    refine ⟨by simp; omega, fun hd => ?_, fun hd => good fun hn => hd ?_⟩
    ·have hd0 : d = 0 := UInt8.toNat_inj.1 (by have : (d.toNat : Int) = 0 := hd; show d.toNat = 0; omega)
     rw [qbD, if_neg (fun hn => hn.2.2 ⟨by omega, by rw [hd0]; rfl⟩)]
     exact ⟨rfl, rfl⟩
    ·have : d = 0 := Option.some.inj hn.2
     rw [this]; rfl
theorem qoq : (∀ a, qev.pre a → PM.wfP qev.pm a (fvc qmc 200 112 qev a (eqO qev a))) = (∀ a : ((List UInt8) × Bool) × Unit, True → (Ty.kd (.pr (.sl .byte) .bool)).wf a.1 → qhk a.1 (fun o0 o1 => o0 = ((qaO (a.1)).1 : Int) ∧ o1 = ((qaO (a.1)).2 : Int))) := by kernel_rfl
theorem qqH : qev.valid Try.prog 112 := qaz (X := qmc) (qaV qat (fun b hb => by cases hb; exact qay) qaA trivial) 200 (qoq.mpr fun a hp w_0 => @qor a.1 w_0)
noncomputable def qgm : Ctr := ⟨[.v (.sl .byte)], [.bx (.st (.pr (.sl .byte) .bool))], some (fun a => (fun (a0_b : List UInt8) => (a0_b.length ≤ 140737488355328 : Prop)) a.1), fun a => (fun (a0_b : List UInt8) => ((((a0_b, false) : List UInt8 × Bool), ()), (()))) a.1⟩
noncomputable def qps : Fx := ⟨seat, some bkT, fns, [(69, qck)], [], [], []⟩
def qiF (a0_b : List UInt8) (Q : ((List UInt8) × Bool) → Prop) : Prop :=
 a0_b.length ≤ (140737488355328 : Nat) ∧ (Ty.byte.kd.sl.wf a0_b → Q (a0_b, (Ty.byte.sl.pr Ty.bool).kd.z.snd))
theorem qp3 {a0_b : List UInt8} (w_0 : (Ty.kd (.sl .byte)).wf a0_b) (hp : a0_b.length ≤ 140737488355328) : qiF a0_b (fun o0 => o0 = ((a0_b, false) : List UInt8 × Bool)) := by
 unfold qiF
 exact ⟨hp, fun _ => rfl⟩
theorem qp2 : (∀ a, qgm.pre a → PM.wfP qgm.pm a (fvc qps 200 23 qgm a (eqO qgm a))) = (∀ a : (List UInt8) × Unit, ((a.1).length ≤ 140737488355328) → (Ty.kd (.sl .byte)).wf a.1 → qiF a.1 (fun o0 => o0 = (((a.1), false) : List UInt8 × Bool))) := by kernel_rfl
theorem qrC : qgm.valid Try.prog 23 := qaz (X := qps) (qaV qat (fun b hb => by cases hb; exact qay) qaA ⟨qek, trivial⟩) 200 (qp2.mpr fun a hp w_0 => @qp3 a.1 w_0 hp)
def qfB (a0_c : (List UInt8) × Bool) (a1_most : Int) (Q : Int → ((List UInt8) × Bool) → Prop) : Prop :=
 (true = false → ((0 : Int) ≤ ((qaO a0_c).snd : Int) ∧ ((qaO a0_c).snd : Int) ≤ ((qaO a0_c).snd : Int) ∧ ((qaO a0_c).snd : Int) ≤ (a0_c.fst.length : Int)) ∧ ((0 : Int) ≤ ((qaO a0_c).snd : Int) ∧ ((qaO a0_c).snd : Int) ≤ (a0_c.fst.length : Int)) ∧ ∀ (x0 : Bool), (x0 = true → List.take ((qaO a0_c).snd : Int).toNat a0_c.fst = ([] : List UInt8)) → (x0 = true → Q (0 : Int) (List.drop ((qaO a0_c).snd : Int).toNat a0_c.fst, true)) ∧ (x0 = false → Q ((qaO a0_c).fst : Int) (List.drop ((qaO a0_c).snd : Int).toNat a0_c.fst, true)))
noncomputable def qgv : Ctr := ⟨[.bx (.st (.pr (.sl .byte) .bool)) true, .v (.int .u64)], [.v (.int .u64)], none, fun a => (fun (a0_c : (List UInt8) × Bool) (a1_most : Int) => ((((numC a1_most.toNat a0_c).1 : Int), ()), ((numC a1_most.toNat a0_c).2, ()))) a.1 a.2.1⟩
noncomputable def qpF : Fx := ⟨seat, some bkT, fns, [(112, qev)], [73, 113], [], [(5, [0], [.o 0 2, .o 1 2, .o 2 2, .o 3 2, .o 4 2, .o 5 2, .o 6 2, .o 7 2, .o 8 2, .o 9 2, .o 10 2, .o 11 2, .o 12 2, .o 13 2, .o 14 2, .o 15 2, .o 16 2, .o 17 1])]⟩
def qiW (a0_c : (List UInt8) × Bool) (a1_most : Int) (Q : Int → ((List UInt8) × Bool) → Prop) : Prop :=
 (Ty.int IntKind.u64).kd.wf ((qaO a0_c).fst : Int) → (Ty.int IntKind.i64).kd.wf ((qaO a0_c).snd : Int) → ((0 : Int) < ((qaO a0_c).snd : Int) → (a0_c.snd = true → (true = true → Q (0 : Int) (a0_c.fst, true)) ∧ (qfB a0_c a1_most Q)) ∧ (a0_c.snd = false → (¬((qaO a0_c).fst : Int) ≤ a1_most → (true = true → Q (0 : Int) (a0_c.fst, true)) ∧ (qfB a0_c a1_most Q)) ∧ (((qaO a0_c).fst : Int) ≤ a1_most → (decide ((a0_c.fst.length : Int) < ((qaO a0_c).snd : Int)) = true → Q (0 : Int) (a0_c.fst, decide ((a0_c.fst.length : Int) < ((qaO a0_c).snd : Int)))) ∧ (decide ((a0_c.fst.length : Int) < ((qaO a0_c).snd : Int)) = false → ((0 : Int) ≤ ((qaO a0_c).snd : Int) ∧ ((qaO a0_c).snd : Int) ≤ ((qaO a0_c).snd : Int) ∧ ((qaO a0_c).snd : Int) ≤ (a0_c.fst.length : Int)) ∧ ((0 : Int) ≤ ((qaO a0_c).snd : Int) ∧ ((qaO a0_c).snd : Int) ≤ (a0_c.fst.length : Int)) ∧ ∀ (x0 : Bool), (x0 = true → List.take ((qaO a0_c).snd : Int).toNat a0_c.fst = ([] : List UInt8)) → (x0 = true → Q (0 : Int) (List.drop ((qaO a0_c).snd : Int).toNat a0_c.fst, decide ((a0_c.fst.length : Int) < ((qaO a0_c).snd : Int)))) ∧ (x0 = false → Q ((qaO a0_c).fst : Int) (List.drop ((qaO a0_c).snd : Int).toNat a0_c.fst, decide ((a0_c.fst.length : Int) < ((qaO a0_c).snd : Int)))))))) ∧ (¬(0 : Int) < ((qaO a0_c).snd : Int) → (a0_c.snd = true → (true = true → Q (0 : Int) (a0_c.fst, true)) ∧ (qfB a0_c a1_most Q)) ∧ (a0_c.snd = false → (true = true → Q (0 : Int) (a0_c.fst, true)) ∧ (qfB a0_c a1_most Q)))
theorem qqC {a0_c : (List UInt8) × Bool} {a1_most : Int} (w_0 : (Ty.kd (.st (.pr (.sl .byte) .bool))).wf a0_c) (w_1 : (Ty.kd (.int .u64)).wf a1_most) : qiW a0_c a1_most (fun o0 o1 => o0 = ((numC a1_most.toNat a0_c).1 : Int) ∧ o1 = (numC a1_most.toNat a0_c).2) := by
 obtain ⟨b, bad⟩ := a0_c
 have k1 : ∀ Q, qfB (b, bad) a1_most Q := fun Q h => by cases h
 unfold qiW
 intro _ _
 cases bad with
 | true =>
   have e : qaO (b, true) = (0, 0) := qfZ rfl
   have eN := qoZ a1_most.toNat b
   simp only [e]
   refine ⟨fun h => absurd h (by decide), fun _ => ⟨fun _ => ⟨fun _ => ?_, k1 _⟩, fun h => by cases h⟩⟩
   rw [eN]; exact ⟨rfl, rfl⟩
 | false =>
   have e : qaO (b, false) = qdv b := qcJ b
   rw [e]
   generalize hp : qdv b = p
   obtain ⟨x, k⟩ := p
   have eN := qq7 (m := a1_most.toNat) hp
   obtain ⟨hx, hk9, hkl⟩ := qo2 hp
   have hm : 0 ≤ a1_most := w_1.1
   rw [hp] at e
   have bad : ¬ (0 < k ∧ x ≤ a1_most.toNat) → ((0 : Int) = ((numC a1_most.toNat (b, false)).1 : Int) ∧ (b, true) = (numC a1_most.toNat (b, false)).2) := fun h => by
    rw [eN, if_neg h]; exact ⟨rfl, rfl⟩
   dsimp only
   refine ⟨fun h0 => ⟨fun h => (by cases h), fun _ => ⟨fun h1 => ⟨fun _ => bad (by omega), k1 _⟩, fun h1 => ⟨fun h2 => ?_, fun h2 => ⟨⟨by omega, by omega, by omega⟩, ⟨by omega, by omega⟩, fun z hz => ⟨fun hzt => ?_, fun _ => ?_⟩⟩⟩⟩⟩, fun h0 => ⟨fun h => (by cases h), fun _ => ⟨fun _ => bad (by omega), k1 _⟩⟩⟩
   ·have := of_decide_eq_true h2; omega
   ·exfalso
    have := congrArg List.length (hz hzt)
    rw [List.length_take] at this
    simp only [List.length_nil, Int.toNat_natCast] at this
    omega
   ·rw [eN, if_pos ⟨by omega, by omega⟩, h2]
    exact ⟨rfl, rfl⟩
theorem qqB : (∀ a, qgv.pre a → PM.wfP qgv.pm a (fvc qpF 200 70 qgv a (eqO qgv a))) = (∀ a : ((List UInt8) × Bool) × Int × Unit, True → (Ty.kd (.st (.pr (.sl .byte) .bool))).wf a.1 → (Ty.kd (.int .u64)).wf a.2.1 → qiW a.1 a.2.1 (fun o0 o1 => o0 = ((numC (a.2.1).toNat (a.1)).1 : Int) ∧ o1 = (numC (a.2.1).toNat (a.1)).2)) := by kernel_rfl
theorem qsC : qgv.valid Try.prog 70 := qaz (X := qpF) (qaV qat (fun b hb => by cases hb; exact qay) qaA ⟨qqH, trivial⟩) 200 (qqB.mpr fun a hp w_0 w_1 => @qqC a.1 a.2.1 w_0 w_1)
noncomputable def qgw : Ctr := ⟨[.bx (.st (.pr (.sl .byte) .bool)) true], [.v (.arr 32 .byte)], none, fun a => (fun (a0_c : (List UInt8) × Bool) => (((sumC a0_c).1, ()), ((sumC a0_c).2, ()))) a.1⟩
noncomputable def qpG : Fx := ⟨seat, some bkT, fns, [], [73, 113], [], [(1, [0, 1], [.o 0 3, .o 1 2, .o 2 1, .o 3 1, .o 4 1]), (5, [0], [.o 0 2, .o 1 2, .o 2 2, .o 3 2, .o 4 2, .o 5 2, .o 6 2, .o 7 2, .o 8 2, .o 9 2, .o 10 2, .o 11 2, .o 12 2, .o 13 2, .o 14 2, .o 15 2, .o 16 2, .o 17 1])]⟩
def qiX (a0_c : (List UInt8) × Bool) (Q : (List UInt8) → ((List UInt8) × Bool) → Prop) : Prop :=
 (a0_c.snd = true → (true = true → Q (List.take (Int.toNat (0 : Int)) (Ty.arr (32 : Nat) Ty.byte).kd.z ++ List.take (((32 : Nat) : Int).toNat - Int.toNat (0 : Int)) ([] : List UInt8) ++ List.drop (Int.toNat (0 : Int) + min ([] : List UInt8).length (((32 : Nat) : Int).toNat - Int.toNat (0 : Int))) (Ty.arr (32 : Nat) Ty.byte).kd.z) (a0_c.fst, true)) ∧ (true = false → ((0 : Int) ≤ (32 : Int) ∧ (32 : Int) ≤ (32 : Int) ∧ (32 : Int) ≤ (a0_c.fst.length : Int)) ∧ ((0 : Int) ≤ (32 : Int) ∧ (32 : Int) ≤ (a0_c.fst.length : Int)) ∧ Q (List.take (Int.toNat (0 : Int)) (Ty.arr (32 : Nat) Ty.byte).kd.z ++ List.take (((32 : Nat) : Int).toNat - Int.toNat (0 : Int)) (List.take (Int.toNat (32 : Int)) a0_c.fst) ++ List.drop (Int.toNat (0 : Int) + min (List.take (Int.toNat (32 : Int)) a0_c.fst).length (((32 : Nat) : Int).toNat - Int.toNat (0 : Int))) (Ty.arr (32 : Nat) Ty.byte).kd.z) (List.drop (Int.toNat (32 : Int)) a0_c.fst, true))) ∧ (a0_c.snd = false → (decide ((a0_c.fst.length : Int) < (32 : Int)) = true → Q (List.take (Int.toNat (0 : Int)) (Ty.arr (32 : Nat) Ty.byte).kd.z ++ List.take (((32 : Nat) : Int).toNat - Int.toNat (0 : Int)) ([] : List UInt8) ++ List.drop (Int.toNat (0 : Int) + min ([] : List UInt8).length (((32 : Nat) : Int).toNat - Int.toNat (0 : Int))) (Ty.arr (32 : Nat) Ty.byte).kd.z) (a0_c.fst, decide ((a0_c.fst.length : Int) < (32 : Int)))) ∧ (decide ((a0_c.fst.length : Int) < (32 : Int)) = false → ((0 : Int) ≤ (32 : Int) ∧ (32 : Int) ≤ (32 : Int) ∧ (32 : Int) ≤ (a0_c.fst.length : Int)) ∧ ((0 : Int) ≤ (32 : Int) ∧ (32 : Int) ≤ (a0_c.fst.length : Int)) ∧ Q (List.take (Int.toNat (0 : Int)) (Ty.arr (32 : Nat) Ty.byte).kd.z ++ List.take (((32 : Nat) : Int).toNat - Int.toNat (0 : Int)) (List.take (Int.toNat (32 : Int)) a0_c.fst) ++ List.drop (Int.toNat (0 : Int) + min (List.take (Int.toNat (32 : Int)) a0_c.fst).length (((32 : Nat) : Int).toNat - Int.toNat (0 : Int))) (Ty.arr (32 : Nat) Ty.byte).kd.z) (List.drop (Int.toNat (32 : Int)) a0_c.fst, decide ((a0_c.fst.length : Int) < (32 : Int)))))
theorem qqE {a0_c : (List UInt8) × Bool} (w_0 : (Ty.kd (.st (.pr (.sl .byte) .bool))).wf a0_c) : qiX a0_c (fun o0 o1 => o0 = (sumC a0_c).1 ∧ o1 = (sumC a0_c).2) := by
 obtain ⟨b, bad⟩ := a0_c
 unfold qiX
 have zz : (Ty.arr (32 : Nat) Ty.byte).kd.z = List.replicate 32 (0 : UInt8) := rfl
 have e0 : ∀ l : List UInt8, List.take (Int.toNat (0 : Int)) (Ty.arr (32 : Nat) Ty.byte).kd.z ++ List.take (((32 : Nat) : Int).toNat - Int.toNat (0 : Int)) l ++ List.drop (Int.toNat (0 : Int) + min l.length (((32 : Nat) : Int).toNat - Int.toNat (0 : Int))) (Ty.arr (32 : Nat) Ty.byte).kd.z = l.take 32 ++ (List.replicate 32 (0 : UInt8)).drop (min l.length 32) := fun l => by
  show [] ++ l.take 32 ++ (List.replicate 32 (0 : UInt8)).drop (0 + min l.length 32) = _
  rw [Nat.zero_add]; rfl
 simp only [e0]
 have bad0 : ∀ c, ¬ (c = false ∧ 32 ≤ b.length) → (List.take 32 ([] : List UInt8) ++ (List.replicate 32 (0 : UInt8)).drop (min ([] : List UInt8).length 32) = (sumC (b, c)).1 ∧ (b, true) = (sumC (b, c)).2) := fun c h => by
  have e : sumC (b, c) = (sm0L, (b, true)) := if_neg h
  rw [e]; exact ⟨rfl, rfl⟩
 refine ⟨fun h => ⟨fun _ => bad0 bad (fun hc => ?_), fun h => by cases h⟩, fun h => ⟨fun hd => ?_, fun hd => ?_⟩⟩
 ·have h : bad = true := h
  rw [h] at hc; exact absurd hc.1 (by decide)
 ·have h32 := of_decide_eq_true hd
  rw [hd]
  exact bad0 bad (fun hc => by omega)
 ·have h32 := of_decide_eq_false hd
  have hb : bad = false := h
  subst hb
  have e : sumC (b, false) = (b.take 32, (b.drop 32, false)) := if_pos ⟨rfl, by show 32 ≤ b.length; omega⟩
  rw [e, hd]
  have et : Int.toNat (32 : Int) = 32 := rfl
  have el : (b.take 32).length = 32 := by rw [List.length_take]; omega
  refine ⟨⟨by omega, by omega, by omega⟩, ⟨by omega, by omega⟩, ?_, ?_⟩
  ·rw [et, el, List.take_take]
   show b.take 32 ++ [] = _
   rw [List.append_nil]
  ·rw [et]
theorem qqD : (∀ a, qgw.pre a → PM.wfP qgw.pm a (fvc qpG 200 71 qgw a (eqO qgw a))) = (∀ a : ((List UInt8) × Bool) × Unit, True → (Ty.kd (.st (.pr (.sl .byte) .bool))).wf a.1 → qiX a.1 (fun o0 o1 => o0 = (sumC (a.1)).1 ∧ o1 = (sumC (a.1)).2)) := by kernel_rfl
theorem qsD : qgw.valid Try.prog 71 := qaz (X := qpG) (qaV qat (fun b hb => by cases hb; exact qay) qaA trivial) 200 (qqD.mpr fun a hp w_0 => @qqE a.1 w_0)
noncomputable def qdG : Ctr := ⟨[.bx (.st (.pr (.sl .byte) .bool)) false], [.v (.int .i64)], none, fun a => (fun (a0_c : (List UInt8) × Bool) => (((a0_c.1.length : Int), ()), (()))) a.1⟩
noncomputable def ql6 : Fx := ⟨seat, some bkT, fns, [], [74], [], []⟩
def qhh (a0_c : (List UInt8) × Bool) (Q : Int → Prop) : Prop :=
 Q (a0_c.fst.length : Int)
theorem qop {a0_c : (List UInt8) × Bool} (w_0 : (Ty.kd (.st (.pr (.sl .byte) .bool))).wf a0_c) : qhh a0_c (fun o0 => o0 = (a0_c.1.length : Int)) := by
 unfold qhh
 rfl
theorem qoo : (∀ a, qdG.pre a → PM.wfP qdG.pm a (fvc ql6 200 27 qdG a (eqO qdG a))) = (∀ a : ((List UInt8) × Bool) × Unit, True → (Ty.kd (.st (.pr (.sl .byte) .bool))).wf a.1 → qhh a.1 (fun o0 => o0 = ((a.1).1.length : Int))) := by kernel_rfl
theorem ql7 : qdG.valid Try.prog 27 := qaz (X := ql6) (qaV qat (fun b hb => by cases hb; exact qay) qaA trivial) 200 (qoo.mpr fun a hp w_0 => @qop a.1 w_0)
noncomputable def qeS : Ctr := ⟨[.bx (.st (.pr (.sl .byte) .bool)) false], [.v (.int .i64)], none, fun a => (fun (a0_c : (List UInt8) × Bool) => (((if a0_c.2 = true then 2 else 0 : Int), ()), (()))) a.1⟩
noncomputable def qpE : Fx := ⟨seat, some bkT, fns, [], [73], [], []⟩
def qiV (a0_c : (List UInt8) × Bool) (Q : Int → Prop) : Prop :=
 (a0_c.snd = true → Q (2 : Int)) ∧ (a0_c.snd = false → Q (0 : Int))
theorem qqz {a0_c : (List UInt8) × Bool} (w_0 : (Ty.kd (.st (.pr (.sl .byte) .bool))).wf a0_c) : qiV a0_c (fun o0 => o0 = (if a0_c.2 = true then 2 else 0 : Int)) := by
 unfold qiV
 refine ⟨fun h => ?_, fun h => ?_⟩
 ·rw [if_pos h]
 ·rw [if_neg (by rw [h]; exact fun h => by cases h)]
theorem qqy : (∀ a, qeS.pre a → PM.wfP qeS.pm a (fvc qpE 200 26 qeS a (eqO qeS a))) = (∀ a : ((List UInt8) × Bool) × Unit, True → (Ty.kd (.st (.pr (.sl .byte) .bool))).wf a.1 → qiV a.1 (fun o0 => o0 = (if (a.1).2 = true then 2 else 0 : Int))) := by kernel_rfl
theorem ql4 : qeS.valid Try.prog 26 := qaz (X := qpE) (qaV qat (fun b hb => by cases hb; exact qay) qaA trivial) 200 (qqy.mpr fun a hp w_0 => @qqz a.1 w_0)
noncomputable def qet : Ctr := ⟨[.bx (.st (.pr (.sl .byte) .bool)) true], [], none, fun a => (fun (a0_c : (List UInt8) × Bool) => ((()), (((a0_c.1, true) : List UInt8 × Bool), ()))) a.1⟩
noncomputable def ql5 : Fx := ⟨seat, some bkT, fns, [], [73], [], []⟩
def qhg (a0_c : (List UInt8) × Bool) (Q : ((List UInt8) × Bool) → Prop) : Prop :=
 Q (a0_c.fst, true)
theorem qon {a0_c : (List UInt8) × Bool} (w_0 : (Ty.kd (.st (.pr (.sl .byte) .bool))).wf a0_c) : qhg a0_c (fun o0 => o0 = ((a0_c.1, true) : List UInt8 × Bool)) := by
 unfold qhg
 rfl
theorem qom : (∀ a, qet.pre a → PM.wfP qet.pm a (fvc ql5 200 72 qet a (eqO qet a))) = (∀ a : ((List UInt8) × Bool) × Unit, True → (Ty.kd (.st (.pr (.sl .byte) .bool))).wf a.1 → qhg a.1 (fun o0 => o0 = (((a.1).1, true) : List UInt8 × Bool))) := by kernel_rfl
theorem qqA : qet.valid Try.prog 72 := qaz (X := ql5) (qaV qat (fun b hb => by cases hb; exact qay) qaA trivial) 200 (qom.mpr fun a hp w_0 => @qon a.1 w_0)
noncomputable def qes : Ctr := ⟨[.bx (.st (.pr (.sl .byte) .bool)) true], [.v (.int .i64)], none, fun a => (fun (a0_c : (List UInt8) × Bool) => (((qds a0_c).1, ()), ((qds a0_c).2, ()))) a.1⟩
noncomputable def ql3 : Fx := ⟨seat, some bkT, fns, [(27, qdG), (72, qet), (26, qeS)], [], [], []⟩
def qhf (a0_c : (List UInt8) × Bool) (Q : Int → ((List UInt8) × Bool) → Prop) : Prop :=
 (Ty.int IntKind.i64).kd.wf (a0_c.fst.length : Int) → ((0 : Int) < (a0_c.fst.length : Int) → (Ty.int IntKind.i64).kd.wf (if true = true then (2 : Int) else (0 : Int)) → Q (if true = true then (2 : Int) else (0 : Int)) (a0_c.fst, true)) ∧ (¬(0 : Int) < (a0_c.fst.length : Int) → (Ty.int IntKind.i64).kd.wf (if a0_c.snd = true then (2 : Int) else (0 : Int)) → Q (if a0_c.snd = true then (2 : Int) else (0 : Int)) a0_c)
theorem qol {a0_c : (List UInt8) × Bool} (w_0 : (Ty.kd (.st (.pr (.sl .byte) .bool))).wf a0_c) : qhf a0_c (fun o0 o1 => o0 = (qds a0_c).1 ∧ o1 = (qds a0_c).2) := by
 obtain ⟨b, bad⟩ := a0_c
 unfold qhf
 intro _
 refine ⟨fun h _ => ?_, fun h _ => ?_⟩
 ·have e : qds (b, bad) = (2, (b, true)) := if_pos (.inr (by have h : (0 : Int) < (b.length : Int) := h; show 0 < b.length; omega))
  rw [e]
  exact ⟨if_pos rfl, rfl⟩
 ·have h : ¬ (0 : Int) < (b.length : Int) := h
  cases bad with
  | true =>
    have e : qds (b, true) = (2, (b, true)) := if_pos (.inl rfl)
    rw [e]
    exact ⟨if_pos rfl, rfl⟩
  | false =>
    have e : qds (b, false) = (0, (b, false)) := if_neg fun h1 => h1.elim (fun h1 => by cases h1) (fun h1 => h (Int.natCast_pos.2 h1))
    rw [e]
    exact ⟨if_neg (fun h => by cases h), rfl⟩
theorem qok : (∀ a, qes.pre a → PM.wfP qes.pm a (fvc ql3 200 25 qes a (eqO qes a))) = (∀ a : ((List UInt8) × Bool) × Unit, True → (Ty.kd (.st (.pr (.sl .byte) .bool))).wf a.1 → qhf a.1 (fun o0 o1 => o0 = (qds (a.1)).1 ∧ o1 = (qds (a.1)).2)) := by kernel_rfl
theorem qqx : qes.valid Try.prog 25 := qaz (X := ql3) (qaV qat (fun b hb => by cases hb; exact qay) qaA ⟨ql7, qqA, ql4, trivial⟩) 200 (qok.mpr fun a hp w_0 => @qol a.1 w_0)
noncomputable def qej : Ctr := ⟨[.bx (.st (.pr (.sl .byte) .bool)) true], [.v (.pr (.int .u64) (.pr (.arr 32 .byte) (.pr (.arr 32 .byte) (.pr (.arr 32 .byte) (.pr (.arr 32 .byte) (.arr 32 .byte))))))], none, fun a => (fun (a0_c : (List UInt8) × Bool) => (((qaI a0_c).1, ()), ((qaI a0_c).2, ()))) a.1⟩
noncomputable def qli : Fx := ⟨{ seat with rws := [6000002, 6000018] }, some bkT, fns, [(70, qgv), (71, qgw), (26, qeS)], [63], [(3, [], [1000000])], [(1, [0, 1, 2, 3, 4, 5, 6, 7, 8, 9, 10, 11], [.o 0 2, .o 1 2, .o 2 2, .o 3 2, .o 4 2, .o 5 2, .o 6 2, .o 7 2, .o 8 2, .o 9 2, .o 10 2, .o 11 2, .o 12 2, .o 13 2, .o 14 2, .o 15 2, .o 16 1])]⟩
def qgY (a0_c : (List UInt8) × Bool) (Q : (Int × (List UInt8) × (List UInt8) × (List UInt8) × (List UInt8) × List UInt8) → ((List UInt8) × Bool) → Prop) : Prop :=
 (Ty.int IntKind.u64).kd.wf ((numC (Int.toNat (4611686018427387903 : Int)) a0_c).fst : Int) → (Ty.arr (32 : Nat) Ty.byte).kd.wf (sumC (numC (Int.toNat (4611686018427387903 : Int)) a0_c).snd).fst → (Ty.arr (32 : Nat) Ty.byte).kd.wf (sumC (sumC (numC (Int.toNat (4611686018427387903 : Int)) a0_c).snd).snd).fst → (Ty.arr (32 : Nat) Ty.byte).kd.wf (sumC (sumC (sumC (numC (Int.toNat (4611686018427387903 : Int)) a0_c).snd).snd).snd).fst → (Ty.arr (32 : Nat) Ty.byte).kd.wf (sumC (sumC (sumC (sumC (numC (Int.toNat (4611686018427387903 : Int)) a0_c).snd).snd).snd).snd).fst → (Ty.arr (32 : Nat) Ty.byte).kd.wf (sumC (sumC (sumC (sumC (sumC (numC (Int.toNat (4611686018427387903 : Int)) a0_c).snd).snd).snd).snd).snd).fst → (Ty.int IntKind.i64).kd.wf (if (sumC (sumC (sumC (sumC (sumC (numC (Int.toNat (4611686018427387903 : Int)) a0_c).snd).snd).snd).snd).snd).snd.snd = true then (2 : Int) else (0 : Int)) → ((if (sumC (sumC (sumC (sumC (sumC (numC (Int.toNat (4611686018427387903 : Int)) a0_c).snd).snd).snd).snd).snd).snd.snd = true then (2 : Int) else (0 : Int)) ≠ (0 : Int) → Q ((Ty.int IntKind.u64).pr ((Ty.arr (32 : Nat) Ty.byte).pr ((Ty.arr (32 : Nat) Ty.byte).pr ((Ty.arr (32 : Nat) Ty.byte).pr ((Ty.arr (32 : Nat) Ty.byte).pr (Ty.arr (32 : Nat) Ty.byte)))))).kd.z (sumC (sumC (sumC (sumC (sumC (numC (Int.toNat (4611686018427387903 : Int)) a0_c).snd).snd).snd).snd).snd).snd) ∧ (¬(if (sumC (sumC (sumC (sumC (sumC (numC (Int.toNat (4611686018427387903 : Int)) a0_c).snd).snd).snd).snd).snd).snd.snd = true then (2 : Int) else (0 : Int)) ≠ (0 : Int) → Q (((numC (Int.toNat (4611686018427387903 : Int)) a0_c).fst : Int), (sumC (numC (Int.toNat (4611686018427387903 : Int)) a0_c).snd).fst, (sumC (sumC (numC (Int.toNat (4611686018427387903 : Int)) a0_c).snd).snd).fst, (sumC (sumC (sumC (numC (Int.toNat (4611686018427387903 : Int)) a0_c).snd).snd).snd).fst, (sumC (sumC (sumC (sumC (numC (Int.toNat (4611686018427387903 : Int)) a0_c).snd).snd).snd).snd).fst, (sumC (sumC (sumC (sumC (sumC (numC (Int.toNat (4611686018427387903 : Int)) a0_c).snd).snd).snd).snd).snd).fst) (sumC (sumC (sumC (sumC (sumC (numC (Int.toNat (4611686018427387903 : Int)) a0_c).snd).snd).snd).snd).snd).snd)
theorem qnJ {a0_c : (List UInt8) × Bool} (w_0 : (Ty.kd (.st (.pr (.sl .byte) .bool))).wf a0_c) : qgY a0_c (fun o0 o1 => o0 = (qaI a0_c).1 ∧ o1 = (qaI a0_c).2) := by
 have z1 : Int.toNat (4611686018427387903 : Int) = 4611686018427387903 := rfl
 unfold qgY
 simp only [z1]
 intro _ _ _ _ _ _ _
 have e := qj9 a0_c
 generalize numC 4611686018427387903 a0_c = S0 at e ⊢
 generalize sumC S0.2 = S1 at e ⊢
 generalize sumC S1.2 = S2 at e ⊢
 generalize sumC S2.2 = S3 at e ⊢
 generalize sumC S3.2 = S4 at e ⊢
 generalize sumC S4.2 = S5 at e ⊢
 have hr : (qaI a0_c).2 = S5.2 := by show (qdu a0_c).2 = _; rw [e]
 refine ⟨fun h => ?_, fun h => ?_⟩
 ·have hb : S5.2.2 = true := by
   cases hc : S5.2.2 with
   | true => rfl
   | false => rw [hc] at h; exact absurd rfl h
  rw [qf4 (by rw [hr]; exact hb), hr]
  exact ⟨rfl, rfl⟩
 ·have hb : S5.2.2 = false := by
   cases hc : S5.2.2 with
   | false => rfl
   | true => rw [hc] at h; exact absurd (by decide) h
  rw [qhH (by rw [hr]; exact hb), hr, e]
  exact ⟨rfl, rfl⟩
theorem qnI : (∀ a, qej.pre a → PM.wfP qej.pm a (fvc qli 200 24 qej a (eqO qej a))) = (∀ a : ((List UInt8) × Bool) × Unit, True → (Ty.kd (.st (.pr (.sl .byte) .bool))).wf a.1 → qgY a.1 (fun o0 o1 => o0 = (qaI (a.1)).1 ∧ o1 = (qaI (a.1)).2)) := by kernel_rfl
theorem qpY : qej.valid Try.prog 24 := qaz (X := qli) (qaV (qat.rows [6000002, 6000018]) (fun b hb => by cases hb; exact qay) qaA ⟨qsC, qsD, ql4, trivial⟩) 200 (qnI.mpr fun a hp w_0 => @qnJ a.1 w_0)
def qbo (a0_h : Int × (List UInt8) × (List UInt8) × (List UInt8) × (List UInt8) × List UInt8) (a1_b : List UInt8) (Q : Bool → Prop) : Prop :=
 ((Ty.byte.sl.pr Ty.bool).st.kd.wf (a1_b, false) → ((Ty.int IntKind.u64).pr ((Ty.arr (32 : Nat) Ty.byte).pr ((Ty.arr (32 : Nat) Ty.byte).pr ((Ty.arr (32 : Nat) Ty.byte).pr ((Ty.arr (32 : Nat) Ty.byte).pr (Ty.arr (32 : Nat) Ty.byte)))))).kd.wf (qaI (a1_b, false)).fst → (Ty.int IntKind.i64).kd.wf ((qaI (a1_b, false)).snd.fst.length : Int) → (Ty.int IntKind.i64).kd.wf (if (qaI (a1_b, false)).snd.snd = true then (2 : Int) else (0 : Int)) → ((if (qaI (a1_b, false)).snd.snd = true then (2 : Int) else (0 : Int)) ≠ (0 : Int) → ((qaI (a1_b, false)).fst = ((Ty.int IntKind.u64).pr ((Ty.arr (32 : Nat) Ty.byte).pr ((Ty.arr (32 : Nat) Ty.byte).pr ((Ty.arr (32 : Nat) Ty.byte).pr ((Ty.arr (32 : Nat) Ty.byte).pr (Ty.arr (32 : Nat) Ty.byte)))))).kd.z → Q true) ∧ (¬(qaI (a1_b, false)).fst = ((Ty.int IntKind.u64).pr ((Ty.arr (32 : Nat) Ty.byte).pr ((Ty.arr (32 : Nat) Ty.byte).pr ((Ty.arr (32 : Nat) Ty.byte).pr ((Ty.arr (32 : Nat) Ty.byte).pr (Ty.arr (32 : Nat) Ty.byte)))))).kd.z → Q false)) ∧ (¬(if (qaI (a1_b, false)).snd.snd = true then (2 : Int) else (0 : Int)) ≠ (0 : Int) → ((0 : Int) < IntKind.i64.wrap ((a1_b.length : Int) - ((qaI (a1_b, false)).snd.fst.length : Int)) → (IntKind.i64.wrap ((a1_b.length : Int) - ((qaI (a1_b, false)).snd.fst.length : Int)) ≤ (a1_b.length : Int) → ((0 : Int) ≤ IntKind.i64.wrap ((a1_b.length : Int) - ((qaI (a1_b, false)).snd.fst.length : Int)) ∧ IntKind.i64.wrap ((a1_b.length : Int) - ((qaI (a1_b, false)).snd.fst.length : Int)) ≤ (a1_b.length : Int)) ∧ (Ty.byte.kd.sl.wf (qaf (qaI (a1_b, false)).fst) → (qaf (qaI (a1_b, false)).fst = List.take (IntKind.i64.wrap ((a1_b.length : Int) - ((qaI (a1_b, false)).snd.fst.length : Int))).toNat a1_b → Q true) ∧ (¬qaf (qaI (a1_b, false)).fst = List.take (IntKind.i64.wrap ((a1_b.length : Int) - ((qaI (a1_b, false)).snd.fst.length : Int))).toNat a1_b → Q false))) ∧ (¬IntKind.i64.wrap ((a1_b.length : Int) - ((qaI (a1_b, false)).snd.fst.length : Int)) ≤ (a1_b.length : Int) → Q false)) ∧ (¬(0 : Int) < IntKind.i64.wrap ((a1_b.length : Int) - ((qaI (a1_b, false)).snd.fst.length : Int)) → Q false)))
noncomputable def qbX : Ctr := ⟨[.v (.pr (.int .u64) (.pr (.arr 32 .byte) (.pr (.arr 32 .byte) (.pr (.arr 32 .byte) (.pr (.arr 32 .byte) (.arr 32 .byte)))))), .v (.sl .byte)], [.v .bool], none, fun a => (fun (a0_h : Int × (List UInt8) × (List UInt8) × (List UInt8) × (List UInt8) × List UInt8) (a1_b : List UInt8) => ((true, ()), (()))) a.1 a.2.1⟩
noncomputable def qfk : Fx := ⟨seat, some bkT, fns, [(14, qcs), (17, qe4), (23, qgm), (24, qej), (25, qes), (26, qeS), (27, qdG)], [], [], [(12, [], [.o 0 2, .o 1 2, .o 2 2, .o 3 2, .o 4 2, .o 5 2, .o 6 2, .o 7 2, .o 8 2, .o 9 2, .o 12 2, .o 13 2, .o 14 2, .o 15 2, .o 10 0, .o 11 2, .o 16 2, .o 17 2, .o 18 2, .o 19 0, .o 20 2, .o 21 2])]⟩
def qcS (a0_h : Int × (List UInt8) × (List UInt8) × (List UInt8) × (List UInt8) × List UInt8) (a1_b : List UInt8) (Q : Bool → Prop) : Prop :=
 ((5000 : Int) < (a1_b.length : Int) → Q true) ∧ (¬(5000 : Int) < (a1_b.length : Int) → Ty.byte.kd.sl.wf (qaf a0_h) → (qaf a0_h).length ≤ (140737488355328 : Nat) ∧ ((Ty.byte.sl.pr Ty.bool).st.kd.wf (qaf a0_h, false) → ((Ty.int IntKind.u64).pr ((Ty.arr (32 : Nat) Ty.byte).pr ((Ty.arr (32 : Nat) Ty.byte).pr ((Ty.arr (32 : Nat) Ty.byte).pr ((Ty.arr (32 : Nat) Ty.byte).pr (Ty.arr (32 : Nat) Ty.byte)))))).kd.wf (qaI (qaf a0_h, false)).fst → (a0_h.fst ≤ (4611686018427387903 : Int) → ((qaI (qaf a0_h, false)).fst ≠ a0_h → Q false) ∧ (¬(qaI (qaf a0_h, false)).fst ≠ a0_h → (Ty.int IntKind.i64).kd.wf (qds (qaI (qaf a0_h, false)).snd).fst → ((qds (qaI (qaf a0_h, false)).snd).fst ≠ (0 : Int) → Q false) ∧ (¬(qds (qaI (qaf a0_h, false)).snd).fst ≠ (0 : Int) → ((4611686018427387903 : Int) < a0_h.fst → ((qaI (qaf a0_h, false)).fst ≠ ((Ty.int IntKind.u64).pr ((Ty.arr (32 : Nat) Ty.byte).pr ((Ty.arr (32 : Nat) Ty.byte).pr ((Ty.arr (32 : Nat) Ty.byte).pr ((Ty.arr (32 : Nat) Ty.byte).pr (Ty.arr (32 : Nat) Ty.byte)))))).kd.z → Q false) ∧ (¬(qaI (qaf a0_h, false)).fst ≠ ((Ty.int IntKind.u64).pr ((Ty.arr (32 : Nat) Ty.byte).pr ((Ty.arr (32 : Nat) Ty.byte).pr ((Ty.arr (32 : Nat) Ty.byte).pr ((Ty.arr (32 : Nat) Ty.byte).pr (Ty.arr (32 : Nat) Ty.byte)))))).kd.z → (Ty.int IntKind.i64).kd.wf (if (qds (qaI (qaf a0_h, false)).snd).snd.snd = true then (2 : Int) else (0 : Int)) → ((if (qds (qaI (qaf a0_h, false)).snd).snd.snd = true then (2 : Int) else (0 : Int)) ≠ (2 : Int) → Q false) ∧ (¬(if (qds (qaI (qaf a0_h, false)).snd).snd.snd = true then (2 : Int) else (0 : Int)) ≠ (2 : Int) → a1_b.length ≤ (140737488355328 : Nat) ∧ (qbo a0_h a1_b Q)))) ∧ (¬(4611686018427387903 : Int) < a0_h.fst → a1_b.length ≤ (140737488355328 : Nat) ∧ (qbo a0_h a1_b Q))))) ∧ (¬a0_h.fst ≤ (4611686018427387903 : Int) → ((4611686018427387903 : Int) < a0_h.fst → ((qaI (qaf a0_h, false)).fst ≠ ((Ty.int IntKind.u64).pr ((Ty.arr (32 : Nat) Ty.byte).pr ((Ty.arr (32 : Nat) Ty.byte).pr ((Ty.arr (32 : Nat) Ty.byte).pr ((Ty.arr (32 : Nat) Ty.byte).pr (Ty.arr (32 : Nat) Ty.byte)))))).kd.z → Q false) ∧ (¬(qaI (qaf a0_h, false)).fst ≠ ((Ty.int IntKind.u64).pr ((Ty.arr (32 : Nat) Ty.byte).pr ((Ty.arr (32 : Nat) Ty.byte).pr ((Ty.arr (32 : Nat) Ty.byte).pr ((Ty.arr (32 : Nat) Ty.byte).pr (Ty.arr (32 : Nat) Ty.byte)))))).kd.z → (Ty.int IntKind.i64).kd.wf (if (qaI (qaf a0_h, false)).snd.snd = true then (2 : Int) else (0 : Int)) → ((if (qaI (qaf a0_h, false)).snd.snd = true then (2 : Int) else (0 : Int)) ≠ (2 : Int) → Q false) ∧ (¬(if (qaI (qaf a0_h, false)).snd.snd = true then (2 : Int) else (0 : Int)) ≠ (2 : Int) → a1_b.length ≤ (140737488355328 : Nat) ∧ (qbo a0_h a1_b Q)))) ∧ (¬(4611686018427387903 : Int) < a0_h.fst → a1_b.length ≤ (140737488355328 : Nat) ∧ (qbo a0_h a1_b Q)))))
theorem qhS {a0_h : Int × (List UInt8) × (List UInt8) × (List UInt8) × (List UInt8) × List UInt8} {a1_b : List UInt8} (w_0 : (Ty.kd (.pr (.int .u64) (.pr (.arr 32 .byte) (.pr (.arr 32 .byte) (.pr (.arr 32 .byte) (.pr (.arr 32 .byte) (.arr 32 .byte))))))).wf a0_h) (w_1 : (Ty.kd (.sl .byte)).wf a1_b) : qcS a0_h a1_b (fun o0 => o0 = true) := by
 unfold qcS
 refine ⟨fun _ => rfl, fun hb _ => ?_⟩
 have w0 := w_0
 obtain ⟨hn, ha, hb1, hc, hd, he⟩ := w0
 have hn0 : 0 ≤ a0_h.1 := hn.1
 have hn1 : a0_h.1 ≤ 18446744073709551615 := hn.2
 obtain ⟨g1, g2⟩ := qqV (h := a0_h) hn0 hn1 ha.1 hb1.1 hc.1 hd.1 he.1
 have hlen : (qaf a0_h).length ≤ 169 := by
  unfold qaf
  have := qaP (n := a0_h.1.toNat) (by omega)
  simp only [List.length_append]
  rw [show a0_h.2.1.length = 32 from ha.1, show a0_h.2.2.1.length = 32 from hb1.1, show a0_h.2.2.2.1.length = 32 from hc.1, show a0_h.2.2.2.2.1.length = 32 from hd.1, show a0_h.2.2.2.2.2.length = 32 from he.1]
  omega
 have k1 : qbo a0_h a1_b (fun o0 => o0 = true) := by
  unfold qbo
  intro _ _ _ _
  refine ⟨fun hbad => ?_, fun hok => ?_⟩
  ·have hb2 : (qaI (a1_b, false)).2.2 = true := by
    cases hc : (qaI (a1_b, false)).2.2 with
    | true => rfl
    | false => rw [hc] at hbad; exact absurd rfl hbad
   exact ⟨fun _ => rfl, fun h => absurd (qf4 hb2) h⟩
  ·have hb2 : (qaI (a1_b, false)).2.2 = false := by
    cases hc : (qaI (a1_b, false)).2.2 with
    | false => rfl
    | true => rw [hc] at hok; exact absurd (by decide) hok
   have h2 : (qdu (a1_b, false)).2.2 = false := hb2
   obtain ⟨hs, _⟩ := qkQ.sound a1_b h2
   have e1 : (qaI (a1_b, false)).1 = (qdu (a1_b, false)).1 := qhH hb2
   have e2 : (qaI (a1_b, false)).2 = (qdu (a1_b, false)).2 := rfl
   rw [e1, e2]
   generalize qdu (a1_b, false) = R at hs
   have hl := congrArg List.length hs
   rw [List.length_append] at hl
   have hpos : 0 < (qaf R.1).length := by
    unfold qaf
    simp only [List.length_append, numB, List.length_cons]
    omega
   have en : IntKind.i64.wrap ((a1_b.length : Int) - (R.2.1.length : Int)) = ((qaf R.1).length : Int) := by
    rw [qaD (wf64 (by omega) (by omega))]; omega
   rw [en]
   refine ⟨fun _ => ⟨fun _ => ⟨⟨by omega, by omega⟩, fun _ => ⟨fun _ => rfl, fun h => absurd ?_ h⟩⟩, fun h => by omega⟩, fun h => by omega⟩
   rw [Int.toNat_natCast]
   conv => rhs; rw [hs]
   rw [List.take_left]
 have zz : qrz = ((Ty.int IntKind.u64).pr ((Ty.arr (32 : Nat) Ty.byte).pr ((Ty.arr (32 : Nat) Ty.byte).pr ((Ty.arr (32 : Nat) Ty.byte).pr ((Ty.arr (32 : Nat) Ty.byte).pr (Ty.arr (32 : Nat) Ty.byte)))))).kd.z := rfl
 have b5 : a1_b.length ≤ 140737488355328 := by omega
 refine ⟨by omega, fun _ _ => ⟨fun hm => ?_, fun hm => ?_⟩⟩
 ·have e := g1 hm
  have e2 : (qaI (qaf a0_h, false)).2 = ([], false) := by show (qdu (qaf a0_h, false)).2 = _; rw [e]
  have e1 : (qaI (qaf a0_h, false)).1 = a0_h := by rw [qhH (by rw [e2]), e]
  have ed : qds (([], false) : Cu) = (0, ([], false)) := if_neg fun h1 => h1.elim (fun h1 => by cases h1) (fun h1 => absurd h1 (Nat.lt_irrefl 0))
  rw [e1, e2, ed]
  exact ⟨fun h => absurd rfl h, fun _ _ => ⟨fun h => absurd rfl h, fun _ => ⟨fun h => by omega, fun _ => ⟨b5, k1⟩⟩⟩⟩
 ·have hbad : (qaI (qaf a0_h, false)).2.2 = true := g2 hm
  rw [qf4 hbad]
  exact ⟨fun _ => ⟨fun h => absurd zz h, fun _ _ => ⟨fun h => absurd (if_pos hbad) h, fun _ => ⟨b5, k1⟩⟩⟩, fun h => by omega⟩
theorem qhR : (∀ a, qbX.pre a → PM.wfP qbX.pm a (fvc qfk 200 4 qbX a (eqO qbX a))) = (∀ a : (Int × (List UInt8) × (List UInt8) × (List UInt8) × (List UInt8) × List UInt8) × (List UInt8) × Unit, True → (Ty.kd (.pr (.int .u64) (.pr (.arr 32 .byte) (.pr (.arr 32 .byte) (.pr (.arr 32 .byte) (.pr (.arr 32 .byte) (.arr 32 .byte))))))).wf a.1 → (Ty.kd (.sl .byte)).wf a.2.1 → qcS a.1 a.2.1 (fun o0 => o0 = true)) := by kernel_rfl
theorem qiD : qbX.valid Try.prog 4 := qaz (X := qfk) (qaV qat (fun b hb => by cases hb; exact qay) qaA ⟨qlS, qgW, qrC, qpY, qqx, ql4, ql7, trivial⟩) 200 (qhR.mpr fun a hp w_0 w_1 => @qhS a.1 a.2.1 w_0 w_1)
end Go.Proofs.Ytmjjkpiglbpkhaa

set_option linter.unusedVariables false
namespace Go.Proofs.Ytmjjkpiglbpkhaa
open Go Go.RowKit Go.Inc Go.ChangeShapes Go.WideShapes Go.ChangeAt
theorem qsQ {H : Type} (d : DataW H) : 1 ≤ Rows.uptoBulk d := by
 cases d with
 | lit l => cases l <;> simp [Rows.uptoBulk]
 | nil => simp [Rows.uptoBulk]
 | ptr d => simp [Rows.uptoBulk]
 | slice elems spare => simp [Rows.uptoBulk]
 | agg parts => simp [Rows.uptoBulk]
 | iface t d => simp [Rows.uptoBulk]
 | map entries => simp [Rows.uptoBulk]
 | held h => simp [Rows.uptoBulk]
theorem qjs {H : Type} {d : DataW H} {l : List (DataW H)} (h : d ∈ l) : Rows.uptoBulk d ≤ Rows.uptoBulkAll l := by
 induction l with
 | nil => cases h
 | cons x r ih =>
   simp only [Rows.uptoBulkAll]
   cases List.mem_cons.1 h with
   | inl e => subst e; omega
   | inr e => have := ih e; omega
theorem qif {H : Type} (l : List (DataW H)) : l.length ≤ Rows.uptoBulkAll l := by
 induction l with
 | nil => simp [Rows.uptoBulkAll]
 | cons x r ih => have := qsQ x; simp only [Rows.uptoBulkAll, List.length_cons]; omega
theorem qpb {H : Type} {l : List (DataW H)} (hk : Rows.uptoSmall H l = true) : Rows.uptoBulkAll l ≤ 1048576 := by
 simpa [Rows.uptoSmall] using hk
def qdW (w : World) : Ghost := fun b => match w.heap[b]? with
 | some (.cells c t _) => some (t, c.toList)
 | _ => none
theorem Models.ofW (w : World) : Models w (qdW w) := fun b t l h => by
 unfold qdW at h
 split at h
 ·rename_i c t' fr hh
  cases h
  exact ⟨c, fr, hh, List.prefix_refl _⟩
 ·cases h
section
variable {P : Program} {α β : Type} {k : Kd α} {k' : Kd β} {t e : TypeId} {by_ : Nat} {S : α → Prop} {S' : β → Prop}
def sm0 {α : Type} : α → Prop := fun _ => True
def smL {α : Type} (S : α → Prop) : List α → Prop := fun l => l.length ≤ 1048576 ∧ ∀ x ∈ l, S x
def smP {α β : Type} (S : α → Prop) (T : β → Prop) : α × β → Prop := fun x => S x.1 ∧ T x.2
def Rds (P : Program) (t : TypeId) (k : Kd α) (S : α → Prop) : Prop := ∀ (H : Type) (enc : TypeId × Value → H) (w : World) (base : Nat) (held : Bool) (fuel : Nat) (cs : List Value) (x : DataW H × List MemPlace),
 DataW.trod enc P w base (fun _ => true) held fuel t cs = some x → Rows.uptoBulk x.1 ≤ 1048576 → ∃ a, k.R (qdW w) a cs ∧ S a
theorem qbT (h : TyOk P t k by_) : P.cellsOf t = k.sz := by
 obtain ⟨i, z, hi, hs, _⟩ := h.info
 simp [Program.cellsOf, hi, hs]
theorem qrc {ik : IntKind} (ht : P.underlying t = some (.int ik)) : Rds P t (Kd.int ik) sm0 := fun H enc w base held fuel cs x h hb => by
 obtain ⟨n, rfl, _, hw⟩ := DataW.trod_int ht h
 refine ⟨n, ⟨rfl, ?_⟩, trivial⟩
 simpa [Lit.wf] using hw
theorem qo4 (ht : P.underlying t = some (.int .u8)) : Rds P t Kd.byte sm0 := fun H enc w base held fuel cs x h hb => by
 obtain ⟨n, rfl, _, hw⟩ := DataW.trod_int ht h
 have hw : 0 ≤ n ∧ n ≤ 255 := by simpa [Lit.wf, IntKind.min, IntKind.max, IntKind.signed, IntKind.bits] using hw
 refine ⟨UInt8.ofNat n.toNat, ?_, trivial⟩
 show [Value.int .u8 n] = [.int .u8 _]
 congr 2
 have : (UInt8.ofNat n.toNat).toNat = n.toNat := by simp; omega
 omega
theorem qfG {w : World} {base n : Nat} {a : Addr} {cs : List Value} (h : w.cells? base a n = some cs) (hn : 0 < n) :
 a.spot = none ∧ ∃ e l, qdW w a.block = some (e, l) ∧ a.off + n ≤ l.length ∧ (l.drop a.off).take n = cs := by
 unfold World.cells? at h
 split at h
 case isFalse => cases h
 case isTrue hb =>
 have hl := mapM_some_length h
 have hg := fun i (hi : i < n) => mapM_some_get h i i (by simp [hi])
 have h0 := hg 0 hn
 have hc0 : 0 < cs.length := by rw [hl]; simpa using hn
 rw [List.getElem?_eq_getElem hc0] at h0
 unfold World.cell? at h0
 have ea : ∀ i, (a.add i).block = a.block := fun i => by unfold Addr.add; split <;> rfl
 have eo : ∀ i, (a.add i).off = a.off + i := fun i => by unfold Addr.add; split <;> simp_all
 have ha0 : a.add 0 = a := by simp [Addr.add]
 rw [ha0] at h0
 cases hh : w.heap[a.block]? with
 | none => rw [hh] at h0; cases h0
 | some o =>
   rw [hh] at h0
   cases o with
   | cells c e fr =>
     simp only at h0
     split at h0
     ·cases h0
     ·rename_i hs
      have hs : a.spot = none := by simpa using hs
      refine ⟨hs, e, c.toList, by simp [qdW, hh], ?_⟩
      have hgc : ∀ i, i < n → c[a.off + i]? = cs[i]? := fun i hi => by
       have := hg i hi
       unfold World.cell? at this
       rw [ea, eo, hh] at this
       have hs' : (a.add i).spot.isSome = false := by unfold Addr.add; split <;> simp_all
       simpa [hs'] using this
      have hlen : cs.length = n := by rw [hl]; simp
      have hbound : a.off + n ≤ c.toList.length := by
       have h1 := hgc (n - 1) (by omega)
       rw [List.getElem?_eq_getElem (by omega)] at h1
       have := (Array.getElem?_eq_some_iff.1 h1).1
       simp only [Array.length_toList]
       omega
      refine ⟨hbound, ?_⟩
      apply List.ext_getElem?
      intro i
      rcases Nat.lt_or_ge i n with hi | hi
      ·rw [List.getElem?_take, if_pos hi, List.getElem?_drop, ← hgc i hi]
       simp
      ·rw [List.getElem?_take, if_neg (by omega), List.getElem?_eq_none (by omega)]
   | _ => simp at h0
theorem qiN {R : α → List Value → Prop} : ∀ (n : Nat) (f : Nat → List Value), (∀ i, i < n → ∃ a, R a (f i) ∧ S a) → ∃ l, l.length = n ∧ RL R l ((List.range n).map f).flatten ∧ ∀ x ∈ l, S x
 | 0, f, _ => ⟨[], rfl, by simp [RL], by simp⟩
 | n + 1, f, h => by
   obtain ⟨l, hl, hR, hS⟩ := qiN n f (fun i hi => h i (by omega))
   obtain ⟨a, ha, hs⟩ := h n (by omega)
   refine ⟨l ++ [a], by simp [hl], ?_, fun x hx => (List.mem_append.1 hx).elim (hS x) (fun h => by rw [List.mem_singleton.1 h]; exact hs)⟩
   rw [List.range_succ]
   simp only [List.map_append, List.map_cons, List.map_nil, List.flatten_append, List.flatten_cons, List.flatten_nil, List.append_nil]
   exact RL.append hR (RL.single ha)
theorem qeH (s : Nat) : ∀ (n : Nat) (l : List Value), n * s ≤ l.length → ((List.range n).map fun i => (l.drop (i * s)).take s).flatten = l.take (n * s)
 | 0, l, _ => by simp
 | n + 1, l, h => by
   have e : (n + 1) * s = n * s + s := Nat.succ_mul n s
   rw [List.range_succ]
   simp only [List.map_append, List.map_cons, List.map_nil, List.flatten_append, List.flatten_cons, List.flatten_nil, List.append_nil]
   rw [qeH s n l (by omega), e, List.take_add]
theorem qsT (ht : P.underlying t = some (.slice e)) (hT : TyOk P e k by_) (h0 : Nat.blt 0 k.sz = true) (hR : Rds P e k S) : Rds P t (Kd.sl k) (smL S) := fun H enc w base held fuel cs x h hb => by
 have h0 : 0 < k.sz := Nat.le_of_ble_eq_true h0
 rcases DataW.trod_slice ht h with ⟨rfl, rfl⟩ | ⟨a, len, cap, elems, rest, n, _, rfl, rfl, hbs, hl, hm, hlen, hel, _, _⟩
 ·exact ⟨[], ⟨none, 0, rfl, by simp, by simp [LM], by simp, .inl rfl⟩, by simp, by simp⟩
 ·rw [qbT hT] at hel
  have hbulk : elems.length ≤ 1048576 := by
   have := qif (elems.map (·.1))
   simp only [Rows.uptoBulk, List.length_map] at hb this
   omega
  have hparts : ∀ i, i < len → ∃ cs' y, w.cells? base (a.add (i * k.sz)) k.sz = some cs' ∧ DataW.trod enc P w base (fun _ => true) held n e cs' = some y ∧ Rows.uptoBulk y.1 ≤ 1048576 := fun i hi => by
   have h1 := hel i hi
   rw [List.getElem?_eq_getElem (by omega)] at h1
   obtain ⟨cs', h2, h3⟩ := Option.bind_eq_some_iff.1 h1
   refine ⟨cs', _, h2, h3, ?_⟩
   have := qjs (l := elems.map (·.1)) (d := (elems[i]'(by omega)).1) (List.mem_map.2 ⟨_, List.getElem_mem _, rfl⟩)
   simp only [Rows.uptoBulk] at hb
   omega
  rcases Nat.eq_zero_or_pos len with hz | hp
  ·exact ⟨[], ⟨some a, cap, by simp [hz], by simp, by simp [LM], by simp, .inl rfl⟩, by simp, by simp⟩
  ·obtain ⟨cs0, y0, hc0, _, _⟩ := hparts 0 hp
   rw [Nat.zero_mul, show a.add 0 = a by simp [Addr.add]] at hc0
   obtain ⟨hs, e', l, hg, _, _⟩ := qfG hc0 h0
   have ea : a = ⟨a.block, a.off, none⟩ := by cases a; simp_all
   have key : ∀ i, i < len → a.off + i * k.sz + k.sz ≤ l.length ∧ w.cells? base (a.add (i * k.sz)) k.sz = some (((l.drop a.off).drop (i * k.sz)).take k.sz) := fun i hi => by
    obtain ⟨cs', y, hc, _, _⟩ := hparts i hi
    obtain ⟨_, e2, l2, hg2, hle, htk⟩ := qfG hc h0
    rw [ea, qbf] at hg2 hle htk
    simp only at hg2 hle htk
    rw [hg] at hg2
    cases hg2
    refine ⟨hle, ?_⟩
    rw [hc, List.drop_drop, ← htk]
   have hlast := (key (len - 1) (by omega)).1
   have hall : a.off + len * k.sz ≤ l.length := by
    have : len * k.sz = (len - 1) * k.sz + k.sz := by
     conv => lhs; rw [show len = (len - 1) + 1 by omega]
     exact Nat.succ_mul _ _
    omega
   obtain ⟨xs, hxl, hxR, hxS⟩ := qiN (S := S) (R := k.R (qdW w)) len (fun i => ((l.drop a.off).drop (i * k.sz)).take k.sz) (fun i hi => by
    obtain ⟨cs', y, hc, ht', hb'⟩ := hparts i hi
    rw [(key i hi).2] at hc
    cases hc
    exact hR _ _ _ _ _ _ _ _ ht' hb')
   rw [qeH k.sz len (l.drop a.off) (by rw [List.length_drop]; omega)] at hxR
   refine ⟨xs, ⟨some a, cap, by rw [hxl], by omega, by simp only [LM]; omega, fun x hx => ?_, .inr ⟨a.block, e', l.take a.off, (l.drop a.off).take (len * k.sz), (l.drop a.off).drop (len * k.sz), ?_, ?_, hxR⟩⟩, by omega, hxS⟩
   ·exact RL.all (p := k.wf) (fun _ _ => k.hwf) hxR x hx
   ·rw [List.length_take, Nat.min_eq_left (by omega)]
    exact congrArg some ea
   ·rw [hg, List.append_assoc, List.take_append_drop, List.take_append_drop]
theorem qrb {n by_' : Nat} (ht : P.underlying t = some (.array n e)) (hT : TyOk P e k by_) (hT' : TyOk P t (Kd.arr n k) by_') (hR : Rds P e k S) : Rds P t (Kd.arr n k) (smL S) := fun H enc w base held fuel cs x h hb => by
 obtain ⟨xs, m, _, rfl, hlen, hxl, hx⟩ := DataW.trod_array ht h
 rw [qbT hT] at hx
 rw [qbT hT'] at hlen
 have hlen : cs.length = n * k.sz := hlen
 obtain ⟨l, hl, hlR, hlS⟩ := qiN (S := S) (R := k.R (qdW w)) n (fun i => (cs.drop (i * k.sz)).take k.sz) (fun i hi => by
  have h1 := hx i hi
  rw [List.getElem?_eq_getElem (by omega)] at h1
  refine hR _ _ _ _ _ _ _ _ h1 ?_
  have := qjs (l := xs.map (·.1)) (d := (xs[i]'(by omega)).1) (List.mem_map.2 ⟨_, List.getElem_mem _, rfl⟩)
  simp only [Rows.uptoBulk] at hb
  omega)
 rw [qeH k.sz n cs (by omega), List.take_of_length_le (by omega)] at hlR
 have hbulk : xs.length ≤ 1048576 := by
  have := qif (xs.map (·.1))
  simp only [Rows.uptoBulk, List.length_map] at hb this
  omega
 exact ⟨l, ⟨hl, hlR⟩, by omega, hlS⟩
def RdsF (P : Program) (fs : List Field) (off : Nat) (k : Kd α) (S : α → Prop) : Prop := ∀ (H : Type) (enc : TypeId × Value → H) (w : World) (base : Nat) (held : Bool) (fuel : Nat) (cs : List Value),
 (∀ f ∈ fs, ∃ x : DataW H × List MemPlace, DataW.trod enc P w base (fun _ => true) held fuel f.type ((cs.drop f.offset).take (P.cellsOf f.type)) = some x ∧ Rows.uptoBulk x.1 ≤ 1048576) → ∃ a, k.R (qdW w) a ((cs.drop off).take k.sz) ∧ S a
theorem qo3 {f : Field} {off : Nat} (hT : TyOk P f.type k by_) (ho : Nat.beq f.offset off = true) (hR : Rds P f.type k S) : RdsF P [f] off k S := fun H enc w base held fuel cs h => by
 obtain ⟨x, h1, h2⟩ := h f (.head _)
 rw [Nat.eq_of_beq_eq_true ho, qbT hT] at h1
 exact hR _ _ _ _ _ _ _ _ h1 h2
theorem qc4 {fs : List Field} {f : Field} {off : Nat} (hT : TyOk P f.type k by_) (ho : Nat.beq f.offset off = true) (hR : Rds P f.type k S) (hF : RdsF P fs (off + k.sz) k' S') : RdsF P (f :: fs) off (Kd.pr k k') (smP S S') := fun H enc w base held fuel cs h => by
 obtain ⟨b, hb, hbS⟩ := hF H enc w base held fuel cs (fun f hf => h f (.tail _ hf))
 obtain ⟨x, h1, h2⟩ := h f (.head _)
 rw [Nat.eq_of_beq_eq_true ho, qbT hT] at h1
 obtain ⟨a, ha, haS⟩ := hR _ _ _ _ _ _ _ _ h1 h2
 refine ⟨(a, b), ⟨_, _, ?_, ha, hb⟩, haS, hbS⟩
 show (cs.drop off).take (k.sz + k'.sz) = _
 rw [List.take_add, List.drop_drop]
theorem qkZ {fs : Array Field} (ht : P.underlying t = some (.struct fs)) (hT : TyOk P t k by_) (hF : RdsF P fs.toList 0 k S) : Rds P t k S := fun H enc w base held fuel cs x h hb => by
 obtain ⟨xs, n, _, rfl, hlen, hxl, hx⟩ := DataW.trod_struct ht h
 rw [qbT hT] at hlen
 obtain ⟨a, ha, haS⟩ := hF H enc w base held n cs (fun f hf => by
  obtain ⟨i, hi, rfl⟩ := List.getElem_of_mem hf
  have hi' : i < fs.size := by simpa using hi
  have h1 := hx i fs[i] (by simp [hi'])
  rw [List.getElem?_eq_getElem (by omega)] at h1
  refine ⟨xs[i]'(by omega), by simpa using h1, ?_⟩
  have := qjs (l := xs.map (·.1)) (d := (xs[i]'(by omega)).1) (List.mem_map.2 ⟨_, List.getElem_mem _, rfl⟩)
  simp only [Rows.uptoBulk] at hb
  omega)
 rw [List.drop_zero, List.take_of_length_le (by omega)] at ha
 exact ⟨a, ha, haS⟩
theorem qkk {H : Type} {enc : TypeId × Value → H} {w : World} {r : Reach} {b0 base : Nat} {held : Bool} {v : Value} {d : DataW H} {ps : List MemPlace} (hR : Rds P t k S) (hT : TyOk P t k by_)
 (hval : Value.okWide P w r b0 t v) (h : DataW.Trod enc P w base (fun _ => true) held t v d ps) (hb : Rows.uptoBulk d ≤ 1048576) : ∃ a, k.V (qdW w) a v ∧ S a := by
 obtain ⟨fuel, h⟩ := h
 obtain ⟨a, ha, haS⟩ := hR _ _ _ _ _ _ _ _ h hb
 refine ⟨a, ⟨v.cells.toList, ha, ?_⟩, haS⟩
 obtain ⟨dd, hd, hagg⟩ := hT.desc
 unfold Value.okWide at hval
 rw [hd] at hval
 cases hk : k.agg with
 | true =>
   rw [hk] at hagg
   have : ∃ cs, v = .agg cs := by
    cases dd <;> first | (cases hagg; done) | (obtain ⟨cs, rfl, _⟩ := hval; exact ⟨cs, rfl⟩)
   obtain ⟨cs, rfl⟩ := this
   simp [Value.cells]
 | false =>
   have hlen := k.len ha
   rw [k.hs hk] at hlen
   have hna : ∀ cs, v ≠ .agg cs := fun cs e => by
    subst e
    rw [hk] at hagg
    cases dd <;> first | (cases hagg; done) | (simp [Cell.okWide, hd, Cell.ok] at hval)
   cases v <;> first | rfl | exact absurd rfl (hna _)
end
section
variable {H : Type} {enc : TypeId × Value → H} {P : Program}
theorem qod {w w' : World} {K K' : Ghost} (h : Ext NX w K w' K') : Below w.heap.size w w' := ⟨h.os, h.tape, h.output, h.size, fun b hb => h.heap b hb (fun x => x)⟩
theorem qeY {W W' : World} {sp : Nat → Bool} (hl : laidOutB P = true) (hb : Below W.heap.size W W') : ∀ {ts : List TypeId} {vs : List Value} {ds : List (DataW H)} {ps : List MemPlace},
 (ts.all fun t => P.readableRec t && decide (t < P.types.size)) = true → DataW.TrodAll enc P W 0 (fun _ => true) true ts vs ds ps → (∀ p ∈ ps, p.block < W.heap.size) → (∀ p ∈ ps, sp p.block = true) → DataW.TrodAll enc P W' 0 sp true ts vs ds ps
 | [], [], [], ps, _, h, _, _ => h
 | t :: ts, v :: vs, d :: ds, ps, hr, ⟨p, q, h1, h2, e⟩, hlt, hs => by
   subst e
   simp only [List.all_cons, Bool.and_eq_true, decide_eq_true_eq] at hr
   exact ⟨p, q, WideElems.Trod_stays hl hr.1.1 hr.1.2 h1 (fun x hx => hb.same (hlt x (List.mem_append.2 (.inl hx)))) (fun x hx => hs x (List.mem_append.2 (.inl hx))),
    qeY hl hb (ts := ts) hr.2 h2 (fun x hx => hlt x (List.mem_append.2 (.inr hx))) (fun x hx => hs x (List.mem_append.2 (.inr hx))), rfl⟩
 | [], _ :: _, _, _, _, h, _, _ => h.elim
 | [], [], _ :: _, _, _, h, _, _ => h.elim
 | _ :: _, [], _, _, _, h, _, _ => h.elim
 | _ :: _, _ :: _, [], _, _, h, _, _ => h.elim
theorem qm8 {f : Func} {s : ChangeSpec} {apart fresh handsOn again : Bool} {W W' : World} {args : Array Value} {ds gs : List (DataW H)} {before : List MemPlace} {tb : TypeId}
 (hW : DataW.Whole enc P f.params.toList s.vars apart W args.toList ds gs before) (hl : laidOutB P = true) (hr : (f.params.toList.all fun t => P.readableRec t && decide (t < P.types.size)) = true)
 (hrt : f.resultTypes = #[tb]) (htb : P.underlying tb = some .bool) (hs : s.vars = []) (hv : (s.fn H (ds ++ gs)).vars = []) (hres : (s.fn H (ds ++ gs)).results = [.lit (.bool true)]) (hargs : (s.fn H (ds ++ gs)).args = ds)
 (hb : Below W.heap.size W W') : s.post enc P f apart fresh handsOn again W args (.bool true) W' := by
 have hlt : ∀ p ∈ before, p.block < W.heap.size := fun p hp => hW.lt p hp
 have hW' := hW
 obtain ⟨p, q, hA, hV, e, hz, hn⟩ := hW'
 rw [hs] at hV
 have hq : q = [] ∧ gs = [] := by
  cases gs with
  | nil => exact ⟨hV, rfl⟩
  | cons g r => exact hV.elim
 obtain ⟨rfl, rfl⟩ := hq
 rw [List.append_nil] at e
 subst e
 have ht : ∀ (b : Nat) (sp : Nat → Bool) (hd : Bool), DataW.TrodAll enc P W' b sp hd f.resultTypes.toList ((Value.bool true).resultList f.resultTypes.size) (s.fn H (ds ++ [])).results [] := fun b sp hd => by
  rw [hres, hrt]
  exact ⟨[], [], shut_bool htb _, rfl, rfl⟩
 have ha : ∀ sp : Nat → Bool, (∀ p ∈ before, sp p.block = true) → DataW.TrodAll enc P W' 0 sp true f.params.toList args.toList (s.fn H (ds ++ [])).args before := fun sp hsp => by
  rw [hargs]
  exact qeY hl hb hr hA hlt hsp
 have hvs : ∀ sp : Nat → Bool, DataW.TrodVars enc P W' sp s.vars (s.fn H (ds ++ [])).vars [] := fun sp => by
  rw [hs, hv]
  rfl
 have hold : ∀ p ∈ before, (fun b => decide (b < W.heap.size)) p.block = true := fun p hp => by simpa using hlt p hp
 refine ⟨ds, [], before, [], before, [], hW, ht _ _ _, ha _ hold, hvs _, World.keptBut_mono (fun p hp => ⟨hp, ?_⟩) (hb.frame (· ∈ before)), fun _ => ?_⟩
 ·exact Or.inr (by simpa using hp)
 ·refine ⟨?_, _, _, ([] ++ before) ++ [], ⟨[] ++ before, [], trodAll_append (ha _ (fun _ _ => rfl)) (ht _ _ _), hvs _, rfl, ?_, ?_⟩, ?_⟩
  ·exact ok_one hrt rfl (okWide_bool_mk htb _)
  ·intro b off hp
   have hin : MemPlace.cell b off ∈ before := by simpa using hp
   rw [hb.frozen (hlt _ hin)]
   exact hz b off hin
  ·intro hap
   simpa using hn hap
  ·intro p hp _
   simpa using hp
end
end Go.Proofs.Ytmjjkpiglbpkhaa
