/- G2, K3, S4, P12, P13, S5. -/
import Derived.Test.YtkffegaofdpkiaaM4
import Derived.Test.YtkffegaofdpkiaaChecked
/- Functions in the old form: what a call must answer for (_VC), that it does (_ok), the walk through its code (_walk), its contract (_c). -/
set_option linter.unusedVariables false
set_option maxRecDepth 100000
set_option maxHeartbeats 2000000
namespace Go.Proofs.Ytkffegaofdpkiaa
open Go Go.RowKit Go.Inc
theorem ty3 : TyOk Try.prog 3 (Kd.int .i64) 8 := ⟨⟨Try.t3, _, Try.type3, rfl, rfl, rfl, rfl, rfl⟩, ⟨_, Try.underlying3, rfl⟩⟩
abbrev kd_a32_u8 : Kd (List UInt8) := (Kd.arr 32 Kd.byte)
abbrev kd_Sseal_note : Kd ((List UInt8) × (List UInt8)) := (Kd.pr kd_a32_u8 kd_l_u8)
theorem ty31 : TyOk Try.prog 31 kd_a32_u8 32 := ⟨⟨Try.t31, _, Try.type31, rfl, rfl, rfl, rfl, rfl⟩, ⟨_, Try.underlying31, rfl⟩⟩
def hasOne_VC (a0_x : ((List UInt8) × (List UInt8))) (a1_x : (List UInt8)) (a2_x : (List UInt8)) (Q : Bool → Prop) : Prop :=
  Q (decide ((a0_x.1 = a1_x) ∧ (a0_x.2 = a2_x)))
theorem hasOne_ok {a0_x : ((List UInt8) × (List UInt8))} {a1_x : (List UInt8)} {a2_x : (List UInt8)} (w_0 : kd_Sseal_note.wf a0_x) (w_1 : kd_a32_u8.wf a1_x) (w_2 : kd_l_u8.wf a2_x) : hasOne_VC a0_x a1_x a2_x (fun o0 => o0 = decide (a0_x.1 = a1_x ∧ a0_x.2 = a2_x)) := by
  show decide _ = decide _
  simp

theorem hasOne_walk {w0 : World} {K0 : Ghost} {a0_x_v : Value} {a0_x : ((List UInt8) × (List UInt8))} {a1_x_b : Nat} {a1_x_pre a1_x_post : List Value} {a1_x : (List UInt8)} {a2_x_b : Nat} {a2_x_pre a2_x_post : List Value} {a2_x : (List UInt8)} {Q : Bool → Prop} (hM0 : Models w0 K0) (h_a0_x : kd_Sseal_note.V K0 a0_x a0_x_v) (h_a1_x_B : Bx kd_a32_u8 w0 K0 a1_x_b a1_x_pre a1_x_post a1_x) (h_a2_x_B : Bx kd_l_u8 w0 K0 a2_x_b a2_x_pre a2_x_post a2_x) (hsp2_3 : ¬ (a1_x_b = a2_x_b)) (h : hasOne_VC a0_x a1_x a2_x Q) : Calls Try.prog 75 #[a0_x_v, (.pointer (some ⟨a1_x_b, a1_x_pre.length, none⟩)), (.pointer (some ⟨a2_x_b, a2_x_pre.length, none⟩))] w0 (fun e w' => ∃ (K' : Ghost) (r0 : Value) (o0 : Bool), e = .returned r0 ∧ Q o0 ∧ Ext NX w0 K0 w' K' ∧ Models w' K' ∧ Kd.bool.V K' o0 r0) := by
  unfold hasOne_VC at h
  have hE0 : Ext NX w0 K0 w0 K0 := Ext.refl _ _ _
  refine calls_gen fun R hR => ?_
  refine calls_env (args := [a0_x_v, (.pointer (some ⟨a1_x_b, a1_x_pre.length, none⟩)), (.pointer (some ⟨a2_x_b, a2_x_pre.length, none⟩))]) Try.func75 rfl (Nat.le_of_ble_eq_true rfl) ?_
  refine WP_seq ?_
  refine WP_region ?_
  refine WL_eff rfl rfl (St_B (S_box hM0 rfl h_a0_x) ?_)
  rintro b4 w4 (hB4 : Bx kd_Sseal_note _ _ _ _ _ a0_x) hS4 hM4 hge4
  have hE4 := hE0.andN hS4
  refine WL_pure (.bool false) (R_as rfl) rfl rfl ?_
  refine WL_nil ?_
  refine WP_seq ?_
  refine WP_own (K := K0) NX [.o 0 2, .o 1 2, .o 2 2, .o 3 2, .o 4 2, .o 5 2, .o 6 2, .o 7 2, .o 8 0, .o 9 2, .o 10 2] (by kernel_rfl) hM4 ?_
  refine WO_pure (.pointer (some ⟨b4, 0 + 0, none⟩)) rfl l0 hM4 (fun _ => R_fa rfl Try.underlying80 rfl rfl ty31 rfl) rfl (gN rfl) rfl ?_
  refine WO_L0 hM4 (S_ldB (Foc.fst kd_a32_u8 kd_l_u8) rfl ty31 hB4 (by first | rfl | simp | omega) (fun h => h)) rfl (gN rfl) rfl ?_
  rintro v6 (hV6 : kd_a32_u8.V _ a0_x.1 _)
  have hR9 := (h_a1_x_B.extN hS4)
  refine WO_L0 hM4 (S_ldB (Foc.id _) rfl ty31 hR9 (by first | rfl | simp | omega) (fun h => h)) rfl (gN rfl) rfl ?_
  rintro v8 (hV8 : kd_a32_u8.V _ a1_x _)
  refine WO_pure (.bool (decide (a0_x.1 = a1_x))) rfl l0 hM4 (fun _ => R_aeql rfl rfl hV6 hV8 Try.underlying31 Try.underlying5 ty5b (by kernel_rfl)) rfl (gN rfl) rfl ?_
  refine WO_pure (.bool (decide (a0_x.1 = a1_x))) rfl l0 hM4 (fun _ => R_mv rfl) rfl (gN rfl) rfl ?_
  refine WO_meet (al := true) (l1 := [.o 5 2, .o 6 2, .o 7 2, .o 8 0, .o 9 2]) [10, 11, 12, 13, 14] NX (fun l w K => l = [(14, (.bool (decide ((a0_x.1 = a1_x) ∧ (a0_x.2 = a2_x)))))] ∧ Ext NX w4 K0 w K ∧ Models w K) ?_ ?_
  · rcases Classical.em (a0_x.1 = a1_x) with hp11 | hp11
    · skip
      refine WO_pure (.pointer (some ⟨b4, 0 + 32, none⟩)) rfl l0 hM4 (fun _ => R_fa rfl Try.underlying80 rfl rfl ty55 rfl) rfl (gY rfl rfl rfl (decide_eq_true hp11)) rfl ?_
      refine WO_L0 hM4 (S_ldB (Foc.snd kd_a32_u8 kd_l_u8) rfl ty55 hB4 (by first | rfl | simp | omega) (fun h => h)) rfl (gY rfl rfl rfl (decide_eq_true hp11)) rfl ?_
      rintro v12 (hV12 : kd_l_u8.V _ a0_x.2 _)
      have hR15 := (h_a2_x_B.extN hS4)
      refine WO_L0 hM4 (S_ldB (Foc.id _) rfl ty55 hR15 (by first | rfl | simp | omega) (fun h => h)) rfl (gY rfl rfl rfl (decide_eq_true hp11)) rfl ?_
      rintro v14 (hV14 : kd_l_u8.V _ a2_x _)
      refine WO_eff0 rfl (gY rfl rfl rfl (decide_eq_true hp11)) rfl (St_call (R_call Try.call58 rfl) ((Equal_c hM4 hV12 hV14).mono ?_))
      rintro _ w17 ⟨K17, v17_0, rfl, hS17, hM17, hV17_0⟩
      refine ⟨v17_0, rfl, ?_⟩
      refine ⟨K17, hS17, hM17, ?_⟩
      have hE17 := hE4.andN hS17
      obtain rfl := bool_form hV17_0
      refine WO_pure (.bool (decide ((a0_x.1 = a1_x) ∧ (a0_x.2 = a2_x)))) rfl l0 hM17 (fun _ => R_pick1 rfl (decide_eq_true hp11) rfl (and_T hp11)) rfl (gN rfl) rfl ?_
      exact WO_end [(14, (.bool (decide ((a0_x.1 = a1_x) ∧ (a0_x.2 = a2_x)))))] K17 rfl ⟨rfl, ((Ext.refl _ _ _).andN hS17), hM17⟩ (by repeat (first | exact Off.refl _ _ | refine Off.updO ?_ rfl _ | refine Off.updN ?_ _ | refine Off.lay ?_ rfl)) ⟨rfl, trivial⟩
    · skip
      refine WO_skip _ hM4 l0 rfl (gF rfl rfl rfl (decide_eq_false hp11)) rfl ?_
      refine WO_skip _ hM4 l0 rfl (gF rfl rfl rfl (decide_eq_false hp11)) rfl ?_
      refine WO_skip _ hM4 l0 rfl (gF rfl rfl rfl (decide_eq_false hp11)) rfl ?_
      refine WO_skip _ hM4 l0 rfl (gF rfl rfl rfl (decide_eq_false hp11)) rfl ?_
      refine WO_pure (.bool (decide ((a0_x.1 = a1_x) ∧ (a0_x.2 = a2_x)))) rfl l0 hM4 (fun _ => R_pick2 rfl (decide_eq_false hp11) rfl (and_F hp11)) rfl (gN rfl) rfl ?_
      exact WO_end [(14, (.bool (decide ((a0_x.1 = a1_x) ∧ (a0_x.2 = a2_x)))))] K0 rfl ⟨rfl, (Ext.refl _ _ _), hM4⟩ (by repeat (first | exact Off.refl _ _ | refine Off.updO ?_ rfl _ | refine Off.updN ?_ _ | refine Off.lay ?_ rfl)) ⟨rfl, trivial⟩
  rintro l σ18 w18 K18 ⟨rfl, hS18, hM18⟩
  have hE18 := hE4.andN hS18
  refine WO_pure (.bool (decide ((a0_x.1 = a1_x) ∧ (a0_x.2 = a2_x)))) rfl l0 hM18 (fun _ => R_as rfl) rfl (gN rfl) rfl ?_
  refine WO_nil ?_
  refine WP_ret ?_
  exact endR_ret hR (v := (.bool (decide ((a0_x.1 = a1_x) ∧ (a0_x.2 = a2_x))))) (resE_1 rfl rfl) ⟨K18, (.bool (decide ((a0_x.1 = a1_x) ∧ (a0_x.2 = a2_x)))), (decide ((a0_x.1 = a1_x) ∧ (a0_x.2 = a2_x))), rfl, h, hE18, hM18, bool_V⟩
theorem hasOne_c {w0 : World} {K0 : Ghost} {a0_x_v : Value} {a0_x : ((List UInt8) × (List UInt8))} {a1_x_b : Nat} {a1_x_pre a1_x_post : List Value} {a1_x : (List UInt8)} {a2_x_b : Nat} {a2_x_pre a2_x_post : List Value} {a2_x : (List UInt8)} (hM0 : Models w0 K0) (h_a0_x : kd_Sseal_note.V K0 a0_x a0_x_v) (h_a1_x_B : Bx kd_a32_u8 w0 K0 a1_x_b a1_x_pre a1_x_post a1_x) (h_a2_x_B : Bx kd_l_u8 w0 K0 a2_x_b a2_x_pre a2_x_post a2_x) (hsp2_3 : ¬ (a1_x_b = a2_x_b)) : Calls Try.prog 75 #[a0_x_v, (.pointer (some ⟨a1_x_b, a1_x_pre.length, none⟩)), (.pointer (some ⟨a2_x_b, a2_x_pre.length, none⟩))] w0 (fun e w' => ∃ (K' : Ghost) (r0 : Value), e = .returned r0 ∧ Ext NX w0 K0 w' K' ∧ Models w' K' ∧ Kd.bool.V K' (decide (a0_x.1 = a1_x ∧ a0_x.2 = a2_x)) r0) := by
  refine (hasOne_walk hM0 h_a0_x h_a1_x_B h_a2_x_B hsp2_3 (hasOne_ok h_a0_x.wf h_a1_x_B.wf h_a2_x_B.wf)).mono ?_
  rintro _ w' ⟨K', r0, o0, rfl, rfl, hF⟩
  exact ⟨K', r0, rfl, hF⟩
abbrev kd_l_Sseal_note : Kd (List ((List UInt8) × (List UInt8))) := (Kd.sl kd_Sseal_note)
theorem ty80 : TyOk Try.prog 80 kd_Sseal_note 56 := ⟨⟨Try.t80, _, Try.type80, rfl, rfl, rfl, rfl, rfl⟩, ⟨_, Try.underlying80, rfl⟩⟩
def IndexNote_VC (a0_s : (List ((List UInt8) × (List UInt8)))) (a1_f_0 : (List UInt8)) (a1_f_1 : (List UInt8)) (Q : Int → Prop) : Prop :=
  ∃ (I4 : Int → Int → Prop) (μ4 : Int → Int → Nat), I4 0 0 ∧ ∀ (i4 : Int) (i4' : Int), I4 i4 i4' → ((Kd.int .i64).wf i4) → ((Kd.int .i64).wf i4') → (((i4' < (a0_s.length : Int)) → (0 ≤ i4' ∧ i4' < (a0_s.length : Int)) ∧ ((((ix a0_s i4').1 = a1_f_0 ∧ (ix a0_s i4').2 = a1_f_1) → Q i4') ∧ ((¬ ((ix a0_s i4').1 = a1_f_0 ∧ (ix a0_s i4').2 = a1_f_1)) → I4 i4 (i4' + 1) ∧ μ4 i4 (i4' + 1) < μ4 i4 i4'))) ∧ ((¬ (i4' < (a0_s.length : Int))) → Q (-1)))
theorem IndexNote_ok {a0_s : (List ((List UInt8) × (List UInt8)))} {a1_f_0 : (List UInt8)} {a1_f_1 : (List UInt8)} (w_0 : kd_l_Sseal_note.wf a0_s) : IndexNote_VC a0_s a1_f_0 a1_f_1 (fun o0 => o0 = (noteIx a1_f_0 a1_f_1 a0_s 0)) := by
  unfold IndexNote_VC
  refine ⟨fun _ i => ∃ j : Nat, i = (j : Int) ∧ j ≤ a0_s.length ∧ noteIx a1_f_0 a1_f_1 a0_s 0 = noteIx a1_f_0 a1_f_1 (a0_s.drop j) (j : Int), fun _ i => a0_s.length - i.toNat, ⟨0, rfl, by omega, by simp⟩, ?_⟩
  rintro _ i ⟨j, rfl, hj, he⟩ _ _
  refine ⟨fun hlt => ⟨⟨by omega, hlt⟩, fun h => ?_, fun h => ⟨⟨j + 1, by omega, by omega, ?_⟩, ?_⟩⟩, fun hge => ?_⟩
  · rw [noteIx_drop hlt, if_pos (h)] at he
    exact he.symm
  · rw [noteIx_drop hlt, if_neg (h)] at he
    rw [he]
    congr 1
  · show a0_s.length - ((j : Int) + 1).toNat < a0_s.length - (j : Int).toNat
    omega
  · have : j = a0_s.length := by omega
    subst this
    rw [List.drop_length] at he
    exact he.symm

theorem IndexNote_walk {w0 : World} {K0 : Ghost} {a0_s_v : Value} {a0_s : (List ((List UInt8) × (List UInt8)))} {a1_f_0_b : Nat} {a1_f_0_pre a1_f_0_post : List Value} {a1_f_0 : (List UInt8)} {a1_f_1_b : Nat} {a1_f_1_pre a1_f_1_post : List Value} {a1_f_1 : (List UInt8)} {Q : Int → Prop} (hM0 : Models w0 K0) (h_a0_s : kd_l_Sseal_note.V K0 a0_s a0_s_v) (h_a1_f_0_B : Bx kd_a32_u8 w0 K0 a1_f_0_b a1_f_0_pre a1_f_0_post a1_f_0) (h_a1_f_1_B : Bx kd_l_u8 w0 K0 a1_f_1_b a1_f_1_pre a1_f_1_post a1_f_1) (hsp2_3 : ¬ (a1_f_0_b = a1_f_1_b)) (h : IndexNote_VC a0_s a1_f_0 a1_f_1 Q) : Calls Try.prog 85 #[a0_s_v, (.func (.func 75) #[] #[(.pointer (some ⟨a1_f_0_b, a1_f_0_pre.length, none⟩)), (.pointer (some ⟨a1_f_1_b, a1_f_1_pre.length, none⟩))])] w0 (fun e w' => ∃ (K' : Ghost) (r0 : Value) (o0 : Int), e = .returned r0 ∧ Q o0 ∧ Ext NX w0 K0 w' K' ∧ Models w' K' ∧ (Kd.int .i64).V K' o0 r0) := by
  unfold IndexNote_VC at h
  have hE0 : Ext NX w0 K0 w0 K0 := Ext.refl _ _ _
  refine calls_gen fun R hR => ?_
  refine calls_env (args := [a0_s_v, (.func (.func 75) #[] #[(.pointer (some ⟨a1_f_0_b, a1_f_0_pre.length, none⟩)), (.pointer (some ⟨a1_f_1_b, a1_f_1_pre.length, none⟩))])]) Try.func85 rfl (Nat.le_of_ble_eq_true rfl) ?_
  refine WP_seq ?_
  refine WP_region ?_
  refine WL_pure (.int .i64 0) (R_as rfl) rfl rfl ?_
  refine WL_nil ?_
  refine WP_seq ?_
  refine WP_seq ?_
  refine WP_region ?_
  refine WL_pure a0_s_v (R_mv rfl) rfl rfl ?_
  refine WL_pure (.int .i64 (a0_s.length : Int)) (R_len rfl h_a0_s Try.underlying38) rfl rfl ?_
  refine WL_pure (.int .i64 0) (R_mv rfl) rfl rfl ?_
  refine WL_nil ?_
  refine WP_block ?_
  obtain ⟨I4, μ4, h0, h⟩ := h
  refine WP_loopE (ι := Int × Int) [4, 5, 8, 9, 10, 11, 12, 13, 14, 15, 16, 17, 18] (fun s l w => ∃ K, I4 s.1 s.2 ∧ l = [(4, (.int .i64 s.1)), (8, (.int .i64 s.2))] ∧ Ext NX w0 K0 w K ∧ Models w K ∧ (Kd.int .i64).wf s.1 ∧ (Kd.int .i64).wf s.2) (fun s => μ4 s.1 s.2) (0, 0) [(4, (.int .i64 0)), (8, (.int .i64 0))]
    ⟨K0, h0, rfl, Ext.refl _ _ _, hM0, (show (Kd.int .i64).wf 0 from by constructor <;> decide), (show (Kd.int .i64).wf 0 from by constructor <;> decide)⟩ (by repeat (first | exact trivial | refine ⟨rfl, ?_⟩)) ?_
  rintro ⟨i4, i4'⟩ l σ4 w5 ⟨K5, hI, rfl, hX5, hM5, hw4_4, hw4_8⟩
  dsimp only at hI hw4_4 hw4_8
  have hE5 := hE0.andN hX5
  have h := h i4 i4' hI hw4_4 hw4_8
  refine WP_seq ?_
  refine WP_region ?_
  refine WL_pure (.bool (decide (i4' < (a0_s.length : Int)))) (R_lss rfl rfl) rfl rfl ?_
  refine WL_nil ?_
  refine WP_seq ?_
  refine WP_cond (decide (i4' < (a0_s.length : Int))) rfl (fun hc6 => ?_) (fun hc6 => ?_)
  · have hd6 : i4' < (a0_s.length : Int) := dec_t hc6
    have h := h.1 hd6
    refine WP_skip ?_
    refine WP_seq ?_
    refine WP_block ?_
    refine WP_seq ?_
    refine WP_region ?_
    refine WL_pure (.int .i64 i4') (R_mv rfl) rfl rfl ?_
    refine WL_pure (.int .i64 i4') (R_as rfl) rfl rfl ?_
    refine WL_nil ?_
    refine WP_seq ?_
    refine WP_region ?_
    refine WL_pure (.func (.func 75) #[] #[(.pointer (some ⟨a1_f_0_b, a1_f_0_pre.length, none⟩)), (.pointer (some ⟨a1_f_1_b, a1_f_1_pre.length, none⟩))]) (R_mv rfl) rfl rfl ?_
    refine WL_pure a0_s_v (R_mv rfl) rfl rfl ?_
    refine WL_pure (.int .i64 i4') (R_mv rfl) rfl rfl ?_
    obtain ⟨hp8, h⟩ := h
    refine WL_P (S_ixs rfl (h_a0_s.mono hX5.le) rfl Try.underlying38 ty80 hp8.1 hp8.2) rfl rfl ?_
    rintro b7 o7 hP7
    refine WL_L hM5 (S_ld rfl ty80 hP7) rfl rfl ?_
    rintro v10 (hV10 : kd_Sseal_note.V _ (ix a0_s i4') _)
    have hR12 := (h_a1_f_0_B.extN hX5)
    have hR13 := (h_a1_f_1_B.extN hX5)
    refine WL_eff rfl rfl (St_call (R_callv rfl Try.call75 rfl) ((hasOne_c hM5 hV10 hR12 hR13 hsp2_3).mono ?_))
    rintro _ w14 ⟨K14, v14_0, rfl, hS14, hM14, hV14_0⟩
    refine ⟨v14_0, rfl, ?_⟩
    have hE14 := hE5.andN hS14
    obtain rfl := bool_form hV14_0
    refine WL_nil ?_
    refine WP_cond (decide ((ix a0_s i4').1 = a1_f_0 ∧ (ix a0_s i4').2 = a1_f_1)) rfl (fun hc15 => ?_) (fun hc15 => ?_)
    · have hd15 : (ix a0_s i4').1 = a1_f_0 ∧ (ix a0_s i4').2 = a1_f_1 := dec_t hc15
      have h := h.1 hd15
      refine WP_seq ?_
      refine WP_region ?_
      refine WL_pure (.int .i64 i4') (R_mv rfl) rfl rfl ?_
      refine WL_pure (.int .i64 i4') (R_as rfl) rfl rfl ?_
      refine WL_nil ?_
      refine WP_ret ?_
      exact endR_ret hR (v := (.int .i64 i4')) (resE_1 rfl rfl) ⟨K14, (.int .i64 i4'), i4', rfl, h, hE14, hM14, (int_V hw4_8)⟩
    · have hd15 : ¬ ((ix a0_s i4').1 = a1_f_0 ∧ (ix a0_s i4').2 = a1_f_1) := dec_f hc15
      have h := h.2 hd15
      refine WP_skip ?_
      refine WP_region ?_
      refine WL_pure (.int .i64 (i4' + 1)) (R_inc rfl rfl hw4_8 hd6 (len_wf (h_a0_s).wf.1)) rfl rfl ?_
      refine WL_pure (.int .i64 (i4' + 1)) (R_mv rfl) rfl rfl ?_
      refine WL_nil ?_
      refine BackQ.mk (i4, (i4' + 1)) [(4, (.int .i64 i4)), (8, (.int .i64 (i4' + 1)))] ?_ ?_ ?_ ?_
      rotate_left
      · exact h.2
      · repeat (first | exact Off.lay0 rfl | refine Off.updO ?_ rfl _ | refine Off.updN ?_ _ | refine Off.lay ?_ rfl)
      · repeat (first | exact trivial | refine ⟨rfl, ?_⟩)
      exact ⟨K14, h.1, rfl, (((Ext.refl _ _ _).andN hX5).andN hS14), hM14, hw4_4, (inc_wf hw4_8 hd6 (len_wf (h_a0_s).wf.1))⟩
  · have hd6 : ¬ (i4' < (a0_s.length : Int)) := dec_f hc6
    have h := h.2 hd6
    refine WP_exit ?_
    refine WP_seq ?_
    refine WP_region ?_
    refine WL_pure (.int .i64 (-1)) (R_as rfl) rfl rfl ?_
    refine WL_nil ?_
    refine WP_ret ?_
    exact endR_ret hR (v := (.int .i64 (-1))) (resE_1 rfl rfl) ⟨K5, (.int .i64 (-1)), (-1), rfl, h, hE5, hM5, (int_V (show (Kd.int .i64).wf (-1) from by constructor <;> decide))⟩
theorem IndexNote_c {w0 : World} {K0 : Ghost} {a0_s_v : Value} {a0_s : (List ((List UInt8) × (List UInt8)))} {a1_f_0_b : Nat} {a1_f_0_pre a1_f_0_post : List Value} {a1_f_0 : (List UInt8)} {a1_f_1_b : Nat} {a1_f_1_pre a1_f_1_post : List Value} {a1_f_1 : (List UInt8)} (hM0 : Models w0 K0) (h_a0_s : kd_l_Sseal_note.V K0 a0_s a0_s_v) (h_a1_f_0_B : Bx kd_a32_u8 w0 K0 a1_f_0_b a1_f_0_pre a1_f_0_post a1_f_0) (h_a1_f_1_B : Bx kd_l_u8 w0 K0 a1_f_1_b a1_f_1_pre a1_f_1_post a1_f_1) (hsp2_3 : ¬ (a1_f_0_b = a1_f_1_b)) : Calls Try.prog 85 #[a0_s_v, (.func (.func 75) #[] #[(.pointer (some ⟨a1_f_0_b, a1_f_0_pre.length, none⟩)), (.pointer (some ⟨a1_f_1_b, a1_f_1_pre.length, none⟩))])] w0 (fun e w' => ∃ (K' : Ghost) (r0 : Value), e = .returned r0 ∧ Ext NX w0 K0 w' K' ∧ Models w' K' ∧ (Kd.int .i64).V K' (noteIx a1_f_0 a1_f_1 a0_s 0) r0) := by
  refine (IndexNote_walk hM0 h_a0_s h_a1_f_0_B h_a1_f_1_B hsp2_3 (IndexNote_ok h_a0_s.wf)).mono ?_
  rintro _ w' ⟨K', r0, o0, rfl, rfl, hF⟩
  exact ⟨K', r0, rfl, hF⟩
def HasNote_VC (a0_s : (List ((List UInt8) × (List UInt8)))) (a1_f_0 : (List UInt8)) (a1_f_1 : (List UInt8)) (Q : Bool → Prop) : Prop :=
  ((Kd.int .i64).wf (noteIx a1_f_0 a1_f_1 a0_s 0)) → (Q (decide (0 ≤ (noteIx a1_f_0 a1_f_1 a0_s 0))))
theorem HasNote_ok {a0_s : (List ((List UInt8) × (List UInt8)))} {a1_f_0 : (List UInt8)} {a1_f_1 : (List UInt8)} (w_0 : kd_l_Sseal_note.wf a0_s) : HasNote_VC a0_s a1_f_0 a1_f_1 (fun o0 => o0 = decide (0 ≤ noteIx a1_f_0 a1_f_1 a0_s 0)) := by
  exact fun _ => rfl

theorem HasNote_walk {w0 : World} {K0 : Ghost} {a0_s_v : Value} {a0_s : (List ((List UInt8) × (List UInt8)))} {a1_f_0_b : Nat} {a1_f_0_pre a1_f_0_post : List Value} {a1_f_0 : (List UInt8)} {a1_f_1_b : Nat} {a1_f_1_pre a1_f_1_post : List Value} {a1_f_1 : (List UInt8)} {Q : Bool → Prop} (hM0 : Models w0 K0) (h_a0_s : kd_l_Sseal_note.V K0 a0_s a0_s_v) (h_a1_f_0_B : Bx kd_a32_u8 w0 K0 a1_f_0_b a1_f_0_pre a1_f_0_post a1_f_0) (h_a1_f_1_B : Bx kd_l_u8 w0 K0 a1_f_1_b a1_f_1_pre a1_f_1_post a1_f_1) (hsp2_3 : ¬ (a1_f_0_b = a1_f_1_b)) (h : HasNote_VC a0_s a1_f_0 a1_f_1 Q) : Calls Try.prog 74 #[a0_s_v, (.func (.func 75) #[] #[(.pointer (some ⟨a1_f_0_b, a1_f_0_pre.length, none⟩)), (.pointer (some ⟨a1_f_1_b, a1_f_1_pre.length, none⟩))])] w0 (fun e w' => ∃ (K' : Ghost) (r0 : Value) (o0 : Bool), e = .returned r0 ∧ Q o0 ∧ Ext NX w0 K0 w' K' ∧ Models w' K' ∧ Kd.bool.V K' o0 r0) := by
  unfold HasNote_VC at h
  have hE0 : Ext NX w0 K0 w0 K0 := Ext.refl _ _ _
  refine calls_gen fun R hR => ?_
  refine calls_env (args := [a0_s_v, (.func (.func 75) #[] #[(.pointer (some ⟨a1_f_0_b, a1_f_0_pre.length, none⟩)), (.pointer (some ⟨a1_f_1_b, a1_f_1_pre.length, none⟩))])]) Try.func74 rfl (Nat.le_of_ble_eq_true rfl) ?_
  refine WP_seq ?_
  refine WP_region ?_
  refine WL_pure (.bool false) (R_as rfl) rfl rfl ?_
  refine WL_nil ?_
  refine WP_seq ?_
  refine WP_region ?_
  refine WL_pure a0_s_v (R_mv rfl) rfl rfl ?_
  refine WL_pure (.func (.func 75) #[] #[(.pointer (some ⟨a1_f_0_b, a1_f_0_pre.length, none⟩)), (.pointer (some ⟨a1_f_1_b, a1_f_1_pre.length, none⟩))]) (R_mv rfl) rfl rfl ?_
  refine WL_eff rfl rfl (St_call (R_call Try.call85 rfl) ((IndexNote_c hM0 h_a0_s h_a1_f_0_B h_a1_f_1_B hsp2_3).mono ?_))
  rintro _ w4 ⟨K4, v4_0, rfl, hS4, hM4, hV4_0⟩
  refine ⟨v4_0, rfl, ?_⟩
  have hE4 := hE0.andN hS4
  obtain rfl := int_form hV4_0
  have h := h hV4_0.wf
  refine WL_pure (.bool (decide (0 ≤ (noteIx a1_f_0 a1_f_1 a0_s 0)))) (R_geq rfl rfl) rfl rfl ?_
  refine WL_pure (.bool (decide (0 ≤ (noteIx a1_f_0 a1_f_1 a0_s 0)))) (R_as rfl) rfl rfl ?_
  refine WL_nil ?_
  refine WP_ret ?_
  exact endR_ret hR (v := (.bool (decide (0 ≤ (noteIx a1_f_0 a1_f_1 a0_s 0))))) (resE_1 rfl rfl) ⟨K4, (.bool (decide (0 ≤ (noteIx a1_f_0 a1_f_1 a0_s 0)))), (decide (0 ≤ (noteIx a1_f_0 a1_f_1 a0_s 0))), rfl, h, hE4, hM4, bool_V⟩
theorem HasNote_c {w0 : World} {K0 : Ghost} {a0_s_v : Value} {a0_s : (List ((List UInt8) × (List UInt8)))} {a1_f_0_b : Nat} {a1_f_0_pre a1_f_0_post : List Value} {a1_f_0 : (List UInt8)} {a1_f_1_b : Nat} {a1_f_1_pre a1_f_1_post : List Value} {a1_f_1 : (List UInt8)} (hM0 : Models w0 K0) (h_a0_s : kd_l_Sseal_note.V K0 a0_s a0_s_v) (h_a1_f_0_B : Bx kd_a32_u8 w0 K0 a1_f_0_b a1_f_0_pre a1_f_0_post a1_f_0) (h_a1_f_1_B : Bx kd_l_u8 w0 K0 a1_f_1_b a1_f_1_pre a1_f_1_post a1_f_1) (hsp2_3 : ¬ (a1_f_0_b = a1_f_1_b)) : Calls Try.prog 74 #[a0_s_v, (.func (.func 75) #[] #[(.pointer (some ⟨a1_f_0_b, a1_f_0_pre.length, none⟩)), (.pointer (some ⟨a1_f_1_b, a1_f_1_pre.length, none⟩))])] w0 (fun e w' => ∃ (K' : Ghost) (r0 : Value), e = .returned r0 ∧ Ext NX w0 K0 w' K' ∧ Models w' K' ∧ Kd.bool.V K' (decide (0 ≤ noteIx a1_f_0 a1_f_1 a0_s 0)) r0) := by
  refine (HasNote_walk hM0 h_a0_s h_a1_f_0_B h_a1_f_1_B hsp2_3 (HasNote_ok h_a0_s.wf)).mono ?_
  rintro _ w' ⟨K', r0, o0, rfl, rfl, hF⟩
  exact ⟨K', r0, rfl, hF⟩
abbrev kd_Sseal_notes : Kd (Value × Value) := (Kd.pr Kd.rsl Kd.rmp)
theorem ty39r : TyOk Try.prog 39 Kd.rmp 8 := ⟨⟨Try.t39, _, Try.type39, rfl, rfl, rfl, rfl, rfl⟩, ⟨_, Try.underlying39, rfl⟩⟩
theorem ty38r : TyOk Try.prog 38 Kd.rsl 24 := ⟨⟨Try.t38, _, Try.type38, rfl, rfl, rfl, rfl, rfl⟩, ⟨_, Try.underlying38, rfl⟩⟩
def has_VC (a0_n_0 : (List ((List UInt8) × (List UInt8)))) (a0_n_1 : (List ((List UInt8) × Int))) (a1_s : (List UInt8)) (a2_b : (List UInt8)) (Q : Bool → Prop) : Prop :=
  ((¬ (((mfind a1_s a0_n_1).isSome) = true)) → Q false) ∧ ((((mfind a1_s a0_n_1).isSome) = true) → (0 ≤ ((mfind a1_s a0_n_1).getD 0) ∧ ((mfind a1_s a0_n_1).getD 0) ≤ (a0_n_0.length : Int)) ∧ (Q (decide (0 ≤ noteIx a1_s a2_b (a0_n_0.drop ((mfind a1_s a0_n_1).getD 0).toNat) 0))))
theorem has_ok {a0_n_0 : (List ((List UInt8) × (List UInt8)))} {a0_n_1 : (List ((List UInt8) × Int))} {a1_s : (List UInt8)} {a2_b : (List UInt8)} (w_0 : kd_a32_u8.wf a1_s) (w_1 : kd_l_u8.wf a2_b) (hp : BookInv a0_n_0 a0_n_1) : has_VC a0_n_0 a0_n_1 a1_s a2_b (fun o0 => o0 = decide ((a1_s, a2_b) ∈ a0_n_0)) := by
  unfold has_VC
  rw [hp a1_s]
  refine ⟨fun h => ?_, fun h => ?_⟩
  · have hn : firstOf a1_s a0_n_0 0 = none := by
      cases hf : firstOf a1_s a0_n_0 0 with
      | none => rfl
      | some a => rw [hf] at h; exact absurd rfl h
    have := firstOf_none hn a2_b
    simp [this]
  · cases hf : firstOf a1_s a0_n_0 0 with
    | none => rw [hf] at h; cases h
    | some a =>
      obtain ⟨j, rfl, hl, hm⟩ := firstOf_some hf
      simp only [Option.getD_some, Int.zero_add, Int.toNat_natCast]
      refine ⟨⟨by omega, by omega⟩, ?_⟩
      rw [decide_eq_decide, noteIx_ge _ _ (Int.le_refl _)]
      exact (hm a2_b).symm

theorem has_walk {w0 : World} {K0 : Ghost} {a0_n_b : Nat} {a0_n_pre a0_n_post : List Value} {a0_n_0v : Value} {a0_n_0 : (List ((List UInt8) × (List UInt8)))} {a0_n_1v : Value} {a0_n_1 : (List ((List UInt8) × Int))} {a1_s_v : Value} {a1_s : (List UInt8)} {a2_b_v : Value} {a2_b : (List UInt8)} {Q : Bool → Prop} (hM0 : Models w0 K0) (h_a0_n_B : Bx kd_Sseal_notes w0 K0 a0_n_b a0_n_pre a0_n_post (a0_n_0v, a0_n_1v)) (h_a0_n_0 : Own kd_Sseal_note 80 w0 K0 a0_n_0 a0_n_0v) (h_a0_n_1 : Mp kd_a32_u8 (Kd.int .i64) w0 K0 a0_n_1 a0_n_1v) (h_a1_s : kd_a32_u8.V K0 a1_s a1_s_v) (h_a2_b : kd_l_u8.V K0 a2_b a2_b_v) (h : has_VC a0_n_0 a0_n_1 a1_s a2_b Q) : Calls Try.prog 66 #[(.pointer (some ⟨a0_n_b, a0_n_pre.length, none⟩)), a1_s_v, a2_b_v] w0 (fun e w' => ∃ (K' : Ghost) (r0 : Value) (o0 : Bool), e = .returned r0 ∧ Q o0 ∧ Ext NX w0 K0 w' K' ∧ Models w' K' ∧ Kd.bool.V K' o0 r0) := by
  unfold has_VC at h
  have hE0 : Ext NX w0 K0 w0 K0 := Ext.refl _ _ _
  refine calls_gen fun R hR => ?_
  refine calls_env (args := [(.pointer (some ⟨a0_n_b, a0_n_pre.length, none⟩)), a1_s_v, a2_b_v]) Try.func66 rfl (Nat.le_of_ble_eq_true rfl) ?_
  refine WP_seq ?_
  refine WP_region ?_
  refine WL_eff rfl rfl (St_B (S_box hM0 rfl h_a1_s) ?_)
  rintro b6 w6 (hB6 : Bx kd_a32_u8 _ _ _ _ _ a1_s) hS6 hM6 hge6
  have hE6 := hE0.andN hS6
  refine WL_eff rfl rfl (St_B (S_box hM6 rfl (h_a2_b.mono hS6.le)) ?_)
  rintro b8 w8 (hB8 : Bx kd_l_u8 _ _ _ _ _ a2_b) hS8 hM8 hge8
  have hE8 := hE6.andN hS8
  have hR10 := (h_a0_n_B.extN hS6)
  refine WL_pure (.bool false) (R_as rfl) rfl rfl ?_
  refine WL_nil ?_
  refine WP_seq ?_
  refine WP_ordD (K := K0) NX [.o 0 2, .o 1 2, .o 2 2, .o 3 2, .o 4 2, .o 5 2, .o 6 2, .o 7 2, .o 8 2, .o 9 2, .o 10 2] (by kernel_rfl) (by kernel_rfl) hM8 ?_
  rintro w11 hS11 hM11
  have hE11 := hE8.andN hS11
  refine WO_pure (.pointer (some ⟨a0_n_b, a0_n_pre.length, none⟩)) rfl l0 hM11 (fun _ => R_mv rfl) rfl (gN rfl) rfl ?_
  refine WO_pure (.pointer (some ⟨a0_n_b, a0_n_pre.length, none⟩)) rfl l0 hM11 (fun _ => R_nilck rfl) rfl (gN rfl) rfl ?_
  refine WO_pure (.pointer (some ⟨a0_n_b, a0_n_pre.length + 1, none⟩)) rfl l0 hM11 (fun _ => R_fa rfl Try.underlying41 rfl rfl ty39r rfl) rfl (gN rfl) rfl ?_
  have hR13 := (((h_a0_n_B.extN hS6).extN hS8).extN hS11)
  refine WO_L0 hM11 (S_ldB (Foc.snd Kd.rsl Kd.rmp) rfl ty39r hR13 (by first | rfl | simp | omega) (fun h => h)) rfl (gN rfl) rfl ?_
  rintro v12 (hV12 : Kd.rmp.V _ a0_n_1v _)
  obtain rfl := rw_form hV12
  have hR15 := ((hB6.extN hS8).extN hS11)
  refine WO_L0 hM11 (S_ldB (Foc.id _) rfl ty31 hR15 (by first | rfl | simp | omega) (fun h => h)) rfl (gN rfl) rfl ?_
  rintro v14 (hV14 : kd_a32_u8.V _ a1_s _)
  have hR18 := (((h_a0_n_1.extN hS6).extN hS8).extN hS11)
  refine WO_LK0 hM11 (S_lkp (kv := (Kd.int .i64)) rfl rfl hR18 hV14 Try.underlying39 (keyOk_arr Try.underlying31 Try.underlying5 ty5b) ty3 (fun _ _ h => h)) rfl (gN rfl) rfl ?_
  rintro v17 (hV17 : (Kd.int .i64).V _ ((mfind a1_s a0_n_1).getD 0) _)
  obtain rfl := int_form hV17
  refine WO_pure (.tuple #[(.int .i64 ((mfind a1_s a0_n_1).getD 0)), (.bool ((mfind a1_s a0_n_1).isSome))]) rfl l0 hM11 (fun _ => R_mv rfl) rfl (gN rfl) rfl ?_
  refine WO_pure (.int .i64 ((mfind a1_s a0_n_1).getD 0)) rfl l0 hM11 (fun _ => R_ext rfl rfl) rfl (gN rfl) rfl ?_
  refine WO_pure (.bool ((mfind a1_s a0_n_1).isSome)) rfl l0 hM11 (fun _ => R_ext rfl rfl) rfl (gN rfl) rfl ?_
  refine WO_pure (.int .i64 ((mfind a1_s a0_n_1).getD 0)) rfl l0 hM11 (fun _ => R_as rfl) rfl (gN rfl) rfl ?_
  refine WO_pure (.bool ((mfind a1_s a0_n_1).isSome)) rfl l0 hM11 (fun _ => R_as rfl) rfl (gN rfl) rfl ?_
  refine WO_nil ?_
  refine WP_seq ?_
  refine WP_seq ?_
  refine WP_region ?_
  refine WL_pure (.bool ((mfind a1_s a0_n_1).isSome)) (R_mv rfl) rfl rfl ?_
  refine WL_pure (.bool (!((mfind a1_s a0_n_1).isSome))) (R_not rfl) rfl rfl ?_
  refine WL_nil ?_
  refine WP_cond (!((mfind a1_s a0_n_1).isSome)) rfl (fun hc19 => ?_) (fun hc19 => ?_)
  · have hd19 : ¬ (((mfind a1_s a0_n_1).isSome) = true) := nbb_t hc19
    have h := h.1 hd19
    refine WP_seq ?_
    refine WP_region ?_
    refine WL_pure (.bool false) (R_as rfl) rfl rfl ?_
    refine WL_nil ?_
    refine WP_ret ?_
    exact endR_ret hR (v := (.bool false)) (resE_1 rfl rfl) ⟨K0, (.bool false), false, rfl, h, hE11, hM11, bool_V⟩
  · have hd19 : ((mfind a1_s a0_n_1).isSome) = true := nbb_f hc19
    have h := h.2 hd19
    refine WP_skip ?_
    refine WP_seq ?_
    refine WP_region ?_
    refine WL_pure (.pointer (some ⟨a0_n_b, a0_n_pre.length, none⟩)) (R_mv rfl) rfl rfl ?_
    refine WL_pure (.pointer (some ⟨a0_n_b, a0_n_pre.length, none⟩)) (R_nilck rfl) rfl rfl ?_
    refine WL_pure (.pointer (some ⟨a0_n_b, a0_n_pre.length + 0, none⟩)) (R_fa rfl Try.underlying41 rfl rfl ty38r rfl) rfl rfl ?_
    refine WL_L hM11 (S_ldB (Foc.fst Kd.rsl Kd.rmp) rfl ty38r hR13 (by first | rfl | simp | omega) (fun h => h)) rfl rfl ?_
    rintro v20 (hV20 : Kd.rsl.V _ a0_n_0v _)
    obtain rfl := rw_form hV20
    refine WL_pure (.int .i64 ((mfind a1_s a0_n_1).getD 0)) (R_mv rfl) rfl rfl ?_
    obtain ⟨hp22, h⟩ := h
    refine WL_V (S_slL rfl (h_a0_n_0.V.mono (hS6.le.trans (hS8.le.trans hS11.le))) Try.underlying38 ty80 rfl hp22.1 hp22.2) rfl rfl ?_
    rintro v21 (hV21 : kd_l_Sseal_note.V _ (a0_n_0.drop ((mfind a1_s a0_n_1).getD 0).toNat) _)
    refine WL_pure (.func (.func 75) #[] #[(.pointer (some ⟨b6, 0, none⟩)), (.pointer (some ⟨b8, 0, none⟩))]) (R_fnl rfl) rfl rfl ?_
    have hR25 := (hB8.extN hS11)
    refine WL_eff rfl rfl (St_call (R_call Try.call74 rfl) ((HasNote_c hM11 hV21 hR15 hR25 (fun he => (ne_new hge8 hB6.lt) he.symm)).mono ?_))
    rintro _ w24 ⟨K24, v24_0, rfl, hS24, hM24, hV24_0⟩
    refine ⟨v24_0, rfl, ?_⟩
    have hE24 := hE11.andN hS24
    obtain rfl := bool_form hV24_0
    refine WL_pure (.bool (decide (0 ≤ noteIx a1_s a2_b (a0_n_0.drop ((mfind a1_s a0_n_1).getD 0).toNat) 0))) (R_as rfl) rfl rfl ?_
    refine WL_nil ?_
    refine WP_ret ?_
    exact endR_ret hR (v := (.bool (decide (0 ≤ noteIx a1_s a2_b (a0_n_0.drop ((mfind a1_s a0_n_1).getD 0).toNat) 0)))) (resE_1 rfl rfl) ⟨K24, (.bool (decide (0 ≤ noteIx a1_s a2_b (a0_n_0.drop ((mfind a1_s a0_n_1).getD 0).toNat) 0))), (decide (0 ≤ noteIx a1_s a2_b (a0_n_0.drop ((mfind a1_s a0_n_1).getD 0).toNat) 0)), rfl, h, hE24, hM24, bool_V⟩
theorem has_c {w0 : World} {K0 : Ghost} {a0_n_b : Nat} {a0_n_pre a0_n_post : List Value} {a0_n_0v : Value} {a0_n_0 : (List ((List UInt8) × (List UInt8)))} {a0_n_1v : Value} {a0_n_1 : (List ((List UInt8) × Int))} {a1_s_v : Value} {a1_s : (List UInt8)} {a2_b_v : Value} {a2_b : (List UInt8)} (hM0 : Models w0 K0) (h_a0_n_B : Bx kd_Sseal_notes w0 K0 a0_n_b a0_n_pre a0_n_post (a0_n_0v, a0_n_1v)) (h_a0_n_0 : Own kd_Sseal_note 80 w0 K0 a0_n_0 a0_n_0v) (h_a0_n_1 : Mp kd_a32_u8 (Kd.int .i64) w0 K0 a0_n_1 a0_n_1v) (h_a1_s : kd_a32_u8.V K0 a1_s a1_s_v) (h_a2_b : kd_l_u8.V K0 a2_b a2_b_v) (hp : BookInv a0_n_0 a0_n_1) : Calls Try.prog 66 #[(.pointer (some ⟨a0_n_b, a0_n_pre.length, none⟩)), a1_s_v, a2_b_v] w0 (fun e w' => ∃ (K' : Ghost) (r0 : Value), e = .returned r0 ∧ Ext NX w0 K0 w' K' ∧ Models w' K' ∧ Kd.bool.V K' (decide ((a1_s, a2_b) ∈ a0_n_0)) r0) := by
  refine (has_walk hM0 h_a0_n_B h_a0_n_0 h_a0_n_1 h_a1_s h_a2_b (has_ok h_a1_s.wf h_a2_b.wf hp)).mono ?_
  rintro _ w' ⟨K', r0, o0, rfl, rfl, hF⟩
  exact ⟨K', r0, rfl, hF⟩
theorem fs80 {fs : Array Field} (h : Try.prog.underlying 80 = some (.struct fs)) : ∀ f ∈ fs.toList, ∃ i, Try.prog.info? f.type = some i := by
  have h2 := (Try.underlying80).symm.trans h
  cases h2
  intro f hf
  simp only [List.mem_cons, List.not_mem_nil, or_false] at hf
  rcases hf with rfl | rfl
  · exact ⟨_, Try.type31⟩
  · exact ⟨_, Try.type55⟩
def add_VC (a0_n_0 : (List ((List UInt8) × (List UInt8)))) (a0_n_1 : (List ((List UInt8) × Int))) (a1_s : (List UInt8)) (a2_b : (List UInt8)) (Q : (List ((List UInt8) × (List UInt8))) → (List ((List UInt8) × Int)) → Prop) : Prop :=
  (BookInv a0_n_0 a0_n_1) ∧ ((((a1_s, a2_b) ∈ a0_n_0) → Q a0_n_0 a0_n_1) ∧ ((¬ ((a1_s, a2_b) ∈ a0_n_0)) → ∀ (r21 : Bool), (r21 = true → a0_n_1 = []) → (∃ (J23 : (List ((List UInt8) × Int)) → Prop), (((r21 = true) → J23 ([] : List ((List UInt8) × Int))) ∧ ((r21 = false) → J23 a0_n_1)) ∧ ∀ (y23 : (List ((List UInt8) × Int))), J23 y23 → (∃ (J42 : (List ((List UInt8) × Int)) → Prop), (((¬ (((mfind a1_s y23).isSome) = true)) → J42 (mset a1_s (a0_n_0.length : Int) y23)) ∧ ((((mfind a1_s y23).isSome) = true) → J42 y23)) ∧ ∀ (y42 : (List ((List UInt8) × Int))), J42 y42 → ((a2_b.length ≤ 140737488355328) ∧ ((kd_l_u8.wf a2_b) → (((a0_n_0.length + [(a1_s, a2_b)].length) * 56 ≤ 140737488355328) ∧ (Q (a0_n_0 ++ [(a1_s, a2_b)]) y42))))))))
theorem add_ok {a0_n_0 : (List ((List UInt8) × (List UInt8)))} {a0_n_1 : (List ((List UInt8) × Int))} {a1_s : (List UInt8)} {a2_b : (List UInt8)} (w_0 : kd_a32_u8.wf a1_s) (w_1 : kd_l_u8.wf a2_b) (hp : BookInv a0_n_0 a0_n_1 ∧ a2_b.length ≤ 140737488355328 ∧ (a0_n_0.length + 1) * 64 ≤ 140737488355328) : add_VC a0_n_0 a0_n_1 a1_s a2_b (fun o0 o1 => o0 = (addL a0_n_0 a1_s a2_b) ∧ o1 = (addM a0_n_0 a0_n_1 a1_s a2_b)) := by
  obtain ⟨h1, h2, h3⟩ := hp
  have hlen : (a0_n_0.length + [(a1_s, a2_b)].length) * 56 ≤ 140737488355328 := by
    simp only [List.length_cons, List.length_nil]
    omega
  unfold add_VC
  refine ⟨h1, fun h => ?_, fun h r hr => ?_⟩
  · have hm := h
    exact ⟨by simp [addL, hm], by simp [addM, hm]⟩
  · have hm := h
    refine ⟨fun m => m = a0_n_1, ⟨fun h => (hr h).symm, fun _ => rfl⟩, ?_⟩
    rintro m rfl
    refine ⟨fun m' => m' = if (mfind a1_s m).isSome then m else mset a1_s (a0_n_0.length : Int) m, ⟨fun h => by rw [if_neg h], fun h => by rw [if_pos h]⟩, ?_⟩
    rintro m' rfl
    exact ⟨h2, fun _ => ⟨hlen, by simp [addL, hm], by simp [addM, hm]⟩⟩

theorem add_walk {w0 : World} {K0 : Ghost} {a0_n_b : Nat} {a0_n_pre a0_n_post : List Value} {a0_n_0v : Value} {a0_n_0 : (List ((List UInt8) × (List UInt8)))} {a0_n_1v : Value} {a0_n_1 : (List ((List UInt8) × Int))} {a1_s_v : Value} {a1_s : (List UInt8)} {a2_b_v : Value} {a2_b : (List UInt8)} {Q : (List ((List UInt8) × (List UInt8))) → (List ((List UInt8) × Int)) → Prop} (hM0 : Models w0 K0) (h_a0_n_B : Bx kd_Sseal_notes w0 K0 a0_n_b a0_n_pre a0_n_post (a0_n_0v, a0_n_1v)) (h_a0_n_0 : Own kd_Sseal_note 80 w0 K0 a0_n_0 a0_n_0v) (h_a0_n_1 : Mp kd_a32_u8 (Kd.int .i64) w0 K0 a0_n_1 a0_n_1v) (h_a1_s : kd_a32_u8.V K0 a1_s a1_s_v) (h_a2_b : kd_l_u8.V K0 a2_b a2_b_v) (h : add_VC a0_n_0 a0_n_1 a1_s a2_b Q) : Calls Try.prog 60 #[(.pointer (some ⟨a0_n_b, a0_n_pre.length, none⟩)), a1_s_v, a2_b_v] w0 (fun e w' => ∃ (K' : Ghost) (u0_0 : Value) (u0_1 : Value) (o0 : (List ((List UInt8) × (List UInt8)))) (o1 : (List ((List UInt8) × Int))), e = .returned (.tuple #[]) ∧ Q o0 o1 ∧ Ext (fun c => c = a0_n_b ∨ ob a0_n_0v = some c ∨ mb a0_n_1v = some c) w0 K0 w' K' ∧ Models w' K' ∧ Bx kd_Sseal_notes w' K' a0_n_b a0_n_pre a0_n_post (u0_0, u0_1) ∧ Own kd_Sseal_note 80 w' K' o0 u0_0 ∧ (∀ g, ob u0_0 = some g → ob a0_n_0v = some g ∨ w0.heap.size ≤ g) ∧ Mp kd_a32_u8 (Kd.int .i64) w' K' o1 u0_1 ∧ (∀ g, mb u0_1 = some g → mb a0_n_1v = some g ∨ w0.heap.size ≤ g)) := by
  unfold add_VC at h
  have hE0 : Ext (fun c => c = a0_n_b ∨ ob a0_n_0v = some c ∨ mb a0_n_1v = some c) w0 K0 w0 K0 := Ext.refl _ _ _
  refine calls_gen fun R hR => ?_
  refine calls_env (args := [(.pointer (some ⟨a0_n_b, a0_n_pre.length, none⟩)), a1_s_v, a2_b_v]) Try.func60 rfl (Nat.le_of_ble_eq_true rfl) ?_
  refine WP_seq ?_
  refine WP_region ?_
  refine WL_eff rfl rfl (St_B (S_box hM0 rfl h_a1_s) ?_)
  rintro b6 w6 (hB6 : Bx kd_a32_u8 _ _ _ _ _ a1_s) hS6 hM6 hge6
  have hE6 := hE0.andN hS6
  refine WL_nil ?_
  refine WP_seq ?_
  refine WP_seq ?_
  refine WP_region ?_
  refine WL_pure (.pointer (some ⟨a0_n_b, a0_n_pre.length, none⟩)) (R_mv rfl) rfl rfl ?_
  refine WL_L hM6 (S_ldB (Foc.id _) rfl ty31 hB6 (by first | rfl | simp | omega) (fun h => h)) rfl rfl ?_
  rintro v8 (hV8 : kd_a32_u8.V _ a1_s _)
  refine WL_pure a2_b_v (R_mv rfl) rfl rfl ?_
  have hR10 := (h_a0_n_0.extN hS6)
  have hR11 := (h_a0_n_1.extN hS6)
  have hR12 := (h_a0_n_B.extN hS6)
  obtain ⟨hp14, h⟩ := h
  refine WL_eff rfl rfl (St_call (R_call Try.call66 rfl) ((has_c hM6 hR12 hR10 hR11 hV8 (h_a2_b.mono hS6.le) hp14).mono ?_))
  rintro _ w13 ⟨K13, v13_0, rfl, hS13, hM13, hV13_0⟩
  refine ⟨v13_0, rfl, ?_⟩
  have hE13 := hE6.andN hS13
  obtain rfl := bool_form hV13_0
  refine WL_nil ?_
  refine WP_cond (decide ((a1_s, a2_b) ∈ a0_n_0)) rfl (fun hc15 => ?_) (fun hc15 => ?_)
  · have hd15 : (a1_s, a2_b) ∈ a0_n_0 := dec_t hc15
    have h := h.1 hd15
    refine WP_ret ?_
    have hR16 := (hR10.extN hS13)
    have hR17 := (hR11.extN hS13)
    have hR18 := (hR12.extN hS13)
    exact endR_ret hR (v := (.tuple #[])) (resE_0 rfl) ⟨K13, a0_n_0v, a0_n_1v, a0_n_0, a0_n_1, rfl, h, hE13, hM13, hR18, hR16, (fun g hg => (.inl hg)), hR17, (fun g hg => (.inl hg))⟩
  · have hd15 : ¬ ((a1_s, a2_b) ∈ a0_n_0) := dec_f hc15
    have h := h.2 hd15
    refine WP_skip ?_
    refine WP_seq ?_
    refine WP_seq ?_
    refine WP_region ?_
    refine WL_pure (.pointer (some ⟨a0_n_b, a0_n_pre.length, none⟩)) (R_mv rfl) rfl rfl ?_
    refine WL_pure (.pointer (some ⟨a0_n_b, a0_n_pre.length, none⟩)) (R_nilck rfl) rfl rfl ?_
    refine WL_pure (.pointer (some ⟨a0_n_b, a0_n_pre.length + 1, none⟩)) (R_fa rfl Try.underlying41 rfl rfl ty39r rfl) rfl rfl ?_
    have hR20 := (hR12.extN hS13)
    refine WL_L hM13 (S_ldB (Foc.snd Kd.rsl Kd.rmp) rfl ty39r hR20 (by first | rfl | simp | omega) (fun h => h)) rfl rfl ?_
    rintro v19 (hV19 : Kd.rmp.V _ a0_n_1v _)
    obtain rfl := rw_form hV19
    have hR22 := (hR11.extN hS13)
    refine WL_bq (S_mnil rfl rfl hR22 Try.underlying39) rfl rfl ?_
    rintro r21 ⟨hn21, hnn21⟩
    have h := h r21 (fun hx => (hn21 hx).2)
    refine WL_nil ?_
    obtain ⟨J23, h, hJ23⟩ := h
    refine WP_meet [17, 18, 19, 20] (fun l w => ∃ y23 K z1_1, J23 y23 ∧ l = [] ∧ Ext (fun c => mb a0_n_1v = some c ∨ c = a0_n_b) w13 K13 w K ∧ Models w K ∧ Mp kd_a32_u8 (Kd.int .i64) w K y23 (.map (some z1_1)) ∧ (∀ g, mb (.map (some z1_1)) = some g → mb a0_n_1v = some g ∨ w13.heap.size ≤ g) ∧ Bx kd_Sseal_notes w K a0_n_b a0_n_pre a0_n_post (a0_n_0v, (.map (some z1_1)))) ?_ ?_
    · skip
      refine WP_cond r21 rfl (fun hc24 => ?_) (fun hc24 => ?_)
      · have hd24 : r21 = true := hc24
        have h := h.1 hd24
        refine WP_region ?_
        refine WL_pure (.pointer (some ⟨a0_n_b, a0_n_pre.length, none⟩)) (R_mv rfl) rfl rfl ?_
        refine WL_eff rfl rfl (St_MM (S_mkm (kk := kd_a32_u8) (kv := (Kd.int .i64)) hM13) ?_)
        rintro b25 w25 hO25 hS25 hM25 hge25
        have hf25 : ∀ g, mb (.map (some b25)) = some g → w0.heap.size ≤ g := fun g hg => by cases hg; exact Nat.le_trans hE13.size hge25
        have hE25 := hE13.andN hS25
        have hs27 : ∀ g, mb (.map (some b25)) = some g → ¬ (mb a0_n_1v = some g) := fun g hg hx => by cases hg; exact absurd (hR22.lt _ hx) (Nat.not_lt.2 hge25)
        refine WL_pure (.pointer (some ⟨a0_n_b, a0_n_pre.length, none⟩)) (R_nilck rfl) rfl rfl ?_
        refine WL_pure (.pointer (some ⟨a0_n_b, a0_n_pre.length + 1, none⟩)) (R_fa rfl Try.underlying41 rfl rfl ty39r rfl) rfl rfl ?_
        have hR29 := (hR20.extN hS25)
        refine WL_eff rfl rfl (St_St (S_stB (Foc.snd Kd.rsl Kd.rmp) hM25 rfl rfl (rw_V hO25.one) ty39r hR29 (by first | rfl | simp | omega)) ?_)
        rintro w28 (hB28 : Bx kd_Sseal_notes _ _ a0_n_b a0_n_pre a0_n_post (a0_n_0v, (.map (some b25)))) hS28 hM28
        have hE28 := hE25.comp hS28 (fun c hx hlt => (by subst hx; exact (fun _ => (.inl rfl)) hlt))
        refine WL_nil ?_
        have hR30 := (hO25.ext hS28 (fun g hg hx => (fun g hg hx => hO25.box hR29 (hg.trans (congrArg some hx))) g hg hx))
        exact MeetQ.mk [] ⟨([] : List ((List UInt8) × Int)), K13, b25, h, rfl, (((Ext.refl _ _ _).andN hS25).comp hS28 (fun c hx hlt => (.inr (hx)))), hM28, hR30, (fun g hg => .inr ((fun g hg => by cases hg; exact hge25) g hg)), hB28⟩ (by repeat (first | exact Off.lay0 rfl | exact Off.refl _ _ | refine Off.updO ?_ rfl _ | refine Off.updN ?_ _ | refine Off.lay ?_ rfl)) (by repeat (first | exact trivial | refine ⟨rfl, ?_⟩))
      · have hd24 : r21 = false := hc24
        have h := h.2 hd24
        obtain ⟨b24, hv24⟩ := hnn21 hd24
        subst hv24
        refine WP_skip ?_
        exact MeetQ.mk [] ⟨a0_n_1, K13, b24, h, rfl, (Ext.refl _ _ _), hM13, hR22, (fun g hg => (.inl hg)), hR20⟩ (by repeat (first | exact Off.lay0 rfl | exact Off.refl _ _ | refine Off.updO ?_ rfl _ | refine Off.updN ?_ _ | refine Off.lay ?_ rfl)) (by repeat (first | exact trivial | refine ⟨rfl, ?_⟩))
    rintro l σ23 w31 ⟨y23, K31, z1_1_23, hI, rfl, hX31, hM31, hL23_z1_1, ho23_z1_1, hL23_1⟩
    have h := hJ23 y23 hI
    have hE31 := hE13.comp hX31 (fun c hx hlt => Or.elim hx (fun hx => (fun g hg _ => (.inr (.inr (hg)))) c hx hlt) (fun hx => (by subst hx; exact (fun _ => (.inl rfl)) hlt)))
    have hf32 : ∀ g, mb (.map (some z1_1_23)) = some g → g < w0.heap.size → g = a0_n_b ∨ ob a0_n_0v = some g ∨ mb a0_n_1v = some g := fun g hg hlt => (ho23_z1_1 g hg).elim (fun hx => (fun g hg _ => (.inr (.inr (hg)))) g hx hlt) (fun hx => absurd hlt (Nat.not_lt.2 (Nat.le_trans hE13.size hx)))
    refine WP_seq ?_
    refine WP_seq ?_
    refine WP_ordD (K := K31) NX [.o 0 2, .o 1 2, .o 2 2, .o 3 2, .o 4 2, .o 5 2, .o 6 2, .o 7 2, .o 8 2, .o 9 2, .o 10 2] (by kernel_rfl) (by kernel_rfl) hM31 ?_
    rintro w33 hS33 hM33
    have hE33 := hE31.andN hS33
    refine WO_pure (.pointer (some ⟨a0_n_b, a0_n_pre.length, none⟩)) rfl l0 hM33 (fun _ => R_mv rfl) rfl (gN rfl) rfl ?_
    refine WO_pure (.pointer (some ⟨a0_n_b, a0_n_pre.length, none⟩)) rfl l0 hM33 (fun _ => R_nilck rfl) rfl (gN rfl) rfl ?_
    refine WO_pure (.pointer (some ⟨a0_n_b, a0_n_pre.length + 1, none⟩)) rfl l0 hM33 (fun _ => R_fa rfl Try.underlying41 rfl rfl ty39r rfl) rfl (gN rfl) rfl ?_
    have hR35 := (hL23_1.extN hS33)
    refine WO_L0 hM33 (S_ldB (Foc.snd Kd.rsl Kd.rmp) rfl ty39r hR35 (by first | rfl | simp | omega) (fun h => h)) rfl (gN rfl) rfl ?_
    rintro v34 (hV34 : Kd.rmp.V _ (.map (some z1_1_23)) _)
    obtain rfl := rw_form hV34
    have hR37 := (hB6.extN hS13)
    have hR38 := ((hR37.ext hX31 (fun hx => Or.elim hx (fun hx => (hR22.box hR37) hx) (fun hx => (ne_new hge6 h_a0_n_B.lt) hx))).extN hS33)
    refine WO_L0 hM33 (S_ldB (Foc.id _) rfl ty31 hR38 (by first | rfl | simp | omega) (fun h => h)) rfl (gN rfl) rfl ?_
    rintro v36 (hV36 : kd_a32_u8.V _ a1_s _)
    have hR41 := (hL23_z1_1.extN hS33)
    refine WO_LK0 hM33 (S_lkp (kv := (Kd.int .i64)) rfl rfl hR41 hV36 Try.underlying39 (keyOk_arr Try.underlying31 Try.underlying5 ty5b) ty3 (fun _ _ h => h)) rfl (gN rfl) rfl ?_
    rintro v40 (hV40 : (Kd.int .i64).V _ ((mfind a1_s y23).getD 0) _)
    obtain rfl := int_form hV40
    refine WO_pure (.tuple #[(.int .i64 ((mfind a1_s y23).getD 0)), (.bool ((mfind a1_s y23).isSome))]) rfl l0 hM33 (fun _ => R_mv rfl) rfl (gN rfl) rfl ?_
    refine WO_pure (.int .i64 ((mfind a1_s y23).getD 0)) rfl l0 hM33 (fun _ => R_ext rfl rfl) rfl (gN rfl) rfl ?_
    refine WO_pure (.bool ((mfind a1_s y23).isSome)) rfl l0 hM33 (fun _ => R_ext rfl rfl) rfl (gN rfl) rfl ?_
    refine WO_pure (.int .i64 ((mfind a1_s y23).getD 0)) rfl l0 hM33 (fun _ => R_as rfl) rfl (gN rfl) rfl ?_
    refine WO_pure (.bool ((mfind a1_s y23).isSome)) rfl l0 hM33 (fun _ => R_as rfl) rfl (gN rfl) rfl ?_
    refine WO_nil ?_
    refine WP_seq ?_
    refine WP_region ?_
    refine WL_pure (.bool ((mfind a1_s y23).isSome)) (R_mv rfl) rfl rfl ?_
    refine WL_pure (.bool (!((mfind a1_s y23).isSome))) (R_not rfl) rfl rfl ?_
    refine WL_nil ?_
    obtain ⟨J42, h, hJ42⟩ := h
    refine WP_meet [32, 33, 34, 35, 36, 37, 38, 39, 40, 41] (fun l w => ∃ y42 K z1_1, J42 y42 ∧ l = [] ∧ Ext (fun c => mb (.map (some z1_1_23)) = some c ∨ c = a0_n_b) w33 K31 w K ∧ Models w K ∧ Mp kd_a32_u8 (Kd.int .i64) w K y42 (.map (some z1_1)) ∧ (∀ g, mb (.map (some z1_1)) = some g → mb (.map (some z1_1_23)) = some g ∨ w33.heap.size ≤ g) ∧ Bx kd_Sseal_notes w K a0_n_b a0_n_pre a0_n_post (a0_n_0v, (.map (some z1_1)))) ?_ ?_
    · skip
      refine WP_cond (!((mfind a1_s y23).isSome)) rfl (fun hc43 => ?_) (fun hc43 => ?_)
      · have hd43 : ¬ (((mfind a1_s y23).isSome) = true) := nbb_t hc43
        have h := h.1 hd43
        refine WP_ordD (K := K31) (fun c => mb (.map (some z1_1_23)) = some c ∨ w33.heap.size ≤ c) [.o 0 2, .o 1 2, .o 2 2, .o 3 2, .o 4 2, .o 5 2, .o 6 2, .o 7 2, .o 8 2, .o 9 2, .o 10 1] (by kernel_rfl) (by kernel_rfl) hM33 ?_
        rintro w44 hS44 hM44
        have hE44 := hE33.andN hS44
        refine WO_pure (.pointer (some ⟨a0_n_b, a0_n_pre.length, none⟩)) rfl l0 hM44 (fun _ => R_mv rfl) rfl (gN rfl) rfl ?_
        refine WO_pure (.pointer (some ⟨a0_n_b, a0_n_pre.length, none⟩)) rfl l0 hM44 (fun _ => R_nilck rfl) rfl (gN rfl) rfl ?_
        refine WO_pure (.pointer (some ⟨a0_n_b, a0_n_pre.length + 1, none⟩)) rfl l0 hM44 (fun _ => R_fa rfl Try.underlying41 rfl rfl ty39r rfl) rfl (gN rfl) rfl ?_
        have hR46 := (hR35.extN hS44)
        refine WO_L0 hM44 (S_ldB (Foc.snd Kd.rsl Kd.rmp) rfl ty39r hR46 (by first | rfl | simp | omega) (fun h => h)) rfl (gN rfl) rfl ?_
        rintro v45 (hV45 : Kd.rmp.V _ (.map (some z1_1_23)) _)
        obtain rfl := rw_form hV45
        have hR48 := (hR38.extN hS44)
        refine WO_L0 hM44 (S_ldB (Foc.id _) rfl ty31 hR48 (by first | rfl | simp | omega) (fun h => h)) rfl (gN rfl) rfl ?_
        rintro v47 (hV47 : kd_a32_u8.V _ a1_s _)
        refine WO_pure (.pointer (some ⟨a0_n_b, a0_n_pre.length, none⟩)) rfl l0 hM44 (fun _ => R_mv rfl) rfl (gN rfl) rfl ?_
        refine WO_pure (.pointer (some ⟨a0_n_b, a0_n_pre.length, none⟩)) rfl l0 hM44 (fun _ => R_nilck rfl) rfl (gN rfl) rfl ?_
        refine WO_pure (.pointer (some ⟨a0_n_b, a0_n_pre.length + 0, none⟩)) rfl l0 hM44 (fun _ => R_fa rfl Try.underlying41 rfl rfl ty38r rfl) rfl (gN rfl) rfl ?_
        refine WO_L0 hM44 (S_ldB (Foc.fst Kd.rsl Kd.rmp) rfl ty38r hR46 (by first | rfl | simp | omega) (fun h => h)) rfl (gN rfl) rfl ?_
        rintro v50 (hV50 : Kd.rsl.V _ a0_n_0v _)
        obtain rfl := rw_form hV50
        refine WO_pure (.int .i64 (a0_n_0.length : Int)) rfl l0 hM44 (fun _ => R_len rfl (hR10.V.mono (hS13.le.trans (hX31.le.trans (hS33.le.trans hS44.le)))) Try.underlying38) rfl (gN rfl) rfl ?_
        have hR52 := (hR41.extN hS44)
        refine WO_eff rfl (gN rfl) rfl (St_Mu (S_mst hM44 rfl rfl rfl hR52 hV47 (int_V (len_wf ((hR10).V).wf.1)) Try.underlying39 (keyOk_arr Try.underlying31 Try.underlying5 ty5b)) ?_)
        rintro w51 hO51 hS51 hM51
        have hS51 : Ext (fun c => mb (.map (some z1_1_23)) = some c) w44 K31 w51 K31 := hS51.weak (fun c _ hc => congrArg some hc.symm)
        refine ⟨K31, (hS51.weak (fun c hlt hx => (.inl (hx)))), hM51, ?_⟩
        have hE51 := hE44.comp hS51 (fun c hx hlt => hf32 c hx hlt)
        refine WO_nil ?_
        have hR53 := (hR46.ext hS51 (fun hx => (hR52.box hR46) hx))
        exact MeetQ.mk [] ⟨(mset a1_s (a0_n_0.length : Int) y23), K31, z1_1_23, h, rfl, (((Ext.refl _ _ _).andN hS44).comp hS51 (fun c hx hlt => (.inl (hx)))), hM51, hO51, (fun g hg => (.inl hg)), hR53⟩ (by repeat (first | exact Off.lay0 rfl | exact Off.refl _ _ | refine Off.updO ?_ rfl _ | refine Off.updN ?_ _ | refine Off.lay ?_ rfl)) (by repeat (first | exact trivial | refine ⟨rfl, ?_⟩))
      · have hd43 : ((mfind a1_s y23).isSome) = true := nbb_f hc43
        have h := h.2 hd43
        refine WP_skip ?_
        exact MeetQ.mk [] ⟨y23, K31, z1_1_23, h, rfl, (Ext.refl _ _ _), hM33, hR41, (fun g hg => (.inl hg)), hR35⟩ (by repeat (first | exact Off.lay0 rfl | exact Off.refl _ _ | refine Off.updO ?_ rfl _ | refine Off.updN ?_ _ | refine Off.lay ?_ rfl)) (by repeat (first | exact trivial | refine ⟨rfl, ?_⟩))
    rintro l σ42 w54 ⟨y42, K54, z1_1_42, hI, rfl, hX54, hM54, hL42_z1_1, ho42_z1_1, hL42_1⟩
    have h := hJ42 y42 hI
    have hE54 := hE33.comp hX54 (fun c hx hlt => Or.elim hx (fun hx => hf32 c hx hlt) (fun hx => (by subst hx; exact (fun _ => (.inl rfl)) hlt)))
    have hf55 : ∀ g, mb (.map (some z1_1_42)) = some g → g < w0.heap.size → g = a0_n_b ∨ ob a0_n_0v = some g ∨ mb a0_n_1v = some g := fun g hg hlt => (ho42_z1_1 g hg).elim (fun hx => hf32 g hx hlt) (fun hx => absurd hlt (Nat.not_lt.2 (Nat.le_trans hE33.size hx)))
    have hR56 := (hR10.extN hS13)
    have hR57 := ((hR56.ext hX31 (fun g hg hx => Or.elim hx (fun hx => (fun g hg => hR22.own hR56 g hg) g hg hx) (fun hx => (fun g hg hx => hR56.box hR20 (hg.trans (congrArg some hx))) g hg hx))).extN hS33)
    have hR58 := (hR57.ext hX54 (fun g hg hx => Or.elim hx (fun hx => (fun g hg => hR41.own hR57 g hg) g hg hx) (fun hx => (fun g hg hx => hR57.box hR35 (hg.trans (congrArg some hx))) g hg hx)))
    have hR59 := (hR38.ext hX54 (fun hx => Or.elim hx (fun hx => (hR41.box hR38) hx) (fun hx => (ne_new hge6 h_a0_n_B.lt) hx)))
    refine WP_ordD (K := K54) (fun c => c = a0_n_b ∨ ob a0_n_0v = some c ∨ w54.heap.size ≤ c) [.o 0 3, .o 1 2, .o 2 2, .o 3 2, .o 4 2, .o 5 2, .o 6 2, .o 7 0, .o 8 2, .o 9 0, .o 10 1, .o 11 3, .o 12 3, .o 13 1] (by kernel_rfl) (by kernel_rfl) hM54 ?_
    rintro w60 hS60 hM60
    have hE60 := hE54.andN hS60
    refine WO_pure (.pointer (some ⟨a0_n_b, a0_n_pre.length, none⟩)) rfl l3 hM60 (fun _ => R_mv rfl) rfl (gN rfl) rfl ?_
    refine WO_pure (.pointer (some ⟨a0_n_b, a0_n_pre.length, none⟩)) rfl l0 hM60 (fun _ => R_mv rfl) rfl (gN rfl) rfl ?_
    refine WO_pure (.pointer (some ⟨a0_n_b, a0_n_pre.length, none⟩)) rfl l0 hM60 (fun _ => R_nilck rfl) rfl (gN rfl) rfl ?_
    refine WO_pure (.pointer (some ⟨a0_n_b, a0_n_pre.length + 0, none⟩)) rfl l0 hM60 (fun _ => R_fa rfl Try.underlying41 rfl rfl ty38r rfl) rfl (gN rfl) rfl ?_
    have hR62 := (hL42_1.extN hS60)
    refine WO_L0 hM60 (S_ldB (Foc.fst Kd.rsl Kd.rmp) rfl ty38r hR62 (by first | rfl | simp | omega) (fun h => h)) rfl (gN rfl) rfl ?_
    rintro v61 (hV61 : Kd.rsl.V _ a0_n_0v _)
    obtain rfl := rw_form hV61
    have hR64 := (hR59.extN hS60)
    refine WO_L0 hM60 (S_ldB (Foc.id _) rfl ty31 hR64 (by first | rfl | simp | omega) (fun h => h)) rfl (gN rfl) rfl ?_
    rintro v63 (hV63 : kd_a32_u8.V _ a1_s _)
    refine WO_pure a2_b_v rfl l0 hM60 (fun _ => R_mv rfl) rfl (gN rfl) rfl ?_
    have hR66 := (hR58.extN hS60)
    have hR67 := (hL42_z1_1.extN hS60)
    obtain ⟨hp69, h⟩ := h
    refine WO_eff0 rfl (gN rfl) rfl (St_call (R_call Try.call59 rfl) ((Clone_c hM60 (h_a2_b.mono (hS6.le.trans (hS13.le.trans (hX31.le.trans (hS33.le.trans (hX54.le.trans hS60.le)))))) hp69).mono ?_))
    rintro _ w68 ⟨K68, v68_0, rfl, hS68, hM68, hO68_0, hg68_0⟩
    refine ⟨v68_0, rfl, ?_⟩
    refine ⟨K68, hS68, hM68, ?_⟩
    have hE68 := hE60.andN hS68
    have h := h hO68_0.wf
    refine WO_V rfl l0 hM68 (S_bld (K := K68) (vs := [(0, v63), (1, v68_0)]) (Z := (a1_s, a2_b)) ty80 rfl Try.underlying80 (fs80 Try.underlying80) rfl (Parts.cons rfl rfl ty31 (Foc.fst kd_a32_u8 kd_l_u8) (hV63.mono hS68.le) (Parts.cons rfl rfl ty55 (Foc.snd kd_a32_u8 kd_l_u8) hO68_0.V Parts.nil))) rfl (gN rfl) rfl ?_
    rintro v71 (hV71 : kd_Sseal_note.V _ (a1_s, a2_b) _)
    refine WO_eff0 rfl (gN rfl) rfl (St_S0 (S_bsl (k := kd_Sseal_note) (l := [((a1_s, a2_b), v71)]) hM68 rfl (by intro p hp; simp only [List.mem_cons, List.not_mem_nil, or_false] at hp; subst hp; exact hV71) rfl Try.underlying38 ty80 rfl rfl) ?_)
    rintro v73 w73 K73 (hO73 : Own kd_Sseal_note 80 w73 K73 [(a1_s, a2_b)] v73) hS73 hM73 hg73
    refine ⟨K73, hS73, hM73, ?_⟩
    have hE73 := hE68.andN hS73
    have hR75 := (hR66.extN hS68)
    have hR76 := ((hR66.extN hS68).extN hS73)
    obtain ⟨hp78, h⟩ := h
    refine WO_eff rfl (gN rfl) rfl (St_S (S_app hM73 rfl hR76 rfl hO73.V Try.underlying38 ty80 rfl hp78) ?_)
    rintro v77 w77 K77 hO77 hS77 hM77 hob77
    refine ⟨K77, (hS77.weak (fun c hlt hx => (.inr (.inl (hx))))), hM77, ?_⟩
    have hE77 := hE73.comp hS77 (fun c hx hlt => (fun g hg _ => (.inr (.inl hg))) c hx hlt)
    have hR79 := (hO73.ext hS77 (fun g hg hx => (fun g hg hx => absurd (hR75.lt _ hx) (Nat.not_lt.2 (hg73 g hg))) g hg hx))
    have hfx77 : ∀ g, ob v77 = some g → g < w0.heap.size → g = a0_n_b ∨ ob a0_n_0v = some g ∨ mb a0_n_1v = some g := fun g hg hlt => by rcases hob77 with hq | hq <;> rw [hq] at hg; exact (fun g hg _ => (.inr (.inl hg))) g hg hlt; cases hg; exact absurd hlt (Nat.not_lt.2 hE73.size)
    have hs81 : ∀ g, ob v77 = some g → ¬ (ob v73 = some g) := fun g hg hx => by rcases hob77 with hq | hq <;> rw [hq] at hg; exact (fun g hg hx => (fun g hg hx => absurd (hR75.lt _ hx) (Nat.not_lt.2 (hg73 g hg))) g hx hg) g hg hx; cases hg; exact absurd (hO73.lt _ hx) (Nat.not_lt.2 (Nat.le_refl _))
    refine WO_pure (.pointer (some ⟨a0_n_b, a0_n_pre.length, none⟩)) rfl l3 hM77 (fun _ => R_nilck rfl) rfl (gN rfl) rfl ?_
    refine WO_pure (.pointer (some ⟨a0_n_b, a0_n_pre.length + 0, none⟩)) rfl l3 hM77 (fun _ => R_fa rfl Try.underlying41 rfl rfl ty38r rfl) rfl (gN rfl) rfl ?_
    have hR83 := ((hR62.extN hS68).extN hS73)
    have hR84 := (hR83.ext hS77 (fun hx => (hR76.box hR83) hx))
    refine WO_eff rfl (gN rfl) rfl (St_St (S_stB (Foc.fst Kd.rsl Kd.rmp) hM77 rfl rfl (rw_V hO77.one) ty38r hR84 (by first | rfl | simp | omega)) ?_)
    rintro w82 (hB82 : Bx kd_Sseal_notes _ _ a0_n_b a0_n_pre a0_n_post (v77, (.map (some z1_1_42)))) hS82 hM82
    refine ⟨K77, (hS82.weak (fun c hlt hx => (.inl (hx)))), hM82, ?_⟩
    have hE82 := hE77.comp hS82 (fun c hx hlt => (by subst hx; exact (fun _ => (.inl rfl)) hlt))
    refine WO_nil ?_
    have hR85 := (hO77.ext hS82 (fun g hg hx => (fun g hg hx => hO77.box hR84 (hg.trans (congrArg some hx))) g hg hx))
    have hR86 := ((hR67.extN hS68).extN hS73)
    have hR87 := (hR86.ext hS77 (fun g hg hx => (fun g hg hx => hR86.own hR76 g hx hg) g hg hx))
    have hR88 := (hR87.ext hS82 (fun g hg hx => (fun g hg hx => hR87.box hR84 (hg.trans (congrArg some hx))) g hg hx))
    exact endR_nrm hR (v := (.tuple #[])) (resE_0 rfl) ⟨K77, v77, (.map (some z1_1_42)), (a0_n_0 ++ [(a1_s, a2_b)]), y42, rfl, h, hE82, hM82, hB82, hR85, (fun g hg => (by have hg : ob v77 = some g := hg; rcases hob77 with hq | hq <;> rw [hq] at hg; exact (.inl hg); cases hg; exact .inr hE73.size)), hR88, (fun g hg => ((ho42_z1_1 g hg).elim (fun hz => ((ho23_z1_1 g hz).elim (fun hz => (.inl hz)) (fun hz => .inr (Nat.le_trans hE13.size hz)))) (fun hz => .inr (Nat.le_trans hE33.size hz))))⟩
theorem add_c {w0 : World} {K0 : Ghost} {a0_n_b : Nat} {a0_n_pre a0_n_post : List Value} {a0_n_0v : Value} {a0_n_0 : (List ((List UInt8) × (List UInt8)))} {a0_n_1v : Value} {a0_n_1 : (List ((List UInt8) × Int))} {a1_s_v : Value} {a1_s : (List UInt8)} {a2_b_v : Value} {a2_b : (List UInt8)} (hM0 : Models w0 K0) (h_a0_n_B : Bx kd_Sseal_notes w0 K0 a0_n_b a0_n_pre a0_n_post (a0_n_0v, a0_n_1v)) (h_a0_n_0 : Own kd_Sseal_note 80 w0 K0 a0_n_0 a0_n_0v) (h_a0_n_1 : Mp kd_a32_u8 (Kd.int .i64) w0 K0 a0_n_1 a0_n_1v) (h_a1_s : kd_a32_u8.V K0 a1_s a1_s_v) (h_a2_b : kd_l_u8.V K0 a2_b a2_b_v) (hp : BookInv a0_n_0 a0_n_1 ∧ a2_b.length ≤ 140737488355328 ∧ (a0_n_0.length + 1) * 64 ≤ 140737488355328) : Calls Try.prog 60 #[(.pointer (some ⟨a0_n_b, a0_n_pre.length, none⟩)), a1_s_v, a2_b_v] w0 (fun e w' => ∃ (K' : Ghost) (u0_0 : Value) (u0_1 : Value), e = .returned (.tuple #[]) ∧ Ext (fun c => c = a0_n_b ∨ ob a0_n_0v = some c ∨ mb a0_n_1v = some c) w0 K0 w' K' ∧ Models w' K' ∧ Bx kd_Sseal_notes w' K' a0_n_b a0_n_pre a0_n_post (u0_0, u0_1) ∧ Own kd_Sseal_note 80 w' K' (addL a0_n_0 a1_s a2_b) u0_0 ∧ (∀ g, ob u0_0 = some g → ob a0_n_0v = some g ∨ w0.heap.size ≤ g) ∧ Mp kd_a32_u8 (Kd.int .i64) w' K' (addM a0_n_0 a0_n_1 a1_s a2_b) u0_1 ∧ (∀ g, mb u0_1 = some g → mb a0_n_1v = some g ∨ w0.heap.size ≤ g)) := by
  refine (add_walk hM0 h_a0_n_B h_a0_n_0 h_a0_n_1 h_a1_s h_a2_b (add_ok h_a1_s.wf h_a2_b.wf hp)).mono ?_
  rintro _ w' ⟨K', u0, u1, o0, o1, rfl, ⟨rfl, rfl⟩, hF⟩
  exact ⟨K', u0, u1, rfl, hF⟩
abbrev kd_Sseal_Book : Kd ((Value × Value) × Int) := (Kd.pr kd_Sseal_notes (Kd.int .i64))
def Calls_VC (a0_k_0_0 : (List ((List UInt8) × (List UInt8)))) (a0_k_0_1 : (List ((List UInt8) × Int))) (a0_k_1 : Int) (Q : Int → Prop) : Prop :=
  Q a0_k_1
theorem Calls_ok {a0_k_0_0 : (List ((List UInt8) × (List UInt8)))} {a0_k_0_1 : (List ((List UInt8) × Int))} {a0_k_1 : Int} : Calls_VC a0_k_0_0 a0_k_0_1 a0_k_1 (fun o0 => o0 = a0_k_1) := by
  exact rfl

theorem Calls_walk {w0 : World} {K0 : Ghost} {a0_k_b : Nat} {a0_k_pre a0_k_post : List Value} {a0_k_0_0v : Value} {a0_k_0_0 : (List ((List UInt8) × (List UInt8)))} {a0_k_0_1v : Value} {a0_k_0_1 : (List ((List UInt8) × Int))} {a0_k_1 : Int} {Q : Int → Prop} (hM0 : Models w0 K0) (h_a0_k_B : Bx kd_Sseal_Book w0 K0 a0_k_b a0_k_pre a0_k_post ((a0_k_0_0v, a0_k_0_1v), a0_k_1)) (h_a0_k_0_0 : Own kd_Sseal_note 80 w0 K0 a0_k_0_0 a0_k_0_0v) (h_a0_k_0_1 : Mp kd_a32_u8 (Kd.int .i64) w0 K0 a0_k_0_1 a0_k_0_1v) (h : Calls_VC a0_k_0_0 a0_k_0_1 a0_k_1 Q) : Calls Try.prog 28 #[(.pointer (some ⟨a0_k_b, a0_k_pre.length, none⟩))] w0 (fun e w' => ∃ (K' : Ghost) (r0 : Value) (o0 : Int), e = .returned r0 ∧ Q o0 ∧ Ext NX w0 K0 w' K' ∧ Models w' K' ∧ (Kd.int .i64).V K' o0 r0) := by
  unfold Calls_VC at h
  have hE0 : Ext NX w0 K0 w0 K0 := Ext.refl _ _ _
  refine calls_gen fun R hR => ?_
  refine calls_env (args := [(.pointer (some ⟨a0_k_b, a0_k_pre.length, none⟩))]) Try.func28 rfl (Nat.le_of_ble_eq_true rfl) ?_
  refine WP_seq ?_
  refine WP_region ?_
  refine WL_pure (.int .i64 0) (R_as rfl) rfl rfl ?_
  refine WL_nil ?_
  refine WP_seq ?_
  refine WP_seq ?_
  refine WP_region ?_
  refine WL_pure (.pointer (some ⟨a0_k_b, a0_k_pre.length, none⟩)) (R_mv rfl) rfl rfl ?_
  refine WL_pure (.bool false) (R_peq rfl rfl Try.underlying37) rfl rfl ?_
  refine WL_nil ?_
  refine WP_cond false rfl (fun hc => by cases hc) (fun _ => ?_)
  refine WP_skip ?_
  refine WP_seq ?_
  refine WP_region ?_
  refine WL_pure (.pointer (some ⟨a0_k_b, a0_k_pre.length, none⟩)) (R_mv rfl) rfl rfl ?_
  refine WL_pure (.pointer (some ⟨a0_k_b, a0_k_pre.length, none⟩)) (R_nilck rfl) rfl rfl ?_
  refine WL_pure (.pointer (some ⟨a0_k_b, a0_k_pre.length + 2, none⟩)) (R_fa rfl Try.underlying43 rfl rfl ty3 rfl) rfl rfl ?_
  refine WL_L hM0 (S_ldB (Foc.snd kd_Sseal_notes (Kd.int .i64)) rfl ty3 h_a0_k_B (by first | rfl | simp | omega) (fun h => h)) rfl rfl ?_
  rintro v4 (hV4 : (Kd.int .i64).V _ a0_k_1 _)
  obtain rfl := int_form hV4
  refine WL_pure (.int .i64 a0_k_1) (R_as rfl) rfl rfl ?_
  refine WL_nil ?_
  refine WP_ret ?_
  exact endR_ret hR (v := (.int .i64 a0_k_1)) (resE_1 rfl rfl) ⟨K0, (.int .i64 a0_k_1), a0_k_1, rfl, h, hE0, hM0, (int_V (hV4).wf)⟩
theorem Calls_c {w0 : World} {K0 : Ghost} {a0_k_b : Nat} {a0_k_pre a0_k_post : List Value} {a0_k_0_0v : Value} {a0_k_0_0 : (List ((List UInt8) × (List UInt8)))} {a0_k_0_1v : Value} {a0_k_0_1 : (List ((List UInt8) × Int))} {a0_k_1 : Int} (hM0 : Models w0 K0) (h_a0_k_B : Bx kd_Sseal_Book w0 K0 a0_k_b a0_k_pre a0_k_post ((a0_k_0_0v, a0_k_0_1v), a0_k_1)) (h_a0_k_0_0 : Own kd_Sseal_note 80 w0 K0 a0_k_0_0 a0_k_0_0v) (h_a0_k_0_1 : Mp kd_a32_u8 (Kd.int .i64) w0 K0 a0_k_0_1 a0_k_0_1v) : Calls Try.prog 28 #[(.pointer (some ⟨a0_k_b, a0_k_pre.length, none⟩))] w0 (fun e w' => ∃ (K' : Ghost) (r0 : Value), e = .returned r0 ∧ Ext NX w0 K0 w' K' ∧ Models w' K' ∧ (Kd.int .i64).V K' a0_k_1 r0) := by
  refine (Calls_walk hM0 h_a0_k_B h_a0_k_0_0 h_a0_k_0_1 (Calls_ok)).mono ?_
  rintro _ w' ⟨K', r0, o0, rfl, rfl, hF⟩
  exact ⟨K', r0, rfl, hF⟩
abbrev BookR := BookE 80
theorem ty41 : TyOk Try.prog 41 kd_Sseal_notes 32 := ⟨⟨Try.t41, _, Try.type41, rfl, rfl, rfl, rfl, rfl⟩, ⟨_, Try.underlying41, rfl⟩⟩
def OfB_VC (a0_k_0_0 : (List ((List UInt8) × (List UInt8)))) (a0_k_0_1 : (List ((List UInt8) × Int))) (a0_k_1 : Int) (a1_kind : Int) (a2_parts : (List (List UInt8))) (Q : (List UInt8) → (List ((List UInt8) × (List UInt8))) → (List ((List UInt8) × Int)) → Int → Prop) : Prop :=
  (1 + blobRoom a2_parts ≤ 140737488355328) ∧ ((kd_l_u8.wf (preimage a1_kind a2_parts)) → (((1 + [(preimage a1_kind a2_parts)].length) * 24 ≤ 140737488355328 ∧ [(preimage a1_kind a2_parts)].flatten.length ≤ 140737488355328) ∧ ((kd_a32_u8.wf (sha256 [(preimage a1_kind a2_parts)])) → ((BookInv a0_k_0_0 a0_k_0_1 ∧ (preimage a1_kind a2_parts).length ≤ 140737488355328 ∧ (a0_k_0_0.length + 1) * 64 ≤ 140737488355328) ∧ (Q (sha256 [(preimage a1_kind a2_parts)]) (addL a0_k_0_0 (sha256 [(preimage a1_kind a2_parts)]) (preimage a1_kind a2_parts)) (addM a0_k_0_0 a0_k_0_1 (sha256 [(preimage a1_kind a2_parts)]) (preimage a1_kind a2_parts)) (IntKind.i64.wrap (a0_k_1 + 1)))))))
theorem OfB_ok {a0_k_0_0 : (List ((List UInt8) × (List UInt8)))} {a0_k_0_1 : (List ((List UInt8) × Int))} {a0_k_1 : Int} {a1_kind : Int} {a2_parts : (List (List UInt8))} (w_0 : (Kd.int .i64).wf a1_kind) (w_1 : kd_l_l_u8.wf a2_parts) (hp : BookInv a0_k_0_0 a0_k_0_1 ∧ 1 + blobRoom a2_parts ≤ 140737488355328 ∧ (a0_k_0_0.length + 1) * 64 ≤ 140737488355328) : OfB_VC a0_k_0_0 a0_k_0_1 a0_k_1 a1_kind a2_parts (fun o0 o1 o2 o3 => o0 = (sealOf a1_kind a2_parts) ∧ o1 = (addL a0_k_0_0 (sealOf a1_kind a2_parts) (preimage a1_kind a2_parts)) ∧ o2 = (addM a0_k_0_0 a0_k_0_1 (sealOf a1_kind a2_parts) (preimage a1_kind a2_parts)) ∧ o3 = (IntKind.i64.wrap (a0_k_1 + 1))) := by
  obtain ⟨h1, h2, h3⟩ := hp
  have hl := preimage_len a1_kind h2
  unfold OfB_VC
  exact ⟨h2, fun _ => ⟨⟨by simp, by simpa using by omega⟩, fun _ => ⟨⟨h1, by omega, h3⟩, rfl, rfl, rfl, rfl⟩⟩⟩

theorem OfB_walk {w0 : World} {K0 : Ghost} {a0_k_b : Nat} {a0_k_pre a0_k_post : List Value} {a0_k_0_0v : Value} {a0_k_0_0 : (List ((List UInt8) × (List UInt8)))} {a0_k_0_1v : Value} {a0_k_0_1 : (List ((List UInt8) × Int))} {a0_k_1 : Int} {a1_kind_v : Value} {a1_kind : Int} {a2_parts_v : Value} {a2_parts : (List (List UInt8))} {Q : (List UInt8) → (List ((List UInt8) × (List UInt8))) → (List ((List UInt8) × Int)) → Int → Prop} (hM0 : Models w0 K0) (h_a0_k_B : Bx kd_Sseal_Book w0 K0 a0_k_b a0_k_pre a0_k_post ((a0_k_0_0v, a0_k_0_1v), a0_k_1)) (h_a0_k_0_0 : Own kd_Sseal_note 80 w0 K0 a0_k_0_0 a0_k_0_0v) (h_a0_k_0_1 : Mp kd_a32_u8 (Kd.int .i64) w0 K0 a0_k_0_1 a0_k_0_1v) (h_a1_kind : (Kd.int .i64).V K0 a1_kind a1_kind_v) (h_a2_parts : kd_l_l_u8.V K0 a2_parts a2_parts_v) (h : OfB_VC a0_k_0_0 a0_k_0_1 a0_k_1 a1_kind a2_parts Q) : Calls Try.prog 63 #[(.pointer (some ⟨a0_k_b, a0_k_pre.length, none⟩)), a1_kind_v, a2_parts_v] w0 (fun e w' => ∃ (K' : Ghost) (r0 : Value) (u0_0_0 : Value) (u0_0_1 : Value) (o0 : (List UInt8)) (o1 : (List ((List UInt8) × (List UInt8)))) (o2 : (List ((List UInt8) × Int))) (o3 : Int), e = .returned r0 ∧ Q o0 o1 o2 o3 ∧ Ext (fun c => c = a0_k_b ∨ ob a0_k_0_0v = some c ∨ mb a0_k_0_1v = some c) w0 K0 w' K' ∧ Models w' K' ∧ kd_a32_u8.V K' o0 r0 ∧ Bx kd_Sseal_Book w' K' a0_k_b a0_k_pre a0_k_post ((u0_0_0, u0_0_1), o3) ∧ Own kd_Sseal_note 80 w' K' o1 u0_0_0 ∧ (∀ g, ob u0_0_0 = some g → ob a0_k_0_0v = some g ∨ w0.heap.size ≤ g) ∧ Mp kd_a32_u8 (Kd.int .i64) w' K' o2 u0_0_1 ∧ (∀ g, mb u0_0_1 = some g → mb a0_k_0_1v = some g ∨ w0.heap.size ≤ g)) := by
  unfold OfB_VC at h
  obtain rfl := int_form h_a1_kind
  have hE0 : Ext (fun c => c = a0_k_b ∨ ob a0_k_0_0v = some c ∨ mb a0_k_0_1v = some c) w0 K0 w0 K0 := Ext.refl _ _ _
  refine calls_gen fun R hR => ?_
  refine calls_env (args := [(.pointer (some ⟨a0_k_b, a0_k_pre.length, none⟩)), (.int .i64 a1_kind), a2_parts_v]) Try.func63 rfl (Nat.le_of_ble_eq_true rfl) ?_
  refine WP_seq ?_
  refine WP_region ?_
  refine WL_eff rfl rfl (St_B (S_alloc hM0 ty31) ?_)
  rintro b5 w5 (hB5 : Bx kd_a32_u8 _ _ _ _ _ (List.replicate 32 0)) hS5 hM5 hge5
  have hE5 := hE0.andN hS5
  refine WL_nil ?_
  refine WP_seq ?_
  refine WP_region ?_
  refine WL_pure (.int .i64 a1_kind) (R_mv rfl) rfl rfl ?_
  refine WL_pure a2_parts_v (R_mv rfl) rfl rfl ?_
  have hR7 := (h_a0_k_0_0.extN hS5)
  have hR8 := (h_a0_k_0_1.extN hS5)
  have hR9 := (h_a0_k_B.extN hS5)
  obtain ⟨hp11, h⟩ := h
  refine WL_eff rfl rfl (St_call (R_call Try.call67 rfl) ((Preimage_c hM5 (int_V (h_a1_kind).wf) (h_a2_parts.mono hS5.le) hp11).mono ?_))
  rintro _ w10 ⟨K10, v10_0, rfl, hS10, hM10, hO10_0, hg10_0⟩
  refine ⟨v10_0, rfl, ?_⟩
  have hE10 := hE5.andN hS10
  have h := h hO10_0.wf
  refine WL_pure v10_0 (R_as rfl) rfl rfl ?_
  refine WL_nil ?_
  refine WP_seq ?_
  refine WP_region ?_
  refine WL_pure v10_0 (R_mv rfl) rfl rfl ?_
  refine WL_eff rfl rfl (St_S0 (S_bsl (k := kd_l_u8) (l := [((preimage a1_kind a2_parts), v10_0)]) hM10 rfl (by intro p hp; simp only [List.mem_cons, List.not_mem_nil, or_false] at hp; subst hp; exact hO10_0.V) rfl Try.underlying87 ty55 rfl rfl) ?_)
  rintro v13 w13 K13 (hO13 : Own kd_l_u8 55 w13 K13 [(preimage a1_kind a2_parts)] v13) hS13 hM13 hg13
  have hE13 := hE10.andN hS13
  obtain ⟨hp16, h⟩ := h
  refine WL_eff rfl rfl (St_call (R_call Try.call68 rfl) ((ShaSum_c hM13 hO13.V hp16).mono ?_))
  rintro _ w15 ⟨K15, v15_0, rfl, hS15, hM15, hV15_0⟩
  refine ⟨v15_0, rfl, ?_⟩
  have hE15 := hE13.andN hS15
  have h := h hV15_0.wf
  refine WL_eff rfl rfl (St_B (S_alloc hM15 ty31) ?_)
  rintro b18 w18 (hB18 : Bx kd_a32_u8 _ _ _ _ _ (List.replicate 32 0)) hS18 hM18 hge18
  have hE18 := hE15.andN hS18
  have hR20 := (((hR9.extN hS10).extN hS13).extN hS15)
  have hR21 := (((hB5.extN hS10).extN hS13).extN hS15)
  refine WL_eff rfl rfl (St_St (S_stB (Foc.id _) hM18 rfl rfl (hV15_0.mono hS18.le) ty31 hB18 (by first | rfl | simp | omega)) ?_)
  rintro w22 (hB22 : Bx kd_a32_u8 _ _ b18 [] [] (sha256 [(preimage a1_kind a2_parts)])) hS22 hM22
  have hE22 := hE18.comp hS22 (fun c hx hlt => (by subst hx; exact (fun hlt => absurd hlt (Nat.not_lt.2 (Nat.le_trans hE15.size hge18))) hlt))
  refine WL_nil ?_
  refine WP_seq ?_
  refine WP_seq ?_
  refine WP_region ?_
  refine WL_pure (.pointer (some ⟨a0_k_b, a0_k_pre.length, none⟩)) (R_mv rfl) rfl rfl ?_
  refine WL_pure (.bool true) (R_pne rfl rfl Try.underlying37) rfl rfl ?_
  refine WL_nil ?_
  refine WP_cond true rfl (fun _ => ?_) (fun hc => by cases hc)
  refine WP_seq ?_
  refine WP_region ?_
  refine WL_pure (.pointer (some ⟨a0_k_b, a0_k_pre.length, none⟩)) (R_mv rfl) rfl rfl ?_
  refine WL_pure (.pointer (some ⟨a0_k_b, a0_k_pre.length, none⟩)) (R_nilck rfl) rfl rfl ?_
  refine WL_pure (.pointer (some ⟨a0_k_b, a0_k_pre.length + 2, none⟩)) (R_fa rfl Try.underlying43 rfl rfl ty3 rfl) rfl rfl ?_
  have hR24 := ((((hR9.extN hS10).extN hS13).extN hS15).extN hS18)
  have hR25 := (hR24.ext hS22 (fun hx => (fun he => (ne_new hge18 hR20.lt) he.symm) hx))
  refine WL_L hM22 (S_ldB (Foc.snd kd_Sseal_notes (Kd.int .i64)) rfl ty3 hR25 (by first | rfl | simp | omega) (fun h => h)) rfl rfl ?_
  rintro v23 (hV23 : (Kd.int .i64).V _ a0_k_1 _)
  obtain rfl := int_form hV23
  refine WL_pure (.int .i64 (IntKind.i64.wrap (a0_k_1 + 1))) (R_add rfl rfl) rfl rfl ?_
  refine WL_pure (.pointer (some ⟨a0_k_b, a0_k_pre.length, none⟩)) (R_nilck rfl) rfl rfl ?_
  refine WL_pure (.pointer (some ⟨a0_k_b, a0_k_pre.length + 2, none⟩)) (R_fa rfl Try.underlying43 rfl rfl ty3 rfl) rfl rfl ?_
  refine WL_eff rfl rfl (St_St (S_stB (Foc.snd kd_Sseal_notes (Kd.int .i64)) hM22 rfl rfl (int_V (wrap_wf _ _)) ty3 hR25 (by first | rfl | simp | omega)) ?_)
  rintro w26 (hB26 : Bx kd_Sseal_Book _ _ a0_k_b a0_k_pre a0_k_post ((a0_k_0_0v, a0_k_0_1v), (IntKind.i64.wrap (a0_k_1 + 1)))) hS26 hM26
  have hE26 := hE22.comp hS26 (fun c hx hlt => (by subst hx; exact (fun _ => (.inl rfl)) hlt))
  refine WL_nil ?_
  have hR27 := (hB22.ext hS26 (fun hx => (ne_new hge18 hR20.lt) hx))
  have hR28 := ((((hR7.extN hS10).extN hS13).extN hS15).extN hS18)
  have hR29 := (hR28.ext hS22 (fun g hg hx => (fun g hg hx => hR28.box hB18 (hg.trans (congrArg some hx))) g hg hx))
  have hR30 := (hR29.ext hS26 (fun g hg hx => (fun g hg hx => hR29.box hR25 (hg.trans (congrArg some hx))) g hg hx))
  have hR31 := ((((hR8.extN hS10).extN hS13).extN hS15).extN hS18)
  have hR32 := (hR31.ext hS22 (fun g hg hx => (fun g hg hx => hR31.box hB18 (hg.trans (congrArg some hx))) g hg hx))
  have hR33 := (hR32.ext hS26 (fun g hg hx => (fun g hg hx => hR32.box hR25 (hg.trans (congrArg some hx))) g hg hx))
  refine WP_ordD (K := K15) (fun c => c = a0_k_b ∨ ob a0_k_0_0v = some c ∨ mb a0_k_0_1v = some c ∨ w26.heap.size ≤ c) [.o 0 2, .o 1 2, .o 2 2, .o 3 2, .o 4 2, .o 5 1] (by kernel_rfl) (by kernel_rfl) hM26 ?_
  rintro w34 hS34 hM34
  have hE34 := hE26.andN hS34
  refine WO_pure (.pointer (some ⟨a0_k_b, a0_k_pre.length, none⟩)) rfl l0 hM34 (fun _ => R_mv rfl) rfl (gN rfl) rfl ?_
  refine WO_pure (.pointer (some ⟨a0_k_b, a0_k_pre.length, none⟩)) rfl l0 hM34 (fun _ => R_nilck rfl) rfl (gN rfl) rfl ?_
  refine WO_pure (.pointer (some ⟨a0_k_b, a0_k_pre.length + 0, none⟩)) rfl l0 hM34 (fun _ => R_fa rfl Try.underlying43 rfl rfl ty41 rfl) rfl (gN rfl) rfl ?_
  have hR36 := (hR27.extN hS34)
  refine WO_L0 hM34 (S_ldB (Foc.id _) rfl ty31 hR36 (by first | rfl | simp | omega) (fun h => h)) rfl (gN rfl) rfl ?_
  rintro v35 (hV35 : kd_a32_u8.V _ (sha256 [(preimage a1_kind a2_parts)]) _)
  refine WO_pure v10_0 rfl l0 hM34 (fun _ => R_mv rfl) rfl (gN rfl) rfl ?_
  have hR38 := (hR30.extN hS34)
  have hR39 := (hR33.extN hS34)
  have hR40 := (hB26.extN hS34)
  have hR41 := ((((hB5.extN hS10).extN hS13).extN hS15).extN hS18)
  have hR42 := (hR41.ext hS22 (fun hx => (fun he => (ne_new hge18 hR21.lt) he.symm) hx))
  have hR43 := ((hR42.ext hS26 (fun hx => (ne_new hge5 h_a0_k_B.lt) hx)).extN hS34)
  have hR44 := (((hO10_0.extN hS13).extN hS15).extN hS18)
  have hR45 := (hR44.ext hS22 (fun g hg hx => (fun g hg hx => hR44.box hB18 (hg.trans (congrArg some hx))) g hg hx))
  have hR46 := ((hR45.ext hS26 (fun g hg hx => (fun g hg hx => hR45.box hR25 (hg.trans (congrArg some hx))) g hg hx)).extN hS34)
  have hR47 := ((hO13.extN hS15).extN hS18)
  have hR48 := (hR47.ext hS22 (fun g hg hx => (fun g hg hx => hR47.box hB18 (hg.trans (congrArg some hx))) g hg hx))
  have hR49 := ((hR48.ext hS26 (fun g hg hx => (fun g hg hx => hR48.box hR25 (hg.trans (congrArg some hx))) g hg hx)).extN hS34)
  obtain ⟨p51, q51, hl51, hB51, hback51⟩ := Bx.sub (Foc.fst kd_Sseal_notes (Kd.int .i64)) hR40
  obtain ⟨hp52, h⟩ := h
  refine WO_eff rfl (gN rfl) rfl (St_call (R_call Try.call60 (mapC (show (Value.pointer (some ⟨a0_k_b, a0_k_pre.length + 0, none⟩)) = .pointer (some ⟨a0_k_b, ((a0_k_pre : List Value) ++ p51).length, none⟩) from by rw [List.length_append, hl51]; first | done | simp) (mapC rfl (mapC rfl mapN)))) ((add_c hM34 hB51 hR38 hR39 hV35 hR46.V hp52).mono ?_))
  rintro _ w50 ⟨K50, u50_0_0, u50_0_1, rfl, hS50, hM50, hB50_m0, hu50_0_0, hxu50_0_0, hu50_0_1, hxu50_0_1⟩
  refine ⟨(.tuple #[]), rfl, ?_⟩
  refine ⟨K50, (hS50.weak (fun c hlt hx => Or.elim hx (fun hx => (.inl (hx))) (fun hx => Or.elim hx (fun hx => (.inr (.inl (hx)))) (fun hx => (.inr (.inr (.inl (hx)))))))), hM50, ?_⟩
  have hE50 := hE34.comp hS50 (fun c hx hlt => Or.elim hx (fun hx => (by subst hx; exact (fun _ => (.inl rfl)) hlt)) (fun hx => Or.elim hx (fun hx => (fun g hg _ => (.inr (.inl hg))) c hx hlt) (fun hx => (fun g hg _ => (.inr (.inr (hg)))) c hx hlt)))
  have hf53 : ∀ g, ob u50_0_0 = some g → g < w0.heap.size → g = a0_k_b ∨ ob a0_k_0_0v = some g ∨ mb a0_k_0_1v = some g := fun g hg hlt => (hxu50_0_0 g hg).elim (fun hx => (fun g hg _ => (.inr (.inl hg))) g hx hlt) (fun hx => absurd hlt (Nat.not_lt.2 (Nat.le_trans hE34.size hx)))
  have hf54 : ∀ g, mb u50_0_1 = some g → g < w0.heap.size → g = a0_k_b ∨ ob a0_k_0_0v = some g ∨ mb a0_k_0_1v = some g := fun g hg hlt => (hxu50_0_1 g hg).elim (fun hx => (fun g hg _ => (.inr (.inr (hg)))) g hx hlt) (fun hx => absurd hlt (Nat.not_lt.2 (Nat.le_trans hE34.size hx)))
  have hB50_w : Bx kd_Sseal_Book w50 K50 a0_k_b a0_k_pre a0_k_post ((u50_0_0, u50_0_1), (IntKind.i64.wrap (a0_k_1 + 1))) := hback51 hS50.le hB50_m0
  refine WO_nil ?_
  refine WP_seq ?_
  refine WP_region ?_
  have hR56 := (hR36.ext hS50 (fun hx => Or.elim hx (fun hx => (ne_new hge18 hR20.lt) hx) (fun hx => Or.elim hx (fun hx => (hR38.box hR36) hx) (fun hx => (hR39.box hR36) hx))))
  refine WL_L hM50 (S_ldB (Foc.id _) rfl ty31 hR56 (by first | rfl | simp | omega) (fun h => h)) rfl rfl ?_
  rintro v55 (hV55 : kd_a32_u8.V _ (sha256 [(preimage a1_kind a2_parts)]) _)
  have hR59 := (hR43.ext hS50 (fun hx => Or.elim hx (fun hx => (ne_new hge5 h_a0_k_B.lt) hx) (fun hx => Or.elim hx (fun hx => (hR38.box hR43) hx) (fun hx => (hR39.box hR43) hx))))
  refine WL_eff rfl rfl (St_St (S_stB (Foc.id _) hM50 rfl rfl hV55 ty31 hR59 (by first | rfl | simp | omega)) ?_)
  rintro w58 (hB58 : Bx kd_a32_u8 _ _ b5 [] [] (sha256 [(preimage a1_kind a2_parts)])) hS58 hM58
  have hE58 := hE50.comp hS58 (fun c hx hlt => (by subst hx; exact (fun hlt => absurd hlt (Nat.not_lt.2 (Nat.le_trans hE0.size hge5))) hlt))
  refine WL_nil ?_
  refine WP_ret ?_
  refine endS_ret hR (resE_B rfl rfl ty31 hB58) ?_
  rintro v60 hV60
  have hR61 := (hu50_0_0.ext hS58 (fun g hg hx => (fun g hg hx => hu50_0_0.box hR59 (hg.trans (congrArg some hx))) g hg hx))
  have hR62 := (hu50_0_1.ext hS58 (fun g hg hx => (fun g hg hx => hu50_0_1.box hR59 (hg.trans (congrArg some hx))) g hg hx))
  have hR63 := (hB50_w.ext hS58 (fun hx => (fun he => (ne_new hge5 h_a0_k_B.lt) he.symm) hx))
  exact ⟨K50, v60, u50_0_0, u50_0_1, (sha256 [(preimage a1_kind a2_parts)]), (addL a0_k_0_0 (sha256 [(preimage a1_kind a2_parts)]) (preimage a1_kind a2_parts)), (addM a0_k_0_0 a0_k_0_1 (sha256 [(preimage a1_kind a2_parts)]) (preimage a1_kind a2_parts)), (IntKind.i64.wrap (a0_k_1 + 1)), rfl, h, hE58, hM58, hV60, hR63, hR61, (fun g hg => ((hxu50_0_0 g hg).elim (fun hz => (.inl hz)) (fun hz => .inr (Nat.le_trans hE34.size hz)))), hR62, (fun g hg => ((hxu50_0_1 g hg).elim (fun hz => (.inl hz)) (fun hz => .inr (Nat.le_trans hE34.size hz))))⟩
theorem OfB_c {w0 : World} {K0 : Ghost} {a0_k_b : Nat} {a0_k_pre a0_k_post : List Value} {a0_k_0_0v : Value} {a0_k_0_0 : (List ((List UInt8) × (List UInt8)))} {a0_k_0_1v : Value} {a0_k_0_1 : (List ((List UInt8) × Int))} {a0_k_1 : Int} {a1_kind_v : Value} {a1_kind : Int} {a2_parts_v : Value} {a2_parts : (List (List UInt8))} (hM0 : Models w0 K0) (h_a0_k_B : Bx kd_Sseal_Book w0 K0 a0_k_b a0_k_pre a0_k_post ((a0_k_0_0v, a0_k_0_1v), a0_k_1)) (h_a0_k_0_0 : Own kd_Sseal_note 80 w0 K0 a0_k_0_0 a0_k_0_0v) (h_a0_k_0_1 : Mp kd_a32_u8 (Kd.int .i64) w0 K0 a0_k_0_1 a0_k_0_1v) (h_a1_kind : (Kd.int .i64).V K0 a1_kind a1_kind_v) (h_a2_parts : kd_l_l_u8.V K0 a2_parts a2_parts_v) (hp : BookInv a0_k_0_0 a0_k_0_1 ∧ 1 + blobRoom a2_parts ≤ 140737488355328 ∧ (a0_k_0_0.length + 1) * 64 ≤ 140737488355328) : Calls Try.prog 63 #[(.pointer (some ⟨a0_k_b, a0_k_pre.length, none⟩)), a1_kind_v, a2_parts_v] w0 (fun e w' => ∃ (K' : Ghost) (r0 : Value) (u0_0_0 : Value) (u0_0_1 : Value), e = .returned r0 ∧ Ext (fun c => c = a0_k_b ∨ ob a0_k_0_0v = some c ∨ mb a0_k_0_1v = some c) w0 K0 w' K' ∧ Models w' K' ∧ kd_a32_u8.V K' (sealOf a1_kind a2_parts) r0 ∧ Bx kd_Sseal_Book w' K' a0_k_b a0_k_pre a0_k_post ((u0_0_0, u0_0_1), (IntKind.i64.wrap (a0_k_1 + 1))) ∧ Own kd_Sseal_note 80 w' K' (addL a0_k_0_0 (sealOf a1_kind a2_parts) (preimage a1_kind a2_parts)) u0_0_0 ∧ (∀ g, ob u0_0_0 = some g → ob a0_k_0_0v = some g ∨ w0.heap.size ≤ g) ∧ Mp kd_a32_u8 (Kd.int .i64) w' K' (addM a0_k_0_0 a0_k_0_1 (sealOf a1_kind a2_parts) (preimage a1_kind a2_parts)) u0_0_1 ∧ (∀ g, mb u0_0_1 = some g → mb a0_k_0_1v = some g ∨ w0.heap.size ≤ g)) := by
  refine (OfB_walk hM0 h_a0_k_B h_a0_k_0_0 h_a0_k_0_1 h_a1_kind h_a2_parts (OfB_ok h_a1_kind.wf h_a2_parts.wf hp)).mono ?_
  rintro _ w' ⟨K', r0, u0, u1, o0, o1, o2, o3, rfl, ⟨rfl, rfl, rfl, rfl⟩, hF⟩
  exact ⟨K', r0, u0, u1, rfl, hF⟩
def OfN_VC (a1_kind : Int) (a2_parts : (List (List UInt8))) (Q : (List UInt8) → Prop) : Prop :=
  (1 + blobRoom a2_parts ≤ 140737488355328) ∧ ((kd_l_u8.wf (preimage a1_kind a2_parts)) → (((1 + [(preimage a1_kind a2_parts)].length) * 24 ≤ 140737488355328 ∧ [(preimage a1_kind a2_parts)].flatten.length ≤ 140737488355328) ∧ ((kd_a32_u8.wf (sha256 [(preimage a1_kind a2_parts)])) → (Q (sha256 [(preimage a1_kind a2_parts)])))))
theorem OfN_ok {a1_kind : Int} {a2_parts : (List (List UInt8))} (w_0 : (Kd.int .i64).wf a1_kind) (w_1 : kd_l_l_u8.wf a2_parts) (hp : 1 + blobRoom a2_parts ≤ 140737488355328) : OfN_VC a1_kind a2_parts (fun o0 => o0 = (sealOf a1_kind a2_parts)) := by
  have hl := preimage_len a1_kind hp
  unfold OfN_VC
  exact ⟨hp, fun _ => ⟨⟨by simp, by simpa using by omega⟩, fun _ => rfl⟩⟩

theorem OfN_walk {w0 : World} {K0 : Ghost} {a1_kind_v : Value} {a1_kind : Int} {a2_parts_v : Value} {a2_parts : (List (List UInt8))} {Q : (List UInt8) → Prop} (hM0 : Models w0 K0) (h_a1_kind : (Kd.int .i64).V K0 a1_kind a1_kind_v) (h_a2_parts : kd_l_l_u8.V K0 a2_parts a2_parts_v) (h : OfN_VC a1_kind a2_parts Q) : Calls Try.prog 63 #[(.pointer none), a1_kind_v, a2_parts_v] w0 (fun e w' => ∃ (K' : Ghost) (r0 : Value) (o0 : (List UInt8)), e = .returned r0 ∧ Q o0 ∧ Ext NX w0 K0 w' K' ∧ Models w' K' ∧ kd_a32_u8.V K' o0 r0) := by
  unfold OfN_VC at h
  obtain rfl := int_form h_a1_kind
  have hE0 : Ext NX w0 K0 w0 K0 := Ext.refl _ _ _
  refine calls_gen fun R hR => ?_
  refine calls_env (args := [(.pointer none), (.int .i64 a1_kind), a2_parts_v]) Try.func63 rfl (Nat.le_of_ble_eq_true rfl) ?_
  refine WP_seq ?_
  refine WP_region ?_
  refine WL_eff rfl rfl (St_B (S_alloc hM0 ty31) ?_)
  rintro b2 w2 (hB2 : Bx kd_a32_u8 _ _ _ _ _ (List.replicate 32 0)) hS2 hM2 hge2
  have hE2 := hE0.andN hS2
  refine WL_nil ?_
  refine WP_seq ?_
  refine WP_region ?_
  refine WL_pure (.int .i64 a1_kind) (R_mv rfl) rfl rfl ?_
  refine WL_pure a2_parts_v (R_mv rfl) rfl rfl ?_
  obtain ⟨hp5, h⟩ := h
  refine WL_eff rfl rfl (St_call (R_call Try.call67 rfl) ((Preimage_c hM2 (int_V (h_a1_kind).wf) (h_a2_parts.mono hS2.le) hp5).mono ?_))
  rintro _ w4 ⟨K4, v4_0, rfl, hS4, hM4, hO4_0, hg4_0⟩
  refine ⟨v4_0, rfl, ?_⟩
  have hE4 := hE2.andN hS4
  have h := h hO4_0.wf
  refine WL_pure v4_0 (R_as rfl) rfl rfl ?_
  refine WL_nil ?_
  refine WP_seq ?_
  refine WP_region ?_
  refine WL_pure v4_0 (R_mv rfl) rfl rfl ?_
  refine WL_eff rfl rfl (St_S0 (S_bsl (k := kd_l_u8) (l := [((preimage a1_kind a2_parts), v4_0)]) hM4 rfl (by intro p hp; simp only [List.mem_cons, List.not_mem_nil, or_false] at hp; subst hp; exact hO4_0.V) rfl Try.underlying87 ty55 rfl rfl) ?_)
  rintro v7 w7 K7 (hO7 : Own kd_l_u8 55 w7 K7 [(preimage a1_kind a2_parts)] v7) hS7 hM7 hg7
  have hE7 := hE4.andN hS7
  obtain ⟨hp10, h⟩ := h
  refine WL_eff rfl rfl (St_call (R_call Try.call68 rfl) ((ShaSum_c hM7 hO7.V hp10).mono ?_))
  rintro _ w9 ⟨K9, v9_0, rfl, hS9, hM9, hV9_0⟩
  refine ⟨v9_0, rfl, ?_⟩
  have hE9 := hE7.andN hS9
  have h := h hV9_0.wf
  refine WL_eff rfl rfl (St_B (S_alloc hM9 ty31) ?_)
  rintro b12 w12 (hB12 : Bx kd_a32_u8 _ _ _ _ _ (List.replicate 32 0)) hS12 hM12 hge12
  have hE12 := hE9.andN hS12
  have hR14 := (((hB2.extN hS4).extN hS7).extN hS9)
  refine WL_eff rfl rfl (St_St (S_stB (Foc.id _) hM12 rfl rfl (hV9_0.mono hS12.le) ty31 hB12 (by first | rfl | simp | omega)) ?_)
  rintro w15 (hB15 : Bx kd_a32_u8 _ _ b12 [] [] (sha256 [(preimage a1_kind a2_parts)])) hS15 hM15
  have hE15 := hE12.comp hS15 (fun c hx hlt => (by subst hx; exact (fun hlt => absurd hlt (Nat.not_lt.2 (Nat.le_trans hE9.size hge12))) hlt))
  refine WL_nil ?_
  refine WP_seq ?_
  refine WP_seq ?_
  refine WP_region ?_
  refine WL_pure (.pointer none) (R_mv rfl) rfl rfl ?_
  refine WL_pure (.bool false) (R_pne0 rfl rfl Try.underlying37) rfl rfl ?_
  refine WL_nil ?_
  refine WP_cond false rfl (fun hc => by cases hc) (fun _ => ?_)
  refine WP_skip ?_
  refine WP_seq ?_
  refine WP_region ?_
  refine WL_L hM15 (S_ldB (Foc.id _) rfl ty31 hB15 (by first | rfl | simp | omega) (fun h => h)) rfl rfl ?_
  rintro v16 (hV16 : kd_a32_u8.V _ (sha256 [(preimage a1_kind a2_parts)]) _)
  have hR19 := ((((hB2.extN hS4).extN hS7).extN hS9).extN hS12)
  have hR20 := (hR19.ext hS15 (fun hx => (fun he => (ne_new hge12 hR14.lt) he.symm) hx))
  refine WL_eff rfl rfl (St_St (S_stB (Foc.id _) hM15 rfl rfl hV16 ty31 hR20 (by first | rfl | simp | omega)) ?_)
  rintro w18 (hB18 : Bx kd_a32_u8 _ _ b2 [] [] (sha256 [(preimage a1_kind a2_parts)])) hS18 hM18
  have hE18 := hE15.comp hS18 (fun c hx hlt => (by subst hx; exact (fun hlt => absurd hlt (Nat.not_lt.2 (Nat.le_trans hE0.size hge2))) hlt))
  refine WL_nil ?_
  refine WP_ret ?_
  refine endS_ret hR (resE_B rfl rfl ty31 hB18) ?_
  rintro v21 hV21
  exact ⟨K9, v21, (sha256 [(preimage a1_kind a2_parts)]), rfl, h, hE18, hM18, hV21⟩
theorem OfN_c {w0 : World} {K0 : Ghost} {a1_kind_v : Value} {a1_kind : Int} {a2_parts_v : Value} {a2_parts : (List (List UInt8))} (hM0 : Models w0 K0) (h_a1_kind : (Kd.int .i64).V K0 a1_kind a1_kind_v) (h_a2_parts : kd_l_l_u8.V K0 a2_parts a2_parts_v) (hp : 1 + blobRoom a2_parts ≤ 140737488355328) : Calls Try.prog 63 #[(.pointer none), a1_kind_v, a2_parts_v] w0 (fun e w' => ∃ (K' : Ghost) (r0 : Value), e = .returned r0 ∧ Ext NX w0 K0 w' K' ∧ Models w' K' ∧ kd_a32_u8.V K' (sealOf a1_kind a2_parts) r0) := by
  refine (OfN_walk hM0 h_a1_kind h_a2_parts (OfN_ok h_a1_kind.wf h_a2_parts.wf hp)).mono ?_
  rintro _ w' ⟨K', r0, o0, rfl, rfl, hF⟩
  exact ⟨K', r0, rfl, hF⟩
def CallsN_VC  (Q : Int → Prop) : Prop :=
  Q 0
theorem CallsN_ok  : CallsN_VC  (fun o0 => o0 = (0 : Int)) := by
  rfl

theorem CallsN_walk {w0 : World} {K0 : Ghost}  {Q : Int → Prop} (hM0 : Models w0 K0)  (h : CallsN_VC  Q) : Calls Try.prog 28 #[(.pointer none)] w0 (fun e w' => ∃ (K' : Ghost) (r0 : Value) (o0 : Int), e = .returned r0 ∧ Q o0 ∧ Ext NX w0 K0 w' K' ∧ Models w' K' ∧ (Kd.int .i64).V K' o0 r0) := by
  unfold CallsN_VC at h
  have hE0 : Ext NX w0 K0 w0 K0 := Ext.refl _ _ _
  refine calls_gen fun R hR => ?_
  refine calls_env (args := [(.pointer none)]) Try.func28 rfl (Nat.le_of_ble_eq_true rfl) ?_
  refine WP_seq ?_
  refine WP_region ?_
  refine WL_pure (.int .i64 0) (R_as rfl) rfl rfl ?_
  refine WL_nil ?_
  refine WP_seq ?_
  refine WP_seq ?_
  refine WP_region ?_
  refine WL_pure (.pointer none) (R_mv rfl) rfl rfl ?_
  refine WL_pure (.bool true) (R_peq0 rfl rfl Try.underlying37) rfl rfl ?_
  refine WL_nil ?_
  refine WP_cond true rfl (fun _ => ?_) (fun hc => by cases hc)
  refine WP_seq ?_
  refine WP_region ?_
  refine WL_pure (.int .i64 0) (R_as rfl) rfl rfl ?_
  refine WL_nil ?_
  refine WP_ret ?_
  exact endR_ret hR (v := (.int .i64 0)) (resE_1 rfl rfl) ⟨K0, (.int .i64 0), 0, rfl, h, hE0, hM0, (int_V (show (Kd.int .i64).wf 0 from by constructor <;> decide))⟩
theorem CallsN_c {w0 : World} {K0 : Ghost}  (hM0 : Models w0 K0)  : Calls Try.prog 28 #[(.pointer none)] w0 (fun e w' => ∃ (K' : Ghost) (r0 : Value), e = .returned r0 ∧ Ext NX w0 K0 w' K' ∧ Models w' K' ∧ (Kd.int .i64).V K' (0 : Int) r0) := by
  refine (CallsN_walk hM0  (CallsN_ok)).mono ?_
  rintro _ w' ⟨K', r0, o0, rfl, rfl, hF⟩
  exact ⟨K', r0, rfl, hF⟩
theorem Of_c {w0 : World} {K0 : Ghost} {a0_k_v : Value} {a0_k_F : Nat → Prop} {a0_k : BookA} {a1_kind_v : Value} {a1_kind : Int} {a2_parts_v : Value} {a2_parts : (List (List UInt8))} (hM0 : Models w0 K0) (h_a0_k : BookR w0 K0 a0_k_v a0_k_F a0_k) (h_a1_kind : (Kd.int .i64).V K0 a1_kind a1_kind_v) (h_a2_parts : kd_l_l_u8.V K0 a2_parts a2_parts_v) (hp : 1 + blobRoom a2_parts ≤ 140737488355328 ∧ bookRoom a0_k) : Calls Try.prog 63 #[a0_k_v, a1_kind_v, a2_parts_v] w0 (fun e w' => ∃ (K' : Ghost) (r0 : Value) (F0 : Nat → Prop), e = .returned r0 ∧ Ext a0_k_F w0 K0 w' K' ∧ Models w' K' ∧ kd_a32_u8.V K' (sealOf a1_kind a2_parts) r0 ∧ BookR w' K' a0_k_v F0 (bookOf a0_k a1_kind a2_parts) ∧ (∀ g, F0 g → a0_k_F g ∨ w0.heap.size ≤ g)) := by
  cases a0_k with
  | none =>
    obtain ⟨rfl, rfl⟩ := h_a0_k
    refine (OfN_c hM0 h_a1_kind h_a2_parts hp.1).mono ?_
    rintro _ w' ⟨K', r0, rfl, hE, hM, hr0⟩
    exact ⟨K', r0, NX, rfl, hE, hM, hr0, ⟨rfl, rfl⟩, fun g hg => hg.elim⟩
  | some x =>
    obtain ⟨b, pre, post, lv, mv, m, rfl, hB, hO, hm, hi, hF, hlt⟩ := h_a0_k
    refine (OfB_c hM0 hB hO hm h_a1_kind h_a2_parts ⟨hi, hp.1, hp.2 x rfl⟩).mono ?_
    rintro _ w' ⟨K', r0, u0, u1, rfl, hE, hM, hr0, hB', hO', hx, hm', hy⟩
    refine ⟨K', r0, _, rfl, hE.weak (fun g hg hx => hF g hx), hM, hr0, BookE.mk hB' hO' hm' (addInv hi _ _), fun g hg => ?_⟩
    rcases hg with rfl | hg | hg
    · exact .inl (hF _ (.inl rfl))
    · exact (hx g hg).imp (fun h => hF g (.inr (.inl h))) id
    · exact (hy g hg).imp (fun h => hF g (.inr (.inr h))) id

theorem CallsO_c {w0 : World} {K0 : Ghost} {a0_k_v : Value} {a0_k_F : Nat → Prop} {a0_k : BookA} (hM0 : Models w0 K0) (h_a0_k : BookR w0 K0 a0_k_v a0_k_F a0_k) : Calls Try.prog 28 #[a0_k_v] w0 (fun e w' => ∃ (K' : Ghost) (r0 : Value), e = .returned r0 ∧ Ext NX w0 K0 w' K' ∧ Models w' K' ∧ (Kd.int .i64).V K' (bookCalls a0_k) r0) := by
  cases a0_k with
  | none =>
    obtain ⟨rfl, rfl⟩ := h_a0_k
    exact (CallsN_c hM0  )
  | some x =>
    obtain ⟨b, pre, post, lv, mv, m, rfl, hB, hO, hm, hi, hF, hlt⟩ := h_a0_k
    exact (Calls_c hM0 hB hO hm  )

end Go.Proofs.Ytkffegaofdpkiaa

/- Package seal, out of the old form. -/
set_option linter.unusedVariables false
set_option maxRecDepth 100000
set_option maxHeartbeats 2000000
namespace Go.Proofs.Ytkffegaofdpkiaa
open Go Go.RowKit Go.Inc
noncomputable def Of_C : Ctr := ⟨[.bk 80 true, .v (.int .i64), .v (.sl (.sl .byte))], [.v (.arr 32 .byte)], some (fun a => (fun (a0_k : BookA) (a1_kind : Int) (a2_parts : List (List UInt8)) => (1 + blobRoom a2_parts ≤ 140737488355328 ∧ bookRoom a0_k : Prop)) a.1 a.2.1 a.2.2.1), fun a => (fun (a0_k : BookA) (a1_kind : Int) (a2_parts : List (List UInt8)) => (((sealOf a1_kind a2_parts), ()), ((bookOf a0_k a1_kind a2_parts), ()))) a.1 a.2.1 a.2.2.1⟩
theorem Of_k : Of_C.valid Try.prog 63 := br_bk (fun _ => rfl) (fun _ => rfl) fun a hp θ v F vs w K hM hB hv => by
  obtain ⟨v1, vs, rfl, h1, v2, vs, rfl, h2, hnil⟩ := hv
  have hnil' : vs = [] := hnil
  subst hnil'
  refine (Of_c hM hB (rel_out (t := .int .i64) h1 rfl) (rel_out (t := .sl (.sl .byte)) h2 rfl) hp).mono ?_
  rintro ed w' ⟨K', r0, F0, rfl, hE, hM', hr, hB', hg⟩
  exact ⟨K', [r0], F0, rfl, hE, hM', fun θ' => relL1 (SVal.of_rel (t := .arr 32 .byte) hr), hB', hg⟩
noncomputable def CallsO_C : Ctr := ⟨[.bk 80 false], [.v (.int .i64)], none, fun a => (fun (a0_k : BookA) => (((bookCalls a0_k), ()), (()))) a.1⟩
theorem CallsO_k : CallsO_C.valid Try.prog 28 := br_bkr (fun _ => rfl) (fun _ => rfl) fun a hp θ v F vs w K hM hB hv => by
  have hnil' : vs = [] := hv
  subst hnil'
  refine (CallsO_c hM hB).mono ?_
  rintro ed w' ⟨K', r0, rfl, hE, hM', hr⟩
  exact ⟨K', [r0], rfl, hE, hM', fun θ' => relL1 (SVal.of_rel (t := .int .i64) hr)⟩
end Go.Proofs.Ytkffegaofdpkiaa

/- Each function that stands here: what it is asked and leaves (_C), its condition (_VC), that it holds (_ok), its contract (_c). -/
set_option linter.unusedVariables false
set_option maxRecDepth 100000
set_option maxHeartbeats 20000000
namespace Go.Proofs.Ytkffegaofdpkiaa
open Go Go.RowKit Go.Inc
noncomputable def Half_C : Ctr := ⟨[.v (.int .i64)], [.v (.int .i64)], none, fun a => (fun (a0_n : Int) => ((((half a0_n.toNat : Nat) : Int), ()), (()))) a.1⟩
noncomputable def Half_X : Fx := ⟨seat, some bkT, fns, [], [], [], []⟩
def Half_VC (a0_n : Int) (Q : Int → Prop) : Prop :=
  (a0_n < (2 : Int) → Q (0 : Int)) ∧ (¬a0_n < (2 : Int) → ∃ (x0 : Int → Prop), ∃ (x1 : Int → Nat), x0 (1 : Int) ∧ ∀ (x2 : Int), x0 x2 → (Kd.int IntKind.i64).wf x2 → (x2 ≤ IntKind.i64.wrap ((IntKind.i64.wrap (a0_n - (1 : Int))).tdiv (2 : Int)) → x0 (IntKind.i64.wrap (x2 * (2 : Int))) ∧ x1 (IntKind.i64.wrap (x2 * (2 : Int))) < x1 x2) ∧ (¬x2 ≤ IntKind.i64.wrap ((IntKind.i64.wrap (a0_n - (1 : Int))).tdiv (2 : Int)) → Q x2))
theorem Half_ok {a0_n : Int} (w_0 : (Ty.kd (.int .i64)).wf a0_n) : Half_VC a0_n (fun o0 => o0 = ((half a0_n.toNat : Nat) : Int)) := by
  have hn1 : a0_n ≤ 9223372036854775807 := w_0.2
  unfold Half_VC
  refine ⟨fun h => ?_, fun h => ?_⟩
  · rw [half_small (by omega)]
    rfl
  · have e1 : IntKind.i64.wrap (a0_n - 1) = a0_n - 1 := wrap_id (wf64 (by omega) (by omega))
    have e2 : (a0_n - 1).tdiv 2 = (a0_n - 1) / 2 := Int.tdiv_eq_ediv_of_nonneg (by omega)
    have e3 : IntKind.i64.wrap ((a0_n - 1) / 2) = (a0_n - 1) / 2 := wrap_id (wf64 (by omega) (by omega))
    rw [e1, e2, e3]
    refine ⟨fun h => ∃ j p : Nat, p = 2 ^ j ∧ h = (p : Int) ∧ (p : Int) < a0_n, fun h => (a0_n - h).toNat, ⟨0, 1, rfl, rfl, by omega⟩, ?_⟩
    rintro x ⟨j, p, hp, rfl, hlt⟩ _
    have hp1 : 1 ≤ p := by rw [hp]; exact Nat.one_le_two_pow
    refine ⟨fun hle => ?_, fun hgt => ?_⟩
    · have e4 : IntKind.i64.wrap ((p : Int) * 2) = ((2 * p : Nat) : Int) := by
        rw [wrap_id (wf64 (by omega) (by omega))]
        omega
      rw [e4]
      exact ⟨⟨j + 1, 2 * p, by rw [hp, Nat.pow_succ]; omega, rfl, by omega⟩, by show (a0_n - ((2 * p : Nat) : Int)).toNat < (a0_n - (p : Int)).toNat; omega⟩
    · have := half_of (n := a0_n.toNat) (j := j) (by rw [← hp]; omega) (by rw [Nat.pow_succ, ← hp]; omega)
      show (p : Int) = ((half a0_n.toNat : Nat) : Int)
      rw [this, ← hp]
theorem Half_eq : (∀ a, Half_C.pre a → PM.wfP Half_C.pm a (fvc Half_X 200 21 Half_C a (eqO Half_C a))) = (∀ a : Int × Unit, True → (Ty.kd (.int .i64)).wf a.1 → Half_VC a.1 (fun o0 => o0 = ((half (a.1).toNat : Nat) : Int))) := by kernel_rfl
theorem Half_k : Half_C.valid Try.prog 21 := ctr_of (X := Half_X) (ok_of seat_ok (fun b hb => by cases hb; exact bkT_ok) fns_ok trivial) 200 (Half_eq.mpr fun a hp w_0 => @Half_ok a.1 w_0)
noncomputable def tnode_C : Ctr := ⟨[.bk 80 true, .v (.sl (.arr 32 .byte))], [.v (.arr 32 .byte)], some (fun a => (fun (a0_k : BookA) (a1_l : List (List UInt8)) => (a1_l.length ≤ 1048576 ∧ bookRoom a0_k : Prop)) a.1 a.2.1), fun a => (fun (a0_k : BookA) (a1_l : List (List UInt8)) => (((sealOf 2 a1_l), ()), ((bookOf a0_k 2 a1_l), ()))) a.1 a.2.1⟩
noncomputable def tnode_X : Fx := ⟨seat, some bkT, fns, [(63, Of_C)], [], [], []⟩
def tnode_VC (a0_k : BookA) (a1_l : List (List UInt8)) (Q : (List UInt8) → BookA → Prop) : Prop :=
  ∃ (x0 : List (List UInt8) → Int → Prop), ∃ (x1 : List (List UInt8) → Int → Nat), x0 ([] : List (List UInt8)) (0 : Int) ∧ ∀ (x2 : List (List UInt8)) (x3 : Int), x0 x2 x3 → Ty.byte.sl.kd.sl.wf x2 → (Kd.int IntKind.i64).wf x3 → (x3 < (a1_l.length : Int) → ((0 : Int) ≤ x3 ∧ x3 < (a1_l.length : Int)) ∧ (x2.length + (ix a1_l x3 :: ([] : List (List UInt8))).length) * (24 : Nat) ≤ (140737488355328 : Nat) ∧ x3 < (9223372036854775807 : Int) ∧ x0 (x2 ++ ix a1_l x3 :: ([] : List (List UInt8))) (x3 + (1 : Int)) ∧ x1 (x2 ++ ix a1_l x3 :: ([] : List (List UInt8))) (x3 + (1 : Int)) < x1 x2 x3) ∧ (¬x3 < (a1_l.length : Int) → ((1 : Nat) + blobRoom x2 ≤ (140737488355328 : Nat) ∧ bookRoom a0_k) ∧ ((Ty.arr (32 : Nat) Ty.byte).kd.wf (sealOf (2 : Int) x2) → Q (sealOf (2 : Int) x2) (bookOf a0_k (2 : Int) x2)))
theorem tnode_ok {a0_k : BookA} {a1_l : List (List UInt8)} (w_0 : (Ty.kd (.sl (.arr 32 .byte))).wf a1_l) (hp : a1_l.length ≤ 1048576 ∧ bookRoom a0_k) : tnode_VC a0_k a1_l (fun o0 o1 => o0 = (sealOf 2 a1_l) ∧ o1 = (bookOf a0_k 2 a1_l)) := by
  unfold tnode_VC
  refine ⟨fun parts i => ∃ j : Nat, i = (j : Int) ∧ j ≤ a1_l.length ∧ parts = a1_l.take j, fun _ i => a1_l.length - i.toNat, ⟨0, rfl, by omega, rfl⟩, ?_⟩
  rintro parts i ⟨j, rfl, hj, rfl⟩ _ _
  have hp1 := hp.1
  refine ⟨fun hlt => ⟨⟨by omega, hlt⟩, by simp only [List.length_take, List.length_cons, List.length_nil]; omega, by omega, ⟨j + 1, by omega, by omega, (take_step hlt).symm⟩, by show a1_l.length - ((j : Int) + 1).toNat < a1_l.length - (j : Int).toNat; omega⟩, fun hge => ?_⟩
  have : j = a1_l.length := by omega
  subst this
  rw [List.take_length]
  have hr := blobRoom32 (l := a1_l) (fun x hx => (w_0.2 x hx).1)
  exact ⟨⟨by omega, hp.2⟩, fun _ => ⟨rfl, rfl⟩⟩
theorem tnode_eq : (∀ a, tnode_C.pre a → PM.wfP tnode_C.pm a (fvc tnode_X 200 46 tnode_C a (eqO tnode_C a))) = (∀ a : BookA × (List (List UInt8)) × Unit, ((a.2.1).length ≤ 1048576 ∧ bookRoom (a.1)) → (Ty.kd (.sl (.arr 32 .byte))).wf a.2.1 → tnode_VC a.1 a.2.1 (fun o0 o1 => o0 = (sealOf 2 (a.2.1)) ∧ o1 = (bookOf (a.1) 2 (a.2.1)))) := by kernel_rfl
theorem tnode_k : tnode_C.valid Try.prog 46 := ctr_of (X := tnode_X) (ok_of seat_ok (fun b hb => by cases hb; exact bkT_ok) fns_ok ⟨Of_k, trivial⟩) 200 (tnode_eq.mpr fun a hp w_0 => @tnode_ok a.1 a.2.1 w_0 hp)
noncomputable def gnode_C : Ctr := ⟨[.bk 80 true, .v (.sl (.arr 32 .byte))], [.v (.arr 32 .byte)], some (fun a => (fun (a0_k : BookA) (a1_l : List (List UInt8)) => (a1_l.length ≤ 1048576 ∧ bookRoom a0_k : Prop)) a.1 a.2.1), fun a => (fun (a0_k : BookA) (a1_l : List (List UInt8)) => (((sealOf 2 a1_l), ()), ((bookOf a0_k 2 a1_l), ()))) a.1 a.2.1⟩
noncomputable def gnode_X : Fx := ⟨seat, some bkT, fns, [(63, Of_C)], [], [], []⟩
def gnode_VC (a0_k : BookA) (a1_l : List (List UInt8)) (Q : (List UInt8) → BookA → Prop) : Prop :=
  ∃ (x0 : List (List UInt8) → Int → Prop), ∃ (x1 : List (List UInt8) → Int → Nat), x0 ([] : List (List UInt8)) (0 : Int) ∧ ∀ (x2 : List (List UInt8)) (x3 : Int), x0 x2 x3 → Ty.byte.sl.kd.sl.wf x2 → (Kd.int IntKind.i64).wf x3 → (x3 < (a1_l.length : Int) → ((0 : Int) ≤ x3 ∧ x3 < (a1_l.length : Int)) ∧ (x2.length + (ix a1_l x3 :: ([] : List (List UInt8))).length) * (24 : Nat) ≤ (140737488355328 : Nat) ∧ x3 < (9223372036854775807 : Int) ∧ x0 (x2 ++ ix a1_l x3 :: ([] : List (List UInt8))) (x3 + (1 : Int)) ∧ x1 (x2 ++ ix a1_l x3 :: ([] : List (List UInt8))) (x3 + (1 : Int)) < x1 x2 x3) ∧ (¬x3 < (a1_l.length : Int) → ((1 : Nat) + blobRoom x2 ≤ (140737488355328 : Nat) ∧ bookRoom a0_k) ∧ ((Ty.arr (32 : Nat) Ty.byte).kd.wf (sealOf (2 : Int) x2) → Q (sealOf (2 : Int) x2) (bookOf a0_k (2 : Int) x2)))
theorem gnode_ok {a0_k : BookA} {a1_l : List (List UInt8)} (w_0 : (Ty.kd (.sl (.arr 32 .byte))).wf a1_l) (hp : a1_l.length ≤ 1048576 ∧ bookRoom a0_k) : gnode_VC a0_k a1_l (fun o0 o1 => o0 = (sealOf 2 a1_l) ∧ o1 = (bookOf a0_k 2 a1_l)) := by
  unfold gnode_VC
  refine ⟨fun parts i => ∃ j : Nat, i = (j : Int) ∧ j ≤ a1_l.length ∧ parts = a1_l.take j, fun _ i => a1_l.length - i.toNat, ⟨0, rfl, by omega, rfl⟩, ?_⟩
  rintro parts i ⟨j, rfl, hj, rfl⟩ _ _
  have hp1 := hp.1
  refine ⟨fun hlt => ⟨⟨by omega, hlt⟩, by simp only [List.length_take, List.length_cons, List.length_nil]; omega, by omega, ⟨j + 1, by omega, by omega, (take_step hlt).symm⟩, by show a1_l.length - ((j : Int) + 1).toNat < a1_l.length - (j : Int).toNat; omega⟩, fun hge => ?_⟩
  have : j = a1_l.length := by omega
  subst this
  rw [List.take_length]
  have hr := blobRoom32 (l := a1_l) (fun x hx => (w_0.2 x hx).1)
  exact ⟨⟨by omega, hp.2⟩, fun _ => ⟨rfl, rfl⟩⟩
theorem gnode_eq : (∀ a, gnode_C.pre a → PM.wfP gnode_C.pm a (fvc gnode_X 200 56 gnode_C a (eqO gnode_C a))) = (∀ a : BookA × (List (List UInt8)) × Unit, ((a.2.1).length ≤ 1048576 ∧ bookRoom (a.1)) → (Ty.kd (.sl (.arr 32 .byte))).wf a.2.1 → gnode_VC a.1 a.2.1 (fun o0 o1 => o0 = (sealOf 2 (a.2.1)) ∧ o1 = (bookOf (a.1) 2 (a.2.1)))) := by kernel_rfl
theorem gnode_k : gnode_C.valid Try.prog 56 := ctr_of (X := gnode_X) (ok_of seat_ok (fun b hb => by cases hb; exact bkT_ok) fns_ok ⟨Of_k, trivial⟩) 200 (gnode_eq.mpr fun a hp w_0 => @gnode_ok a.1 a.2.1 w_0 hp)
noncomputable def Root_C : Ctr := ⟨[.bk 80 true, .v (.sl (.arr 32 .byte))], [.v (.arr 32 .byte)], some (fun a => (fun (a0_k : BookA) (a1_l : List (List UInt8)) => (a1_l.length ≤ 1048576 ∧ bookUpto a0_k a1_l.length : Prop)) a.1 a.2.1), fun a => (fun (a0_k : BookA) (a1_l : List (List UInt8)) => (((rootS a1_l), ()), ((rootBk a0_k a1_l), ()))) a.1 a.2.1⟩
noncomputable def Root_Cn (nn : Nat) : Ctr := ⟨[.bk 80 true, .v (.sl (.arr 32 .byte))], [.v (.arr 32 .byte)], some (fun a => (fun (a0_k : BookA) (a1_l : List (List UInt8)) => ((a1_l.length ≤ 1048576 ∧ bookUpto a0_k a1_l.length) ∧ a1_l.length < nn : Prop)) a.1 a.2.1), fun a => (fun (a0_k : BookA) (a1_l : List (List UInt8)) => (((rootS a1_l), ()), ((rootBk a0_k a1_l), ()))) a.1 a.2.1⟩
noncomputable def Root_X (nn : Nat) : Fx := ⟨seat, some bkT, fns, [(25, Root_Cn nn), (46, tnode_C), (21, Half_C)], [], [], [(8, [0, 1], [.o 0 3, .o 1 3, .o 2 2, .o 3 2, .o 4 2, .o 5 2, .o 6 1, .o 7 1, .o 8 1, .o 9 1])]⟩
def Root_VC (nn : Nat) (a0_k : BookA) (a1_l : List (List UInt8)) (Q : (List UInt8) → BookA → Prop) : Prop :=
  ((a1_l.length : Int) = (0 : Int) → (([] : List (List UInt8)).length ≤ (1048576 : Nat) ∧ bookRoom a0_k) ∧ ((Ty.arr (32 : Nat) Ty.byte).kd.wf (sealOf (2 : Int) ([] : List (List UInt8))) → Q (sealOf (2 : Int) ([] : List (List UInt8))) (bookOf a0_k (2 : Int) ([] : List (List UInt8))))) ∧ (¬(a1_l.length : Int) = (0 : Int) → ((a1_l.length : Int) = (1 : Int) → ((0 : Int) ≤ (0 : Int) ∧ (0 : Int) < (a1_l.length : Int)) ∧ Q (ix a1_l (0 : Int)) a0_k) ∧ (¬(a1_l.length : Int) = (1 : Int) → (Ty.int IntKind.i64).kd.wf (half (a1_l.length : Int).toNat : Int) → ((0 : Int) ≤ (half (a1_l.length : Int).toNat : Int) ∧ (half (a1_l.length : Int).toNat : Int) ≤ (a1_l.length : Int)) ∧ (((List.take (half (a1_l.length : Int).toNat : Int).toNat a1_l).length ≤ (1048576 : Nat) ∧ bookUpto a0_k (List.take (half (a1_l.length : Int).toNat : Int).toNat a1_l).length) ∧ (List.take (half (a1_l.length : Int).toNat : Int).toNat a1_l).length < nn) ∧ ((Ty.arr (32 : Nat) Ty.byte).kd.wf (rootS (List.take (half (a1_l.length : Int).toNat : Int).toNat a1_l)) → ((0 : Int) ≤ (half (a1_l.length : Int).toNat : Int) ∧ (half (a1_l.length : Int).toNat : Int) ≤ (a1_l.length : Int)) ∧ (((List.drop (half (a1_l.length : Int).toNat : Int).toNat a1_l).length ≤ (1048576 : Nat) ∧ bookUpto (rootBk a0_k (List.take (half (a1_l.length : Int).toNat : Int).toNat a1_l)) (List.drop (half (a1_l.length : Int).toNat : Int).toNat a1_l).length) ∧ (List.drop (half (a1_l.length : Int).toNat : Int).toNat a1_l).length < nn) ∧ ((Ty.arr (32 : Nat) Ty.byte).kd.wf (rootS (List.drop (half (a1_l.length : Int).toNat : Int).toNat a1_l)) → ((rootS (List.take (half (a1_l.length : Int).toNat : Int).toNat a1_l) :: rootS (List.drop (half (a1_l.length : Int).toNat : Int).toNat a1_l) :: ([] : List (List UInt8))).length ≤ (1048576 : Nat) ∧ bookRoom (rootBk (rootBk a0_k (List.take (half (a1_l.length : Int).toNat : Int).toNat a1_l)) (List.drop (half (a1_l.length : Int).toNat : Int).toNat a1_l))) ∧ ((Ty.arr (32 : Nat) Ty.byte).kd.wf (sealOf (2 : Int) (rootS (List.take (half (a1_l.length : Int).toNat : Int).toNat a1_l) :: rootS (List.drop (half (a1_l.length : Int).toNat : Int).toNat a1_l) :: ([] : List (List UInt8)))) → Q (sealOf (2 : Int) (rootS (List.take (half (a1_l.length : Int).toNat : Int).toNat a1_l) :: rootS (List.drop (half (a1_l.length : Int).toNat : Int).toNat a1_l) :: ([] : List (List UInt8)))) (bookOf (rootBk (rootBk a0_k (List.take (half (a1_l.length : Int).toNat : Int).toNat a1_l)) (List.drop (half (a1_l.length : Int).toNat : Int).toNat a1_l)) (2 : Int) (rootS (List.take (half (a1_l.length : Int).toNat : Int).toNat a1_l) :: rootS (List.drop (half (a1_l.length : Int).toNat : Int).toNat a1_l) :: ([] : List (List UInt8)))))))))
theorem Root_ok {nn : Nat} {a0_k : BookA} {a1_l : List (List UInt8)} (w_0 : (Ty.kd (.sl (.arr 32 .byte))).wf a1_l) (hp : (a1_l.length ≤ 1048576 ∧ bookUpto a0_k a1_l.length) ∧ a1_l.length < nn + 1) : Root_VC nn a0_k a1_l (fun o0 o1 => o0 = (rootS a1_l) ∧ o1 = (rootBk a0_k a1_l)) := by
  unfold Root_VC
  simp only [Int.toNat_natCast]
  refine ⟨fun h => ⟨⟨by simp, hp.1.2.room⟩, fun _ => ?_⟩, fun h => ⟨fun h1 => ⟨⟨by omega, by omega⟩, ?_⟩, fun h1 _ => ?_⟩⟩
  · have e : a1_l = [] := List.length_eq_zero_iff.1 (by omega)
    subst e
    rw [rootS_nil, rootBk_nil]
    exact ⟨rfl, rfl⟩
  · obtain ⟨x, rfl⟩ := List.length_eq_one_iff.1 (by omega : a1_l.length = 1)
    rw [rootS_one, rootBk_one]
    exact ⟨rfl, rfl⟩
  · have b2 : 2 ≤ a1_l.length := by omega
    have a1 := half_pos b2
    have a2 := half_lt b2
    have hp1 := hp.1.1
    have hp2 := hp.2
    have l1 : (a1_l.take (half a1_l.length)).length = half a1_l.length := by rw [List.length_take]; omega
    have l2 : (a1_l.drop (half a1_l.length)).length = a1_l.length - half a1_l.length := List.length_drop
    have u1 : bookUpto a0_k (a1_l.take (half a1_l.length)).length := hp.1.2.le (by omega)
    have u2 : bookUpto (rootBk a0_k (a1_l.take (half a1_l.length))) (a1_l.drop (half a1_l.length)).length := bookUpto.root _ (Nat.le_refl _) (by omega) (hp.1.2.le (by omega))
    have u3 := (bookUpto.root (n := 0) (l := a1_l.drop (half a1_l.length)) _ (Nat.le_refl _) (by omega) (u2.le (by omega))).room
    refine ⟨⟨by omega, by omega⟩, ⟨⟨by omega, u1⟩, by omega⟩, fun _ => ⟨⟨by omega, by omega⟩, ⟨⟨by omega, u2⟩, by omega⟩, fun _ => ⟨⟨by simp, u3⟩, fun _ => ?_⟩⟩⟩
    rw [rootS_two b2, rootBk_two _ b2]
    exact ⟨rfl, rfl⟩
theorem Root_eq (nn : Nat) : (∀ a, (Root_Cn (nn + 1)).pre a → PM.wfP (Root_Cn (nn + 1)).pm a (fvc (Root_X nn) 200 25 (Root_Cn (nn + 1)) a (eqO (Root_Cn (nn + 1)) a))) = (∀ a : BookA × (List (List UInt8)) × Unit, (((a.2.1).length ≤ 1048576 ∧ bookUpto (a.1) (a.2.1).length) ∧ (a.2.1).length < nn + 1) → (Ty.kd (.sl (.arr 32 .byte))).wf a.2.1 → Root_VC nn a.1 a.2.1 (fun o0 o1 => o0 = (rootS (a.2.1)) ∧ o1 = (rootBk (a.1) (a.2.1)))) := by kernel_rfl
theorem Root_kn : ∀ nn, (Root_Cn nn).valid Try.prog 25
  | 0 => fun a hp => absurd (And.right hp) (Nat.not_lt_zero _)
  | nn + 1 => ctr_of (X := Root_X nn) (ok_of seat_ok (fun b hb => by cases hb; exact bkT_ok) fns_ok ⟨Root_kn nn, tnode_k, Half_k, trivial⟩) 200 ((Root_eq nn).mpr fun a hp w_0 => @Root_ok nn a.1 a.2.1 w_0 hp)
theorem Root_k : Root_C.valid Try.prog 25 := valid_rec Root_kn (fun a hp => ⟨_, And.intro hp (Nat.lt_succ_self _)⟩)
noncomputable def RootN_C : Ctr := ⟨[.nil, .v (.sl (.arr 32 .byte))], [.v (.arr 32 .byte)], some (fun a => (fun (a1_l : List (List UInt8)) => (a1_l.length ≤ 1048576 : Prop)) a.2.1), fun a => (fun (a1_l : List (List UInt8)) => (((rootS a1_l), ()), (()))) a.2.1⟩
theorem RootN_k : RootN_C.valid Try.prog 25 :=
  nil_v Root_k (fun _ => rfl) (fun a θ θ' n n' K vs h => by
    obtain ⟨v0, vs, rfl, h0, h⟩ := h
    exact ⟨v0, _, rfl, SVal.of_rel (t := .sl (.arr 32 .byte)) (rel_out (t := .sl (.arr 32 .byte)) h0 rfl), h⟩) (fun _ => rfl) (fun a hp => ⟨hp, fun y h => by cases h⟩) (fun a _ => rfl)
noncomputable def may_C : Ctr := ⟨[.v (.int .i64), .v (.int .i64)], [.v .bool], none, fun a => (fun (a0_m : Int) (a1_n : Int) => ((decide (0 < a0_m ∧ a0_m ≤ a1_n), ()), (()))) a.1 a.2.1⟩
noncomputable def may_X : Fx := ⟨seat, some bkT, fns, [], [], [], []⟩
def may_VC (a0_m : Int) (a1_n : Int) (Q : Bool → Prop) : Prop :=
  ((0 : Int) < a0_m → Q (decide (a0_m ≤ a1_n))) ∧ (¬(0 : Int) < a0_m → Q false)
theorem may_ok {a0_m : Int} {a1_n : Int} (w_0 : (Ty.kd (.int .i64)).wf a0_m) (w_1 : (Ty.kd (.int .i64)).wf a1_n) : may_VC a0_m a1_n (fun o0 => o0 = decide (0 < a0_m ∧ a0_m ≤ a1_n)) := by
  unfold may_VC
  exact ⟨fun h => by simp [h], fun h => by simp [h]⟩
theorem may_eq : (∀ a, may_C.pre a → PM.wfP may_C.pm a (fvc may_X 200 50 may_C a (eqO may_C a))) = (∀ a : Int × Int × Unit, True → (Ty.kd (.int .i64)).wf a.1 → (Ty.kd (.int .i64)).wf a.2.1 → may_VC a.1 a.2.1 (fun o0 => o0 = decide (0 < (a.1) ∧ (a.1) ≤ (a.2.1)))) := by kernel_rfl
theorem may_k : may_C.valid Try.prog 50 := ctr_of (X := may_X) (ok_of seat_ok (fun b hb => by cases hb; exact bkT_ok) fns_ok trivial) 200 (may_eq.mpr fun a hp w_0 w_1 => @may_ok a.1 a.2.1 w_0 w_1)
noncomputable def parts_C : Ctr := ⟨[.v (.int .i64), .v (.int .i64)], [.ow 3 (.int .i64), .v (.pr (.int .i64) (.pr (.int .i64) (.int .i64)))], some (fun a => (fun (a0_m : Int) (a1_n : Int) => (0 < a0_m ∧ a0_m ≤ a1_n : Prop)) a.1 a.2.1), fun a => (fun (a0_m : Int) (a1_n : Int) => (((partsA a0_m.toNat a1_n.toNat), (partsL a0_m.toNat a1_n.toNat 1), ()), (()))) a.1 a.2.1⟩
noncomputable def parts_X : Fx := ⟨seat, some bkT, fns, [(21, Half_C)], [], [(3, [1], [])], [(10, [0, 1, 2, 3, 4, 5, 6, 7, 8, 9, 10, 11, 12], [.o 0 2, .o 1 2, .o 2 2, .o 3 1])]⟩
def parts_VC (a0_m : Int) (a1_n : Int) (Q : (List Int) → (Int × Int × Int) → Prop) : Prop :=
  ∃ (x0 : List Int → Int × Int × Int → Prop), ∃ (x1 : List Int → Int × Int × Int → Nat), x0 ([] : List Int) (a0_m, a1_n, (1 : Int)) ∧ ∀ (x2 : List Int) (x3 : Int × Int × Int), x0 x2 x3 → (Ty.int IntKind.i64).kd.sl.wf x2 → ((Ty.int IntKind.i64).pr ((Ty.int IntKind.i64).pr (Ty.int IntKind.i64))).kd.wf x3 → (x3.fst < x3.snd.fst → (Ty.int IntKind.i64).kd.wf (half x3.snd.fst.toNat : Int) → (x3.fst ≤ (half x3.snd.fst.toNat : Int) → (x2.length + ((1 : Int) :: ([] : List Int)).length) * (8 : Nat) ≤ (140737488355328 : Nat) ∧ x0 (x2 ++ (1 : Int) :: ([] : List Int)) (x3.fst, (half x3.snd.fst.toNat : Int), x3.snd.snd) ∧ x1 (x2 ++ (1 : Int) :: ([] : List Int)) (x3.fst, (half x3.snd.fst.toNat : Int), x3.snd.snd) < x1 x2 x3) ∧ (¬x3.fst ≤ (half x3.snd.fst.toNat : Int) → (x2.length + ((0 : Int) :: ([] : List Int)).length) * (8 : Nat) ≤ (140737488355328 : Nat) ∧ x0 (x2 ++ (0 : Int) :: ([] : List Int)) (IntKind.i64.wrap (x3.fst - (half x3.snd.fst.toNat : Int)), IntKind.i64.wrap (x3.snd.fst - (half x3.snd.fst.toNat : Int)), (0 : Int)) ∧ x1 (x2 ++ (0 : Int) :: ([] : List Int)) (IntKind.i64.wrap (x3.fst - (half x3.snd.fst.toNat : Int)), IntKind.i64.wrap (x3.snd.fst - (half x3.snd.fst.toNat : Int)), (0 : Int)) < x1 x2 x3)) ∧ (¬x3.fst < x3.snd.fst → Q x2 x3)
theorem parts_ok {a0_m : Int} {a1_n : Int} (w_0 : (Ty.kd (.int .i64)).wf a0_m) (w_1 : (Ty.kd (.int .i64)).wf a1_n) (hp : 0 < a0_m ∧ a0_m ≤ a1_n) : parts_VC a0_m a1_n (fun o0 o1 => o0 = (partsA a0_m.toNat a1_n.toNat) ∧ o1 = (partsL a0_m.toNat a1_n.toNat 1)) := by
  have hm1 : a0_m ≤ 9223372036854775807 := w_0.2
  have hn1 : a1_n ≤ 9223372036854775807 := w_1.2
  have hlen : (partsA a0_m.toNat a1_n.toNat).length ≤ 63 := partsA_len 63 (by omega) (by omega)
  unfold parts_VC
  refine ⟨fun out p => ∃ (m n : Nat) (w : Int), p = ((m : Int), (n : Int), w) ∧ 1 ≤ m ∧ m ≤ n ∧ (n : Int) ≤ a1_n ∧ out ++ partsA m n = partsA a0_m.toNat a1_n.toNat ∧ partsL m n w = partsL a0_m.toNat a1_n.toNat 1, fun _ p => p.2.1.toNat,
    ⟨a0_m.toNat, a1_n.toNat, 1, by rw [Int.toNat_of_nonneg (by omega), Int.toNat_of_nonneg (by omega)], by omega, by omega, by omega, rfl, rfl⟩, ?_⟩
  rintro out p ⟨m, n, w, rfl, h1, h2, h3, h4, h5⟩ _ _
  simp only [Int.toNat_natCast]
  have hol : out.length ≤ 63 := by rw [← h4, List.length_append] at hlen; omega
  refine ⟨fun hlt _ => ⟨fun hle => ?_, fun hgt => ?_⟩, fun hge => ?_⟩
  · have hlt' : m < n := by omega
    have hle' : m ≤ half n := by omega
    have a2 := half_lt (n := n) (by omega)
    rw [partsA_left hlt' hle'] at h4
    rw [partsL_left hlt' hle'] at h5
    exact ⟨by simp only [List.length_cons, List.length_nil]; omega, ⟨m, half n, w, rfl, h1, hle', by omega, by rw [← h4]; simp, h5⟩, by show ((half n : Nat) : Int).toNat < (n : Int).toNat; omega⟩
  · have hlt' : m < n := by omega
    have hgt' : ¬ m ≤ half n := by omega
    have a1 := half_pos (n := n) (by omega)
    rw [partsA_right hlt' hgt'] at h4
    rw [partsL_right hlt' hgt'] at h5
    have e1 : IntKind.i64.wrap ((m : Int) - ((half n : Nat) : Int)) = ((m - half n : Nat) : Int) := by
      rw [wrap_id (wf64 (by omega) (by omega))]
      omega
    have e2 : IntKind.i64.wrap ((n : Int) - ((half n : Nat) : Int)) = ((n - half n : Nat) : Int) := by
      rw [wrap_id (wf64 (by omega) (by omega))]
      omega
    rw [e1, e2]
    exact ⟨by simp only [List.length_cons, List.length_nil]; omega, ⟨m - half n, n - half n, 0, rfl, by omega, by omega, by omega, by rw [← h4]; simp, h5⟩, by show ((n - half n : Nat) : Int).toNat < (n : Int).toNat; omega⟩
  · rw [partsA_end (by omega)] at h4
    rw [partsL_end (by omega)] at h5
    exact ⟨by rw [← h4]; simp, h5⟩
theorem parts_eq : (∀ a, parts_C.pre a → PM.wfP parts_C.pm a (fvc parts_X 200 51 parts_C a (eqO parts_C a))) = (∀ a : Int × Int × Unit, (0 < (a.1) ∧ (a.1) ≤ (a.2.1)) → (Ty.kd (.int .i64)).wf a.1 → (Ty.kd (.int .i64)).wf a.2.1 → parts_VC a.1 a.2.1 (fun o0 o1 => o0 = (partsA (a.1).toNat (a.2.1).toNat) ∧ o1 = (partsL (a.1).toNat (a.2.1).toNat 1))) := by kernel_rfl
theorem parts_k : parts_C.valid Try.prog 51 := ctr_of (X := parts_X) (ok_of seat_ok (fun b hb => by cases hb; exact bkT_ok) fns_ok ⟨Half_k, trivial⟩) 200 (parts_eq.mpr fun a hp w_0 w_1 => @parts_ok a.1 a.2.1 w_0 w_1 hp)
noncomputable def Steps_C : Ctr := ⟨[.v (.int .i64), .v (.int .i64)], [.v (.int .i64)], none, fun a => (fun (a0_m : Int) (a1_n : Int) => (((stepsN a0_m.toNat a1_n.toNat), ()), (()))) a.1 a.2.1⟩
noncomputable def Steps_X : Fx := ⟨seat, some bkT, fns, [(50, may_C), (51, parts_C)], [], [], []⟩
def Steps_VC (a0_m : Int) (a1_n : Int) (Q : Int → Prop) : Prop :=
  (¬decide ((0 : Int) < a0_m ∧ a0_m ≤ a1_n) = true → Q (0 : Int)) ∧ (decide ((0 : Int) < a0_m ∧ a0_m ≤ a1_n) = true → ((0 : Int) < a0_m ∧ a0_m ≤ a1_n) ∧ ((Ty.int IntKind.i64).kd.sl.wf (partsA a0_m.toNat a1_n.toNat) → ((Ty.int IntKind.i64).pr ((Ty.int IntKind.i64).pr (Ty.int IntKind.i64))).kd.wf (partsL a0_m.toNat a1_n.toNat (1 : Int)) → Q (IntKind.i64.wrap (IntKind.i64.wrap (((partsA a0_m.toNat a1_n.toNat).length : Int) + (1 : Int)) - (partsL a0_m.toNat a1_n.toNat (1 : Int)).snd.snd))))
theorem Steps_ok {a0_m : Int} {a1_n : Int} (w_0 : (Ty.kd (.int .i64)).wf a0_m) (w_1 : (Ty.kd (.int .i64)).wf a1_n) : Steps_VC a0_m a1_n (fun o0 => o0 = (stepsN a0_m.toNat a1_n.toNat)) := by
  have hm1 : a0_m ≤ 9223372036854775807 := w_0.2
  have hn1 : a1_n ≤ 9223372036854775807 := w_1.2
  unfold Steps_VC
  refine ⟨fun h => ?_, fun h => ?_⟩
  · show (0 : Int) = stepsN a0_m.toNat a1_n.toNat
    unfold stepsN
    rw [if_neg (by simp at h; omega)]
  · have h' := of_decide_eq_true h
    refine ⟨h', fun _ _ => ?_⟩
    have hlen : (partsA a0_m.toNat a1_n.toNat).length ≤ 63 := partsA_len 63 (by omega) (by omega)
    have hw := partsL_w a1_n.toNat (m := a0_m.toNat) (n := a1_n.toNat) (w := 1) (Nat.le_refl _) (.inr rfl)
    show _ = stepsN a0_m.toNat a1_n.toNat
    unfold stepsN
    rw [if_pos (by omega), wrap_id (a := ((partsA a0_m.toNat a1_n.toNat).length : Int) + 1) (wf64 (by omega) (by omega)), wrap_id (wf64 (by omega) (by omega))]
theorem Steps_eq : (∀ a, Steps_C.pre a → PM.wfP Steps_C.pm a (fvc Steps_X 200 35 Steps_C a (eqO Steps_C a))) = (∀ a : Int × Int × Unit, True → (Ty.kd (.int .i64)).wf a.1 → (Ty.kd (.int .i64)).wf a.2.1 → Steps_VC a.1 a.2.1 (fun o0 => o0 = (stepsN (a.1).toNat (a.2.1).toNat))) := by kernel_rfl
theorem Steps_k : Steps_C.valid Try.prog 35 := ctr_of (X := Steps_X) (ok_of seat_ok (fun b hb => by cases hb; exact bkT_ok) fns_ok ⟨may_k, parts_k, trivial⟩) 200 (Steps_eq.mpr fun a hp w_0 w_1 => @Steps_ok a.1 a.2.1 w_0 w_1)
noncomputable def Rev32_C : Ctr := ⟨[.rw 31 (.arr 32 .byte) true], [], none, fun a => (fun (a0_s : List (List UInt8)) => ((()), (a0_s.reverse, ()))) a.1⟩
noncomputable def Rev32_X : Fx := ⟨seat, some bkT, fns, [], [], [(1, [0], [])], [(3, [0], [.o 0 3, .o 1 3, .o 2 3, .o 3 3, .o 4 2, .o 5 2, .o 6 2, .o 7 2, .o 8 2, .o 9 2, .o 10 2, .o 11 2, .o 12 2, .o 13 1, .o 14 3, .o 15 1])]⟩
def Rev32_VC (a0_s : List (List UInt8)) (Q : (List (List UInt8)) → Prop) : Prop :=
  ∃ (x0 : Int → Int → List (List UInt8) → Prop), ∃ (x1 : Int → Int → List (List UInt8) → Nat), x0 (0 : Int) (IntKind.i64.wrap ((a0_s.length : Int) - (1 : Int))) a0_s ∧ ∀ (x2 x3 : Int) (x4 : List (List UInt8)), x0 x2 x3 x4 → (Kd.int IntKind.i64).wf x2 → (Kd.int IntKind.i64).wf x3 → (Ty.arr (32 : Nat) Ty.byte).kd.sl.wf x4 → (x2 < x3 → ((0 : Int) ≤ x3 ∧ x3 < (x4.length : Int)) ∧ ((0 : Int) ≤ x2 ∧ x2 < (x4.length : Int)) ∧ ((0 : Int) ≤ x2 ∧ x2 < (x4.length : Int)) ∧ ((0 : Int) ≤ x3 ∧ x3 < ((x4.set x2.toNat (ix x4 x3)).length : Int)) ∧ x2 < (9223372036854775807 : Int) ∧ x0 (x2 + (1 : Int)) (IntKind.i64.wrap (x3 - (1 : Int))) ((x4.set x2.toNat (ix x4 x3)).set x3.toNat (ix x4 x2)) ∧ x1 (x2 + (1 : Int)) (IntKind.i64.wrap (x3 - (1 : Int))) ((x4.set x2.toNat (ix x4 x3)).set x3.toNat (ix x4 x2)) < x1 x2 x3 x4) ∧ (¬x2 < x3 → Q x4)
theorem Rev32_ok {a0_s : List (List UInt8)} (w_0 : (Ty.kd (.sl (.arr 32 .byte))).wf a0_s) : Rev32_VC a0_s (fun o0 => o0 = a0_s.reverse) := by
  have hL : a0_s.length ≤ LM := w_0.1
  unfold LM at hL
  unfold Rev32_VC
  refine ⟨fun i j x => ∃ k : Nat, i = (k : Int) ∧ j = (a0_s.length : Int) - 1 - (k : Int) ∧ 2 * k ≤ a0_s.length + 1 ∧ x.length = a0_s.length ∧ ∀ t, t < a0_s.length → x[t]? = if t < k ∨ a0_s.length ≤ t + k then a0_s[a0_s.length - 1 - t]? else a0_s[t]?, fun i j _ => (j - i + 1).toNat,
    ⟨0, rfl, by rw [wrap_id (wf64 (by omega) (by omega))]; omega, by omega, rfl, fun t ht => by rw [if_neg (by omega)]⟩, ?_⟩
  rintro i j x ⟨k, rfl, rfl, hk, hl, hx⟩ _ _ _
  refine ⟨fun hlt => ?_, fun hge => ?_⟩
  · have hk1 : k < a0_s.length - 1 - k := by omega
    have ej : (a0_s.length : Int) - 1 - (k : Int) = ((a0_s.length - 1 - k : Nat) : Int) := by omega
    have ew : IntKind.i64.wrap ((a0_s.length : Int) - 1 - (k : Int) - 1) = (a0_s.length : Int) - 1 - ((k + 1 : Nat) : Int) := by
      rw [wrap_id (wf64 (by omega) (by omega))]
      omega
    rw [ew, ej]
    simp only [Int.toNat_natCast]
    have hxk := hx k (by omega)
    rw [if_neg (by omega)] at hxk
    have hxj := hx (a0_s.length - 1 - k) (by omega)
    rw [if_neg (by omega)] at hxj
    have i0 : some (ix x (k : Int)) = a0_s[k]? := by rw [ixN (by omega), ← List.getElem?_eq_getElem, hxk]
    have i1 : some (ix x ((a0_s.length - 1 - k : Nat) : Int)) = a0_s[a0_s.length - 1 - k]? := by rw [ixN (by omega), ← List.getElem?_eq_getElem, hxj]
    refine ⟨⟨by omega, by omega⟩, ⟨by omega, by omega⟩, ⟨by omega, by omega⟩, ⟨by omega, by rw [List.length_set]; omega⟩, by omega, ⟨k + 1, by omega, rfl, by omega, by rw [List.length_set, List.length_set, hl], fun t ht => ?_⟩, ?_⟩
    · by_cases t1 : a0_s.length - 1 - k = t
      · subst t1
        rw [List.getElem?_set_self (by rw [List.length_set]; omega), i0, if_pos (by omega)]
        congr 1
        omega
      · rw [List.getElem?_set_ne t1]
        by_cases t2 : k = t
        · subst t2
          rw [List.getElem?_set_self (by omega), i1, if_pos (by omega)]
        · rw [List.getElem?_set_ne t2, hx t ht]
          have : (t < k ∨ a0_s.length ≤ t + k) ↔ (t < k + 1 ∨ a0_s.length ≤ t + (k + 1)) := by omega
          simp only [this]
    · show ((a0_s.length : Int) - 1 - ((k + 1 : Nat) : Int) - ((k : Int) + 1) + 1).toNat < (((a0_s.length - 1 - k : Nat) : Int) - (k : Int) + 1).toNat
      omega
  · show x = a0_s.reverse
    apply List.ext_getElem?
    intro t
    rcases Nat.lt_or_ge t a0_s.length with ht | ht
    · rw [hx t ht, List.getElem?_reverse ht]
      split
      · rfl
      · have : t = a0_s.length - 1 - t := by omega
        exact congrArg (fun q => a0_s[q]?) this
    · rw [List.getElem?_eq_none (by omega), List.getElem?_eq_none (by rw [List.length_reverse]; omega)]
theorem Rev32_eq : (∀ a, Rev32_C.pre a → PM.wfP Rev32_C.pm a (fvc Rev32_X 200 43 Rev32_C a (eqO Rev32_C a))) = (∀ a : (List (List UInt8)) × Unit, True → (Ty.kd (.sl (.arr 32 .byte))).wf a.1 → Rev32_VC a.1 (fun o0 => o0 = (a.1).reverse)) := by kernel_rfl
theorem Rev32_k : Rev32_C.valid Try.prog 43 := ctr_of (X := Rev32_X) (ok_of seat_ok (fun b hb => by cases hb; exact bkT_ok) fns_ok trivial) 200 (Rev32_eq.mpr fun a hp w_0 => @Rev32_ok a.1 w_0)
noncomputable def BetweenR_C : Ctr := ⟨[.nil, .v (.sl (.arr 32 .byte)), .v (.int .i64)], [.rw 31 (.arr 32 .byte)], some (fun a => (fun (a1_l : List (List UInt8)) (a2_m : Int) => (a1_l.length ≤ 1048576 : Prop)) a.2.1 a.2.2.1), fun a => (fun (a1_l : List (List UInt8)) (a2_m : Int) => (((betwN a1_l a2_m), ()), (()))) a.2.1 a.2.2.1⟩
noncomputable def BetweenR_X : Fx := ⟨{ seat with rws := [31] }, some bkT, fns, [(50, may_C), (51, parts_C), (21, Half_C), (25, RootN_C), (25, Root_C), (43, Rev32_C)], [], [], [(10, [0, 1, 2, 3, 4, 5, 6, 7, 8, 9, 10, 11, 12], [.o 0 3, .o 1 3, .o 2 3, .o 3 3, .o 4 3, .o 8 3, .o 9 3, .o 10 3, .o 5 1, .o 6 1, .o 7 1, .o 11 3, .o 12 3]), (11, [0, 1, 2, 3, 4, 5, 6, 7, 8, 9, 10, 11, 12], [.o 0 3, .o 1 3, .o 2 3, .o 3 3, .o 4 3, .o 8 3, .o 9 3, .o 10 3, .o 5 1, .o 6 1, .o 7 1, .o 11 3, .o 12 3])]⟩
def BetweenR_VC (a1_l : List (List UInt8)) (a2_m : Int) (Q : (List (List UInt8)) → Prop) : Prop :=
  (¬decide ((0 : Int) < a2_m ∧ a2_m ≤ (a1_l.length : Int)) = true → Q ([] : List (List UInt8))) ∧ (decide ((0 : Int) < a2_m ∧ a2_m ≤ (a1_l.length : Int)) = true → ((0 : Int) < a2_m ∧ a2_m ≤ (a1_l.length : Int)) ∧ ((Ty.int IntKind.i64).kd.sl.wf (partsA a2_m.toNat (a1_l.length : Int).toNat) → ((Ty.int IntKind.i64).pr ((Ty.int IntKind.i64).pr (Ty.int IntKind.i64))).kd.wf (partsL a2_m.toNat (a1_l.length : Int).toNat (1 : Int)) → ∃ (x0 : List (List UInt8) → List (List UInt8) → Int → Prop), ∃ (x1 : List (List UInt8) → List (List UInt8) → Int → Nat), x0 a1_l ([] : List (List UInt8)) (0 : Int) ∧ ∀ (x2 x3 : List (List UInt8)) (x4 : Int), x0 x2 x3 x4 → (Ty.arr (32 : Nat) Ty.byte).sl.kd.wf x2 → (Ty.arr (32 : Nat) Ty.byte).kd.sl.wf x3 → (Kd.int IntKind.i64).wf x4 → (x4 < ((partsA a2_m.toNat (a1_l.length : Int).toNat).length : Int) → ((0 : Int) ≤ x4 ∧ x4 < ((partsA a2_m.toNat (a1_l.length : Int).toNat).length : Int)) ∧ ((Ty.int IntKind.i64).kd.wf (half (x2.length : Int).toNat : Int) → (ix (partsA a2_m.toNat (a1_l.length : Int).toNat) x4 = (1 : Int) → ((0 : Int) ≤ (half (x2.length : Int).toNat : Int) ∧ (half (x2.length : Int).toNat : Int) ≤ (x2.length : Int)) ∧ ((0 : Int) ≤ (half (x2.length : Int).toNat : Int) ∧ (half (x2.length : Int).toNat : Int) ≤ (x2.length : Int)) ∧ (List.drop (half (x2.length : Int).toNat : Int).toNat x2).length ≤ (1048576 : Nat) ∧ ((Ty.arr (32 : Nat) Ty.byte).kd.wf (rootS (List.drop (half (x2.length : Int).toNat : Int).toNat x2)) → (x3.length + (rootS (List.drop (half (x2.length : Int).toNat : Int).toNat x2) :: ([] : List (List UInt8))).length) * (32 : Nat) ≤ (140737488355328 : Nat) ∧ x4 < (9223372036854775807 : Int) ∧ x0 (List.take (half (x2.length : Int).toNat : Int).toNat x2) (x3 ++ rootS (List.drop (half (x2.length : Int).toNat : Int).toNat x2) :: ([] : List (List UInt8))) (x4 + (1 : Int)) ∧ x1 (List.take (half (x2.length : Int).toNat : Int).toNat x2) (x3 ++ rootS (List.drop (half (x2.length : Int).toNat : Int).toNat x2) :: ([] : List (List UInt8))) (x4 + (1 : Int)) < x1 x2 x3 x4)) ∧ (¬ix (partsA a2_m.toNat (a1_l.length : Int).toNat) x4 = (1 : Int) → ((0 : Int) ≤ (half (x2.length : Int).toNat : Int) ∧ (half (x2.length : Int).toNat : Int) ≤ (x2.length : Int)) ∧ ((0 : Int) ≤ (half (x2.length : Int).toNat : Int) ∧ (half (x2.length : Int).toNat : Int) ≤ (x2.length : Int)) ∧ (List.take (half (x2.length : Int).toNat : Int).toNat x2).length ≤ (1048576 : Nat) ∧ ((Ty.arr (32 : Nat) Ty.byte).kd.wf (rootS (List.take (half (x2.length : Int).toNat : Int).toNat x2)) → (x3.length + (rootS (List.take (half (x2.length : Int).toNat : Int).toNat x2) :: ([] : List (List UInt8))).length) * (32 : Nat) ≤ (140737488355328 : Nat) ∧ x4 < (9223372036854775807 : Int) ∧ x0 (List.drop (half (x2.length : Int).toNat : Int).toNat x2) (x3 ++ rootS (List.take (half (x2.length : Int).toNat : Int).toNat x2) :: ([] : List (List UInt8))) (x4 + (1 : Int)) ∧ x1 (List.drop (half (x2.length : Int).toNat : Int).toNat x2) (x3 ++ rootS (List.take (half (x2.length : Int).toNat : Int).toNat x2) :: ([] : List (List UInt8))) (x4 + (1 : Int)) < x1 x2 x3 x4)))) ∧ (¬x4 < ((partsA a2_m.toNat (a1_l.length : Int).toNat).length : Int) → ((partsL a2_m.toNat (a1_l.length : Int).toNat (1 : Int)).snd.snd = (0 : Int) → x2.length ≤ (1048576 : Nat) ∧ ((Ty.arr (32 : Nat) Ty.byte).kd.wf (rootS x2) → (x3.length + (rootS x2 :: ([] : List (List UInt8))).length) * (32 : Nat) ≤ (140737488355328 : Nat) ∧ Q (x3 ++ rootS x2 :: ([] : List (List UInt8))).reverse)) ∧ (¬(partsL a2_m.toNat (a1_l.length : Int).toNat (1 : Int)).snd.snd = (0 : Int) → Q x3.reverse))))
theorem BetweenR_ok {a1_l : List (List UInt8)} {a2_m : Int} (w_0 : (Ty.kd (.sl (.arr 32 .byte))).wf a1_l) (w_1 : (Ty.kd (.int .i64)).wf a2_m) (hp : a1_l.length ≤ 1048576) : BetweenR_VC a1_l a2_m (fun o0 => o0 = (betwN a1_l a2_m)) := by
  unfold BetweenR_VC
  simp only [Int.toNat_natCast]
  refine ⟨fun h => ?_, fun h => ⟨of_decide_eq_true h, fun _ _ => ?_⟩⟩
  · show [] = betwN a1_l a2_m
    unfold betwN
    rw [if_neg (by simpa using h)]
  · have h' := of_decide_eq_true h
    have e : betwN a1_l a2_m = betw a1_l a2_m.toNat 1 := by unfold betwN; rw [if_pos h']
    rw [e]
    have hlen : (partsA a2_m.toNat a1_l.length).length ≤ 20 := partsA_len 20 (by omega) (by omega)
    have htot := betw_len a1_l.length (l := a1_l) (m := a2_m.toNat) (w := 1) (Nat.le_refl _) (by omega) (by omega)
    have htot2 : (betw a1_l a2_m.toNat 1).length ≤ 21 := by rw [htot]; split <;> omega
    generalize hA : partsA a2_m.toNat a1_l.length = A at hlen ⊢
    generalize hP : partsL a2_m.toNat a1_l.length 1 = P
    refine ⟨fun l out i => ∃ (j m : Nat) (w : Int), i = (j : Int) ∧ 1 ≤ m ∧ m ≤ l.length ∧ l.length ≤ a1_l.length ∧ A.drop j = partsA m l.length ∧ j ≤ A.length ∧ partsL m l.length w = P ∧ (w = 0 ∨ w = 1) ∧ betw l m w ++ out.reverse = betw a1_l a2_m.toNat 1, fun l _ _ => l.length,
      ⟨0, a2_m.toNat, 1, rfl, by omega, by omega, Nat.le_refl _, hA.symm, Nat.zero_le _, hP, .inr rfl, by simp⟩, ?_⟩
    rintro l out i ⟨j, m, w, rfl, h1, h2, h3, h4, h5, h6, h7, h8⟩ _ _ _
    have hol : out.length ≤ 21 := by
      rw [← h8, List.length_append, List.length_reverse] at htot2
      omega
    refine ⟨fun hlt => ⟨⟨by omega, hlt⟩, fun _ => ?_⟩, fun hge => ?_⟩
    · have hj : j < A.length := by omega
      have hix : ix A (j : Int) = A[j] := ixN hj
      rw [List.drop_eq_getElem_cons hj] at h4
      have hml : m < l.length := by
        apply Classical.byContradiction
        intro hn
        rw [partsA_end hn] at h4
        cases h4
      have b2 : 2 ≤ l.length := by omega
      have a1 := half_pos b2
      have a2 := half_lt b2
      have l1 : (l.take (half l.length)).length = half l.length := by rw [List.length_take]; omega
      have l2 : (l.drop (half l.length)).length = l.length - half l.length := List.length_drop
      rw [hix]
      by_cases hm : m ≤ half l.length
      · rw [partsA_left hml hm] at h4
        rw [partsL_left hml hm] at h6
        rw [betw_left hml hm] at h8
        obtain ⟨h9, h10⟩ := List.cons.inj h4
        refine ⟨fun _ => ⟨⟨by omega, by omega⟩, ⟨by omega, by omega⟩, by omega, fun _ => ⟨by simp only [List.length_cons, List.length_nil]; omega, by omega, ⟨j + 1, m, w, by omega, h1, by omega, by omega, by rw [l1]; exact h10, by omega, by rw [l1]; exact h6, h7, ?_⟩, by show (List.take _ l).length < l.length; omega⟩⟩, fun hn => absurd h9 hn⟩
        rw [← h8]
        simp
      · rw [partsA_right hml hm] at h4
        rw [partsL_right hml hm] at h6
        rw [betw_right hml hm] at h8
        obtain ⟨h9, h10⟩ := List.cons.inj h4
        refine ⟨fun hn => absurd (h9.symm.trans hn) (by decide), fun _ => ⟨⟨by omega, by omega⟩, ⟨by omega, by omega⟩, by omega, fun _ => ⟨by simp only [List.length_cons, List.length_nil]; omega, by omega, ⟨j + 1, m - half l.length, 0, by omega, by omega, by omega, by omega, by rw [l2]; exact h10, by omega, by rw [l2]; exact h6, .inl rfl, ?_⟩, by show (List.drop _ l).length < l.length; omega⟩⟩⟩
        rw [← h8]
        simp
    · have hj : j = A.length := by omega
      rw [hj, List.drop_length] at h4
      have hml : ¬ m < l.length := fun hn => by
        by_cases hm : m ≤ half l.length
        · rw [partsA_left hn hm] at h4; cases h4
        · rw [partsA_right hn hm] at h4; cases h4
      rw [partsL_end hml] at h6
      rw [betw_end hml] at h8
      subst h6
      refine ⟨fun hw => ⟨by omega, fun _ => ⟨by simp only [List.length_cons, List.length_nil]; omega, ?_⟩⟩, fun hw => ?_⟩
      · have hw' : w = 0 := hw
        rw [if_pos hw'] at h8
        rw [← h8]
        simp
      · have hw' : ¬ w = 0 := hw
        rw [if_neg hw'] at h8
        rw [← h8]
        simp
theorem BetweenR_eq : (∀ a, BetweenR_C.pre a → PM.wfP BetweenR_C.pm a (fvc BetweenR_X 200 33 BetweenR_C a (eqO BetweenR_C a))) = (∀ a : Unit × (List (List UInt8)) × Int × Unit, ((a.2.1).length ≤ 1048576) → (Ty.kd (.sl (.arr 32 .byte))).wf a.2.1 → (Ty.kd (.int .i64)).wf a.2.2.1 → BetweenR_VC a.2.1 a.2.2.1 (fun o0 => o0 = (betwN (a.2.1) (a.2.2.1)))) := by kernel_rfl
theorem BetweenR_k : BetweenR_C.valid Try.prog 33 := ctr_of (X := BetweenR_X) (ok_of (seat_ok.rows [31]) (fun b hb => by cases hb; exact bkT_ok) fns_ok ⟨may_k, parts_k, Half_k, RootN_k, Root_k, Rev32_k, trivial⟩) 200 (BetweenR_eq.mpr fun a hp w_0 w_1 => @BetweenR_ok a.2.1 a.2.2.1 w_0 w_1 hp)
noncomputable def BetweenO_C : Ctr := ⟨[.nil, .v (.sl (.arr 32 .byte)), .v (.int .i64)], [.ow 31 (.arr 32 .byte)], some (fun a => (fun (a1_l : List (List UInt8)) (a2_m : Int) => (a1_l.length ≤ 1048576 : Prop)) a.2.1 a.2.2.1), fun a => (fun (a1_l : List (List UInt8)) (a2_m : Int) => (((betwN a1_l a2_m), ()), (()))) a.2.1 a.2.2.1⟩
theorem BetweenO_k : BetweenO_C.valid Try.prog 33 := ow_of_rw BetweenR_k
noncomputable def refused_C : Ctr := ⟨[.v .bool], [.v (.int .i64)], none, fun a => (fun (a0_is : Bool) => (((if a0_is then (10 : Int) else 0), ()), (()))) a.1⟩
noncomputable def refused_X : Fx := ⟨seat, some bkT, fns, [], [], [], []⟩
def refused_VC (a0_is : Bool) (Q : Int → Prop) : Prop :=
  (a0_is = true → Q (10 : Int)) ∧ (a0_is = false → Q (0 : Int))
theorem refused_ok {a0_is : Bool}  : refused_VC a0_is (fun o0 => o0 = (if a0_is then (10 : Int) else 0)) := by
  unfold refused_VC
  exact ⟨fun h => by rw [if_pos h], fun h => by rw [h]; rfl⟩
theorem refused_eq : (∀ a, refused_C.pre a → PM.wfP refused_C.pm a (fvc refused_X 200 55 refused_C a (eqO refused_C a))) = (∀ a : Bool × Unit, True → refused_VC a.1 (fun o0 => o0 = (if (a.1) then (10 : Int) else 0))) := by kernel_rfl
theorem refused_k : refused_C.valid Try.prog 55 := ctr_of (X := refused_X) (ok_of seat_ok (fun b hb => by cases hb; exact bkT_ok) fns_ok trivial) 200 (refused_eq.mpr fun a hp  => @refused_ok a.1)
noncomputable def Extends_C : Ctr := ⟨[.bk 80 true, .v (.int .i64), .v (.int .i64), .v (.arr 32 .byte), .v (.arr 32 .byte), .v (.sl (.arr 32 .byte))], [.v (.int .i64)], some (fun a => (fun (a0_k : BookA) (a1_m : Int) (a2_n : Int) (a3_old : List UInt8) (a4_fresh : List UInt8) (a5_path : List (List UInt8)) => (a5_path.length ≤ 65536 ∧ bookUpto a0_k (2 * a5_path.length + 2) : Prop)) a.1 a.2.1 a.2.2.1 a.2.2.2.1 a.2.2.2.2.1 a.2.2.2.2.2.1), fun a => (fun (a0_k : BookA) (a1_m : Int) (a2_n : Int) (a3_old : List UInt8) (a4_fresh : List UInt8) (a5_path : List (List UInt8)) => (((if extendsB a1_m a2_n a3_old a4_fresh a5_path then (0 : Int) else 10), ()), ((extendsBk a0_k a1_m a2_n a3_old a5_path), ()))) a.1 a.2.1 a.2.2.1 a.2.2.2.1 a.2.2.2.2.1 a.2.2.2.2.2.1⟩
noncomputable def Extends_X : Fx := ⟨seat, some bkT, fns, [(55, refused_C), (35, Steps_C), (25, RootN_C), (25, Root_C), (51, parts_C), (56, gnode_C)], [], [(13, [0, 5, 6], [])], [(10, [5], [.o 0 3, .o 1 3, .o 2 3, .o 3 3, .o 4 3, .o 5 1, .o 6 3])]⟩
def Extends_VC (a0_k : BookA) (a1_m : Int) (a2_n : Int) (a3_old : List UInt8) (a4_fresh : List UInt8) (a5_path : List (List UInt8)) (Q : Int → BookA → Prop) : Prop :=
  (a1_m < (0 : Int) → Q (10 : Int) a0_k) ∧ (¬a1_m < (0 : Int) → (a2_n < a1_m → Q (10 : Int) a0_k) ∧ (¬a2_n < a1_m → (Ty.int IntKind.i64).kd.wf (stepsN a1_m.toNat a2_n.toNat) → ((a5_path.length : Int) ≠ stepsN a1_m.toNat a2_n.toNat → Q (10 : Int) a0_k) ∧ (¬(a5_path.length : Int) ≠ stepsN a1_m.toNat a2_n.toNat → (a1_m = (0 : Int) → (([] : List (List UInt8)).length ≤ (1048576 : Nat) ∧ bookUpto a0_k ([] : List (List UInt8)).length) ∧ ((Ty.arr (32 : Nat) Ty.byte).kd.wf (rootS ([] : List (List UInt8))) → (a3_old ≠ rootS ([] : List (List UInt8)) → (Ty.int IntKind.i64).kd.wf (if true = true then (10 : Int) else (0 : Int)) → Q (if true = true then (10 : Int) else (0 : Int)) (rootBk a0_k ([] : List (List UInt8)))) ∧ (¬a3_old ≠ rootS ([] : List (List UInt8)) → (a2_n = (0 : Int) → (Ty.int IntKind.i64).kd.wf (if decide (a4_fresh ≠ rootS ([] : List (List UInt8))) = true then (10 : Int) else (0 : Int)) → Q (if decide (a4_fresh ≠ rootS ([] : List (List UInt8))) = true then (10 : Int) else (0 : Int)) (rootBk a0_k ([] : List (List UInt8)))) ∧ (¬a2_n = (0 : Int) → (Ty.int IntKind.i64).kd.wf (if false = true then (10 : Int) else (0 : Int)) → Q (if false = true then (10 : Int) else (0 : Int)) (rootBk a0_k ([] : List (List UInt8))))))) ∧ (¬a1_m = (0 : Int) → ((0 : Int) < a1_m ∧ a1_m ≤ a2_n) ∧ ((Ty.int IntKind.i64).kd.sl.wf (partsA a1_m.toNat a2_n.toNat) → ((Ty.int IntKind.i64).pr ((Ty.int IntKind.i64).pr (Ty.int IntKind.i64))).kd.wf (partsL a1_m.toNat a2_n.toNat (1 : Int)) → ((partsL a1_m.toNat a2_n.toNat (1 : Int)).snd.snd = (0 : Int) → ((0 : Int) ≤ (0 : Int) ∧ (0 : Int) < (a5_path.length : Int)) ∧ ((0 : Int) ≤ (1 : Int) ∧ (1 : Int) ≤ (a5_path.length : Int)) ∧ ∃ (x0 : Int → BookA → List UInt8 → List UInt8 → Prop), ∃ (x1 : Int → BookA → List UInt8 → List UInt8 → Nat), x0 (0 : Int) a0_k (ix a5_path (0 : Int)) (ix a5_path (0 : Int)) ∧ ∀ (x2 : Int) (x3 : BookA) (x4 x5 : List UInt8), x0 x2 x3 x4 x5 → (Kd.int IntKind.i64).wf x2 → (Ty.arr (32 : Nat) Ty.byte).kd.wf x4 → (Ty.arr (32 : Nat) Ty.byte).kd.wf x5 → (x2 < ((List.drop (Int.toNat (1 : Int)) a5_path).length : Int) → ((0 : Int) ≤ x2 ∧ x2 < ((List.drop (Int.toNat (1 : Int)) a5_path).length : Int)) ∧ ((0 : Int) ≤ IntKind.i64.wrap (IntKind.i64.wrap (((partsA a1_m.toNat a2_n.toNat).length : Int) - (1 : Int)) - x2) ∧ IntKind.i64.wrap (IntKind.i64.wrap (((partsA a1_m.toNat a2_n.toNat).length : Int) - (1 : Int)) - x2) < ((partsA a1_m.toNat a2_n.toNat).length : Int)) ∧ (ix (partsA a1_m.toNat a2_n.toNat) (IntKind.i64.wrap (IntKind.i64.wrap (((partsA a1_m.toNat a2_n.toNat).length : Int) - (1 : Int)) - x2)) = (1 : Int) → ((x5 :: ix (List.drop (Int.toNat (1 : Int)) a5_path) x2 :: ([] : List (List UInt8))).length ≤ (1048576 : Nat) ∧ bookRoom x3) ∧ ((Ty.arr (32 : Nat) Ty.byte).kd.wf (sealOf (2 : Int) (x5 :: ix (List.drop (Int.toNat (1 : Int)) a5_path) x2 :: ([] : List (List UInt8)))) → x2 < (9223372036854775807 : Int) ∧ x0 (x2 + (1 : Int)) (bookOf x3 (2 : Int) (x5 :: ix (List.drop (Int.toNat (1 : Int)) a5_path) x2 :: ([] : List (List UInt8)))) x4 (sealOf (2 : Int) (x5 :: ix (List.drop (Int.toNat (1 : Int)) a5_path) x2 :: ([] : List (List UInt8)))) ∧ x1 (x2 + (1 : Int)) (bookOf x3 (2 : Int) (x5 :: ix (List.drop (Int.toNat (1 : Int)) a5_path) x2 :: ([] : List (List UInt8)))) x4 (sealOf (2 : Int) (x5 :: ix (List.drop (Int.toNat (1 : Int)) a5_path) x2 :: ([] : List (List UInt8)))) < x1 x2 x3 x4 x5)) ∧ (¬ix (partsA a1_m.toNat a2_n.toNat) (IntKind.i64.wrap (IntKind.i64.wrap (((partsA a1_m.toNat a2_n.toNat).length : Int) - (1 : Int)) - x2)) = (1 : Int) → ((ix (List.drop (Int.toNat (1 : Int)) a5_path) x2 :: x4 :: ([] : List (List UInt8))).length ≤ (1048576 : Nat) ∧ bookRoom x3) ∧ ((Ty.arr (32 : Nat) Ty.byte).kd.wf (sealOf (2 : Int) (ix (List.drop (Int.toNat (1 : Int)) a5_path) x2 :: x4 :: ([] : List (List UInt8)))) → ((ix (List.drop (Int.toNat (1 : Int)) a5_path) x2 :: x5 :: ([] : List (List UInt8))).length ≤ (1048576 : Nat) ∧ bookRoom (bookOf x3 (2 : Int) (ix (List.drop (Int.toNat (1 : Int)) a5_path) x2 :: x4 :: ([] : List (List UInt8))))) ∧ ((Ty.arr (32 : Nat) Ty.byte).kd.wf (sealOf (2 : Int) (ix (List.drop (Int.toNat (1 : Int)) a5_path) x2 :: x5 :: ([] : List (List UInt8)))) → x2 < (9223372036854775807 : Int) ∧ x0 (x2 + (1 : Int)) (bookOf (bookOf x3 (2 : Int) (ix (List.drop (Int.toNat (1 : Int)) a5_path) x2 :: x4 :: ([] : List (List UInt8)))) (2 : Int) (ix (List.drop (Int.toNat (1 : Int)) a5_path) x2 :: x5 :: ([] : List (List UInt8)))) (sealOf (2 : Int) (ix (List.drop (Int.toNat (1 : Int)) a5_path) x2 :: x4 :: ([] : List (List UInt8)))) (sealOf (2 : Int) (ix (List.drop (Int.toNat (1 : Int)) a5_path) x2 :: x5 :: ([] : List (List UInt8)))) ∧ x1 (x2 + (1 : Int)) (bookOf (bookOf x3 (2 : Int) (ix (List.drop (Int.toNat (1 : Int)) a5_path) x2 :: x4 :: ([] : List (List UInt8)))) (2 : Int) (ix (List.drop (Int.toNat (1 : Int)) a5_path) x2 :: x5 :: ([] : List (List UInt8)))) (sealOf (2 : Int) (ix (List.drop (Int.toNat (1 : Int)) a5_path) x2 :: x4 :: ([] : List (List UInt8)))) (sealOf (2 : Int) (ix (List.drop (Int.toNat (1 : Int)) a5_path) x2 :: x5 :: ([] : List (List UInt8)))) < x1 x2 x3 x4 x5)))) ∧ (¬x2 < ((List.drop (Int.toNat (1 : Int)) a5_path).length : Int) → (x4 ≠ a3_old → (Ty.int IntKind.i64).kd.wf (if true = true then (10 : Int) else (0 : Int)) → Q (if true = true then (10 : Int) else (0 : Int)) x3) ∧ (¬x4 ≠ a3_old → (Ty.int IntKind.i64).kd.wf (if decide (x5 ≠ a4_fresh) = true then (10 : Int) else (0 : Int)) → Q (if decide (x5 ≠ a4_fresh) = true then (10 : Int) else (0 : Int)) x3))) ∧ (¬(partsL a1_m.toNat a2_n.toNat (1 : Int)).snd.snd = (0 : Int) → ∃ (x21 : Int → BookA → List UInt8 → List UInt8 → Prop), ∃ (x22 : Int → BookA → List UInt8 → List UInt8 → Nat), x21 (0 : Int) a0_k a3_old a3_old ∧ ∀ (x23 : Int) (x24 : BookA) (x25 x26 : List UInt8), x21 x23 x24 x25 x26 → (Kd.int IntKind.i64).wf x23 → (Ty.arr (32 : Nat) Ty.byte).kd.wf x25 → (Ty.arr (32 : Nat) Ty.byte).kd.wf x26 → (x23 < (a5_path.length : Int) → ((0 : Int) ≤ x23 ∧ x23 < (a5_path.length : Int)) ∧ ((0 : Int) ≤ IntKind.i64.wrap (IntKind.i64.wrap (((partsA a1_m.toNat a2_n.toNat).length : Int) - (1 : Int)) - x23) ∧ IntKind.i64.wrap (IntKind.i64.wrap (((partsA a1_m.toNat a2_n.toNat).length : Int) - (1 : Int)) - x23) < ((partsA a1_m.toNat a2_n.toNat).length : Int)) ∧ (ix (partsA a1_m.toNat a2_n.toNat) (IntKind.i64.wrap (IntKind.i64.wrap (((partsA a1_m.toNat a2_n.toNat).length : Int) - (1 : Int)) - x23)) = (1 : Int) → ((x26 :: ix a5_path x23 :: ([] : List (List UInt8))).length ≤ (1048576 : Nat) ∧ bookRoom x24) ∧ ((Ty.arr (32 : Nat) Ty.byte).kd.wf (sealOf (2 : Int) (x26 :: ix a5_path x23 :: ([] : List (List UInt8)))) → x23 < (9223372036854775807 : Int) ∧ x21 (x23 + (1 : Int)) (bookOf x24 (2 : Int) (x26 :: ix a5_path x23 :: ([] : List (List UInt8)))) x25 (sealOf (2 : Int) (x26 :: ix a5_path x23 :: ([] : List (List UInt8)))) ∧ x22 (x23 + (1 : Int)) (bookOf x24 (2 : Int) (x26 :: ix a5_path x23 :: ([] : List (List UInt8)))) x25 (sealOf (2 : Int) (x26 :: ix a5_path x23 :: ([] : List (List UInt8)))) < x22 x23 x24 x25 x26)) ∧ (¬ix (partsA a1_m.toNat a2_n.toNat) (IntKind.i64.wrap (IntKind.i64.wrap (((partsA a1_m.toNat a2_n.toNat).length : Int) - (1 : Int)) - x23)) = (1 : Int) → ((ix a5_path x23 :: x25 :: ([] : List (List UInt8))).length ≤ (1048576 : Nat) ∧ bookRoom x24) ∧ ((Ty.arr (32 : Nat) Ty.byte).kd.wf (sealOf (2 : Int) (ix a5_path x23 :: x25 :: ([] : List (List UInt8)))) → ((ix a5_path x23 :: x26 :: ([] : List (List UInt8))).length ≤ (1048576 : Nat) ∧ bookRoom (bookOf x24 (2 : Int) (ix a5_path x23 :: x25 :: ([] : List (List UInt8))))) ∧ ((Ty.arr (32 : Nat) Ty.byte).kd.wf (sealOf (2 : Int) (ix a5_path x23 :: x26 :: ([] : List (List UInt8)))) → x23 < (9223372036854775807 : Int) ∧ x21 (x23 + (1 : Int)) (bookOf (bookOf x24 (2 : Int) (ix a5_path x23 :: x25 :: ([] : List (List UInt8)))) (2 : Int) (ix a5_path x23 :: x26 :: ([] : List (List UInt8)))) (sealOf (2 : Int) (ix a5_path x23 :: x25 :: ([] : List (List UInt8)))) (sealOf (2 : Int) (ix a5_path x23 :: x26 :: ([] : List (List UInt8)))) ∧ x22 (x23 + (1 : Int)) (bookOf (bookOf x24 (2 : Int) (ix a5_path x23 :: x25 :: ([] : List (List UInt8)))) (2 : Int) (ix a5_path x23 :: x26 :: ([] : List (List UInt8)))) (sealOf (2 : Int) (ix a5_path x23 :: x25 :: ([] : List (List UInt8)))) (sealOf (2 : Int) (ix a5_path x23 :: x26 :: ([] : List (List UInt8)))) < x22 x23 x24 x25 x26)))) ∧ (¬x23 < (a5_path.length : Int) → (x25 ≠ a3_old → (Ty.int IntKind.i64).kd.wf (if true = true then (10 : Int) else (0 : Int)) → Q (if true = true then (10 : Int) else (0 : Int)) x24) ∧ (¬x25 ≠ a3_old → (Ty.int IntKind.i64).kd.wf (if decide (x26 ≠ a4_fresh) = true then (10 : Int) else (0 : Int)) → Q (if decide (x26 ≠ a4_fresh) = true then (10 : Int) else (0 : Int)) x24))))))))
theorem Extends_ok {a0_k : BookA} {a1_m : Int} {a2_n : Int} {a3_old : List UInt8} {a4_fresh : List UInt8} {a5_path : List (List UInt8)} (w_0 : (Ty.kd (.int .i64)).wf a1_m) (w_1 : (Ty.kd (.int .i64)).wf a2_n) (w_2 : (Ty.kd (.arr 32 .byte)).wf a3_old) (w_3 : (Ty.kd (.arr 32 .byte)).wf a4_fresh) (w_4 : (Ty.kd (.sl (.arr 32 .byte))).wf a5_path) (hp : a5_path.length ≤ 65536 ∧ bookUpto a0_k (2 * a5_path.length + 2)) : Extends_VC a0_k a1_m a2_n a3_old a4_fresh a5_path (fun o0 o1 => o0 = (if extendsB a1_m a2_n a3_old a4_fresh a5_path then (0 : Int) else 10) ∧ o1 = (extendsBk a0_k a1_m a2_n a3_old a5_path)) := by
  have hm1 : a1_m ≤ 9223372036854775807 := w_0.2
  have hn1 : a2_n ≤ 9223372036854775807 := w_1.2
  have hp1 := hp.1
  have no : ∀ (c : a1_m < 0 ∨ a2_n < a1_m ∨ ¬ ((a5_path.length : Int) = stepsN a1_m.toNat a2_n.toNat)), (10 : Int) = (if extendsB a1_m a2_n a3_old a4_fresh a5_path then (0 : Int) else 10) ∧ a0_k = extendsBk a0_k a1_m a2_n a3_old a5_path := fun c => by
    unfold extendsB extendsBk
    rw [if_pos c, if_pos c]
    exact ⟨rfl, rfl⟩
  unfold Extends_VC
  refine ⟨fun h1 => no (.inl h1), fun h1 => ⟨fun h2 => no (.inr (.inl h2)), fun h2 _ => ⟨fun h3 => no (.inr (.inr h3)), fun h3 => ?_⟩⟩⟩
  have hst : (a5_path.length : Int) = stepsN a1_m.toNat a2_n.toNat := Classical.not_not.1 h3
  have nc : ¬ (a1_m < 0 ∨ a2_n < a1_m ∨ ¬ ((a5_path.length : Int) = stepsN a1_m.toNat a2_n.toNat)) := by
    rintro (h | h | h)
    · exact h1 h
    · exact h2 h
    · exact h hst
  refine ⟨fun h4 => ⟨⟨by simp, hp.2.le (by simp)⟩, fun _ => ?_⟩, fun h4 => ⟨⟨by omega, by omega⟩, fun _ _ => ?_⟩⟩
  · have hE : extendsB a1_m a2_n a3_old a4_fresh a5_path = decide (a3_old = sealOf 2 [] ∧ (a2_n = 0 → a4_fresh = sealOf 2 [])) := by
      unfold extendsB
      rw [if_neg nc, if_pos h4]
    have hK : extendsBk a0_k a1_m a2_n a3_old a5_path = bookOf a0_k 2 [] := by
      unfold extendsBk
      rw [if_neg nc, if_pos h4]
    rw [rootS_nil, rootBk_nil]
    refine ⟨fun h _ => ⟨?_, hK.symm⟩, fun h => ⟨fun h5 _ => ⟨?_, hK.symm⟩, fun h5 _ => ⟨?_, hK.symm⟩⟩⟩
    · rw [hE]
      simp [h]
    · have h' := Classical.not_not.1 h
      rw [hE]
      by_cases hb : a4_fresh = sealOf 2 [] <;> simp [h', h5, hb]
    · have h' := Classical.not_not.1 h
      rw [hE]
      simp [h', h5]
  · have hw := partsL_w a2_n.toNat (m := a1_m.toNat) (n := a2_n.toNat) (w := 1) (Nat.le_refl _) (.inr rfl)
    have hs2 : stepsN a1_m.toNat a2_n.toNat = ((partsA a1_m.toNat a2_n.toNat).length : Int) + 1 - (partsL a1_m.toNat a2_n.toNat 1).2.2 := by
      unfold stepsN
      rw [if_pos (by omega)]
    have hE : extendsB a1_m a2_n a3_old a4_fresh a5_path = decide (foldT (partsA a1_m.toNat a2_n.toNat).reverse (restT (partsL a1_m.toNat a2_n.toNat 1).2.2 a5_path) (begT (partsL a1_m.toNat a2_n.toNat 1).2.2 a3_old a5_path) = (a3_old, a4_fresh)) := by
      unfold extendsB
      rw [if_neg nc, if_neg h4]
    have hK : extendsBk a0_k a1_m a2_n a3_old a5_path = foldB (partsA a1_m.toNat a2_n.toNat).reverse (restT (partsL a1_m.toNat a2_n.toNat 1).2.2 a5_path) (begT (partsL a1_m.toNat a2_n.toNat 1).2.2 a3_old a5_path) a0_k := by
      unfold extendsBk
      rw [if_neg nc, if_neg h4]
    rw [hs2] at hst
    generalize partsA a1_m.toNat a2_n.toNat = A at hst hE hK ⊢
    generalize hR : A.reverse = R at hE hK ⊢
    refine ⟨fun hz => ?_, fun hz => ?_⟩
    · have hz' : (partsL a1_m.toNat a2_n.toNat 1).2.2 = 0 := hz
      rw [hz'] at hst hE hK
      have hPl : (List.drop (Int.toNat 1) a5_path).length = a5_path.length - 1 := List.length_drop
      have e3 : restT 0 a5_path = (List.drop (Int.toNat 1) a5_path) := rfl
      have e4 : begT 0 a3_old a5_path = (ix a5_path 0, ix a5_path 0) := rfl
      rw [e3, e4] at hE hK
      refine ⟨⟨by omega, by omega⟩, ⟨by omega, by omega⟩, ?_⟩
      have hRl : R.length = A.length := by rw [← hR, List.length_reverse]
      refine ⟨fun i x a b => ∃ j : Nat, i = (j : Int) ∧ j ≤ (List.drop (Int.toNat 1) a5_path).length ∧ foldT (R.drop j) ((List.drop (Int.toNat 1) a5_path).drop j) (a, b) = foldT R (List.drop (Int.toNat 1) a5_path) ((ix a5_path 0), (ix a5_path 0)) ∧ foldB (R.drop j) ((List.drop (Int.toNat 1) a5_path).drop j) (a, b) x = foldB R (List.drop (Int.toNat 1) a5_path) ((ix a5_path 0), (ix a5_path 0)) a0_k ∧ bookUpto x (2 * ((List.drop (Int.toNat 1) a5_path).length - j) + 2), fun i _ _ _ => (List.drop (Int.toNat 1) a5_path).length - i.toNat, ⟨0, rfl, Nat.zero_le _, rfl, rfl, hp.2.le (by omega)⟩, ?_⟩
      rintro i x a b ⟨j, rfl, hj, hT, hB, hu⟩ _ _ _
      refine ⟨fun hlt => ?_, fun hge => ?_⟩
      · have hjP : j < (List.drop (Int.toNat 1) a5_path).length := by omega
        have hjR : j < R.length := by omega
        have e1 : IntKind.i64.wrap ((A.length : Int) - 1) = (A.length : Int) - 1 := wrap_id (wf64 (by omega) (by omega))
        have e2 : IntKind.i64.wrap ((A.length : Int) - 1 - (j : Int)) = ((A.length - 1 - j : Nat) : Int) := by
          rw [wrap_id (wf64 (by omega) (by omega))]
          omega
        have eR : A[A.length - 1 - j]'(by omega) = R[j] := by
          simp only [← hR, List.getElem_reverse]
        rw [e1, e2, ixN (l := A) (j := A.length - 1 - j) (by omega), ixN hjP, eR]
        rw [List.drop_eq_getElem_cons hjR, List.drop_eq_getElem_cons hjP] at hT hB
        simp only [foldT, foldB] at hT hB
        have hm : (List.drop (Int.toNat 1) a5_path).length - ((j : Int) + 1).toNat < (List.drop (Int.toNat 1) a5_path).length - (j : Int).toNat := by omega
        refine ⟨⟨by omega, hlt⟩, ⟨by omega, by omega⟩, fun h1 => ⟨⟨by simp, hu.room⟩, fun _ => ⟨by omega, ⟨j + 1, by omega, by omega, ?_, ?_, ?_⟩, hm⟩⟩, fun h1 => ⟨⟨by simp, hu.room⟩, fun _ => ⟨⟨by simp, ?_⟩, fun _ => ⟨by omega, ⟨j + 1, by omega, by omega, ?_, ?_, ?_⟩, hm⟩⟩⟩⟩
        · rw [if_pos h1] at hT; exact hT
        · rw [if_pos h1, if_pos h1] at hB; exact hB
        · exact (hu.le (n := 2 * ((List.drop (Int.toNat 1) a5_path).length - j) + 2) (m := 2 * ((List.drop (Int.toNat 1) a5_path).length - (j + 1)) + 2 + 1) (by omega)).of _ _
        · exact ((hu.le (n := 2 * ((List.drop (Int.toNat 1) a5_path).length - j) + 2) (m := 0 + 1) (by omega)).of _ _).room
        · rw [if_neg h1] at hT; exact hT
        · rw [if_neg h1, if_neg h1] at hB; exact hB
        · exact ((hu.le (n := 2 * ((List.drop (Int.toNat 1) a5_path).length - j) + 2) (m := 2 * ((List.drop (Int.toNat 1) a5_path).length - (j + 1)) + 2 + 1 + 1) (by omega)).of _ _).of _ _
      · rw [List.drop_of_length_le (by omega), List.drop_of_length_le (by omega)] at hT hB
        simp only [foldT, foldB] at hT hB
        refine ⟨fun h _ => ⟨?_, by rw [hK, hB]⟩, fun h _ => ⟨?_, by rw [hK, hB]⟩⟩
        · rw [hE, ← hT]
          simp [h]
        · have ha : a = a3_old := Classical.not_not.1 h
          rw [hE, ← hT]
          by_cases hb : b = a4_fresh <;> simp [ha, hb]
    · have hz' : (partsL a1_m.toNat a2_n.toNat 1).2.2 = 1 := hw.resolve_left hz
      rw [hz'] at hst hE hK
      have e3 : restT 1 a5_path = a5_path := rfl
      have e4 : begT 1 a3_old a5_path = (a3_old, a3_old) := rfl
      rw [e3, e4] at hE hK
      have hRl : R.length = A.length := by rw [← hR, List.length_reverse]
      refine ⟨fun i x a b => ∃ j : Nat, i = (j : Int) ∧ j ≤ a5_path.length ∧ foldT (R.drop j) (a5_path.drop j) (a, b) = foldT R a5_path (a3_old, a3_old) ∧ foldB (R.drop j) (a5_path.drop j) (a, b) x = foldB R a5_path (a3_old, a3_old) a0_k ∧ bookUpto x (2 * (a5_path.length - j) + 2), fun i _ _ _ => a5_path.length - i.toNat, ⟨0, rfl, Nat.zero_le _, rfl, rfl, hp.2.le (by omega)⟩, ?_⟩
      rintro i x a b ⟨j, rfl, hj, hT, hB, hu⟩ _ _ _
      refine ⟨fun hlt => ?_, fun hge => ?_⟩
      · have hjP : j < a5_path.length := by omega
        have hjR : j < R.length := by omega
        have e1 : IntKind.i64.wrap ((A.length : Int) - 1) = (A.length : Int) - 1 := wrap_id (wf64 (by omega) (by omega))
        have e2 : IntKind.i64.wrap ((A.length : Int) - 1 - (j : Int)) = ((A.length - 1 - j : Nat) : Int) := by
          rw [wrap_id (wf64 (by omega) (by omega))]
          omega
        have eR : A[A.length - 1 - j]'(by omega) = R[j] := by
          simp only [← hR, List.getElem_reverse]
        rw [e1, e2, ixN (l := A) (j := A.length - 1 - j) (by omega), ixN hjP, eR]
        rw [List.drop_eq_getElem_cons hjR, List.drop_eq_getElem_cons hjP] at hT hB
        simp only [foldT, foldB] at hT hB
        have hm : a5_path.length - ((j : Int) + 1).toNat < a5_path.length - (j : Int).toNat := by omega
        refine ⟨⟨by omega, hlt⟩, ⟨by omega, by omega⟩, fun h1 => ⟨⟨by simp, hu.room⟩, fun _ => ⟨by omega, ⟨j + 1, by omega, by omega, ?_, ?_, ?_⟩, hm⟩⟩, fun h1 => ⟨⟨by simp, hu.room⟩, fun _ => ⟨⟨by simp, ?_⟩, fun _ => ⟨by omega, ⟨j + 1, by omega, by omega, ?_, ?_, ?_⟩, hm⟩⟩⟩⟩
        · rw [if_pos h1] at hT; exact hT
        · rw [if_pos h1, if_pos h1] at hB; exact hB
        · exact (hu.le (n := 2 * (a5_path.length - j) + 2) (m := 2 * (a5_path.length - (j + 1)) + 2 + 1) (by omega)).of _ _
        · exact ((hu.le (n := 2 * (a5_path.length - j) + 2) (m := 0 + 1) (by omega)).of _ _).room
        · rw [if_neg h1] at hT; exact hT
        · rw [if_neg h1, if_neg h1] at hB; exact hB
        · exact ((hu.le (n := 2 * (a5_path.length - j) + 2) (m := 2 * (a5_path.length - (j + 1)) + 2 + 1 + 1) (by omega)).of _ _).of _ _
      · rw [List.drop_of_length_le (by omega), List.drop_of_length_le (by omega)] at hT hB
        simp only [foldT, foldB] at hT hB
        refine ⟨fun h _ => ⟨?_, by rw [hK, hB]⟩, fun h _ => ⟨?_, by rw [hK, hB]⟩⟩
        · rw [hE, ← hT]
          simp [h]
        · have ha : a = a3_old := Classical.not_not.1 h
          rw [hE, ← hT]
          by_cases hb : b = a4_fresh <;> simp [ha, hb]
theorem Extends_eq : (∀ a, Extends_C.pre a → PM.wfP Extends_C.pm a (fvc Extends_X 200 37 Extends_C a (eqO Extends_C a))) = (∀ a : BookA × Int × Int × (List UInt8) × (List UInt8) × (List (List UInt8)) × Unit, ((a.2.2.2.2.2.1).length ≤ 65536 ∧ bookUpto (a.1) (2 * (a.2.2.2.2.2.1).length + 2)) → (Ty.kd (.int .i64)).wf a.2.1 → (Ty.kd (.int .i64)).wf a.2.2.1 → (Ty.kd (.arr 32 .byte)).wf a.2.2.2.1 → (Ty.kd (.arr 32 .byte)).wf a.2.2.2.2.1 → (Ty.kd (.sl (.arr 32 .byte))).wf a.2.2.2.2.2.1 → Extends_VC a.1 a.2.1 a.2.2.1 a.2.2.2.1 a.2.2.2.2.1 a.2.2.2.2.2.1 (fun o0 o1 => o0 = (if extendsB (a.2.1) (a.2.2.1) (a.2.2.2.1) (a.2.2.2.2.1) (a.2.2.2.2.2.1) then (0 : Int) else 10) ∧ o1 = (extendsBk (a.1) (a.2.1) (a.2.2.1) (a.2.2.2.1) (a.2.2.2.2.2.1)))) := by kernel_rfl
theorem Extends_k : Extends_C.valid Try.prog 37 := ctr_of (X := Extends_X) (ok_of seat_ok (fun b hb => by cases hb; exact bkT_ok) fns_ok ⟨refused_k, Steps_k, RootN_k, Root_k, parts_k, gnode_k, trivial⟩) 200 (Extends_eq.mpr fun a hp w_0 w_1 w_2 w_3 w_4 => @Extends_ok a.1 a.2.1 a.2.2.1 a.2.2.2.1 a.2.2.2.2.1 a.2.2.2.2.2.1 w_0 w_1 w_2 w_3 w_4 hp)
noncomputable def ExtendsN_C : Ctr := ⟨[.nil, .v (.int .i64), .v (.int .i64), .v (.arr 32 .byte), .v (.arr 32 .byte), .v (.sl (.arr 32 .byte))], [.v (.int .i64)], some (fun a => (fun (a1_m : Int) (a2_n : Int) (a3_old : List UInt8) (a4_fresh : List UInt8) (a5_path : List (List UInt8)) => (a5_path.length ≤ 65536 : Prop)) a.2.1 a.2.2.1 a.2.2.2.1 a.2.2.2.2.1 a.2.2.2.2.2.1), fun a => (fun (a1_m : Int) (a2_n : Int) (a3_old : List UInt8) (a4_fresh : List UInt8) (a5_path : List (List UInt8)) => (((if extendsB a1_m a2_n a3_old a4_fresh a5_path then (0 : Int) else 10), ()), (()))) a.2.1 a.2.2.1 a.2.2.2.1 a.2.2.2.2.1 a.2.2.2.2.2.1⟩
theorem ExtendsN_k : ExtendsN_C.valid Try.prog 37 :=
  nil_v Extends_k (fun _ => rfl) (fun a θ θ' n n' K vs h => by
    obtain ⟨v0, vs, rfl, h0, ⟨v1, vs, rfl, h1, ⟨v2, vs, rfl, h2, ⟨v3, vs, rfl, h3, ⟨v4, vs, rfl, h4, h⟩⟩⟩⟩⟩ := h
    exact ⟨v0, _, rfl, SVal.of_rel (t := .int .i64) (rel_out (t := .int .i64) h0 rfl), ⟨v1, _, rfl, SVal.of_rel (t := .int .i64) (rel_out (t := .int .i64) h1 rfl), ⟨v2, _, rfl, SVal.of_rel (t := .arr 32 .byte) (rel_out (t := .arr 32 .byte) h2 rfl), ⟨v3, _, rfl, SVal.of_rel (t := .arr 32 .byte) (rel_out (t := .arr 32 .byte) h3 rfl), ⟨v4, _, rfl, SVal.of_rel (t := .sl (.arr 32 .byte)) (rel_out (t := .sl (.arr 32 .byte)) h4 rfl), h⟩⟩⟩⟩⟩) (fun _ => rfl) (fun a hp => ⟨hp, fun y h => by cases h⟩) (fun a _ => rfl)
end Go.Proofs.Ytkffegaofdpkiaa

/-
  PLAIN 12: the five leaves of the examples: their sums, reckoned by the kernel.
-/
set_option linter.unusedVariables false
set_option maxRecDepth 100000
namespace Go.Inc
open Go
theorem f12v : sealOf 2 [[1, 0, 0, 0, 0, 0, 0, 0, 0, 0, 0, 0, 0, 0, 0, 0, 0, 0, 0, 0, 0, 0, 0, 0, 0, 0, 0, 0, 0, 0, 0, 0], [2, 0, 0, 0, 0, 0, 0, 0, 0, 0, 0, 0, 0, 0, 0, 0, 0, 0, 0, 0, 0, 0, 0, 0, 0, 0, 0, 0, 0, 0, 0, 0]] = [88, 237, 81, 123, 239, 100, 254, 12, 94, 25, 116, 60, 221, 77, 114, 235, 232, 233, 199, 80, 85, 162, 253, 60, 201, 145, 109, 15, 100, 18, 80, 30] := by
  unfold sealOf
  rw [preimageF_eq _ (by decide), sha256_msg _ (by decide)]
  decide +kernel
theorem f34v : sealOf 2 [[3, 0, 0, 0, 0, 0, 0, 0, 0, 0, 0, 0, 0, 0, 0, 0, 0, 0, 0, 0, 0, 0, 0, 0, 0, 0, 0, 0, 0, 0, 0, 0], [4, 0, 0, 0, 0, 0, 0, 0, 0, 0, 0, 0, 0, 0, 0, 0, 0, 0, 0, 0, 0, 0, 0, 0, 0, 0, 0, 0, 0, 0, 0, 0]] = [192, 26, 65, 7, 210, 184, 126, 179, 202, 49, 47, 244, 174, 158, 102, 23, 232, 95, 15, 183, 136, 145, 177, 200, 194, 73, 110, 198, 165, 4, 154, 104] := by
  unfold sealOf
  rw [preimageF_eq _ (by decide), sha256_msg _ (by decide)]
  decide +kernel
theorem f4v : sealOf 2 [[88, 237, 81, 123, 239, 100, 254, 12, 94, 25, 116, 60, 221, 77, 114, 235, 232, 233, 199, 80, 85, 162, 253, 60, 201, 145, 109, 15, 100, 18, 80, 30], [192, 26, 65, 7, 210, 184, 126, 179, 202, 49, 47, 244, 174, 158, 102, 23, 232, 95, 15, 183, 136, 145, 177, 200, 194, 73, 110, 198, 165, 4, 154, 104]] = [18, 130, 185, 139, 42, 70, 135, 157, 229, 39, 21, 37, 20, 87, 54, 187, 201, 225, 138, 252, 48, 159, 38, 169, 166, 67, 232, 39, 64, 69, 64, 13] := by
  unfold sealOf
  rw [preimageF_eq _ (by decide), sha256_msg _ (by decide)]
  decide +kernel
theorem f5v : sealOf 2 [[18, 130, 185, 139, 42, 70, 135, 157, 229, 39, 21, 37, 20, 87, 54, 187, 201, 225, 138, 252, 48, 159, 38, 169, 166, 67, 232, 39, 64, 69, 64, 13], [5, 0, 0, 0, 0, 0, 0, 0, 0, 0, 0, 0, 0, 0, 0, 0, 0, 0, 0, 0, 0, 0, 0, 0, 0, 0, 0, 0, 0, 0, 0, 0]] = [0, 249, 67, 132, 41, 198, 54, 240, 58, 233, 196, 226, 142, 71, 110, 35, 117, 35, 172, 196, 194, 75, 210, 160, 234, 39, 163, 120, 150, 22, 177, 134] := by
  unfold sealOf
  rw [preimageF_eq _ (by decide), sha256_msg _ (by decide)]
  decide +kernel
theorem f55v : sealOf 2 [[0, 249, 67, 132, 41, 198, 54, 240, 58, 233, 196, 226, 142, 71, 110, 35, 117, 35, 172, 196, 194, 75, 210, 160, 234, 39, 163, 120, 150, 22, 177, 134], [5, 0, 0, 0, 0, 0, 0, 0, 0, 0, 0, 0, 0, 0, 0, 0, 0, 0, 0, 0, 0, 0, 0, 0, 0, 0, 0, 0, 0, 0, 0, 0]] = [118, 181, 139, 240, 43, 17, 250, 46, 232, 121, 119, 210, 168, 141, 24, 120, 130, 36, 114, 16, 3, 240, 100, 145, 10, 145, 121, 130, 151, 56, 43, 28] := by
  unfold sealOf
  rw [preimageF_eq _ (by decide), sha256_msg _ (by decide)]
  decide +kernel
theorem half2 : half 2 = 1 := half_of (j := 0) (by decide) (by decide)
theorem half4 : half 4 = 2 := half_of (j := 1) (by decide) (by decide)
theorem half5 : half 5 = 4 := half_of (j := 2) (by decide) (by decide)
theorem five_eq : fiveL = [[1, 0, 0, 0, 0, 0, 0, 0, 0, 0, 0, 0, 0, 0, 0, 0, 0, 0, 0, 0, 0, 0, 0, 0, 0, 0, 0, 0, 0, 0, 0, 0], [2, 0, 0, 0, 0, 0, 0, 0, 0, 0, 0, 0, 0, 0, 0, 0, 0, 0, 0, 0, 0, 0, 0, 0, 0, 0, 0, 0, 0, 0, 0, 0], [3, 0, 0, 0, 0, 0, 0, 0, 0, 0, 0, 0, 0, 0, 0, 0, 0, 0, 0, 0, 0, 0, 0, 0, 0, 0, 0, 0, 0, 0, 0, 0], [4, 0, 0, 0, 0, 0, 0, 0, 0, 0, 0, 0, 0, 0, 0, 0, 0, 0, 0, 0, 0, 0, 0, 0, 0, 0, 0, 0, 0, 0, 0, 0], [5, 0, 0, 0, 0, 0, 0, 0, 0, 0, 0, 0, 0, 0, 0, 0, 0, 0, 0, 0, 0, 0, 0, 0, 0, 0, 0, 0, 0, 0, 0, 0]] := by decide
theorem two_root (a b : Sm) : rootS [a, b] = sealOf 2 [a, b] := by
  rw [rootS_two (by simp)]
  show sealOf 2 [rootS (List.take (half 2) [a, b]), rootS (List.drop (half 2) [a, b])] = _
  rw [half2]
  show sealOf 2 [rootS [a], rootS [b]] = _
  rw [rootS_one, rootS_one]
theorem four_root (a b c d : Sm) : rootS [a, b, c, d] = sealOf 2 [sealOf 2 [a, b], sealOf 2 [c, d]] := by
  rw [rootS_two (by simp)]
  show sealOf 2 [rootS (List.take (half 4) [a, b, c, d]), rootS (List.drop (half 4) [a, b, c, d])] = _
  rw [half4]
  show sealOf 2 [rootS [a, b], rootS [c, d]] = _
  rw [two_root, two_root]
theorem five_root (a b c d e : Sm) : rootS [a, b, c, d, e] = sealOf 2 [sealOf 2 [sealOf 2 [a, b], sealOf 2 [c, d]], e] := by
  rw [rootS_two (by simp)]
  show sealOf 2 [rootS (List.take (half 5) [a, b, c, d, e]), rootS (List.drop (half 5) [a, b, c, d, e])] = _
  rw [half5]
  show sealOf 2 [rootS [a, b, c, d], rootS [e]] = _
  rw [four_root, rootS_one]
theorem r5v : rootS fiveL = [0, 249, 67, 132, 41, 198, 54, 240, 58, 233, 196, 226, 142, 71, 110, 35, 117, 35, 172, 196, 194, 75, 210, 160, 234, 39, 163, 120, 150, 22, 177, 134] := by
  rw [five_eq, five_root, f12v, f34v, f4v, f5v]
theorem pA35 : partsA 3 5 = [1, 0, 1] := by
  rw [partsA_left (by decide) (by rw [half5]; decide), half5, partsA_right (by decide) (by rw [half4]; decide), half4, partsA_left (by decide) (by rw [half2]; decide), half2, partsA_end (by decide)]
theorem pL35 : partsL 3 5 1 = (1, 1, 0) := by
  rw [partsL_left (by decide) (by rw [half5]; decide), half5, partsL_right (by decide) (by rw [half4]; decide), half4, partsL_left (by decide) (by rw [half2]; decide), half2, partsL_end (by decide)]
  rfl
theorem pA45 : partsA 4 5 = [1] := by
  rw [partsA_left (by decide) (by rw [half5]; decide), half5, partsA_end (by decide)]
theorem pL45 : partsL 4 5 1 = (4, 4, 1) := by
  rw [partsL_left (by decide) (by rw [half5]; decide), half5, partsL_end (by decide)]
  rfl
theorem s35 : stepsN 3 5 = 4 := by unfold stepsN; rw [if_pos (by decide), pA35, pL35]; rfl
theorem s45 : stepsN 4 5 = 1 := by unfold stepsN; rw [if_pos (by decide), pA45, pL45]; rfl
theorem s55 : stepsN 5 5 = 0 := by unfold stepsN; rw [if_pos (by decide), partsA_end (by decide), partsL_end (by decide)]; rfl
theorem s05 : stepsN 0 5 = 0 := by unfold stepsN; rw [if_neg (by decide)]
theorem b35 (a b c d e : Sm) : betwN [a, b, c, d, e] 3 = [c, d, sealOf 2 [a, b], e] := by
  unfold betwN
  rw [if_pos (by simp)]
  show betw [a, b, c, d, e] 3 1 = _
  rw [betw_left (by simp) (by show 3 ≤ half 5; rw [half5]; decide)]
  show betw (List.take (half 5) [a, b, c, d, e]) 3 1 ++ [rootS (List.drop (half 5) [a, b, c, d, e])] = _
  rw [half5]
  show betw [a, b, c, d] 3 1 ++ [rootS [e]] = _
  rw [betw_right (by simp) (by show ¬ 3 ≤ half 4; rw [half4]; decide)]
  show betw (List.drop (half 4) [a, b, c, d]) (3 - half 4) 0 ++ [rootS (List.take (half 4) [a, b, c, d])] ++ [rootS [e]] = _
  rw [half4]
  show betw [c, d] 1 0 ++ [rootS [a, b]] ++ [rootS [e]] = _
  rw [betw_left (by simp) (by show 1 ≤ half 2; rw [half2]; decide)]
  show betw (List.take (half 2) [c, d]) 1 0 ++ [rootS (List.drop (half 2) [c, d])] ++ [rootS [a, b]] ++ [rootS [e]] = _
  rw [half2]
  show betw [c] 1 0 ++ [rootS [d]] ++ [rootS [a, b]] ++ [rootS [e]] = _
  rw [betw_end (by simp), if_pos rfl, rootS_one, rootS_one, rootS_one, two_root]
  rfl
theorem b45 (a b c d e : Sm) : betwN [a, b, c, d, e] 4 = [e] := by
  unfold betwN
  rw [if_pos (by simp)]
  show betw [a, b, c, d, e] 4 1 = _
  rw [betw_left (by simp) (by show 4 ≤ half 5; rw [half5]; decide)]
  show betw (List.take (half 5) [a, b, c, d, e]) 4 1 ++ [rootS (List.drop (half 5) [a, b, c, d, e])] = _
  rw [half5]
  show betw [a, b, c, d] 4 1 ++ [rootS [e]] = _
  rw [betw_end (by simp), if_neg (by decide), rootS_one]
  rfl
theorem e455 : extendsB 4 5 (rootS fiveL) (rootS fiveL) (betwN fiveL 4) = false := by
  have hb : betwN fiveL 4 = [[5, 0, 0, 0, 0, 0, 0, 0, 0, 0, 0, 0, 0, 0, 0, 0, 0, 0, 0, 0, 0, 0, 0, 0, 0, 0, 0, 0, 0, 0, 0, 0]] := by rw [five_eq, b45]
  rw [hb, r5v]
  unfold extendsB
  have e4 : Int.toNat 4 = 4 := rfl
  have e5 : Int.toNat 5 = 5 := rfl
  rw [e4, e5, s45, if_neg (by decide), if_neg (by decide), pA45, pL45]
  refine decide_eq_false fun h => ?_
  have h2 : sealOf 2 [[0, 249, 67, 132, 41, 198, 54, 240, 58, 233, 196, 226, 142, 71, 110, 35, 117, 35, 172, 196, 194, 75, 210, 160, 234, 39, 163, 120, 150, 22, 177, 134], [5, 0, 0, 0, 0, 0, 0, 0, 0, 0, 0, 0, 0, 0, 0, 0, 0, 0, 0, 0, 0, 0, 0, 0, 0, 0, 0, 0, 0, 0, 0, 0]] = [0, 249, 67, 132, 41, 198, 54, 240, 58, 233, 196, 226, 142, 71, 110, 35, 117, 35, 172, 196, 194, 75, 210, 160, 234, 39, 163, 120, 150, 22, 177, 134] := congrArg Prod.snd h
  rw [f55v] at h2
  revert h2
  decide
end Go.Inc

/-
  PLAIN 13: what is noted of a tree and of a path binds: an old root that is told beside a list's root is the root of its beginning, or what was noted clashes.
-/
set_option linter.unusedVariables false
namespace Go.Inc
open Go
/-! ### books within a list of notes -/
def bkIn (N : List Nt) (x : BookA) : Prop := ∀ y, x = some y → ∀ z ∈ y.1, z ∈ N
theorem bkIn.of {N : List Nt} {x : BookA} {k : Int} {p : List (List UInt8)} (h : bkIn N (bookOf x k p)) : bkIn N x := fun y hy z hz => by
  subst hy
  exact h _ rfl z (addL_sub _ _ _ z hz)
theorem bkIn.root : ∀ (k : Nat) {N : List Nt} {l : List Sm} {x : BookA}, l.length ≤ k → bkIn N (rootBk x l) → bkIn N x
  | 0, N, l, x, hk, h => by
    obtain rfl : l = [] := List.length_eq_zero_iff.1 (by omega)
    rw [rootBk_nil] at h; exact h.of
  | k + 1, N, l, x, hk, h => by
    rcases Nat.lt_or_ge l.length 2 with h2 | h2
    · match l, h2 with
      | [], _ => rw [rootBk_nil] at h; exact h.of
      | [a], _ => rw [rootBk_one] at h; exact h
    · have a1 := half_pos h2
      have a2 := half_lt h2
      rw [rootBk_two x h2] at h
      exact bkIn.root k (by simp only [List.length_take]; omega) (bkIn.root k (by simp only [List.length_drop]; omega) h.of)
/-- notes that are not great -/
def smallB (x : BookA) : Prop := ∀ y, x = some y → ∀ z ∈ y.1, z.2.length ≤ 200
theorem smallB.of {x : BookA} {k : Int} {p : List (List UInt8)} (h : smallB x) (hp : blobRoom p ≤ 199) : smallB (bookOf x k p) := fun y hy z hz => by
  cases x with
  | none => cases hy
  | some u =>
    cases hy
    rcases addL_mem hz with hz | hz
    · exact h u rfl z hz
    · rw [hz]
      have := preimage_len k (l := p) (by omega)
      exact Nat.le_trans this (by omega)
theorem room2 {a b : Sm} (ha : a.length = 32) (hb : b.length = 32) : blobRoom [a, b] ≤ 199 := by simp [blobRoom, ha, hb]
theorem smallB.root : ∀ (k : Nat) {l : List Sm} {x : BookA}, l.length ≤ k → (∀ z ∈ l, z.length = 32) → smallB x → smallB (rootBk x l)
  | 0, l, x, hk, hl, h => by
    obtain rfl : l = [] := List.length_eq_zero_iff.1 (by omega)
    rw [rootBk_nil]; exact h.of (by simp [blobRoom])
  | k + 1, l, x, hk, hl, h => by
    rcases Nat.lt_or_ge l.length 2 with h2 | h2
    · match l, h2 with
      | [], _ => rw [rootBk_nil]; exact h.of (by simp [blobRoom])
      | [a], _ => rw [rootBk_one]; exact h
    · have a1 := half_pos h2
      have a2 := half_lt h2
      have w1 : ∀ z ∈ l.take (half l.length), z.length = 32 := fun z hz => hl z (List.mem_of_mem_take hz)
      have w2 : ∀ z ∈ l.drop (half l.length), z.length = 32 := fun z hz => hl z (List.mem_of_mem_drop hz)
      rw [rootBk_two x h2]
      exact (smallB.root k (by simp only [List.length_drop]; omega) w2 (smallB.root k (by simp only [List.length_take]; omega) w1 h)).of (room2 (rootS_len w1) (rootS_len w2))
theorem smallB.fold : ∀ {A : List Int} {P : List Sm} {s : Sm × Sm} {x : BookA}, s.1.length = 32 → s.2.length = 32 → (∀ z ∈ P, z.length = 32) → smallB x → smallB (foldB A P s x)
  | [], P, s, x, _, _, _, h => by simpa [foldB] using h
  | _ :: _, [], s, x, _, _, _, h => by simpa [foldB] using h
  | a :: A, p :: P, s, x, h1, h2, hP, h => by
    have hp := hP p (by simp)
    have hP' : ∀ z ∈ P, z.length = 32 := fun z hz => hP z (by simp [hz])
    simp only [foldB]
    split
    · exact smallB.fold h1 (sealOf_len _ _) hP' (h.of (room2 h2 hp))
    · exact smallB.fold (sealOf_len _ _) (sealOf_len _ _) hP' ((h.of (room2 hp h1)).of (room2 hp h2))
theorem bookUpto.fold : ∀ {A : List Int} {P : List Sm} {s : Sm × Sm} {x : BookA} {n : Nat}, bookUpto x (n + 2 * P.length) → bookUpto (foldB A P s x) n
  | [], P, s, x, n, h => by simp only [foldB]; exact h.le (by omega)
  | _ :: _, [], s, x, n, h => by simp only [foldB]; exact h.le (by omega)
  | a :: A, p :: P, s, x, n, h => by
    simp only [foldB]
    refine bookUpto.fold ?_
    have h' : bookUpto x (n + 2 * P.length + 1 + 1) := h.le (by simp only [List.length_cons]; omega)
    split
    · exact (h'.le (by omega) : bookUpto x (n + 2 * P.length + 1)).of _ _
    · exact (h'.of _ _).of _ _
end Go.Inc

/- Each function that stands here: what it is asked and leaves (_C), its condition (_VC), that it holds (_ok), its contract (_c). -/
set_option linter.unusedVariables false
set_option maxRecDepth 100000
set_option maxHeartbeats 20000000
namespace Go.Proofs.Ytkffegaofdpkiaa
open Go Go.RowKit Go.Inc
noncomputable def fiveF_C : Ctr := ⟨[], [.ow 31 (.arr 32 .byte)], none, fun _ => ((fiveO, ()), (()))⟩
noncomputable def fiveF_X : Fx := ⟨seat, some bkT, fns, [], [], [], []⟩
def fiveF_VC (Q : (List (List UInt8)) → Prop) : Prop :=
  Q ((toB (1 : Int) :: ([] : List UInt8) ++ List.replicate ((32 : Nat) - (((0 : Nat), Operand.const (Value.int IntKind.u8 (1 : Int))) :: ([] : List (Nat × Operand))).toArray.toList.length) Ty.byte.kd.z) :: (toB (2 : Int) :: ([] : List UInt8) ++ List.replicate ((32 : Nat) - (((0 : Nat), Operand.const (Value.int IntKind.u8 (2 : Int))) :: ([] : List (Nat × Operand))).toArray.toList.length) Ty.byte.kd.z) :: (toB (3 : Int) :: ([] : List UInt8) ++ List.replicate ((32 : Nat) - (((0 : Nat), Operand.const (Value.int IntKind.u8 (3 : Int))) :: ([] : List (Nat × Operand))).toArray.toList.length) Ty.byte.kd.z) :: (toB (4 : Int) :: ([] : List UInt8) ++ List.replicate ((32 : Nat) - (((0 : Nat), Operand.const (Value.int IntKind.u8 (4 : Int))) :: ([] : List (Nat × Operand))).toArray.toList.length) Ty.byte.kd.z) :: (toB (5 : Int) :: ([] : List UInt8) ++ List.replicate ((32 : Nat) - (((0 : Nat), Operand.const (Value.int IntKind.u8 (5 : Int))) :: ([] : List (Nat × Operand))).toArray.toList.length) Ty.byte.kd.z) :: ([] : List (List UInt8)))
theorem fiveF_ok  : fiveF_VC  (fun o0 => o0 = fiveO) := by
  unfold fiveF_VC
  rw [fiveO_eq]
  rfl
theorem fiveF_eq : (∀ a, fiveF_C.pre a → PM.wfP fiveF_C.pm a (fvc fiveF_X 200 49 fiveF_C a (eqO fiveF_C a))) = (∀ a : Unit, True → fiveF_VC  (fun o0 => o0 = fiveO)) := by kernel_rfl
theorem fiveF_k : fiveF_C.valid Try.prog 49 := ctr_of (X := fiveF_X) (ok_of seat_ok (fun b hb => by cases hb; exact bkT_ok) fns_ok trivial) 200 (fiveF_eq.mpr fun a hp  => @fiveF_ok )
noncomputable def awake5_C : Ctr := ⟨[], [.v .bool], none, fun _ => ((true, ()), (()))⟩
noncomputable def awake5_X : Fx := ⟨seat, some bkT, fns, [(49, fiveF_C), (33, BetweenO_C), (33, BetweenR_C), (25, RootN_C), (25, Root_C), (35, Steps_C), (37, ExtendsN_C), (37, Extends_C)], [], [], [(3, [0, 1, 2, 3, 4, 5, 6, 7, 8, 9, 10, 11, 12], [.o 0 2, .o 2 2, .o 3 2, .par [1, 4, 5, 6] (.alt 1 0 (.alt 4 0 (.alt 5 0 (.one 6 0 .fin) (.alt 6 0 (.one 5 0 .fin) .fin)) (.alt 5 0 (.alt 4 0 (.one 6 0 .fin) (.alt 6 0 (.one 4 0 .fin) .fin)) (.alt 6 0 (.alt 4 0 (.one 5 0 .fin) (.alt 5 0 (.one 4 0 .fin) .fin)) .fin))) (.alt 5 0 (.alt 1 0 (.alt 4 0 (.one 6 0 .fin) (.alt 6 0 (.one 4 0 .fin) .fin)) (.alt 6 0 (.one 1 0 (.one 4 0 .fin)) .fin)) (.alt 6 0 (.alt 1 0 (.alt 4 0 (.one 5 0 .fin) (.alt 5 0 (.one 4 0 .fin) .fin)) (.alt 5 0 (.one 1 0 (.one 4 0 .fin)) .fin)) .fin))), .o 7 1, .o 8 1]), (4, [], [.o 0 0, .o 1 2, .o 2 2, .o 3 0, .o 4 2, .o 5 2, .o 6 2, .o 7 0, .o 8 2, .o 9 2, .o 10 2, .o 11 0, .o 12 2, .o 13 2, .o 14 2, .o 15 2, .o 16 2, .o 17 2, .o 18 2, .o 19 2, .o 20 2, .o 21 2, .o 22 2, .o 23 2, .o 24 2, .o 25 2, .o 26 2, .o 27 2, .o 28 2, .o 29 2, .o 30 2, .o 31 2, .o 32 2, .o 33 2, .o 34 2, .o 35 2, .o 36 2, .o 37 2, .o 38 2, .o 39 2, .o 40 2, .o 41 2, .o 42 2, .o 43 2, .o 44 2, .o 45 2, .o 46 2, .o 47 2, .o 48 2, .o 49 2, .o 50 2, .o 51 2, .o 52 2, .o 53 2, .o 54 2, .o 55 0, .o 56 2, .o 57 2, .o 58 2, .o 59 2, .o 60 2, .o 61 2, .o 62 0, .o 63 2, .o 64 2, .o 65 2, .o 67 2, .o 66 0, .o 68 0, .o 69 2, .o 70 2, .o 71 2, .o 72 2, .o 73 2, .o 74 0, .o 75 2, .o 76 2, .o 77 2])]⟩
def awake5_VC (Q : Bool → Prop) : Prop :=
  (Ty.arr (32 : Nat) Ty.byte).kd.sl.wf fiveO → fiveO.length ≤ (1048576 : Nat) ∧ ((Ty.arr (32 : Nat) Ty.byte).kd.sl.wf (betwN fiveO (3 : Int)) → fiveO.length ≤ (1048576 : Nat) ∧ ((Ty.arr (32 : Nat) Ty.byte).kd.sl.wf (betwN fiveO (4 : Int)) → ((0 : Int) ≤ (4 : Int) ∧ (4 : Int) ≤ (fiveO.length : Int)) ∧ (fiveO.length ≤ (1048576 : Nat) ∧ ((Ty.arr (32 : Nat) Ty.byte).kd.wf (rootS fiveO) → ((List.take (Int.toNat (4 : Int)) fiveO).length ≤ (1048576 : Nat) ∧ ((Ty.arr (32 : Nat) Ty.byte).kd.wf (rootS (List.take (Int.toNat (4 : Int)) fiveO)) → ((Ty.int IntKind.i64).kd.wf (stepsN (Int.toNat (3 : Int)) (Int.toNat (5 : Int))) → (stepsN (Int.toNat (3 : Int)) (Int.toNat (5 : Int)) = (4 : Int) → (Ty.int IntKind.i64).kd.wf (stepsN (Int.toNat (4 : Int)) (Int.toNat (5 : Int))) → (stepsN (Int.toNat (4 : Int)) (Int.toNat (5 : Int)) = (1 : Int) → (Ty.int IntKind.i64).kd.wf (stepsN (Int.toNat (5 : Int)) (Int.toNat (5 : Int))) → (stepsN (Int.toNat (5 : Int)) (Int.toNat (5 : Int)) = (0 : Int) → (Ty.int IntKind.i64).kd.wf (stepsN (Int.toNat (0 : Int)) (Int.toNat (5 : Int))) → (stepsN (Int.toNat (0 : Int)) (Int.toNat (5 : Int)) = (0 : Int) → (((betwN fiveO (3 : Int)).length : Int) = (4 : Int) → ((0 : Int) ≤ (0 : Int) ∧ (0 : Int) < ((betwN fiveO (3 : Int)).length : Int)) ∧ ((0 : Int) ≤ (2 : Int) ∧ (2 : Int) < (fiveO.length : Int)) ∧ (ix (betwN fiveO (3 : Int)) (0 : Int) = ix fiveO (2 : Int) → ((0 : Int) ≤ (3 : Int) ∧ (3 : Int) < ((betwN fiveO (3 : Int)).length : Int)) ∧ ((0 : Int) ≤ (4 : Int) ∧ (4 : Int) < (fiveO.length : Int)) ∧ (ix (betwN fiveO (3 : Int)) (3 : Int) = ix fiveO (4 : Int) → (((betwN fiveO (4 : Int)).length : Int) = (1 : Int) → ((0 : Int) ≤ (0 : Int) ∧ (0 : Int) < ((betwN fiveO (4 : Int)).length : Int)) ∧ ((0 : Int) ≤ (4 : Int) ∧ (4 : Int) < (fiveO.length : Int)) ∧ (ix (betwN fiveO (4 : Int)) (0 : Int) = ix fiveO (4 : Int) → (betwN fiveO (4 : Int)).length ≤ (65536 : Nat) ∧ ((Ty.int IntKind.i64).kd.wf (if extendsB (4 : Int) (5 : Int) (rootS (List.take (Int.toNat (4 : Int)) fiveO)) (rootS fiveO) (betwN fiveO (4 : Int)) = true then (0 : Int) else (10 : Int)) → ((if extendsB (4 : Int) (5 : Int) (rootS (List.take (Int.toNat (4 : Int)) fiveO)) (rootS fiveO) (betwN fiveO (4 : Int)) = true then (0 : Int) else (10 : Int)) = (0 : Int) → (betwN fiveO (4 : Int)).length ≤ (65536 : Nat) ∧ ((Ty.int IntKind.i64).kd.wf (if extendsB (4 : Int) (5 : Int) (rootS fiveO) (rootS fiveO) (betwN fiveO (4 : Int)) = true then (0 : Int) else (10 : Int)) → ((if extendsB (4 : Int) (5 : Int) (rootS fiveO) (rootS fiveO) (betwN fiveO (4 : Int)) = true then (0 : Int) else (10 : Int)) = (10 : Int) → ([] : List (List UInt8)).length ≤ (1048576 : Nat) ∧ ((Ty.arr (32 : Nat) Ty.byte).kd.wf (rootS ([] : List (List UInt8))) → ([] : List (List UInt8)).length ≤ (65536 : Nat) ∧ ((Ty.int IntKind.i64).kd.wf (if extendsB (0 : Int) (5 : Int) (rootS ([] : List (List UInt8))) (rootS fiveO) ([] : List (List UInt8)) = true then (0 : Int) else (10 : Int)) → ((if extendsB (0 : Int) (5 : Int) (rootS ([] : List (List UInt8))) (rootS fiveO) ([] : List (List UInt8)) = true then (0 : Int) else (10 : Int)) = (0 : Int) → ([] : List (List UInt8)).length ≤ (65536 : Nat) ∧ ((Ty.int IntKind.i64).kd.wf (if extendsB (6 : Int) (5 : Int) (rootS (List.take (Int.toNat (4 : Int)) fiveO)) (rootS fiveO) ([] : List (List UInt8)) = true then (0 : Int) else (10 : Int)) → Q (decide ((if extendsB (6 : Int) (5 : Int) (rootS (List.take (Int.toNat (4 : Int)) fiveO)) (rootS fiveO) ([] : List (List UInt8)) = true then (0 : Int) else (10 : Int)) = (10 : Int))))) ∧ (¬(if extendsB (0 : Int) (5 : Int) (rootS ([] : List (List UInt8))) (rootS fiveO) ([] : List (List UInt8)) = true then (0 : Int) else (10 : Int)) = (0 : Int) → Q false)))) ∧ (¬(if extendsB (4 : Int) (5 : Int) (rootS fiveO) (rootS fiveO) (betwN fiveO (4 : Int)) = true then (0 : Int) else (10 : Int)) = (10 : Int) → Q false))) ∧ (¬(if extendsB (4 : Int) (5 : Int) (rootS (List.take (Int.toNat (4 : Int)) fiveO)) (rootS fiveO) (betwN fiveO (4 : Int)) = true then (0 : Int) else (10 : Int)) = (0 : Int) → Q false))) ∧ (¬ix (betwN fiveO (4 : Int)) (0 : Int) = ix fiveO (4 : Int) → Q false)) ∧ (¬((betwN fiveO (4 : Int)).length : Int) = (1 : Int) → Q false)) ∧ (¬ix (betwN fiveO (3 : Int)) (3 : Int) = ix fiveO (4 : Int) → Q false)) ∧ (¬ix (betwN fiveO (3 : Int)) (0 : Int) = ix fiveO (2 : Int) → Q false)) ∧ (¬((betwN fiveO (3 : Int)).length : Int) = (4 : Int) → Q false)) ∧ (¬stepsN (Int.toNat (0 : Int)) (Int.toNat (5 : Int)) = (0 : Int) → Q false)) ∧ (¬stepsN (Int.toNat (5 : Int)) (Int.toNat (5 : Int)) = (0 : Int) → Q false)) ∧ (¬stepsN (Int.toNat (4 : Int)) (Int.toNat (5 : Int)) = (1 : Int) → Q false)) ∧ (¬stepsN (Int.toNat (3 : Int)) (Int.toNat (5 : Int)) = (4 : Int) → Q false)) ∧ ((Ty.int IntKind.i64).kd.wf (stepsN (Int.toNat (3 : Int)) (Int.toNat (5 : Int))) → (stepsN (Int.toNat (3 : Int)) (Int.toNat (5 : Int)) = (4 : Int) → (Ty.int IntKind.i64).kd.wf (stepsN (Int.toNat (4 : Int)) (Int.toNat (5 : Int))) → (stepsN (Int.toNat (4 : Int)) (Int.toNat (5 : Int)) = (1 : Int) → (Ty.int IntKind.i64).kd.wf (stepsN (Int.toNat (5 : Int)) (Int.toNat (5 : Int))) → (stepsN (Int.toNat (5 : Int)) (Int.toNat (5 : Int)) = (0 : Int) → (Ty.int IntKind.i64).kd.wf (stepsN (Int.toNat (0 : Int)) (Int.toNat (5 : Int))) → (stepsN (Int.toNat (0 : Int)) (Int.toNat (5 : Int)) = (0 : Int) → (((betwN fiveO (3 : Int)).length : Int) = (4 : Int) → ((0 : Int) ≤ (0 : Int) ∧ (0 : Int) < ((betwN fiveO (3 : Int)).length : Int)) ∧ ((0 : Int) ≤ (2 : Int) ∧ (2 : Int) < (fiveO.length : Int)) ∧ (ix (betwN fiveO (3 : Int)) (0 : Int) = ix fiveO (2 : Int) → ((0 : Int) ≤ (3 : Int) ∧ (3 : Int) < ((betwN fiveO (3 : Int)).length : Int)) ∧ ((0 : Int) ≤ (4 : Int) ∧ (4 : Int) < (fiveO.length : Int)) ∧ (ix (betwN fiveO (3 : Int)) (3 : Int) = ix fiveO (4 : Int) → (((betwN fiveO (4 : Int)).length : Int) = (1 : Int) → ((0 : Int) ≤ (0 : Int) ∧ (0 : Int) < ((betwN fiveO (4 : Int)).length : Int)) ∧ ((0 : Int) ≤ (4 : Int) ∧ (4 : Int) < (fiveO.length : Int)) ∧ (ix (betwN fiveO (4 : Int)) (0 : Int) = ix fiveO (4 : Int) → (betwN fiveO (4 : Int)).length ≤ (65536 : Nat) ∧ ((Ty.int IntKind.i64).kd.wf (if extendsB (4 : Int) (5 : Int) (rootS (List.take (Int.toNat (4 : Int)) fiveO)) (rootS fiveO) (betwN fiveO (4 : Int)) = true then (0 : Int) else (10 : Int)) → ((if extendsB (4 : Int) (5 : Int) (rootS (List.take (Int.toNat (4 : Int)) fiveO)) (rootS fiveO) (betwN fiveO (4 : Int)) = true then (0 : Int) else (10 : Int)) = (0 : Int) → (betwN fiveO (4 : Int)).length ≤ (65536 : Nat) ∧ ((Ty.int IntKind.i64).kd.wf (if extendsB (4 : Int) (5 : Int) (rootS fiveO) (rootS fiveO) (betwN fiveO (4 : Int)) = true then (0 : Int) else (10 : Int)) → ((if extendsB (4 : Int) (5 : Int) (rootS fiveO) (rootS fiveO) (betwN fiveO (4 : Int)) = true then (0 : Int) else (10 : Int)) = (10 : Int) → ([] : List (List UInt8)).length ≤ (1048576 : Nat) ∧ ((Ty.arr (32 : Nat) Ty.byte).kd.wf (rootS ([] : List (List UInt8))) → ([] : List (List UInt8)).length ≤ (65536 : Nat) ∧ ((Ty.int IntKind.i64).kd.wf (if extendsB (0 : Int) (5 : Int) (rootS ([] : List (List UInt8))) (rootS fiveO) ([] : List (List UInt8)) = true then (0 : Int) else (10 : Int)) → ((if extendsB (0 : Int) (5 : Int) (rootS ([] : List (List UInt8))) (rootS fiveO) ([] : List (List UInt8)) = true then (0 : Int) else (10 : Int)) = (0 : Int) → ([] : List (List UInt8)).length ≤ (65536 : Nat) ∧ ((Ty.int IntKind.i64).kd.wf (if extendsB (6 : Int) (5 : Int) (rootS (List.take (Int.toNat (4 : Int)) fiveO)) (rootS fiveO) ([] : List (List UInt8)) = true then (0 : Int) else (10 : Int)) → Q (decide ((if extendsB (6 : Int) (5 : Int) (rootS (List.take (Int.toNat (4 : Int)) fiveO)) (rootS fiveO) ([] : List (List UInt8)) = true then (0 : Int) else (10 : Int)) = (10 : Int))))) ∧ (¬(if extendsB (0 : Int) (5 : Int) (rootS ([] : List (List UInt8))) (rootS fiveO) ([] : List (List UInt8)) = true then (0 : Int) else (10 : Int)) = (0 : Int) → Q false)))) ∧ (¬(if extendsB (4 : Int) (5 : Int) (rootS fiveO) (rootS fiveO) (betwN fiveO (4 : Int)) = true then (0 : Int) else (10 : Int)) = (10 : Int) → Q false))) ∧ (¬(if extendsB (4 : Int) (5 : Int) (rootS (List.take (Int.toNat (4 : Int)) fiveO)) (rootS fiveO) (betwN fiveO (4 : Int)) = true then (0 : Int) else (10 : Int)) = (0 : Int) → Q false))) ∧ (¬ix (betwN fiveO (4 : Int)) (0 : Int) = ix fiveO (4 : Int) → Q false)) ∧ (¬((betwN fiveO (4 : Int)).length : Int) = (1 : Int) → Q false)) ∧ (¬ix (betwN fiveO (3 : Int)) (3 : Int) = ix fiveO (4 : Int) → Q false)) ∧ (¬ix (betwN fiveO (3 : Int)) (0 : Int) = ix fiveO (2 : Int) → Q false)) ∧ (¬((betwN fiveO (3 : Int)).length : Int) = (4 : Int) → Q false)) ∧ (¬stepsN (Int.toNat (0 : Int)) (Int.toNat (5 : Int)) = (0 : Int) → Q false)) ∧ (¬stepsN (Int.toNat (5 : Int)) (Int.toNat (5 : Int)) = (0 : Int) → Q false)) ∧ (¬stepsN (Int.toNat (4 : Int)) (Int.toNat (5 : Int)) = (1 : Int) → Q false)) ∧ (¬stepsN (Int.toNat (3 : Int)) (Int.toNat (5 : Int)) = (4 : Int) → Q false)) ∧ True)) ∧ (((List.take (Int.toNat (4 : Int)) fiveO).length ≤ (1048576 : Nat) ∧ ((Ty.arr (32 : Nat) Ty.byte).kd.wf (rootS (List.take (Int.toNat (4 : Int)) fiveO)) → (Ty.int IntKind.i64).kd.wf (stepsN (Int.toNat (3 : Int)) (Int.toNat (5 : Int))) → (stepsN (Int.toNat (3 : Int)) (Int.toNat (5 : Int)) = (4 : Int) → (Ty.int IntKind.i64).kd.wf (stepsN (Int.toNat (4 : Int)) (Int.toNat (5 : Int))) → (stepsN (Int.toNat (4 : Int)) (Int.toNat (5 : Int)) = (1 : Int) → (Ty.int IntKind.i64).kd.wf (stepsN (Int.toNat (5 : Int)) (Int.toNat (5 : Int))) → (stepsN (Int.toNat (5 : Int)) (Int.toNat (5 : Int)) = (0 : Int) → (Ty.int IntKind.i64).kd.wf (stepsN (Int.toNat (0 : Int)) (Int.toNat (5 : Int))) → (stepsN (Int.toNat (0 : Int)) (Int.toNat (5 : Int)) = (0 : Int) → (((betwN fiveO (3 : Int)).length : Int) = (4 : Int) → ((0 : Int) ≤ (0 : Int) ∧ (0 : Int) < ((betwN fiveO (3 : Int)).length : Int)) ∧ ((0 : Int) ≤ (2 : Int) ∧ (2 : Int) < (fiveO.length : Int)) ∧ (ix (betwN fiveO (3 : Int)) (0 : Int) = ix fiveO (2 : Int) → ((0 : Int) ≤ (3 : Int) ∧ (3 : Int) < ((betwN fiveO (3 : Int)).length : Int)) ∧ ((0 : Int) ≤ (4 : Int) ∧ (4 : Int) < (fiveO.length : Int)) ∧ (ix (betwN fiveO (3 : Int)) (3 : Int) = ix fiveO (4 : Int) → (((betwN fiveO (4 : Int)).length : Int) = (1 : Int) → ((0 : Int) ≤ (0 : Int) ∧ (0 : Int) < ((betwN fiveO (4 : Int)).length : Int)) ∧ ((0 : Int) ≤ (4 : Int) ∧ (4 : Int) < (fiveO.length : Int)) ∧ (ix (betwN fiveO (4 : Int)) (0 : Int) = ix fiveO (4 : Int) → (betwN fiveO (4 : Int)).length ≤ (65536 : Nat) ∧ ((Ty.int IntKind.i64).kd.wf (if extendsB (4 : Int) (5 : Int) (rootS (List.take (Int.toNat (4 : Int)) fiveO)) (rootS fiveO) (betwN fiveO (4 : Int)) = true then (0 : Int) else (10 : Int)) → ((if extendsB (4 : Int) (5 : Int) (rootS (List.take (Int.toNat (4 : Int)) fiveO)) (rootS fiveO) (betwN fiveO (4 : Int)) = true then (0 : Int) else (10 : Int)) = (0 : Int) → (betwN fiveO (4 : Int)).length ≤ (65536 : Nat) ∧ ((Ty.int IntKind.i64).kd.wf (if extendsB (4 : Int) (5 : Int) (rootS fiveO) (rootS fiveO) (betwN fiveO (4 : Int)) = true then (0 : Int) else (10 : Int)) → ((if extendsB (4 : Int) (5 : Int) (rootS fiveO) (rootS fiveO) (betwN fiveO (4 : Int)) = true then (0 : Int) else (10 : Int)) = (10 : Int) → ([] : List (List UInt8)).length ≤ (1048576 : Nat) ∧ ((Ty.arr (32 : Nat) Ty.byte).kd.wf (rootS ([] : List (List UInt8))) → ([] : List (List UInt8)).length ≤ (65536 : Nat) ∧ ((Ty.int IntKind.i64).kd.wf (if extendsB (0 : Int) (5 : Int) (rootS ([] : List (List UInt8))) (rootS fiveO) ([] : List (List UInt8)) = true then (0 : Int) else (10 : Int)) → ((if extendsB (0 : Int) (5 : Int) (rootS ([] : List (List UInt8))) (rootS fiveO) ([] : List (List UInt8)) = true then (0 : Int) else (10 : Int)) = (0 : Int) → ([] : List (List UInt8)).length ≤ (65536 : Nat) ∧ ((Ty.int IntKind.i64).kd.wf (if extendsB (6 : Int) (5 : Int) (rootS (List.take (Int.toNat (4 : Int)) fiveO)) (rootS fiveO) ([] : List (List UInt8)) = true then (0 : Int) else (10 : Int)) → Q (decide ((if extendsB (6 : Int) (5 : Int) (rootS (List.take (Int.toNat (4 : Int)) fiveO)) (rootS fiveO) ([] : List (List UInt8)) = true then (0 : Int) else (10 : Int)) = (10 : Int))))) ∧ (¬(if extendsB (0 : Int) (5 : Int) (rootS ([] : List (List UInt8))) (rootS fiveO) ([] : List (List UInt8)) = true then (0 : Int) else (10 : Int)) = (0 : Int) → Q false)))) ∧ (¬(if extendsB (4 : Int) (5 : Int) (rootS fiveO) (rootS fiveO) (betwN fiveO (4 : Int)) = true then (0 : Int) else (10 : Int)) = (10 : Int) → Q false))) ∧ (¬(if extendsB (4 : Int) (5 : Int) (rootS (List.take (Int.toNat (4 : Int)) fiveO)) (rootS fiveO) (betwN fiveO (4 : Int)) = true then (0 : Int) else (10 : Int)) = (0 : Int) → Q false))) ∧ (¬ix (betwN fiveO (4 : Int)) (0 : Int) = ix fiveO (4 : Int) → Q false)) ∧ (¬((betwN fiveO (4 : Int)).length : Int) = (1 : Int) → Q false)) ∧ (¬ix (betwN fiveO (3 : Int)) (3 : Int) = ix fiveO (4 : Int) → Q false)) ∧ (¬ix (betwN fiveO (3 : Int)) (0 : Int) = ix fiveO (2 : Int) → Q false)) ∧ (¬((betwN fiveO (3 : Int)).length : Int) = (4 : Int) → Q false)) ∧ (¬stepsN (Int.toNat (0 : Int)) (Int.toNat (5 : Int)) = (0 : Int) → Q false)) ∧ (¬stepsN (Int.toNat (5 : Int)) (Int.toNat (5 : Int)) = (0 : Int) → Q false)) ∧ (¬stepsN (Int.toNat (4 : Int)) (Int.toNat (5 : Int)) = (1 : Int) → Q false)) ∧ (¬stepsN (Int.toNat (3 : Int)) (Int.toNat (5 : Int)) = (4 : Int) → Q false))) ∧ ((List.take (Int.toNat (4 : Int)) fiveO).length ≤ (1048576 : Nat) ∧ ((Ty.arr (32 : Nat) Ty.byte).kd.wf (rootS (List.take (Int.toNat (4 : Int)) fiveO)) → (Ty.int IntKind.i64).kd.wf (stepsN (Int.toNat (3 : Int)) (Int.toNat (5 : Int))) → (stepsN (Int.toNat (3 : Int)) (Int.toNat (5 : Int)) = (4 : Int) → (Ty.int IntKind.i64).kd.wf (stepsN (Int.toNat (4 : Int)) (Int.toNat (5 : Int))) → (stepsN (Int.toNat (4 : Int)) (Int.toNat (5 : Int)) = (1 : Int) → (Ty.int IntKind.i64).kd.wf (stepsN (Int.toNat (5 : Int)) (Int.toNat (5 : Int))) → (stepsN (Int.toNat (5 : Int)) (Int.toNat (5 : Int)) = (0 : Int) → (Ty.int IntKind.i64).kd.wf (stepsN (Int.toNat (0 : Int)) (Int.toNat (5 : Int))) → (stepsN (Int.toNat (0 : Int)) (Int.toNat (5 : Int)) = (0 : Int) → (((betwN fiveO (3 : Int)).length : Int) = (4 : Int) → ((0 : Int) ≤ (0 : Int) ∧ (0 : Int) < ((betwN fiveO (3 : Int)).length : Int)) ∧ ((0 : Int) ≤ (2 : Int) ∧ (2 : Int) < (fiveO.length : Int)) ∧ (ix (betwN fiveO (3 : Int)) (0 : Int) = ix fiveO (2 : Int) → ((0 : Int) ≤ (3 : Int) ∧ (3 : Int) < ((betwN fiveO (3 : Int)).length : Int)) ∧ ((0 : Int) ≤ (4 : Int) ∧ (4 : Int) < (fiveO.length : Int)) ∧ (ix (betwN fiveO (3 : Int)) (3 : Int) = ix fiveO (4 : Int) → (((betwN fiveO (4 : Int)).length : Int) = (1 : Int) → ((0 : Int) ≤ (0 : Int) ∧ (0 : Int) < ((betwN fiveO (4 : Int)).length : Int)) ∧ ((0 : Int) ≤ (4 : Int) ∧ (4 : Int) < (fiveO.length : Int)) ∧ (ix (betwN fiveO (4 : Int)) (0 : Int) = ix fiveO (4 : Int) → (betwN fiveO (4 : Int)).length ≤ (65536 : Nat) ∧ ((Ty.int IntKind.i64).kd.wf (if extendsB (4 : Int) (5 : Int) (rootS (List.take (Int.toNat (4 : Int)) fiveO)) (rootS fiveO) (betwN fiveO (4 : Int)) = true then (0 : Int) else (10 : Int)) → ((if extendsB (4 : Int) (5 : Int) (rootS (List.take (Int.toNat (4 : Int)) fiveO)) (rootS fiveO) (betwN fiveO (4 : Int)) = true then (0 : Int) else (10 : Int)) = (0 : Int) → (betwN fiveO (4 : Int)).length ≤ (65536 : Nat) ∧ ((Ty.int IntKind.i64).kd.wf (if extendsB (4 : Int) (5 : Int) (rootS fiveO) (rootS fiveO) (betwN fiveO (4 : Int)) = true then (0 : Int) else (10 : Int)) → ((if extendsB (4 : Int) (5 : Int) (rootS fiveO) (rootS fiveO) (betwN fiveO (4 : Int)) = true then (0 : Int) else (10 : Int)) = (10 : Int) → ([] : List (List UInt8)).length ≤ (1048576 : Nat) ∧ ((Ty.arr (32 : Nat) Ty.byte).kd.wf (rootS ([] : List (List UInt8))) → ([] : List (List UInt8)).length ≤ (65536 : Nat) ∧ ((Ty.int IntKind.i64).kd.wf (if extendsB (0 : Int) (5 : Int) (rootS ([] : List (List UInt8))) (rootS fiveO) ([] : List (List UInt8)) = true then (0 : Int) else (10 : Int)) → ((if extendsB (0 : Int) (5 : Int) (rootS ([] : List (List UInt8))) (rootS fiveO) ([] : List (List UInt8)) = true then (0 : Int) else (10 : Int)) = (0 : Int) → ([] : List (List UInt8)).length ≤ (65536 : Nat) ∧ ((Ty.int IntKind.i64).kd.wf (if extendsB (6 : Int) (5 : Int) (rootS (List.take (Int.toNat (4 : Int)) fiveO)) (rootS fiveO) ([] : List (List UInt8)) = true then (0 : Int) else (10 : Int)) → Q (decide ((if extendsB (6 : Int) (5 : Int) (rootS (List.take (Int.toNat (4 : Int)) fiveO)) (rootS fiveO) ([] : List (List UInt8)) = true then (0 : Int) else (10 : Int)) = (10 : Int))))) ∧ (¬(if extendsB (0 : Int) (5 : Int) (rootS ([] : List (List UInt8))) (rootS fiveO) ([] : List (List UInt8)) = true then (0 : Int) else (10 : Int)) = (0 : Int) → Q false)))) ∧ (¬(if extendsB (4 : Int) (5 : Int) (rootS fiveO) (rootS fiveO) (betwN fiveO (4 : Int)) = true then (0 : Int) else (10 : Int)) = (10 : Int) → Q false))) ∧ (¬(if extendsB (4 : Int) (5 : Int) (rootS (List.take (Int.toNat (4 : Int)) fiveO)) (rootS fiveO) (betwN fiveO (4 : Int)) = true then (0 : Int) else (10 : Int)) = (0 : Int) → Q false))) ∧ (¬ix (betwN fiveO (4 : Int)) (0 : Int) = ix fiveO (4 : Int) → Q false)) ∧ (¬((betwN fiveO (4 : Int)).length : Int) = (1 : Int) → Q false)) ∧ (¬ix (betwN fiveO (3 : Int)) (3 : Int) = ix fiveO (4 : Int) → Q false)) ∧ (¬ix (betwN fiveO (3 : Int)) (0 : Int) = ix fiveO (2 : Int) → Q false)) ∧ (¬((betwN fiveO (3 : Int)).length : Int) = (4 : Int) → Q false)) ∧ (¬stepsN (Int.toNat (0 : Int)) (Int.toNat (5 : Int)) = (0 : Int) → Q false)) ∧ (¬stepsN (Int.toNat (5 : Int)) (Int.toNat (5 : Int)) = (0 : Int) → Q false)) ∧ (¬stepsN (Int.toNat (4 : Int)) (Int.toNat (5 : Int)) = (1 : Int) → Q false)) ∧ (¬stepsN (Int.toNat (3 : Int)) (Int.toNat (5 : Int)) = (4 : Int) → Q false))) ∧ True) ∧ (((List.take (Int.toNat (4 : Int)) fiveO).length ≤ (1048576 : Nat) ∧ ((Ty.arr (32 : Nat) Ty.byte).kd.wf (rootS (List.take (Int.toNat (4 : Int)) fiveO)) → (Ty.int IntKind.i64).kd.wf (stepsN (Int.toNat (3 : Int)) (Int.toNat (5 : Int))) → (stepsN (Int.toNat (3 : Int)) (Int.toNat (5 : Int)) = (4 : Int) → (Ty.int IntKind.i64).kd.wf (stepsN (Int.toNat (4 : Int)) (Int.toNat (5 : Int))) → (stepsN (Int.toNat (4 : Int)) (Int.toNat (5 : Int)) = (1 : Int) → (Ty.int IntKind.i64).kd.wf (stepsN (Int.toNat (5 : Int)) (Int.toNat (5 : Int))) → (stepsN (Int.toNat (5 : Int)) (Int.toNat (5 : Int)) = (0 : Int) → (Ty.int IntKind.i64).kd.wf (stepsN (Int.toNat (0 : Int)) (Int.toNat (5 : Int))) → (stepsN (Int.toNat (0 : Int)) (Int.toNat (5 : Int)) = (0 : Int) → (((betwN fiveO (3 : Int)).length : Int) = (4 : Int) → ((0 : Int) ≤ (0 : Int) ∧ (0 : Int) < ((betwN fiveO (3 : Int)).length : Int)) ∧ ((0 : Int) ≤ (2 : Int) ∧ (2 : Int) < (fiveO.length : Int)) ∧ (ix (betwN fiveO (3 : Int)) (0 : Int) = ix fiveO (2 : Int) → ((0 : Int) ≤ (3 : Int) ∧ (3 : Int) < ((betwN fiveO (3 : Int)).length : Int)) ∧ ((0 : Int) ≤ (4 : Int) ∧ (4 : Int) < (fiveO.length : Int)) ∧ (ix (betwN fiveO (3 : Int)) (3 : Int) = ix fiveO (4 : Int) → (((betwN fiveO (4 : Int)).length : Int) = (1 : Int) → ((0 : Int) ≤ (0 : Int) ∧ (0 : Int) < ((betwN fiveO (4 : Int)).length : Int)) ∧ ((0 : Int) ≤ (4 : Int) ∧ (4 : Int) < (fiveO.length : Int)) ∧ (ix (betwN fiveO (4 : Int)) (0 : Int) = ix fiveO (4 : Int) → (betwN fiveO (4 : Int)).length ≤ (65536 : Nat) ∧ ((Ty.int IntKind.i64).kd.wf (if extendsB (4 : Int) (5 : Int) (rootS (List.take (Int.toNat (4 : Int)) fiveO)) (rootS fiveO) (betwN fiveO (4 : Int)) = true then (0 : Int) else (10 : Int)) → ((if extendsB (4 : Int) (5 : Int) (rootS (List.take (Int.toNat (4 : Int)) fiveO)) (rootS fiveO) (betwN fiveO (4 : Int)) = true then (0 : Int) else (10 : Int)) = (0 : Int) → (betwN fiveO (4 : Int)).length ≤ (65536 : Nat) ∧ ((Ty.int IntKind.i64).kd.wf (if extendsB (4 : Int) (5 : Int) (rootS fiveO) (rootS fiveO) (betwN fiveO (4 : Int)) = true then (0 : Int) else (10 : Int)) → ((if extendsB (4 : Int) (5 : Int) (rootS fiveO) (rootS fiveO) (betwN fiveO (4 : Int)) = true then (0 : Int) else (10 : Int)) = (10 : Int) → ([] : List (List UInt8)).length ≤ (1048576 : Nat) ∧ ((Ty.arr (32 : Nat) Ty.byte).kd.wf (rootS ([] : List (List UInt8))) → ([] : List (List UInt8)).length ≤ (65536 : Nat) ∧ ((Ty.int IntKind.i64).kd.wf (if extendsB (0 : Int) (5 : Int) (rootS ([] : List (List UInt8))) (rootS fiveO) ([] : List (List UInt8)) = true then (0 : Int) else (10 : Int)) → ((if extendsB (0 : Int) (5 : Int) (rootS ([] : List (List UInt8))) (rootS fiveO) ([] : List (List UInt8)) = true then (0 : Int) else (10 : Int)) = (0 : Int) → ([] : List (List UInt8)).length ≤ (65536 : Nat) ∧ ((Ty.int IntKind.i64).kd.wf (if extendsB (6 : Int) (5 : Int) (rootS (List.take (Int.toNat (4 : Int)) fiveO)) (rootS fiveO) ([] : List (List UInt8)) = true then (0 : Int) else (10 : Int)) → Q (decide ((if extendsB (6 : Int) (5 : Int) (rootS (List.take (Int.toNat (4 : Int)) fiveO)) (rootS fiveO) ([] : List (List UInt8)) = true then (0 : Int) else (10 : Int)) = (10 : Int))))) ∧ (¬(if extendsB (0 : Int) (5 : Int) (rootS ([] : List (List UInt8))) (rootS fiveO) ([] : List (List UInt8)) = true then (0 : Int) else (10 : Int)) = (0 : Int) → Q false)))) ∧ (¬(if extendsB (4 : Int) (5 : Int) (rootS fiveO) (rootS fiveO) (betwN fiveO (4 : Int)) = true then (0 : Int) else (10 : Int)) = (10 : Int) → Q false))) ∧ (¬(if extendsB (4 : Int) (5 : Int) (rootS (List.take (Int.toNat (4 : Int)) fiveO)) (rootS fiveO) (betwN fiveO (4 : Int)) = true then (0 : Int) else (10 : Int)) = (0 : Int) → Q false))) ∧ (¬ix (betwN fiveO (4 : Int)) (0 : Int) = ix fiveO (4 : Int) → Q false)) ∧ (¬((betwN fiveO (4 : Int)).length : Int) = (1 : Int) → Q false)) ∧ (¬ix (betwN fiveO (3 : Int)) (3 : Int) = ix fiveO (4 : Int) → Q false)) ∧ (¬ix (betwN fiveO (3 : Int)) (0 : Int) = ix fiveO (2 : Int) → Q false)) ∧ (¬((betwN fiveO (3 : Int)).length : Int) = (4 : Int) → Q false)) ∧ (¬stepsN (Int.toNat (0 : Int)) (Int.toNat (5 : Int)) = (0 : Int) → Q false)) ∧ (¬stepsN (Int.toNat (5 : Int)) (Int.toNat (5 : Int)) = (0 : Int) → Q false)) ∧ (¬stepsN (Int.toNat (4 : Int)) (Int.toNat (5 : Int)) = (1 : Int) → Q false)) ∧ (¬stepsN (Int.toNat (3 : Int)) (Int.toNat (5 : Int)) = (4 : Int) → Q false))) ∧ ((List.take (Int.toNat (4 : Int)) fiveO).length ≤ (1048576 : Nat) ∧ ((Ty.arr (32 : Nat) Ty.byte).kd.wf (rootS (List.take (Int.toNat (4 : Int)) fiveO)) → (Ty.int IntKind.i64).kd.wf (stepsN (Int.toNat (3 : Int)) (Int.toNat (5 : Int))) → (stepsN (Int.toNat (3 : Int)) (Int.toNat (5 : Int)) = (4 : Int) → (Ty.int IntKind.i64).kd.wf (stepsN (Int.toNat (4 : Int)) (Int.toNat (5 : Int))) → (stepsN (Int.toNat (4 : Int)) (Int.toNat (5 : Int)) = (1 : Int) → (Ty.int IntKind.i64).kd.wf (stepsN (Int.toNat (5 : Int)) (Int.toNat (5 : Int))) → (stepsN (Int.toNat (5 : Int)) (Int.toNat (5 : Int)) = (0 : Int) → (Ty.int IntKind.i64).kd.wf (stepsN (Int.toNat (0 : Int)) (Int.toNat (5 : Int))) → (stepsN (Int.toNat (0 : Int)) (Int.toNat (5 : Int)) = (0 : Int) → (((betwN fiveO (3 : Int)).length : Int) = (4 : Int) → ((0 : Int) ≤ (0 : Int) ∧ (0 : Int) < ((betwN fiveO (3 : Int)).length : Int)) ∧ ((0 : Int) ≤ (2 : Int) ∧ (2 : Int) < (fiveO.length : Int)) ∧ (ix (betwN fiveO (3 : Int)) (0 : Int) = ix fiveO (2 : Int) → ((0 : Int) ≤ (3 : Int) ∧ (3 : Int) < ((betwN fiveO (3 : Int)).length : Int)) ∧ ((0 : Int) ≤ (4 : Int) ∧ (4 : Int) < (fiveO.length : Int)) ∧ (ix (betwN fiveO (3 : Int)) (3 : Int) = ix fiveO (4 : Int) → (((betwN fiveO (4 : Int)).length : Int) = (1 : Int) → ((0 : Int) ≤ (0 : Int) ∧ (0 : Int) < ((betwN fiveO (4 : Int)).length : Int)) ∧ ((0 : Int) ≤ (4 : Int) ∧ (4 : Int) < (fiveO.length : Int)) ∧ (ix (betwN fiveO (4 : Int)) (0 : Int) = ix fiveO (4 : Int) → (betwN fiveO (4 : Int)).length ≤ (65536 : Nat) ∧ ((Ty.int IntKind.i64).kd.wf (if extendsB (4 : Int) (5 : Int) (rootS (List.take (Int.toNat (4 : Int)) fiveO)) (rootS fiveO) (betwN fiveO (4 : Int)) = true then (0 : Int) else (10 : Int)) → ((if extendsB (4 : Int) (5 : Int) (rootS (List.take (Int.toNat (4 : Int)) fiveO)) (rootS fiveO) (betwN fiveO (4 : Int)) = true then (0 : Int) else (10 : Int)) = (0 : Int) → (betwN fiveO (4 : Int)).length ≤ (65536 : Nat) ∧ ((Ty.int IntKind.i64).kd.wf (if extendsB (4 : Int) (5 : Int) (rootS fiveO) (rootS fiveO) (betwN fiveO (4 : Int)) = true then (0 : Int) else (10 : Int)) → ((if extendsB (4 : Int) (5 : Int) (rootS fiveO) (rootS fiveO) (betwN fiveO (4 : Int)) = true then (0 : Int) else (10 : Int)) = (10 : Int) → ([] : List (List UInt8)).length ≤ (1048576 : Nat) ∧ ((Ty.arr (32 : Nat) Ty.byte).kd.wf (rootS ([] : List (List UInt8))) → ([] : List (List UInt8)).length ≤ (65536 : Nat) ∧ ((Ty.int IntKind.i64).kd.wf (if extendsB (0 : Int) (5 : Int) (rootS ([] : List (List UInt8))) (rootS fiveO) ([] : List (List UInt8)) = true then (0 : Int) else (10 : Int)) → ((if extendsB (0 : Int) (5 : Int) (rootS ([] : List (List UInt8))) (rootS fiveO) ([] : List (List UInt8)) = true then (0 : Int) else (10 : Int)) = (0 : Int) → ([] : List (List UInt8)).length ≤ (65536 : Nat) ∧ ((Ty.int IntKind.i64).kd.wf (if extendsB (6 : Int) (5 : Int) (rootS (List.take (Int.toNat (4 : Int)) fiveO)) (rootS fiveO) ([] : List (List UInt8)) = true then (0 : Int) else (10 : Int)) → Q (decide ((if extendsB (6 : Int) (5 : Int) (rootS (List.take (Int.toNat (4 : Int)) fiveO)) (rootS fiveO) ([] : List (List UInt8)) = true then (0 : Int) else (10 : Int)) = (10 : Int))))) ∧ (¬(if extendsB (0 : Int) (5 : Int) (rootS ([] : List (List UInt8))) (rootS fiveO) ([] : List (List UInt8)) = true then (0 : Int) else (10 : Int)) = (0 : Int) → Q false)))) ∧ (¬(if extendsB (4 : Int) (5 : Int) (rootS fiveO) (rootS fiveO) (betwN fiveO (4 : Int)) = true then (0 : Int) else (10 : Int)) = (10 : Int) → Q false))) ∧ (¬(if extendsB (4 : Int) (5 : Int) (rootS (List.take (Int.toNat (4 : Int)) fiveO)) (rootS fiveO) (betwN fiveO (4 : Int)) = true then (0 : Int) else (10 : Int)) = (0 : Int) → Q false))) ∧ (¬ix (betwN fiveO (4 : Int)) (0 : Int) = ix fiveO (4 : Int) → Q false)) ∧ (¬((betwN fiveO (4 : Int)).length : Int) = (1 : Int) → Q false)) ∧ (¬ix (betwN fiveO (3 : Int)) (3 : Int) = ix fiveO (4 : Int) → Q false)) ∧ (¬ix (betwN fiveO (3 : Int)) (0 : Int) = ix fiveO (2 : Int) → Q false)) ∧ (¬((betwN fiveO (3 : Int)).length : Int) = (4 : Int) → Q false)) ∧ (¬stepsN (Int.toNat (0 : Int)) (Int.toNat (5 : Int)) = (0 : Int) → Q false)) ∧ (¬stepsN (Int.toNat (5 : Int)) (Int.toNat (5 : Int)) = (0 : Int) → Q false)) ∧ (¬stepsN (Int.toNat (4 : Int)) (Int.toNat (5 : Int)) = (1 : Int) → Q false)) ∧ (¬stepsN (Int.toNat (3 : Int)) (Int.toNat (5 : Int)) = (4 : Int) → Q false))) ∧ True) ∧ True)) ∧ ((fiveO.length ≤ (1048576 : Nat) ∧ ((Ty.arr (32 : Nat) Ty.byte).kd.wf (rootS fiveO) → ((List.take (Int.toNat (4 : Int)) fiveO).length ≤ (1048576 : Nat) ∧ ((Ty.arr (32 : Nat) Ty.byte).kd.wf (rootS (List.take (Int.toNat (4 : Int)) fiveO)) → (Ty.int IntKind.i64).kd.wf (stepsN (Int.toNat (3 : Int)) (Int.toNat (5 : Int))) → (stepsN (Int.toNat (3 : Int)) (Int.toNat (5 : Int)) = (4 : Int) → (Ty.int IntKind.i64).kd.wf (stepsN (Int.toNat (4 : Int)) (Int.toNat (5 : Int))) → (stepsN (Int.toNat (4 : Int)) (Int.toNat (5 : Int)) = (1 : Int) → (Ty.int IntKind.i64).kd.wf (stepsN (Int.toNat (5 : Int)) (Int.toNat (5 : Int))) → (stepsN (Int.toNat (5 : Int)) (Int.toNat (5 : Int)) = (0 : Int) → (Ty.int IntKind.i64).kd.wf (stepsN (Int.toNat (0 : Int)) (Int.toNat (5 : Int))) → (stepsN (Int.toNat (0 : Int)) (Int.toNat (5 : Int)) = (0 : Int) → (((betwN fiveO (3 : Int)).length : Int) = (4 : Int) → ((0 : Int) ≤ (0 : Int) ∧ (0 : Int) < ((betwN fiveO (3 : Int)).length : Int)) ∧ ((0 : Int) ≤ (2 : Int) ∧ (2 : Int) < (fiveO.length : Int)) ∧ (ix (betwN fiveO (3 : Int)) (0 : Int) = ix fiveO (2 : Int) → ((0 : Int) ≤ (3 : Int) ∧ (3 : Int) < ((betwN fiveO (3 : Int)).length : Int)) ∧ ((0 : Int) ≤ (4 : Int) ∧ (4 : Int) < (fiveO.length : Int)) ∧ (ix (betwN fiveO (3 : Int)) (3 : Int) = ix fiveO (4 : Int) → (((betwN fiveO (4 : Int)).length : Int) = (1 : Int) → ((0 : Int) ≤ (0 : Int) ∧ (0 : Int) < ((betwN fiveO (4 : Int)).length : Int)) ∧ ((0 : Int) ≤ (4 : Int) ∧ (4 : Int) < (fiveO.length : Int)) ∧ (ix (betwN fiveO (4 : Int)) (0 : Int) = ix fiveO (4 : Int) → (betwN fiveO (4 : Int)).length ≤ (65536 : Nat) ∧ ((Ty.int IntKind.i64).kd.wf (if extendsB (4 : Int) (5 : Int) (rootS (List.take (Int.toNat (4 : Int)) fiveO)) (rootS fiveO) (betwN fiveO (4 : Int)) = true then (0 : Int) else (10 : Int)) → ((if extendsB (4 : Int) (5 : Int) (rootS (List.take (Int.toNat (4 : Int)) fiveO)) (rootS fiveO) (betwN fiveO (4 : Int)) = true then (0 : Int) else (10 : Int)) = (0 : Int) → (betwN fiveO (4 : Int)).length ≤ (65536 : Nat) ∧ ((Ty.int IntKind.i64).kd.wf (if extendsB (4 : Int) (5 : Int) (rootS fiveO) (rootS fiveO) (betwN fiveO (4 : Int)) = true then (0 : Int) else (10 : Int)) → ((if extendsB (4 : Int) (5 : Int) (rootS fiveO) (rootS fiveO) (betwN fiveO (4 : Int)) = true then (0 : Int) else (10 : Int)) = (10 : Int) → ([] : List (List UInt8)).length ≤ (1048576 : Nat) ∧ ((Ty.arr (32 : Nat) Ty.byte).kd.wf (rootS ([] : List (List UInt8))) → ([] : List (List UInt8)).length ≤ (65536 : Nat) ∧ ((Ty.int IntKind.i64).kd.wf (if extendsB (0 : Int) (5 : Int) (rootS ([] : List (List UInt8))) (rootS fiveO) ([] : List (List UInt8)) = true then (0 : Int) else (10 : Int)) → ((if extendsB (0 : Int) (5 : Int) (rootS ([] : List (List UInt8))) (rootS fiveO) ([] : List (List UInt8)) = true then (0 : Int) else (10 : Int)) = (0 : Int) → ([] : List (List UInt8)).length ≤ (65536 : Nat) ∧ ((Ty.int IntKind.i64).kd.wf (if extendsB (6 : Int) (5 : Int) (rootS (List.take (Int.toNat (4 : Int)) fiveO)) (rootS fiveO) ([] : List (List UInt8)) = true then (0 : Int) else (10 : Int)) → Q (decide ((if extendsB (6 : Int) (5 : Int) (rootS (List.take (Int.toNat (4 : Int)) fiveO)) (rootS fiveO) ([] : List (List UInt8)) = true then (0 : Int) else (10 : Int)) = (10 : Int))))) ∧ (¬(if extendsB (0 : Int) (5 : Int) (rootS ([] : List (List UInt8))) (rootS fiveO) ([] : List (List UInt8)) = true then (0 : Int) else (10 : Int)) = (0 : Int) → Q false)))) ∧ (¬(if extendsB (4 : Int) (5 : Int) (rootS fiveO) (rootS fiveO) (betwN fiveO (4 : Int)) = true then (0 : Int) else (10 : Int)) = (10 : Int) → Q false))) ∧ (¬(if extendsB (4 : Int) (5 : Int) (rootS (List.take (Int.toNat (4 : Int)) fiveO)) (rootS fiveO) (betwN fiveO (4 : Int)) = true then (0 : Int) else (10 : Int)) = (0 : Int) → Q false))) ∧ (¬ix (betwN fiveO (4 : Int)) (0 : Int) = ix fiveO (4 : Int) → Q false)) ∧ (¬((betwN fiveO (4 : Int)).length : Int) = (1 : Int) → Q false)) ∧ (¬ix (betwN fiveO (3 : Int)) (3 : Int) = ix fiveO (4 : Int) → Q false)) ∧ (¬ix (betwN fiveO (3 : Int)) (0 : Int) = ix fiveO (2 : Int) → Q false)) ∧ (¬((betwN fiveO (3 : Int)).length : Int) = (4 : Int) → Q false)) ∧ (¬stepsN (Int.toNat (0 : Int)) (Int.toNat (5 : Int)) = (0 : Int) → Q false)) ∧ (¬stepsN (Int.toNat (5 : Int)) (Int.toNat (5 : Int)) = (0 : Int) → Q false)) ∧ (¬stepsN (Int.toNat (4 : Int)) (Int.toNat (5 : Int)) = (1 : Int) → Q false)) ∧ (¬stepsN (Int.toNat (3 : Int)) (Int.toNat (5 : Int)) = (4 : Int) → Q false))) ∧ ((List.take (Int.toNat (4 : Int)) fiveO).length ≤ (1048576 : Nat) ∧ ((Ty.arr (32 : Nat) Ty.byte).kd.wf (rootS (List.take (Int.toNat (4 : Int)) fiveO)) → (Ty.int IntKind.i64).kd.wf (stepsN (Int.toNat (3 : Int)) (Int.toNat (5 : Int))) → (stepsN (Int.toNat (3 : Int)) (Int.toNat (5 : Int)) = (4 : Int) → (Ty.int IntKind.i64).kd.wf (stepsN (Int.toNat (4 : Int)) (Int.toNat (5 : Int))) → (stepsN (Int.toNat (4 : Int)) (Int.toNat (5 : Int)) = (1 : Int) → (Ty.int IntKind.i64).kd.wf (stepsN (Int.toNat (5 : Int)) (Int.toNat (5 : Int))) → (stepsN (Int.toNat (5 : Int)) (Int.toNat (5 : Int)) = (0 : Int) → (Ty.int IntKind.i64).kd.wf (stepsN (Int.toNat (0 : Int)) (Int.toNat (5 : Int))) → (stepsN (Int.toNat (0 : Int)) (Int.toNat (5 : Int)) = (0 : Int) → (((betwN fiveO (3 : Int)).length : Int) = (4 : Int) → ((0 : Int) ≤ (0 : Int) ∧ (0 : Int) < ((betwN fiveO (3 : Int)).length : Int)) ∧ ((0 : Int) ≤ (2 : Int) ∧ (2 : Int) < (fiveO.length : Int)) ∧ (ix (betwN fiveO (3 : Int)) (0 : Int) = ix fiveO (2 : Int) → ((0 : Int) ≤ (3 : Int) ∧ (3 : Int) < ((betwN fiveO (3 : Int)).length : Int)) ∧ ((0 : Int) ≤ (4 : Int) ∧ (4 : Int) < (fiveO.length : Int)) ∧ (ix (betwN fiveO (3 : Int)) (3 : Int) = ix fiveO (4 : Int) → (((betwN fiveO (4 : Int)).length : Int) = (1 : Int) → ((0 : Int) ≤ (0 : Int) ∧ (0 : Int) < ((betwN fiveO (4 : Int)).length : Int)) ∧ ((0 : Int) ≤ (4 : Int) ∧ (4 : Int) < (fiveO.length : Int)) ∧ (ix (betwN fiveO (4 : Int)) (0 : Int) = ix fiveO (4 : Int) → (betwN fiveO (4 : Int)).length ≤ (65536 : Nat) ∧ ((Ty.int IntKind.i64).kd.wf (if extendsB (4 : Int) (5 : Int) (rootS (List.take (Int.toNat (4 : Int)) fiveO)) (rootS fiveO) (betwN fiveO (4 : Int)) = true then (0 : Int) else (10 : Int)) → ((if extendsB (4 : Int) (5 : Int) (rootS (List.take (Int.toNat (4 : Int)) fiveO)) (rootS fiveO) (betwN fiveO (4 : Int)) = true then (0 : Int) else (10 : Int)) = (0 : Int) → (betwN fiveO (4 : Int)).length ≤ (65536 : Nat) ∧ ((Ty.int IntKind.i64).kd.wf (if extendsB (4 : Int) (5 : Int) (rootS fiveO) (rootS fiveO) (betwN fiveO (4 : Int)) = true then (0 : Int) else (10 : Int)) → ((if extendsB (4 : Int) (5 : Int) (rootS fiveO) (rootS fiveO) (betwN fiveO (4 : Int)) = true then (0 : Int) else (10 : Int)) = (10 : Int) → ([] : List (List UInt8)).length ≤ (1048576 : Nat) ∧ ((Ty.arr (32 : Nat) Ty.byte).kd.wf (rootS ([] : List (List UInt8))) → ([] : List (List UInt8)).length ≤ (65536 : Nat) ∧ ((Ty.int IntKind.i64).kd.wf (if extendsB (0 : Int) (5 : Int) (rootS ([] : List (List UInt8))) (rootS fiveO) ([] : List (List UInt8)) = true then (0 : Int) else (10 : Int)) → ((if extendsB (0 : Int) (5 : Int) (rootS ([] : List (List UInt8))) (rootS fiveO) ([] : List (List UInt8)) = true then (0 : Int) else (10 : Int)) = (0 : Int) → ([] : List (List UInt8)).length ≤ (65536 : Nat) ∧ ((Ty.int IntKind.i64).kd.wf (if extendsB (6 : Int) (5 : Int) (rootS (List.take (Int.toNat (4 : Int)) fiveO)) (rootS fiveO) ([] : List (List UInt8)) = true then (0 : Int) else (10 : Int)) → Q (decide ((if extendsB (6 : Int) (5 : Int) (rootS (List.take (Int.toNat (4 : Int)) fiveO)) (rootS fiveO) ([] : List (List UInt8)) = true then (0 : Int) else (10 : Int)) = (10 : Int))))) ∧ (¬(if extendsB (0 : Int) (5 : Int) (rootS ([] : List (List UInt8))) (rootS fiveO) ([] : List (List UInt8)) = true then (0 : Int) else (10 : Int)) = (0 : Int) → Q false)))) ∧ (¬(if extendsB (4 : Int) (5 : Int) (rootS fiveO) (rootS fiveO) (betwN fiveO (4 : Int)) = true then (0 : Int) else (10 : Int)) = (10 : Int) → Q false))) ∧ (¬(if extendsB (4 : Int) (5 : Int) (rootS (List.take (Int.toNat (4 : Int)) fiveO)) (rootS fiveO) (betwN fiveO (4 : Int)) = true then (0 : Int) else (10 : Int)) = (0 : Int) → Q false))) ∧ (¬ix (betwN fiveO (4 : Int)) (0 : Int) = ix fiveO (4 : Int) → Q false)) ∧ (¬((betwN fiveO (4 : Int)).length : Int) = (1 : Int) → Q false)) ∧ (¬ix (betwN fiveO (3 : Int)) (3 : Int) = ix fiveO (4 : Int) → Q false)) ∧ (¬ix (betwN fiveO (3 : Int)) (0 : Int) = ix fiveO (2 : Int) → Q false)) ∧ (¬((betwN fiveO (3 : Int)).length : Int) = (4 : Int) → Q false)) ∧ (¬stepsN (Int.toNat (0 : Int)) (Int.toNat (5 : Int)) = (0 : Int) → Q false)) ∧ (¬stepsN (Int.toNat (5 : Int)) (Int.toNat (5 : Int)) = (0 : Int) → Q false)) ∧ (¬stepsN (Int.toNat (4 : Int)) (Int.toNat (5 : Int)) = (1 : Int) → Q false)) ∧ (¬stepsN (Int.toNat (3 : Int)) (Int.toNat (5 : Int)) = (4 : Int) → Q false))) ∧ True)) ∧ (fiveO.length ≤ (1048576 : Nat) ∧ ((Ty.arr (32 : Nat) Ty.byte).kd.wf (rootS fiveO) → (List.take (Int.toNat (4 : Int)) fiveO).length ≤ (1048576 : Nat) ∧ ((Ty.arr (32 : Nat) Ty.byte).kd.wf (rootS (List.take (Int.toNat (4 : Int)) fiveO)) → (Ty.int IntKind.i64).kd.wf (stepsN (Int.toNat (3 : Int)) (Int.toNat (5 : Int))) → (stepsN (Int.toNat (3 : Int)) (Int.toNat (5 : Int)) = (4 : Int) → (Ty.int IntKind.i64).kd.wf (stepsN (Int.toNat (4 : Int)) (Int.toNat (5 : Int))) → (stepsN (Int.toNat (4 : Int)) (Int.toNat (5 : Int)) = (1 : Int) → (Ty.int IntKind.i64).kd.wf (stepsN (Int.toNat (5 : Int)) (Int.toNat (5 : Int))) → (stepsN (Int.toNat (5 : Int)) (Int.toNat (5 : Int)) = (0 : Int) → (Ty.int IntKind.i64).kd.wf (stepsN (Int.toNat (0 : Int)) (Int.toNat (5 : Int))) → (stepsN (Int.toNat (0 : Int)) (Int.toNat (5 : Int)) = (0 : Int) → (((betwN fiveO (3 : Int)).length : Int) = (4 : Int) → ((0 : Int) ≤ (0 : Int) ∧ (0 : Int) < ((betwN fiveO (3 : Int)).length : Int)) ∧ ((0 : Int) ≤ (2 : Int) ∧ (2 : Int) < (fiveO.length : Int)) ∧ (ix (betwN fiveO (3 : Int)) (0 : Int) = ix fiveO (2 : Int) → ((0 : Int) ≤ (3 : Int) ∧ (3 : Int) < ((betwN fiveO (3 : Int)).length : Int)) ∧ ((0 : Int) ≤ (4 : Int) ∧ (4 : Int) < (fiveO.length : Int)) ∧ (ix (betwN fiveO (3 : Int)) (3 : Int) = ix fiveO (4 : Int) → (((betwN fiveO (4 : Int)).length : Int) = (1 : Int) → ((0 : Int) ≤ (0 : Int) ∧ (0 : Int) < ((betwN fiveO (4 : Int)).length : Int)) ∧ ((0 : Int) ≤ (4 : Int) ∧ (4 : Int) < (fiveO.length : Int)) ∧ (ix (betwN fiveO (4 : Int)) (0 : Int) = ix fiveO (4 : Int) → (betwN fiveO (4 : Int)).length ≤ (65536 : Nat) ∧ ((Ty.int IntKind.i64).kd.wf (if extendsB (4 : Int) (5 : Int) (rootS (List.take (Int.toNat (4 : Int)) fiveO)) (rootS fiveO) (betwN fiveO (4 : Int)) = true then (0 : Int) else (10 : Int)) → ((if extendsB (4 : Int) (5 : Int) (rootS (List.take (Int.toNat (4 : Int)) fiveO)) (rootS fiveO) (betwN fiveO (4 : Int)) = true then (0 : Int) else (10 : Int)) = (0 : Int) → (betwN fiveO (4 : Int)).length ≤ (65536 : Nat) ∧ ((Ty.int IntKind.i64).kd.wf (if extendsB (4 : Int) (5 : Int) (rootS fiveO) (rootS fiveO) (betwN fiveO (4 : Int)) = true then (0 : Int) else (10 : Int)) → ((if extendsB (4 : Int) (5 : Int) (rootS fiveO) (rootS fiveO) (betwN fiveO (4 : Int)) = true then (0 : Int) else (10 : Int)) = (10 : Int) → ([] : List (List UInt8)).length ≤ (1048576 : Nat) ∧ ((Ty.arr (32 : Nat) Ty.byte).kd.wf (rootS ([] : List (List UInt8))) → ([] : List (List UInt8)).length ≤ (65536 : Nat) ∧ ((Ty.int IntKind.i64).kd.wf (if extendsB (0 : Int) (5 : Int) (rootS ([] : List (List UInt8))) (rootS fiveO) ([] : List (List UInt8)) = true then (0 : Int) else (10 : Int)) → ((if extendsB (0 : Int) (5 : Int) (rootS ([] : List (List UInt8))) (rootS fiveO) ([] : List (List UInt8)) = true then (0 : Int) else (10 : Int)) = (0 : Int) → ([] : List (List UInt8)).length ≤ (65536 : Nat) ∧ ((Ty.int IntKind.i64).kd.wf (if extendsB (6 : Int) (5 : Int) (rootS (List.take (Int.toNat (4 : Int)) fiveO)) (rootS fiveO) ([] : List (List UInt8)) = true then (0 : Int) else (10 : Int)) → Q (decide ((if extendsB (6 : Int) (5 : Int) (rootS (List.take (Int.toNat (4 : Int)) fiveO)) (rootS fiveO) ([] : List (List UInt8)) = true then (0 : Int) else (10 : Int)) = (10 : Int))))) ∧ (¬(if extendsB (0 : Int) (5 : Int) (rootS ([] : List (List UInt8))) (rootS fiveO) ([] : List (List UInt8)) = true then (0 : Int) else (10 : Int)) = (0 : Int) → Q false)))) ∧ (¬(if extendsB (4 : Int) (5 : Int) (rootS fiveO) (rootS fiveO) (betwN fiveO (4 : Int)) = true then (0 : Int) else (10 : Int)) = (10 : Int) → Q false))) ∧ (¬(if extendsB (4 : Int) (5 : Int) (rootS (List.take (Int.toNat (4 : Int)) fiveO)) (rootS fiveO) (betwN fiveO (4 : Int)) = true then (0 : Int) else (10 : Int)) = (0 : Int) → Q false))) ∧ (¬ix (betwN fiveO (4 : Int)) (0 : Int) = ix fiveO (4 : Int) → Q false)) ∧ (¬((betwN fiveO (4 : Int)).length : Int) = (1 : Int) → Q false)) ∧ (¬ix (betwN fiveO (3 : Int)) (3 : Int) = ix fiveO (4 : Int) → Q false)) ∧ (¬ix (betwN fiveO (3 : Int)) (0 : Int) = ix fiveO (2 : Int) → Q false)) ∧ (¬((betwN fiveO (3 : Int)).length : Int) = (4 : Int) → Q false)) ∧ (¬stepsN (Int.toNat (0 : Int)) (Int.toNat (5 : Int)) = (0 : Int) → Q false)) ∧ (¬stepsN (Int.toNat (5 : Int)) (Int.toNat (5 : Int)) = (0 : Int) → Q false)) ∧ (¬stepsN (Int.toNat (4 : Int)) (Int.toNat (5 : Int)) = (1 : Int) → Q false)) ∧ (¬stepsN (Int.toNat (3 : Int)) (Int.toNat (5 : Int)) = (4 : Int) → Q false)))) ∧ True) ∧ ((fiveO.length ≤ (1048576 : Nat) ∧ ((Ty.arr (32 : Nat) Ty.byte).kd.wf (rootS fiveO) → ((List.take (Int.toNat (4 : Int)) fiveO).length ≤ (1048576 : Nat) ∧ ((Ty.arr (32 : Nat) Ty.byte).kd.wf (rootS (List.take (Int.toNat (4 : Int)) fiveO)) → (Ty.int IntKind.i64).kd.wf (stepsN (Int.toNat (3 : Int)) (Int.toNat (5 : Int))) → (stepsN (Int.toNat (3 : Int)) (Int.toNat (5 : Int)) = (4 : Int) → (Ty.int IntKind.i64).kd.wf (stepsN (Int.toNat (4 : Int)) (Int.toNat (5 : Int))) → (stepsN (Int.toNat (4 : Int)) (Int.toNat (5 : Int)) = (1 : Int) → (Ty.int IntKind.i64).kd.wf (stepsN (Int.toNat (5 : Int)) (Int.toNat (5 : Int))) → (stepsN (Int.toNat (5 : Int)) (Int.toNat (5 : Int)) = (0 : Int) → (Ty.int IntKind.i64).kd.wf (stepsN (Int.toNat (0 : Int)) (Int.toNat (5 : Int))) → (stepsN (Int.toNat (0 : Int)) (Int.toNat (5 : Int)) = (0 : Int) → (((betwN fiveO (3 : Int)).length : Int) = (4 : Int) → ((0 : Int) ≤ (0 : Int) ∧ (0 : Int) < ((betwN fiveO (3 : Int)).length : Int)) ∧ ((0 : Int) ≤ (2 : Int) ∧ (2 : Int) < (fiveO.length : Int)) ∧ (ix (betwN fiveO (3 : Int)) (0 : Int) = ix fiveO (2 : Int) → ((0 : Int) ≤ (3 : Int) ∧ (3 : Int) < ((betwN fiveO (3 : Int)).length : Int)) ∧ ((0 : Int) ≤ (4 : Int) ∧ (4 : Int) < (fiveO.length : Int)) ∧ (ix (betwN fiveO (3 : Int)) (3 : Int) = ix fiveO (4 : Int) → (((betwN fiveO (4 : Int)).length : Int) = (1 : Int) → ((0 : Int) ≤ (0 : Int) ∧ (0 : Int) < ((betwN fiveO (4 : Int)).length : Int)) ∧ ((0 : Int) ≤ (4 : Int) ∧ (4 : Int) < (fiveO.length : Int)) ∧ (ix (betwN fiveO (4 : Int)) (0 : Int) = ix fiveO (4 : Int) → (betwN fiveO (4 : Int)).length ≤ (65536 : Nat) ∧ ((Ty.int IntKind.i64).kd.wf (if extendsB (4 : Int) (5 : Int) (rootS (List.take (Int.toNat (4 : Int)) fiveO)) (rootS fiveO) (betwN fiveO (4 : Int)) = true then (0 : Int) else (10 : Int)) → ((if extendsB (4 : Int) (5 : Int) (rootS (List.take (Int.toNat (4 : Int)) fiveO)) (rootS fiveO) (betwN fiveO (4 : Int)) = true then (0 : Int) else (10 : Int)) = (0 : Int) → (betwN fiveO (4 : Int)).length ≤ (65536 : Nat) ∧ ((Ty.int IntKind.i64).kd.wf (if extendsB (4 : Int) (5 : Int) (rootS fiveO) (rootS fiveO) (betwN fiveO (4 : Int)) = true then (0 : Int) else (10 : Int)) → ((if extendsB (4 : Int) (5 : Int) (rootS fiveO) (rootS fiveO) (betwN fiveO (4 : Int)) = true then (0 : Int) else (10 : Int)) = (10 : Int) → ([] : List (List UInt8)).length ≤ (1048576 : Nat) ∧ ((Ty.arr (32 : Nat) Ty.byte).kd.wf (rootS ([] : List (List UInt8))) → ([] : List (List UInt8)).length ≤ (65536 : Nat) ∧ ((Ty.int IntKind.i64).kd.wf (if extendsB (0 : Int) (5 : Int) (rootS ([] : List (List UInt8))) (rootS fiveO) ([] : List (List UInt8)) = true then (0 : Int) else (10 : Int)) → ((if extendsB (0 : Int) (5 : Int) (rootS ([] : List (List UInt8))) (rootS fiveO) ([] : List (List UInt8)) = true then (0 : Int) else (10 : Int)) = (0 : Int) → ([] : List (List UInt8)).length ≤ (65536 : Nat) ∧ ((Ty.int IntKind.i64).kd.wf (if extendsB (6 : Int) (5 : Int) (rootS (List.take (Int.toNat (4 : Int)) fiveO)) (rootS fiveO) ([] : List (List UInt8)) = true then (0 : Int) else (10 : Int)) → Q (decide ((if extendsB (6 : Int) (5 : Int) (rootS (List.take (Int.toNat (4 : Int)) fiveO)) (rootS fiveO) ([] : List (List UInt8)) = true then (0 : Int) else (10 : Int)) = (10 : Int))))) ∧ (¬(if extendsB (0 : Int) (5 : Int) (rootS ([] : List (List UInt8))) (rootS fiveO) ([] : List (List UInt8)) = true then (0 : Int) else (10 : Int)) = (0 : Int) → Q false)))) ∧ (¬(if extendsB (4 : Int) (5 : Int) (rootS fiveO) (rootS fiveO) (betwN fiveO (4 : Int)) = true then (0 : Int) else (10 : Int)) = (10 : Int) → Q false))) ∧ (¬(if extendsB (4 : Int) (5 : Int) (rootS (List.take (Int.toNat (4 : Int)) fiveO)) (rootS fiveO) (betwN fiveO (4 : Int)) = true then (0 : Int) else (10 : Int)) = (0 : Int) → Q false))) ∧ (¬ix (betwN fiveO (4 : Int)) (0 : Int) = ix fiveO (4 : Int) → Q false)) ∧ (¬((betwN fiveO (4 : Int)).length : Int) = (1 : Int) → Q false)) ∧ (¬ix (betwN fiveO (3 : Int)) (3 : Int) = ix fiveO (4 : Int) → Q false)) ∧ (¬ix (betwN fiveO (3 : Int)) (0 : Int) = ix fiveO (2 : Int) → Q false)) ∧ (¬((betwN fiveO (3 : Int)).length : Int) = (4 : Int) → Q false)) ∧ (¬stepsN (Int.toNat (0 : Int)) (Int.toNat (5 : Int)) = (0 : Int) → Q false)) ∧ (¬stepsN (Int.toNat (5 : Int)) (Int.toNat (5 : Int)) = (0 : Int) → Q false)) ∧ (¬stepsN (Int.toNat (4 : Int)) (Int.toNat (5 : Int)) = (1 : Int) → Q false)) ∧ (¬stepsN (Int.toNat (3 : Int)) (Int.toNat (5 : Int)) = (4 : Int) → Q false))) ∧ ((List.take (Int.toNat (4 : Int)) fiveO).length ≤ (1048576 : Nat) ∧ ((Ty.arr (32 : Nat) Ty.byte).kd.wf (rootS (List.take (Int.toNat (4 : Int)) fiveO)) → (Ty.int IntKind.i64).kd.wf (stepsN (Int.toNat (3 : Int)) (Int.toNat (5 : Int))) → (stepsN (Int.toNat (3 : Int)) (Int.toNat (5 : Int)) = (4 : Int) → (Ty.int IntKind.i64).kd.wf (stepsN (Int.toNat (4 : Int)) (Int.toNat (5 : Int))) → (stepsN (Int.toNat (4 : Int)) (Int.toNat (5 : Int)) = (1 : Int) → (Ty.int IntKind.i64).kd.wf (stepsN (Int.toNat (5 : Int)) (Int.toNat (5 : Int))) → (stepsN (Int.toNat (5 : Int)) (Int.toNat (5 : Int)) = (0 : Int) → (Ty.int IntKind.i64).kd.wf (stepsN (Int.toNat (0 : Int)) (Int.toNat (5 : Int))) → (stepsN (Int.toNat (0 : Int)) (Int.toNat (5 : Int)) = (0 : Int) → (((betwN fiveO (3 : Int)).length : Int) = (4 : Int) → ((0 : Int) ≤ (0 : Int) ∧ (0 : Int) < ((betwN fiveO (3 : Int)).length : Int)) ∧ ((0 : Int) ≤ (2 : Int) ∧ (2 : Int) < (fiveO.length : Int)) ∧ (ix (betwN fiveO (3 : Int)) (0 : Int) = ix fiveO (2 : Int) → ((0 : Int) ≤ (3 : Int) ∧ (3 : Int) < ((betwN fiveO (3 : Int)).length : Int)) ∧ ((0 : Int) ≤ (4 : Int) ∧ (4 : Int) < (fiveO.length : Int)) ∧ (ix (betwN fiveO (3 : Int)) (3 : Int) = ix fiveO (4 : Int) → (((betwN fiveO (4 : Int)).length : Int) = (1 : Int) → ((0 : Int) ≤ (0 : Int) ∧ (0 : Int) < ((betwN fiveO (4 : Int)).length : Int)) ∧ ((0 : Int) ≤ (4 : Int) ∧ (4 : Int) < (fiveO.length : Int)) ∧ (ix (betwN fiveO (4 : Int)) (0 : Int) = ix fiveO (4 : Int) → (betwN fiveO (4 : Int)).length ≤ (65536 : Nat) ∧ ((Ty.int IntKind.i64).kd.wf (if extendsB (4 : Int) (5 : Int) (rootS (List.take (Int.toNat (4 : Int)) fiveO)) (rootS fiveO) (betwN fiveO (4 : Int)) = true then (0 : Int) else (10 : Int)) → ((if extendsB (4 : Int) (5 : Int) (rootS (List.take (Int.toNat (4 : Int)) fiveO)) (rootS fiveO) (betwN fiveO (4 : Int)) = true then (0 : Int) else (10 : Int)) = (0 : Int) → (betwN fiveO (4 : Int)).length ≤ (65536 : Nat) ∧ ((Ty.int IntKind.i64).kd.wf (if extendsB (4 : Int) (5 : Int) (rootS fiveO) (rootS fiveO) (betwN fiveO (4 : Int)) = true then (0 : Int) else (10 : Int)) → ((if extendsB (4 : Int) (5 : Int) (rootS fiveO) (rootS fiveO) (betwN fiveO (4 : Int)) = true then (0 : Int) else (10 : Int)) = (10 : Int) → ([] : List (List UInt8)).length ≤ (1048576 : Nat) ∧ ((Ty.arr (32 : Nat) Ty.byte).kd.wf (rootS ([] : List (List UInt8))) → ([] : List (List UInt8)).length ≤ (65536 : Nat) ∧ ((Ty.int IntKind.i64).kd.wf (if extendsB (0 : Int) (5 : Int) (rootS ([] : List (List UInt8))) (rootS fiveO) ([] : List (List UInt8)) = true then (0 : Int) else (10 : Int)) → ((if extendsB (0 : Int) (5 : Int) (rootS ([] : List (List UInt8))) (rootS fiveO) ([] : List (List UInt8)) = true then (0 : Int) else (10 : Int)) = (0 : Int) → ([] : List (List UInt8)).length ≤ (65536 : Nat) ∧ ((Ty.int IntKind.i64).kd.wf (if extendsB (6 : Int) (5 : Int) (rootS (List.take (Int.toNat (4 : Int)) fiveO)) (rootS fiveO) ([] : List (List UInt8)) = true then (0 : Int) else (10 : Int)) → Q (decide ((if extendsB (6 : Int) (5 : Int) (rootS (List.take (Int.toNat (4 : Int)) fiveO)) (rootS fiveO) ([] : List (List UInt8)) = true then (0 : Int) else (10 : Int)) = (10 : Int))))) ∧ (¬(if extendsB (0 : Int) (5 : Int) (rootS ([] : List (List UInt8))) (rootS fiveO) ([] : List (List UInt8)) = true then (0 : Int) else (10 : Int)) = (0 : Int) → Q false)))) ∧ (¬(if extendsB (4 : Int) (5 : Int) (rootS fiveO) (rootS fiveO) (betwN fiveO (4 : Int)) = true then (0 : Int) else (10 : Int)) = (10 : Int) → Q false))) ∧ (¬(if extendsB (4 : Int) (5 : Int) (rootS (List.take (Int.toNat (4 : Int)) fiveO)) (rootS fiveO) (betwN fiveO (4 : Int)) = true then (0 : Int) else (10 : Int)) = (0 : Int) → Q false))) ∧ (¬ix (betwN fiveO (4 : Int)) (0 : Int) = ix fiveO (4 : Int) → Q false)) ∧ (¬((betwN fiveO (4 : Int)).length : Int) = (1 : Int) → Q false)) ∧ (¬ix (betwN fiveO (3 : Int)) (3 : Int) = ix fiveO (4 : Int) → Q false)) ∧ (¬ix (betwN fiveO (3 : Int)) (0 : Int) = ix fiveO (2 : Int) → Q false)) ∧ (¬((betwN fiveO (3 : Int)).length : Int) = (4 : Int) → Q false)) ∧ (¬stepsN (Int.toNat (0 : Int)) (Int.toNat (5 : Int)) = (0 : Int) → Q false)) ∧ (¬stepsN (Int.toNat (5 : Int)) (Int.toNat (5 : Int)) = (0 : Int) → Q false)) ∧ (¬stepsN (Int.toNat (4 : Int)) (Int.toNat (5 : Int)) = (1 : Int) → Q false)) ∧ (¬stepsN (Int.toNat (3 : Int)) (Int.toNat (5 : Int)) = (4 : Int) → Q false))) ∧ True)) ∧ (fiveO.length ≤ (1048576 : Nat) ∧ ((Ty.arr (32 : Nat) Ty.byte).kd.wf (rootS fiveO) → (List.take (Int.toNat (4 : Int)) fiveO).length ≤ (1048576 : Nat) ∧ ((Ty.arr (32 : Nat) Ty.byte).kd.wf (rootS (List.take (Int.toNat (4 : Int)) fiveO)) → (Ty.int IntKind.i64).kd.wf (stepsN (Int.toNat (3 : Int)) (Int.toNat (5 : Int))) → (stepsN (Int.toNat (3 : Int)) (Int.toNat (5 : Int)) = (4 : Int) → (Ty.int IntKind.i64).kd.wf (stepsN (Int.toNat (4 : Int)) (Int.toNat (5 : Int))) → (stepsN (Int.toNat (4 : Int)) (Int.toNat (5 : Int)) = (1 : Int) → (Ty.int IntKind.i64).kd.wf (stepsN (Int.toNat (5 : Int)) (Int.toNat (5 : Int))) → (stepsN (Int.toNat (5 : Int)) (Int.toNat (5 : Int)) = (0 : Int) → (Ty.int IntKind.i64).kd.wf (stepsN (Int.toNat (0 : Int)) (Int.toNat (5 : Int))) → (stepsN (Int.toNat (0 : Int)) (Int.toNat (5 : Int)) = (0 : Int) → (((betwN fiveO (3 : Int)).length : Int) = (4 : Int) → ((0 : Int) ≤ (0 : Int) ∧ (0 : Int) < ((betwN fiveO (3 : Int)).length : Int)) ∧ ((0 : Int) ≤ (2 : Int) ∧ (2 : Int) < (fiveO.length : Int)) ∧ (ix (betwN fiveO (3 : Int)) (0 : Int) = ix fiveO (2 : Int) → ((0 : Int) ≤ (3 : Int) ∧ (3 : Int) < ((betwN fiveO (3 : Int)).length : Int)) ∧ ((0 : Int) ≤ (4 : Int) ∧ (4 : Int) < (fiveO.length : Int)) ∧ (ix (betwN fiveO (3 : Int)) (3 : Int) = ix fiveO (4 : Int) → (((betwN fiveO (4 : Int)).length : Int) = (1 : Int) → ((0 : Int) ≤ (0 : Int) ∧ (0 : Int) < ((betwN fiveO (4 : Int)).length : Int)) ∧ ((0 : Int) ≤ (4 : Int) ∧ (4 : Int) < (fiveO.length : Int)) ∧ (ix (betwN fiveO (4 : Int)) (0 : Int) = ix fiveO (4 : Int) → (betwN fiveO (4 : Int)).length ≤ (65536 : Nat) ∧ ((Ty.int IntKind.i64).kd.wf (if extendsB (4 : Int) (5 : Int) (rootS (List.take (Int.toNat (4 : Int)) fiveO)) (rootS fiveO) (betwN fiveO (4 : Int)) = true then (0 : Int) else (10 : Int)) → ((if extendsB (4 : Int) (5 : Int) (rootS (List.take (Int.toNat (4 : Int)) fiveO)) (rootS fiveO) (betwN fiveO (4 : Int)) = true then (0 : Int) else (10 : Int)) = (0 : Int) → (betwN fiveO (4 : Int)).length ≤ (65536 : Nat) ∧ ((Ty.int IntKind.i64).kd.wf (if extendsB (4 : Int) (5 : Int) (rootS fiveO) (rootS fiveO) (betwN fiveO (4 : Int)) = true then (0 : Int) else (10 : Int)) → ((if extendsB (4 : Int) (5 : Int) (rootS fiveO) (rootS fiveO) (betwN fiveO (4 : Int)) = true then (0 : Int) else (10 : Int)) = (10 : Int) → ([] : List (List UInt8)).length ≤ (1048576 : Nat) ∧ ((Ty.arr (32 : Nat) Ty.byte).kd.wf (rootS ([] : List (List UInt8))) → ([] : List (List UInt8)).length ≤ (65536 : Nat) ∧ ((Ty.int IntKind.i64).kd.wf (if extendsB (0 : Int) (5 : Int) (rootS ([] : List (List UInt8))) (rootS fiveO) ([] : List (List UInt8)) = true then (0 : Int) else (10 : Int)) → ((if extendsB (0 : Int) (5 : Int) (rootS ([] : List (List UInt8))) (rootS fiveO) ([] : List (List UInt8)) = true then (0 : Int) else (10 : Int)) = (0 : Int) → ([] : List (List UInt8)).length ≤ (65536 : Nat) ∧ ((Ty.int IntKind.i64).kd.wf (if extendsB (6 : Int) (5 : Int) (rootS (List.take (Int.toNat (4 : Int)) fiveO)) (rootS fiveO) ([] : List (List UInt8)) = true then (0 : Int) else (10 : Int)) → Q (decide ((if extendsB (6 : Int) (5 : Int) (rootS (List.take (Int.toNat (4 : Int)) fiveO)) (rootS fiveO) ([] : List (List UInt8)) = true then (0 : Int) else (10 : Int)) = (10 : Int))))) ∧ (¬(if extendsB (0 : Int) (5 : Int) (rootS ([] : List (List UInt8))) (rootS fiveO) ([] : List (List UInt8)) = true then (0 : Int) else (10 : Int)) = (0 : Int) → Q false)))) ∧ (¬(if extendsB (4 : Int) (5 : Int) (rootS fiveO) (rootS fiveO) (betwN fiveO (4 : Int)) = true then (0 : Int) else (10 : Int)) = (10 : Int) → Q false))) ∧ (¬(if extendsB (4 : Int) (5 : Int) (rootS (List.take (Int.toNat (4 : Int)) fiveO)) (rootS fiveO) (betwN fiveO (4 : Int)) = true then (0 : Int) else (10 : Int)) = (0 : Int) → Q false))) ∧ (¬ix (betwN fiveO (4 : Int)) (0 : Int) = ix fiveO (4 : Int) → Q false)) ∧ (¬((betwN fiveO (4 : Int)).length : Int) = (1 : Int) → Q false)) ∧ (¬ix (betwN fiveO (3 : Int)) (3 : Int) = ix fiveO (4 : Int) → Q false)) ∧ (¬ix (betwN fiveO (3 : Int)) (0 : Int) = ix fiveO (2 : Int) → Q false)) ∧ (¬((betwN fiveO (3 : Int)).length : Int) = (4 : Int) → Q false)) ∧ (¬stepsN (Int.toNat (0 : Int)) (Int.toNat (5 : Int)) = (0 : Int) → Q false)) ∧ (¬stepsN (Int.toNat (5 : Int)) (Int.toNat (5 : Int)) = (0 : Int) → Q false)) ∧ (¬stepsN (Int.toNat (4 : Int)) (Int.toNat (5 : Int)) = (1 : Int) → Q false)) ∧ (¬stepsN (Int.toNat (3 : Int)) (Int.toNat (5 : Int)) = (4 : Int) → Q false)))) ∧ True) ∧ True))
theorem awake5_ok  : awake5_VC  (fun o0 => o0 = true) := by
  have l5 : fiveO.length = 5 := by rw [fiveO_eq]; rfl
  have b3 : betwN fiveO 3 = [[3, 0, 0, 0, 0, 0, 0, 0, 0, 0, 0, 0, 0, 0, 0, 0, 0, 0, 0, 0, 0, 0, 0, 0, 0, 0, 0, 0, 0, 0, 0, 0], [4, 0, 0, 0, 0, 0, 0, 0, 0, 0, 0, 0, 0, 0, 0, 0, 0, 0, 0, 0, 0, 0, 0, 0, 0, 0, 0, 0, 0, 0, 0, 0], sealOf 2 [[1, 0, 0, 0, 0, 0, 0, 0, 0, 0, 0, 0, 0, 0, 0, 0, 0, 0, 0, 0, 0, 0, 0, 0, 0, 0, 0, 0, 0, 0, 0, 0], [2, 0, 0, 0, 0, 0, 0, 0, 0, 0, 0, 0, 0, 0, 0, 0, 0, 0, 0, 0, 0, 0, 0, 0, 0, 0, 0, 0, 0, 0, 0, 0]], [5, 0, 0, 0, 0, 0, 0, 0, 0, 0, 0, 0, 0, 0, 0, 0, 0, 0, 0, 0, 0, 0, 0, 0, 0, 0, 0, 0, 0, 0, 0, 0]] := by rw [fiveO_eq, five_eq, b35]
  have b4 : betwN fiveO 4 = [[5, 0, 0, 0, 0, 0, 0, 0, 0, 0, 0, 0, 0, 0, 0, 0, 0, 0, 0, 0, 0, 0, 0, 0, 0, 0, 0, 0, 0, 0, 0, 0]] := by rw [fiveO_eq, five_eq, b45]
  have lb3 : (betwN fiveO 3).length = 4 := by rw [b3]; rfl
  have lb4 : (betwN fiveO 4).length = 1 := by rw [b4]; rfl
  have c1 : stepsN (Int.toNat (3 : Int)) (Int.toNat (5 : Int)) = (4 : Int) := s35
  have c2 : stepsN (Int.toNat (4 : Int)) (Int.toNat (5 : Int)) = (1 : Int) := s45
  have c3 : stepsN (Int.toNat (5 : Int)) (Int.toNat (5 : Int)) = (0 : Int) := s55
  have c4 : stepsN (Int.toNat (0 : Int)) (Int.toNat (5 : Int)) = (0 : Int) := s05
  have c5 : ((betwN fiveO (3 : Int)).length : Int) = (4 : Int) := by rw [lb3]; rfl
  have c6 : ix (betwN fiveO (3 : Int)) (0 : Int) = ix fiveO (2 : Int) := by rw [b3, fiveO_eq, five_eq]; rfl
  have c7 : ix (betwN fiveO (3 : Int)) (3 : Int) = ix fiveO (4 : Int) := by rw [b3, fiveO_eq, five_eq]; rfl
  have c8 : ((betwN fiveO (4 : Int)).length : Int) = (1 : Int) := by rw [lb4]; rfl
  have c9 : ix (betwN fiveO (4 : Int)) (0 : Int) = ix fiveO (4 : Int) := by rw [b4, fiveO_eq, five_eq]; rfl
  have x1 : extendsB (4 : Int) (5 : Int) (rootS (List.take (Int.toNat (4 : Int)) fiveO)) (rootS fiveO) (betwN fiveO (4 : Int)) = true := by
    have := extends_betw (l := fiveO) (m := 4) (by omega)
    rw [l5] at this
    exact this
  have x2 : extendsB (4 : Int) (5 : Int) (rootS fiveO) (rootS fiveO) (betwN fiveO (4 : Int)) = false := by rw [fiveO_eq]; exact e455
  have x3 : extendsB (0 : Int) (5 : Int) (rootS ([] : List (List UInt8))) (rootS fiveO) ([] : List (List UInt8)) = true := by
    rw [rootS_nil]
    unfold extendsB
    have e0 : Int.toNat 0 = 0 := rfl
    have e5 : Int.toNat 5 = 5 := rfl
    rw [e0, e5, s05, if_neg (by simp), if_pos rfl]
    exact decide_eq_true ⟨rfl, fun h => by cases h⟩
  have x4 : extendsB (6 : Int) (5 : Int) (rootS (List.take (Int.toNat (4 : Int)) fiveO)) (rootS fiveO) ([] : List (List UInt8)) = false := by
    unfold extendsB
    rw [if_pos (.inr (.inl (by decide)))]
  have lt : (List.take (Int.toNat (4 : Int)) fiveO).length ≤ (1048576 : Nat) := by rw [List.length_take]; omega
  unfold awake5_VC
  rw [x1, x2, x3, x4]
  clear x1 x2 x3 x4 b3 b4
  have d1 : ((if true = true then (0 : Int) else (10 : Int)) = (0 : Int)) := rfl
  have d2 : ((if false = true then (0 : Int) else (10 : Int)) = (10 : Int)) := rfl
  have n1 : ([] : List (List UInt8)).length ≤ (1048576 : Nat) := Nat.zero_le _
  have n2 : ([] : List (List UInt8)).length ≤ (65536 : Nat) := Nat.zero_le _
  repeat' first
    | with_reducible exact fun h => absurd c1 h
    | with_reducible exact fun h => absurd c2 h
    | with_reducible exact fun h => absurd c3 h
    | with_reducible exact fun h => absurd c4 h
    | with_reducible exact fun h => absurd c5 h
    | with_reducible exact fun h => absurd c6 h
    | with_reducible exact fun h => absurd c7 h
    | with_reducible exact fun h => absurd c8 h
    | with_reducible exact fun h => absurd c9 h
    | with_reducible exact fun h => absurd d1 h
    | with_reducible exact fun h => absurd d2 h
    | with_reducible exact decide_eq_true d2
    | with_reducible exact lt
    | with_reducible exact n1
    | with_reducible exact n2
    | with_reducible exact trivial
    | with_reducible refine And.intro ?_ ?_
    | (intro _)
    | omega
theorem awake5_eq : (∀ a, awake5_C.pre a → PM.wfP awake5_C.pm a (fvc awake5_X 200 32 awake5_C a (eqO awake5_C a))) = (∀ a : Unit, True → awake5_VC  (fun o0 => o0 = true)) := by kernel_rfl
theorem awake5_k : awake5_C.valid Try.prog 32 := ctr_of (X := awake5_X) (ok_of seat_ok (fun b hb => by cases hb; exact bkT_ok) fns_ok ⟨fiveF_k, BetweenO_k, BetweenR_k, RootN_k, Root_k, Steps_k, ExtendsN_k, Extends_k, trivial⟩) 200 (awake5_eq.mpr fun a hp  => @awake5_ok )
end Go.Proofs.Ytkffegaofdpkiaa
