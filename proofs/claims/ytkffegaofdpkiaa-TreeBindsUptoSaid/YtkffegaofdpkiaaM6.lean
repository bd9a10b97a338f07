/- G2, K3, S4, S5, S6. -/
import Derived.Test.YtkffegaofdpkiaaM5
import Derived.Test.YtkffegaofdpkiaaChecked
/- Functions in the old form: what a call must answer for (_VC), that it does (_ok), the walk through its code (_walk), its contract (_c). -/
set_option linter.unusedVariables false
set_option maxRecDepth 100000
set_option maxHeartbeats 2000000
namespace Go.Proofs.Ytkffegaofdpkiaa
open Go Go.RowKit Go.Inc
theorem ty3 : TyOk Try.prog 3 (Kd.int .i64) 8 := ⟨⟨Try.t3, _, Try.type3, rfl, rfl, rfl, rfl, rfl⟩, ⟨_, Try.underlying3, rfl⟩⟩
abbrev kd_a32_u8 : Kd (List UInt8) := (Kd.arr 32 Kd.byte)
abbrev kd_Sseal_note : Kd ((List UInt8) × (List UInt8)) := (Kd.pr kd_a32_u8 kd_l_u8)
theorem ty31 : TyOk Try.prog 31 kd_a32_u8 32 := ⟨⟨Try.t31, _, Try.type31, rfl, rfl, rfl, rfl, rfl⟩, ⟨_, Try.underlying31, rfl⟩⟩
def hasOne_VC (a0_x : ((List UInt8) × (List UInt8))) (a1_x : (List UInt8)) (a2_x : (List UInt8)) (Q : Bool → Prop) : Prop :=
  Q (decide ((a0_x.1 = a1_x) ∧ (a0_x.2 = a2_x)))
theorem hasOne_ok {a0_x : ((List UInt8) × (List UInt8))} {a1_x : (List UInt8)} {a2_x : (List UInt8)} (w_0 : kd_Sseal_note.wf a0_x) (w_1 : kd_a32_u8.wf a1_x) (w_2 : kd_l_u8.wf a2_x) : hasOne_VC a0_x a1_x a2_x (fun o0 => o0 = decide (a0_x.1 = a1_x ∧ a0_x.2 = a2_x)) := by
  show decide _ = decide _
  simp

theorem hasOne_walk {w0 : World} {K0 : Ghost} {a0_x_v : Value} {a0_x : ((List UInt8) × (List UInt8))} {a1_x_b : Nat} {a1_x_pre a1_x_post : List Value} {a1_x : (List UInt8)} {a2_x_b : Nat} {a2_x_pre a2_x_post : List Value} {a2_x : (List UInt8)} {Q : Bool → Prop} (hM0 : Models w0 K0) (h_a0_x : kd_Sseal_note.V K0 a0_x a0_x_v) (h_a1_x_B : Bx kd_a32_u8 w0 K0 a1_x_b a1_x_pre a1_x_post a1_x) (h_a2_x_B : Bx kd_l_u8 w0 K0 a2_x_b a2_x_pre a2_x_post a2_x) (hsp2_3 : ¬ (a1_x_b = a2_x_b)) (h : hasOne_VC a0_x a1_x a2_x Q) : Calls Try.prog 75 #[a0_x_v, (.pointer (some ⟨a1_x_b, a1_x_pre.length, none⟩)), (.pointer (some ⟨a2_x_b, a2_x_pre.length, none⟩))] w0 (fun e w' => ∃ (K' : Ghost) (r0 : Value) (o0 : Bool), e = .returned r0 ∧ Q o0 ∧ Ext NX w0 K0 w' K' ∧ Models w' K' ∧ Kd.bool.V K' o0 r0) := by
  unfold hasOne_VC at h
  have hE0 : Ext NX w0 K0 w0 K0 := Ext.refl _ _ _
  refine calls_gen fun R hR => ?_
  refine calls_env (args := [a0_x_v, (.pointer (some ⟨a1_x_b, a1_x_pre.length, none⟩)), (.pointer (some ⟨a2_x_b, a2_x_pre.length, none⟩))]) Try.func75 rfl (Nat.le_of_ble_eq_true rfl) ?_
  refine WP_seq ?_
  refine WP_region ?_
  refine WL_eff rfl rfl (St_B (S_box hM0 rfl h_a0_x) ?_)
  rintro b4 w4 (hB4 : Bx kd_Sseal_note _ _ _ _ _ a0_x) hS4 hM4 hge4
  have hE4 := hE0.andN hS4
  refine WL_pure (.bool false) (R_as rfl) rfl rfl ?_
  refine WL_nil ?_
  refine WP_seq ?_
  refine WP_own (K := K0) NX [.o 0 2, .o 1 2, .o 2 2, .o 3 2, .o 4 2, .o 5 2, .o 6 2, .o 7 2, .o 8 0, .o 9 2, .o 10 2] (by kernel_rfl) hM4 ?_
  refine WO_pure (.pointer (some ⟨b4, 0 + 0, none⟩)) rfl l0 hM4 (fun _ => R_fa rfl Try.underlying80 rfl rfl ty31 rfl) rfl (gN rfl) rfl ?_
  refine WO_L0 hM4 (S_ldB (Foc.fst kd_a32_u8 kd_l_u8) rfl ty31 hB4 (by first | rfl | simp | omega) (fun h => h)) rfl (gN rfl) rfl ?_
  rintro v6 (hV6 : kd_a32_u8.V _ a0_x.1 _)
  have hR9 := (h_a1_x_B.extN hS4)
  refine WO_L0 hM4 (S_ldB (Foc.id _) rfl ty31 hR9 (by first | rfl | simp | omega) (fun h => h)) rfl (gN rfl) rfl ?_
  rintro v8 (hV8 : kd_a32_u8.V _ a1_x _)
  refine WO_pure (.bool (decide (a0_x.1 = a1_x))) rfl l0 hM4 (fun _ => R_aeql rfl rfl hV6 hV8 Try.underlying31 Try.underlying5 ty5b (by kernel_rfl)) rfl (gN rfl) rfl ?_
  refine WO_pure (.bool (decide (a0_x.1 = a1_x))) rfl l0 hM4 (fun _ => R_mv rfl) rfl (gN rfl) rfl ?_
  refine WO_meet (al := true) (l1 := [.o 5 2, .o 6 2, .o 7 2, .o 8 0, .o 9 2]) [10, 11, 12, 13, 14] NX (fun l w K => l = [(14, (.bool (decide ((a0_x.1 = a1_x) ∧ (a0_x.2 = a2_x)))))] ∧ Ext NX w4 K0 w K ∧ Models w K) ?_ ?_
  · rcases Classical.em (a0_x.1 = a1_x) with hp11 | hp11
    · skip
      refine WO_pure (.pointer (some ⟨b4, 0 + 32, none⟩)) rfl l0 hM4 (fun _ => R_fa rfl Try.underlying80 rfl rfl ty55 rfl) rfl (gY rfl rfl rfl (decide_eq_true hp11)) rfl ?_
      refine WO_L0 hM4 (S_ldB (Foc.snd kd_a32_u8 kd_l_u8) rfl ty55 hB4 (by first | rfl | simp | omega) (fun h => h)) rfl (gY rfl rfl rfl (decide_eq_true hp11)) rfl ?_
      rintro v12 (hV12 : kd_l_u8.V _ a0_x.2 _)
      have hR15 := (h_a2_x_B.extN hS4)
      refine WO_L0 hM4 (S_ldB (Foc.id _) rfl ty55 hR15 (by first | rfl | simp | omega) (fun h => h)) rfl (gY rfl rfl rfl (decide_eq_true hp11)) rfl ?_
      rintro v14 (hV14 : kd_l_u8.V _ a2_x _)
      refine WO_eff0 rfl (gY rfl rfl rfl (decide_eq_true hp11)) rfl (St_call (R_call Try.call58 rfl) ((Equal_c hM4 hV12 hV14).mono ?_))
      rintro _ w17 ⟨K17, v17_0, rfl, hS17, hM17, hV17_0⟩
      refine ⟨v17_0, rfl, ?_⟩
      refine ⟨K17, hS17, hM17, ?_⟩
      have hE17 := hE4.andN hS17
      obtain rfl := bool_form hV17_0
      refine WO_pure (.bool (decide ((a0_x.1 = a1_x) ∧ (a0_x.2 = a2_x)))) rfl l0 hM17 (fun _ => R_pick1 rfl (decide_eq_true hp11) rfl (and_T hp11)) rfl (gN rfl) rfl ?_
      exact WO_end [(14, (.bool (decide ((a0_x.1 = a1_x) ∧ (a0_x.2 = a2_x)))))] K17 rfl ⟨rfl, ((Ext.refl _ _ _).andN hS17), hM17⟩ (by repeat (first | exact Off.refl _ _ | refine Off.updO ?_ rfl _ | refine Off.updN ?_ _ | refine Off.lay ?_ rfl)) ⟨rfl, trivial⟩
    · skip
      refine WO_skip _ hM4 l0 rfl (gF rfl rfl rfl (decide_eq_false hp11)) rfl ?_
      refine WO_skip _ hM4 l0 rfl (gF rfl rfl rfl (decide_eq_false hp11)) rfl ?_
      refine WO_skip _ hM4 l0 rfl (gF rfl rfl rfl (decide_eq_false hp11)) rfl ?_
      refine WO_skip _ hM4 l0 rfl (gF rfl rfl rfl (decide_eq_false hp11)) rfl ?_
      refine WO_pure (.bool (decide ((a0_x.1 = a1_x) ∧ (a0_x.2 = a2_x)))) rfl l0 hM4 (fun _ => R_pick2 rfl (decide_eq_false hp11) rfl (and_F hp11)) rfl (gN rfl) rfl ?_
      exact WO_end [(14, (.bool (decide ((a0_x.1 = a1_x) ∧ (a0_x.2 = a2_x)))))] K0 rfl ⟨rfl, (Ext.refl _ _ _), hM4⟩ (by repeat (first | exact Off.refl _ _ | refine Off.updO ?_ rfl _ | refine Off.updN ?_ _ | refine Off.lay ?_ rfl)) ⟨rfl, trivial⟩
  rintro l σ18 w18 K18 ⟨rfl, hS18, hM18⟩
  have hE18 := hE4.andN hS18
  refine WO_pure (.bool (decide ((a0_x.1 = a1_x) ∧ (a0_x.2 = a2_x)))) rfl l0 hM18 (fun _ => R_as rfl) rfl (gN rfl) rfl ?_
  refine WO_nil ?_
  refine WP_ret ?_
  exact endR_ret hR (v := (.bool (decide ((a0_x.1 = a1_x) ∧ (a0_x.2 = a2_x))))) (resE_1 rfl rfl) ⟨K18, (.bool (decide ((a0_x.1 = a1_x) ∧ (a0_x.2 = a2_x)))), (decide ((a0_x.1 = a1_x) ∧ (a0_x.2 = a2_x))), rfl, h, hE18, hM18, bool_V⟩
theorem hasOne_c {w0 : World} {K0 : Ghost} {a0_x_v : Value} {a0_x : ((List UInt8) × (List UInt8))} {a1_x_b : Nat} {a1_x_pre a1_x_post : List Value} {a1_x : (List UInt8)} {a2_x_b : Nat} {a2_x_pre a2_x_post : List Value} {a2_x : (List UInt8)} (hM0 : Models w0 K0) (h_a0_x : kd_Sseal_note.V K0 a0_x a0_x_v) (h_a1_x_B : Bx kd_a32_u8 w0 K0 a1_x_b a1_x_pre a1_x_post a1_x) (h_a2_x_B : Bx kd_l_u8 w0 K0 a2_x_b a2_x_pre a2_x_post a2_x) (hsp2_3 : ¬ (a1_x_b = a2_x_b)) : Calls Try.prog 75 #[a0_x_v, (.pointer (some ⟨a1_x_b, a1_x_pre.length, none⟩)), (.pointer (some ⟨a2_x_b, a2_x_pre.length, none⟩))] w0 (fun e w' => ∃ (K' : Ghost) (r0 : Value), e = .returned r0 ∧ Ext NX w0 K0 w' K' ∧ Models w' K' ∧ Kd.bool.V K' (decide (a0_x.1 = a1_x ∧ a0_x.2 = a2_x)) r0) := by
  refine (hasOne_walk hM0 h_a0_x h_a1_x_B h_a2_x_B hsp2_3 (hasOne_ok h_a0_x.wf h_a1_x_B.wf h_a2_x_B.wf)).mono ?_
  rintro _ w' ⟨K', r0, o0, rfl, rfl, hF⟩
  exact ⟨K', r0, rfl, hF⟩
abbrev kd_l_Sseal_note : Kd (List ((List UInt8) × (List UInt8))) := (Kd.sl kd_Sseal_note)
theorem ty80 : TyOk Try.prog 80 kd_Sseal_note 56 := ⟨⟨Try.t80, _, Try.type80, rfl, rfl, rfl, rfl, rfl⟩, ⟨_, Try.underlying80, rfl⟩⟩
def IndexNote_VC (a0_s : (List ((List UInt8) × (List UInt8)))) (a1_f_0 : (List UInt8)) (a1_f_1 : (List UInt8)) (Q : Int → Prop) : Prop :=
  ∃ (I4 : Int → Int → Prop) (μ4 : Int → Int → Nat), I4 0 0 ∧ ∀ (i4 : Int) (i4' : Int), I4 i4 i4' → ((Kd.int .i64).wf i4) → ((Kd.int .i64).wf i4') → (((i4' < (a0_s.length : Int)) → (0 ≤ i4' ∧ i4' < (a0_s.length : Int)) ∧ ((((ix a0_s i4').1 = a1_f_0 ∧ (ix a0_s i4').2 = a1_f_1) → Q i4') ∧ ((¬ ((ix a0_s i4').1 = a1_f_0 ∧ (ix a0_s i4').2 = a1_f_1)) → I4 i4 (i4' + 1) ∧ μ4 i4 (i4' + 1) < μ4 i4 i4'))) ∧ ((¬ (i4' < (a0_s.length : Int))) → Q (-1)))
theorem IndexNote_ok {a0_s : (List ((List UInt8) × (List UInt8)))} {a1_f_0 : (List UInt8)} {a1_f_1 : (List UInt8)} (w_0 : kd_l_Sseal_note.wf a0_s) : IndexNote_VC a0_s a1_f_0 a1_f_1 (fun o0 => o0 = (noteIx a1_f_0 a1_f_1 a0_s 0)) := by
  unfold IndexNote_VC
  refine ⟨fun _ i => ∃ j : Nat, i = (j : Int) ∧ j ≤ a0_s.length ∧ noteIx a1_f_0 a1_f_1 a0_s 0 = noteIx a1_f_0 a1_f_1 (a0_s.drop j) (j : Int), fun _ i => a0_s.length - i.toNat, ⟨0, rfl, by omega, by simp⟩, ?_⟩
  rintro _ i ⟨j, rfl, hj, he⟩ _ _
  refine ⟨fun hlt => ⟨⟨by omega, hlt⟩, fun h => ?_, fun h => ⟨⟨j + 1, by omega, by omega, ?_⟩, ?_⟩⟩, fun hge => ?_⟩
  · rw [noteIx_drop hlt, if_pos (h)] at he
    exact he.symm
  · rw [noteIx_drop hlt, if_neg (h)] at he
    rw [he]
    congr 1
  · show a0_s.length - ((j : Int) + 1).toNat < a0_s.length - (j : Int).toNat
    omega
  · have : j = a0_s.length := by omega
    subst this
    rw [List.drop_length] at he
    exact he.symm

theorem IndexNote_walk {w0 : World} {K0 : Ghost} {a0_s_v : Value} {a0_s : (List ((List UInt8) × (List UInt8)))} {a1_f_0_b : Nat} {a1_f_0_pre a1_f_0_post : List Value} {a1_f_0 : (List UInt8)} {a1_f_1_b : Nat} {a1_f_1_pre a1_f_1_post : List Value} {a1_f_1 : (List UInt8)} {Q : Int → Prop} (hM0 : Models w0 K0) (h_a0_s : kd_l_Sseal_note.V K0 a0_s a0_s_v) (h_a1_f_0_B : Bx kd_a32_u8 w0 K0 a1_f_0_b a1_f_0_pre a1_f_0_post a1_f_0) (h_a1_f_1_B : Bx kd_l_u8 w0 K0 a1_f_1_b a1_f_1_pre a1_f_1_post a1_f_1) (hsp2_3 : ¬ (a1_f_0_b = a1_f_1_b)) (h : IndexNote_VC a0_s a1_f_0 a1_f_1 Q) : Calls Try.prog 85 #[a0_s_v, (.func (.func 75) #[] #[(.pointer (some ⟨a1_f_0_b, a1_f_0_pre.length, none⟩)), (.pointer (some ⟨a1_f_1_b, a1_f_1_pre.length, none⟩))])] w0 (fun e w' => ∃ (K' : Ghost) (r0 : Value) (o0 : Int), e = .returned r0 ∧ Q o0 ∧ Ext NX w0 K0 w' K' ∧ Models w' K' ∧ (Kd.int .i64).V K' o0 r0) := by
  unfold IndexNote_VC at h
  have hE0 : Ext NX w0 K0 w0 K0 := Ext.refl _ _ _
  refine calls_gen fun R hR => ?_
  refine calls_env (args := [a0_s_v, (.func (.func 75) #[] #[(.pointer (some ⟨a1_f_0_b, a1_f_0_pre.length, none⟩)), (.pointer (some ⟨a1_f_1_b, a1_f_1_pre.length, none⟩))])]) Try.func85 rfl (Nat.le_of_ble_eq_true rfl) ?_
  refine WP_seq ?_
  refine WP_region ?_
  refine WL_pure (.int .i64 0) (R_as rfl) rfl rfl ?_
  refine WL_nil ?_
  refine WP_seq ?_
  refine WP_seq ?_
  refine WP_region ?_
  refine WL_pure a0_s_v (R_mv rfl) rfl rfl ?_
  refine WL_pure (.int .i64 (a0_s.length : Int)) (R_len rfl h_a0_s Try.underlying38) rfl rfl ?_
  refine WL_pure (.int .i64 0) (R_mv rfl) rfl rfl ?_
  refine WL_nil ?_
  refine WP_block ?_
  obtain ⟨I4, μ4, h0, h⟩ := h
  refine WP_loopE (ι := Int × Int) [4, 5, 8, 9, 10, 11, 12, 13, 14, 15, 16, 17, 18] (fun s l w => ∃ K, I4 s.1 s.2 ∧ l = [(4, (.int .i64 s.1)), (8, (.int .i64 s.2))] ∧ Ext NX w0 K0 w K ∧ Models w K ∧ (Kd.int .i64).wf s.1 ∧ (Kd.int .i64).wf s.2) (fun s => μ4 s.1 s.2) (0, 0) [(4, (.int .i64 0)), (8, (.int .i64 0))]
    ⟨K0, h0, rfl, Ext.refl _ _ _, hM0, (show (Kd.int .i64).wf 0 from by constructor <;> decide), (show (Kd.int .i64).wf 0 from by constructor <;> decide)⟩ (by repeat (first | exact trivial | refine ⟨rfl, ?_⟩)) ?_
  rintro ⟨i4, i4'⟩ l σ4 w5 ⟨K5, hI, rfl, hX5, hM5, hw4_4, hw4_8⟩
  dsimp only at hI hw4_4 hw4_8
  have hE5 := hE0.andN hX5
  have h := h i4 i4' hI hw4_4 hw4_8
  refine WP_seq ?_
  refine WP_region ?_
  refine WL_pure (.bool (decide (i4' < (a0_s.length : Int)))) (R_lss rfl rfl) rfl rfl ?_
  refine WL_nil ?_
  refine WP_seq ?_
  refine WP_cond (decide (i4' < (a0_s.length : Int))) rfl (fun hc6 => ?_) (fun hc6 => ?_)
  · have hd6 : i4' < (a0_s.length : Int) := dec_t hc6
    have h := h.1 hd6
    refine WP_skip ?_
    refine WP_seq ?_
    refine WP_block ?_
    refine WP_seq ?_
    refine WP_region ?_
    refine WL_pure (.int .i64 i4') (R_mv rfl) rfl rfl ?_
    refine WL_pure (.int .i64 i4') (R_as rfl) rfl rfl ?_
    refine WL_nil ?_
    refine WP_seq ?_
    refine WP_region ?_
    refine WL_pure (.func (.func 75) #[] #[(.pointer (some ⟨a1_f_0_b, a1_f_0_pre.length, none⟩)), (.pointer (some ⟨a1_f_1_b, a1_f_1_pre.length, none⟩))]) (R_mv rfl) rfl rfl ?_
    refine WL_pure a0_s_v (R_mv rfl) rfl rfl ?_
    refine WL_pure (.int .i64 i4') (R_mv rfl) rfl rfl ?_
    obtain ⟨hp8, h⟩ := h
    refine WL_P (S_ixs rfl (h_a0_s.mono hX5.le) rfl Try.underlying38 ty80 hp8.1 hp8.2) rfl rfl ?_
    rintro b7 o7 hP7
    refine WL_L hM5 (S_ld rfl ty80 hP7) rfl rfl ?_
    rintro v10 (hV10 : kd_Sseal_note.V _ (ix a0_s i4') _)
    have hR12 := (h_a1_f_0_B.extN hX5)
    have hR13 := (h_a1_f_1_B.extN hX5)
    refine WL_eff rfl rfl (St_call (R_callv rfl Try.call75 rfl) ((hasOne_c hM5 hV10 hR12 hR13 hsp2_3).mono ?_))
    rintro _ w14 ⟨K14, v14_0, rfl, hS14, hM14, hV14_0⟩
    refine ⟨v14_0, rfl, ?_⟩
    have hE14 := hE5.andN hS14
    obtain rfl := bool_form hV14_0
    refine WL_nil ?_
    refine WP_cond (decide ((ix a0_s i4').1 = a1_f_0 ∧ (ix a0_s i4').2 = a1_f_1)) rfl (fun hc15 => ?_) (fun hc15 => ?_)
    · have hd15 : (ix a0_s i4').1 = a1_f_0 ∧ (ix a0_s i4').2 = a1_f_1 := dec_t hc15
      have h := h.1 hd15
      refine WP_seq ?_
      refine WP_region ?_
      refine WL_pure (.int .i64 i4') (R_mv rfl) rfl rfl ?_
      refine WL_pure (.int .i64 i4') (R_as rfl) rfl rfl ?_
      refine WL_nil ?_
      refine WP_ret ?_
      exact endR_ret hR (v := (.int .i64 i4')) (resE_1 rfl rfl) ⟨K14, (.int .i64 i4'), i4', rfl, h, hE14, hM14, (int_V hw4_8)⟩
    · have hd15 : ¬ ((ix a0_s i4').1 = a1_f_0 ∧ (ix a0_s i4').2 = a1_f_1) := dec_f hc15
      have h := h.2 hd15
      refine WP_skip ?_
      refine WP_region ?_
      refine WL_pure (.int .i64 (i4' + 1)) (R_inc rfl rfl hw4_8 hd6 (len_wf (h_a0_s).wf.1)) rfl rfl ?_
      refine WL_pure (.int .i64 (i4' + 1)) (R_mv rfl) rfl rfl ?_
      refine WL_nil ?_
      refine BackQ.mk (i4, (i4' + 1)) [(4, (.int .i64 i4)), (8, (.int .i64 (i4' + 1)))] ?_ ?_ ?_ ?_
      rotate_left
      · exact h.2
      · repeat (first | exact Off.lay0 rfl | refine Off.updO ?_ rfl _ | refine Off.updN ?_ _ | refine Off.lay ?_ rfl)
      · repeat (first | exact trivial | refine ⟨rfl, ?_⟩)
      exact ⟨K14, h.1, rfl, (((Ext.refl _ _ _).andN hX5).andN hS14), hM14, hw4_4, (inc_wf hw4_8 hd6 (len_wf (h_a0_s).wf.1))⟩
  · have hd6 : ¬ (i4' < (a0_s.length : Int)) := dec_f hc6
    have h := h.2 hd6
    refine WP_exit ?_
    refine WP_seq ?_
    refine WP_region ?_
    refine WL_pure (.int .i64 (-1)) (R_as rfl) rfl rfl ?_
    refine WL_nil ?_
    refine WP_ret ?_
    exact endR_ret hR (v := (.int .i64 (-1))) (resE_1 rfl rfl) ⟨K5, (.int .i64 (-1)), (-1), rfl, h, hE5, hM5, (int_V (show (Kd.int .i64).wf (-1) from by constructor <;> decide))⟩
theorem IndexNote_c {w0 : World} {K0 : Ghost} {a0_s_v : Value} {a0_s : (List ((List UInt8) × (List UInt8)))} {a1_f_0_b : Nat} {a1_f_0_pre a1_f_0_post : List Value} {a1_f_0 : (List UInt8)} {a1_f_1_b : Nat} {a1_f_1_pre a1_f_1_post : List Value} {a1_f_1 : (List UInt8)} (hM0 : Models w0 K0) (h_a0_s : kd_l_Sseal_note.V K0 a0_s a0_s_v) (h_a1_f_0_B : Bx kd_a32_u8 w0 K0 a1_f_0_b a1_f_0_pre a1_f_0_post a1_f_0) (h_a1_f_1_B : Bx kd_l_u8 w0 K0 a1_f_1_b a1_f_1_pre a1_f_1_post a1_f_1) (hsp2_3 : ¬ (a1_f_0_b = a1_f_1_b)) : Calls Try.prog 85 #[a0_s_v, (.func (.func 75) #[] #[(.pointer (some ⟨a1_f_0_b, a1_f_0_pre.length, none⟩)), (.pointer (some ⟨a1_f_1_b, a1_f_1_pre.length, none⟩))])] w0 (fun e w' => ∃ (K' : Ghost) (r0 : Value), e = .returned r0 ∧ Ext NX w0 K0 w' K' ∧ Models w' K' ∧ (Kd.int .i64).V K' (noteIx a1_f_0 a1_f_1 a0_s 0) r0) := by
  refine (IndexNote_walk hM0 h_a0_s h_a1_f_0_B h_a1_f_1_B hsp2_3 (IndexNote_ok h_a0_s.wf)).mono ?_
  rintro _ w' ⟨K', r0, o0, rfl, rfl, hF⟩
  exact ⟨K', r0, rfl, hF⟩
def HasNote_VC (a0_s : (List ((List UInt8) × (List UInt8)))) (a1_f_0 : (List UInt8)) (a1_f_1 : (List UInt8)) (Q : Bool → Prop) : Prop :=
  ((Kd.int .i64).wf (noteIx a1_f_0 a1_f_1 a0_s 0)) → (Q (decide (0 ≤ (noteIx a1_f_0 a1_f_1 a0_s 0))))
theorem HasNote_ok {a0_s : (List ((List UInt8) × (List UInt8)))} {a1_f_0 : (List UInt8)} {a1_f_1 : (List UInt8)} (w_0 : kd_l_Sseal_note.wf a0_s) : HasNote_VC a0_s a1_f_0 a1_f_1 (fun o0 => o0 = decide (0 ≤ noteIx a1_f_0 a1_f_1 a0_s 0)) := by
  exact fun _ => rfl

theorem HasNote_walk {w0 : World} {K0 : Ghost} {a0_s_v : Value} {a0_s : (List ((List UInt8) × (List UInt8)))} {a1_f_0_b : Nat} {a1_f_0_pre a1_f_0_post : List Value} {a1_f_0 : (List UInt8)} {a1_f_1_b : Nat} {a1_f_1_pre a1_f_1_post : List Value} {a1_f_1 : (List UInt8)} {Q : Bool → Prop} (hM0 : Models w0 K0) (h_a0_s : kd_l_Sseal_note.V K0 a0_s a0_s_v) (h_a1_f_0_B : Bx kd_a32_u8 w0 K0 a1_f_0_b a1_f_0_pre a1_f_0_post a1_f_0) (h_a1_f_1_B : Bx kd_l_u8 w0 K0 a1_f_1_b a1_f_1_pre a1_f_1_post a1_f_1) (hsp2_3 : ¬ (a1_f_0_b = a1_f_1_b)) (h : HasNote_VC a0_s a1_f_0 a1_f_1 Q) : Calls Try.prog 74 #[a0_s_v, (.func (.func 75) #[] #[(.pointer (some ⟨a1_f_0_b, a1_f_0_pre.length, none⟩)), (.pointer (some ⟨a1_f_1_b, a1_f_1_pre.length, none⟩))])] w0 (fun e w' => ∃ (K' : Ghost) (r0 : Value) (o0 : Bool), e = .returned r0 ∧ Q o0 ∧ Ext NX w0 K0 w' K' ∧ Models w' K' ∧ Kd.bool.V K' o0 r0) := by
  unfold HasNote_VC at h
  have hE0 : Ext NX w0 K0 w0 K0 := Ext.refl _ _ _
  refine calls_gen fun R hR => ?_
  refine calls_env (args := [a0_s_v, (.func (.func 75) #[] #[(.pointer (some ⟨a1_f_0_b, a1_f_0_pre.length, none⟩)), (.pointer (some ⟨a1_f_1_b, a1_f_1_pre.length, none⟩))])]) Try.func74 rfl (Nat.le_of_ble_eq_true rfl) ?_
  refine WP_seq ?_
  refine WP_region ?_
  refine WL_pure (.bool false) (R_as rfl) rfl rfl ?_
  refine WL_nil ?_
  refine WP_seq ?_
  refine WP_region ?_
  refine WL_pure a0_s_v (R_mv rfl) rfl rfl ?_
  refine WL_pure (.func (.func 75) #[] #[(.pointer (some ⟨a1_f_0_b, a1_f_0_pre.length, none⟩)), (.pointer (some ⟨a1_f_1_b, a1_f_1_pre.length, none⟩))]) (R_mv rfl) rfl rfl ?_
  refine WL_eff rfl rfl (St_call (R_call Try.call85 rfl) ((IndexNote_c hM0 h_a0_s h_a1_f_0_B h_a1_f_1_B hsp2_3).mono ?_))
  rintro _ w4 ⟨K4, v4_0, rfl, hS4, hM4, hV4_0⟩
  refine ⟨v4_0, rfl, ?_⟩
  have hE4 := hE0.andN hS4
  obtain rfl := int_form hV4_0
  have h := h hV4_0.wf
  refine WL_pure (.bool (decide (0 ≤ (noteIx a1_f_0 a1_f_1 a0_s 0)))) (R_geq rfl rfl) rfl rfl ?_
  refine WL_pure (.bool (decide (0 ≤ (noteIx a1_f_0 a1_f_1 a0_s 0)))) (R_as rfl) rfl rfl ?_
  refine WL_nil ?_
  refine WP_ret ?_
  exact endR_ret hR (v := (.bool (decide (0 ≤ (noteIx a1_f_0 a1_f_1 a0_s 0))))) (resE_1 rfl rfl) ⟨K4, (.bool (decide (0 ≤ (noteIx a1_f_0 a1_f_1 a0_s 0)))), (decide (0 ≤ (noteIx a1_f_0 a1_f_1 a0_s 0))), rfl, h, hE4, hM4, bool_V⟩
theorem HasNote_c {w0 : World} {K0 : Ghost} {a0_s_v : Value} {a0_s : (List ((List UInt8) × (List UInt8)))} {a1_f_0_b : Nat} {a1_f_0_pre a1_f_0_post : List Value} {a1_f_0 : (List UInt8)} {a1_f_1_b : Nat} {a1_f_1_pre a1_f_1_post : List Value} {a1_f_1 : (List UInt8)} (hM0 : Models w0 K0) (h_a0_s : kd_l_Sseal_note.V K0 a0_s a0_s_v) (h_a1_f_0_B : Bx kd_a32_u8 w0 K0 a1_f_0_b a1_f_0_pre a1_f_0_post a1_f_0) (h_a1_f_1_B : Bx kd_l_u8 w0 K0 a1_f_1_b a1_f_1_pre a1_f_1_post a1_f_1) (hsp2_3 : ¬ (a1_f_0_b = a1_f_1_b)) : Calls Try.prog 74 #[a0_s_v, (.func (.func 75) #[] #[(.pointer (some ⟨a1_f_0_b, a1_f_0_pre.length, none⟩)), (.pointer (some ⟨a1_f_1_b, a1_f_1_pre.length, none⟩))])] w0 (fun e w' => ∃ (K' : Ghost) (r0 : Value), e = .returned r0 ∧ Ext NX w0 K0 w' K' ∧ Models w' K' ∧ Kd.bool.V K' (decide (0 ≤ noteIx a1_f_0 a1_f_1 a0_s 0)) r0) := by
  refine (HasNote_walk hM0 h_a0_s h_a1_f_0_B h_a1_f_1_B hsp2_3 (HasNote_ok h_a0_s.wf)).mono ?_
  rintro _ w' ⟨K', r0, o0, rfl, rfl, hF⟩
  exact ⟨K', r0, rfl, hF⟩
abbrev kd_Sseal_notes : Kd (Value × Value) := (Kd.pr Kd.rsl Kd.rmp)
theorem ty39r : TyOk Try.prog 39 Kd.rmp 8 := ⟨⟨Try.t39, _, Try.type39, rfl, rfl, rfl, rfl, rfl⟩, ⟨_, Try.underlying39, rfl⟩⟩
theorem ty38r : TyOk Try.prog 38 Kd.rsl 24 := ⟨⟨Try.t38, _, Try.type38, rfl, rfl, rfl, rfl, rfl⟩, ⟨_, Try.underlying38, rfl⟩⟩
def has_VC (a0_n_0 : (List ((List UInt8) × (List UInt8)))) (a0_n_1 : (List ((List UInt8) × Int))) (a1_s : (List UInt8)) (a2_b : (List UInt8)) (Q : Bool → Prop) : Prop :=
  ((¬ (((mfind a1_s a0_n_1).isSome) = true)) → Q false) ∧ ((((mfind a1_s a0_n_1).isSome) = true) → (0 ≤ ((mfind a1_s a0_n_1).getD 0) ∧ ((mfind a1_s a0_n_1).getD 0) ≤ (a0_n_0.length : Int)) ∧ (Q (decide (0 ≤ noteIx a1_s a2_b (a0_n_0.drop ((mfind a1_s a0_n_1).getD 0).toNat) 0))))
theorem has_ok {a0_n_0 : (List ((List UInt8) × (List UInt8)))} {a0_n_1 : (List ((List UInt8) × Int))} {a1_s : (List UInt8)} {a2_b : (List UInt8)} (w_0 : kd_a32_u8.wf a1_s) (w_1 : kd_l_u8.wf a2_b) (hp : BookInv a0_n_0 a0_n_1) : has_VC a0_n_0 a0_n_1 a1_s a2_b (fun o0 => o0 = decide ((a1_s, a2_b) ∈ a0_n_0)) := by
  unfold has_VC
  rw [hp a1_s]
  refine ⟨fun h => ?_, fun h => ?_⟩
  · have hn : firstOf a1_s a0_n_0 0 = none := by
      cases hf : firstOf a1_s a0_n_0 0 with
      | none => rfl
      | some a => rw [hf] at h; exact absurd rfl h
    have := firstOf_none hn a2_b
    simp [this]
  · cases hf : firstOf a1_s a0_n_0 0 with
    | none => rw [hf] at h; cases h
    | some a =>
      obtain ⟨j, rfl, hl, hm⟩ := firstOf_some hf
      simp only [Option.getD_some, Int.zero_add, Int.toNat_natCast]
      refine ⟨⟨by omega, by omega⟩, ?_⟩
      rw [decide_eq_decide, noteIx_ge _ _ (Int.le_refl _)]
      exact (hm a2_b).symm

theorem has_walk {w0 : World} {K0 : Ghost} {a0_n_b : Nat} {a0_n_pre a0_n_post : List Value} {a0_n_0v : Value} {a0_n_0 : (List ((List UInt8) × (List UInt8)))} {a0_n_1v : Value} {a0_n_1 : (List ((List UInt8) × Int))} {a1_s_v : Value} {a1_s : (List UInt8)} {a2_b_v : Value} {a2_b : (List UInt8)} {Q : Bool → Prop} (hM0 : Models w0 K0) (h_a0_n_B : Bx kd_Sseal_notes w0 K0 a0_n_b a0_n_pre a0_n_post (a0_n_0v, a0_n_1v)) (h_a0_n_0 : Own kd_Sseal_note 80 w0 K0 a0_n_0 a0_n_0v) (h_a0_n_1 : Mp kd_a32_u8 (Kd.int .i64) w0 K0 a0_n_1 a0_n_1v) (h_a1_s : kd_a32_u8.V K0 a1_s a1_s_v) (h_a2_b : kd_l_u8.V K0 a2_b a2_b_v) (h : has_VC a0_n_0 a0_n_1 a1_s a2_b Q) : Calls Try.prog 66 #[(.pointer (some ⟨a0_n_b, a0_n_pre.length, none⟩)), a1_s_v, a2_b_v] w0 (fun e w' => ∃ (K' : Ghost) (r0 : Value) (o0 : Bool), e = .returned r0 ∧ Q o0 ∧ Ext NX w0 K0 w' K' ∧ Models w' K' ∧ Kd.bool.V K' o0 r0) := by
  unfold has_VC at h
  have hE0 : Ext NX w0 K0 w0 K0 := Ext.refl _ _ _
  refine calls_gen fun R hR => ?_
  refine calls_env (args := [(.pointer (some ⟨a0_n_b, a0_n_pre.length, none⟩)), a1_s_v, a2_b_v]) Try.func66 rfl (Nat.le_of_ble_eq_true rfl) ?_
  refine WP_seq ?_
  refine WP_region ?_
  refine WL_eff rfl rfl (St_B (S_box hM0 rfl h_a1_s) ?_)
  rintro b6 w6 (hB6 : Bx kd_a32_u8 _ _ _ _ _ a1_s) hS6 hM6 hge6
  have hE6 := hE0.andN hS6
  refine WL_eff rfl rfl (St_B (S_box hM6 rfl (h_a2_b.mono hS6.le)) ?_)
  rintro b8 w8 (hB8 : Bx kd_l_u8 _ _ _ _ _ a2_b) hS8 hM8 hge8
  have hE8 := hE6.andN hS8
  have hR10 := (h_a0_n_B.extN hS6)
  refine WL_pure (.bool false) (R_as rfl) rfl rfl ?_
  refine WL_nil ?_
  refine WP_seq ?_
  refine WP_ordD (K := K0) NX [.o 0 2, .o 1 2, .o 2 2, .o 3 2, .o 4 2, .o 5 2, .o 6 2, .o 7 2, .o 8 2, .o 9 2, .o 10 2] (by kernel_rfl) (by kernel_rfl) hM8 ?_
  rintro w11 hS11 hM11
  have hE11 := hE8.andN hS11
  refine WO_pure (.pointer (some ⟨a0_n_b, a0_n_pre.length, none⟩)) rfl l0 hM11 (fun _ => R_mv rfl) rfl (gN rfl) rfl ?_
  refine WO_pure (.pointer (some ⟨a0_n_b, a0_n_pre.length, none⟩)) rfl l0 hM11 (fun _ => R_nilck rfl) rfl (gN rfl) rfl ?_
  refine WO_pure (.pointer (some ⟨a0_n_b, a0_n_pre.length + 1, none⟩)) rfl l0 hM11 (fun _ => R_fa rfl Try.underlying41 rfl rfl ty39r rfl) rfl (gN rfl) rfl ?_
  have hR13 := (((h_a0_n_B.extN hS6).extN hS8).extN hS11)
  refine WO_L0 hM11 (S_ldB (Foc.snd Kd.rsl Kd.rmp) rfl ty39r hR13 (by first | rfl | simp | omega) (fun h => h)) rfl (gN rfl) rfl ?_
  rintro v12 (hV12 : Kd.rmp.V _ a0_n_1v _)
  obtain rfl := rw_form hV12
  have hR15 := ((hB6.extN hS8).extN hS11)
  refine WO_L0 hM11 (S_ldB (Foc.id _) rfl ty31 hR15 (by first | rfl | simp | omega) (fun h => h)) rfl (gN rfl) rfl ?_
  rintro v14 (hV14 : kd_a32_u8.V _ a1_s _)
  have hR18 := (((h_a0_n_1.extN hS6).extN hS8).extN hS11)
  refine WO_LK0 hM11 (S_lkp (kv := (Kd.int .i64)) rfl rfl hR18 hV14 Try.underlying39 (keyOk_arr Try.underlying31 Try.underlying5 ty5b) ty3 (fun _ _ h => h)) rfl (gN rfl) rfl ?_
  rintro v17 (hV17 : (Kd.int .i64).V _ ((mfind a1_s a0_n_1).getD 0) _)
  obtain rfl := int_form hV17
  refine WO_pure (.tuple #[(.int .i64 ((mfind a1_s a0_n_1).getD 0)), (.bool ((mfind a1_s a0_n_1).isSome))]) rfl l0 hM11 (fun _ => R_mv rfl) rfl (gN rfl) rfl ?_
  refine WO_pure (.int .i64 ((mfind a1_s a0_n_1).getD 0)) rfl l0 hM11 (fun _ => R_ext rfl rfl) rfl (gN rfl) rfl ?_
  refine WO_pure (.bool ((mfind a1_s a0_n_1).isSome)) rfl l0 hM11 (fun _ => R_ext rfl rfl) rfl (gN rfl) rfl ?_
  refine WO_pure (.int .i64 ((mfind a1_s a0_n_1).getD 0)) rfl l0 hM11 (fun _ => R_as rfl) rfl (gN rfl) rfl ?_
  refine WO_pure (.bool ((mfind a1_s a0_n_1).isSome)) rfl l0 hM11 (fun _ => R_as rfl) rfl (gN rfl) rfl ?_
  refine WO_nil ?_
  refine WP_seq ?_
  refine WP_seq ?_
  refine WP_region ?_
  refine WL_pure (.bool ((mfind a1_s a0_n_1).isSome)) (R_mv rfl) rfl rfl ?_
  refine WL_pure (.bool (!((mfind a1_s a0_n_1).isSome))) (R_not rfl) rfl rfl ?_
  refine WL_nil ?_
  refine WP_cond (!((mfind a1_s a0_n_1).isSome)) rfl (fun hc19 => ?_) (fun hc19 => ?_)
  · have hd19 : ¬ (((mfind a1_s a0_n_1).isSome) = true) := nbb_t hc19
    have h := h.1 hd19
    refine WP_seq ?_
    refine WP_region ?_
    refine WL_pure (.bool false) (R_as rfl) rfl rfl ?_
    refine WL_nil ?_
    refine WP_ret ?_
    exact endR_ret hR (v := (.bool false)) (resE_1 rfl rfl) ⟨K0, (.bool false), false, rfl, h, hE11, hM11, bool_V⟩
  · have hd19 : ((mfind a1_s a0_n_1).isSome) = true := nbb_f hc19
    have h := h.2 hd19
    refine WP_skip ?_
    refine WP_seq ?_
    refine WP_region ?_
    refine WL_pure (.pointer (some ⟨a0_n_b, a0_n_pre.length, none⟩)) (R_mv rfl) rfl rfl ?_
    refine WL_pure (.pointer (some ⟨a0_n_b, a0_n_pre.length, none⟩)) (R_nilck rfl) rfl rfl ?_
    refine WL_pure (.pointer (some ⟨a0_n_b, a0_n_pre.length + 0, none⟩)) (R_fa rfl Try.underlying41 rfl rfl ty38r rfl) rfl rfl ?_
    refine WL_L hM11 (S_ldB (Foc.fst Kd.rsl Kd.rmp) rfl ty38r hR13 (by first | rfl | simp | omega) (fun h => h)) rfl rfl ?_
    rintro v20 (hV20 : Kd.rsl.V _ a0_n_0v _)
    obtain rfl := rw_form hV20
    refine WL_pure (.int .i64 ((mfind a1_s a0_n_1).getD 0)) (R_mv rfl) rfl rfl ?_
    obtain ⟨hp22, h⟩ := h
    refine WL_V (S_slL rfl (h_a0_n_0.V.mono (hS6.le.trans (hS8.le.trans hS11.le))) Try.underlying38 ty80 rfl hp22.1 hp22.2) rfl rfl ?_
    rintro v21 (hV21 : kd_l_Sseal_note.V _ (a0_n_0.drop ((mfind a1_s a0_n_1).getD 0).toNat) _)
    refine WL_pure (.func (.func 75) #[] #[(.pointer (some ⟨b6, 0, none⟩)), (.pointer (some ⟨b8, 0, none⟩))]) (R_fnl rfl) rfl rfl ?_
    have hR25 := (hB8.extN hS11)
    refine WL_eff rfl rfl (St_call (R_call Try.call74 rfl) ((HasNote_c hM11 hV21 hR15 hR25 (fun he => (ne_new hge8 hB6.lt) he.symm)).mono ?_))
    rintro _ w24 ⟨K24, v24_0, rfl, hS24, hM24, hV24_0⟩
    refine ⟨v24_0, rfl, ?_⟩
    have hE24 := hE11.andN hS24
    obtain rfl := bool_form hV24_0
    refine WL_pure (.bool (decide (0 ≤ noteIx a1_s a2_b (a0_n_0.drop ((mfind a1_s a0_n_1).getD 0).toNat) 0))) (R_as rfl) rfl rfl ?_
    refine WL_nil ?_
    refine WP_ret ?_
    exact endR_ret hR (v := (.bool (decide (0 ≤ noteIx a1_s a2_b (a0_n_0.drop ((mfind a1_s a0_n_1).getD 0).toNat) 0)))) (resE_1 rfl rfl) ⟨K24, (.bool (decide (0 ≤ noteIx a1_s a2_b (a0_n_0.drop ((mfind a1_s a0_n_1).getD 0).toNat) 0))), (decide (0 ≤ noteIx a1_s a2_b (a0_n_0.drop ((mfind a1_s a0_n_1).getD 0).toNat) 0)), rfl, h, hE24, hM24, bool_V⟩
theorem has_c {w0 : World} {K0 : Ghost} {a0_n_b : Nat} {a0_n_pre a0_n_post : List Value} {a0_n_0v : Value} {a0_n_0 : (List ((List UInt8) × (List UInt8)))} {a0_n_1v : Value} {a0_n_1 : (List ((List UInt8) × Int))} {a1_s_v : Value} {a1_s : (List UInt8)} {a2_b_v : Value} {a2_b : (List UInt8)} (hM0 : Models w0 K0) (h_a0_n_B : Bx kd_Sseal_notes w0 K0 a0_n_b a0_n_pre a0_n_post (a0_n_0v, a0_n_1v)) (h_a0_n_0 : Own kd_Sseal_note 80 w0 K0 a0_n_0 a0_n_0v) (h_a0_n_1 : Mp kd_a32_u8 (Kd.int .i64) w0 K0 a0_n_1 a0_n_1v) (h_a1_s : kd_a32_u8.V K0 a1_s a1_s_v) (h_a2_b : kd_l_u8.V K0 a2_b a2_b_v) (hp : BookInv a0_n_0 a0_n_1) : Calls Try.prog 66 #[(.pointer (some ⟨a0_n_b, a0_n_pre.length, none⟩)), a1_s_v, a2_b_v] w0 (fun e w' => ∃ (K' : Ghost) (r0 : Value), e = .returned r0 ∧ Ext NX w0 K0 w' K' ∧ Models w' K' ∧ Kd.bool.V K' (decide ((a1_s, a2_b) ∈ a0_n_0)) r0) := by
  refine (has_walk hM0 h_a0_n_B h_a0_n_0 h_a0_n_1 h_a1_s h_a2_b (has_ok h_a1_s.wf h_a2_b.wf hp)).mono ?_
  rintro _ w' ⟨K', r0, o0, rfl, rfl, hF⟩
  exact ⟨K', r0, rfl, hF⟩
theorem fs80 {fs : Array Field} (h : Try.prog.underlying 80 = some (.struct fs)) : ∀ f ∈ fs.toList, ∃ i, Try.prog.info? f.type = some i := by
  have h2 := (Try.underlying80).symm.trans h
  cases h2
  intro f hf
  simp only [List.mem_cons, List.not_mem_nil, or_false] at hf
  rcases hf with rfl | rfl
  · exact ⟨_, Try.type31⟩
  · exact ⟨_, Try.type55⟩
def add_VC (a0_n_0 : (List ((List UInt8) × (List UInt8)))) (a0_n_1 : (List ((List UInt8) × Int))) (a1_s : (List UInt8)) (a2_b : (List UInt8)) (Q : (List ((List UInt8) × (List UInt8))) → (List ((List UInt8) × Int)) → Prop) : Prop :=
  (BookInv a0_n_0 a0_n_1) ∧ ((((a1_s, a2_b) ∈ a0_n_0) → Q a0_n_0 a0_n_1) ∧ ((¬ ((a1_s, a2_b) ∈ a0_n_0)) → ∀ (r21 : Bool), (r21 = true → a0_n_1 = []) → (∃ (J23 : (List ((List UInt8) × Int)) → Prop), (((r21 = true) → J23 ([] : List ((List UInt8) × Int))) ∧ ((r21 = false) → J23 a0_n_1)) ∧ ∀ (y23 : (List ((List UInt8) × Int))), J23 y23 → (∃ (J42 : (List ((List UInt8) × Int)) → Prop), (((¬ (((mfind a1_s y23).isSome) = true)) → J42 (mset a1_s (a0_n_0.length : Int) y23)) ∧ ((((mfind a1_s y23).isSome) = true) → J42 y23)) ∧ ∀ (y42 : (List ((List UInt8) × Int))), J42 y42 → ((a2_b.length ≤ 140737488355328) ∧ ((kd_l_u8.wf a2_b) → (((a0_n_0.length + [(a1_s, a2_b)].length) * 56 ≤ 140737488355328) ∧ (Q (a0_n_0 ++ [(a1_s, a2_b)]) y42))))))))
theorem add_ok {a0_n_0 : (List ((List UInt8) × (List UInt8)))} {a0_n_1 : (List ((List UInt8) × Int))} {a1_s : (List UInt8)} {a2_b : (List UInt8)} (w_0 : kd_a32_u8.wf a1_s) (w_1 : kd_l_u8.wf a2_b) (hp : BookInv a0_n_0 a0_n_1 ∧ a2_b.length ≤ 140737488355328 ∧ (a0_n_0.length + 1) * 64 ≤ 140737488355328) : add_VC a0_n_0 a0_n_1 a1_s a2_b (fun o0 o1 => o0 = (addL a0_n_0 a1_s a2_b) ∧ o1 = (addM a0_n_0 a0_n_1 a1_s a2_b)) := by
  obtain ⟨h1, h2, h3⟩ := hp
  have hlen : (a0_n_0.length + [(a1_s, a2_b)].length) * 56 ≤ 140737488355328 := by
    simp only [List.length_cons, List.length_nil]
    omega
  unfold add_VC
  refine ⟨h1, fun h => ?_, fun h r hr => ?_⟩
  · have hm := h
    exact ⟨by simp [addL, hm], by simp [addM, hm]⟩
  · have hm := h
    refine ⟨fun m => m = a0_n_1, ⟨fun h => (hr h).symm, fun _ => rfl⟩, ?_⟩
    rintro m rfl
    refine ⟨fun m' => m' = if (mfind a1_s m).isSome then m else mset a1_s (a0_n_0.length : Int) m, ⟨fun h => by rw [if_neg h], fun h => by rw [if_pos h]⟩, ?_⟩
    rintro m' rfl
    exact ⟨h2, fun _ => ⟨hlen, by simp [addL, hm], by simp [addM, hm]⟩⟩

theorem add_walk {w0 : World} {K0 : Ghost} {a0_n_b : Nat} {a0_n_pre a0_n_post : List Value} {a0_n_0v : Value} {a0_n_0 : (List ((List UInt8) × (List UInt8)))} {a0_n_1v : Value} {a0_n_1 : (List ((List UInt8) × Int))} {a1_s_v : Value} {a1_s : (List UInt8)} {a2_b_v : Value} {a2_b : (List UInt8)} {Q : (List ((List UInt8) × (List UInt8))) → (List ((List UInt8) × Int)) → Prop} (hM0 : Models w0 K0) (h_a0_n_B : Bx kd_Sseal_notes w0 K0 a0_n_b a0_n_pre a0_n_post (a0_n_0v, a0_n_1v)) (h_a0_n_0 : Own kd_Sseal_note 80 w0 K0 a0_n_0 a0_n_0v) (h_a0_n_1 : Mp kd_a32_u8 (Kd.int .i64) w0 K0 a0_n_1 a0_n_1v) (h_a1_s : kd_a32_u8.V K0 a1_s a1_s_v) (h_a2_b : kd_l_u8.V K0 a2_b a2_b_v) (h : add_VC a0_n_0 a0_n_1 a1_s a2_b Q) : Calls Try.prog 60 #[(.pointer (some ⟨a0_n_b, a0_n_pre.length, none⟩)), a1_s_v, a2_b_v] w0 (fun e w' => ∃ (K' : Ghost) (u0_0 : Value) (u0_1 : Value) (o0 : (List ((List UInt8) × (List UInt8)))) (o1 : (List ((List UInt8) × Int))), e = .returned (.tuple #[]) ∧ Q o0 o1 ∧ Ext (fun c => c = a0_n_b ∨ ob a0_n_0v = some c ∨ mb a0_n_1v = some c) w0 K0 w' K' ∧ Models w' K' ∧ Bx kd_Sseal_notes w' K' a0_n_b a0_n_pre a0_n_post (u0_0, u0_1) ∧ Own kd_Sseal_note 80 w' K' o0 u0_0 ∧ (∀ g, ob u0_0 = some g → ob a0_n_0v = some g ∨ w0.heap.size ≤ g) ∧ Mp kd_a32_u8 (Kd.int .i64) w' K' o1 u0_1 ∧ (∀ g, mb u0_1 = some g → mb a0_n_1v = some g ∨ w0.heap.size ≤ g)) := by
  unfold add_VC at h
  have hE0 : Ext (fun c => c = a0_n_b ∨ ob a0_n_0v = some c ∨ mb a0_n_1v = some c) w0 K0 w0 K0 := Ext.refl _ _ _
  refine calls_gen fun R hR => ?_
  refine calls_env (args := [(.pointer (some ⟨a0_n_b, a0_n_pre.length, none⟩)), a1_s_v, a2_b_v]) Try.func60 rfl (Nat.le_of_ble_eq_true rfl) ?_
  refine WP_seq ?_
  refine WP_region ?_
  refine WL_eff rfl rfl (St_B (S_box hM0 rfl h_a1_s) ?_)
  rintro b6 w6 (hB6 : Bx kd_a32_u8 _ _ _ _ _ a1_s) hS6 hM6 hge6
  have hE6 := hE0.andN hS6
  refine WL_nil ?_
  refine WP_seq ?_
  refine WP_seq ?_
  refine WP_region ?_
  refine WL_pure (.pointer (some ⟨a0_n_b, a0_n_pre.length, none⟩)) (R_mv rfl) rfl rfl ?_
  refine WL_L hM6 (S_ldB (Foc.id _) rfl ty31 hB6 (by first | rfl | simp | omega) (fun h => h)) rfl rfl ?_
  rintro v8 (hV8 : kd_a32_u8.V _ a1_s _)
  refine WL_pure a2_b_v (R_mv rfl) rfl rfl ?_
  have hR10 := (h_a0_n_0.extN hS6)
  have hR11 := (h_a0_n_1.extN hS6)
  have hR12 := (h_a0_n_B.extN hS6)
  obtain ⟨hp14, h⟩ := h
  refine WL_eff rfl rfl (St_call (R_call Try.call66 rfl) ((has_c hM6 hR12 hR10 hR11 hV8 (h_a2_b.mono hS6.le) hp14).mono ?_))
  rintro _ w13 ⟨K13, v13_0, rfl, hS13, hM13, hV13_0⟩
  refine ⟨v13_0, rfl, ?_⟩
  have hE13 := hE6.andN hS13
  obtain rfl := bool_form hV13_0
  refine WL_nil ?_
  refine WP_cond (decide ((a1_s, a2_b) ∈ a0_n_0)) rfl (fun hc15 => ?_) (fun hc15 => ?_)
  · have hd15 : (a1_s, a2_b) ∈ a0_n_0 := dec_t hc15
    have h := h.1 hd15
    refine WP_ret ?_
    have hR16 := (hR10.extN hS13)
    have hR17 := (hR11.extN hS13)
    have hR18 := (hR12.extN hS13)
    exact endR_ret hR (v := (.tuple #[])) (resE_0 rfl) ⟨K13, a0_n_0v, a0_n_1v, a0_n_0, a0_n_1, rfl, h, hE13, hM13, hR18, hR16, (fun g hg => (.inl hg)), hR17, (fun g hg => (.inl hg))⟩
  · have hd15 : ¬ ((a1_s, a2_b) ∈ a0_n_0) := dec_f hc15
    have h := h.2 hd15
    refine WP_skip ?_
    refine WP_seq ?_
    refine WP_seq ?_
    refine WP_region ?_
    refine WL_pure (.pointer (some ⟨a0_n_b, a0_n_pre.length, none⟩)) (R_mv rfl) rfl rfl ?_
    refine WL_pure (.pointer (some ⟨a0_n_b, a0_n_pre.length, none⟩)) (R_nilck rfl) rfl rfl ?_
    refine WL_pure (.pointer (some ⟨a0_n_b, a0_n_pre.length + 1, none⟩)) (R_fa rfl Try.underlying41 rfl rfl ty39r rfl) rfl rfl ?_
    have hR20 := (hR12.extN hS13)
    refine WL_L hM13 (S_ldB (Foc.snd Kd.rsl Kd.rmp) rfl ty39r hR20 (by first | rfl | simp | omega) (fun h => h)) rfl rfl ?_
    rintro v19 (hV19 : Kd.rmp.V _ a0_n_1v _)
    obtain rfl := rw_form hV19
    have hR22 := (hR11.extN hS13)
    refine WL_bq (S_mnil rfl rfl hR22 Try.underlying39) rfl rfl ?_
    rintro r21 ⟨hn21, hnn21⟩
    have h := h r21 (fun hx => (hn21 hx).2)
    refine WL_nil ?_
    obtain ⟨J23, h, hJ23⟩ := h
    refine WP_meet [17, 18, 19, 20] (fun l w => ∃ y23 K z1_1, J23 y23 ∧ l = [] ∧ Ext (fun c => mb a0_n_1v = some c ∨ c = a0_n_b) w13 K13 w K ∧ Models w K ∧ Mp kd_a32_u8 (Kd.int .i64) w K y23 (.map (some z1_1)) ∧ (∀ g, mb (.map (some z1_1)) = some g → mb a0_n_1v = some g ∨ w13.heap.size ≤ g) ∧ Bx kd_Sseal_notes w K a0_n_b a0_n_pre a0_n_post (a0_n_0v, (.map (some z1_1)))) ?_ ?_
    · skip
      refine WP_cond r21 rfl (fun hc24 => ?_) (fun hc24 => ?_)
      · have hd24 : r21 = true := hc24
        have h := h.1 hd24
        refine WP_region ?_
        refine WL_pure (.pointer (some ⟨a0_n_b, a0_n_pre.length, none⟩)) (R_mv rfl) rfl rfl ?_
        refine WL_eff rfl rfl (St_MM (S_mkm (kk := kd_a32_u8) (kv := (Kd.int .i64)) hM13) ?_)
        rintro b25 w25 hO25 hS25 hM25 hge25
        have hf25 : ∀ g, mb (.map (some b25)) = some g → w0.heap.size ≤ g := fun g hg => by cases hg; exact Nat.le_trans hE13.size hge25
        have hE25 := hE13.andN hS25
        have hs27 : ∀ g, mb (.map (some b25)) = some g → ¬ (mb a0_n_1v = some g) := fun g hg hx => by cases hg; exact absurd (hR22.lt _ hx) (Nat.not_lt.2 hge25)
        refine WL_pure (.pointer (some ⟨a0_n_b, a0_n_pre.length, none⟩)) (R_nilck rfl) rfl rfl ?_
        refine WL_pure (.pointer (some ⟨a0_n_b, a0_n_pre.length + 1, none⟩)) (R_fa rfl Try.underlying41 rfl rfl ty39r rfl) rfl rfl ?_
        have hR29 := (hR20.extN hS25)
        refine WL_eff rfl rfl (St_St (S_stB (Foc.snd Kd.rsl Kd.rmp) hM25 rfl rfl (rw_V hO25.one) ty39r hR29 (by first | rfl | simp | omega)) ?_)
        rintro w28 (hB28 : Bx kd_Sseal_notes _ _ a0_n_b a0_n_pre a0_n_post (a0_n_0v, (.map (some b25)))) hS28 hM28
        have hE28 := hE25.comp hS28 (fun c hx hlt => (by subst hx; exact (fun _ => (.inl rfl)) hlt))
        refine WL_nil ?_
        have hR30 := (hO25.ext hS28 (fun g hg hx => (fun g hg hx => hO25.box hR29 (hg.trans (congrArg some hx))) g hg hx))
        exact MeetQ.mk [] ⟨([] : List ((List UInt8) × Int)), K13, b25, h, rfl, (((Ext.refl _ _ _).andN hS25).comp hS28 (fun c hx hlt => (.inr (hx)))), hM28, hR30, (fun g hg => .inr ((fun g hg => by cases hg; exact hge25) g hg)), hB28⟩ (by repeat (first | exact Off.lay0 rfl | exact Off.refl _ _ | refine Off.updO ?_ rfl _ | refine Off.updN ?_ _ | refine Off.lay ?_ rfl)) (by repeat (first | exact trivial | refine ⟨rfl, ?_⟩))
      · have hd24 : r21 = false := hc24
        have h := h.2 hd24
        obtain ⟨b24, hv24⟩ := hnn21 hd24
        subst hv24
        refine WP_skip ?_
        exact MeetQ.mk [] ⟨a0_n_1, K13, b24, h, rfl, (Ext.refl _ _ _), hM13, hR22, (fun g hg => (.inl hg)), hR20⟩ (by repeat (first | exact Off.lay0 rfl | exact Off.refl _ _ | refine Off.updO ?_ rfl _ | refine Off.updN ?_ _ | refine Off.lay ?_ rfl)) (by repeat (first | exact trivial | refine ⟨rfl, ?_⟩))
    rintro l σ23 w31 ⟨y23, K31, z1_1_23, hI, rfl, hX31, hM31, hL23_z1_1, ho23_z1_1, hL23_1⟩
    have h := hJ23 y23 hI
    have hE31 := hE13.comp hX31 (fun c hx hlt => Or.elim hx (fun hx => (fun g hg _ => (.inr (.inr (hg)))) c hx hlt) (fun hx => (by subst hx; exact (fun _ => (.inl rfl)) hlt)))
    have hf32 : ∀ g, mb (.map (some z1_1_23)) = some g → g < w0.heap.size → g = a0_n_b ∨ ob a0_n_0v = some g ∨ mb a0_n_1v = some g := fun g hg hlt => (ho23_z1_1 g hg).elim (fun hx => (fun g hg _ => (.inr (.inr (hg)))) g hx hlt) (fun hx => absurd hlt (Nat.not_lt.2 (Nat.le_trans hE13.size hx)))
    refine WP_seq ?_
    refine WP_seq ?_
    refine WP_ordD (K := K31) NX [.o 0 2, .o 1 2, .o 2 2, .o 3 2, .o 4 2, .o 5 2, .o 6 2, .o 7 2, .o 8 2, .o 9 2, .o 10 2] (by kernel_rfl) (by kernel_rfl) hM31 ?_
    rintro w33 hS33 hM33
    have hE33 := hE31.andN hS33
    refine WO_pure (.pointer (some ⟨a0_n_b, a0_n_pre.length, none⟩)) rfl l0 hM33 (fun _ => R_mv rfl) rfl (gN rfl) rfl ?_
    refine WO_pure (.pointer (some ⟨a0_n_b, a0_n_pre.length, none⟩)) rfl l0 hM33 (fun _ => R_nilck rfl) rfl (gN rfl) rfl ?_
    refine WO_pure (.pointer (some ⟨a0_n_b, a0_n_pre.length + 1, none⟩)) rfl l0 hM33 (fun _ => R_fa rfl Try.underlying41 rfl rfl ty39r rfl) rfl (gN rfl) rfl ?_
    have hR35 := (hL23_1.extN hS33)
    refine WO_L0 hM33 (S_ldB (Foc.snd Kd.rsl Kd.rmp) rfl ty39r hR35 (by first | rfl | simp | omega) (fun h => h)) rfl (gN rfl) rfl ?_
    rintro v34 (hV34 : Kd.rmp.V _ (.map (some z1_1_23)) _)
    obtain rfl := rw_form hV34
    have hR37 := (hB6.extN hS13)
    have hR38 := ((hR37.ext hX31 (fun hx => Or.elim hx (fun hx => (hR22.box hR37) hx) (fun hx => (ne_new hge6 h_a0_n_B.lt) hx))).extN hS33)
    refine WO_L0 hM33 (S_ldB (Foc.id _) rfl ty31 hR38 (by first | rfl | simp | omega) (fun h => h)) rfl (gN rfl) rfl ?_
    rintro v36 (hV36 : kd_a32_u8.V _ a1_s _)
    have hR41 := (hL23_z1_1.extN hS33)
    refine WO_LK0 hM33 (S_lkp (kv := (Kd.int .i64)) rfl rfl hR41 hV36 Try.underlying39 (keyOk_arr Try.underlying31 Try.underlying5 ty5b) ty3 (fun _ _ h => h)) rfl (gN rfl) rfl ?_
    rintro v40 (hV40 : (Kd.int .i64).V _ ((mfind a1_s y23).getD 0) _)
    obtain rfl := int_form hV40
    refine WO_pure (.tuple #[(.int .i64 ((mfind a1_s y23).getD 0)), (.bool ((mfind a1_s y23).isSome))]) rfl l0 hM33 (fun _ => R_mv rfl) rfl (gN rfl) rfl ?_
    refine WO_pure (.int .i64 ((mfind a1_s y23).getD 0)) rfl l0 hM33 (fun _ => R_ext rfl rfl) rfl (gN rfl) rfl ?_
    refine WO_pure (.bool ((mfind a1_s y23).isSome)) rfl l0 hM33 (fun _ => R_ext rfl rfl) rfl (gN rfl) rfl ?_
    refine WO_pure (.int .i64 ((mfind a1_s y23).getD 0)) rfl l0 hM33 (fun _ => R_as rfl) rfl (gN rfl) rfl ?_
    refine WO_pure (.bool ((mfind a1_s y23).isSome)) rfl l0 hM33 (fun _ => R_as rfl) rfl (gN rfl) rfl ?_
    refine WO_nil ?_
    refine WP_seq ?_
    refine WP_region ?_
    refine WL_pure (.bool ((mfind a1_s y23).isSome)) (R_mv rfl) rfl rfl ?_
    refine WL_pure (.bool (!((mfind a1_s y23).isSome))) (R_not rfl) rfl rfl ?_
    refine WL_nil ?_
    obtain ⟨J42, h, hJ42⟩ := h
    refine WP_meet [32, 33, 34, 35, 36, 37, 38, 39, 40, 41] (fun l w => ∃ y42 K z1_1, J42 y42 ∧ l = [] ∧ Ext (fun c => mb (.map (some z1_1_23)) = some c ∨ c = a0_n_b) w33 K31 w K ∧ Models w K ∧ Mp kd_a32_u8 (Kd.int .i64) w K y42 (.map (some z1_1)) ∧ (∀ g, mb (.map (some z1_1)) = some g → mb (.map (some z1_1_23)) = some g ∨ w33.heap.size ≤ g) ∧ Bx kd_Sseal_notes w K a0_n_b a0_n_pre a0_n_post (a0_n_0v, (.map (some z1_1)))) ?_ ?_
    · skip
      refine WP_cond (!((mfind a1_s y23).isSome)) rfl (fun hc43 => ?_) (fun hc43 => ?_)
      · have hd43 : ¬ (((mfind a1_s y23).isSome) = true) := nbb_t hc43
        have h := h.1 hd43
        refine WP_ordD (K := K31) (fun c => mb (.map (some z1_1_23)) = some c ∨ w33.heap.size ≤ c) [.o 0 2, .o 1 2, .o 2 2, .o 3 2, .o 4 2, .o 5 2, .o 6 2, .o 7 2, .o 8 2, .o 9 2, .o 10 1] (by kernel_rfl) (by kernel_rfl) hM33 ?_
        rintro w44 hS44 hM44
        have hE44 := hE33.andN hS44
        refine WO_pure (.pointer (some ⟨a0_n_b, a0_n_pre.length, none⟩)) rfl l0 hM44 (fun _ => R_mv rfl) rfl (gN rfl) rfl ?_
        refine WO_pure (.pointer (some ⟨a0_n_b, a0_n_pre.length, none⟩)) rfl l0 hM44 (fun _ => R_nilck rfl) rfl (gN rfl) rfl ?_
        refine WO_pure (.pointer (some ⟨a0_n_b, a0_n_pre.length + 1, none⟩)) rfl l0 hM44 (fun _ => R_fa rfl Try.underlying41 rfl rfl ty39r rfl) rfl (gN rfl) rfl ?_
        have hR46 := (hR35.extN hS44)
        refine WO_L0 hM44 (S_ldB (Foc.snd Kd.rsl Kd.rmp) rfl ty39r hR46 (by first | rfl | simp | omega) (fun h => h)) rfl (gN rfl) rfl ?_
        rintro v45 (hV45 : Kd.rmp.V _ (.map (some z1_1_23)) _)
        obtain rfl := rw_form hV45
        have hR48 := (hR38.extN hS44)
        refine WO_L0 hM44 (S_ldB (Foc.id _) rfl ty31 hR48 (by first | rfl | simp | omega) (fun h => h)) rfl (gN rfl) rfl ?_
        rintro v47 (hV47 : kd_a32_u8.V _ a1_s _)
        refine WO_pure (.pointer (some ⟨a0_n_b, a0_n_pre.length, none⟩)) rfl l0 hM44 (fun _ => R_mv rfl) rfl (gN rfl) rfl ?_
        refine WO_pure (.pointer (some ⟨a0_n_b, a0_n_pre.length, none⟩)) rfl l0 hM44 (fun _ => R_nilck rfl) rfl (gN rfl) rfl ?_
        refine WO_pure (.pointer (some ⟨a0_n_b, a0_n_pre.length + 0, none⟩)) rfl l0 hM44 (fun _ => R_fa rfl Try.underlying41 rfl rfl ty38r rfl) rfl (gN rfl) rfl ?_
        refine WO_L0 hM44 (S_ldB (Foc.fst Kd.rsl Kd.rmp) rfl ty38r hR46 (by first | rfl | simp | omega) (fun h => h)) rfl (gN rfl) rfl ?_
        rintro v50 (hV50 : Kd.rsl.V _ a0_n_0v _)
        obtain rfl := rw_form hV50
        refine WO_pure (.int .i64 (a0_n_0.length : Int)) rfl l0 hM44 (fun _ => R_len rfl (hR10.V.mono (hS13.le.trans (hX31.le.trans (hS33.le.trans hS44.le)))) Try.underlying38) rfl (gN rfl) rfl ?_
        have hR52 := (hR41.extN hS44)
        refine WO_eff rfl (gN rfl) rfl (St_Mu (S_mst hM44 rfl rfl rfl hR52 hV47 (int_V (len_wf ((hR10).V).wf.1)) Try.underlying39 (keyOk_arr Try.underlying31 Try.underlying5 ty5b)) ?_)
        rintro w51 hO51 hS51 hM51
        have hS51 : Ext (fun c => mb (.map (some z1_1_23)) = some c) w44 K31 w51 K31 := hS51.weak (fun c _ hc => congrArg some hc.symm)
        refine ⟨K31, (hS51.weak (fun c hlt hx => (.inl (hx)))), hM51, ?_⟩
        have hE51 := hE44.comp hS51 (fun c hx hlt => hf32 c hx hlt)
        refine WO_nil ?_
        have hR53 := (hR46.ext hS51 (fun hx => (hR52.box hR46) hx))
        exact MeetQ.mk [] ⟨(mset a1_s (a0_n_0.length : Int) y23), K31, z1_1_23, h, rfl, (((Ext.refl _ _ _).andN hS44).comp hS51 (fun c hx hlt => (.inl (hx)))), hM51, hO51, (fun g hg => (.inl hg)), hR53⟩ (by repeat (first | exact Off.lay0 rfl | exact Off.refl _ _ | refine Off.updO ?_ rfl _ | refine Off.updN ?_ _ | refine Off.lay ?_ rfl)) (by repeat (first | exact trivial | refine ⟨rfl, ?_⟩))
      · have hd43 : ((mfind a1_s y23).isSome) = true := nbb_f hc43
        have h := h.2 hd43
        refine WP_skip ?_
        exact MeetQ.mk [] ⟨y23, K31, z1_1_23, h, rfl, (Ext.refl _ _ _), hM33, hR41, (fun g hg => (.inl hg)), hR35⟩ (by repeat (first | exact Off.lay0 rfl | exact Off.refl _ _ | refine Off.updO ?_ rfl _ | refine Off.updN ?_ _ | refine Off.lay ?_ rfl)) (by repeat (first | exact trivial | refine ⟨rfl, ?_⟩))
    rintro l σ42 w54 ⟨y42, K54, z1_1_42, hI, rfl, hX54, hM54, hL42_z1_1, ho42_z1_1, hL42_1⟩
    have h := hJ42 y42 hI
    have hE54 := hE33.comp hX54 (fun c hx hlt => Or.elim hx (fun hx => hf32 c hx hlt) (fun hx => (by subst hx; exact (fun _ => (.inl rfl)) hlt)))
    have hf55 : ∀ g, mb (.map (some z1_1_42)) = some g → g < w0.heap.size → g = a0_n_b ∨ ob a0_n_0v = some g ∨ mb a0_n_1v = some g := fun g hg hlt => (ho42_z1_1 g hg).elim (fun hx => hf32 g hx hlt) (fun hx => absurd hlt (Nat.not_lt.2 (Nat.le_trans hE33.size hx)))
    have hR56 := (hR10.extN hS13)
    have hR57 := ((hR56.ext hX31 (fun g hg hx => Or.elim hx (fun hx => (fun g hg => hR22.own hR56 g hg) g hg hx) (fun hx => (fun g hg hx => hR56.box hR20 (hg.trans (congrArg some hx))) g hg hx))).extN hS33)
    have hR58 := (hR57.ext hX54 (fun g hg hx => Or.elim hx (fun hx => (fun g hg => hR41.own hR57 g hg) g hg hx) (fun hx => (fun g hg hx => hR57.box hR35 (hg.trans (congrArg some hx))) g hg hx)))
    have hR59 := (hR38.ext hX54 (fun hx => Or.elim hx (fun hx => (hR41.box hR38) hx) (fun hx => (ne_new hge6 h_a0_n_B.lt) hx)))
    refine WP_ordD (K := K54) (fun c => c = a0_n_b ∨ ob a0_n_0v = some c ∨ w54.heap.size ≤ c) [.o 0 3, .o 1 2, .o 2 2, .o 3 2, .o 4 2, .o 5 2, .o 6 2, .o 7 0, .o 8 2, .o 9 0, .o 10 1, .o 11 3, .o 12 3, .o 13 1] (by kernel_rfl) (by kernel_rfl) hM54 ?_
    rintro w60 hS60 hM60
    have hE60 := hE54.andN hS60
    refine WO_pure (.pointer (some ⟨a0_n_b, a0_n_pre.length, none⟩)) rfl l3 hM60 (fun _ => R_mv rfl) rfl (gN rfl) rfl ?_
    refine WO_pure (.pointer (some ⟨a0_n_b, a0_n_pre.length, none⟩)) rfl l0 hM60 (fun _ => R_mv rfl) rfl (gN rfl) rfl ?_
    refine WO_pure (.pointer (some ⟨a0_n_b, a0_n_pre.length, none⟩)) rfl l0 hM60 (fun _ => R_nilck rfl) rfl (gN rfl) rfl ?_
    refine WO_pure (.pointer (some ⟨a0_n_b, a0_n_pre.length + 0, none⟩)) rfl l0 hM60 (fun _ => R_fa rfl Try.underlying41 rfl rfl ty38r rfl) rfl (gN rfl) rfl ?_
    have hR62 := (hL42_1.extN hS60)
    refine WO_L0 hM60 (S_ldB (Foc.fst Kd.rsl Kd.rmp) rfl ty38r hR62 (by first | rfl | simp | omega) (fun h => h)) rfl (gN rfl) rfl ?_
    rintro v61 (hV61 : Kd.rsl.V _ a0_n_0v _)
    obtain rfl := rw_form hV61
    have hR64 := (hR59.extN hS60)
    refine WO_L0 hM60 (S_ldB (Foc.id _) rfl ty31 hR64 (by first | rfl | simp | omega) (fun h => h)) rfl (gN rfl) rfl ?_
    rintro v63 (hV63 : kd_a32_u8.V _ a1_s _)
    refine WO_pure a2_b_v rfl l0 hM60 (fun _ => R_mv rfl) rfl (gN rfl) rfl ?_
    have hR66 := (hR58.extN hS60)
    have hR67 := (hL42_z1_1.extN hS60)
    obtain ⟨hp69, h⟩ := h
    refine WO_eff0 rfl (gN rfl) rfl (St_call (R_call Try.call59 rfl) ((Clone_c hM60 (h_a2_b.mono (hS6.le.trans (hS13.le.trans (hX31.le.trans (hS33.le.trans (hX54.le.trans hS60.le)))))) hp69).mono ?_))
    rintro _ w68 ⟨K68, v68_0, rfl, hS68, hM68, hO68_0, hg68_0⟩
    refine ⟨v68_0, rfl, ?_⟩
    refine ⟨K68, hS68, hM68, ?_⟩
    have hE68 := hE60.andN hS68
    have h := h hO68_0.wf
    refine WO_V rfl l0 hM68 (S_bld (K := K68) (vs := [(0, v63), (1, v68_0)]) (Z := (a1_s, a2_b)) ty80 rfl Try.underlying80 (fs80 Try.underlying80) rfl (Parts.cons rfl rfl ty31 (Foc.fst kd_a32_u8 kd_l_u8) (hV63.mono hS68.le) (Parts.cons rfl rfl ty55 (Foc.snd kd_a32_u8 kd_l_u8) hO68_0.V Parts.nil))) rfl (gN rfl) rfl ?_
    rintro v71 (hV71 : kd_Sseal_note.V _ (a1_s, a2_b) _)
    refine WO_eff0 rfl (gN rfl) rfl (St_S0 (S_bsl (k := kd_Sseal_note) (l := [((a1_s, a2_b), v71)]) hM68 rfl (by intro p hp; simp only [List.mem_cons, List.not_mem_nil, or_false] at hp; subst hp; exact hV71) rfl Try.underlying38 ty80 rfl rfl) ?_)
    rintro v73 w73 K73 (hO73 : Own kd_Sseal_note 80 w73 K73 [(a1_s, a2_b)] v73) hS73 hM73 hg73
    refine ⟨K73, hS73, hM73, ?_⟩
    have hE73 := hE68.andN hS73
    have hR75 := (hR66.extN hS68)
    have hR76 := ((hR66.extN hS68).extN hS73)
    obtain ⟨hp78, h⟩ := h
    refine WO_eff rfl (gN rfl) rfl (St_S (S_app hM73 rfl hR76 rfl hO73.V Try.underlying38 ty80 rfl hp78) ?_)
    rintro v77 w77 K77 hO77 hS77 hM77 hob77
    refine ⟨K77, (hS77.weak (fun c hlt hx => (.inr (.inl (hx))))), hM77, ?_⟩
    have hE77 := hE73.comp hS77 (fun c hx hlt => (fun g hg _ => (.inr (.inl hg))) c hx hlt)
    have hR79 := (hO73.ext hS77 (fun g hg hx => (fun g hg hx => absurd (hR75.lt _ hx) (Nat.not_lt.2 (hg73 g hg))) g hg hx))
    have hfx77 : ∀ g, ob v77 = some g → g < w0.heap.size → g = a0_n_b ∨ ob a0_n_0v = some g ∨ mb a0_n_1v = some g := fun g hg hlt => by rcases hob77 with hq | hq <;> rw [hq] at hg; exact (fun g hg _ => (.inr (.inl hg))) g hg hlt; cases hg; exact absurd hlt (Nat.not_lt.2 hE73.size)
    have hs81 : ∀ g, ob v77 = some g → ¬ (ob v73 = some g) := fun g hg hx => by rcases hob77 with hq | hq <;> rw [hq] at hg; exact (fun g hg hx => (fun g hg hx => absurd (hR75.lt _ hx) (Nat.not_lt.2 (hg73 g hg))) g hx hg) g hg hx; cases hg; exact absurd (hO73.lt _ hx) (Nat.not_lt.2 (Nat.le_refl _))
    refine WO_pure (.pointer (some ⟨a0_n_b, a0_n_pre.length, none⟩)) rfl l3 hM77 (fun _ => R_nilck rfl) rfl (gN rfl) rfl ?_
    refine WO_pure (.pointer (some ⟨a0_n_b, a0_n_pre.length + 0, none⟩)) rfl l3 hM77 (fun _ => R_fa rfl Try.underlying41 rfl rfl ty38r rfl) rfl (gN rfl) rfl ?_
    have hR83 := ((hR62.extN hS68).extN hS73)
    have hR84 := (hR83.ext hS77 (fun hx => (hR76.box hR83) hx))
    refine WO_eff rfl (gN rfl) rfl (St_St (S_stB (Foc.fst Kd.rsl Kd.rmp) hM77 rfl rfl (rw_V hO77.one) ty38r hR84 (by first | rfl | simp | omega)) ?_)
    rintro w82 (hB82 : Bx kd_Sseal_notes _ _ a0_n_b a0_n_pre a0_n_post (v77, (.map (some z1_1_42)))) hS82 hM82
    refine ⟨K77, (hS82.weak (fun c hlt hx => (.inl (hx)))), hM82, ?_⟩
    have hE82 := hE77.comp hS82 (fun c hx hlt => (by subst hx; exact (fun _ => (.inl rfl)) hlt))
    refine WO_nil ?_
    have hR85 := (hO77.ext hS82 (fun g hg hx => (fun g hg hx => hO77.box hR84 (hg.trans (congrArg some hx))) g hg hx))
    have hR86 := ((hR67.extN hS68).extN hS73)
    have hR87 := (hR86.ext hS77 (fun g hg hx => (fun g hg hx => hR86.own hR76 g hx hg) g hg hx))
    have hR88 := (hR87.ext hS82 (fun g hg hx => (fun g hg hx => hR87.box hR84 (hg.trans (congrArg some hx))) g hg hx))
    exact endR_nrm hR (v := (.tuple #[])) (resE_0 rfl) ⟨K77, v77, (.map (some z1_1_42)), (a0_n_0 ++ [(a1_s, a2_b)]), y42, rfl, h, hE82, hM82, hB82, hR85, (fun g hg => (by have hg : ob v77 = some g := hg; rcases hob77 with hq | hq <;> rw [hq] at hg; exact (.inl hg); cases hg; exact .inr hE73.size)), hR88, (fun g hg => ((ho42_z1_1 g hg).elim (fun hz => ((ho23_z1_1 g hz).elim (fun hz => (.inl hz)) (fun hz => .inr (Nat.le_trans hE13.size hz)))) (fun hz => .inr (Nat.le_trans hE33.size hz))))⟩
theorem add_c {w0 : World} {K0 : Ghost} {a0_n_b : Nat} {a0_n_pre a0_n_post : List Value} {a0_n_0v : Value} {a0_n_0 : (List ((List UInt8) × (List UInt8)))} {a0_n_1v : Value} {a0_n_1 : (List ((List UInt8) × Int))} {a1_s_v : Value} {a1_s : (List UInt8)} {a2_b_v : Value} {a2_b : (List UInt8)} (hM0 : Models w0 K0) (h_a0_n_B : Bx kd_Sseal_notes w0 K0 a0_n_b a0_n_pre a0_n_post (a0_n_0v, a0_n_1v)) (h_a0_n_0 : Own kd_Sseal_note 80 w0 K0 a0_n_0 a0_n_0v) (h_a0_n_1 : Mp kd_a32_u8 (Kd.int .i64) w0 K0 a0_n_1 a0_n_1v) (h_a1_s : kd_a32_u8.V K0 a1_s a1_s_v) (h_a2_b : kd_l_u8.V K0 a2_b a2_b_v) (hp : BookInv a0_n_0 a0_n_1 ∧ a2_b.length ≤ 140737488355328 ∧ (a0_n_0.length + 1) * 64 ≤ 140737488355328) : Calls Try.prog 60 #[(.pointer (some ⟨a0_n_b, a0_n_pre.length, none⟩)), a1_s_v, a2_b_v] w0 (fun e w' => ∃ (K' : Ghost) (u0_0 : Value) (u0_1 : Value), e = .returned (.tuple #[]) ∧ Ext (fun c => c = a0_n_b ∨ ob a0_n_0v = some c ∨ mb a0_n_1v = some c) w0 K0 w' K' ∧ Models w' K' ∧ Bx kd_Sseal_notes w' K' a0_n_b a0_n_pre a0_n_post (u0_0, u0_1) ∧ Own kd_Sseal_note 80 w' K' (addL a0_n_0 a1_s a2_b) u0_0 ∧ (∀ g, ob u0_0 = some g → ob a0_n_0v = some g ∨ w0.heap.size ≤ g) ∧ Mp kd_a32_u8 (Kd.int .i64) w' K' (addM a0_n_0 a0_n_1 a1_s a2_b) u0_1 ∧ (∀ g, mb u0_1 = some g → mb a0_n_1v = some g ∨ w0.heap.size ≤ g)) := by
  refine (add_walk hM0 h_a0_n_B h_a0_n_0 h_a0_n_1 h_a1_s h_a2_b (add_ok h_a1_s.wf h_a2_b.wf hp)).mono ?_
  rintro _ w' ⟨K', u0, u1, o0, o1, rfl, ⟨rfl, rfl⟩, hF⟩
  exact ⟨K', u0, u1, rfl, hF⟩
abbrev kd_Sseal_Book : Kd ((Value × Value) × Int) := (Kd.pr kd_Sseal_notes (Kd.int .i64))
def Calls_VC (a0_k_0_0 : (List ((List UInt8) × (List UInt8)))) (a0_k_0_1 : (List ((List UInt8) × Int))) (a0_k_1 : Int) (Q : Int → Prop) : Prop :=
  Q a0_k_1
theorem Calls_ok {a0_k_0_0 : (List ((List UInt8) × (List UInt8)))} {a0_k_0_1 : (List ((List UInt8) × Int))} {a0_k_1 : Int} : Calls_VC a0_k_0_0 a0_k_0_1 a0_k_1 (fun o0 => o0 = a0_k_1) := by
  exact rfl

theorem Calls_walk {w0 : World} {K0 : Ghost} {a0_k_b : Nat} {a0_k_pre a0_k_post : List Value} {a0_k_0_0v : Value} {a0_k_0_0 : (List ((List UInt8) × (List UInt8)))} {a0_k_0_1v : Value} {a0_k_0_1 : (List ((List UInt8) × Int))} {a0_k_1 : Int} {Q : Int → Prop} (hM0 : Models w0 K0) (h_a0_k_B : Bx kd_Sseal_Book w0 K0 a0_k_b a0_k_pre a0_k_post ((a0_k_0_0v, a0_k_0_1v), a0_k_1)) (h_a0_k_0_0 : Own kd_Sseal_note 80 w0 K0 a0_k_0_0 a0_k_0_0v) (h_a0_k_0_1 : Mp kd_a32_u8 (Kd.int .i64) w0 K0 a0_k_0_1 a0_k_0_1v) (h : Calls_VC a0_k_0_0 a0_k_0_1 a0_k_1 Q) : Calls Try.prog 28 #[(.pointer (some ⟨a0_k_b, a0_k_pre.length, none⟩))] w0 (fun e w' => ∃ (K' : Ghost) (r0 : Value) (o0 : Int), e = .returned r0 ∧ Q o0 ∧ Ext NX w0 K0 w' K' ∧ Models w' K' ∧ (Kd.int .i64).V K' o0 r0) := by
  unfold Calls_VC at h
  have hE0 : Ext NX w0 K0 w0 K0 := Ext.refl _ _ _
  refine calls_gen fun R hR => ?_
  refine calls_env (args := [(.pointer (some ⟨a0_k_b, a0_k_pre.length, none⟩))]) Try.func28 rfl (Nat.le_of_ble_eq_true rfl) ?_
  refine WP_seq ?_
  refine WP_region ?_
  refine WL_pure (.int .i64 0) (R_as rfl) rfl rfl ?_
  refine WL_nil ?_
  refine WP_seq ?_
  refine WP_seq ?_
  refine WP_region ?_
  refine WL_pure (.pointer (some ⟨a0_k_b, a0_k_pre.length, none⟩)) (R_mv rfl) rfl rfl ?_
  refine WL_pure (.bool false) (R_peq rfl rfl Try.underlying37) rfl rfl ?_
  refine WL_nil ?_
  refine WP_cond false rfl (fun hc => by cases hc) (fun _ => ?_)
  refine WP_skip ?_
  refine WP_seq ?_
  refine WP_region ?_
  refine WL_pure (.pointer (some ⟨a0_k_b, a0_k_pre.length, none⟩)) (R_mv rfl) rfl rfl ?_
  refine WL_pure (.pointer (some ⟨a0_k_b, a0_k_pre.length, none⟩)) (R_nilck rfl) rfl rfl ?_
  refine WL_pure (.pointer (some ⟨a0_k_b, a0_k_pre.length + 2, none⟩)) (R_fa rfl Try.underlying43 rfl rfl ty3 rfl) rfl rfl ?_
  refine WL_L hM0 (S_ldB (Foc.snd kd_Sseal_notes (Kd.int .i64)) rfl ty3 h_a0_k_B (by first | rfl | simp | omega) (fun h => h)) rfl rfl ?_
  rintro v4 (hV4 : (Kd.int .i64).V _ a0_k_1 _)
  obtain rfl := int_form hV4
  refine WL_pure (.int .i64 a0_k_1) (R_as rfl) rfl rfl ?_
  refine WL_nil ?_
  refine WP_ret ?_
  exact endR_ret hR (v := (.int .i64 a0_k_1)) (resE_1 rfl rfl) ⟨K0, (.int .i64 a0_k_1), a0_k_1, rfl, h, hE0, hM0, (int_V (hV4).wf)⟩
theorem Calls_c {w0 : World} {K0 : Ghost} {a0_k_b : Nat} {a0_k_pre a0_k_post : List Value} {a0_k_0_0v : Value} {a0_k_0_0 : (List ((List UInt8) × (List UInt8)))} {a0_k_0_1v : Value} {a0_k_0_1 : (List ((List UInt8) × Int))} {a0_k_1 : Int} (hM0 : Models w0 K0) (h_a0_k_B : Bx kd_Sseal_Book w0 K0 a0_k_b a0_k_pre a0_k_post ((a0_k_0_0v, a0_k_0_1v), a0_k_1)) (h_a0_k_0_0 : Own kd_Sseal_note 80 w0 K0 a0_k_0_0 a0_k_0_0v) (h_a0_k_0_1 : Mp kd_a32_u8 (Kd.int .i64) w0 K0 a0_k_0_1 a0_k_0_1v) : Calls Try.prog 28 #[(.pointer (some ⟨a0_k_b, a0_k_pre.length, none⟩))] w0 (fun e w' => ∃ (K' : Ghost) (r0 : Value), e = .returned r0 ∧ Ext NX w0 K0 w' K' ∧ Models w' K' ∧ (Kd.int .i64).V K' a0_k_1 r0) := by
  refine (Calls_walk hM0 h_a0_k_B h_a0_k_0_0 h_a0_k_0_1 (Calls_ok)).mono ?_
  rintro _ w' ⟨K', r0, o0, rfl, rfl, hF⟩
  exact ⟨K', r0, rfl, hF⟩
abbrev BookR := BookE 80
theorem ty41 : TyOk Try.prog 41 kd_Sseal_notes 32 := ⟨⟨Try.t41, _, Try.type41, rfl, rfl, rfl, rfl, rfl⟩, ⟨_, Try.underlying41, rfl⟩⟩
def OfB_VC (a0_k_0_0 : (List ((List UInt8) × (List UInt8)))) (a0_k_0_1 : (List ((List UInt8) × Int))) (a0_k_1 : Int) (a1_kind : Int) (a2_parts : (List (List UInt8))) (Q : (List UInt8) → (List ((List UInt8) × (List UInt8))) → (List ((List UInt8) × Int)) → Int → Prop) : Prop :=
  (1 + blobRoom a2_parts ≤ 140737488355328) ∧ ((kd_l_u8.wf (preimage a1_kind a2_parts)) → (((1 + [(preimage a1_kind a2_parts)].length) * 24 ≤ 140737488355328 ∧ [(preimage a1_kind a2_parts)].flatten.length ≤ 140737488355328) ∧ ((kd_a32_u8.wf (sha256 [(preimage a1_kind a2_parts)])) → ((BookInv a0_k_0_0 a0_k_0_1 ∧ (preimage a1_kind a2_parts).length ≤ 140737488355328 ∧ (a0_k_0_0.length + 1) * 64 ≤ 140737488355328) ∧ (Q (sha256 [(preimage a1_kind a2_parts)]) (addL a0_k_0_0 (sha256 [(preimage a1_kind a2_parts)]) (preimage a1_kind a2_parts)) (addM a0_k_0_0 a0_k_0_1 (sha256 [(preimage a1_kind a2_parts)]) (preimage a1_kind a2_parts)) (IntKind.i64.wrap (a0_k_1 + 1)))))))
theorem OfB_ok {a0_k_0_0 : (List ((List UInt8) × (List UInt8)))} {a0_k_0_1 : (List ((List UInt8) × Int))} {a0_k_1 : Int} {a1_kind : Int} {a2_parts : (List (List UInt8))} (w_0 : (Kd.int .i64).wf a1_kind) (w_1 : kd_l_l_u8.wf a2_parts) (hp : BookInv a0_k_0_0 a0_k_0_1 ∧ 1 + blobRoom a2_parts ≤ 140737488355328 ∧ (a0_k_0_0.length + 1) * 64 ≤ 140737488355328) : OfB_VC a0_k_0_0 a0_k_0_1 a0_k_1 a1_kind a2_parts (fun o0 o1 o2 o3 => o0 = (sealOf a1_kind a2_parts) ∧ o1 = (addL a0_k_0_0 (sealOf a1_kind a2_parts) (preimage a1_kind a2_parts)) ∧ o2 = (addM a0_k_0_0 a0_k_0_1 (sealOf a1_kind a2_parts) (preimage a1_kind a2_parts)) ∧ o3 = (IntKind.i64.wrap (a0_k_1 + 1))) := by
  obtain ⟨h1, h2, h3⟩ := hp
  have hl := preimage_len a1_kind h2
  unfold OfB_VC
  exact ⟨h2, fun _ => ⟨⟨by simp, by simpa using by omega⟩, fun _ => ⟨⟨h1, by omega, h3⟩, rfl, rfl, rfl, rfl⟩⟩⟩

theorem OfB_walk {w0 : World} {K0 : Ghost} {a0_k_b : Nat} {a0_k_pre a0_k_post : List Value} {a0_k_0_0v : Value} {a0_k_0_0 : (List ((List UInt8) × (List UInt8)))} {a0_k_0_1v : Value} {a0_k_0_1 : (List ((List UInt8) × Int))} {a0_k_1 : Int} {a1_kind_v : Value} {a1_kind : Int} {a2_parts_v : Value} {a2_parts : (List (List UInt8))} {Q : (List UInt8) → (List ((List UInt8) × (List UInt8))) → (List ((List UInt8) × Int)) → Int → Prop} (hM0 : Models w0 K0) (h_a0_k_B : Bx kd_Sseal_Book w0 K0 a0_k_b a0_k_pre a0_k_post ((a0_k_0_0v, a0_k_0_1v), a0_k_1)) (h_a0_k_0_0 : Own kd_Sseal_note 80 w0 K0 a0_k_0_0 a0_k_0_0v) (h_a0_k_0_1 : Mp kd_a32_u8 (Kd.int .i64) w0 K0 a0_k_0_1 a0_k_0_1v) (h_a1_kind : (Kd.int .i64).V K0 a1_kind a1_kind_v) (h_a2_parts : kd_l_l_u8.V K0 a2_parts a2_parts_v) (h : OfB_VC a0_k_0_0 a0_k_0_1 a0_k_1 a1_kind a2_parts Q) : Calls Try.prog 63 #[(.pointer (some ⟨a0_k_b, a0_k_pre.length, none⟩)), a1_kind_v, a2_parts_v] w0 (fun e w' => ∃ (K' : Ghost) (r0 : Value) (u0_0_0 : Value) (u0_0_1 : Value) (o0 : (List UInt8)) (o1 : (List ((List UInt8) × (List UInt8)))) (o2 : (List ((List UInt8) × Int))) (o3 : Int), e = .returned r0 ∧ Q o0 o1 o2 o3 ∧ Ext (fun c => c = a0_k_b ∨ ob a0_k_0_0v = some c ∨ mb a0_k_0_1v = some c) w0 K0 w' K' ∧ Models w' K' ∧ kd_a32_u8.V K' o0 r0 ∧ Bx kd_Sseal_Book w' K' a0_k_b a0_k_pre a0_k_post ((u0_0_0, u0_0_1), o3) ∧ Own kd_Sseal_note 80 w' K' o1 u0_0_0 ∧ (∀ g, ob u0_0_0 = some g → ob a0_k_0_0v = some g ∨ w0.heap.size ≤ g) ∧ Mp kd_a32_u8 (Kd.int .i64) w' K' o2 u0_0_1 ∧ (∀ g, mb u0_0_1 = some g → mb a0_k_0_1v = some g ∨ w0.heap.size ≤ g)) := by
  unfold OfB_VC at h
  obtain rfl := int_form h_a1_kind
  have hE0 : Ext (fun c => c = a0_k_b ∨ ob a0_k_0_0v = some c ∨ mb a0_k_0_1v = some c) w0 K0 w0 K0 := Ext.refl _ _ _
  refine calls_gen fun R hR => ?_
  refine calls_env (args := [(.pointer (some ⟨a0_k_b, a0_k_pre.length, none⟩)), (.int .i64 a1_kind), a2_parts_v]) Try.func63 rfl (Nat.le_of_ble_eq_true rfl) ?_
  refine WP_seq ?_
  refine WP_region ?_
  refine WL_eff rfl rfl (St_B (S_alloc hM0 ty31) ?_)
  rintro b5 w5 (hB5 : Bx kd_a32_u8 _ _ _ _ _ (List.replicate 32 0)) hS5 hM5 hge5
  have hE5 := hE0.andN hS5
  refine WL_nil ?_
  refine WP_seq ?_
  refine WP_region ?_
  refine WL_pure (.int .i64 a1_kind) (R_mv rfl) rfl rfl ?_
  refine WL_pure a2_parts_v (R_mv rfl) rfl rfl ?_
  have hR7 := (h_a0_k_0_0.extN hS5)
  have hR8 := (h_a0_k_0_1.extN hS5)
  have hR9 := (h_a0_k_B.extN hS5)
  obtain ⟨hp11, h⟩ := h
  refine WL_eff rfl rfl (St_call (R_call Try.call67 rfl) ((Preimage_c hM5 (int_V (h_a1_kind).wf) (h_a2_parts.mono hS5.le) hp11).mono ?_))
  rintro _ w10 ⟨K10, v10_0, rfl, hS10, hM10, hO10_0, hg10_0⟩
  refine ⟨v10_0, rfl, ?_⟩
  have hE10 := hE5.andN hS10
  have h := h hO10_0.wf
  refine WL_pure v10_0 (R_as rfl) rfl rfl ?_
  refine WL_nil ?_
  refine WP_seq ?_
  refine WP_region ?_
  refine WL_pure v10_0 (R_mv rfl) rfl rfl ?_
  refine WL_eff rfl rfl (St_S0 (S_bsl (k := kd_l_u8) (l := [((preimage a1_kind a2_parts), v10_0)]) hM10 rfl (by intro p hp; simp only [List.mem_cons, List.not_mem_nil, or_false] at hp; subst hp; exact hO10_0.V) rfl Try.underlying87 ty55 rfl rfl) ?_)
  rintro v13 w13 K13 (hO13 : Own kd_l_u8 55 w13 K13 [(preimage a1_kind a2_parts)] v13) hS13 hM13 hg13
  have hE13 := hE10.andN hS13
  obtain ⟨hp16, h⟩ := h
  refine WL_eff rfl rfl (St_call (R_call Try.call68 rfl) ((ShaSum_c hM13 hO13.V hp16).mono ?_))
  rintro _ w15 ⟨K15, v15_0, rfl, hS15, hM15, hV15_0⟩
  refine ⟨v15_0, rfl, ?_⟩
  have hE15 := hE13.andN hS15
  have h := h hV15_0.wf
  refine WL_eff rfl rfl (St_B (S_alloc hM15 ty31) ?_)
  rintro b18 w18 (hB18 : Bx kd_a32_u8 _ _ _ _ _ (List.replicate 32 0)) hS18 hM18 hge18
  have hE18 := hE15.andN hS18
  have hR20 := (((hR9.extN hS10).extN hS13).extN hS15)
  have hR21 := (((hB5.extN hS10).extN hS13).extN hS15)
  refine WL_eff rfl rfl (St_St (S_stB (Foc.id _) hM18 rfl rfl (hV15_0.mono hS18.le) ty31 hB18 (by first | rfl | simp | omega)) ?_)
  rintro w22 (hB22 : Bx kd_a32_u8 _ _ b18 [] [] (sha256 [(preimage a1_kind a2_parts)])) hS22 hM22
  have hE22 := hE18.comp hS22 (fun c hx hlt => (by subst hx; exact (fun hlt => absurd hlt (Nat.not_lt.2 (Nat.le_trans hE15.size hge18))) hlt))
  refine WL_nil ?_
  refine WP_seq ?_
  refine WP_seq ?_
  refine WP_region ?_
  refine WL_pure (.pointer (some ⟨a0_k_b, a0_k_pre.length, none⟩)) (R_mv rfl) rfl rfl ?_
  refine WL_pure (.bool true) (R_pne rfl rfl Try.underlying37) rfl rfl ?_
  refine WL_nil ?_
  refine WP_cond true rfl (fun _ => ?_) (fun hc => by cases hc)
  refine WP_seq ?_
  refine WP_region ?_
  refine WL_pure (.pointer (some ⟨a0_k_b, a0_k_pre.length, none⟩)) (R_mv rfl) rfl rfl ?_
  refine WL_pure (.pointer (some ⟨a0_k_b, a0_k_pre.length, none⟩)) (R_nilck rfl) rfl rfl ?_
  refine WL_pure (.pointer (some ⟨a0_k_b, a0_k_pre.length + 2, none⟩)) (R_fa rfl Try.underlying43 rfl rfl ty3 rfl) rfl rfl ?_
  have hR24 := ((((hR9.extN hS10).extN hS13).extN hS15).extN hS18)
  have hR25 := (hR24.ext hS22 (fun hx => (fun he => (ne_new hge18 hR20.lt) he.symm) hx))
  refine WL_L hM22 (S_ldB (Foc.snd kd_Sseal_notes (Kd.int .i64)) rfl ty3 hR25 (by first | rfl | simp | omega) (fun h => h)) rfl rfl ?_
  rintro v23 (hV23 : (Kd.int .i64).V _ a0_k_1 _)
  obtain rfl := int_form hV23
  refine WL_pure (.int .i64 (IntKind.i64.wrap (a0_k_1 + 1))) (R_add rfl rfl) rfl rfl ?_
  refine WL_pure (.pointer (some ⟨a0_k_b, a0_k_pre.length, none⟩)) (R_nilck rfl) rfl rfl ?_
  refine WL_pure (.pointer (some ⟨a0_k_b, a0_k_pre.length + 2, none⟩)) (R_fa rfl Try.underlying43 rfl rfl ty3 rfl) rfl rfl ?_
  refine WL_eff rfl rfl (St_St (S_stB (Foc.snd kd_Sseal_notes (Kd.int .i64)) hM22 rfl rfl (int_V (wrap_wf _ _)) ty3 hR25 (by first | rfl | simp | omega)) ?_)
  rintro w26 (hB26 : Bx kd_Sseal_Book _ _ a0_k_b a0_k_pre a0_k_post ((a0_k_0_0v, a0_k_0_1v), (IntKind.i64.wrap (a0_k_1 + 1)))) hS26 hM26
  have hE26 := hE22.comp hS26 (fun c hx hlt => (by subst hx; exact (fun _ => (.inl rfl)) hlt))
  refine WL_nil ?_
  have hR27 := (hB22.ext hS26 (fun hx => (ne_new hge18 hR20.lt) hx))
  have hR28 := ((((hR7.extN hS10).extN hS13).extN hS15).extN hS18)
  have hR29 := (hR28.ext hS22 (fun g hg hx => (fun g hg hx => hR28.box hB18 (hg.trans (congrArg some hx))) g hg hx))
  have hR30 := (hR29.ext hS26 (fun g hg hx => (fun g hg hx => hR29.box hR25 (hg.trans (congrArg some hx))) g hg hx))
  have hR31 := ((((hR8.extN hS10).extN hS13).extN hS15).extN hS18)
  have hR32 := (hR31.ext hS22 (fun g hg hx => (fun g hg hx => hR31.box hB18 (hg.trans (congrArg some hx))) g hg hx))
  have hR33 := (hR32.ext hS26 (fun g hg hx => (fun g hg hx => hR32.box hR25 (hg.trans (congrArg some hx))) g hg hx))
  refine WP_ordD (K := K15) (fun c => c = a0_k_b ∨ ob a0_k_0_0v = some c ∨ mb a0_k_0_1v = some c ∨ w26.heap.size ≤ c) [.o 0 2, .o 1 2, .o 2 2, .o 3 2, .o 4 2, .o 5 1] (by kernel_rfl) (by kernel_rfl) hM26 ?_
  rintro w34 hS34 hM34
  have hE34 := hE26.andN hS34
  refine WO_pure (.pointer (some ⟨a0_k_b, a0_k_pre.length, none⟩)) rfl l0 hM34 (fun _ => R_mv rfl) rfl (gN rfl) rfl ?_
  refine WO_pure (.pointer (some ⟨a0_k_b, a0_k_pre.length, none⟩)) rfl l0 hM34 (fun _ => R_nilck rfl) rfl (gN rfl) rfl ?_
  refine WO_pure (.pointer (some ⟨a0_k_b, a0_k_pre.length + 0, none⟩)) rfl l0 hM34 (fun _ => R_fa rfl Try.underlying43 rfl rfl ty41 rfl) rfl (gN rfl) rfl ?_
  have hR36 := (hR27.extN hS34)
  refine WO_L0 hM34 (S_ldB (Foc.id _) rfl ty31 hR36 (by first | rfl | simp | omega) (fun h => h)) rfl (gN rfl) rfl ?_
  rintro v35 (hV35 : kd_a32_u8.V _ (sha256 [(preimage a1_kind a2_parts)]) _)
  refine WO_pure v10_0 rfl l0 hM34 (fun _ => R_mv rfl) rfl (gN rfl) rfl ?_
  have hR38 := (hR30.extN hS34)
  have hR39 := (hR33.extN hS34)
  have hR40 := (hB26.extN hS34)
  have hR41 := ((((hB5.extN hS10).extN hS13).extN hS15).extN hS18)
  have hR42 := (hR41.ext hS22 (fun hx => (fun he => (ne_new hge18 hR21.lt) he.symm) hx))
  have hR43 := ((hR42.ext hS26 (fun hx => (ne_new hge5 h_a0_k_B.lt) hx)).extN hS34)
  have hR44 := (((hO10_0.extN hS13).extN hS15).extN hS18)
  have hR45 := (hR44.ext hS22 (fun g hg hx => (fun g hg hx => hR44.box hB18 (hg.trans (congrArg some hx))) g hg hx))
  have hR46 := ((hR45.ext hS26 (fun g hg hx => (fun g hg hx => hR45.box hR25 (hg.trans (congrArg some hx))) g hg hx)).extN hS34)
  have hR47 := ((hO13.extN hS15).extN hS18)
  have hR48 := (hR47.ext hS22 (fun g hg hx => (fun g hg hx => hR47.box hB18 (hg.trans (congrArg some hx))) g hg hx))
  have hR49 := ((hR48.ext hS26 (fun g hg hx => (fun g hg hx => hR48.box hR25 (hg.trans (congrArg some hx))) g hg hx)).extN hS34)
  obtain ⟨p51, q51, hl51, hB51, hback51⟩ := Bx.sub (Foc.fst kd_Sseal_notes (Kd.int .i64)) hR40
  obtain ⟨hp52, h⟩ := h
  refine WO_eff rfl (gN rfl) rfl (St_call (R_call Try.call60 (mapC (show (Value.pointer (some ⟨a0_k_b, a0_k_pre.length + 0, none⟩)) = .pointer (some ⟨a0_k_b, ((a0_k_pre : List Value) ++ p51).length, none⟩) from by rw [List.length_append, hl51]; first | done | simp) (mapC rfl (mapC rfl mapN)))) ((add_c hM34 hB51 hR38 hR39 hV35 hR46.V hp52).mono ?_))
  rintro _ w50 ⟨K50, u50_0_0, u50_0_1, rfl, hS50, hM50, hB50_m0, hu50_0_0, hxu50_0_0, hu50_0_1, hxu50_0_1⟩
  refine ⟨(.tuple #[]), rfl, ?_⟩
  refine ⟨K50, (hS50.weak (fun c hlt hx => Or.elim hx (fun hx => (.inl (hx))) (fun hx => Or.elim hx (fun hx => (.inr (.inl (hx)))) (fun hx => (.inr (.inr (.inl (hx)))))))), hM50, ?_⟩
  have hE50 := hE34.comp hS50 (fun c hx hlt => Or.elim hx (fun hx => (by subst hx; exact (fun _ => (.inl rfl)) hlt)) (fun hx => Or.elim hx (fun hx => (fun g hg _ => (.inr (.inl hg))) c hx hlt) (fun hx => (fun g hg _ => (.inr (.inr (hg)))) c hx hlt)))
  have hf53 : ∀ g, ob u50_0_0 = some g → g < w0.heap.size → g = a0_k_b ∨ ob a0_k_0_0v = some g ∨ mb a0_k_0_1v = some g := fun g hg hlt => (hxu50_0_0 g hg).elim (fun hx => (fun g hg _ => (.inr (.inl hg))) g hx hlt) (fun hx => absurd hlt (Nat.not_lt.2 (Nat.le_trans hE34.size hx)))
  have hf54 : ∀ g, mb u50_0_1 = some g → g < w0.heap.size → g = a0_k_b ∨ ob a0_k_0_0v = some g ∨ mb a0_k_0_1v = some g := fun g hg hlt => (hxu50_0_1 g hg).elim (fun hx => (fun g hg _ => (.inr (.inr (hg)))) g hx hlt) (fun hx => absurd hlt (Nat.not_lt.2 (Nat.le_trans hE34.size hx)))
  have hB50_w : Bx kd_Sseal_Book w50 K50 a0_k_b a0_k_pre a0_k_post ((u50_0_0, u50_0_1), (IntKind.i64.wrap (a0_k_1 + 1))) := hback51 hS50.le hB50_m0
  refine WO_nil ?_
  refine WP_seq ?_
  refine WP_region ?_
  have hR56 := (hR36.ext hS50 (fun hx => Or.elim hx (fun hx => (ne_new hge18 hR20.lt) hx) (fun hx => Or.elim hx (fun hx => (hR38.box hR36) hx) (fun hx => (hR39.box hR36) hx))))
  refine WL_L hM50 (S_ldB (Foc.id _) rfl ty31 hR56 (by first | rfl | simp | omega) (fun h => h)) rfl rfl ?_
  rintro v55 (hV55 : kd_a32_u8.V _ (sha256 [(preimage a1_kind a2_parts)]) _)
  have hR59 := (hR43.ext hS50 (fun hx => Or.elim hx (fun hx => (ne_new hge5 h_a0_k_B.lt) hx) (fun hx => Or.elim hx (fun hx => (hR38.box hR43) hx) (fun hx => (hR39.box hR43) hx))))
  refine WL_eff rfl rfl (St_St (S_stB (Foc.id _) hM50 rfl rfl hV55 ty31 hR59 (by first | rfl | simp | omega)) ?_)
  rintro w58 (hB58 : Bx kd_a32_u8 _ _ b5 [] [] (sha256 [(preimage a1_kind a2_parts)])) hS58 hM58
  have hE58 := hE50.comp hS58 (fun c hx hlt => (by subst hx; exact (fun hlt => absurd hlt (Nat.not_lt.2 (Nat.le_trans hE0.size hge5))) hlt))
  refine WL_nil ?_
  refine WP_ret ?_
  refine endS_ret hR (resE_B rfl rfl ty31 hB58) ?_
  rintro v60 hV60
  have hR61 := (hu50_0_0.ext hS58 (fun g hg hx => (fun g hg hx => hu50_0_0.box hR59 (hg.trans (congrArg some hx))) g hg hx))
  have hR62 := (hu50_0_1.ext hS58 (fun g hg hx => (fun g hg hx => hu50_0_1.box hR59 (hg.trans (congrArg some hx))) g hg hx))
  have hR63 := (hB50_w.ext hS58 (fun hx => (fun he => (ne_new hge5 h_a0_k_B.lt) he.symm) hx))
  exact ⟨K50, v60, u50_0_0, u50_0_1, (sha256 [(preimage a1_kind a2_parts)]), (addL a0_k_0_0 (sha256 [(preimage a1_kind a2_parts)]) (preimage a1_kind a2_parts)), (addM a0_k_0_0 a0_k_0_1 (sha256 [(preimage a1_kind a2_parts)]) (preimage a1_kind a2_parts)), (IntKind.i64.wrap (a0_k_1 + 1)), rfl, h, hE58, hM58, hV60, hR63, hR61, (fun g hg => ((hxu50_0_0 g hg).elim (fun hz => (.inl hz)) (fun hz => .inr (Nat.le_trans hE34.size hz)))), hR62, (fun g hg => ((hxu50_0_1 g hg).elim (fun hz => (.inl hz)) (fun hz => .inr (Nat.le_trans hE34.size hz))))⟩
theorem OfB_c {w0 : World} {K0 : Ghost} {a0_k_b : Nat} {a0_k_pre a0_k_post : List Value} {a0_k_0_0v : Value} {a0_k_0_0 : (List ((List UInt8) × (List UInt8)))} {a0_k_0_1v : Value} {a0_k_0_1 : (List ((List UInt8) × Int))} {a0_k_1 : Int} {a1_kind_v : Value} {a1_kind : Int} {a2_parts_v : Value} {a2_parts : (List (List UInt8))} (hM0 : Models w0 K0) (h_a0_k_B : Bx kd_Sseal_Book w0 K0 a0_k_b a0_k_pre a0_k_post ((a0_k_0_0v, a0_k_0_1v), a0_k_1)) (h_a0_k_0_0 : Own kd_Sseal_note 80 w0 K0 a0_k_0_0 a0_k_0_0v) (h_a0_k_0_1 : Mp kd_a32_u8 (Kd.int .i64) w0 K0 a0_k_0_1 a0_k_0_1v) (h_a1_kind : (Kd.int .i64).V K0 a1_kind a1_kind_v) (h_a2_parts : kd_l_l_u8.V K0 a2_parts a2_parts_v) (hp : BookInv a0_k_0_0 a0_k_0_1 ∧ 1 + blobRoom a2_parts ≤ 140737488355328 ∧ (a0_k_0_0.length + 1) * 64 ≤ 140737488355328) : Calls Try.prog 63 #[(.pointer (some ⟨a0_k_b, a0_k_pre.length, none⟩)), a1_kind_v, a2_parts_v] w0 (fun e w' => ∃ (K' : Ghost) (r0 : Value) (u0_0_0 : Value) (u0_0_1 : Value), e = .returned r0 ∧ Ext (fun c => c = a0_k_b ∨ ob a0_k_0_0v = some c ∨ mb a0_k_0_1v = some c) w0 K0 w' K' ∧ Models w' K' ∧ kd_a32_u8.V K' (sealOf a1_kind a2_parts) r0 ∧ Bx kd_Sseal_Book w' K' a0_k_b a0_k_pre a0_k_post ((u0_0_0, u0_0_1), (IntKind.i64.wrap (a0_k_1 + 1))) ∧ Own kd_Sseal_note 80 w' K' (addL a0_k_0_0 (sealOf a1_kind a2_parts) (preimage a1_kind a2_parts)) u0_0_0 ∧ (∀ g, ob u0_0_0 = some g → ob a0_k_0_0v = some g ∨ w0.heap.size ≤ g) ∧ Mp kd_a32_u8 (Kd.int .i64) w' K' (addM a0_k_0_0 a0_k_0_1 (sealOf a1_kind a2_parts) (preimage a1_kind a2_parts)) u0_0_1 ∧ (∀ g, mb u0_0_1 = some g → mb a0_k_0_1v = some g ∨ w0.heap.size ≤ g)) := by
  refine (OfB_walk hM0 h_a0_k_B h_a0_k_0_0 h_a0_k_0_1 h_a1_kind h_a2_parts (OfB_ok h_a1_kind.wf h_a2_parts.wf hp)).mono ?_
  rintro _ w' ⟨K', r0, u0, u1, o0, o1, o2, o3, rfl, ⟨rfl, rfl, rfl, rfl⟩, hF⟩
  exact ⟨K', r0, u0, u1, rfl, hF⟩
def OfN_VC (a1_kind : Int) (a2_parts : (List (List UInt8))) (Q : (List UInt8) → Prop) : Prop :=
  (1 + blobRoom a2_parts ≤ 140737488355328) ∧ ((kd_l_u8.wf (preimage a1_kind a2_parts)) → (((1 + [(preimage a1_kind a2_parts)].length) * 24 ≤ 140737488355328 ∧ [(preimage a1_kind a2_parts)].flatten.length ≤ 140737488355328) ∧ ((kd_a32_u8.wf (sha256 [(preimage a1_kind a2_parts)])) → (Q (sha256 [(preimage a1_kind a2_parts)])))))
theorem OfN_ok {a1_kind : Int} {a2_parts : (List (List UInt8))} (w_0 : (Kd.int .i64).wf a1_kind) (w_1 : kd_l_l_u8.wf a2_parts) (hp : 1 + blobRoom a2_parts ≤ 140737488355328) : OfN_VC a1_kind a2_parts (fun o0 => o0 = (sealOf a1_kind a2_parts)) := by
  have hl := preimage_len a1_kind hp
  unfold OfN_VC
  exact ⟨hp, fun _ => ⟨⟨by simp, by simpa using by omega⟩, fun _ => rfl⟩⟩

theorem OfN_walk {w0 : World} {K0 : Ghost} {a1_kind_v : Value} {a1_kind : Int} {a2_parts_v : Value} {a2_parts : (List (List UInt8))} {Q : (List UInt8) → Prop} (hM0 : Models w0 K0) (h_a1_kind : (Kd.int .i64).V K0 a1_kind a1_kind_v) (h_a2_parts : kd_l_l_u8.V K0 a2_parts a2_parts_v) (h : OfN_VC a1_kind a2_parts Q) : Calls Try.prog 63 #[(.pointer none), a1_kind_v, a2_parts_v] w0 (fun e w' => ∃ (K' : Ghost) (r0 : Value) (o0 : (List UInt8)), e = .returned r0 ∧ Q o0 ∧ Ext NX w0 K0 w' K' ∧ Models w' K' ∧ kd_a32_u8.V K' o0 r0) := by
  unfold OfN_VC at h
  obtain rfl := int_form h_a1_kind
  have hE0 : Ext NX w0 K0 w0 K0 := Ext.refl _ _ _
  refine calls_gen fun R hR => ?_
  refine calls_env (args := [(.pointer none), (.int .i64 a1_kind), a2_parts_v]) Try.func63 rfl (Nat.le_of_ble_eq_true rfl) ?_
  refine WP_seq ?_
  refine WP_region ?_
  refine WL_eff rfl rfl (St_B (S_alloc hM0 ty31) ?_)
  rintro b2 w2 (hB2 : Bx kd_a32_u8 _ _ _ _ _ (List.replicate 32 0)) hS2 hM2 hge2
  have hE2 := hE0.andN hS2
  refine WL_nil ?_
  refine WP_seq ?_
  refine WP_region ?_
  refine WL_pure (.int .i64 a1_kind) (R_mv rfl) rfl rfl ?_
  refine WL_pure a2_parts_v (R_mv rfl) rfl rfl ?_
  obtain ⟨hp5, h⟩ := h
  refine WL_eff rfl rfl (St_call (R_call Try.call67 rfl) ((Preimage_c hM2 (int_V (h_a1_kind).wf) (h_a2_parts.mono hS2.le) hp5).mono ?_))
  rintro _ w4 ⟨K4, v4_0, rfl, hS4, hM4, hO4_0, hg4_0⟩
  refine ⟨v4_0, rfl, ?_⟩
  have hE4 := hE2.andN hS4
  have h := h hO4_0.wf
  refine WL_pure v4_0 (R_as rfl) rfl rfl ?_
  refine WL_nil ?_
  refine WP_seq ?_
  refine WP_region ?_
  refine WL_pure v4_0 (R_mv rfl) rfl rfl ?_
  refine WL_eff rfl rfl (St_S0 (S_bsl (k := kd_l_u8) (l := [((preimage a1_kind a2_parts), v4_0)]) hM4 rfl (by intro p hp; simp only [List.mem_cons, List.not_mem_nil, or_false] at hp; subst hp; exact hO4_0.V) rfl Try.underlying87 ty55 rfl rfl) ?_)
  rintro v7 w7 K7 (hO7 : Own kd_l_u8 55 w7 K7 [(preimage a1_kind a2_parts)] v7) hS7 hM7 hg7
  have hE7 := hE4.andN hS7
  obtain ⟨hp10, h⟩ := h
  refine WL_eff rfl rfl (St_call (R_call Try.call68 rfl) ((ShaSum_c hM7 hO7.V hp10).mono ?_))
  rintro _ w9 ⟨K9, v9_0, rfl, hS9, hM9, hV9_0⟩
  refine ⟨v9_0, rfl, ?_⟩
  have hE9 := hE7.andN hS9
  have h := h hV9_0.wf
  refine WL_eff rfl rfl (St_B (S_alloc hM9 ty31) ?_)
  rintro b12 w12 (hB12 : Bx kd_a32_u8 _ _ _ _ _ (List.replicate 32 0)) hS12 hM12 hge12
  have hE12 := hE9.andN hS12
  have hR14 := (((hB2.extN hS4).extN hS7).extN hS9)
  refine WL_eff rfl rfl (St_St (S_stB (Foc.id _) hM12 rfl rfl (hV9_0.mono hS12.le) ty31 hB12 (by first | rfl | simp | omega)) ?_)
  rintro w15 (hB15 : Bx kd_a32_u8 _ _ b12 [] [] (sha256 [(preimage a1_kind a2_parts)])) hS15 hM15
  have hE15 := hE12.comp hS15 (fun c hx hlt => (by subst hx; exact (fun hlt => absurd hlt (Nat.not_lt.2 (Nat.le_trans hE9.size hge12))) hlt))
  refine WL_nil ?_
  refine WP_seq ?_
  refine WP_seq ?_
  refine WP_region ?_
  refine WL_pure (.pointer none) (R_mv rfl) rfl rfl ?_
  refine WL_pure (.bool false) (R_pne0 rfl rfl Try.underlying37) rfl rfl ?_
  refine WL_nil ?_
  refine WP_cond false rfl (fun hc => by cases hc) (fun _ => ?_)
  refine WP_skip ?_
  refine WP_seq ?_
  refine WP_region ?_
  refine WL_L hM15 (S_ldB (Foc.id _) rfl ty31 hB15 (by first | rfl | simp | omega) (fun h => h)) rfl rfl ?_
  rintro v16 (hV16 : kd_a32_u8.V _ (sha256 [(preimage a1_kind a2_parts)]) _)
  have hR19 := ((((hB2.extN hS4).extN hS7).extN hS9).extN hS12)
  have hR20 := (hR19.ext hS15 (fun hx => (fun he => (ne_new hge12 hR14.lt) he.symm) hx))
  refine WL_eff rfl rfl (St_St (S_stB (Foc.id _) hM15 rfl rfl hV16 ty31 hR20 (by first | rfl | simp | omega)) ?_)
  rintro w18 (hB18 : Bx kd_a32_u8 _ _ b2 [] [] (sha256 [(preimage a1_kind a2_parts)])) hS18 hM18
  have hE18 := hE15.comp hS18 (fun c hx hlt => (by subst hx; exact (fun hlt => absurd hlt (Nat.not_lt.2 (Nat.le_trans hE0.size hge2))) hlt))
  refine WL_nil ?_
  refine WP_ret ?_
  refine endS_ret hR (resE_B rfl rfl ty31 hB18) ?_
  rintro v21 hV21
  exact ⟨K9, v21, (sha256 [(preimage a1_kind a2_parts)]), rfl, h, hE18, hM18, hV21⟩
theorem OfN_c {w0 : World} {K0 : Ghost} {a1_kind_v : Value} {a1_kind : Int} {a2_parts_v : Value} {a2_parts : (List (List UInt8))} (hM0 : Models w0 K0) (h_a1_kind : (Kd.int .i64).V K0 a1_kind a1_kind_v) (h_a2_parts : kd_l_l_u8.V K0 a2_parts a2_parts_v) (hp : 1 + blobRoom a2_parts ≤ 140737488355328) : Calls Try.prog 63 #[(.pointer none), a1_kind_v, a2_parts_v] w0 (fun e w' => ∃ (K' : Ghost) (r0 : Value), e = .returned r0 ∧ Ext NX w0 K0 w' K' ∧ Models w' K' ∧ kd_a32_u8.V K' (sealOf a1_kind a2_parts) r0) := by
  refine (OfN_walk hM0 h_a1_kind h_a2_parts (OfN_ok h_a1_kind.wf h_a2_parts.wf hp)).mono ?_
  rintro _ w' ⟨K', r0, o0, rfl, rfl, hF⟩
  exact ⟨K', r0, rfl, hF⟩
def CallsN_VC  (Q : Int → Prop) : Prop :=
  Q 0
theorem CallsN_ok  : CallsN_VC  (fun o0 => o0 = (0 : Int)) := by
  rfl

theorem CallsN_walk {w0 : World} {K0 : Ghost}  {Q : Int → Prop} (hM0 : Models w0 K0)  (h : CallsN_VC  Q) : Calls Try.prog 28 #[(.pointer none)] w0 (fun e w' => ∃ (K' : Ghost) (r0 : Value) (o0 : Int), e = .returned r0 ∧ Q o0 ∧ Ext NX w0 K0 w' K' ∧ Models w' K' ∧ (Kd.int .i64).V K' o0 r0) := by
  unfold CallsN_VC at h
  have hE0 : Ext NX w0 K0 w0 K0 := Ext.refl _ _ _
  refine calls_gen fun R hR => ?_
  refine calls_env (args := [(.pointer none)]) Try.func28 rfl (Nat.le_of_ble_eq_true rfl) ?_
  refine WP_seq ?_
  refine WP_region ?_
  refine WL_pure (.int .i64 0) (R_as rfl) rfl rfl ?_
  refine WL_nil ?_
  refine WP_seq ?_
  refine WP_seq ?_
  refine WP_region ?_
  refine WL_pure (.pointer none) (R_mv rfl) rfl rfl ?_
  refine WL_pure (.bool true) (R_peq0 rfl rfl Try.underlying37) rfl rfl ?_
  refine WL_nil ?_
  refine WP_cond true rfl (fun _ => ?_) (fun hc => by cases hc)
  refine WP_seq ?_
  refine WP_region ?_
  refine WL_pure (.int .i64 0) (R_as rfl) rfl rfl ?_
  refine WL_nil ?_
  refine WP_ret ?_
  exact endR_ret hR (v := (.int .i64 0)) (resE_1 rfl rfl) ⟨K0, (.int .i64 0), 0, rfl, h, hE0, hM0, (int_V (show (Kd.int .i64).wf 0 from by constructor <;> decide))⟩
theorem CallsN_c {w0 : World} {K0 : Ghost}  (hM0 : Models w0 K0)  : Calls Try.prog 28 #[(.pointer none)] w0 (fun e w' => ∃ (K' : Ghost) (r0 : Value), e = .returned r0 ∧ Ext NX w0 K0 w' K' ∧ Models w' K' ∧ (Kd.int .i64).V K' (0 : Int) r0) := by
  refine (CallsN_walk hM0  (CallsN_ok)).mono ?_
  rintro _ w' ⟨K', r0, o0, rfl, rfl, hF⟩
  exact ⟨K', r0, rfl, hF⟩
theorem Of_c {w0 : World} {K0 : Ghost} {a0_k_v : Value} {a0_k_F : Nat → Prop} {a0_k : BookA} {a1_kind_v : Value} {a1_kind : Int} {a2_parts_v : Value} {a2_parts : (List (List UInt8))} (hM0 : Models w0 K0) (h_a0_k : BookR w0 K0 a0_k_v a0_k_F a0_k) (h_a1_kind : (Kd.int .i64).V K0 a1_kind a1_kind_v) (h_a2_parts : kd_l_l_u8.V K0 a2_parts a2_parts_v) (hp : 1 + blobRoom a2_parts ≤ 140737488355328 ∧ bookRoom a0_k) : Calls Try.prog 63 #[a0_k_v, a1_kind_v, a2_parts_v] w0 (fun e w' => ∃ (K' : Ghost) (r0 : Value) (F0 : Nat → Prop), e = .returned r0 ∧ Ext a0_k_F w0 K0 w' K' ∧ Models w' K' ∧ kd_a32_u8.V K' (sealOf a1_kind a2_parts) r0 ∧ BookR w' K' a0_k_v F0 (bookOf a0_k a1_kind a2_parts) ∧ (∀ g, F0 g → a0_k_F g ∨ w0.heap.size ≤ g)) := by
  cases a0_k with
  | none =>
    obtain ⟨rfl, rfl⟩ := h_a0_k
    refine (OfN_c hM0 h_a1_kind h_a2_parts hp.1).mono ?_
    rintro _ w' ⟨K', r0, rfl, hE, hM, hr0⟩
    exact ⟨K', r0, NX, rfl, hE, hM, hr0, ⟨rfl, rfl⟩, fun g hg => hg.elim⟩
  | some x =>
    obtain ⟨b, pre, post, lv, mv, m, rfl, hB, hO, hm, hi, hF, hlt⟩ := h_a0_k
    refine (OfB_c hM0 hB hO hm h_a1_kind h_a2_parts ⟨hi, hp.1, hp.2 x rfl⟩).mono ?_
    rintro _ w' ⟨K', r0, u0, u1, rfl, hE, hM, hr0, hB', hO', hx, hm', hy⟩
    refine ⟨K', r0, _, rfl, hE.weak (fun g hg hx => hF g hx), hM, hr0, BookE.mk hB' hO' hm' (addInv hi _ _), fun g hg => ?_⟩
    rcases hg with rfl | hg | hg
    · exact .inl (hF _ (.inl rfl))
    · exact (hx g hg).imp (fun h => hF g (.inr (.inl h))) id
    · exact (hy g hg).imp (fun h => hF g (.inr (.inr h))) id

theorem CallsO_c {w0 : World} {K0 : Ghost} {a0_k_v : Value} {a0_k_F : Nat → Prop} {a0_k : BookA} (hM0 : Models w0 K0) (h_a0_k : BookR w0 K0 a0_k_v a0_k_F a0_k) : Calls Try.prog 28 #[a0_k_v] w0 (fun e w' => ∃ (K' : Ghost) (r0 : Value), e = .returned r0 ∧ Ext NX w0 K0 w' K' ∧ Models w' K' ∧ (Kd.int .i64).V K' (bookCalls a0_k) r0) := by
  cases a0_k with
  | none =>
    obtain ⟨rfl, rfl⟩ := h_a0_k
    exact (CallsN_c hM0  )
  | some x =>
    obtain ⟨b, pre, post, lv, mv, m, rfl, hB, hO, hm, hi, hF, hlt⟩ := h_a0_k
    exact (Calls_c hM0 hB hO hm  )

abbrev kd_Sseal_notesF : Kd ((List ((List UInt8) × (List UInt8))) × Unit) := (Kd.pr kd_l_Sseal_note Kd.anm)
abbrev kd_Sseal_BookF : Kd (((List ((List UInt8) × (List UInt8))) × Unit) × Int) := (Kd.pr kd_Sseal_notesF (Kd.int .i64))
abbrev kd_p_Sseal_BookF : Kd (Option (((List ((List UInt8) × (List UInt8))) × Unit) × Int)) := (Kd.ptr kd_Sseal_BookF)
abbrev kd_l_p_Sseal_BookF : Kd (List (Option (((List ((List UInt8) × (List UInt8))) × Unit) × Int))) := (Kd.sl kd_p_Sseal_BookF)
theorem ty43 : TyOk Try.prog 43 kd_Sseal_Book 40 := ⟨⟨Try.t43, _, Try.type43, rfl, rfl, rfl, rfl, rfl⟩, ⟨_, Try.underlying43, rfl⟩⟩
theorem ty37b : TyOk Try.prog 37 kd_p_Sseal_BookF 8 := ⟨⟨Try.t37, _, Try.type37, rfl, rfl, rfl, rfl, rfl⟩, ⟨_, Try.underlying37, rfl⟩⟩
theorem ty41F : TyOk Try.prog 41 kd_Sseal_notesF 32 := ⟨⟨Try.t41, _, Try.type41, rfl, rfl, rfl, rfl, rfl⟩, ⟨_, Try.underlying41, rfl⟩⟩
theorem ty38 : TyOk Try.prog 38 kd_l_Sseal_note 24 := ⟨⟨Try.t38, _, Try.type38, rfl, rfl, rfl, rfl, rfl⟩, ⟨_, Try.underlying38, rfl⟩⟩
theorem fs43 {fs : Array Field} (h : Try.prog.underlying 43 = some (.struct fs)) : ∀ f ∈ fs.toList, ∃ i, Try.prog.info? f.type = some i := by
  have h2 := (Try.underlying43).symm.trans h
  cases h2
  intro f hf
  simp only [List.mem_cons, List.not_mem_nil, or_false] at hf
  rcases hf with rfl | rfl
  · exact ⟨_, Try.type41⟩
  · exact ⟨_, Try.type3⟩
def Clash_VC (a0_l : (List (Option (((List ((List UInt8) × (List UInt8))) × Unit) × Int)))) (Q : (List UInt8) → (List UInt8) → Bool → Prop) : Prop :=
  ∃ (I10 : (List UInt8) → (List UInt8) → Bool → Int → (List ((List UInt8) × (List UInt8))) → (List ((List UInt8) × Int)) → Prop) (μ10 : (List UInt8) → (List UInt8) → Bool → Int → (List ((List UInt8) × (List UInt8))) → (List ((List UInt8) × Int)) → Nat), I10 ([] : List UInt8) ([] : List UInt8) false 0 ([] : List ((List UInt8) × (List UInt8))) ([] : List ((List UInt8) × Int)) ∧ ∀ (a10 : (List UInt8)) (b10 : (List UInt8)) (found10 : Bool) (i10 : Int) (y10 : (List ((List UInt8) × (List UInt8)))) (y10' : (List ((List UInt8) × Int))), I10 a10 b10 found10 i10 y10 y10' → (kd_l_u8.wf a10) → (kd_l_u8.wf b10) → ((Kd.int .i64).wf i10) → (kd_l_Sseal_note.wf y10) → (((i10 < (a0_l.length : Int)) → (0 ≤ i10 ∧ i10 < (a0_l.length : Int)) ∧ (((((ix a0_l i10).isNone) = true) → I10 a10 b10 found10 (i10 + 1) y10 y10' ∧ μ10 a10 b10 found10 (i10 + 1) y10 y10' < μ10 a10 b10 found10 i10 y10 y10') ∧ ((((ix a0_l i10).isNone) = false) → ∀ (y20 : (((List ((List UInt8) × (List UInt8))) × Unit) × Int)), (ix a0_l i10) = some y20 → (∃ (I28 : (List UInt8) → (List UInt8) → Bool → Int → (List ((List UInt8) × (List UInt8))) → (List ((List UInt8) × Int)) → Prop) (μ28 : (List UInt8) → (List UInt8) → Bool → Int → (List ((List UInt8) × (List UInt8))) → (List ((List UInt8) × Int)) → Nat), I28 a10 b10 found10 0 y10 y10' ∧ ∀ (a28 : (List UInt8)) (b28 : (List UInt8)) (found28 : Bool) (i28 : Int) (y28 : (List ((List UInt8) × (List UInt8)))) (y28' : (List ((List UInt8) × Int))), I28 a28 b28 found28 i28 y28 y28' → (kd_l_u8.wf a28) → (kd_l_u8.wf b28) → ((Kd.int .i64).wf i28) → (kd_l_Sseal_note.wf y28) → (((i28 < (y20.1.1.length : Int)) → (0 ≤ i28 ∧ i28 < (y20.1.1.length : Int)) ∧ (((((mfind ((ix y20.1.1 i28).1) y28').isSome) = true) → ((0 ≤ ((mfind ((ix y20.1.1 i28).1) y28').getD 0) ∧ ((mfind ((ix y20.1.1 i28).1) y28').getD 0) < (y28.length : Int)) ∧ (True))) ∧ ((((((mfind ((ix y20.1.1 i28).1) y28').isSome) = true) ∧ (¬ (((ix y28 ((mfind ((ix y20.1.1 i28).1) y28').getD 0)).2) = ((ix y20.1.1 i28).2)))) → (0 ≤ ((mfind ((ix y20.1.1 i28).1) y28').getD 0) ∧ ((mfind ((ix y20.1.1 i28).1) y28').getD 0) < (y28.length : Int)) ∧ ((((ix y28 ((mfind ((ix y20.1.1 i28).1) y28').getD 0)).2).length ≤ 140737488355328) ∧ ((kd_l_u8.wf ((ix y28 ((mfind ((ix y20.1.1 i28).1) y28').getD 0)).2)) → ((((ix y20.1.1 i28).2).length ≤ 140737488355328) ∧ ((kd_l_u8.wf ((ix y20.1.1 i28).2)) → (Q ((ix y28 ((mfind ((ix y20.1.1 i28).1) y28').getD 0)).2) ((ix y20.1.1 i28).2) true)))))) ∧ ((¬ ((((mfind ((ix y20.1.1 i28).1) y28').isSome) = true) ∧ (¬ (((ix y28 ((mfind ((ix y20.1.1 i28).1) y28').getD 0)).2) = ((ix y20.1.1 i28).2))))) → (BookInv y28 y28' ∧ ((ix y20.1.1 i28).2).length ≤ 140737488355328 ∧ (y28.length + 1) * 64 ≤ 140737488355328) ∧ (I28 a28 b28 found28 (i28 + 1) (addL y28 ((ix y20.1.1 i28).1) ((ix y20.1.1 i28).2)) (addM y28 y28' ((ix y20.1.1 i28).1) ((ix y20.1.1 i28).2)) ∧ μ28 a28 b28 found28 (i28 + 1) (addL y28 ((ix y20.1.1 i28).1) ((ix y20.1.1 i28).2)) (addM y28 y28' ((ix y20.1.1 i28).1) ((ix y20.1.1 i28).2)) < μ28 a28 b28 found28 i28 y28 y28'))))) ∧ ((¬ (i28 < (y20.1.1.length : Int))) → I10 a28 b28 found28 (IntKind.i64.wrap (i10 + 1)) y28 y28' ∧ μ10 a28 b28 found28 (IntKind.i64.wrap (i10 + 1)) y28 y28' < μ10 a10 b10 found10 i10 y10 y10')))))) ∧ ((¬ (i10 < (a0_l.length : Int))) → Q ([] : List UInt8) ([] : List UInt8) false))
theorem Clash_ok {a0_l : (List (Option (((List ((List UInt8) × (List UInt8))) × Unit) × Int)))} (w_0 : kd_l_p_Sseal_BookF.wf a0_l) (hp : clashPre a0_l) : Clash_VC a0_l (fun o0 o1 o2 => o0 = (clashA a0_l).1 ∧ o1 = (clashA a0_l).2.1 ∧ o2 = (clashA a0_l).2.2) := by
  obtain ⟨hp1, hp2⟩ := hp
  unfold Clash_VC
  refine ⟨fun _ _ _ i l m => ∃ j : Nat, i = (j : Int) ∧ j ≤ a0_l.length ∧ clashA a0_l = clashL l (notesF (a0_l.drop j)) ∧ BookInv l m ∧ l.length ≤ (notesF (a0_l.take j)).length ∧ ∀ z ∈ l, z ∈ notesF a0_l, fun _ _ _ i _ _ => a0_l.length - i.toNat, ⟨0, rfl, by omega, by simp [clashA], fun s => rfl, by simp, by simp⟩, ?_⟩
  rintro a b f i l m ⟨j, rfl, hj, hc, hi, hlen, hmem⟩ _ _ _ _
  refine ⟨fun hlt => ⟨⟨by omega, hlt⟩, fun hn => ⟨⟨j + 1, by omega, by omega, ?_, hi, ?_, hmem⟩, ?_⟩, fun hs y hy => ?_⟩, fun hge => ?_⟩
  · rw [hc, notesF_drop hlt]
    rw [Option.isNone_iff_eq_none] at hn
    rw [hn]
    rfl
  · have h1 := congrArg List.length (notesF_take (a0_l.take (j + 1)) j)
    rw [List.take_take, Nat.min_eq_left (by omega), List.length_append] at h1
    omega
  · show a0_l.length - ((j : Int) + 1).toNat < a0_l.length - (j : Int).toNat
    omega
  · have hd := notesF_drop hlt
    rw [hy] at hd
    simp only at hd
    have hall := notesF_take a0_l j
    have hal := congrArg List.length hall
    rw [hd, List.length_append, List.length_append] at hal
    have hym : ∀ z ∈ y.1.1, z ∈ notesF a0_l := fun z hz => by
      rw [hall, hd]
      simp [hz]
    refine ⟨fun _ _ _ i l m => ∃ n : Nat, i = (n : Int) ∧ n ≤ y.1.1.length ∧ clashA a0_l = clashL l (y.1.1.drop n ++ notesF (a0_l.drop (j + 1))) ∧ BookInv l m ∧ l.length ≤ (notesF (a0_l.take j)).length + n ∧ ∀ z ∈ l, z ∈ notesF a0_l, fun _ _ _ i _ _ => y.1.1.length - i.toNat, ⟨0, rfl, by omega, by rw [hc, hd]; simp, hi, by omega, hmem⟩, ?_⟩
    rintro a b f i l m ⟨n, rfl, hn, hc, hi, hlen, hmem⟩ _ _ _ _
    simp only [hi _]
    refine ⟨fun hlt2 => ⟨⟨by omega, hlt2⟩, ?_, ?_, ?_⟩, fun hge => ?_⟩
    · intro hs
      obtain ⟨a, ha⟩ := Option.isSome_iff_exists.1 hs
      have := firstOf_ix ha
      rw [ha]
      exact ⟨this, trivial⟩
    · intro hs
      have hnl : n < y.1.1.length := by omega
      have hst : y.1.1.drop n ++ notesF (a0_l.drop (j + 1)) = ix y.1.1 (n : Int) :: (y.1.1.drop (n + 1) ++ notesF (a0_l.drop (j + 1))) := by
        rw [List.drop_eq_getElem_cons hnl, ix_of_lt (by simpa using hnl)]
        rfl
      rw [hst, clashL_step, if_pos hs] at hc
      obtain ⟨a, ha⟩ := Option.isSome_iff_exists.1 hs.1
      have hb := firstOf_ix ha
      rw [ha] at hc ⊢
      simp only [Option.getD_some] at hc ⊢
      refine ⟨hb, hp2 _ (hmem _ (ix_mem' hb.1 hb.2)), fun _ => ⟨hp2 _ (hym _ (ix_mem' (by omega) hlt2)), fun _ => ?_⟩⟩
      rw [hc]
      exact ⟨rfl, rfl, rfl⟩
    · intro hs
      have hnl : n < y.1.1.length := by omega
      have hst : y.1.1.drop n ++ notesF (a0_l.drop (j + 1)) = ix y.1.1 (n : Int) :: (y.1.1.drop (n + 1) ++ notesF (a0_l.drop (j + 1))) := by
        rw [List.drop_eq_getElem_cons hnl, ix_of_lt (by simpa using hnl)]
        rfl
      rw [hst, clashL_step, if_neg hs] at hc
      have hx := hym _ (ix_mem' (l := y.1.1) (i := (n : Int)) (by omega) hlt2)
      refine ⟨⟨fun s => hi s, hp2 _ hx, by omega⟩, ⟨n + 1, by omega, by omega, hc, addInv hi _ _, ?_, ?_⟩, ?_⟩
      · have := addL_len l (ix y.1.1 (n : Int)).1 (ix y.1.1 (n : Int)).2
        omega
      · intro z hz
        rcases addL_mem hz with h | rfl
        · exact hmem z h
        · exact hx
      · show y.1.1.length - ((n : Int) + 1).toNat < y.1.1.length - (n : Int).toNat
        omega
    · have hne : n = y.1.1.length := by omega
      subst hne
      have hw : IntKind.i64.wrap ((j : Int) + 1) = (j : Int) + 1 := wrap_id (wf64 (by omega) (by have := w_0.1; unfold LM at this; omega))
      rw [hw]
      refine ⟨⟨j + 1, by omega, by omega, by rw [hc]; simp, hi, ?_, hmem⟩, ?_⟩
      · have h1 := congrArg List.length (notesF_take (a0_l.take (j + 1)) j)
        rw [List.take_take, Nat.min_eq_left (by omega), List.length_append, List.drop_take] at h1
        have h2 : notesF ((a0_l.drop j).take (j + 1 - j)) = y.1.1 := by
          have hj' : j < a0_l.length := by omega
          rw [List.drop_eq_getElem_cons hj', show j + 1 - j = 1 from by omega, List.take_succ_cons, List.take_zero]
          have : a0_l[j] = some y := by
            rw [← hy, ix_of_lt (by simpa using hj')]
            rfl
          rw [this]
          simp [notesF]
        rw [h2] at h1
        omega
      · show a0_l.length - ((j : Int) + 1).toNat < a0_l.length - (j : Int).toNat
        omega
  · have : j = a0_l.length := by omega
    subst this
    rw [hc]
    simp [notesF, clashL]

theorem Clash_walk {w0 : World} {K0 : Ghost} {a0_l_v : Value} {a0_l : (List (Option (((List ((List UInt8) × (List UInt8))) × Unit) × Int)))} {Q : (List UInt8) → (List UInt8) → Bool → Prop} (hM0 : Models w0 K0) (h_a0_l : kd_l_p_Sseal_BookF.V K0 a0_l a0_l_v) (h : Clash_VC a0_l Q) : Calls Try.prog 39 #[a0_l_v] w0 (fun e w' => ∃ (K' : Ghost) (r0 : Value) (r1 : Value) (r2 : Value) (o0 : (List UInt8)) (o1 : (List UInt8)) (o2 : Bool), e = .returned (.tuple #[r0, r1, r2]) ∧ Q o0 o1 o2 ∧ Ext NX w0 K0 w' K' ∧ Models w' K' ∧ kd_l_u8.V K' o0 r0 ∧ kd_l_u8.V K' o1 r1 ∧ Kd.bool.V K' o2 r2) := by
  unfold Clash_VC at h
  have hE0 : Ext NX w0 K0 w0 K0 := Ext.refl _ _ _
  refine calls_gen fun R hR => ?_
  refine calls_env (args := [a0_l_v]) Try.func39 rfl (Nat.le_of_ble_eq_true rfl) ?_
  refine WP_seq ?_
  refine WP_region ?_
  have hR2 : Own Kd.byte 5 w0 K0 ([] : List UInt8) (.slice none 0 0) := Own.nil
  refine WL_pure (.slice none 0 0) (R_as rfl) rfl rfl ?_
  have hR3 : Own Kd.byte 5 w0 K0 ([] : List UInt8) (.slice none 0 0) := Own.nil
  refine WL_pure (.slice none 0 0) (R_as rfl) rfl rfl ?_
  refine WL_pure (.bool false) (R_as rfl) rfl rfl ?_
  refine WL_nil ?_
  refine WP_seq ?_
  refine WP_region ?_
  refine WL_V (S_bld (K := K0) (vs := []) (Z := (((.slice none 0 0), (.map none)), 0)) ty43 rfl Try.underlying43 (fs43 Try.underlying43) rfl Parts.nil) rfl rfl ?_
  rintro v4 (hV4 : kd_Sseal_Book.V _ (((.slice none 0 0), (.map none)), 0) _)
  refine WL_eff rfl rfl (St_B (S_box hM0 rfl hV4) ?_)
  rintro b6 w6 (hB6 : Bx kd_Sseal_Book _ _ _ _ _ (((.slice none 0 0), (.map none)), 0)) hS6 hM6 hge6
  have hE6 := hE0.andN hS6
  have hR8 : Own kd_Sseal_note 80 w6 K0 ([] : List ((List UInt8) × (List UInt8))) (.slice none 0 0) := Own.nil
  have hR9 : Mp kd_a32_u8 (Kd.int .i64) w6 K0 ([] : List ((List UInt8) × Int)) (.map none) := Or.inl ⟨rfl, rfl⟩
  refine WL_pure (.pointer (some ⟨b6, 0, none⟩)) (R_as rfl) rfl rfl ?_
  refine WL_nil ?_
  refine WP_seq ?_
  refine WP_seq ?_
  refine WP_region ?_
  refine WL_pure a0_l_v (R_mv rfl) rfl rfl ?_
  refine WL_pure (.int .i64 (a0_l.length : Int)) (R_len rfl (h_a0_l.mono hS6.le) Try.underlying78) rfl rfl ?_
  refine WL_pure (.int .i64 0) (R_mv rfl) rfl rfl ?_
  refine WL_nil ?_
  refine WP_block ?_
  have hR12 := (hR2.extN hS6)
  have hR13 := (hR3.extN hS6)
  obtain ⟨I10, μ10, h0, h⟩ := h
  refine WP_loopE (ι := (List UInt8) × (List UInt8) × Bool × Int × (List ((List UInt8) × (List UInt8))) × (List ((List UInt8) × Int))) [2, 3, 4, 7, 9, 10, 11, 16, 17, 18, 19, 20, 21, 22, 23, 24, 25, 26, 27, 28, 29, 30, 31, 32, 33, 34, 35, 36, 37, 38, 39, 40, 41, 42, 43, 44, 45, 46, 47, 48, 49, 50, 51, 52, 53, 54, 55, 56, 57, 58, 59, 60, 61, 62, 63, 64, 65, 66, 67, 68, 69, 70, 71, 72, 73, 74, 75, 76, 77, 78, 79, 80, 81] (fun s l w => ∃ K u2 u3 z7_0_0 z7_0_1, I10 s.1 s.2.1 s.2.2.1 s.2.2.2.1 s.2.2.2.2.1 s.2.2.2.2.2 ∧ l = [(2, u2), (3, u3), (4, (.bool s.2.2.1)), (16, (.int .i64 s.2.2.2.1))] ∧ Ext (fun c => ob (.slice none 0 0) = some c ∨ ob (.slice none 0 0) = some c ∨ ob (.slice none 0 0) = some c ∨ mb (.map none) = some c ∨ c = b6) w6 K0 w K ∧ Models w K ∧ (Kd.int .i64).wf s.2.2.2.1 ∧ Own Kd.byte 5 w K s.1 u2 ∧ (∀ g, ob u2 = some g → ob (.slice none 0 0) = some g ∨ w6.heap.size ≤ g) ∧ Own Kd.byte 5 w K s.2.1 u3 ∧ (∀ g, ob u3 = some g → ob (.slice none 0 0) = some g ∨ w6.heap.size ≤ g) ∧ Own kd_Sseal_note 80 w K s.2.2.2.2.1 z7_0_0 ∧ (∀ g, ob z7_0_0 = some g → ob (.slice none 0 0) = some g ∨ w6.heap.size ≤ g) ∧ Mp kd_a32_u8 (Kd.int .i64) w K s.2.2.2.2.2 z7_0_1 ∧ (∀ g, mb z7_0_1 = some g → mb (.map none) = some g ∨ w6.heap.size ≤ g) ∧ Bx kd_Sseal_Book w K b6 [] [] ((z7_0_0, z7_0_1), 0) ∧ (∀ g, ob u2 = some g → ¬ (ob u3 = some g))) (fun s => μ10 s.1 s.2.1 s.2.2.1 s.2.2.2.1 s.2.2.2.2.1 s.2.2.2.2.2) (([] : List UInt8), ([] : List UInt8), false, 0, ([] : List ((List UInt8) × (List UInt8))), ([] : List ((List UInt8) × Int))) [(2, (.slice none 0 0)), (3, (.slice none 0 0)), (4, (.bool false)), (16, (.int .i64 0))]
    ⟨K0, (.slice none 0 0), (.slice none 0 0), (.slice none 0 0), (.map none), h0, rfl, Ext.refl _ _ _, hM6, (show (Kd.int .i64).wf 0 from by constructor <;> decide), hR12, (fun g hg => (.inl hg)), hR13, (fun g hg => (.inl hg)), hR8, (fun g hg => .inr (nilS hg)), hR9, (fun g hg => .inr (nilM hg)), hB6, (fun g hg hx => (fun g hg _ => nilS hg) g hx hg)⟩ (by repeat (first | exact trivial | refine ⟨rfl, ?_⟩)) ?_
  rintro ⟨a10, b10, found10, i10, y10, y10'⟩ l σ10 w11 ⟨K11, u2_10, u3_10, z7_0_0_10, z7_0_1_10, hI, rfl, hX11, hM11, hw10_16, hL10_u2, ho10_u2, hL10_u3, ho10_u3, hL10_z7_0_0, ho10_z7_0_0, hL10_z7_0_1, ho10_z7_0_1, hL10_7, hs10_u2_u3⟩
  dsimp only at hI hw10_16 hL10_u2 ho10_u2 hL10_u3 ho10_u3 hL10_z7_0_0 ho10_z7_0_0 hL10_z7_0_1 ho10_z7_0_1 hL10_7
  have hE11 := hE6.comp hX11 (fun c hx hlt => Or.elim hx (fun hx => (fun g hg _ => nilS hg) c hx hlt) (fun hx => Or.elim hx (fun hx => (fun g hg _ => nilS hg) c hx hlt) (fun hx => Or.elim hx (fun hx => (fun g hg _ => nilS hg) c hx hlt) (fun hx => Or.elim hx (fun hx => (fun g hg _ => nilM hg) c hx hlt) (fun hx => (by subst hx; exact (fun hlt => absurd hlt (Nat.not_lt.2 (Nat.le_trans hE0.size hge6))) hlt))))))
  have h := h a10 b10 found10 i10 y10 y10' hI hL10_u2.wf hL10_u3.wf hw10_16 hL10_z7_0_0.wf
  refine WP_seq ?_
  refine WP_region ?_
  refine WL_pure (.bool (decide (i10 < (a0_l.length : Int)))) (R_lss rfl rfl) rfl rfl ?_
  refine WL_nil ?_
  refine WP_seq ?_
  refine WP_cond (decide (i10 < (a0_l.length : Int))) rfl (fun hc14 => ?_) (fun hc14 => ?_)
  · have hd14 : i10 < (a0_l.length : Int) := dec_t hc14
    have h := h.1 hd14
    refine WP_skip ?_
    refine WP_seq ?_
    refine WP_block ?_
    refine WP_seq ?_
    refine WP_region ?_
    obtain ⟨hp16, h⟩ := h
    refine WL_P (S_ixs rfl (h_a0_l.mono (hS6.le.trans hX11.le)) rfl Try.underlying78 ty37b hp16.1 hp16.2) rfl rfl ?_
    rintro b15 o15 hP15
    refine WL_L hM11 (S_ld rfl ty37b hP15) rfl rfl ?_
    rintro v18 (hV18 : kd_p_Sseal_BookF.V _ (ix a0_l i10) _)
    refine WL_pure v18 (R_as rfl) rfl rfl ?_
    refine WL_nil ?_
    refine WP_seq ?_
    refine WP_seq ?_
    refine WP_region ?_
    refine WL_pure v18 (R_mv rfl) rfl rfl ?_
    refine WL_pure (.bool ((ix a0_l i10).isNone)) (R_ptrnil rfl hV18 rfl Try.underlying37) rfl rfl ?_
    refine WL_nil ?_
    refine WP_cond ((ix a0_l i10).isNone) rfl (fun hc20 => ?_) (fun hc20 => ?_)
    · have hd20 : ((ix a0_l i10).isNone) = true := hc20
      have h := h.1 hd20
      refine WP_exit ?_
      refine WP_region ?_
      refine WL_pure (.int .i64 (i10 + 1)) (R_inc rfl rfl hw10_16 hd14 (len_wf (h_a0_l).wf.1)) rfl rfl ?_
      refine WL_pure (.int .i64 (i10 + 1)) (R_mv rfl) rfl rfl ?_
      refine WL_nil ?_
      refine BackQ.mk (a10, b10, found10, (i10 + 1), y10, y10') [(2, u2_10), (3, u3_10), (4, (.bool found10)), (16, (.int .i64 (i10 + 1)))] ?_ ?_ ?_ ?_
      rotate_left
      · exact h.2
      · repeat (first | exact Off.lay0 rfl | refine Off.updO ?_ rfl _ | refine Off.updN ?_ _ | refine Off.lay ?_ rfl)
      · repeat (first | exact trivial | refine ⟨rfl, ?_⟩)
      exact ⟨K11, u2_10, u3_10, z7_0_0_10, z7_0_1_10, h.1, rfl, ((Ext.refl _ _ _).comp hX11 (fun c hx hlt => Or.elim hx (fun hx => (.inl (hx))) (fun hx => Or.elim hx (fun hx => (.inl (hx))) (fun hx => Or.elim hx (fun hx => (absurd hlt (Nat.not_lt.2 (nilS hx)))) (fun hx => Or.elim hx (fun hx => (absurd hlt (Nat.not_lt.2 (nilM hx)))) (fun hx => (.inr (.inr (.inr (.inr (hx))))))))))), hM11, (inc_wf hw10_16 hd14 (len_wf (h_a0_l).wf.1)), hL10_u2, (fun g hg => ((ho10_u2 g hg).elim (fun hz => (.inl hz)) (fun hz => .inr (Nat.le_trans (Nat.le_refl _) hz)))), hL10_u3, (fun g hg => ((ho10_u3 g hg).elim (fun hz => (.inl hz)) (fun hz => .inr (Nat.le_trans (Nat.le_refl _) hz)))), hL10_z7_0_0, (fun g hg => .inr ((ho10_z7_0_0 g hg).elim (fun hz => (nilS hz)) (fun hz => (Nat.le_trans (Nat.le_refl _) hz)))), hL10_z7_0_1, (fun g hg => .inr ((ho10_z7_0_1 g hg).elim (fun hz => (nilM hz)) (fun hz => (Nat.le_trans (Nat.le_refl _) hz)))), hL10_7, hs10_u2_u3⟩
    · have hd20 : ((ix a0_l i10).isNone) = false := hc20
      have h := h.2 hd20
      obtain ⟨y20, b20, o20, hy20, hv20, hP20⟩ := ptr_some hV18 (by rw [hd20]; decide)
      have h := h y20 hy20
      subst hv20
      refine WP_skip ?_
      refine WP_seq ?_
      refine WP_region ?_
      refine WL_pure (.pointer (some ⟨b20, o20, none⟩)) (R_mv rfl) rfl rfl ?_
      refine WL_pure (.pointer (some ⟨b20, o20, none⟩)) (R_nilck rfl) rfl rfl ?_
      have hP22 := Kd.Pt.foc (Foc.fst kd_Sseal_notesF (Kd.int .i64)) hP20
      refine WL_pure (.pointer (some ⟨b20, o20 + 0, none⟩)) (R_fa rfl Try.underlying43 rfl rfl ty41F rfl) rfl rfl ?_
      have hP24 := Kd.Pt.foc (Foc.fst kd_l_Sseal_note Kd.anm) hP22
      refine WL_pure (.pointer (some ⟨b20, o20 + 0 + 0, none⟩)) (R_fa rfl Try.underlying41 rfl rfl ty38 rfl) rfl rfl ?_
      refine WL_L hM11 (S_ld rfl ty38 hP24) rfl rfl ?_
      rintro v26 (hV26 : kd_l_Sseal_note.V _ y20.1.1 _)
      refine WL_pure (.int .i64 (y20.1.1.length : Int)) (R_len rfl hV26 Try.underlying38) rfl rfl ?_
      refine WL_pure (.int .i64 0) (R_mv rfl) rfl rfl ?_
      refine WL_nil ?_
      refine WP_block ?_
      obtain ⟨I28, μ28, h0, h⟩ := h
      refine WP_loopE (ι := (List UInt8) × (List UInt8) × Bool × Int × (List ((List UInt8) × (List UInt8))) × (List ((List UInt8) × Int))) [2, 3, 4, 9, 10, 11, 28, 29, 30, 31, 32, 33, 34, 35, 36, 37, 38, 39, 40, 41, 42, 43, 44, 45, 46, 47, 48, 49, 50, 51, 52, 53, 54, 55, 56, 57, 58, 59, 60, 61, 62, 63, 64, 65, 66, 67, 68, 69, 70, 71, 72, 73, 74, 75, 76, 77, 78, 79, 80] (fun s l w => ∃ K u2 u3 z7_0_0 z7_0_1, I28 s.1 s.2.1 s.2.2.1 s.2.2.2.1 s.2.2.2.2.1 s.2.2.2.2.2 ∧ l = [(2, u2), (3, u3), (4, (.bool s.2.2.1)), (28, (.int .i64 s.2.2.2.1))] ∧ Ext (fun c => ob u2_10 = some c ∨ ob u3_10 = some c ∨ ob z7_0_0_10 = some c ∨ mb z7_0_1_10 = some c ∨ c = b6) w11 K11 w K ∧ Models w K ∧ (Kd.int .i64).wf s.2.2.2.1 ∧ Own Kd.byte 5 w K s.1 u2 ∧ (∀ g, ob u2 = some g → ob u2_10 = some g ∨ w11.heap.size ≤ g) ∧ Own Kd.byte 5 w K s.2.1 u3 ∧ (∀ g, ob u3 = some g → ob u3_10 = some g ∨ w11.heap.size ≤ g) ∧ Own kd_Sseal_note 80 w K s.2.2.2.2.1 z7_0_0 ∧ (∀ g, ob z7_0_0 = some g → ob z7_0_0_10 = some g ∨ w11.heap.size ≤ g) ∧ Mp kd_a32_u8 (Kd.int .i64) w K s.2.2.2.2.2 z7_0_1 ∧ (∀ g, mb z7_0_1 = some g → mb z7_0_1_10 = some g ∨ w11.heap.size ≤ g) ∧ Bx kd_Sseal_Book w K b6 [] [] ((z7_0_0, z7_0_1), 0) ∧ (∀ g, ob u2 = some g → ¬ (ob u3 = some g))) (fun s => μ28 s.1 s.2.1 s.2.2.1 s.2.2.2.1 s.2.2.2.2.1 s.2.2.2.2.2) (a10, b10, found10, 0, y10, y10') [(2, u2_10), (3, u3_10), (4, (.bool found10)), (28, (.int .i64 0))]
        ⟨K11, u2_10, u3_10, z7_0_0_10, z7_0_1_10, h0, rfl, Ext.refl _ _ _, hM11, (show (Kd.int .i64).wf 0 from by constructor <;> decide), hL10_u2, (fun g hg => (.inl hg)), hL10_u3, (fun g hg => (.inl hg)), hL10_z7_0_0, (fun g hg => (.inl hg)), hL10_z7_0_1, (fun g hg => (.inl hg)), hL10_7, hs10_u2_u3⟩ (by repeat (first | exact trivial | refine ⟨rfl, ?_⟩)) ?_
      rintro ⟨a28, b28, found28, i28, y28, y28'⟩ l σ28 w29 ⟨K29, u2_28, u3_28, z7_0_0_28, z7_0_1_28, hI, rfl, hX29, hM29, hw28_28, hL28_u2, ho28_u2, hL28_u3, ho28_u3, hL28_z7_0_0, ho28_z7_0_0, hL28_z7_0_1, ho28_z7_0_1, hL28_7, hs28_u2_u3⟩
      dsimp only at hI hw28_28 hL28_u2 ho28_u2 hL28_u3 ho28_u3 hL28_z7_0_0 ho28_z7_0_0 hL28_z7_0_1 ho28_z7_0_1 hL28_7
      have hE29 := hE11.comp hX29 (fun c hx hlt => Or.elim hx (fun hx => (fun g hg hlt => absurd hlt (Nat.not_lt.2 ((fun g hg => (ho10_u2 g hg).elim (fun hx => (fun g hg => nilS hg) g hx) (fun hx => Nat.le_trans hE6.size hx)) g hg))) c hx hlt) (fun hx => Or.elim hx (fun hx => (fun g hg hlt => absurd hlt (Nat.not_lt.2 ((fun g hg => (ho10_u3 g hg).elim (fun hx => (fun g hg => nilS hg) g hx) (fun hx => Nat.le_trans hE6.size hx)) g hg))) c hx hlt) (fun hx => Or.elim hx (fun hx => (fun g hg hlt => absurd hlt (Nat.not_lt.2 ((fun g hg => (ho10_z7_0_0 g hg).elim (fun hx => (fun g hg => nilS hg) g hx) (fun hx => Nat.le_trans hE6.size hx)) g hg))) c hx hlt) (fun hx => Or.elim hx (fun hx => (fun g hg hlt => absurd hlt (Nat.not_lt.2 ((fun g hg => (ho10_z7_0_1 g hg).elim (fun hx => (fun g hg => nilM hg) g hx) (fun hx => Nat.le_trans hE6.size hx)) g hg))) c hx hlt) (fun hx => (by subst hx; exact (fun hlt => absurd hlt (Nat.not_lt.2 (Nat.le_trans hE0.size hge6))) hlt))))))
      have h := h a28 b28 found28 i28 y28 y28' hI hL28_u2.wf hL28_u3.wf hw28_28 hL28_z7_0_0.wf
      refine WP_seq ?_
      refine WP_region ?_
      refine WL_pure (.bool (decide (i28 < (y20.1.1.length : Int)))) (R_lss rfl rfl) rfl rfl ?_
      refine WL_nil ?_
      refine WP_seq ?_
      refine WP_cond (decide (i28 < (y20.1.1.length : Int))) rfl (fun hc30 => ?_) (fun hc30 => ?_)
      · have hd30 : i28 < (y20.1.1.length : Int) := dec_t hc30
        have h := h.1 hd30
        refine WP_skip ?_
        refine WP_seq ?_
        refine WP_block ?_
        refine WP_seq ?_
        refine WP_region ?_
        obtain ⟨hp32, h⟩ := h
        refine WL_P (S_ixs rfl (hV26.mono hX29.le) rfl Try.underlying38 ty80 hp32.1 hp32.2) rfl rfl ?_
        rintro b31 o31 hP31
        refine WL_L hM29 (S_ld rfl ty80 hP31) rfl rfl ?_
        rintro v34 (hV34 : kd_Sseal_note.V _ (ix y20.1.1 i28) _)
        refine WL_eff rfl rfl (St_B (S_alloc hM29 ty80) ?_)
        rintro b36 w36 (hB36 : Bx kd_Sseal_note _ _ _ _ _ ((List.replicate 32 0), ([] : List UInt8))) hS36 hM36 hge36
        have hE36 := hE29.andN hS36
        refine WL_eff rfl rfl (St_St (S_stB (Foc.id _) hM36 rfl rfl (hV34.mono hS36.le) ty80 hB36 (by first | rfl | simp | omega)) ?_)
        rintro w38 (hB38 : Bx kd_Sseal_note _ _ b36 [] [] (ix y20.1.1 i28)) hS38 hM38
        have hE38 := hE36.comp hS38 (fun c hx hlt => (by subst hx; exact (fun hlt => absurd hlt (Nat.not_lt.2 (Nat.le_trans hE29.size hge36))) hlt))
        refine WL_nil ?_
        refine WP_seq ?_
        refine WP_seq ?_
        refine WP_ordD (K := K29) NX [.o 0 2, .o 1 2, .o 2 2, .o 3 2, .o 4 2, .o 5 2, .o 6 2, .o 7 2, .o 8 2, .o 9 2, .o 10 2, .o 11 2, .o 12 2] (by kernel_rfl) (by kernel_rfl) hM38 ?_
        rintro w39 hS39 hM39
        have hE39 := hE38.andN hS39
        refine WO_pure (.pointer (some ⟨b6, 0, none⟩)) rfl l0 hM39 (fun _ => R_mv rfl) rfl (gN rfl) rfl ?_
        refine WO_pure (.pointer (some ⟨b6, 0, none⟩)) rfl l0 hM39 (fun _ => R_nilck rfl) rfl (gN rfl) rfl ?_
        refine WO_pure (.pointer (some ⟨b6, 0 + 0, none⟩)) rfl l0 hM39 (fun _ => R_fa rfl Try.underlying43 rfl rfl ty41 rfl) rfl (gN rfl) rfl ?_
        refine WO_pure (.pointer (some ⟨b6, 0 + 0 + 1, none⟩)) rfl l0 hM39 (fun _ => R_fa rfl Try.underlying41 rfl rfl ty39r rfl) rfl (gN rfl) rfl ?_
        have hR41 := (hL28_7.extN hS36)
        have hR42 := ((hR41.ext hS38 (fun hx => (fun he => (ne_new hge36 hL28_7.lt) he.symm) hx)).extN hS39)
        refine WO_L0 hM39 (S_ldB (Foc.trans (Foc.fst kd_Sseal_notes (Kd.int .i64)) (Foc.snd Kd.rsl Kd.rmp)) rfl ty39r hR42 (by first | rfl | simp | omega) (fun h => h)) rfl (gN rfl) rfl ?_
        rintro v40 (hV40 : Kd.rmp.V _ z7_0_1_28 _)
        obtain rfl := rw_form hV40
        refine WO_pure (.pointer (some ⟨b36, 0 + 0, none⟩)) rfl l0 hM39 (fun _ => R_fa rfl Try.underlying80 rfl rfl ty31 rfl) rfl (gN rfl) rfl ?_
        have hR44 := (hB38.extN hS39)
        refine WO_L0 hM39 (S_ldB (Foc.fst kd_a32_u8 kd_l_u8) rfl ty31 hR44 (by first | rfl | simp | omega) (fun h => h)) rfl (gN rfl) rfl ?_
        rintro v43 (hV43 : kd_a32_u8.V _ ((ix y20.1.1 i28).1) _)
        have hR47 := (hL28_z7_0_1.extN hS36)
        have hR48 := ((hR47.ext hS38 (fun g hg hx => (fun g hg hx => hR47.box hB36 (hg.trans (congrArg some hx))) g hg hx)).extN hS39)
        refine WO_LK0 hM39 (S_lkp (kv := (Kd.int .i64)) rfl rfl hR48 hV43 Try.underlying39 (keyOk_arr Try.underlying31 Try.underlying5 ty5b) ty3 (fun _ _ h => h)) rfl (gN rfl) rfl ?_
        rintro v46 (hV46 : (Kd.int .i64).V _ ((mfind ((ix y20.1.1 i28).1) y28').getD 0) _)
        obtain rfl := int_form hV46
        refine WO_pure (.tuple #[(.int .i64 ((mfind ((ix y20.1.1 i28).1) y28').getD 0)), (.bool ((mfind ((ix y20.1.1 i28).1) y28').isSome))]) rfl l0 hM39 (fun _ => R_mv rfl) rfl (gN rfl) rfl ?_
        refine WO_pure (.int .i64 ((mfind ((ix y20.1.1 i28).1) y28').getD 0)) rfl l0 hM39 (fun _ => R_ext rfl rfl) rfl (gN rfl) rfl ?_
        refine WO_pure (.bool ((mfind ((ix y20.1.1 i28).1) y28').isSome)) rfl l0 hM39 (fun _ => R_ext rfl rfl) rfl (gN rfl) rfl ?_
        refine WO_pure (.int .i64 ((mfind ((ix y20.1.1 i28).1) y28').getD 0)) rfl l0 hM39 (fun _ => R_as rfl) rfl (gN rfl) rfl ?_
        refine WO_pure (.bool ((mfind ((ix y20.1.1 i28).1) y28').isSome)) rfl l0 hM39 (fun _ => R_as rfl) rfl (gN rfl) rfl ?_
        refine WO_nil ?_
        refine WP_seq ?_
        refine WP_ordD (K := K29) NX [.o 0 2, .o 1 2, .o 2 2, .o 3 2, .o 4 2, .o 5 2, .o 6 2, .o 7 2, .o 8 2, .o 9 2, .o 10 2, .o 11 2, .o 12 2, .o 13 0, .o 14 2, .o 15 2] (by kernel_rfl) (by kernel_rfl) hM39 ?_
        rintro w49 hS49 hM49
        have hE49 := hE39.andN hS49
        refine WO_pure (.bool ((mfind ((ix y20.1.1 i28).1) y28').isSome)) rfl l0 hM49 (fun _ => R_mv rfl) rfl (gN rfl) rfl ?_
        refine WO_pure (.bool ((mfind ((ix y20.1.1 i28).1) y28').isSome)) rfl l0 hM49 (fun _ => R_mv rfl) rfl (gN rfl) rfl ?_
        obtain ⟨hq50, h⟩ := h
        refine WO_meet (al := true) (l1 := [.o 2 2, .o 3 2, .o 4 2, .o 5 2, .o 6 2, .o 7 2, .o 8 2, .o 9 2, .o 10 2, .o 11 2, .o 12 2, .o 13 0, .o 14 2, .o 15 2]) [45, 46, 47, 48, 49, 50, 51, 52, 53, 54, 55, 56, 57, 58] NX (fun l w K => l = [(58, (.bool (decide ((((mfind ((ix y20.1.1 i28).1) y28').isSome) = true) ∧ (¬ (((ix y28 ((mfind ((ix y20.1.1 i28).1) y28').getD 0)).2) = ((ix y20.1.1 i28).2)))))))] ∧ Ext NX w49 K29 w K ∧ Models w K) ?_ ?_
        · rcases Classical.em (((mfind ((ix y20.1.1 i28).1) y28').isSome) = true) with hp50 | hp50
          · skip
            have h := hq50 hp50
            refine WO_pure (.pointer (some ⟨b6, 0, none⟩)) rfl l0 hM49 (fun _ => R_mv rfl) rfl (gY rfl rfl rfl hp50) rfl ?_
            refine WO_pure (.pointer (some ⟨b6, 0, none⟩)) rfl l0 hM49 (fun _ => R_nilck rfl) rfl (gY rfl rfl rfl hp50) rfl ?_
            refine WO_pure (.pointer (some ⟨b6, 0 + 0, none⟩)) rfl l0 hM49 (fun _ => R_fa rfl Try.underlying43 rfl rfl ty41 rfl) rfl (gY rfl rfl rfl hp50) rfl ?_
            refine WO_pure (.pointer (some ⟨b6, 0 + 0 + 0, none⟩)) rfl l0 hM49 (fun _ => R_fa rfl Try.underlying41 rfl rfl ty38r rfl) rfl (gY rfl rfl rfl hp50) rfl ?_
            have hR52 := (hR42.extN hS49)
            refine WO_L0 hM49 (S_ldB (Foc.trans (Foc.fst kd_Sseal_notes (Kd.int .i64)) (Foc.fst Kd.rsl Kd.rmp)) rfl ty38r hR52 (by first | rfl | simp | omega) (fun h => h)) rfl (gY rfl rfl rfl hp50) rfl ?_
            rintro v51 (hV51 : Kd.rsl.V _ z7_0_0_28 _)
            obtain rfl := rw_form hV51
            refine WO_pure (.int .i64 ((mfind ((ix y20.1.1 i28).1) y28').getD 0)) rfl l0 hM49 (fun _ => R_mv rfl) rfl (gY rfl rfl rfl hp50) rfl ?_
            obtain ⟨hp54, h⟩ := h
            refine WO_P rfl l0 hM49 (S_ixs rfl (hL28_z7_0_0.V.mono (hS36.le.trans (hS38.le.trans (hS39.le.trans hS49.le)))) rfl Try.underlying38 ty80 hp54.1 hp54.2) rfl (gY rfl rfl rfl hp50) rfl ?_
            rintro b53 o53 hP53
            have hP56 := Kd.Pt.foc (Foc.snd kd_a32_u8 kd_l_u8) hP53
            refine WO_pure (.pointer (some ⟨b53, o53 + 32, none⟩)) rfl l0 hM49 (fun _ => R_fa rfl Try.underlying80 rfl rfl ty55 rfl) rfl (gY rfl rfl rfl hp50) rfl ?_
            refine WO_L0 hM49 (S_ld rfl ty55 hP56) rfl (gY rfl rfl rfl hp50) rfl ?_
            rintro v58 (hV58 : kd_l_u8.V _ ((ix y28 ((mfind ((ix y20.1.1 i28).1) y28').getD 0)).2) _)
            refine WO_pure (.pointer (some ⟨b36, 0 + 32, none⟩)) rfl l0 hM49 (fun _ => R_fa rfl Try.underlying80 rfl rfl ty55 rfl) rfl (gY rfl rfl rfl hp50) rfl ?_
            have hR61 := (hR44.extN hS49)
            refine WO_L0 hM49 (S_ldB (Foc.snd kd_a32_u8 kd_l_u8) rfl ty55 hR61 (by first | rfl | simp | omega) (fun h => h)) rfl (gY rfl rfl rfl hp50) rfl ?_
            rintro v60 (hV60 : kd_l_u8.V _ ((ix y20.1.1 i28).2) _)
            refine WO_eff0 rfl (gY rfl rfl rfl hp50) rfl (St_call (R_call Try.call58 rfl) ((Equal_c hM49 hV58 hV60).mono ?_))
            rintro _ w63 ⟨K63, v63_0, rfl, hS63, hM63, hV63_0⟩
            refine ⟨v63_0, rfl, ?_⟩
            refine ⟨K63, hS63, hM63, ?_⟩
            have hE63 := hE49.andN hS63
            obtain rfl := bool_form hV63_0
            refine WO_pure (.bool (decide (¬ (((ix y28 ((mfind ((ix y20.1.1 i28).1) y28').getD 0)).2) = ((ix y20.1.1 i28).2))))) rfl l0 hM63 (fun _ => R_notd rfl) rfl (gY rfl rfl rfl hp50) rfl ?_
            refine WO_pure (.bool (decide ((((mfind ((ix y20.1.1 i28).1) y28').isSome) = true) ∧ (¬ (((ix y28 ((mfind ((ix y20.1.1 i28).1) y28').getD 0)).2) = ((ix y20.1.1 i28).2)))))) rfl l0 hM63 (fun _ => R_pick1 rfl hp50 rfl (and_T hp50)) rfl (gN rfl) rfl ?_
            exact WO_end [(58, (.bool (decide ((((mfind ((ix y20.1.1 i28).1) y28').isSome) = true) ∧ (¬ (((ix y28 ((mfind ((ix y20.1.1 i28).1) y28').getD 0)).2) = ((ix y20.1.1 i28).2)))))))] K63 rfl ⟨rfl, ((Ext.refl _ _ _).andN hS63), hM63⟩ (by repeat (first | exact Off.refl _ _ | refine Off.updO ?_ rfl _ | refine Off.updN ?_ _ | refine Off.lay ?_ rfl)) ⟨rfl, trivial⟩
          · skip
            refine WO_skip _ hM49 l0 rfl (gF rfl rfl rfl (eq_false_of_ne_true hp50)) rfl ?_
            refine WO_skip _ hM49 l0 rfl (gF rfl rfl rfl (eq_false_of_ne_true hp50)) rfl ?_
            refine WO_skip _ hM49 l0 rfl (gF rfl rfl rfl (eq_false_of_ne_true hp50)) rfl ?_
            refine WO_skip _ hM49 l0 rfl (gF rfl rfl rfl (eq_false_of_ne_true hp50)) rfl ?_
            refine WO_skip _ hM49 l0 rfl (gF rfl rfl rfl (eq_false_of_ne_true hp50)) rfl ?_
            refine WO_skip _ hM49 l0 rfl (gF rfl rfl rfl (eq_false_of_ne_true hp50)) rfl ?_
            refine WO_skip _ hM49 l0 rfl (gF rfl rfl rfl (eq_false_of_ne_true hp50)) rfl ?_
            refine WO_skip _ hM49 l0 rfl (gF rfl rfl rfl (eq_false_of_ne_true hp50)) rfl ?_
            refine WO_skip _ hM49 l0 rfl (gF rfl rfl rfl (eq_false_of_ne_true hp50)) rfl ?_
            refine WO_skip _ hM49 l0 rfl (gF rfl rfl rfl (eq_false_of_ne_true hp50)) rfl ?_
            refine WO_skip _ hM49 l0 rfl (gF rfl rfl rfl (eq_false_of_ne_true hp50)) rfl ?_
            refine WO_skip _ hM49 l0 rfl (gF rfl rfl rfl (eq_false_of_ne_true hp50)) rfl ?_
            refine WO_skip _ hM49 l0 rfl (gF rfl rfl rfl (eq_false_of_ne_true hp50)) rfl ?_
            refine WO_pure (.bool (decide ((((mfind ((ix y20.1.1 i28).1) y28').isSome) = true) ∧ (¬ (((ix y28 ((mfind ((ix y20.1.1 i28).1) y28').getD 0)).2) = ((ix y20.1.1 i28).2)))))) rfl l0 hM49 (fun _ => R_pick2 rfl (eq_false_of_ne_true hp50) rfl (and_F hp50)) rfl (gN rfl) rfl ?_
            exact WO_end [(58, (.bool (decide ((((mfind ((ix y20.1.1 i28).1) y28').isSome) = true) ∧ (¬ (((ix y28 ((mfind ((ix y20.1.1 i28).1) y28').getD 0)).2) = ((ix y20.1.1 i28).2)))))))] K29 rfl ⟨rfl, (Ext.refl _ _ _), hM49⟩ (by repeat (first | exact Off.refl _ _ | refine Off.updO ?_ rfl _ | refine Off.updN ?_ _ | refine Off.lay ?_ rfl)) ⟨rfl, trivial⟩
        rintro l σ64 w64 K64 ⟨rfl, hS64, hM64⟩
        have hE64 := hE49.andN hS64
        refine WO_nil ?_
        refine WP_cond (decide ((((mfind ((ix y20.1.1 i28).1) y28').isSome) = true) ∧ (¬ (((ix y28 ((mfind ((ix y20.1.1 i28).1) y28').getD 0)).2) = ((ix y20.1.1 i28).2))))) rfl (fun hc65 => ?_) (fun hc65 => ?_)
        · have hd65 : (((mfind ((ix y20.1.1 i28).1) y28').isSome) = true) ∧ (¬ (((ix y28 ((mfind ((ix y20.1.1 i28).1) y28').getD 0)).2) = ((ix y20.1.1 i28).2))) := dec_t hc65
          have h := h.1 hd65
          refine WP_seq ?_
          refine WP_ordD (K := K64) NX [.o 0 2, .o 1 2, .o 2 2, .o 3 2, .o 4 2, .o 5 2, .o 6 2, .o 7 2, .o 8 2, .o 10 2, .o 11 2, .o 9 0, .o 12 0, .o 13 2, .o 14 2, .o 15 2] (by kernel_rfl) (by kernel_rfl) hM64 ?_
          rintro w66 hS66 hM66
          have hE66 := hE64.andN hS66
          refine WO_pure (.pointer (some ⟨b6, 0, none⟩)) rfl l0 hM66 (fun _ => R_mv rfl) rfl (gN rfl) rfl ?_
          refine WO_pure (.pointer (some ⟨b6, 0, none⟩)) rfl l0 hM66 (fun _ => R_nilck rfl) rfl (gN rfl) rfl ?_
          refine WO_pure (.pointer (some ⟨b6, 0 + 0, none⟩)) rfl l0 hM66 (fun _ => R_fa rfl Try.underlying43 rfl rfl ty41 rfl) rfl (gN rfl) rfl ?_
          refine WO_pure (.pointer (some ⟨b6, 0 + 0 + 0, none⟩)) rfl l0 hM66 (fun _ => R_fa rfl Try.underlying41 rfl rfl ty38r rfl) rfl (gN rfl) rfl ?_
          have hR68 := (((hR42.extN hS49).extN hS64).extN hS66)
          refine WO_L0 hM66 (S_ldB (Foc.trans (Foc.fst kd_Sseal_notes (Kd.int .i64)) (Foc.fst Kd.rsl Kd.rmp)) rfl ty38r hR68 (by first | rfl | simp | omega) (fun h => h)) rfl (gN rfl) rfl ?_
          rintro v67 (hV67 : Kd.rsl.V _ z7_0_0_28 _)
          obtain rfl := rw_form hV67
          refine WO_pure (.int .i64 ((mfind ((ix y20.1.1 i28).1) y28').getD 0)) rfl l0 hM66 (fun _ => R_mv rfl) rfl (gN rfl) rfl ?_
          obtain ⟨hp70, h⟩ := h
          refine WO_P rfl l0 hM66 (S_ixs rfl (hL28_z7_0_0.V.mono (hS36.le.trans (hS38.le.trans (hS39.le.trans (hS49.le.trans (hS64.le.trans hS66.le)))))) rfl Try.underlying38 ty80 hp70.1 hp70.2) rfl (gN rfl) rfl ?_
          rintro b69 o69 hP69
          have hP72 := Kd.Pt.foc (Foc.snd kd_a32_u8 kd_l_u8) hP69
          refine WO_pure (.pointer (some ⟨b69, o69 + 32, none⟩)) rfl l0 hM66 (fun _ => R_fa rfl Try.underlying80 rfl rfl ty55 rfl) rfl (gN rfl) rfl ?_
          refine WO_L0 hM66 (S_ld rfl ty55 hP72) rfl (gN rfl) rfl ?_
          rintro v74 (hV74 : kd_l_u8.V _ ((ix y28 ((mfind ((ix y20.1.1 i28).1) y28').getD 0)).2) _)
          refine WO_pure (.pointer (some ⟨b36, 0 + 32, none⟩)) rfl l0 hM66 (fun _ => R_fa rfl Try.underlying80 rfl rfl ty55 rfl) rfl (gN rfl) rfl ?_
          have hR77 := (((hR44.extN hS49).extN hS64).extN hS66)
          refine WO_L0 hM66 (S_ldB (Foc.snd kd_a32_u8 kd_l_u8) rfl ty55 hR77 (by first | rfl | simp | omega) (fun h => h)) rfl (gN rfl) rfl ?_
          rintro v76 (hV76 : kd_l_u8.V _ ((ix y20.1.1 i28).2) _)
          have hR79 := (hL28_u2.extN hS36)
          have hR80 := (((((hR79.ext hS38 (fun g hg hx => (fun g hg hx => hR79.box hB36 (hg.trans (congrArg some hx))) g hg hx)).extN hS39).extN hS49).extN hS64).extN hS66)
          have hR81 := (hL28_u3.extN hS36)
          have hR82 := (((((hR81.ext hS38 (fun g hg hx => (fun g hg hx => hR81.box hB36 (hg.trans (congrArg some hx))) g hg hx)).extN hS39).extN hS49).extN hS64).extN hS66)
          have hR83 := (hL28_z7_0_0.extN hS36)
          have hR84 := (((((hR83.ext hS38 (fun g hg hx => (fun g hg hx => hR83.box hB36 (hg.trans (congrArg some hx))) g hg hx)).extN hS39).extN hS49).extN hS64).extN hS66)
          have hR85 := (((hR48.extN hS49).extN hS64).extN hS66)
          obtain ⟨hp87, h⟩ := h
          refine WO_eff0 rfl (gN rfl) rfl (St_call (R_call Try.call59 rfl) ((Clone_c hM66 hV74 hp87).mono ?_))
          rintro _ w86 ⟨K86, v86_0, rfl, hS86, hM86, hO86_0, hg86_0⟩
          refine ⟨v86_0, rfl, ?_⟩
          refine ⟨K86, hS86, hM86, ?_⟩
          have hE86 := hE66.andN hS86
          have h := h hO86_0.wf
          have hR89 := (hR80.extN hS86)
          have hR90 := (hR82.extN hS86)
          have hR91 := (hR68.extN hS86)
          have hR92 := (hR84.extN hS86)
          have hR93 := (hR85.extN hS86)
          have hR94 := (hR77.extN hS86)
          obtain ⟨hp96, h⟩ := h
          refine WO_eff0 rfl (gN rfl) rfl (St_call (R_call Try.call59 rfl) ((Clone_c hM86 (hV76.mono hS86.le) hp96).mono ?_))
          rintro _ w95 ⟨K95, v95_0, rfl, hS95, hM95, hO95_0, hg95_0⟩
          refine ⟨v95_0, rfl, ?_⟩
          refine ⟨K95, hS95, hM95, ?_⟩
          have hE95 := hE86.andN hS95
          have h := h hO95_0.wf
          refine WO_pure v86_0 rfl l0 hM95 (fun _ => R_as rfl) rfl (gN rfl) rfl ?_
          refine WO_pure v95_0 rfl l0 hM95 (fun _ => R_as rfl) rfl (gN rfl) rfl ?_
          refine WO_pure (.bool true) rfl l0 hM95 (fun _ => R_as rfl) rfl (gN rfl) rfl ?_
          refine WO_nil ?_
          refine WP_ret ?_
          exact endR_ret hR (v := (.tuple #[v86_0, v95_0, (.bool true)])) (resE_3 rfl rfl rfl rfl) ⟨K95, v86_0, v95_0, (.bool true), ((ix y28 ((mfind ((ix y20.1.1 i28).1) y28').getD 0)).2), ((ix y20.1.1 i28).2), true, rfl, h, hE95, hM95, (hO86_0.V.mono hS95.le), hO95_0.V, bool_V⟩
        · have hd65 : ¬ ((((mfind ((ix y20.1.1 i28).1) y28').isSome) = true) ∧ (¬ (((ix y28 ((mfind ((ix y20.1.1 i28).1) y28').getD 0)).2) = ((ix y20.1.1 i28).2)))) := dec_f hc65
          have h := h.2 hd65
          refine WP_skip ?_
          have hR98 := (hL28_z7_0_0.extN hS36)
          have hR99 := ((((hR98.ext hS38 (fun g hg hx => (fun g hg hx => hR98.box hB36 (hg.trans (congrArg some hx))) g hg hx)).extN hS39).extN hS49).extN hS64)
          have hR100 := ((hR48.extN hS49).extN hS64)
          have hR101 := ((hR44.extN hS49).extN hS64)
          have hR102 := ((hR42.extN hS49).extN hS64)
          refine WP_ordD (K := K64) (fun c => c = b6 ∨ ob z7_0_0_28 = some c ∨ mb z7_0_1_28 = some c ∨ w64.heap.size ≤ c) [.o 0 2, .o 1 2, .o 2 2, .o 3 2, .o 4 2, .o 5 2, .o 6 2, .o 7 1] (by kernel_rfl) (by kernel_rfl) hM64 ?_
          rintro w103 hS103 hM103
          have hE103 := hE64.andN hS103
          refine WO_pure (.pointer (some ⟨b6, 0, none⟩)) rfl l0 hM103 (fun _ => R_mv rfl) rfl (gN rfl) rfl ?_
          refine WO_pure (.pointer (some ⟨b6, 0, none⟩)) rfl l0 hM103 (fun _ => R_nilck rfl) rfl (gN rfl) rfl ?_
          refine WO_pure (.pointer (some ⟨b6, 0 + 0, none⟩)) rfl l0 hM103 (fun _ => R_fa rfl Try.underlying43 rfl rfl ty41 rfl) rfl (gN rfl) rfl ?_
          refine WO_pure (.pointer (some ⟨b36, 0 + 0, none⟩)) rfl l0 hM103 (fun _ => R_fa rfl Try.underlying80 rfl rfl ty31 rfl) rfl (gN rfl) rfl ?_
          have hR105 := (hR101.extN hS103)
          refine WO_L0 hM103 (S_ldB (Foc.fst kd_a32_u8 kd_l_u8) rfl ty31 hR105 (by first | rfl | simp | omega) (fun h => h)) rfl (gN rfl) rfl ?_
          rintro v104 (hV104 : kd_a32_u8.V _ ((ix y20.1.1 i28).1) _)
          refine WO_pure (.pointer (some ⟨b36, 0 + 32, none⟩)) rfl l0 hM103 (fun _ => R_fa rfl Try.underlying80 rfl rfl ty55 rfl) rfl (gN rfl) rfl ?_
          refine WO_L0 hM103 (S_ldB (Foc.snd kd_a32_u8 kd_l_u8) rfl ty55 hR105 (by first | rfl | simp | omega) (fun h => h)) rfl (gN rfl) rfl ?_
          rintro v107 (hV107 : kd_l_u8.V _ ((ix y20.1.1 i28).2) _)
          have hR109 := (hL28_u2.extN hS36)
          have hR110 := (((((hR109.ext hS38 (fun g hg hx => (fun g hg hx => hR109.box hB36 (hg.trans (congrArg some hx))) g hg hx)).extN hS39).extN hS49).extN hS64).extN hS103)
          have hR111 := (hL28_u3.extN hS36)
          have hR112 := (((((hR111.ext hS38 (fun g hg hx => (fun g hg hx => hR111.box hB36 (hg.trans (congrArg some hx))) g hg hx)).extN hS39).extN hS49).extN hS64).extN hS103)
          have hR113 := (hR102.extN hS103)
          have hR114 := (hR99.extN hS103)
          have hR115 := (hR100.extN hS103)
          obtain ⟨p117, q117, hl117, hB117, hback117⟩ := Bx.sub (Foc.fst kd_Sseal_notes (Kd.int .i64)) hR113
          obtain ⟨hp118, h⟩ := h
          refine WO_eff rfl (gN rfl) rfl (St_call (R_call Try.call60 (mapC (show (Value.pointer (some ⟨b6, 0 + 0, none⟩)) = .pointer (some ⟨b6, (([] : List Value) ++ p117).length, none⟩) from by rw [List.length_append, hl117]; first | done | simp) (mapC rfl (mapC rfl mapN)))) ((add_c hM103 hB117 hR114 hR115 hV104 hV107 hp118).mono ?_))
          rintro _ w116 ⟨K116, u116_0_0, u116_0_1, rfl, hS116, hM116, hB116_m0, hu116_0_0, hxu116_0_0, hu116_0_1, hxu116_0_1⟩
          refine ⟨(.tuple #[]), rfl, ?_⟩
          refine ⟨K116, (hS116.weak (fun c hlt hx => Or.elim hx (fun hx => (.inl (hx))) (fun hx => Or.elim hx (fun hx => (.inr (.inl (hx)))) (fun hx => (.inr (.inr (.inl (hx)))))))), hM116, ?_⟩
          have hE116 := hE103.comp hS116 (fun c hx hlt => Or.elim hx (fun hx => (by subst hx; exact (fun hlt => absurd hlt (Nat.not_lt.2 (Nat.le_trans hE0.size hge6))) hlt)) (fun hx => Or.elim hx (fun hx => (fun g hg hlt => absurd hlt (Nat.not_lt.2 ((fun g hg => (ho28_z7_0_0 g hg).elim (fun hx => (fun g hg => (ho10_z7_0_0 g hg).elim (fun hx => (fun g hg => nilS hg) g hx) (fun hx => Nat.le_trans hE6.size hx)) g hx) (fun hx => Nat.le_trans hE11.size hx)) g hg))) c hx hlt) (fun hx => (fun g hg hlt => absurd hlt (Nat.not_lt.2 ((fun g hg => (ho28_z7_0_1 g hg).elim (fun hx => (fun g hg => (ho10_z7_0_1 g hg).elim (fun hx => (fun g hg => nilM hg) g hx) (fun hx => Nat.le_trans hE6.size hx)) g hx) (fun hx => Nat.le_trans hE11.size hx)) g hg))) c hx hlt)))
          have hB116_w : Bx kd_Sseal_Book w116 K116 b6 [] [] ((u116_0_0, u116_0_1), 0) := hback117 hS116.le hB116_m0
          refine WO_nil ?_
          refine WP_region ?_
          refine WL_pure (.int .i64 (i28 + 1)) (R_inc rfl rfl hw28_28 hd30 (len_wf (hV26).wf.1)) rfl rfl ?_
          refine WL_pure (.int .i64 (i28 + 1)) (R_mv rfl) rfl rfl ?_
          refine WL_nil ?_
          have hR119 := (hR110.ext hS116 (fun g hg hx => Or.elim hx (fun hx => (fun g hg hx => hR110.box hR113 (hg.trans (congrArg some hx))) g hg hx) (fun hx => Or.elim hx (fun hx => (Own.ne_type hR110 hR114 (by decide)) g hg hx) (fun hx => (fun g hg => hR115.own hR110 g hg) g hg hx))))
          have hR120 := (hR112.ext hS116 (fun g hg hx => Or.elim hx (fun hx => (fun g hg hx => hR112.box hR113 (hg.trans (congrArg some hx))) g hg hx) (fun hx => Or.elim hx (fun hx => (Own.ne_type hR112 hR114 (by decide)) g hg hx) (fun hx => (fun g hg => hR115.own hR112 g hg) g hg hx))))
          refine BackQ.mk (a28, b28, found28, (i28 + 1), (addL y28 ((ix y20.1.1 i28).1) ((ix y20.1.1 i28).2)), (addM y28 y28' ((ix y20.1.1 i28).1) ((ix y20.1.1 i28).2))) [(2, u2_28), (3, u3_28), (4, (.bool found28)), (28, (.int .i64 (i28 + 1)))] ?_ ?_ ?_ ?_
          rotate_left
          · exact h.2
          · repeat (first | exact Off.lay0 rfl | refine Off.updO ?_ rfl _ | refine Off.updN ?_ _ | refine Off.lay ?_ rfl)
          · repeat (first | exact trivial | refine ⟨rfl, ?_⟩)
          exact ⟨K116, u2_28, u3_28, u116_0_0, u116_0_1, h.1, rfl, (((((((((Ext.refl _ _ _).comp hX29 (fun c hx hlt => Or.elim hx (fun hx => (.inl (hx))) (fun hx => Or.elim hx (fun hx => (.inr (.inl (hx)))) (fun hx => Or.elim hx (fun hx => (.inr (.inr (.inl (hx))))) (fun hx => Or.elim hx (fun hx => (.inr (.inr (.inr (.inl (hx)))))) (fun hx => (.inr (.inr (.inr (.inr (hx))))))))))).andN hS36).comp hS38 (fun c hx hlt => (by subst hx; exact absurd hlt (Nat.not_lt.2 (Nat.le_trans hX29.size hge36))))).andN hS39).andN hS49).andN hS64).andN hS103).comp hS116 (fun c hx hlt => Or.elim hx (fun hx => (.inr (.inr (.inr (.inr (hx)))))) (fun hx => Or.elim hx (fun hx => ((((ho28_z7_0_0 c hx).elim (fun hz => (.inl hz)) (fun hz => .inr (Nat.le_trans (Nat.le_refl _) hz))) : ob z7_0_0_10 = some c ∨ w11.heap.size ≤ c).elim (fun hx => (.inr (.inr (.inl (hx))))) (fun hz => absurd hlt (Nat.not_lt.2 hz)))) (fun hx => ((((ho28_z7_0_1 c hx).elim (fun hz => (.inl hz)) (fun hz => .inr (Nat.le_trans (Nat.le_refl _) hz))) : mb z7_0_1_10 = some c ∨ w11.heap.size ≤ c).elim (fun hx => (.inr (.inr (.inr (.inl (hx)))))) (fun hz => absurd hlt (Nat.not_lt.2 hz))))))), hM116, (inc_wf hw28_28 hd30 (len_wf (hV26).wf.1)), hR119, (fun g hg => ((ho28_u2 g hg).elim (fun hz => (.inl hz)) (fun hz => .inr (Nat.le_trans (Nat.le_refl _) hz)))), hR120, (fun g hg => ((ho28_u3 g hg).elim (fun hz => (.inl hz)) (fun hz => .inr (Nat.le_trans (Nat.le_refl _) hz)))), hu116_0_0, (fun g hg => ((hxu116_0_0 g hg).elim (fun hz => ((ho28_z7_0_0 g hz).elim (fun hz => (.inl hz)) (fun hz => .inr (Nat.le_trans (Nat.le_refl _) hz)))) (fun hz => .inr (Nat.le_trans (Nat.le_trans hX29.size (Nat.le_trans hS36.size (Nat.le_trans hS38.size (Nat.le_trans hS39.size (Nat.le_trans hS49.size (Nat.le_trans hS64.size hS103.size)))))) hz)))), hu116_0_1, (fun g hg => ((hxu116_0_1 g hg).elim (fun hz => ((ho28_z7_0_1 g hz).elim (fun hz => (.inl hz)) (fun hz => .inr (Nat.le_trans (Nat.le_refl _) hz)))) (fun hz => .inr (Nat.le_trans (Nat.le_trans hX29.size (Nat.le_trans hS36.size (Nat.le_trans hS38.size (Nat.le_trans hS39.size (Nat.le_trans hS49.size (Nat.le_trans hS64.size hS103.size)))))) hz)))), hB116_w, hs28_u2_u3⟩
      · have hd30 : ¬ (i28 < (y20.1.1.length : Int)) := dec_f hc30
        have h := h.2 hd30
        refine WP_exit ?_
        refine WP_region ?_
        refine WL_pure (.int .i64 (IntKind.i64.wrap (i10 + 1))) (R_add rfl rfl) rfl rfl ?_
        refine WL_pure (.int .i64 (IntKind.i64.wrap (i10 + 1))) (R_mv rfl) rfl rfl ?_
        refine WL_nil ?_
        refine BackQ.mk (a28, b28, found28, (IntKind.i64.wrap (i10 + 1)), y28, y28') [(2, u2_28), (3, u3_28), (4, (.bool found28)), (16, (.int .i64 (IntKind.i64.wrap (i10 + 1))))] ?_ ?_ ?_ ?_
        rotate_left
        · exact h.2
        · repeat (first | exact Off.lay0 rfl | refine Off.updO ?_ rfl _ | refine Off.updN ?_ _ | refine Off.lay ?_ rfl)
        · repeat (first | exact trivial | refine ⟨rfl, ?_⟩)
        exact ⟨K29, u2_28, u3_28, z7_0_0_28, z7_0_1_28, h.1, rfl, (((Ext.refl _ _ _).comp hX11 (fun c hx hlt => Or.elim hx (fun hx => (.inl (hx))) (fun hx => Or.elim hx (fun hx => (.inl (hx))) (fun hx => Or.elim hx (fun hx => (absurd hlt (Nat.not_lt.2 (nilS hx)))) (fun hx => Or.elim hx (fun hx => (absurd hlt (Nat.not_lt.2 (nilM hx)))) (fun hx => (.inr (.inr (.inr (.inr (hx))))))))))).comp hX29 (fun c hx hlt => Or.elim hx (fun hx => ((((ho10_u2 c hx).elim (fun hz => (.inl hz)) (fun hz => .inr (Nat.le_trans (Nat.le_refl _) hz))) : ob (.slice none 0 0) = some c ∨ w6.heap.size ≤ c).elim (fun hx => (.inl (hx))) (fun hz => absurd hlt (Nat.not_lt.2 hz)))) (fun hx => Or.elim hx (fun hx => ((((ho10_u3 c hx).elim (fun hz => (.inl hz)) (fun hz => .inr (Nat.le_trans (Nat.le_refl _) hz))) : ob (.slice none 0 0) = some c ∨ w6.heap.size ≤ c).elim (fun hx => (.inl (hx))) (fun hz => absurd hlt (Nat.not_lt.2 hz)))) (fun hx => Or.elim hx (fun hx => (absurd hlt (Nat.not_lt.2 ((ho10_z7_0_0 c hx).elim (fun hz => (nilS hz)) (fun hz => (Nat.le_trans (Nat.le_refl _) hz)))))) (fun hx => Or.elim hx (fun hx => (absurd hlt (Nat.not_lt.2 ((ho10_z7_0_1 c hx).elim (fun hz => (nilM hz)) (fun hz => (Nat.le_trans (Nat.le_refl _) hz)))))) (fun hx => (.inr (.inr (.inr (.inr (hx))))))))))), hM29, (wrap_wf _ _), hL28_u2, (fun g hg => ((ho28_u2 g hg).elim (fun hz => ((ho10_u2 g hz).elim (fun hz => (.inl hz)) (fun hz => .inr (Nat.le_trans (Nat.le_refl _) hz)))) (fun hz => .inr (Nat.le_trans hX11.size hz)))), hL28_u3, (fun g hg => ((ho28_u3 g hg).elim (fun hz => ((ho10_u3 g hz).elim (fun hz => (.inl hz)) (fun hz => .inr (Nat.le_trans (Nat.le_refl _) hz)))) (fun hz => .inr (Nat.le_trans hX11.size hz)))), hL28_z7_0_0, (fun g hg => .inr ((ho28_z7_0_0 g hg).elim (fun hz => ((ho10_z7_0_0 g hz).elim (fun hz => (nilS hz)) (fun hz => (Nat.le_trans (Nat.le_refl _) hz)))) (fun hz => (Nat.le_trans hX11.size hz)))), hL28_z7_0_1, (fun g hg => .inr ((ho28_z7_0_1 g hg).elim (fun hz => ((ho10_z7_0_1 g hz).elim (fun hz => (nilM hz)) (fun hz => (Nat.le_trans (Nat.le_refl _) hz)))) (fun hz => (Nat.le_trans hX11.size hz)))), hL28_7, hs28_u2_u3⟩
  · have hd14 : ¬ (i10 < (a0_l.length : Int)) := dec_f hc14
    have h := h.2 hd14
    refine WP_exit ?_
    refine WP_seq ?_
    refine WP_region ?_
    have hR121 : Own Kd.byte 5 w11 K11 ([] : List UInt8) (.slice none 0 0) := Own.nil
    refine WL_pure (.slice none 0 0) (R_as rfl) rfl rfl ?_
    have hR122 : Own Kd.byte 5 w11 K11 ([] : List UInt8) (.slice none 0 0) := Own.nil
    refine WL_pure (.slice none 0 0) (R_as rfl) rfl rfl ?_
    refine WL_pure (.bool false) (R_as rfl) rfl rfl ?_
    refine WL_nil ?_
    refine WP_ret ?_
    exact endR_ret hR (v := (.tuple #[(.slice none 0 0), (.slice none 0 0), (.bool false)])) (resE_3 rfl rfl rfl rfl) ⟨K11, (.slice none 0 0), (.slice none 0 0), (.bool false), ([] : List UInt8), ([] : List UInt8), false, rfl, h, hE11, hM11, hR121.V, hR122.V, bool_V⟩
theorem Clash_c {w0 : World} {K0 : Ghost} {a0_l_v : Value} {a0_l : (List (Option (((List ((List UInt8) × (List UInt8))) × Unit) × Int)))} (hM0 : Models w0 K0) (h_a0_l : kd_l_p_Sseal_BookF.V K0 a0_l a0_l_v) (hp : clashPre a0_l) : Calls Try.prog 39 #[a0_l_v] w0 (fun e w' => ∃ (K' : Ghost) (r0 : Value) (r1 : Value) (r2 : Value), e = .returned (.tuple #[r0, r1, r2]) ∧ Ext NX w0 K0 w' K' ∧ Models w' K' ∧ kd_l_u8.V K' ((clashA a0_l).1) r0 ∧ kd_l_u8.V K' ((clashA a0_l).2.1) r1 ∧ Kd.bool.V K' ((clashA a0_l).2.2) r2) := by
  refine (Clash_walk hM0 h_a0_l (Clash_ok h_a0_l.wf hp)).mono ?_
  rintro _ w' ⟨K', r0, r1, r2, o0, o1, o2, rfl, ⟨rfl, rfl, rfl⟩, hF⟩
  exact ⟨K', r0, r1, r2, rfl, hF⟩
end Go.Proofs.Ytkffegaofdpkiaa

/- Package seal, out of the old form. -/
set_option linter.unusedVariables false
set_option maxRecDepth 100000
set_option maxHeartbeats 2000000
namespace Go.Proofs.Ytkffegaofdpkiaa
open Go Go.RowKit Go.Inc
noncomputable def Of_C : Ctr := ⟨[.bk 80 true, .v (.int .i64), .v (.sl (.sl .byte))], [.v (.arr 32 .byte)], some (fun a => (fun (a0_k : BookA) (a1_kind : Int) (a2_parts : List (List UInt8)) => (1 + blobRoom a2_parts ≤ 140737488355328 ∧ bookRoom a0_k : Prop)) a.1 a.2.1 a.2.2.1), fun a => (fun (a0_k : BookA) (a1_kind : Int) (a2_parts : List (List UInt8)) => (((sealOf a1_kind a2_parts), ()), ((bookOf a0_k a1_kind a2_parts), ()))) a.1 a.2.1 a.2.2.1⟩
theorem Of_k : Of_C.valid Try.prog 63 := br_bk (fun _ => rfl) (fun _ => rfl) fun a hp θ v F vs w K hM hB hv => by
  obtain ⟨v1, vs, rfl, h1, v2, vs, rfl, h2, hnil⟩ := hv
  have hnil' : vs = [] := hnil
  subst hnil'
  refine (Of_c hM hB (rel_out (t := .int .i64) h1 rfl) (rel_out (t := .sl (.sl .byte)) h2 rfl) hp).mono ?_
  rintro ed w' ⟨K', r0, F0, rfl, hE, hM', hr, hB', hg⟩
  exact ⟨K', [r0], F0, rfl, hE, hM', fun θ' => relL1 (SVal.of_rel (t := .arr 32 .byte) hr), hB', hg⟩
noncomputable def CallsO_C : Ctr := ⟨[.bk 80 false], [.v (.int .i64)], none, fun a => (fun (a0_k : BookA) => (((bookCalls a0_k), ()), (()))) a.1⟩
theorem CallsO_k : CallsO_C.valid Try.prog 28 := br_bkr (fun _ => rfl) (fun _ => rfl) fun a hp θ v F vs w K hM hB hv => by
  have hnil' : vs = [] := hv
  subst hnil'
  refine (CallsO_c hM hB).mono ?_
  rintro ed w' ⟨K', r0, rfl, hE, hM', hr⟩
  exact ⟨K', [r0], rfl, hE, hM', fun θ' => relL1 (SVal.of_rel (t := .int .i64) hr)⟩
noncomputable def Clash_C : Ctr := ⟨[.v (.sl (.ptr (.pr (.pr (.sl (.pr (.arr 32 .byte) (.sl .byte))) .anm) (.int .i64))))], [.v (.sl .byte), .v (.sl .byte), .v .bool], some (fun a => (fun (a0_l : List (Option (((List ((List UInt8) × (List UInt8))) × Unit) × Int))) => (clashPre a0_l : Prop)) a.1), fun a => (fun (a0_l : List (Option (((List ((List UInt8) × (List UInt8))) × Unit) × Int))) => (((clashA a0_l).1, (clashA a0_l).2.1, (clashA a0_l).2.2, ()), (()))) a.1⟩
theorem Clash_k : Clash_C.valid Try.prog 39 := br_v (fun _ => rfl) (fun _ => rfl) fun a hp θ vs w K hM hv => by
  obtain ⟨v1, vs, rfl, h1, hnil⟩ := hv
  have hnil' : vs = [] := hnil
  subst hnil'
  refine (Clash_c hM (rel_out (t := .sl (.ptr (.pr (.pr (.sl (.pr (.arr 32 .byte) (.sl .byte))) .anm) (.int .i64)))) h1 rfl) hp).mono ?_
  rintro ed w' ⟨K', r0, r1, r2, rfl, hE, hM', hr0, hr1, hr2⟩
  exact ⟨K', [r0, r1, r2], rfl, hE, hM', ⟨r0, _, rfl, SVal.of_rel (t := .sl .byte) hr0, r1, _, rfl, SVal.of_rel (t := .sl .byte) hr1, relL1 (SVal.of_rel (t := .bool) hr2)⟩⟩
end Go.Proofs.Ytkffegaofdpkiaa

/- Each function that stands here: what it is asked and leaves (_C), its condition (_VC), that it holds (_ok), its contract (_c). -/
set_option linter.unusedVariables false
set_option maxRecDepth 100000
set_option maxHeartbeats 20000000
namespace Go.Proofs.Ytkffegaofdpkiaa
open Go Go.RowKit Go.Inc
noncomputable def Half_C : Ctr := ⟨[.v (.int .i64)], [.v (.int .i64)], none, fun a => (fun (a0_n : Int) => ((((half a0_n.toNat : Nat) : Int), ()), (()))) a.1⟩
noncomputable def Half_X : Fx := ⟨seat, some bkT, fns, [], [], [], []⟩
def Half_VC (a0_n : Int) (Q : Int → Prop) : Prop :=
  (a0_n < (2 : Int) → Q (0 : Int)) ∧ (¬a0_n < (2 : Int) → ∃ (x0 : Int → Prop), ∃ (x1 : Int → Nat), x0 (1 : Int) ∧ ∀ (x2 : Int), x0 x2 → (Kd.int IntKind.i64).wf x2 → (x2 ≤ IntKind.i64.wrap ((IntKind.i64.wrap (a0_n - (1 : Int))).tdiv (2 : Int)) → x0 (IntKind.i64.wrap (x2 * (2 : Int))) ∧ x1 (IntKind.i64.wrap (x2 * (2 : Int))) < x1 x2) ∧ (¬x2 ≤ IntKind.i64.wrap ((IntKind.i64.wrap (a0_n - (1 : Int))).tdiv (2 : Int)) → Q x2))
theorem Half_ok {a0_n : Int} (w_0 : (Ty.kd (.int .i64)).wf a0_n) : Half_VC a0_n (fun o0 => o0 = ((half a0_n.toNat : Nat) : Int)) := by
  have hn1 : a0_n ≤ 9223372036854775807 := w_0.2
  unfold Half_VC
  refine ⟨fun h => ?_, fun h => ?_⟩
  · rw [half_small (by omega)]
    rfl
  · have e1 : IntKind.i64.wrap (a0_n - 1) = a0_n - 1 := wrap_id (wf64 (by omega) (by omega))
    have e2 : (a0_n - 1).tdiv 2 = (a0_n - 1) / 2 := Int.tdiv_eq_ediv_of_nonneg (by omega)
    have e3 : IntKind.i64.wrap ((a0_n - 1) / 2) = (a0_n - 1) / 2 := wrap_id (wf64 (by omega) (by omega))
    rw [e1, e2, e3]
    refine ⟨fun h => ∃ j p : Nat, p = 2 ^ j ∧ h = (p : Int) ∧ (p : Int) < a0_n, fun h => (a0_n - h).toNat, ⟨0, 1, rfl, rfl, by omega⟩, ?_⟩
    rintro x ⟨j, p, hp, rfl, hlt⟩ _
    have hp1 : 1 ≤ p := by rw [hp]; exact Nat.one_le_two_pow
    refine ⟨fun hle => ?_, fun hgt => ?_⟩
    · have e4 : IntKind.i64.wrap ((p : Int) * 2) = ((2 * p : Nat) : Int) := by
        rw [wrap_id (wf64 (by omega) (by omega))]
        omega
      rw [e4]
      exact ⟨⟨j + 1, 2 * p, by rw [hp, Nat.pow_succ]; omega, rfl, by omega⟩, by show (a0_n - ((2 * p : Nat) : Int)).toNat < (a0_n - (p : Int)).toNat; omega⟩
    · have := half_of (n := a0_n.toNat) (j := j) (by rw [← hp]; omega) (by rw [Nat.pow_succ, ← hp]; omega)
      show (p : Int) = ((half a0_n.toNat : Nat) : Int)
      rw [this, ← hp]
theorem Half_eq : (∀ a, Half_C.pre a → PM.wfP Half_C.pm a (fvc Half_X 200 21 Half_C a (eqO Half_C a))) = (∀ a : Int × Unit, True → (Ty.kd (.int .i64)).wf a.1 → Half_VC a.1 (fun o0 => o0 = ((half (a.1).toNat : Nat) : Int))) := by kernel_rfl
theorem Half_k : Half_C.valid Try.prog 21 := ctr_of (X := Half_X) (ok_of seat_ok (fun b hb => by cases hb; exact bkT_ok) fns_ok trivial) 200 (Half_eq.mpr fun a hp w_0 => @Half_ok a.1 w_0)
noncomputable def tnode_C : Ctr := ⟨[.bk 80 true, .v (.sl (.arr 32 .byte))], [.v (.arr 32 .byte)], some (fun a => (fun (a0_k : BookA) (a1_l : List (List UInt8)) => (a1_l.length ≤ 1048576 ∧ bookRoom a0_k : Prop)) a.1 a.2.1), fun a => (fun (a0_k : BookA) (a1_l : List (List UInt8)) => (((sealOf 2 a1_l), ()), ((bookOf a0_k 2 a1_l), ()))) a.1 a.2.1⟩
noncomputable def tnode_X : Fx := ⟨seat, some bkT, fns, [(63, Of_C)], [], [], []⟩
def tnode_VC (a0_k : BookA) (a1_l : List (List UInt8)) (Q : (List UInt8) → BookA → Prop) : Prop :=
  ∃ (x0 : List (List UInt8) → Int → Prop), ∃ (x1 : List (List UInt8) → Int → Nat), x0 ([] : List (List UInt8)) (0 : Int) ∧ ∀ (x2 : List (List UInt8)) (x3 : Int), x0 x2 x3 → Ty.byte.sl.kd.sl.wf x2 → (Kd.int IntKind.i64).wf x3 → (x3 < (a1_l.length : Int) → ((0 : Int) ≤ x3 ∧ x3 < (a1_l.length : Int)) ∧ (x2.length + (ix a1_l x3 :: ([] : List (List UInt8))).length) * (24 : Nat) ≤ (140737488355328 : Nat) ∧ x3 < (9223372036854775807 : Int) ∧ x0 (x2 ++ ix a1_l x3 :: ([] : List (List UInt8))) (x3 + (1 : Int)) ∧ x1 (x2 ++ ix a1_l x3 :: ([] : List (List UInt8))) (x3 + (1 : Int)) < x1 x2 x3) ∧ (¬x3 < (a1_l.length : Int) → ((1 : Nat) + blobRoom x2 ≤ (140737488355328 : Nat) ∧ bookRoom a0_k) ∧ ((Ty.arr (32 : Nat) Ty.byte).kd.wf (sealOf (2 : Int) x2) → Q (sealOf (2 : Int) x2) (bookOf a0_k (2 : Int) x2)))
theorem tnode_ok {a0_k : BookA} {a1_l : List (List UInt8)} (w_0 : (Ty.kd (.sl (.arr 32 .byte))).wf a1_l) (hp : a1_l.length ≤ 1048576 ∧ bookRoom a0_k) : tnode_VC a0_k a1_l (fun o0 o1 => o0 = (sealOf 2 a1_l) ∧ o1 = (bookOf a0_k 2 a1_l)) := by
  unfold tnode_VC
  refine ⟨fun parts i => ∃ j : Nat, i = (j : Int) ∧ j ≤ a1_l.length ∧ parts = a1_l.take j, fun _ i => a1_l.length - i.toNat, ⟨0, rfl, by omega, rfl⟩, ?_⟩
  rintro parts i ⟨j, rfl, hj, rfl⟩ _ _
  have hp1 := hp.1
  refine ⟨fun hlt => ⟨⟨by omega, hlt⟩, by simp only [List.length_take, List.length_cons, List.length_nil]; omega, by omega, ⟨j + 1, by omega, by omega, (take_step hlt).symm⟩, by show a1_l.length - ((j : Int) + 1).toNat < a1_l.length - (j : Int).toNat; omega⟩, fun hge => ?_⟩
  have : j = a1_l.length := by omega
  subst this
  rw [List.take_length]
  have hr := blobRoom32 (l := a1_l) (fun x hx => (w_0.2 x hx).1)
  exact ⟨⟨by omega, hp.2⟩, fun _ => ⟨rfl, rfl⟩⟩
theorem tnode_eq : (∀ a, tnode_C.pre a → PM.wfP tnode_C.pm a (fvc tnode_X 200 46 tnode_C a (eqO tnode_C a))) = (∀ a : BookA × (List (List UInt8)) × Unit, ((a.2.1).length ≤ 1048576 ∧ bookRoom (a.1)) → (Ty.kd (.sl (.arr 32 .byte))).wf a.2.1 → tnode_VC a.1 a.2.1 (fun o0 o1 => o0 = (sealOf 2 (a.2.1)) ∧ o1 = (bookOf (a.1) 2 (a.2.1)))) := by kernel_rfl
theorem tnode_k : tnode_C.valid Try.prog 46 := ctr_of (X := tnode_X) (ok_of seat_ok (fun b hb => by cases hb; exact bkT_ok) fns_ok ⟨Of_k, trivial⟩) 200 (tnode_eq.mpr fun a hp w_0 => @tnode_ok a.1 a.2.1 w_0 hp)
noncomputable def Root_C : Ctr := ⟨[.bk 80 true, .v (.sl (.arr 32 .byte))], [.v (.arr 32 .byte)], some (fun a => (fun (a0_k : BookA) (a1_l : List (List UInt8)) => (a1_l.length ≤ 1048576 ∧ bookUpto a0_k a1_l.length : Prop)) a.1 a.2.1), fun a => (fun (a0_k : BookA) (a1_l : List (List UInt8)) => (((rootS a1_l), ()), ((rootBk a0_k a1_l), ()))) a.1 a.2.1⟩
noncomputable def Root_Cn (nn : Nat) : Ctr := ⟨[.bk 80 true, .v (.sl (.arr 32 .byte))], [.v (.arr 32 .byte)], some (fun a => (fun (a0_k : BookA) (a1_l : List (List UInt8)) => ((a1_l.length ≤ 1048576 ∧ bookUpto a0_k a1_l.length) ∧ a1_l.length < nn : Prop)) a.1 a.2.1), fun a => (fun (a0_k : BookA) (a1_l : List (List UInt8)) => (((rootS a1_l), ()), ((rootBk a0_k a1_l), ()))) a.1 a.2.1⟩
noncomputable def Root_X (nn : Nat) : Fx := ⟨seat, some bkT, fns, [(25, Root_Cn nn), (46, tnode_C), (21, Half_C)], [], [], [(8, [0, 1], [.o 0 3, .o 1 3, .o 2 2, .o 3 2, .o 4 2, .o 5 2, .o 6 1, .o 7 1, .o 8 1, .o 9 1])]⟩
def Root_VC (nn : Nat) (a0_k : BookA) (a1_l : List (List UInt8)) (Q : (List UInt8) → BookA → Prop) : Prop :=
  ((a1_l.length : Int) = (0 : Int) → (([] : List (List UInt8)).length ≤ (1048576 : Nat) ∧ bookRoom a0_k) ∧ ((Ty.arr (32 : Nat) Ty.byte).kd.wf (sealOf (2 : Int) ([] : List (List UInt8))) → Q (sealOf (2 : Int) ([] : List (List UInt8))) (bookOf a0_k (2 : Int) ([] : List (List UInt8))))) ∧ (¬(a1_l.length : Int) = (0 : Int) → ((a1_l.length : Int) = (1 : Int) → ((0 : Int) ≤ (0 : Int) ∧ (0 : Int) < (a1_l.length : Int)) ∧ Q (ix a1_l (0 : Int)) a0_k) ∧ (¬(a1_l.length : Int) = (1 : Int) → (Ty.int IntKind.i64).kd.wf (half (a1_l.length : Int).toNat : Int) → ((0 : Int) ≤ (half (a1_l.length : Int).toNat : Int) ∧ (half (a1_l.length : Int).toNat : Int) ≤ (a1_l.length : Int)) ∧ (((List.take (half (a1_l.length : Int).toNat : Int).toNat a1_l).length ≤ (1048576 : Nat) ∧ bookUpto a0_k (List.take (half (a1_l.length : Int).toNat : Int).toNat a1_l).length) ∧ (List.take (half (a1_l.length : Int).toNat : Int).toNat a1_l).length < nn) ∧ ((Ty.arr (32 : Nat) Ty.byte).kd.wf (rootS (List.take (half (a1_l.length : Int).toNat : Int).toNat a1_l)) → ((0 : Int) ≤ (half (a1_l.length : Int).toNat : Int) ∧ (half (a1_l.length : Int).toNat : Int) ≤ (a1_l.length : Int)) ∧ (((List.drop (half (a1_l.length : Int).toNat : Int).toNat a1_l).length ≤ (1048576 : Nat) ∧ bookUpto (rootBk a0_k (List.take (half (a1_l.length : Int).toNat : Int).toNat a1_l)) (List.drop (half (a1_l.length : Int).toNat : Int).toNat a1_l).length) ∧ (List.drop (half (a1_l.length : Int).toNat : Int).toNat a1_l).length < nn) ∧ ((Ty.arr (32 : Nat) Ty.byte).kd.wf (rootS (List.drop (half (a1_l.length : Int).toNat : Int).toNat a1_l)) → ((rootS (List.take (half (a1_l.length : Int).toNat : Int).toNat a1_l) :: rootS (List.drop (half (a1_l.length : Int).toNat : Int).toNat a1_l) :: ([] : List (List UInt8))).length ≤ (1048576 : Nat) ∧ bookRoom (rootBk (rootBk a0_k (List.take (half (a1_l.length : Int).toNat : Int).toNat a1_l)) (List.drop (half (a1_l.length : Int).toNat : Int).toNat a1_l))) ∧ ((Ty.arr (32 : Nat) Ty.byte).kd.wf (sealOf (2 : Int) (rootS (List.take (half (a1_l.length : Int).toNat : Int).toNat a1_l) :: rootS (List.drop (half (a1_l.length : Int).toNat : Int).toNat a1_l) :: ([] : List (List UInt8)))) → Q (sealOf (2 : Int) (rootS (List.take (half (a1_l.length : Int).toNat : Int).toNat a1_l) :: rootS (List.drop (half (a1_l.length : Int).toNat : Int).toNat a1_l) :: ([] : List (List UInt8)))) (bookOf (rootBk (rootBk a0_k (List.take (half (a1_l.length : Int).toNat : Int).toNat a1_l)) (List.drop (half (a1_l.length : Int).toNat : Int).toNat a1_l)) (2 : Int) (rootS (List.take (half (a1_l.length : Int).toNat : Int).toNat a1_l) :: rootS (List.drop (half (a1_l.length : Int).toNat : Int).toNat a1_l) :: ([] : List (List UInt8)))))))))
theorem Root_ok {nn : Nat} {a0_k : BookA} {a1_l : List (List UInt8)} (w_0 : (Ty.kd (.sl (.arr 32 .byte))).wf a1_l) (hp : (a1_l.length ≤ 1048576 ∧ bookUpto a0_k a1_l.length) ∧ a1_l.length < nn + 1) : Root_VC nn a0_k a1_l (fun o0 o1 => o0 = (rootS a1_l) ∧ o1 = (rootBk a0_k a1_l)) := by
  unfold Root_VC
  simp only [Int.toNat_natCast]
  refine ⟨fun h => ⟨⟨by simp, hp.1.2.room⟩, fun _ => ?_⟩, fun h => ⟨fun h1 => ⟨⟨by omega, by omega⟩, ?_⟩, fun h1 _ => ?_⟩⟩
  · have e : a1_l = [] := List.length_eq_zero_iff.1 (by omega)
    subst e
    rw [rootS_nil, rootBk_nil]
    exact ⟨rfl, rfl⟩
  · obtain ⟨x, rfl⟩ := List.length_eq_one_iff.1 (by omega : a1_l.length = 1)
    rw [rootS_one, rootBk_one]
    exact ⟨rfl, rfl⟩
  · have b2 : 2 ≤ a1_l.length := by omega
    have a1 := half_pos b2
    have a2 := half_lt b2
    have hp1 := hp.1.1
    have hp2 := hp.2
    have l1 : (a1_l.take (half a1_l.length)).length = half a1_l.length := by rw [List.length_take]; omega
    have l2 : (a1_l.drop (half a1_l.length)).length = a1_l.length - half a1_l.length := List.length_drop
    have u1 : bookUpto a0_k (a1_l.take (half a1_l.length)).length := hp.1.2.le (by omega)
    have u2 : bookUpto (rootBk a0_k (a1_l.take (half a1_l.length))) (a1_l.drop (half a1_l.length)).length := bookUpto.root _ (Nat.le_refl _) (by omega) (hp.1.2.le (by omega))
    have u3 := (bookUpto.root (n := 0) (l := a1_l.drop (half a1_l.length)) _ (Nat.le_refl _) (by omega) (u2.le (by omega))).room
    refine ⟨⟨by omega, by omega⟩, ⟨⟨by omega, u1⟩, by omega⟩, fun _ => ⟨⟨by omega, by omega⟩, ⟨⟨by omega, u2⟩, by omega⟩, fun _ => ⟨⟨by simp, u3⟩, fun _ => ?_⟩⟩⟩
    rw [rootS_two b2, rootBk_two _ b2]
    exact ⟨rfl, rfl⟩
theorem Root_eq (nn : Nat) : (∀ a, (Root_Cn (nn + 1)).pre a → PM.wfP (Root_Cn (nn + 1)).pm a (fvc (Root_X nn) 200 25 (Root_Cn (nn + 1)) a (eqO (Root_Cn (nn + 1)) a))) = (∀ a : BookA × (List (List UInt8)) × Unit, (((a.2.1).length ≤ 1048576 ∧ bookUpto (a.1) (a.2.1).length) ∧ (a.2.1).length < nn + 1) → (Ty.kd (.sl (.arr 32 .byte))).wf a.2.1 → Root_VC nn a.1 a.2.1 (fun o0 o1 => o0 = (rootS (a.2.1)) ∧ o1 = (rootBk (a.1) (a.2.1)))) := by kernel_rfl
theorem Root_kn : ∀ nn, (Root_Cn nn).valid Try.prog 25
  | 0 => fun a hp => absurd (And.right hp) (Nat.not_lt_zero _)
  | nn + 1 => ctr_of (X := Root_X nn) (ok_of seat_ok (fun b hb => by cases hb; exact bkT_ok) fns_ok ⟨Root_kn nn, tnode_k, Half_k, trivial⟩) 200 ((Root_eq nn).mpr fun a hp w_0 => @Root_ok nn a.1 a.2.1 w_0 hp)
theorem Root_k : Root_C.valid Try.prog 25 := valid_rec Root_kn (fun a hp => ⟨_, And.intro hp (Nat.lt_succ_self _)⟩)
noncomputable def RootN_C : Ctr := ⟨[.nil, .v (.sl (.arr 32 .byte))], [.v (.arr 32 .byte)], some (fun a => (fun (a1_l : List (List UInt8)) => (a1_l.length ≤ 1048576 : Prop)) a.2.1), fun a => (fun (a1_l : List (List UInt8)) => (((rootS a1_l), ()), (()))) a.2.1⟩
theorem RootN_k : RootN_C.valid Try.prog 25 :=
  nil_v Root_k (fun _ => rfl) (fun a θ θ' n n' K vs h => by
    obtain ⟨v0, vs, rfl, h0, h⟩ := h
    exact ⟨v0, _, rfl, SVal.of_rel (t := .sl (.arr 32 .byte)) (rel_out (t := .sl (.arr 32 .byte)) h0 rfl), h⟩) (fun _ => rfl) (fun a hp => ⟨hp, fun y h => by cases h⟩) (fun a _ => rfl)
noncomputable def there_C : Ctr := ⟨[.v (.int .i64), .v (.int .i64)], [.v .bool], none, fun a => (fun (a0_n : Int) (a1_at : Int) => ((decide (0 ≤ a1_at ∧ a1_at < a0_n), ()), (()))) a.1 a.2.1⟩
noncomputable def there_X : Fx := ⟨seat, some bkT, fns, [], [], [], []⟩
def there_VC (a0_n : Int) (a1_at : Int) (Q : Bool → Prop) : Prop :=
  ((0 : Int) ≤ a1_at → Q (decide (a1_at < a0_n))) ∧ (¬(0 : Int) ≤ a1_at → Q false)
theorem there_ok {a0_n : Int} {a1_at : Int} (w_0 : (Ty.kd (.int .i64)).wf a0_n) (w_1 : (Ty.kd (.int .i64)).wf a1_at) : there_VC a0_n a1_at (fun o0 => o0 = decide (0 ≤ a1_at ∧ a1_at < a0_n)) := by
  unfold there_VC
  exact ⟨fun h => by simp [h], fun h => by simp [h]⟩
theorem there_eq : (∀ a, there_C.pre a → PM.wfP there_C.pm a (fvc there_X 200 41 there_C a (eqO there_C a))) = (∀ a : Int × Int × Unit, True → (Ty.kd (.int .i64)).wf a.1 → (Ty.kd (.int .i64)).wf a.2.1 → there_VC a.1 a.2.1 (fun o0 => o0 = decide (0 ≤ (a.2.1) ∧ (a.2.1) < (a.1)))) := by kernel_rfl
theorem there_k : there_C.valid Try.prog 41 := ctr_of (X := there_X) (ok_of seat_ok (fun b hb => by cases hb; exact bkT_ok) fns_ok trivial) 200 (there_eq.mpr fun a hp w_0 w_1 => @there_ok a.1 a.2.1 w_0 w_1)
noncomputable def sides_I : ICtr := ⟨fun xs => match xs with
  | [a0_n, a1_at] => (0 ≤ a1_at ∧ a1_at < a0_n : Prop)
  | _ => False, fun xs => match xs with
  | [a0_n, a1_at] => (sidesN a0_n.toNat a1_at.toNat : List Int)
  | _ => []⟩
noncomputable def sides_X : Fx := ⟨seat, some bkT, fns, [(21, Half_C)], [], [], [(7, [0], [.o 0 2, .o 1 2, .o 2 2, .o 3 3, .o 4 3, .o 5 3, .o 6 1, .z 7])]⟩
def sides_VC (a0_n : Int) (a1_at : Int) : Prop :=
  ∃ (x0 : Nat → List Int → Prop), ∃ (x1 : List Int → Nat), x0 (0 : Nat) (a0_n :: a1_at :: ([] : List Int)) ∧ ∀ (x2 x3 : Nat) (x4 : Int), (Kd.int IntKind.i64).wf x4 → ∀ (x6 : Int), (Kd.int IntKind.i64).wf x6 → x0 x3 (x4 :: x6 :: ([] : List Int)) → ((1 : Int) < x4 → (Ty.int IntKind.i64).kd.wf (half x4.toNat : Int) → ((half x4.toNat : Int) ≤ x6 → (x2 = x2 ∧ (sidesN a0_n.toNat a1_at.toNat)[x3]? = some (1 : Int)) ∧ x2 = x2 ∧ x0 (x3 + (1 : Nat)) (IntKind.i64.wrap (x4 - (half x4.toNat : Int)) :: IntKind.i64.wrap (x6 - (half x4.toNat : Int)) :: ([] : List Int)) ∧ x1 (IntKind.i64.wrap (x4 - (half x4.toNat : Int)) :: IntKind.i64.wrap (x6 - (half x4.toNat : Int)) :: ([] : List Int)) < x1 (x4 :: x6 :: ([] : List Int))) ∧ (¬(half x4.toNat : Int) ≤ x6 → (x2 = x2 ∧ (sidesN a0_n.toNat a1_at.toNat)[x3]? = some (0 : Int)) ∧ x2 = x2 ∧ x0 (x3 + (1 : Nat)) ((half x4.toNat : Int) :: x6 :: ([] : List Int)) ∧ x1 ((half x4.toNat : Int) :: x6 :: ([] : List Int)) < x1 (x4 :: x6 :: ([] : List Int)))) ∧ (¬(1 : Int) < x4 → x3 = (sidesN a0_n.toNat a1_at.toNat).length)
theorem sides_ok {a0_n : Int} {a1_at : Int} (hp : 0 ≤ a1_at ∧ a1_at < a0_n) : (∀ x ∈ (sidesN a0_n.toNat a1_at.toNat : List Int), (Kd.int .i64).wf x) ∧ sides_VC a0_n a1_at := by
  refine ⟨fun x hx => ?_, ?_⟩
  · rcases sidesN_bit _ (Nat.le_refl _) x hx with rfl | rfl <;> exact wf64 (by omega) (by omega)
  unfold sides_VC
  refine ⟨fun j ys => (∀ y ∈ ys, (Kd.int .i64).wf y) → sdI a0_n (sidesN a0_n.toNat a1_at.toNat) j (ys.getD 0 0) (ys.getD 1 0), fun ys => (ys.getD 0 0).toNat, fun _ => ⟨hp.1, hp.2, Int.le_refl _, Nat.zero_le _, rfl⟩, ?_⟩
  intro x2 j n hn a ha hI
  have hI : sdI a0_n (sidesN a0_n.toNat a1_at.toNat) j n a := hI (by
    intro y hy
    rcases List.mem_cons.1 hy with rfl | hy
    · exact hn
    rcases List.mem_cons.1 hy with rfl | hy
    · exact ha
    · cases hy)
  have hn1 := hn.1
  have hn2 := hn.2
  have ha1 := ha.1
  have ha2 := ha.2
  refine ⟨fun hlt _ => ?_, fun hge => sdI_end hI hge⟩
  obtain ⟨b1, b2, b3, b4, b5⟩ := sdI_step hI hlt
  have c1 := hI.1
  have c2 := hI.2.1
  refine ⟨fun hle => ?_, fun hgt => ?_⟩
  · obtain ⟨d1, d2⟩ := b4 hle
    have e1 : IntKind.i64.wrap (n - ((half n.toNat : Nat) : Int)) = n - ((half n.toNat : Nat) : Int) := wrap_id (wf64 (by have : (IntKind.i64.min : Int) = -9223372036854775808 := rfl; omega) (by have : (IntKind.i64.max : Int) = 9223372036854775807 := rfl; omega))
    have e2 : IntKind.i64.wrap (a - ((half n.toNat : Nat) : Int)) = a - ((half n.toNat : Nat) : Int) := wrap_id (wf64 (by omega) (by have : (IntKind.i64.max : Int) = 9223372036854775807 := rfl; omega))
    rw [e1, e2]
    refine ⟨⟨rfl, d1⟩, ?_⟩
    have g : x2 = x2 ∧ ((∀ y ∈ ([n - ((half n.toNat : Nat) : Int), a - ((half n.toNat : Nat) : Int)] : List Int), (Kd.int .i64).wf y) → sdI a0_n (sidesN a0_n.toNat a1_at.toNat) (j + 1) (n - ((half n.toNat : Nat) : Int)) (a - ((half n.toNat : Nat) : Int))) ∧ (n - ((half n.toNat : Nat) : Int)).toNat < n.toNat := ⟨rfl, fun _ => d2, by omega⟩
    exact g
  · obtain ⟨d1, d2⟩ := b5 hgt
    exact ⟨⟨rfl, d1⟩, rfl, fun _ => d2, by show ((half n.toNat : Nat) : Int).toNat < n.toNat; omega⟩
theorem sides_eq (a0_n : Int) (a1_at : Int) : (itVC sides_X 200 61 sides_I [a0_n, a1_at]) = sides_VC a0_n a1_at := by kernel_rfl
theorem sides_i : sides_I.valid Try.prog 61 := iter_of (X := sides_X) (fuel := 200) (ok_of seat_ok (fun b hb => by cases hb; exact bkT_ok) fns_ok ⟨Half_k, trivial⟩) fun xs hp => match xs, hp with
  | [a0_n, a1_at], hp => ⟨(sides_ok hp).1, (sides_eq a0_n a1_at).mpr (sides_ok hp).2⟩
  | [], hp => hp.elim
  | [_], hp => hp.elim
  | _ :: _ :: _ :: _, hp => hp.elim
noncomputable def Depth_C : Ctr := ⟨[.v (.int .i64), .v (.int .i64)], [.v (.int .i64)], none, fun a => (fun (a0_n : Int) (a1_at : Int) => (((depthN a0_n a1_at), ()), (()))) a.1 a.2.1⟩
noncomputable def Depth_X : Fx := ⟨seat, some bkT, fns, [(41, there_C)], [42, 45, 62], [(3, [3], [])], []⟩
def Depth_VC (a0_n : Int) (a1_at : Int) (Q : Int → Prop) : Prop :=
  (¬decide ((0 : Int) ≤ a1_at ∧ a1_at < a0_n) = true → Q (0 : Int)) ∧ (decide ((0 : Int) ≤ a1_at ∧ a1_at < a0_n) = true → ((0 : Int) ≤ a1_at ∧ a1_at < a0_n) ∧ ∃ (x0 : Nat → List Int → Unit → Prop), x0 (0 : Nat) ([] : List Int) (Ty.hsl (3 : Nat) (Ty.int IntKind.i64)).kd.z ∧ (∀ (x1 : Nat) (x2 : Int), (sidesN a0_n.toNat a1_at.toNat)[x1]? = some x2 → (Kd.int IntKind.i64).wf x2 → ∀ (x5 : List Int) (x6 : Unit), x0 x1 x5 x6 → (Ty.int IntKind.i64).kd.sl.wf x5 → (x5.length + (x2 :: ([] : List Int)).length) * (8 : Nat) ≤ (140737488355328 : Nat) ∧ x0 (x1 + (1 : Nat)) (x5 ++ x2 :: ([] : List Int)) x6) ∧ ∀ (x1 : List Int) (x2 : Unit), x0 (sidesN a0_n.toNat a1_at.toNat).length x1 x2 → (Ty.int IntKind.i64).kd.sl.wf x1 → Q (x1.length : Int))
theorem Depth_ok {a0_n : Int} {a1_at : Int} (w_0 : (Ty.kd (.int .i64)).wf a0_n) (w_1 : (Ty.kd (.int .i64)).wf a1_at) : Depth_VC a0_n a1_at (fun o0 => o0 = (depthN a0_n a1_at)) := by
  have hn1 : a0_n ≤ 9223372036854775807 := w_0.2
  unfold Depth_VC
  refine ⟨fun h => ?_, fun h => ?_⟩
  · have h' : ¬ ((0 : Int) ≤ a1_at ∧ a1_at < a0_n) := fun hh => h (decide_eq_true hh)
    show (0 : Int) = depthN a0_n a1_at
    rw [depthN, if_neg h']
  · have h' := of_decide_eq_true h
    refine ⟨h', fun j l _ => l = (sidesN a0_n.toNat a1_at.toNat).take j, rfl, ?_, ?_⟩
    · rintro j x hx _ l u rfl hw
      have hj := (List.getElem?_eq_some_iff.1 hx).1
      have hlen := sidesN_len 63 (n := a0_n.toNat) (a := a1_at.toNat) (by omega)
      refine ⟨by rw [List.length_take]; simp only [List.length_cons, List.length_nil]; omega, ?_⟩
      show List.take j _ ++ [x] = List.take (j + 1) _
      rw [List.take_add_one, hx]
      rfl
    · rintro l u rfl _
      show ((List.take _ (sidesN a0_n.toNat a1_at.toNat)).length : Int) = depthN a0_n a1_at
      rw [List.take_length, depthN, if_pos h']
theorem Depth_eq : (∀ a, Depth_C.pre a → PM.wfP Depth_C.pm a (fvcR Depth_X [(61, sides_I)] 200 23 Depth_C a (eqO Depth_C a))) = (∀ a : Int × Int × Unit, True → (Ty.kd (.int .i64)).wf a.1 → (Ty.kd (.int .i64)).wf a.2.1 → Depth_VC a.1 a.2.1 (fun o0 => o0 = (depthN (a.1) (a.2.1)))) := by kernel_rfl
theorem Depth_k : Depth_C.valid Try.prog 23 := ctr_ofR (X := Depth_X) (ok_of seat_ok (fun b hb => by cases hb; exact bkT_ok) fns_ok ⟨there_k, trivial⟩) (its := [(61, sides_I)]) ⟨sides_i, trivial⟩ 200 (Depth_eq.mpr fun a hp w_0 w_1 => @Depth_ok a.1 a.2.1 w_0 w_1)
noncomputable def Rev32_C : Ctr := ⟨[.rw 31 (.arr 32 .byte) true], [], none, fun a => (fun (a0_s : List (List UInt8)) => ((()), (a0_s.reverse, ()))) a.1⟩
noncomputable def Rev32_X : Fx := ⟨seat, some bkT, fns, [], [], [(1, [0], [])], [(3, [0], [.o 0 2, .o 1 2, .o 2 3, .o 3 3, .o 4 2, .o 5 2, .o 6 2, .o 7 2, .o 8 2, .o 9 2, .o 10 2, .o 11 2, .o 12 2, .o 13 1, .o 14 3, .o 15 1])]⟩
def Rev32_VC (a0_s : List (List UInt8)) (Q : (List (List UInt8)) → Prop) : Prop :=
  ∃ (x0 : Int → Int → List (List UInt8) → Prop), ∃ (x1 : Int → Int → List (List UInt8) → Nat), x0 (0 : Int) (IntKind.i64.wrap ((a0_s.length : Int) - (1 : Int))) a0_s ∧ ∀ (x2 x3 : Int) (x4 : List (List UInt8)), x0 x2 x3 x4 → (Kd.int IntKind.i64).wf x2 → (Kd.int IntKind.i64).wf x3 → (Ty.arr (32 : Nat) Ty.byte).kd.sl.wf x4 → (x2 < x3 → ((0 : Int) ≤ x3 ∧ x3 < (x4.length : Int)) ∧ ((0 : Int) ≤ x2 ∧ x2 < (x4.length : Int)) ∧ ((0 : Int) ≤ x2 ∧ x2 < (x4.length : Int)) ∧ ((0 : Int) ≤ x3 ∧ x3 < ((x4.set x2.toNat (ix x4 x3)).length : Int)) ∧ x2 < (9223372036854775807 : Int) ∧ x0 (x2 + (1 : Int)) (IntKind.i64.wrap (x3 - (1 : Int))) ((x4.set x2.toNat (ix x4 x3)).set x3.toNat (ix x4 x2)) ∧ x1 (x2 + (1 : Int)) (IntKind.i64.wrap (x3 - (1 : Int))) ((x4.set x2.toNat (ix x4 x3)).set x3.toNat (ix x4 x2)) < x1 x2 x3 x4) ∧ (¬x2 < x3 → Q x4)
theorem Rev32_ok {a0_s : List (List UInt8)} (w_0 : (Ty.kd (.sl (.arr 32 .byte))).wf a0_s) : Rev32_VC a0_s (fun o0 => o0 = a0_s.reverse) := by
  have hL : a0_s.length ≤ LM := w_0.1
  unfold LM at hL
  unfold Rev32_VC
  refine ⟨fun i j x => ∃ k : Nat, i = (k : Int) ∧ j = (a0_s.length : Int) - 1 - (k : Int) ∧ 2 * k ≤ a0_s.length + 1 ∧ x.length = a0_s.length ∧ ∀ t, t < a0_s.length → x[t]? = if t < k ∨ a0_s.length ≤ t + k then a0_s[a0_s.length - 1 - t]? else a0_s[t]?, fun i j _ => (j - i + 1).toNat,
    ⟨0, rfl, by rw [wrap_id (wf64 (by omega) (by omega))]; omega, by omega, rfl, fun t ht => by rw [if_neg (by omega)]⟩, ?_⟩
  rintro i j x ⟨k, rfl, rfl, hk, hl, hx⟩ _ _ _
  refine ⟨fun hlt => ?_, fun hge => ?_⟩
  · have hk1 : k < a0_s.length - 1 - k := by omega
    have ej : (a0_s.length : Int) - 1 - (k : Int) = ((a0_s.length - 1 - k : Nat) : Int) := by omega
    have ew : IntKind.i64.wrap ((a0_s.length : Int) - 1 - (k : Int) - 1) = (a0_s.length : Int) - 1 - ((k + 1 : Nat) : Int) := by
      rw [wrap_id (wf64 (by omega) (by omega))]
      omega
    rw [ew, ej]
    simp only [Int.toNat_natCast]
    have hxk := hx k (by omega)
    rw [if_neg (by omega)] at hxk
    have hxj := hx (a0_s.length - 1 - k) (by omega)
    rw [if_neg (by omega)] at hxj
    have i0 : some (ix x (k : Int)) = a0_s[k]? := by rw [ixN (by omega), ← List.getElem?_eq_getElem, hxk]
    have i1 : some (ix x ((a0_s.length - 1 - k : Nat) : Int)) = a0_s[a0_s.length - 1 - k]? := by rw [ixN (by omega), ← List.getElem?_eq_getElem, hxj]
    refine ⟨⟨by omega, by omega⟩, ⟨by omega, by omega⟩, ⟨by omega, by omega⟩, ⟨by omega, by rw [List.length_set]; omega⟩, by omega, ⟨k + 1, by omega, rfl, by omega, by rw [List.length_set, List.length_set, hl], fun t ht => ?_⟩, ?_⟩
    · by_cases t1 : a0_s.length - 1 - k = t
      · subst t1
        rw [List.getElem?_set_self (by rw [List.length_set]; omega), i0, if_pos (by omega)]
        congr 1
        omega
      · rw [List.getElem?_set_ne t1]
        by_cases t2 : k = t
        · subst t2
          rw [List.getElem?_set_self (by omega), i1, if_pos (by omega)]
        · rw [List.getElem?_set_ne t2, hx t ht]
          have : (t < k ∨ a0_s.length ≤ t + k) ↔ (t < k + 1 ∨ a0_s.length ≤ t + (k + 1)) := by omega
          simp only [this]
    · show ((a0_s.length : Int) - 1 - ((k + 1 : Nat) : Int) - ((k : Int) + 1) + 1).toNat < (((a0_s.length - 1 - k : Nat) : Int) - (k : Int) + 1).toNat
      omega
  · show x = a0_s.reverse
    apply List.ext_getElem?
    intro t
    rcases Nat.lt_or_ge t a0_s.length with ht | ht
    · rw [hx t ht, List.getElem?_reverse ht]
      split
      · rfl
      · have : t = a0_s.length - 1 - t := by omega
        exact congrArg (fun q => a0_s[q]?) this
    · rw [List.getElem?_eq_none (by omega), List.getElem?_eq_none (by rw [List.length_reverse]; omega)]
theorem Rev32_eq : (∀ a, Rev32_C.pre a → PM.wfP Rev32_C.pm a (fvc Rev32_X 200 43 Rev32_C a (eqO Rev32_C a))) = (∀ a : (List (List UInt8)) × Unit, True → (Ty.kd (.sl (.arr 32 .byte))).wf a.1 → Rev32_VC a.1 (fun o0 => o0 = (a.1).reverse)) := by kernel_rfl
theorem Rev32_k : Rev32_C.valid Try.prog 43 := ctr_of (X := Rev32_X) (ok_of seat_ok (fun b hb => by cases hb; exact bkT_ok) fns_ok trivial) 200 (Rev32_eq.mpr fun a hp w_0 => @Rev32_ok a.1 w_0)
noncomputable def PathR_C : Ctr := ⟨[.nil, .v (.sl (.arr 32 .byte)), .v (.int .i64)], [.rw 31 (.arr 32 .byte)], some (fun a => (fun (a1_l : List (List UInt8)) (a2_at : Int) => (a1_l.length ≤ 1048576 : Prop)) a.2.1 a.2.2.1), fun a => (fun (a1_l : List (List UInt8)) (a2_at : Int) => (((pathN a1_l a2_at), ()), (()))) a.2.1 a.2.2.1⟩
noncomputable def PathR_X : Fx := ⟨{ seat with rws := [31] }, some bkT, fns, [(41, there_C), (21, Half_C), (25, RootN_C), (25, Root_C), (43, Rev32_C)], [42], [(6, [2, 4], [])], [(8, [4, 7], [.o 0 2, .o 1 2, .o 2 2, .o 3 2, .o 4 2, .o 8 3, .o 9 3, .o 10 3, .o 5 0, .o 6 0, .o 7 1, .o 11 1, .z 12]), (9, [4, 7], [.o 0 2, .o 1 2, .o 2 2, .o 3 2, .o 4 2, .o 8 3, .o 9 3, .o 10 3, .o 5 0, .o 6 0, .o 7 1, .o 11 1, .z 12])]⟩
def PathR_VC (a1_l : List (List UInt8)) (a2_at : Int) (Q : (List (List UInt8)) → Prop) : Prop :=
  (¬decide ((0 : Int) ≤ a2_at ∧ a2_at < (a1_l.length : Int)) = true → Q ([] : List (List UInt8))) ∧ (decide ((0 : Int) ≤ a2_at ∧ a2_at < (a1_l.length : Int)) = true → ((0 : Int) ≤ a2_at ∧ a2_at < (a1_l.length : Int)) ∧ ∃ (x0 : Nat → List (List UInt8) → List (List UInt8) → Unit → Prop), x0 (0 : Nat) a1_l ([] : List (List UInt8)) (Ty.hsl (31 : Nat) (Ty.arr (32 : Nat) Ty.byte)).kd.z ∧ (∀ (x1 : Nat) (x2 : Int), (sidesN (a1_l.length : Int).toNat a2_at.toNat)[x1]? = some x2 → (Kd.int IntKind.i64).wf x2 → ∀ (x5 x6 : List (List UInt8)) (x7 : Unit), x0 x1 x5 x6 x7 → (Ty.arr (32 : Nat) Ty.byte).sl.kd.wf x5 → (Ty.arr (32 : Nat) Ty.byte).kd.sl.wf x6 → (Ty.int IntKind.i64).kd.wf (half (x5.length : Int).toNat : Int) → (x2 = (0 : Int) → ((0 : Int) ≤ (half (x5.length : Int).toNat : Int) ∧ (half (x5.length : Int).toNat : Int) ≤ (x5.length : Int)) ∧ ((0 : Int) ≤ (half (x5.length : Int).toNat : Int) ∧ (half (x5.length : Int).toNat : Int) ≤ (x5.length : Int)) ∧ (List.drop (half (x5.length : Int).toNat : Int).toNat x5).length ≤ (1048576 : Nat) ∧ ((Ty.arr (32 : Nat) Ty.byte).kd.wf (rootS (List.drop (half (x5.length : Int).toNat : Int).toNat x5)) → (x6.length + (rootS (List.drop (half (x5.length : Int).toNat : Int).toNat x5) :: ([] : List (List UInt8))).length) * (32 : Nat) ≤ (140737488355328 : Nat) ∧ x0 (x1 + (1 : Nat)) (List.take (half (x5.length : Int).toNat : Int).toNat x5) (x6 ++ rootS (List.drop (half (x5.length : Int).toNat : Int).toNat x5) :: ([] : List (List UInt8))) x7)) ∧ (¬x2 = (0 : Int) → ((0 : Int) ≤ (half (x5.length : Int).toNat : Int) ∧ (half (x5.length : Int).toNat : Int) ≤ (x5.length : Int)) ∧ ((0 : Int) ≤ (half (x5.length : Int).toNat : Int) ∧ (half (x5.length : Int).toNat : Int) ≤ (x5.length : Int)) ∧ (List.take (half (x5.length : Int).toNat : Int).toNat x5).length ≤ (1048576 : Nat) ∧ ((Ty.arr (32 : Nat) Ty.byte).kd.wf (rootS (List.take (half (x5.length : Int).toNat : Int).toNat x5)) → (x6.length + (rootS (List.take (half (x5.length : Int).toNat : Int).toNat x5) :: ([] : List (List UInt8))).length) * (32 : Nat) ≤ (140737488355328 : Nat) ∧ x0 (x1 + (1 : Nat)) (List.drop (half (x5.length : Int).toNat : Int).toNat x5) (x6 ++ rootS (List.take (half (x5.length : Int).toNat : Int).toNat x5) :: ([] : List (List UInt8))) x7))) ∧ ∀ (x1 x2 : List (List UInt8)) (x3 : Unit), x0 (sidesN (a1_l.length : Int).toNat a2_at.toNat).length x1 x2 x3 → (Ty.arr (32 : Nat) Ty.byte).sl.kd.wf x1 → (Ty.arr (32 : Nat) Ty.byte).kd.sl.wf x2 → Q x2.reverse)
theorem PathR_ok {a1_l : List (List UInt8)} {a2_at : Int} (w_0 : (Ty.kd (.sl (.arr 32 .byte))).wf a1_l) (w_1 : (Ty.kd (.int .i64)).wf a2_at) (hp : a1_l.length ≤ 1048576) : PathR_VC a1_l a2_at (fun o0 => o0 = (pathN a1_l a2_at)) := by
  unfold PathR_VC
  simp only [Int.toNat_natCast]
  refine ⟨fun h => ?_, fun h => ⟨of_decide_eq_true h, ?_⟩⟩
  · have h' : ¬ ((0 : Int) ≤ a2_at ∧ a2_at < (a1_l.length : Int)) := fun hh => h (decide_eq_true hh)
    show [] = pathN a1_l a2_at
    rw [pathN, if_neg h']
  have h' := of_decide_eq_true h
  have hS := sidesN_len 20 (n := a1_l.length) (a := a2_at.toNat) (by omega)
  have ht := topL_len _ (l := a1_l) (a := a2_at.toNat) (Nat.le_refl _)
  generalize hL : sidesN a1_l.length a2_at.toNat = L at hS ht ⊢
  refine ⟨fun j l out _ => ∃ a : Nat, a < l.length ∧ l.length ≤ a1_l.length ∧ out.length = j ∧ out ++ topL l a = topL a1_l a2_at.toNat ∧ L.drop j = sidesN l.length a ∧ j ≤ L.length, ⟨a2_at.toNat, by omega, Nat.le_refl _, rfl, rfl, hL.symm, Nat.zero_le _⟩, ?_, ?_⟩
  · rintro j x hx _ l out u ⟨a, h1, h2, h3, h4, h5, h6⟩ _ _ _
    obtain ⟨hj, hxe⟩ := List.getElem?_eq_some_iff.1 hx
    rw [List.drop_eq_getElem_cons hj, hxe] at h5
    have hl : 1 < l.length := by
      apply Classical.byContradiction
      intro hn
      rw [sidesN_end hn] at h5
      cases h5
    have a1 := half_pos (n := l.length) (by omega)
    have a2 := half_lt (n := l.length) (by omega)
    have l1 : (l.take (half l.length)).length = half l.length := by rw [List.length_take]; omega
    have l2 : (l.drop (half l.length)).length = l.length - half l.length := List.length_drop
    rcases Nat.lt_or_ge a (half l.length) with ha | ha
    · rw [sidesN_left hl ha] at h5
      obtain ⟨h7, h8⟩ := List.cons.inj h5
      rw [topL_left hl ha] at h4
      refine ⟨fun _ => ⟨⟨by omega, by omega⟩, ⟨by omega, by omega⟩, by omega, fun _ => ⟨by simp only [List.length_cons, List.length_nil]; omega, ⟨a, by omega, by omega, by simp [h3], by rw [← h4]; simp, by rw [l1]; exact h8, hj⟩⟩⟩, fun hn => absurd h7 hn⟩
    · rw [sidesN_right hl ha] at h5
      obtain ⟨h7, h8⟩ := List.cons.inj h5
      rw [topL_right hl ha] at h4
      refine ⟨fun hn => absurd (h7.symm.trans hn) (by decide), fun _ => ⟨⟨by omega, by omega⟩, ⟨by omega, by omega⟩, by omega, fun _ => ⟨by simp only [List.length_cons, List.length_nil]; omega, ⟨a - half l.length, by omega, by omega, by simp [h3], by rw [← h4]; simp, by rw [l2]; exact h8, hj⟩⟩⟩⟩
  · rintro l out u ⟨a, h1, h2, h3, h4, h5, h6⟩ _ _
    rw [List.drop_length] at h5
    rw [topL_end (sidesN_nil h5.symm), List.append_nil] at h4
    show out.reverse = pathN a1_l a2_at
    rw [pathN, if_pos h', h4]
theorem PathR_eq : (∀ a, PathR_C.pre a → PM.wfP PathR_C.pm a (fvcR PathR_X [(61, sides_I)] 200 18 PathR_C a (eqO PathR_C a))) = (∀ a : Unit × (List (List UInt8)) × Int × Unit, ((a.2.1).length ≤ 1048576) → (Ty.kd (.sl (.arr 32 .byte))).wf a.2.1 → (Ty.kd (.int .i64)).wf a.2.2.1 → PathR_VC a.2.1 a.2.2.1 (fun o0 => o0 = (pathN (a.2.1) (a.2.2.1)))) := by kernel_rfl
theorem PathR_k : PathR_C.valid Try.prog 18 := ctr_ofR (X := PathR_X) (ok_of (seat_ok.rows [31]) (fun b hb => by cases hb; exact bkT_ok) fns_ok ⟨there_k, Half_k, RootN_k, Root_k, Rev32_k, trivial⟩) (its := [(61, sides_I)]) ⟨sides_i, trivial⟩ 200 (PathR_eq.mpr fun a hp w_0 w_1 => @PathR_ok a.2.1 a.2.2.1 w_0 w_1 hp)
noncomputable def PathO_C : Ctr := ⟨[.nil, .v (.sl (.arr 32 .byte)), .v (.int .i64)], [.ow 31 (.arr 32 .byte)], some (fun a => (fun (a1_l : List (List UInt8)) (a2_at : Int) => (a1_l.length ≤ 1048576 : Prop)) a.2.1 a.2.2.1), fun a => (fun (a1_l : List (List UInt8)) (a2_at : Int) => (((pathN a1_l a2_at), ()), (()))) a.2.1 a.2.2.1⟩
theorem PathO_k : PathO_C.valid Try.prog 18 := ow_of_rw PathR_k
noncomputable def Lead_C : Ctr := ⟨[.bk 80 true, .v (.int .i64), .v (.int .i64), .v (.arr 32 .byte), .v (.sl (.arr 32 .byte))], [.v (.arr 32 .byte), .v (.int .i64)], some (fun a => (fun (a0_k : BookA) (a1_n : Int) (a2_at : Int) (a3_leaf : List UInt8) (a4_path : List (List UInt8)) => (a4_path.length ≤ 1048576 ∧ bookUpto a0_k a4_path.length : Prop)) a.1 a.2.1 a.2.2.1 a.2.2.2.1 a.2.2.2.2.1), fun a => (fun (a0_k : BookA) (a1_n : Int) (a2_at : Int) (a3_leaf : List UInt8) (a4_path : List (List UInt8)) => (((leadS a1_n a2_at a3_leaf a4_path), (leadE a1_n a2_at a4_path), ()), ((leadK a0_k a1_n a2_at a3_leaf a4_path), ()))) a.1 a.2.1 a.2.2.1 a.2.2.2.1 a.2.2.2.2.1⟩
noncomputable def Lead_X : Fx := ⟨seat, some bkT, fns, [(41, there_C), (23, Depth_C), (46, tnode_C)], [42, 45, 62], [(3, [6], []), (5, [0, 1], [])], []⟩
def Lead_VC (a0_k : BookA) (a1_n : Int) (a2_at : Int) (a3_leaf : List UInt8) (a4_path : List (List UInt8)) (Q : (List UInt8) → Int → BookA → Prop) : Prop :=
  (¬decide ((0 : Int) ≤ a2_at ∧ a2_at < a1_n) = true → Q (List.replicate (32 : Nat) Ty.byte.kd.z) (10 : Int) a0_k) ∧ (decide ((0 : Int) ≤ a2_at ∧ a2_at < a1_n) = true → (Ty.int IntKind.i64).kd.wf (depthN a1_n a2_at) → ((a4_path.length : Int) ≠ depthN a1_n a2_at → Q (List.replicate (32 : Nat) Ty.byte.kd.z) (10 : Int) a0_k) ∧ (¬(a4_path.length : Int) ≠ depthN a1_n a2_at → ((0 : Int) ≤ a2_at ∧ a2_at < a1_n) ∧ ∃ (x0 : Nat → List Int → Unit → Prop), x0 (0 : Nat) ([] : List Int) (Ty.hsl (3 : Nat) (Ty.int IntKind.i64)).kd.z ∧ (∀ (x1 : Nat) (x2 : Int), (sidesN a1_n.toNat a2_at.toNat)[x1]? = some x2 → (Kd.int IntKind.i64).wf x2 → ∀ (x5 : List Int) (x6 : Unit), x0 x1 x5 x6 → (Ty.int IntKind.i64).kd.sl.wf x5 → (x5.length + (x2 :: ([] : List Int)).length) * (8 : Nat) ≤ (140737488355328 : Nat) ∧ x0 (x1 + (1 : Nat)) (x5 ++ x2 :: ([] : List Int)) x6) ∧ ∀ (x1 : List Int) (x2 : Unit), x0 (sidesN a1_n.toNat a2_at.toNat).length x1 x2 → (Ty.int IntKind.i64).kd.sl.wf x1 → ∃ (x5 : Int → BookA → List UInt8 → Prop), ∃ (x6 : Int → BookA → List UInt8 → Nat), x5 (0 : Int) a0_k a3_leaf ∧ ∀ (x7 : Int) (x8 : BookA) (x9 : List UInt8), x5 x7 x8 x9 → (Kd.int IntKind.i64).wf x7 → (Ty.arr (32 : Nat) Ty.byte).kd.wf x9 → (x7 < (a4_path.length : Int) → ((0 : Int) ≤ x7 ∧ x7 < (a4_path.length : Int)) ∧ ((0 : Int) ≤ IntKind.i64.wrap (IntKind.i64.wrap ((x1.length : Int) - (1 : Int)) - x7) ∧ IntKind.i64.wrap (IntKind.i64.wrap ((x1.length : Int) - (1 : Int)) - x7) < (x1.length : Int)) ∧ (ix x1 (IntKind.i64.wrap (IntKind.i64.wrap ((x1.length : Int) - (1 : Int)) - x7)) = (0 : Int) → ((x9 :: ix a4_path x7 :: ([] : List (List UInt8))).length ≤ (1048576 : Nat) ∧ bookRoom x8) ∧ ((Ty.arr (32 : Nat) Ty.byte).kd.wf (sealOf (2 : Int) (x9 :: ix a4_path x7 :: ([] : List (List UInt8)))) → x7 < (9223372036854775807 : Int) ∧ x5 (x7 + (1 : Int)) (bookOf x8 (2 : Int) (x9 :: ix a4_path x7 :: ([] : List (List UInt8)))) (sealOf (2 : Int) (x9 :: ix a4_path x7 :: ([] : List (List UInt8)))) ∧ x6 (x7 + (1 : Int)) (bookOf x8 (2 : Int) (x9 :: ix a4_path x7 :: ([] : List (List UInt8)))) (sealOf (2 : Int) (x9 :: ix a4_path x7 :: ([] : List (List UInt8)))) < x6 x7 x8 x9)) ∧ (¬ix x1 (IntKind.i64.wrap (IntKind.i64.wrap ((x1.length : Int) - (1 : Int)) - x7)) = (0 : Int) → ((ix a4_path x7 :: x9 :: ([] : List (List UInt8))).length ≤ (1048576 : Nat) ∧ bookRoom x8) ∧ ((Ty.arr (32 : Nat) Ty.byte).kd.wf (sealOf (2 : Int) (ix a4_path x7 :: x9 :: ([] : List (List UInt8)))) → x7 < (9223372036854775807 : Int) ∧ x5 (x7 + (1 : Int)) (bookOf x8 (2 : Int) (ix a4_path x7 :: x9 :: ([] : List (List UInt8)))) (sealOf (2 : Int) (ix a4_path x7 :: x9 :: ([] : List (List UInt8)))) ∧ x6 (x7 + (1 : Int)) (bookOf x8 (2 : Int) (ix a4_path x7 :: x9 :: ([] : List (List UInt8)))) (sealOf (2 : Int) (ix a4_path x7 :: x9 :: ([] : List (List UInt8)))) < x6 x7 x8 x9))) ∧ (¬x7 < (a4_path.length : Int) → Q x9 (0 : Int) x8)))
theorem Lead_ok {a0_k : BookA} {a1_n : Int} {a2_at : Int} {a3_leaf : List UInt8} {a4_path : List (List UInt8)} (w_0 : (Ty.kd (.int .i64)).wf a1_n) (w_1 : (Ty.kd (.int .i64)).wf a2_at) (w_2 : (Ty.kd (.arr 32 .byte)).wf a3_leaf) (w_3 : (Ty.kd (.sl (.arr 32 .byte))).wf a4_path) (hp : a4_path.length ≤ 1048576 ∧ bookUpto a0_k a4_path.length) : Lead_VC a0_k a1_n a2_at a3_leaf a4_path (fun o0 o1 o2 => o0 = (leadS a1_n a2_at a3_leaf a4_path) ∧ o1 = (leadE a1_n a2_at a4_path) ∧ o2 = (leadK a0_k a1_n a2_at a3_leaf a4_path)) := by
  have hn1 : a1_n ≤ 9223372036854775807 := w_0.2
  have bad : leadB a1_n a2_at a4_path = false → List.replicate (32 : Nat) Ty.byte.kd.z = leadS a1_n a2_at a3_leaf a4_path ∧ (10 : Int) = leadE a1_n a2_at a4_path ∧ a0_k = leadK a0_k a1_n a2_at a3_leaf a4_path := fun h => by
    unfold leadS leadE leadK
    rw [h]
    exact ⟨rfl, rfl, rfl⟩
  unfold Lead_VC
  refine ⟨fun h => bad (decide_eq_false fun hh => h (decide_eq_true hh.1)), fun h _ => ?_⟩
  have h' := of_decide_eq_true h
  have hd : depthN a1_n a2_at = ((sidesN a1_n.toNat a2_at.toNat).length : Int) := by unfold depthN; rw [if_pos h']
  refine ⟨fun hne => bad (decide_eq_false fun hh => hne (by rw [hd, hh.2])), fun hlen => ?_⟩
  have hP : a4_path.length = (sidesN a1_n.toNat a2_at.toNat).length := by
    have : (a4_path.length : Int) = depthN a1_n a2_at := Classical.byContradiction hlen
    omega
  have hb : leadB a1_n a2_at a4_path = true := decide_eq_true ⟨h', hP⟩
  have hS := sidesN_len 63 (n := a1_n.toNat) (a := a2_at.toNat) (by omega)
  refine ⟨h', fun j l _ => l = (sidesN a1_n.toNat a2_at.toNat).take j, rfl, ?_, ?_⟩
  · rintro j x hx _ l u rfl hw
    have hj := (List.getElem?_eq_some_iff.1 hx).1
    refine ⟨by rw [List.length_take]; simp only [List.length_cons, List.length_nil]; omega, ?_⟩
    show List.take j _ ++ [x] = List.take (j + 1) _
    rw [List.take_add_one, hx]
    rfl
  · rintro l u rfl _
    rw [List.take_length]
    unfold leadS leadE leadK
    rw [hb, if_pos rfl, if_pos rfl, if_pos rfl]
    generalize sidesN a1_n.toNat a2_at.toNat = S at hP hS ⊢
    refine ⟨fun i x s => ∃ j : Nat, i = (j : Int) ∧ j ≤ a4_path.length ∧ bookUpto x (a4_path.length - j) ∧ foldL (S.reverse.drop j) (a4_path.drop j) s = foldL S.reverse a4_path a3_leaf ∧ foldK (S.reverse.drop j) (a4_path.drop j) s x = foldK S.reverse a4_path a3_leaf a0_k, fun i _ _ => ((a4_path.length : Int) - i).toNat, ⟨0, rfl, Nat.zero_le _, hp.2, rfl, rfl⟩, ?_⟩
    rintro i x s ⟨j, rfl, hj, hu, e1, e2⟩ _ _
    refine ⟨fun hlt => ?_, fun hge => ?_⟩
    · have hj1 : j < a4_path.length := by omega
      have hr : j < S.reverse.length := by rw [List.length_reverse]; omega
      have ew : IntKind.i64.wrap (IntKind.i64.wrap ((S.length : Int) - 1) - (j : Int)) = ((S.length - 1 - j : Nat) : Int) := by
        rw [wrap_id (a := (S.length : Int) - 1) (wf64 (by omega) (by omega)), wrap_id (wf64 (by omega) (by omega))]
        omega
      have ev : ix S ((S.length - 1 - j : Nat) : Int) = S.reverse[j] := by rw [ixN (by omega), List.getElem_reverse]
      rw [List.drop_eq_getElem_cons hr, List.drop_eq_getElem_cons hj1] at e1 e2
      rw [ew, ev, ixN hj1]
      simp only [foldL, foldK] at e1 e2
      have hu' : bookUpto x ((a4_path.length - (j + 1)) + 1) := hu.le (by omega)
      refine ⟨⟨by omega, hlt⟩, ⟨by omega, by omega⟩, fun h0 => ?_, fun h0 => ?_⟩
      · rw [if_pos h0] at e1 e2
        rw [if_pos h0] at e2
        exact ⟨⟨by simp, hu.room⟩, fun _ => ⟨by omega, ⟨j + 1, by omega, hj1, hu'.of _ _, e1, e2⟩, by show ((a4_path.length : Int) - ((j : Int) + 1)).toNat < ((a4_path.length : Int) - (j : Int)).toNat; omega⟩⟩
      · rw [if_neg h0] at e1 e2
        rw [if_neg h0] at e2
        exact ⟨⟨by simp, hu.room⟩, fun _ => ⟨by omega, ⟨j + 1, by omega, hj1, hu'.of _ _, e1, e2⟩, by show ((a4_path.length : Int) - ((j : Int) + 1)).toNat < ((a4_path.length : Int) - (j : Int)).toNat; omega⟩⟩
    · have hj1 : j = a4_path.length := by omega
      rw [hj1, List.drop_length] at e1 e2
      have er : S.reverse.drop a4_path.length = [] := List.drop_eq_nil_of_le (by rw [List.length_reverse]; omega)
      rw [er] at e1 e2
      exact ⟨e1, rfl, e2⟩
theorem Lead_eq : (∀ a, Lead_C.pre a → PM.wfP Lead_C.pm a (fvcR Lead_X [(61, sides_I)] 200 26 Lead_C a (eqO Lead_C a))) = (∀ a : BookA × Int × Int × (List UInt8) × (List (List UInt8)) × Unit, ((a.2.2.2.2.1).length ≤ 1048576 ∧ bookUpto (a.1) (a.2.2.2.2.1).length) → (Ty.kd (.int .i64)).wf a.2.1 → (Ty.kd (.int .i64)).wf a.2.2.1 → (Ty.kd (.arr 32 .byte)).wf a.2.2.2.1 → (Ty.kd (.sl (.arr 32 .byte))).wf a.2.2.2.2.1 → Lead_VC a.1 a.2.1 a.2.2.1 a.2.2.2.1 a.2.2.2.2.1 (fun o0 o1 o2 => o0 = (leadS (a.2.1) (a.2.2.1) (a.2.2.2.1) (a.2.2.2.2.1)) ∧ o1 = (leadE (a.2.1) (a.2.2.1) (a.2.2.2.2.1)) ∧ o2 = (leadK (a.1) (a.2.1) (a.2.2.1) (a.2.2.2.1) (a.2.2.2.2.1)))) := by kernel_rfl
theorem Lead_k : Lead_C.valid Try.prog 26 := ctr_ofR (X := Lead_X) (ok_of seat_ok (fun b hb => by cases hb; exact bkT_ok) fns_ok ⟨there_k, Depth_k, tnode_k, trivial⟩) (its := [(61, sides_I)]) ⟨sides_i, trivial⟩ 200 (Lead_eq.mpr fun a hp w_0 w_1 w_2 w_3 => @Lead_ok a.1 a.2.1 a.2.2.1 a.2.2.2.1 a.2.2.2.2.1 w_0 w_1 w_2 w_3 hp)
end Go.Proofs.Ytkffegaofdpkiaa

/- Each function that stands here: what it is asked and leaves (_C), its condition (_VC), that it holds (_ok), its contract (_c). -/
set_option linter.unusedVariables false
set_option maxRecDepth 100000
set_option maxHeartbeats 20000000
namespace Go.Proofs.Ytkffegaofdpkiaa
open Go Go.RowKit Go.Inc
noncomputable def leaves_C : Ctr := ⟨[.v (.int .i64)], [.ow 31 (.arr 32 .byte)], some (fun a => (fun (a0_n : Int) => (a0_n = 5 : Prop)) a.1), fun a => (fun (a0_n : Int) => ((fiveO, ()), (()))) a.1⟩
noncomputable def leaves_X : Fx := ⟨seat, some bkT, fns, [], [], [], []⟩
def leaves_VC (a0_n : Int) (Q : (List (List UInt8)) → Prop) : Prop :=
  ∃ (x0 : List (List UInt8) → Int → Prop), ∃ (x1 : List (List UInt8) → Int → Nat), x0 ([] : List (List UInt8)) (0 : Int) ∧ ∀ (x2 : List (List UInt8)) (x3 : Int), x0 x2 x3 → (Ty.arr (32 : Nat) Ty.byte).kd.sl.wf x2 → (Kd.int IntKind.i64).wf x3 → (x3 < a0_n → x3 < (9223372036854775807 : Int) ∧ (x2.length + ((toB (IntKind.u8.wrap (x3 + (1 : Int))) :: ([] : List UInt8) ++ List.replicate ((32 : Nat) - (((0 : Nat), Operand.tmp (13 : Nat)) :: ([] : List (Nat × Operand))).toArray.toList.length) Ty.byte.kd.z) :: ([] : List (List UInt8))).length) * (32 : Nat) ≤ (140737488355328 : Nat) ∧ x3 < (9223372036854775807 : Int) ∧ x0 (x2 ++ (toB (IntKind.u8.wrap (x3 + (1 : Int))) :: ([] : List UInt8) ++ List.replicate ((32 : Nat) - (((0 : Nat), Operand.tmp (13 : Nat)) :: ([] : List (Nat × Operand))).toArray.toList.length) Ty.byte.kd.z) :: ([] : List (List UInt8))) (x3 + (1 : Int)) ∧ x1 (x2 ++ (toB (IntKind.u8.wrap (x3 + (1 : Int))) :: ([] : List UInt8) ++ List.replicate ((32 : Nat) - (((0 : Nat), Operand.tmp (13 : Nat)) :: ([] : List (Nat × Operand))).toArray.toList.length) Ty.byte.kd.z) :: ([] : List (List UInt8))) (x3 + (1 : Int)) < x1 x2 x3) ∧ (¬x3 < a0_n → Q x2)
theorem leaves_ok {a0_n : Int} (w_0 : (Ty.kd (.int .i64)).wf a0_n) (hp : a0_n = 5) : leaves_VC a0_n (fun o0 => o0 = fiveO) := by
  subst hp
  unfold leaves_VC
  refine ⟨fun out i => 0 ≤ i ∧ i ≤ 5 ∧ out = fiveL.take i.toNat, fun _ i => (5 - i).toNat, ⟨by omega, by omega, rfl⟩, ?_⟩
  rintro out i ⟨h0, h5, rfl⟩ _ _
  refine ⟨fun hlt => ?_, fun hge => ?_⟩
  · have hi : i = 0 ∨ i = 1 ∨ i = 2 ∨ i = 3 ∨ i = 4 := by omega
    rcases hi with rfl | rfl | rfl | rfl | rfl <;> exact ⟨by decide, by decide, by decide, ⟨by decide, by decide, by decide⟩, by decide⟩
  · have hi : i = 5 := by omega
    subst hi
    show fiveL.take 5 = fiveO
    rw [fiveO_eq]
    rfl
theorem leaves_eq : (∀ a, leaves_C.pre a → PM.wfP leaves_C.pm a (fvc leaves_X 200 40 leaves_C a (eqO leaves_C a))) = (∀ a : Int × Unit, ((a.1) = 5) → (Ty.kd (.int .i64)).wf a.1 → leaves_VC a.1 (fun o0 => o0 = fiveO)) := by kernel_rfl
theorem leaves_k : leaves_C.valid Try.prog 40 := ctr_of (X := leaves_X) (ok_of seat_ok (fun b hb => by cases hb; exact bkT_ok) fns_ok trivial) 200 (leaves_eq.mpr fun a hp w_0 => @leaves_ok a.1 w_0 hp)
end Go.Proofs.Ytkffegaofdpkiaa

/- Each function that stands here: what it is asked and leaves (_C), its condition (_VC), that it holds (_ok), its contract (_c). -/
set_option linter.unusedVariables false
set_option maxRecDepth 100000
set_option maxHeartbeats 20000000
namespace Go.Proofs.Ytkffegaofdpkiaa
open Go Go.RowKit Go.Inc
noncomputable def power_C : Ctr := ⟨[.v (.int .i64)], [.v (.int .u32)], some (fun a => (fun (a0_n : Int) => ((0 : Int) ≤ a0_n ∧ a0_n ≤ (31 : Int) : Prop)) a.1), fun a => (fun (a0_n : Int) => (((2 ^ a0_n.toNat : Int), ()), (()))) a.1⟩
noncomputable def power_X : Fx := ⟨seat, some bkT, fns, [], [], [], []⟩
def power_VC (a0_n : Int) (Q : Int → Prop) : Prop :=
  ∃ (x0 : Int → Int → Prop), ∃ (x1 : Int → Int → Nat), x0 (1 : Int) (0 : Int) ∧ ∀ (x2 x3 : Int), x0 x2 x3 → (Kd.int IntKind.u32).wf x2 → (Kd.int IntKind.i64).wf x3 → (x3 < a0_n → x3 < (9223372036854775807 : Int) ∧ x0 (IntKind.u32.wrap ((2 : Int) * x2)) (x3 + (1 : Int)) ∧ x1 (IntKind.u32.wrap ((2 : Int) * x2)) (x3 + (1 : Int)) < x1 x2 x3) ∧ (¬x3 < a0_n → Q x2)
theorem power_ok {a0_n : Int} (w_0 : (Ty.kd (.int .i64)).wf a0_n) (hp : (0 : Int) ≤ a0_n ∧ a0_n ≤ (31 : Int)) : power_VC a0_n (fun o0 => o0 = (2 ^ a0_n.toNat : Int)) := by
  unfold power_VC
  refine ⟨fun x i => ∃ j : Nat, i = (j : Int) ∧ (j : Int) ≤ a0_n ∧ x = ((2 ^ j : Nat) : Int), fun _ i => (a0_n - i).toNat, ⟨0, rfl, by omega, rfl⟩, ?_⟩
  rintro x i ⟨j, rfl, hj, rfl⟩ _ _
  refine ⟨fun hlt => ⟨by omega, ⟨j + 1, by omega, by omega, ?_⟩, by show (a0_n - ((j : Int) + 1)).toNat < (a0_n - (j : Int)).toNat; omega⟩, fun hge => ?_⟩
  · have hp : 2 ^ (j + 1) ≤ 2 ^ 31 := Nat.pow_le_pow_right (by omega) (by omega)
    have e : 2 * ((2 ^ j : Nat) : Int) = ((2 ^ (j + 1) : Nat) : Int) := by rw [Nat.pow_succ]; omega
    rw [e, wrap_nat32 (by omega)]
  · have : a0_n.toNat = j := by omega
    rw [this]
    simp
theorem power_eq : (∀ a, power_C.pre a → PM.wfP power_C.pm a (fvc power_X 200 72 power_C a (eqO power_C a))) = (∀ a : Int × Unit, ((0 : Int) ≤ (a.1) ∧ (a.1) ≤ (31 : Int)) → (Ty.kd (.int .i64)).wf a.1 → power_VC a.1 (fun o0 => o0 = (2 ^ (a.1).toNat : Int))) := by kernel_rfl
theorem power_k : power_C.valid Try.prog 72 := ctr_of (X := power_X) (ok_of seat_ok (fun b hb => by cases hb; exact bkT_ok) fns_ok trivial) 200 (power_eq.mpr fun a hp w_0 => @power_ok a.1 w_0 hp)
noncomputable def turn_C : Ctr := ⟨[.v (.int .u32), .v (.int .i64)], [.v (.int .u32)], some (fun a => (fun (a0_x : Int) (a1_n : Int) => ((1 : Int) ≤ a1_n ∧ a1_n ≤ (31 : Int) : Prop)) a.1 a.2.1), fun a => (fun (a0_x : Int) (a1_n : Int) => (((turnR a0_x a1_n), ()), (()))) a.1 a.2.1⟩
noncomputable def turn_X : Fx := ⟨seat, some bkT, fns, [(72, power_C)], [], [], [(1, [], [.o 0 2, .o 1 2, .o 4 2, .o 5 2, .o 8 2, .o 9 2, .o 2 0, .o 3 2, .o 6 0, .o 7 2, .o 10 0, .o 11 2, .o 12 2, .o 13 2])]⟩
def turn_VC (a0_x : Int) (a1_n : Int) (Q : Int → Prop) : Prop :=
  ((0 : Int) ≤ a1_n ∧ a1_n ≤ (31 : Int)) ∧ ((Ty.int IntKind.u32).kd.wf ((2 : Int) ^ a1_n.toNat) → (2 : Int) ^ a1_n.toNat ≠ (0 : Int) ∧ ((0 : Int) ≤ a1_n ∧ a1_n ≤ (31 : Int)) ∧ ((Ty.int IntKind.u32).kd.wf ((2 : Int) ^ a1_n.toNat) → (2 : Int) ^ a1_n.toNat ≠ (0 : Int) ∧ ((0 : Int) ≤ IntKind.i64.wrap ((32 : Int) - a1_n) ∧ IntKind.i64.wrap ((32 : Int) - a1_n) ≤ (31 : Int)) ∧ ((Ty.int IntKind.u32).kd.wf ((2 : Int) ^ (IntKind.i64.wrap ((32 : Int) - a1_n)).toNat) → Q (IntKind.u32.wrap (IntKind.u32.wrap (a0_x.tdiv ((2 : Int) ^ a1_n.toNat)) + IntKind.u32.wrap (a0_x.tmod ((2 : Int) ^ a1_n.toNat) * (2 : Int) ^ (IntKind.i64.wrap ((32 : Int) - a1_n)).toNat))))))
theorem turn_ok {a0_x : Int} {a1_n : Int} (w_0 : (Ty.kd (.int .u32)).wf a0_x) (w_1 : (Ty.kd (.int .i64)).wf a1_n) (hp : (1 : Int) ≤ a1_n ∧ a1_n ≤ (31 : Int)) : turn_VC a0_x a1_n (fun o0 => o0 = (turnR a0_x a1_n)) := by
  have w : IntKind.i64.wrap (32 - a1_n) = 32 - a1_n := wrap_id (wf64 (by omega) (by omega))
  have hp : ∀ k : Nat, (2 ^ k : Int) ≠ 0 := fun k => by
    have : (2 ^ k : Int) = ((2 ^ k : Nat) : Int) := by simp
    rw [this]
    have := Nat.two_pow_pos k
    omega
  unfold turn_VC
  rw [w]
  exact ⟨by omega, fun _ => ⟨hp _, by omega, fun _ => ⟨hp _, by omega, fun _ => rfl⟩⟩⟩
theorem turn_eq : (∀ a, turn_C.pre a → PM.wfP turn_C.pm a (fvc turn_X 200 83 turn_C a (eqO turn_C a))) = (∀ a : Int × Int × Unit, ((1 : Int) ≤ (a.2.1) ∧ (a.2.1) ≤ (31 : Int)) → (Ty.kd (.int .u32)).wf a.1 → (Ty.kd (.int .i64)).wf a.2.1 → turn_VC a.1 a.2.1 (fun o0 => o0 = (turnR (a.1) (a.2.1)))) := by kernel_rfl
theorem turn_k : turn_C.valid Try.prog 83 := ctr_of (X := turn_X) (ok_of seat_ok (fun b hb => by cases hb; exact bkT_ok) fns_ok ⟨power_k, trivial⟩) 200 (turn_eq.mpr fun a hp w_0 w_1 => @turn_ok a.1 a.2.1 w_0 w_1 hp)
noncomputable def three_C : Ctr := ⟨[.v (.int .u32), .v (.int .u32), .v (.int .u32)], [.v (.int .u32)], none, fun a => (fun (a0_a : Int) (a1_b : Int) (a2_c : Int) => (((bxor .u32 (bxor .u32 a0_a a1_b) a2_c), ()), (()))) a.1 a.2.1 a.2.2.1⟩
noncomputable def three_X : Fx := ⟨seat, some bkT, fns, [], [], [], []⟩
def three_VC (a0_a : Int) (a1_b : Int) (a2_c : Int) (Q : Int → Prop) : Prop :=
  Q (bxor IntKind.u32 (bxor IntKind.u32 a0_a a1_b) a2_c)
theorem three_ok {a0_a : Int} {a1_b : Int} {a2_c : Int} (w_0 : (Ty.kd (.int .u32)).wf a0_a) (w_1 : (Ty.kd (.int .u32)).wf a1_b) (w_2 : (Ty.kd (.int .u32)).wf a2_c) : three_VC a0_a a1_b a2_c (fun o0 => o0 = (bxor .u32 (bxor .u32 a0_a a1_b) a2_c)) := by
  rfl
theorem three_eq : (∀ a, three_C.pre a → PM.wfP three_C.pm a (fvc three_X 200 82 three_C a (eqO three_C a))) = (∀ a : Int × Int × Int × Unit, True → (Ty.kd (.int .u32)).wf a.1 → (Ty.kd (.int .u32)).wf a.2.1 → (Ty.kd (.int .u32)).wf a.2.2.1 → three_VC a.1 a.2.1 a.2.2.1 (fun o0 => o0 = (bxor .u32 (bxor .u32 (a.1) (a.2.1)) (a.2.2.1)))) := by kernel_rfl
theorem three_k : three_C.valid Try.prog 82 := ctr_of (X := three_X) (ok_of seat_ok (fun b hb => by cases hb; exact bkT_ok) fns_ok trivial) 200 (three_eq.mpr fun a hp w_0 w_1 w_2 => @three_ok a.1 a.2.1 a.2.2.1 w_0 w_1 w_2)
noncomputable def constants_C : Ctr := ⟨[], [.ow 92 (.int .u32)], none, fun _ => ((shaK, ()), (()))⟩
noncomputable def constants_X : Fx := ⟨seat, some bkT, fns, [], [], [], []⟩
def constants_VC (Q : (List Int) → Prop) : Prop :=
  Q ((1116352408 : Int) :: (1899447441 : Int) :: (3049323471 : Int) :: (3921009573 : Int) :: (961987163 : Int) :: (1508970993 : Int) :: (2453635748 : Int) :: (2870763221 : Int) :: (3624381080 : Int) :: (310598401 : Int) :: (607225278 : Int) :: (1426881987 : Int) :: (1925078388 : Int) :: (2162078206 : Int) :: (2614888103 : Int) :: (3248222580 : Int) :: (3835390401 : Int) :: (4022224774 : Int) :: (264347078 : Int) :: (604807628 : Int) :: (770255983 : Int) :: (1249150122 : Int) :: (1555081692 : Int) :: (1996064986 : Int) :: (2554220882 : Int) :: (2821834349 : Int) :: (2952996808 : Int) :: (3210313671 : Int) :: (3336571891 : Int) :: (3584528711 : Int) :: (113926993 : Int) :: (338241895 : Int) :: (666307205 : Int) :: (773529912 : Int) :: (1294757372 : Int) :: (1396182291 : Int) :: (1695183700 : Int) :: (1986661051 : Int) :: (2177026350 : Int) :: (2456956037 : Int) :: (2730485921 : Int) :: (2820302411 : Int) :: (3259730800 : Int) :: (3345764771 : Int) :: (3516065817 : Int) :: (3600352804 : Int) :: (4094571909 : Int) :: (275423344 : Int) :: (430227734 : Int) :: (506948616 : Int) :: (659060556 : Int) :: (883997877 : Int) :: (958139571 : Int) :: (1322822218 : Int) :: (1537002063 : Int) :: (1747873779 : Int) :: (1955562222 : Int) :: (2024104815 : Int) :: (2227730452 : Int) :: (2361852424 : Int) :: (2428436474 : Int) :: (2756734187 : Int) :: (3204031479 : Int) :: (3329325298 : Int) :: ([] : List Int))
theorem constants_ok  : constants_VC  (fun o0 => o0 = shaK) := by
  rfl
theorem constants_eq : (∀ a, constants_C.pre a → PM.wfP constants_C.pm a (fvc constants_X 200 81 constants_C a (eqO constants_C a))) = (∀ a : Unit, True → constants_VC  (fun o0 => o0 = shaK)) := by kernel_rfl
theorem constants_k : constants_C.valid Try.prog 81 := ctr_of (X := constants_X) (ok_of seat_ok (fun b hb => by cases hb; exact bkT_ok) fns_ok trivial) 200 (constants_eq.mpr fun a hp  => @constants_ok )
noncomputable def Message_C : Ctr := ⟨[.v (.sl .byte)], [.ow 5 .byte], some (fun a => (fun (a0_b : List UInt8) => (a0_b.length ≤ 70368744177664 : Prop)) a.1), fun a => (fun (a0_b : List UInt8) => (((msgOf a0_b), ()), (()))) a.1⟩
noncomputable def Message_X : Fx := ⟨seat, some bkT, fns, [], [], [], []⟩
def Message_VC (a0_b : List UInt8) (Q : (List UInt8) → Prop) : Prop :=
  (([] : List UInt8).length + a0_b.length) * (1 : Nat) ≤ (140737488355328 : Nat) ∧ ((([] : List UInt8) ++ a0_b).length + (toB (128 : Int) :: ([] : List UInt8)).length) * (1 : Nat) ≤ (140737488355328 : Nat) ∧ ∃ (x0 : List UInt8 → Prop), ∃ (x1 : List UInt8 → Nat), x0 (([] : List UInt8) ++ a0_b ++ toB (128 : Int) :: ([] : List UInt8)) ∧ ∀ (x2 : List UInt8), x0 x2 → Ty.byte.kd.sl.wf x2 → ((x2.length : Int).tmod (64 : Int) ≠ (56 : Int) → (x2.length + (toB (0 : Int) :: ([] : List UInt8)).length) * (1 : Nat) ≤ (140737488355328 : Nat) ∧ x0 (x2 ++ toB (0 : Int) :: ([] : List UInt8)) ∧ x1 (x2 ++ toB (0 : Int) :: ([] : List UInt8)) < x1 x2) ∧ (¬(x2.length : Int).tmod (64 : Int) ≠ (56 : Int) → ∃ (x6 : Int → List UInt8 → Int → Prop), ∃ (x7 : Int → List UInt8 → Int → Nat), x6 (IntKind.u64.wrap ((8 : Int) * IntKind.u64.wrap (a0_b.length : Int))) ([] : List UInt8) (0 : Int) ∧ ∀ (x8 : Int) (x9 : List UInt8) (x10 : Int), x6 x8 x9 x10 → (Kd.int IntKind.u64).wf x8 → Ty.byte.kd.sl.wf x9 → (Kd.int IntKind.i64).wf x10 → (x10 < (8 : Int) → ((toB (IntKind.u8.wrap (x8.tmod (256 : Int))) :: ([] : List UInt8)).length + x9.length) * (1 : Nat) ≤ (140737488355328 : Nat) ∧ x10 < (9223372036854775807 : Int) ∧ x6 (IntKind.u64.wrap (x8.tdiv (256 : Int))) (toB (IntKind.u8.wrap (x8.tmod (256 : Int))) :: ([] : List UInt8) ++ x9) (x10 + (1 : Int)) ∧ x7 (IntKind.u64.wrap (x8.tdiv (256 : Int))) (toB (IntKind.u8.wrap (x8.tmod (256 : Int))) :: ([] : List UInt8) ++ x9) (x10 + (1 : Int)) < x7 x8 x9 x10) ∧ (¬x10 < (8 : Int) → (x2.length + x9.length) * (1 : Nat) ≤ (140737488355328 : Nat) ∧ Q (x2 ++ x9)))
theorem Message_ok {a0_b : List UInt8} (w_0 : (Ty.kd (.sl .byte)).wf a0_b) (hp : a0_b.length ≤ 70368744177664) : Message_VC a0_b (fun o0 => o0 = (msgOf a0_b)) := by
  have hz : zerosN a0_b.length < 64 ∧ (a0_b.length + 1 + zerosN a0_b.length) % 64 = 56 := by unfold zerosN; omega
  have hzm : ∀ k, k < zerosN a0_b.length → (a0_b.length + 1 + k) % 64 ≠ 56 := fun k hk => by unfold zerosN at hk; omega
  have hb0 : toB 0 = 0 := by decide
  have wu : ∀ a : Int, 0 ≤ a → a ≤ 18446744073709551615 → IntKind.u64.wrap a = a := fun a h1 h2 => wrap_id ⟨by show (0 : Int) ≤ _; omega, by show _ ≤ (18446744073709551615 : Int); omega⟩
  unfold Message_VC
  rw [hb0, wu (a0_b.length : Int) (by omega) (by omega), wu (8 * (a0_b.length : Int)) (by omega) (by omega)]
  simp only [List.nil_append]
  refine ⟨by simp; omega, by simp; omega, fun m => ∃ k, k ≤ zerosN a0_b.length ∧ m = a0_b ++ [toB 128] ++ List.replicate k 0, fun m => zerosN a0_b.length - (m.length - (a0_b.length + 1)), ⟨0, by omega, by simp⟩, ?_⟩
  rintro m ⟨k, hk, rfl⟩ _
  have hl : (a0_b ++ [toB 128] ++ List.replicate k 0).length = a0_b.length + 1 + k := by simp; omega
  have hmod : Int.tmod ((a0_b ++ [toB 128] ++ List.replicate k 0).length : Int) 64 = (((a0_b.length + 1 + k) % 64 : Nat) : Int) := by
    rw [hl, Int.tmod_eq_emod_of_nonneg (by omega)]
    omega
  rw [hmod]
  refine ⟨fun hne => ⟨by simp; omega, ⟨k + 1, ?_, ?_⟩, ?_⟩, fun heq => ?_⟩
  · rcases Nat.lt_or_eq_of_le hk with h | h
    · omega
    · exfalso; apply hne; rw [h, hz.2]; rfl
  · rw [List.replicate_succ']; simp
  · rcases Nat.lt_or_eq_of_le hk with h | h
    · simp only [List.length_append, List.length_cons, List.length_nil, List.length_replicate]
      omega
    · exfalso; apply hne; rw [h, hz.2]; rfl
  · have hk' : k = zerosN a0_b.length := by
      rcases Nat.lt_or_eq_of_le hk with h | h
      · exact absurd (hzm k h) (by intro hx; apply heq; intro hy; apply hx; omega)
      · exact h
    subst hk'
    refine ⟨fun n last i => ∃ j : Nat, j ≤ 8 ∧ i = (j : Int) ∧ n = ((8 * a0_b.length / 2 ^ (8 * j) : Nat) : Int) ∧ last = be (8 * a0_b.length) j, fun _ _ i => 8 - i.toNat, ⟨0, by omega, rfl, by simp, rfl⟩, ?_⟩
    rintro n last i ⟨j, hj, rfl, rfl, rfl⟩ _ _ _
    have hle : 8 * a0_b.length / 2 ^ (8 * j) ≤ 8 * a0_b.length := Nat.div_le_self _ _
    refine ⟨fun hlt => ⟨by simp [be_length]; omega, by omega, ⟨j + 1, by omega, by omega, ?_, ?_⟩, ?_⟩, fun hge => ⟨?_, ?_⟩⟩
    · have e : (8 * a0_b.length) / 2 ^ (8 * (j + 1)) = 8 * a0_b.length / 2 ^ (8 * j) / 256 := by
        rw [Nat.div_div_eq_div_mul, show 8 * (j + 1) = 8 * j + 8 by omega, Nat.pow_add]
      rw [e]
      generalize 8 * a0_b.length / 2 ^ (8 * j) = A at *
      rw [show (256 : Int) = ((256 : Nat) : Int) from rfl, ← Int.ofNat_tdiv, wu _ (by omega) (by omega)]
    · show toB (IntKind.u8.wrap (Int.tmod _ 256)) :: be _ j = UInt8.ofNat (8 * a0_b.length / 2 ^ (8 * j)) :: be _ j
      congr 1
      generalize 8 * a0_b.length / 2 ^ (8 * j) = A
      rw [show (256 : Int) = ((256 : Nat) : Int) from rfl, ← Int.ofNat_tmod, wrap_id ⟨by show (0 : Int) ≤ _; omega, by show _ ≤ (255 : Int); omega⟩]
      unfold toB
      rw [Int.toNat_natCast]
      apply UInt8.toNat_inj.1
      simp
    · show 8 - ((j : Int) + 1).toNat < 8 - (j : Int).toNat
      omega
    · simp [be_length]; omega
    · have : j = 8 := by omega
      subst this
      simp [msgOf]
theorem Message_eq : (∀ a, Message_C.pre a → PM.wfP Message_C.pm a (fvc Message_X 200 69 Message_C a (eqO Message_C a))) = (∀ a : (List UInt8) × Unit, ((a.1).length ≤ 70368744177664) → (Ty.kd (.sl .byte)).wf a.1 → Message_VC a.1 (fun o0 => o0 = (msgOf (a.1)))) := by kernel_rfl
theorem Message_k : Message_C.valid Try.prog 69 := ctr_of (X := Message_X) (ok_of seat_ok (fun b hb => by cases hb; exact bkT_ok) fns_ok trivial) 200 (Message_eq.mpr fun a hp w_0 => @Message_ok a.1 w_0 hp)
noncomputable def schedule_C : Ctr := ⟨[.v (.sl .byte)], [.ow 92 (.int .u32)], some (fun a => (fun (a0_b : List UInt8) => (a0_b.length = 64 : Prop)) a.1), fun a => (fun (a0_b : List UInt8) => (((wordsN a0_b 64), ()), (()))) a.1⟩
noncomputable def schedule_X : Fx := ⟨seat, some bkT, fns, [(83, turn_C), (82, three_C)], [], [], [(14, [], [.o 0 2, .o 1 2, .o 2 2, .o 3 2, .o 4 2, .o 5 2, .o 6 2, .o 7 2, .o 8 2, .o 9 2, .o 10 2, .o 11 2]), (17, [0, 1, 2, 3, 4, 5, 6, 7, 8, 9, 10, 11, 12], [.o 0 2, .o 1 2, .o 2 2, .o 3 2, .o 4 2, .o 5 2, .o 6 2, .o 7 2, .o 8 2, .o 9 2, .o 10 2, .o 11 2, .o 12 2, .o 13 2, .o 14 2, .o 15 2, .o 16 0, .o 17 1, .o 18 3])]⟩
def schedule_VC (a0_b : List UInt8) (Q : (List Int) → Prop) : Prop :=
  ∃ (x0 : List Int → Int → Prop), ∃ (x1 : List Int → Int → Nat), x0 ([] : List Int) (0 : Int) ∧ ∀ (x2 : List Int) (x3 : Int), x0 x2 x3 → (Ty.int IntKind.u32).kd.sl.wf x2 → (Kd.int IntKind.i64).wf x3 → (x3 < (16 : Int) → ∃ (x8 : Int → Int → Prop), ∃ (x9 : Int → Int → Nat), x8 (0 : Int) (0 : Int) ∧ ∀ (x10 x11 : Int), x8 x10 x11 → (Kd.int IntKind.u32).wf x10 → (Kd.int IntKind.i64).wf x11 → (x11 < (4 : Int) → ((0 : Int) ≤ IntKind.i64.wrap (IntKind.i64.wrap ((4 : Int) * x3) + x11) ∧ IntKind.i64.wrap (IntKind.i64.wrap ((4 : Int) * x3) + x11) < (a0_b.length : Int)) ∧ x11 < (9223372036854775807 : Int) ∧ x8 (IntKind.u32.wrap (IntKind.u32.wrap ((256 : Int) * x10) + bI (ix a0_b (IntKind.i64.wrap (IntKind.i64.wrap ((4 : Int) * x3) + x11))))) (x11 + (1 : Int)) ∧ x9 (IntKind.u32.wrap (IntKind.u32.wrap ((256 : Int) * x10) + bI (ix a0_b (IntKind.i64.wrap (IntKind.i64.wrap ((4 : Int) * x3) + x11))))) (x11 + (1 : Int)) < x9 x10 x11) ∧ (¬x11 < (4 : Int) → (x2.length + (x10 :: ([] : List Int)).length) * (4 : Nat) ≤ (140737488355328 : Nat) ∧ x3 < (9223372036854775807 : Int) ∧ x0 (x2 ++ x10 :: ([] : List Int)) (x3 + (1 : Int)) ∧ x1 (x2 ++ x10 :: ([] : List Int)) (x3 + (1 : Int)) < x1 x2 x3)) ∧ (¬x3 < (16 : Int) → ∃ (x8 : List Int → Int → Prop), ∃ (x9 : List Int → Int → Nat), x8 x2 (16 : Int) ∧ ∀ (x10 : List Int) (x11 : Int), x8 x10 x11 → (Ty.int IntKind.u32).kd.sl.wf x10 → (Kd.int IntKind.i64).wf x11 → (x11 < (64 : Int) → ((0 : Int) ≤ IntKind.i64.wrap (x11 - (15 : Int)) ∧ IntKind.i64.wrap (x11 - (15 : Int)) < (x10.length : Int)) ∧ ((0 : Int) ≤ IntKind.i64.wrap (x11 - (2 : Int)) ∧ IntKind.i64.wrap (x11 - (2 : Int)) < (x10.length : Int)) ∧ ((1 : Int) ≤ (7 : Int) ∧ (7 : Int) ≤ (31 : Int)) ∧ ((Ty.int IntKind.u32).kd.wf (turnR (ix x10 (IntKind.i64.wrap (x11 - (15 : Int)))) (7 : Int)) → ((1 : Int) ≤ (18 : Int) ∧ (18 : Int) ≤ (31 : Int)) ∧ ((Ty.int IntKind.u32).kd.wf (turnR (ix x10 (IntKind.i64.wrap (x11 - (15 : Int)))) (18 : Int)) → (Ty.int IntKind.u32).kd.wf (bxor IntKind.u32 (bxor IntKind.u32 (turnR (ix x10 (IntKind.i64.wrap (x11 - (15 : Int)))) (7 : Int)) (turnR (ix x10 (IntKind.i64.wrap (x11 - (15 : Int)))) (18 : Int))) (IntKind.u32.wrap ((ix x10 (IntKind.i64.wrap (x11 - (15 : Int)))).tdiv (8 : Int)))) → ((1 : Int) ≤ (17 : Int) ∧ (17 : Int) ≤ (31 : Int)) ∧ ((Ty.int IntKind.u32).kd.wf (turnR (ix x10 (IntKind.i64.wrap (x11 - (2 : Int)))) (17 : Int)) → ((1 : Int) ≤ (19 : Int) ∧ (19 : Int) ≤ (31 : Int)) ∧ ((Ty.int IntKind.u32).kd.wf (turnR (ix x10 (IntKind.i64.wrap (x11 - (2 : Int)))) (19 : Int)) → (Ty.int IntKind.u32).kd.wf (bxor IntKind.u32 (bxor IntKind.u32 (turnR (ix x10 (IntKind.i64.wrap (x11 - (2 : Int)))) (17 : Int)) (turnR (ix x10 (IntKind.i64.wrap (x11 - (2 : Int)))) (19 : Int))) (IntKind.u32.wrap ((ix x10 (IntKind.i64.wrap (x11 - (2 : Int)))).tdiv (1024 : Int)))) → ((0 : Int) ≤ IntKind.i64.wrap (x11 - (16 : Int)) ∧ IntKind.i64.wrap (x11 - (16 : Int)) < (x10.length : Int)) ∧ ((0 : Int) ≤ IntKind.i64.wrap (x11 - (7 : Int)) ∧ IntKind.i64.wrap (x11 - (7 : Int)) < (x10.length : Int)) ∧ (x10.length + (IntKind.u32.wrap (IntKind.u32.wrap (IntKind.u32.wrap (ix x10 (IntKind.i64.wrap (x11 - (16 : Int))) + bxor IntKind.u32 (bxor IntKind.u32 (turnR (ix x10 (IntKind.i64.wrap (x11 - (15 : Int)))) (7 : Int)) (turnR (ix x10 (IntKind.i64.wrap (x11 - (15 : Int)))) (18 : Int))) (IntKind.u32.wrap ((ix x10 (IntKind.i64.wrap (x11 - (15 : Int)))).tdiv (8 : Int)))) + ix x10 (IntKind.i64.wrap (x11 - (7 : Int)))) + bxor IntKind.u32 (bxor IntKind.u32 (turnR (ix x10 (IntKind.i64.wrap (x11 - (2 : Int)))) (17 : Int)) (turnR (ix x10 (IntKind.i64.wrap (x11 - (2 : Int)))) (19 : Int))) (IntKind.u32.wrap ((ix x10 (IntKind.i64.wrap (x11 - (2 : Int)))).tdiv (1024 : Int)))) :: ([] : List Int)).length) * (4 : Nat) ≤ (140737488355328 : Nat) ∧ x11 < (9223372036854775807 : Int) ∧ x8 (x10 ++ IntKind.u32.wrap (IntKind.u32.wrap (IntKind.u32.wrap (ix x10 (IntKind.i64.wrap (x11 - (16 : Int))) + bxor IntKind.u32 (bxor IntKind.u32 (turnR (ix x10 (IntKind.i64.wrap (x11 - (15 : Int)))) (7 : Int)) (turnR (ix x10 (IntKind.i64.wrap (x11 - (15 : Int)))) (18 : Int))) (IntKind.u32.wrap ((ix x10 (IntKind.i64.wrap (x11 - (15 : Int)))).tdiv (8 : Int)))) + ix x10 (IntKind.i64.wrap (x11 - (7 : Int)))) + bxor IntKind.u32 (bxor IntKind.u32 (turnR (ix x10 (IntKind.i64.wrap (x11 - (2 : Int)))) (17 : Int)) (turnR (ix x10 (IntKind.i64.wrap (x11 - (2 : Int)))) (19 : Int))) (IntKind.u32.wrap ((ix x10 (IntKind.i64.wrap (x11 - (2 : Int)))).tdiv (1024 : Int)))) :: ([] : List Int)) (x11 + (1 : Int)) ∧ x9 (x10 ++ IntKind.u32.wrap (IntKind.u32.wrap (IntKind.u32.wrap (ix x10 (IntKind.i64.wrap (x11 - (16 : Int))) + bxor IntKind.u32 (bxor IntKind.u32 (turnR (ix x10 (IntKind.i64.wrap (x11 - (15 : Int)))) (7 : Int)) (turnR (ix x10 (IntKind.i64.wrap (x11 - (15 : Int)))) (18 : Int))) (IntKind.u32.wrap ((ix x10 (IntKind.i64.wrap (x11 - (15 : Int)))).tdiv (8 : Int)))) + ix x10 (IntKind.i64.wrap (x11 - (7 : Int)))) + bxor IntKind.u32 (bxor IntKind.u32 (turnR (ix x10 (IntKind.i64.wrap (x11 - (2 : Int)))) (17 : Int)) (turnR (ix x10 (IntKind.i64.wrap (x11 - (2 : Int)))) (19 : Int))) (IntKind.u32.wrap ((ix x10 (IntKind.i64.wrap (x11 - (2 : Int)))).tdiv (1024 : Int)))) :: ([] : List Int)) (x11 + (1 : Int)) < x9 x10 x11))))) ∧ (¬x11 < (64 : Int) → Q x10))
theorem schedule_ok {a0_b : List UInt8} (w_0 : (Ty.kd (.sl .byte)).wf a0_b) (hp : a0_b.length = 64) : schedule_VC a0_b (fun o0 => o0 = (wordsN a0_b 64)) := by
  have w64 : ∀ a : Int, -1000 ≤ a → a ≤ 1000 → IntKind.i64.wrap a = a := fun a h1 h2 => wrap_id (wf64 (by omega) (by omega))
  have hacc : ∀ (i : Int) (m : Nat), 0 ≤ accB a0_b i m ∧ accB a0_b i m < 256 ^ m := fun i m => by
    induction m with
    | zero => simp [accB]
    | succ m ih =>
      have hb := bI_lt (ix a0_b (4 * i + (m : Int)))
      have e : (256 : Int) ^ (m + 1) = 256 * 256 ^ m := by rw [Int.pow_succ, Int.mul_comm]
      simp only [accB]
      rw [e]
      generalize (256 : Int) ^ m = Z at *
      omega
  unfold schedule_VC
  refine ⟨fun w i => ∃ n : Nat, i = (n : Int) ∧ n ≤ 16 ∧ w = (wordsN a0_b n).take n, fun _ i => 16 - i.toNat, ⟨0, rfl, by omega, by simp⟩, ?_⟩
  rintro w i ⟨n, rfl, hn, rfl⟩ _ _
  refine ⟨fun hlt => ?_, fun hge => ?_⟩
  · refine ⟨fun x j => ∃ m : Nat, j = (m : Int) ∧ m ≤ 4 ∧ x = accB a0_b n m, fun _ j => 4 - j.toNat, ⟨0, rfl, by omega, rfl⟩, ?_⟩
    rintro x j ⟨m, rfl, hm, rfl⟩ _ _
    have e4 : IntKind.i64.wrap (IntKind.i64.wrap (4 * (n : Int)) + (m : Int)) = 4 * (n : Int) + (m : Int) := by rw [w64 (4 * (n : Int)) (by omega) (by omega), w64 _ (by omega) (by omega)]
    rw [e4]
    refine ⟨fun hj => ⟨⟨by omega, by omega⟩, by omega, ⟨m + 1, by omega, by omega, ?_⟩, by show 4 - ((m : Int) + 1).toNat < 4 - (m : Int).toNat; omega⟩, fun hj => ?_⟩
    · have h1 := hacc n m
      have hb := bI_lt (ix a0_b (4 * (n : Int) + (m : Int)))
      have h2 : (256 : Int) ^ m ≤ 16777216 := by
        rcases (by omega : m = 0 ∨ m = 1 ∨ m = 2 ∨ m = 3) with h | h | h | h <;> rw [h] <;> decide
      simp only [accB]
      rw [wr32 (256 * _), wr32]
      omega
    · have : m = 4 := by omega
      subst this
      have hl := wordsN_len a0_b n
      refine ⟨by simp only [List.length_append, List.length_take, List.length_cons, List.length_nil]; omega, by omega, ⟨n + 1, by omega, by omega, ?_⟩, by show 16 - ((n : Int) + 1).toNat < 16 - (n : Int).toNat; omega⟩
      rw [wordsN_step _ (by omega), if_pos (by omega), wordAt_acc]
  · have hn16 : n = 16 := by omega
    subst hn16
    refine ⟨fun w i => ∃ n : Nat, i = (n : Int) ∧ 16 ≤ n ∧ n ≤ 64 ∧ w = (wordsN a0_b n).take n, fun _ i => 64 - i.toNat, ⟨16, rfl, by omega, by omega, rfl⟩, ?_⟩
    rintro w i ⟨n, rfl, hn1, hn2, rfl⟩ hwf _
    have hl := wordsN_len a0_b n
    have hlt : ((wordsN a0_b n).take n).length = n := by rw [List.length_take]; omega
    refine ⟨fun hlt64 => ?_, fun hge64 => ?_⟩
    · rw [w64 ((n : Int) - 15) (by omega) (by omega), w64 ((n : Int) - 2) (by omega) (by omega), w64 ((n : Int) - 16) (by omega) (by omega), w64 ((n : Int) - 7) (by omega) (by omega), hlt]
      have hx : ∀ d : Int, 0 < d → d ≤ 16 → 0 ≤ ix ((wordsN a0_b n).take n) ((n : Int) - d) ∧ ix ((wordsN a0_b n).take n) ((n : Int) - d) < 4294967296 := fun d h1 h2 => wf32 (hwf.2 _ (ix_mem (by omega) (by rw [hlt]; omega)))
      have ht : ∀ d : Int, 0 < d → d ≤ 16 → ix ((wordsN a0_b n).take n) ((n : Int) - d) = ix (wordsN a0_b n) ((n : Int) - d) := fun d h1 h2 => ix_take (by omega)
      refine ⟨by omega, by omega, by omega, fun _ => ⟨by omega, fun _ _ => ⟨by omega, fun _ => ⟨by omega, fun _ _ => ⟨by omega, by omega, ?_, by omega, ⟨n + 1, by omega, by omega, by omega, ?_⟩, by show 64 - ((n : Int) + 1).toNat < 64 - (n : Int).toNat; omega⟩⟩⟩⟩⟩
      · simp only [List.length_cons, List.length_nil]; omega
      · rw [wordsN_step _ (by omega), if_neg (by omega)]
        congr 2
        have x15 := hx 15 (by omega) (by omega)
        have x2 := hx 2 (by omega) (by omega)
        unfold wordOn
        rw [← ht 15 (by omega) (by omega), ← ht 2 (by omega) (by omega), ← ht 16 (by omega) (by omega), ← ht 7 (by omega) (by omega), turnsC x15, turnsD x2,
          show (3 : Int) = ((3 : Nat) : Int) from rfl, show (10 : Int) = ((10 : Nat) : Int) from rfl, shr_tdiv x15 3 (by omega), shr_tdiv x2 10 (by omega)]
        show IntKind.u32.wrap (IntKind.u32.wrap (IntKind.u32.wrap (_ + bxor .u32 _ (IntKind.u32.wrap (Int.tdiv _ 8))) + _) + bxor .u32 _ (IntKind.u32.wrap (Int.tdiv _ 1024))) = IntKind.u32.wrap (IntKind.u32.wrap (IntKind.u32.wrap (_ + _) + bxor .u32 _ (IntKind.u32.wrap (Int.tdiv _ 8))) + bxor .u32 _ (IntKind.u32.wrap (Int.tdiv _ 1024)))
        generalize bxor .u32 _ (IntKind.u32.wrap (Int.tdiv _ 8)) = S
        generalize bxor .u32 _ (IntKind.u32.wrap (Int.tdiv _ 1024)) = T
        simp only [wr32]
        omega
    · have : n = 64 := by omega
      subst this
      rw [List.take_of_length_le (by omega)]
theorem schedule_eq : (∀ a, schedule_C.pre a → PM.wfP schedule_C.pm a (fvc schedule_X 200 80 schedule_C a (eqO schedule_C a))) = (∀ a : (List UInt8) × Unit, ((a.1).length = 64) → (Ty.kd (.sl .byte)).wf a.1 → schedule_VC a.1 (fun o0 => o0 = (wordsN (a.1) 64))) := by kernel_rfl
theorem schedule_k : schedule_C.valid Try.prog 80 := ctr_of (X := schedule_X) (ok_of seat_ok (fun b hb => by cases hb; exact bkT_ok) fns_ok ⟨turn_k, three_k, trivial⟩) 200 (schedule_eq.mpr fun a hp w_0 => @schedule_ok a.1 w_0 hp)
noncomputable def BlockR_C : Ctr := ⟨[.v (.sl (.int .u32)), .v (.sl .byte)], [.rw 92 (.int .u32)], some (fun a => (fun (a0_old : List Int) (a1_b : List UInt8) => (a0_old.length = 8 ∧ a1_b.length = 64 : Prop)) a.1 a.2.1), fun a => (fun (a0_old : List Int) (a1_b : List UInt8) => (((takeW a0_old a1_b), ()), (()))) a.1 a.2.1⟩
noncomputable def BlockR_X : Fx := ⟨{ seat with rws := [1000092] }, some bkT, fns, [(80, schedule_C), (81, constants_C), (83, turn_C), (82, three_C)], [], [(13, [4], [])], [(6, [], [.o 0 2, .o 1 2, .o 2 2, .o 3 2, .o 4 2, .o 5 2, .o 6 2, .o 7 2]), (7, [], [.o 0 2, .o 1 2, .o 2 2, .o 3 2, .o 5 2, .o 7 2, .o 11 2, .o 12 2, .o 13 2, .o 14 2, .o 15 2, .o 16 2, .o 17 2, .o 18 2, .o 19 2, .o 20 2, .o 21 2, .o 22 2, .o 24 2, .o 25 2, .o 26 2, .o 27 2, .o 29 2, .o 30 2, .o 31 2, .o 32 2, .o 4 0, .o 6 0, .o 8 0, .o 9 0, .o 10 2, .o 23 2, .o 28 2, .o 33 2, .o 34 2]), (8, [], [.o 0 2, .o 1 2, .o 2 2, .o 3 2, .o 4 2, .o 5 2, .o 6 2, .o 7 2, .o 8 2, .o 9 2, .o 10 2, .o 11 2, .o 12 2, .o 13 2, .o 14 2, .o 15 2, .o 16 2, .o 17 2, .o 18 2, .o 19 2]), (15, [4], [.o 0 2, .o 1 2, .o 2 2, .o 3 2, .o 4 2, .o 5 2, .o 6 2, .o 7 2, .o 8 2, .o 9 2, .o 10 2, .o 11 2, .o 12 1])]⟩
def BlockR_VC (a0_old : List Int) (a1_b : List UInt8) (Q : (List Int) → Prop) : Prop :=
  (([] : List Int).length + a0_old.length) * (4 : Nat) ≤ (140737488355328 : Nat) ∧ a1_b.length = (64 : Nat) ∧ ((Ty.int IntKind.u32).kd.sl.wf (wordsN a1_b (64 : Nat)) → (Ty.int IntKind.u32).kd.sl.wf shaK → ∃ (x0 : List Int → Int → Prop), ∃ (x1 : List Int → Int → Nat), x0 (([] : List Int) ++ a0_old) (0 : Int) ∧ ∀ (x2 : List Int) (x3 : Int), x0 x2 x3 → (Ty.int IntKind.u32).kd.sl.wf x2 → (Kd.int IntKind.i64).wf x3 → (x3 < (64 : Int) → ((0 : Int) ≤ (0 : Int) ∧ (0 : Int) < (x2.length : Int)) ∧ ((0 : Int) ≤ (4 : Int) ∧ (4 : Int) < (x2.length : Int)) ∧ ((0 : Int) ≤ (7 : Int) ∧ (7 : Int) < (x2.length : Int)) ∧ ((0 : Int) ≤ (5 : Int) ∧ (5 : Int) < (x2.length : Int)) ∧ ((0 : Int) ≤ (6 : Int) ∧ (6 : Int) < (x2.length : Int)) ∧ ((0 : Int) ≤ x3 ∧ x3 < (shaK.length : Int)) ∧ ((0 : Int) ≤ x3 ∧ x3 < ((wordsN a1_b (64 : Nat)).length : Int)) ∧ ((1 : Int) ≤ (6 : Int) ∧ (6 : Int) ≤ (31 : Int)) ∧ ((Ty.int IntKind.u32).kd.wf (turnR (ix x2 (4 : Int)) (6 : Int)) → ((1 : Int) ≤ (11 : Int) ∧ (11 : Int) ≤ (31 : Int)) ∧ ((Ty.int IntKind.u32).kd.wf (turnR (ix x2 (4 : Int)) (11 : Int)) → ((1 : Int) ≤ (25 : Int) ∧ (25 : Int) ≤ (31 : Int)) ∧ ((Ty.int IntKind.u32).kd.wf (turnR (ix x2 (4 : Int)) (25 : Int)) → (Ty.int IntKind.u32).kd.wf (bxor IntKind.u32 (bxor IntKind.u32 (turnR (ix x2 (4 : Int)) (6 : Int)) (turnR (ix x2 (4 : Int)) (11 : Int))) (turnR (ix x2 (4 : Int)) (25 : Int))) → ((0 : Int) ≤ (1 : Int) ∧ (1 : Int) < (x2.length : Int)) ∧ ((0 : Int) ≤ (2 : Int) ∧ (2 : Int) < (x2.length : Int)) ∧ ((0 : Int) ≤ (1 : Int) ∧ (1 : Int) < (x2.length : Int)) ∧ ((0 : Int) ≤ (2 : Int) ∧ (2 : Int) < (x2.length : Int)) ∧ ((1 : Int) ≤ (2 : Int) ∧ (2 : Int) ≤ (31 : Int)) ∧ ((Ty.int IntKind.u32).kd.wf (turnR (ix x2 (0 : Int)) (2 : Int)) → ((1 : Int) ≤ (13 : Int) ∧ (13 : Int) ≤ (31 : Int)) ∧ ((Ty.int IntKind.u32).kd.wf (turnR (ix x2 (0 : Int)) (13 : Int)) → ((1 : Int) ≤ (22 : Int) ∧ (22 : Int) ≤ (31 : Int)) ∧ ((Ty.int IntKind.u32).kd.wf (turnR (ix x2 (0 : Int)) (22 : Int)) → (Ty.int IntKind.u32).kd.wf (bxor IntKind.u32 (bxor IntKind.u32 (turnR (ix x2 (0 : Int)) (2 : Int)) (turnR (ix x2 (0 : Int)) (13 : Int))) (turnR (ix x2 (0 : Int)) (22 : Int))) → ((0 : Int) ≤ (3 : Int) ∧ (3 : Int) < (x2.length : Int)) ∧ ((0 : Int) ≤ (3 : Int) ∧ (3 : Int) < (x2.length : Int)) ∧ ((0 : Int) ≤ (0 : Int) ∧ (0 : Int) ≤ (7 : Int) ∧ (7 : Int) ≤ ((x2.set (Int.toNat (3 : Int)) (IntKind.u32.wrap (ix x2 (3 : Int) + IntKind.u32.wrap (IntKind.u32.wrap (IntKind.u32.wrap (IntKind.u32.wrap (ix x2 (7 : Int) + bxor IntKind.u32 (bxor IntKind.u32 (turnR (ix x2 (4 : Int)) (6 : Int)) (turnR (ix x2 (4 : Int)) (11 : Int))) (turnR (ix x2 (4 : Int)) (25 : Int))) + bor IntKind.u32 (band IntKind.u32 (ix x2 (4 : Int)) (ix x2 (5 : Int))) (band IntKind.u32 (bxor IntKind.u32 (4294967295 : Int) (ix x2 (4 : Int))) (ix x2 (6 : Int)))) + ix shaK x3) + ix (wordsN a1_b (64 : Nat)) x3)))).length : Int)) ∧ ((IntKind.u32.wrap (IntKind.u32.wrap (IntKind.u32.wrap (IntKind.u32.wrap (IntKind.u32.wrap (ix x2 (7 : Int) + bxor IntKind.u32 (bxor IntKind.u32 (turnR (ix x2 (4 : Int)) (6 : Int)) (turnR (ix x2 (4 : Int)) (11 : Int))) (turnR (ix x2 (4 : Int)) (25 : Int))) + bor IntKind.u32 (band IntKind.u32 (ix x2 (4 : Int)) (ix x2 (5 : Int))) (band IntKind.u32 (bxor IntKind.u32 (4294967295 : Int) (ix x2 (4 : Int))) (ix x2 (6 : Int)))) + ix shaK x3) + ix (wordsN a1_b (64 : Nat)) x3) + IntKind.u32.wrap (bxor IntKind.u32 (bxor IntKind.u32 (turnR (ix x2 (0 : Int)) (2 : Int)) (turnR (ix x2 (0 : Int)) (13 : Int))) (turnR (ix x2 (0 : Int)) (22 : Int)) + bor IntKind.u32 (bor IntKind.u32 (band IntKind.u32 (ix x2 (0 : Int)) (ix x2 (1 : Int))) (band IntKind.u32 (ix x2 (0 : Int)) (ix x2 (2 : Int)))) (band IntKind.u32 (ix x2 (1 : Int)) (ix x2 (2 : Int))))) :: ([] : List Int)).length + (List.drop (Int.toNat (0 : Int)) (List.take (Int.toNat (7 : Int)) (x2.set (Int.toNat (3 : Int)) (IntKind.u32.wrap (ix x2 (3 : Int) + IntKind.u32.wrap (IntKind.u32.wrap (IntKind.u32.wrap (IntKind.u32.wrap (ix x2 (7 : Int) + bxor IntKind.u32 (bxor IntKind.u32 (turnR (ix x2 (4 : Int)) (6 : Int)) (turnR (ix x2 (4 : Int)) (11 : Int))) (turnR (ix x2 (4 : Int)) (25 : Int))) + bor IntKind.u32 (band IntKind.u32 (ix x2 (4 : Int)) (ix x2 (5 : Int))) (band IntKind.u32 (bxor IntKind.u32 (4294967295 : Int) (ix x2 (4 : Int))) (ix x2 (6 : Int)))) + ix shaK x3) + ix (wordsN a1_b (64 : Nat)) x3)))))).length) * (4 : Nat) ≤ (140737488355328 : Nat) ∧ x3 < (9223372036854775807 : Int) ∧ x0 (IntKind.u32.wrap (IntKind.u32.wrap (IntKind.u32.wrap (IntKind.u32.wrap (IntKind.u32.wrap (ix x2 (7 : Int) + bxor IntKind.u32 (bxor IntKind.u32 (turnR (ix x2 (4 : Int)) (6 : Int)) (turnR (ix x2 (4 : Int)) (11 : Int))) (turnR (ix x2 (4 : Int)) (25 : Int))) + bor IntKind.u32 (band IntKind.u32 (ix x2 (4 : Int)) (ix x2 (5 : Int))) (band IntKind.u32 (bxor IntKind.u32 (4294967295 : Int) (ix x2 (4 : Int))) (ix x2 (6 : Int)))) + ix shaK x3) + ix (wordsN a1_b (64 : Nat)) x3) + IntKind.u32.wrap (bxor IntKind.u32 (bxor IntKind.u32 (turnR (ix x2 (0 : Int)) (2 : Int)) (turnR (ix x2 (0 : Int)) (13 : Int))) (turnR (ix x2 (0 : Int)) (22 : Int)) + bor IntKind.u32 (bor IntKind.u32 (band IntKind.u32 (ix x2 (0 : Int)) (ix x2 (1 : Int))) (band IntKind.u32 (ix x2 (0 : Int)) (ix x2 (2 : Int)))) (band IntKind.u32 (ix x2 (1 : Int)) (ix x2 (2 : Int))))) :: ([] : List Int) ++ List.drop (Int.toNat (0 : Int)) (List.take (Int.toNat (7 : Int)) (x2.set (Int.toNat (3 : Int)) (IntKind.u32.wrap (ix x2 (3 : Int) + IntKind.u32.wrap (IntKind.u32.wrap (IntKind.u32.wrap (IntKind.u32.wrap (ix x2 (7 : Int) + bxor IntKind.u32 (bxor IntKind.u32 (turnR (ix x2 (4 : Int)) (6 : Int)) (turnR (ix x2 (4 : Int)) (11 : Int))) (turnR (ix x2 (4 : Int)) (25 : Int))) + bor IntKind.u32 (band IntKind.u32 (ix x2 (4 : Int)) (ix x2 (5 : Int))) (band IntKind.u32 (bxor IntKind.u32 (4294967295 : Int) (ix x2 (4 : Int))) (ix x2 (6 : Int)))) + ix shaK x3) + ix (wordsN a1_b (64 : Nat)) x3)))))) (x3 + (1 : Int)) ∧ x1 (IntKind.u32.wrap (IntKind.u32.wrap (IntKind.u32.wrap (IntKind.u32.wrap (IntKind.u32.wrap (ix x2 (7 : Int) + bxor IntKind.u32 (bxor IntKind.u32 (turnR (ix x2 (4 : Int)) (6 : Int)) (turnR (ix x2 (4 : Int)) (11 : Int))) (turnR (ix x2 (4 : Int)) (25 : Int))) + bor IntKind.u32 (band IntKind.u32 (ix x2 (4 : Int)) (ix x2 (5 : Int))) (band IntKind.u32 (bxor IntKind.u32 (4294967295 : Int) (ix x2 (4 : Int))) (ix x2 (6 : Int)))) + ix shaK x3) + ix (wordsN a1_b (64 : Nat)) x3) + IntKind.u32.wrap (bxor IntKind.u32 (bxor IntKind.u32 (turnR (ix x2 (0 : Int)) (2 : Int)) (turnR (ix x2 (0 : Int)) (13 : Int))) (turnR (ix x2 (0 : Int)) (22 : Int)) + bor IntKind.u32 (bor IntKind.u32 (band IntKind.u32 (ix x2 (0 : Int)) (ix x2 (1 : Int))) (band IntKind.u32 (ix x2 (0 : Int)) (ix x2 (2 : Int)))) (band IntKind.u32 (ix x2 (1 : Int)) (ix x2 (2 : Int))))) :: ([] : List Int) ++ List.drop (Int.toNat (0 : Int)) (List.take (Int.toNat (7 : Int)) (x2.set (Int.toNat (3 : Int)) (IntKind.u32.wrap (ix x2 (3 : Int) + IntKind.u32.wrap (IntKind.u32.wrap (IntKind.u32.wrap (IntKind.u32.wrap (ix x2 (7 : Int) + bxor IntKind.u32 (bxor IntKind.u32 (turnR (ix x2 (4 : Int)) (6 : Int)) (turnR (ix x2 (4 : Int)) (11 : Int))) (turnR (ix x2 (4 : Int)) (25 : Int))) + bor IntKind.u32 (band IntKind.u32 (ix x2 (4 : Int)) (ix x2 (5 : Int))) (band IntKind.u32 (bxor IntKind.u32 (4294967295 : Int) (ix x2 (4 : Int))) (ix x2 (6 : Int)))) + ix shaK x3) + ix (wordsN a1_b (64 : Nat)) x3)))))) (x3 + (1 : Int)) < x1 x2 x3))))))) ∧ (¬x3 < (64 : Int) → ∃ (x8 : Int → List Int → Prop), ∃ (x9 : Int → List Int → Nat), x8 (0 : Int) x2 ∧ ∀ (x10 : Int) (x11 : List Int), x8 x10 x11 → (Kd.int IntKind.i64).wf x10 → (Ty.int IntKind.u32).kd.sl.wf x11 → (x10 < (8 : Int) → ((0 : Int) ≤ x10 ∧ x10 < (x11.length : Int)) ∧ ((0 : Int) ≤ x10 ∧ x10 < (a0_old.length : Int)) ∧ ((0 : Int) ≤ x10 ∧ x10 < (x11.length : Int)) ∧ x10 < (9223372036854775807 : Int) ∧ x8 (x10 + (1 : Int)) (x11.set x10.toNat (IntKind.u32.wrap (ix x11 x10 + ix a0_old x10))) ∧ x9 (x10 + (1 : Int)) (x11.set x10.toNat (IntKind.u32.wrap (ix x11 x10 + ix a0_old x10))) < x9 x10 x11) ∧ (¬x10 < (8 : Int) → Q x11)))
theorem BlockR_ok {a0_old : List Int} {a1_b : List UInt8} (w_0 : (Ty.kd (.sl (.int .u32))).wf a0_old) (w_1 : (Ty.kd (.sl .byte)).wf a1_b) (hp : a0_old.length = 8 ∧ a1_b.length = 64) : BlockR_VC a0_old a1_b (fun o0 => o0 = (takeW a0_old a1_b)) := by
  obtain ⟨hp1, hp2⟩ := hp
  have w64 : ∀ a : Int, -1000 ≤ a → a ≤ 1000 → IntKind.i64.wrap a = a := fun a h1 h2 => wrap_id (wf64 (by omega) (by omega))
  have hk : shaK.length = 64 := by decide
  have hwl := wordsN_len a1_b 64
  have hrl : ∀ n, (roundsN (wordsN a1_b 64) a0_old n).length = 8 := fun n => by
    cases n with
    | zero => exact hp1
    | succ n => rfl
  unfold BlockR_VC
  simp only [List.nil_append]
  refine ⟨by simp; omega, hp2, fun _ _ => ⟨fun x i => ∃ n : Nat, i = (n : Int) ∧ n ≤ 64 ∧ x = roundsN (wordsN a1_b 64) a0_old n, fun _ i => 64 - i.toNat, ⟨0, rfl, by omega, rfl⟩, ?_⟩⟩
  rintro x i ⟨n, rfl, hn, rfl⟩ hwf _
  have hx := hrl n
  refine ⟨fun hlt => ?_, fun hge => ?_⟩
  · have x4 := wf32 (hwf.2 _ (ix_mem (l := roundsN (wordsN a1_b 64) a0_old n) (i := 4) (by omega) (by rw [hx]; decide)))
    have x0 := wf32 (hwf.2 _ (ix_mem (l := roundsN (wordsN a1_b 64) a0_old n) (i := 0) (by omega) (by rw [hx]; decide)))
    have hnext : roundsN (wordsN a1_b 64) a0_old (n + 1) = roundOn (wordsN a1_b 64) (roundsN (wordsN a1_b 64) a0_old n) n := rfl
    rw [← turnsA x4, ← turnsB x0, ch_eq, maj_eq]
    generalize hX : roundsN (wordsN a1_b 64) a0_old n = X at *
    rw [hx, hk, hwl]
    refine ⟨by omega, by omega, by omega, by omega, by omega, by omega, by omega, by omega, fun _ => ⟨by omega, fun _ => ⟨by omega, fun _ _ => ?_⟩⟩⟩
    refine ⟨by omega, by omega, by omega, by omega, by omega, fun _ => ⟨by omega, fun _ => ⟨by omega, fun _ _ => ?_⟩⟩⟩
    refine ⟨by omega, by omega, ?_, ?_, by omega, ⟨n + 1, by omega, by omega, ?_⟩, (by show 64 - ((n : Int) + 1).toNat < 64 - (n : Int).toNat; omega)⟩
    · rw [List.length_set, hx]; decide
    · simp only [List.length_cons, List.length_nil, List.length_drop, List.length_take, List.length_set, hx]; decide
    · rw [hnext]
      match X, hx with
      | [y0, y1, y2, y3, y4, y5, y6, y7], _ => rfl
  · have hn64 : n = 64 := by omega
    subst hn64
    have hT : takeW a0_old a1_b = addN a0_old (roundsN (wordsN a1_b 64) a0_old 64) 8 := by unfold takeW; rfl
    rw [hT]
    have hTl : (addN a0_old (roundsN (wordsN a1_b 64) a0_old 64) 8).length = 8 := by rw [addN_len, hp1]
    have hadd := addN_get (x := roundsN (wordsN a1_b 64) a0_old 64) hp1
    clear hrl hT hwf hn hge
    generalize roundsN (wordsN a1_b 64) a0_old 64 = R at *
    refine ⟨fun i x => ∃ n : Nat, i = (n : Int) ∧ n ≤ 8 ∧ x.length = 8 ∧ ∀ j : Nat, j < 8 → x[j]? = if j < n then (addN a0_old R 8)[j]? else R[j]?, fun i _ => 8 - i.toNat, ⟨0, rfl, by omega, hx, fun j hj => by rw [if_neg (by omega)]⟩, ?_⟩
    rintro i x ⟨n, rfl, hn, hxl, hxj⟩ _ _
    refine ⟨fun hlt => ⟨by omega, by omega, by omega, by omega, ⟨n + 1, by omega, by omega, by rw [List.length_set]; exact hxl, fun j hj => ?_⟩, by show 8 - ((n : Int) + 1).toNat < 8 - (n : Int).toNat; omega⟩, fun hge => ?_⟩
    · have hi : ix x (n : Int) = ix R (n : Int) := by
        have h := hxj n (by omega)
        rw [if_neg (by omega)] at h
        unfold ix
        simp only [List.getD_eq_getElem?_getD, Int.toNat_natCast]
        rw [h]
      rw [hi, List.getElem?_set, Int.toNat_natCast]
      by_cases h : n = j
      · subst h
        rw [if_pos rfl, if_pos (by omega), if_pos (by omega), hadd 8 n (by omega) (by omega), if_pos (by omega), Int.add_comm]
      · rw [if_neg h, hxj j hj]
        by_cases h2 : j < n
        · rw [if_pos h2, if_pos (by omega)]
        · rw [if_neg h2, if_neg (by omega)]
    · have hn8 : n = 8 := by omega
      subst hn8
      apply List.ext_getElem?
      intro j
      by_cases hj : j < 8
      · rw [hxj j hj, if_pos hj]
      · rw [List.getElem?_eq_none (by omega), List.getElem?_eq_none (by omega)]
theorem BlockR_eq : (∀ a, BlockR_C.pre a → PM.wfP BlockR_C.pm a (fvc BlockR_X 200 71 BlockR_C a (eqO BlockR_C a))) = (∀ a : (List Int) × (List UInt8) × Unit, ((a.1).length = 8 ∧ (a.2.1).length = 64) → (Ty.kd (.sl (.int .u32))).wf a.1 → (Ty.kd (.sl .byte)).wf a.2.1 → BlockR_VC a.1 a.2.1 (fun o0 => o0 = (takeW (a.1) (a.2.1)))) := by kernel_rfl
theorem BlockR_k : BlockR_C.valid Try.prog 71 := ctr_of (X := BlockR_X) (ok_of (seat_ok.rows [1000092]) (fun b hb => by cases hb; exact bkT_ok) fns_ok ⟨schedule_k, constants_k, turn_k, three_k, trivial⟩) 200 (BlockR_eq.mpr fun a hp w_0 w_1 => @BlockR_ok a.1 a.2.1 w_0 w_1 hp)
noncomputable def Block_C : Ctr := ⟨[.v (.sl (.int .u32)), .v (.sl .byte)], [.ow 92 (.int .u32)], some (fun a => (fun (a0_old : List Int) (a1_b : List UInt8) => (a0_old.length = 8 ∧ a1_b.length = 64 : Prop)) a.1 a.2.1), fun a => (fun (a0_old : List Int) (a1_b : List UInt8) => (((takeW a0_old a1_b), ()), (()))) a.1 a.2.1⟩
theorem Block_k : Block_C.valid Try.prog 71 := ow_of_rw BlockR_k
noncomputable def RAll_C : Ctr := ⟨[.v (.sl (.sl .byte))], [.ow 5 .byte], some (fun a => (fun (a0_parts : List (List UInt8)) => (a0_parts.flatten.length ≤ 70368744177664 : Prop)) a.1), fun a => (fun (a0_parts : List (List UInt8)) => ((a0_parts.flatten, ()), (()))) a.1⟩
noncomputable def RAll_X : Fx := ⟨seat, some bkT, fns, [], [], [], []⟩
def RAll_VC (a0_parts : List (List UInt8)) (Q : (List UInt8) → Prop) : Prop :=
  ∃ (x0 : List UInt8 → Int → Prop), ∃ (x1 : List UInt8 → Int → Nat), x0 ([] : List UInt8) (0 : Int) ∧ ∀ (x2 : List UInt8) (x3 : Int), x0 x2 x3 → Ty.byte.kd.sl.wf x2 → (Kd.int IntKind.i64).wf x3 → (x3 < (a0_parts.length : Int) → ((0 : Int) ≤ x3 ∧ x3 < (a0_parts.length : Int)) ∧ (x2.length + (ix a0_parts x3).length) * (1 : Nat) ≤ (140737488355328 : Nat) ∧ x3 < (9223372036854775807 : Int) ∧ x0 (x2 ++ ix a0_parts x3) (x3 + (1 : Int)) ∧ x1 (x2 ++ ix a0_parts x3) (x3 + (1 : Int)) < x1 x2 x3) ∧ (¬x3 < (a0_parts.length : Int) → Q x2)
theorem RAll_ok {a0_parts : List (List UInt8)} (w_0 : (Ty.kd (.sl (.sl .byte))).wf a0_parts) (hp : a0_parts.flatten.length ≤ 70368744177664) : RAll_VC a0_parts (fun o0 => o0 = a0_parts.flatten) := by
  have hL : a0_parts.length ≤ LM := w_0.1
  unfold LM at hL
  unfold RAll_VC
  refine ⟨fun out i => ∃ j : Nat, i = (j : Int) ∧ j ≤ a0_parts.length ∧ out = (a0_parts.take j).flatten, fun _ i => a0_parts.length - i.toNat, ⟨0, rfl, by omega, by simp⟩, ?_⟩
  rintro out i ⟨j, rfl, hj, rfl⟩ _ _
  refine ⟨fun hlt => ⟨⟨by omega, hlt⟩, ?_, by omega, ⟨j + 1, by omega, by omega, (flat_step hlt).symm⟩, ?_⟩, fun hge => ?_⟩
  · have h1 := flat_take (l := a0_parts) (j + 1)
    rw [flat_step hlt, List.length_append] at h1
    omega
  · show a0_parts.length - ((j : Int) + 1).toNat < a0_parts.length - (j : Int).toNat
    omega
  · have : j = a0_parts.length := by omega
    subst this
    rw [List.take_length]
theorem RAll_eq : (∀ a, RAll_C.pre a → PM.wfP RAll_C.pm a (fvc RAll_X 200 70 RAll_C a (eqO RAll_C a))) = (∀ a : (List (List UInt8)) × Unit, ((a.1).flatten.length ≤ 70368744177664) → (Ty.kd (.sl (.sl .byte))).wf a.1 → RAll_VC a.1 (fun o0 => o0 = (a.1).flatten)) := by kernel_rfl
theorem RAll_k : RAll_C.valid Try.prog 70 := ctr_of (X := RAll_X) (ok_of seat_ok (fun b hb => by cases hb; exact bkT_ok) fns_ok trivial) 200 (RAll_eq.mpr fun a hp w_0 => @RAll_ok a.1 w_0 hp)
noncomputable def RSum_C : Ctr := ⟨[.v (.sl (.sl .byte))], [.v (.arr 32 .byte)], some (fun a => (fun (a0_parts : List (List UInt8)) => (a0_parts.flatten.length ≤ 70368744177664 : Prop)) a.1), fun a => (fun (a0_parts : List (List UInt8)) => (((sha256 a0_parts), ()), (()))) a.1⟩
noncomputable def RSum_X : Fx := ⟨seat, some bkT, fns, [(70, RAll_C), (69, Message_C), (71, Block_C), (71, BlockR_C), (72, power_C)], [], [(9, [5], [])], [(11, [5], [.o 0 2, .o 1 2, .o 2 2, .o 3 2, .o 4 2, .o 5 2, .o 6 2, .o 7 2, .o 8 2, .o 9 2, .o 10 0, .o 11 2, .o 12 2, .o 13 2, .o 14 2, .o 15 1])]⟩
def RSum_VC (a0_parts : List (List UInt8)) (Q : (List UInt8) → Prop) : Prop :=
  a0_parts.flatten.length ≤ (70368744177664 : Nat) ∧ (Ty.byte.kd.sl.wf a0_parts.flatten → a0_parts.flatten.length ≤ (70368744177664 : Nat) ∧ (Ty.byte.kd.sl.wf (msgOf a0_parts.flatten) → ∃ (x0 : List Int → Int → Prop), ∃ (x1 : List Int → Int → Nat), x0 ((1779033703 : Int) :: (3144134277 : Int) :: (1013904242 : Int) :: (2773480762 : Int) :: (1359893119 : Int) :: (2600822924 : Int) :: (528734635 : Int) :: (1541459225 : Int) :: ([] : List Int)) (0 : Int) ∧ ∀ (x2 : List Int) (x3 : Int), x0 x2 x3 → (Ty.int IntKind.u32).kd.sl.wf x2 → (Kd.int IntKind.i64).wf x3 → (x3 < ((msgOf a0_parts.flatten).length : Int) → ((0 : Int) ≤ x3 ∧ x3 ≤ IntKind.i64.wrap (x3 + (64 : Int)) ∧ IntKind.i64.wrap (x3 + (64 : Int)) ≤ ((msgOf a0_parts.flatten).length : Int)) ∧ (x2.length = (8 : Nat) ∧ (List.drop x3.toNat (List.take (IntKind.i64.wrap (x3 + (64 : Int))).toNat (msgOf a0_parts.flatten))).length = (64 : Nat)) ∧ ((Ty.int IntKind.u32).kd.sl.wf (takeW x2 (List.drop x3.toNat (List.take (IntKind.i64.wrap (x3 + (64 : Int))).toNat (msgOf a0_parts.flatten)))) → x0 (takeW x2 (List.drop x3.toNat (List.take (IntKind.i64.wrap (x3 + (64 : Int))).toNat (msgOf a0_parts.flatten)))) (IntKind.i64.wrap (x3 + (64 : Int))) ∧ x1 (takeW x2 (List.drop x3.toNat (List.take (IntKind.i64.wrap (x3 + (64 : Int))).toNat (msgOf a0_parts.flatten)))) (IntKind.i64.wrap (x3 + (64 : Int))) < x1 x2 x3)) ∧ (¬x3 < ((msgOf a0_parts.flatten).length : Int) → ∃ (x8 : Int → List UInt8 → Prop), ∃ (x9 : Int → List UInt8 → Nat), x8 (0 : Int) (Ty.arr (32 : Nat) Ty.byte).kd.z ∧ ∀ (x10 : Int) (x11 : List UInt8), x8 x10 x11 → (Kd.int IntKind.i64).wf x10 → (Ty.arr (32 : Nat) Ty.byte).kd.wf x11 → (x10 < (32 : Int) → ((0 : Int) ≤ IntKind.i64.wrap (x10.tdiv (4 : Int)) ∧ IntKind.i64.wrap (x10.tdiv (4 : Int)) < (x2.length : Int)) ∧ ((0 : Int) ≤ IntKind.i64.wrap ((24 : Int) - IntKind.i64.wrap (x10.tmod (4 : Int) * (8 : Int))) ∧ IntKind.i64.wrap ((24 : Int) - IntKind.i64.wrap (x10.tmod (4 : Int) * (8 : Int))) ≤ (31 : Int)) ∧ ((Ty.int IntKind.u32).kd.wf ((2 : Int) ^ (IntKind.i64.wrap ((24 : Int) - IntKind.i64.wrap (x10.tmod (4 : Int) * (8 : Int)))).toNat) → (2 : Int) ^ (IntKind.i64.wrap ((24 : Int) - IntKind.i64.wrap (x10.tmod (4 : Int) * (8 : Int)))).toNat ≠ (0 : Int) ∧ ((0 : Int) ≤ x10 ∧ x10 < ((32 : Nat) : Int)) ∧ x10 < (9223372036854775807 : Int) ∧ x8 (x10 + (1 : Int)) (x11.set x10.toNat (toB (IntKind.u8.wrap ((IntKind.u32.wrap ((ix x2 (IntKind.i64.wrap (x10.tdiv (4 : Int)))).tdiv ((2 : Int) ^ (IntKind.i64.wrap ((24 : Int) - IntKind.i64.wrap (x10.tmod (4 : Int) * (8 : Int)))).toNat))).tmod (256 : Int))))) ∧ x9 (x10 + (1 : Int)) (x11.set x10.toNat (toB (IntKind.u8.wrap ((IntKind.u32.wrap ((ix x2 (IntKind.i64.wrap (x10.tdiv (4 : Int)))).tdiv ((2 : Int) ^ (IntKind.i64.wrap ((24 : Int) - IntKind.i64.wrap (x10.tmod (4 : Int) * (8 : Int)))).toNat))).tmod (256 : Int))))) < x9 x10 x11)) ∧ (¬x10 < (32 : Int) → Q x11))))
theorem RSum_ok {a0_parts : List (List UInt8)} (w_0 : (Ty.kd (.sl (.sl .byte))).wf a0_parts) (hp : a0_parts.flatten.length ≤ 70368744177664) : RSum_VC a0_parts (fun o0 => o0 = (sha256 a0_parts)) := by
  have w64 : ∀ a : Int, 0 ≤ a → a ≤ 140737488355328 → IntKind.i64.wrap a = a := fun a h1 h2 => wrap_id (wf64 (by omega) (by omega))
  unfold RSum_VC
  refine ⟨hp, fun _ => ⟨hp, fun _ => ?_⟩⟩
  rw [sha256_msg _ hp]
  have hml := msgOf_len a0_parts.flatten
  have hz : zerosN a0_parts.flatten.length < 64 ∧ (a0_parts.flatten.length + (1 + (zerosN a0_parts.flatten.length + 8))) % 64 = 0 := by unfold zerosN; omega
  generalize hM : msgOf a0_parts.flatten = M at *
  have hM64 : M.length % 64 = 0 := by omega
  have hMle : M.length ≤ 70368744177664 + 100 := by omega
  clear hml hz hM
  refine ⟨fun x i => ∃ k : Nat, i = ((64 * k : Nat) : Int) ∧ 64 * k ≤ M.length ∧ x = blkN shaH M k, fun _ i => M.length - i.toNat, ⟨0, rfl, by omega, rfl⟩, ?_⟩
  rintro x i ⟨k, rfl, hk, rfl⟩ hwx _
  have hbl : (blkN shaH M k).length = 8 := by rw [blkN_len]; rfl
  refine ⟨fun hlt => ?_, fun hge => ?_⟩
  · rw [w64 _ (by omega) (by omega)]
    have e1 : (((64 * k : Nat) : Int) + 64).toNat = 64 * k + 64 := by omega
    rw [e1, Int.toNat_natCast]
    have hd : (M.take (64 * k + 64)).drop (64 * k) = (M.drop (64 * k)).take 64 := by rw [List.drop_take]; congr 1; omega
    rw [hd]
    refine ⟨by omega, ⟨hbl, by rw [List.length_take, List.length_drop]; omega⟩, fun _ => ⟨⟨k + 1, by omega, by omega, rfl⟩, ?_⟩⟩
    show M.length - (((64 * k : Nat) : Int) + 64).toNat < M.length - ((64 * k : Nat) : Int).toNat
    omega
  · have hk2 : M.length / 64 = k := by omega
    rw [hk2, sumN_out]
    generalize blkN shaH M k = X at *
    refine ⟨fun i b => ∃ n : Nat, i = (n : Int) ∧ n ≤ 32 ∧ b.length = 32 ∧ ∀ j : Nat, j < n → b[j]? = some (outB X j), fun i _ => 32 - i.toNat, ⟨0, rfl, by omega, rfl, fun j hj => by omega⟩, ?_⟩
    rintro i b ⟨n, rfl, hn, hb, hbj⟩ _ _
    refine ⟨fun hlt => ?_, fun hge => ?_⟩
    · have w64' : ∀ a : Int, -1000 ≤ a → a ≤ 1000 → IntKind.i64.wrap a = a := fun a h1 h2 => wrap_id (wf64 (by omega) (by omega))
      have d1 : Int.tdiv (n : Int) 4 = ((n / 4 : Nat) : Int) := (Int.ofNat_tdiv n 4).symm
      have d2 : Int.tmod (n : Int) 4 = ((n % 4 : Nat) : Int) := (Int.ofNat_tmod n 4).symm
      rw [d1, d2, w64' ((n / 4 : Nat) : Int) (by omega) (by omega), w64' (((n % 4 : Nat) : Int) * 8) (by omega) (by omega), w64' (24 - ((n % 4 : Nat) : Int) * 8) (by omega) (by omega)]
      have e3 : (24 - ((n % 4 : Nat) : Int) * 8).toNat = 24 - n % 4 * 8 := by omega
      rw [e3]
      have hpos := Nat.two_pow_pos (24 - n % 4 * 8)
      have e4 : (2 ^ (24 - n % 4 * 8) : Int) = ((2 ^ (24 - n % 4 * 8) : Nat) : Int) := by simp
      rw [e4]
      refine ⟨by omega, by omega, fun _ => ⟨by omega, by omega, by omega, ⟨n + 1, by omega, by omega, by rw [List.length_set]; exact hb, fun j hj => ?_⟩, by show 32 - ((n : Int) + 1).toNat < 32 - (n : Int).toNat; omega⟩⟩
      rw [List.getElem?_set, Int.toNat_natCast]
      by_cases h : n = j
      · subst h
        rw [if_pos rfl, if_pos (by omega)]
        congr 1
        unfold outB
        have hxw := wf32 (hwx.2 _ (ix_mem (l := X) (i := ((n / 4 : Nat) : Int)) (by omega) (by omega)))
        obtain ⟨A, hA⟩ := Int.eq_ofNat_of_zero_le hxw.1
        rw [hA] at hxw ⊢
        have hle : A / 2 ^ (24 - n % 4 * 8) ≤ A := Nat.div_le_self _ _
        rw [← Int.ofNat_tdiv, Int.toNat_natCast]
        generalize A / 2 ^ (24 - n % 4 * 8) = D at *
        rw [wrap_nat32 (by omega), show (256 : Int) = ((256 : Nat) : Int) from rfl, ← Int.ofNat_tmod, wrap_id ⟨by show (0 : Int) ≤ _; omega, by show _ ≤ (255 : Int); omega⟩]
        unfold toB
        rw [Int.toNat_natCast]
        apply UInt8.toNat_inj.1
        simp
      · rw [if_neg h]
        exact hbj j (by omega)
    · have : n = 32 := by omega
      subst this
      apply List.ext_getElem?
      intro j
      by_cases hj : j < 32
      · rw [hbj j hj]
        simp [hj]
      · rw [List.getElem?_eq_none (by omega), List.getElem?_eq_none (by simp; omega)]
theorem RSum_eq : (∀ a, RSum_C.pre a → PM.wfP RSum_C.pm a (fvc RSum_X 200 64 RSum_C a (eqO RSum_C a))) = (∀ a : (List (List UInt8)) × Unit, ((a.1).flatten.length ≤ 70368744177664) → (Ty.kd (.sl (.sl .byte))).wf a.1 → RSum_VC a.1 (fun o0 => o0 = (sha256 (a.1)))) := by kernel_rfl
theorem RSum_k : RSum_C.valid Try.prog 64 := ctr_of (X := RSum_X) (ok_of seat_ok (fun b hb => by cases hb; exact bkT_ok) fns_ok ⟨RAll_k, Message_k, Block_k, BlockR_k, power_k, trivial⟩) 200 (RSum_eq.mpr fun a hp w_0 => @RSum_ok a.1 w_0 hp)
noncomputable def RNumber_C : Ctr := ⟨[.v (.int .u64)], [.ow 5 .byte], none, fun a => (fun (a0_x : Int) => (((numB a0_x.toNat), ()), (()))) a.1⟩
noncomputable def RNumber_X : Fx := ⟨seat, some bkT, fns, [], [], [], []⟩
def RNumber_VC (a0_x : Int) (Q : (List UInt8) → Prop) : Prop :=
  ∃ (x0 : Int → List UInt8 → Prop), ∃ (x1 : Int → List UInt8 → Nat), x0 a0_x ([] : List UInt8) ∧ ∀ (x2 : Int) (x3 : List UInt8), x0 x2 x3 → (Kd.int IntKind.u64).wf x2 → Ty.byte.kd.sl.wf x3 → ((0 : Int) < x2 → (x3.length + (toB (IntKind.u8.wrap (x2.tmod (256 : Int))) :: ([] : List UInt8)).length) * (1 : Nat) ≤ (140737488355328 : Nat) ∧ x0 (IntKind.u64.wrap (x2.tdiv (256 : Int))) (x3 ++ toB (IntKind.u8.wrap (x2.tmod (256 : Int))) :: ([] : List UInt8)) ∧ x1 (IntKind.u64.wrap (x2.tdiv (256 : Int))) (x3 ++ toB (IntKind.u8.wrap (x2.tmod (256 : Int))) :: ([] : List UInt8)) < x1 x2 x3) ∧ (¬(0 : Int) < x2 → ∃ (x8 : List UInt8 → Int → Prop), ∃ (x9 : List UInt8 → Int → Nat), x8 (toB (IntKind.u8.wrap (x3.length : Int)) :: ([] : List UInt8)) (x3.length : Int) ∧ ∀ (x10 : List UInt8) (x11 : Int), x8 x10 x11 → Ty.byte.kd.sl.wf x10 → (Kd.int IntKind.i64).wf x11 → ((0 : Int) < x11 → ((0 : Int) ≤ IntKind.i64.wrap (x11 - (1 : Int)) ∧ IntKind.i64.wrap (x11 - (1 : Int)) < (x3.length : Int)) ∧ (x10.length + (ix x3 (IntKind.i64.wrap (x11 - (1 : Int))) :: ([] : List UInt8)).length) * (1 : Nat) ≤ (140737488355328 : Nat) ∧ x8 (x10 ++ ix x3 (IntKind.i64.wrap (x11 - (1 : Int))) :: ([] : List UInt8)) (IntKind.i64.wrap (x11 - (1 : Int))) ∧ x9 (x10 ++ ix x3 (IntKind.i64.wrap (x11 - (1 : Int))) :: ([] : List UInt8)) (IntKind.i64.wrap (x11 - (1 : Int))) < x9 x10 x11) ∧ (¬(0 : Int) < x11 → Q x10))
theorem RNumber_ok {a0_x : Int} (w_0 : (Ty.kd (.int .u64)).wf a0_x) : RNumber_VC a0_x (fun o0 => o0 = (numB a0_x.toNat)) := by
  obtain ⟨n, rfl⟩ := Int.eq_ofNat_of_zero_le w_0.1
  have hn : n < 18446744073709551616 := by have h : (n : Int) ≤ 18446744073709551615 := w_0.2; omega
  rw [Int.toNat_natCast]
  have w64 : ∀ a : Int, -1000 ≤ a → a ≤ 1000 → IntKind.i64.wrap a = a := fun a h1 h2 => wrap_id (wf64 (by omega) (by omega))
  unfold RNumber_VC
  refine ⟨fun x low => ∃ j : Nat, j ≤ 8 ∧ x = ((n / 2 ^ (8 * j) : Nat) : Int) ∧ low = (List.range j).map (fun i => UInt8.ofNat (n / 2 ^ (8 * i))) ∧ (j = 0 ∨ 0 < n / 2 ^ (8 * (j - 1))), fun x _ => x.toNat, ⟨0, by omega, by simp, rfl, .inl rfl⟩, ?_⟩
  rintro x low ⟨j, hj, rfl, rfl, hlow⟩ _ _
  have hdd : n / 2 ^ (8 * (j + 1)) = n / 2 ^ (8 * j) / 256 := by
    rw [Nat.div_div_eq_div_mul, show 8 * (j + 1) = 8 * j + 8 by omega, Nat.pow_add]
  refine ⟨fun hpos => ?_, fun hz => ?_⟩
  · have hj8 : j < 8 := by
      rcases Nat.lt_or_eq_of_le hj with h | h
      · exact h
      · subst h
        rw [Nat.div_eq_of_lt (by simpa using hn)] at hpos
        omega
    have hle : n / 2 ^ (8 * j) ≤ n := Nat.div_le_self _ _
    have e1 : IntKind.u64.wrap (Int.tdiv ((n / 2 ^ (8 * j) : Nat) : Int) 256) = ((n / 2 ^ (8 * (j + 1)) : Nat) : Int) := by
      rw [hdd]
      clear hdd hlow hpos
      generalize n / 2 ^ (8 * j) = A at *
      rw [show (256 : Int) = ((256 : Nat) : Int) from rfl, ← Int.ofNat_tdiv, wrap_id ⟨by show (0 : Int) ≤ _; omega, by show _ ≤ (18446744073709551615 : Int); omega⟩]
    have e2 : toB (IntKind.u8.wrap (Int.tmod ((n / 2 ^ (8 * j) : Nat) : Int) 256)) = UInt8.ofNat (n / 2 ^ (8 * j)) := by
      generalize n / 2 ^ (8 * j) = A
      rw [show (256 : Int) = ((256 : Nat) : Int) from rfl, ← Int.ofNat_tmod, wrap_id ⟨by show (0 : Int) ≤ _; omega, by show _ ≤ (255 : Int); omega⟩]
      unfold toB
      rw [Int.toNat_natCast]
      apply UInt8.toNat_inj.1
      simp
    rw [e1, e2]
    refine ⟨by simp; omega, ⟨j + 1, by omega, rfl, by rw [List.range_succ]; simp, .inr ?_⟩, ?_⟩
    · rw [show j + 1 - 1 = j by omega]
      clear hdd hlow e1 e2
      generalize n / 2 ^ (8 * j) = A at *
      omega
    · show ((n / 2 ^ (8 * (j + 1)) : Nat) : Int).toNat < ((n / 2 ^ (8 * j) : Nat) : Int).toNat
      rw [hdd]
      clear hdd hlow e1 e2
      generalize n / 2 ^ (8 * j) = A at *
      omega
  · have hz0 : n / 2 ^ (8 * j) = 0 := by
      revert hz
      generalize n / 2 ^ (8 * j) = A
      intro hz
      omega
    have hlt : n < 2 ^ (8 * j) := by
      rcases Nat.lt_or_ge n (2 ^ (8 * j)) with h | h
      · exact h
      · have := Nat.div_pos h (Nat.two_pow_pos (8 * j)); omega
    have hk : (blen n + 7) / 8 = j := by
      have h1 := blen_lt (8 * j) hlt
      rcases hlow with h | h
      · subst h; omega
      · have h2 : 2 ^ (8 * (j - 1)) ≤ n := by
          rcases Nat.lt_or_ge n (2 ^ (8 * (j - 1))) with hq | hq
          · rw [Nat.div_eq_of_lt hq] at h; omega
          · exact hq
        have h3 := Nat.lt_of_le_of_lt h2 (lt_blen n)
        have h4 : 8 * (j - 1) < blen n := (Nat.pow_lt_pow_iff_right (by omega)).1 h3
        rcases Nat.eq_zero_or_pos j with hj0 | hj0
        · subst hj0; omega
        · omega
    have hlen : ((List.range j).map (fun i => UInt8.ofNat (n / 2 ^ (8 * i)))).length = j := by simp
    have hix : ∀ i : Nat, i < j → ix ((List.range j).map (fun i => UInt8.ofNat (n / 2 ^ (8 * i)))) (i : Int) = UInt8.ofNat (n / 2 ^ (8 * i)) := fun i hi => by
      unfold ix
      simp [hi]
    have hn0 : numB n = toB (IntKind.u8.wrap (j : Int)) :: be n j := by
      unfold numB
      simp only [hk]
      congr 1
      rw [wrap_id ⟨by show (0 : Int) ≤ _; omega, by show _ ≤ (255 : Int); omega⟩]
      unfold toB
      rw [Int.toNat_natCast]
    rw [hlen, hn0]
    refine ⟨fun out i => ∃ m : Nat, i = (m : Int) ∧ m ≤ j ∧ out ++ be n m = toB (IntKind.u8.wrap (j : Int)) :: be n j, fun _ i => i.toNat, ⟨j, rfl, by omega, rfl⟩, ?_⟩
    rintro out i ⟨m, rfl, hm, hout⟩ _ _
    have hol := congrArg List.length hout
    simp only [List.length_append, List.length_cons, be_length] at hol
    refine ⟨fun hpos => ?_, fun h0 => ?_⟩
    · obtain ⟨m, rfl⟩ : ∃ m', m = m' + 1 := ⟨m - 1, by omega⟩
      have e : IntKind.i64.wrap (((m + 1 : Nat) : Int) - 1) = (m : Int) := by rw [w64 _ (by omega) (by omega)]; omega
      rw [e, hix m (by omega)]
      refine ⟨by omega, by simp only [List.length_cons, List.length_nil]; omega, ⟨m, rfl, by omega, ?_⟩, by show (m : Int).toNat < ((m + 1 : Nat) : Int).toNat; omega⟩
      rw [← hout]
      simp [be]
    · have : m = 0 := by omega
      subst this
      simpa [be] using hout
theorem RNumber_eq : (∀ a, RNumber_C.pre a → PM.wfP RNumber_C.pm a (fvc RNumber_X 200 84 RNumber_C a (eqO RNumber_C a))) = (∀ a : Int × Unit, True → (Ty.kd (.int .u64)).wf a.1 → RNumber_VC a.1 (fun o0 => o0 = (numB (a.1).toNat))) := by kernel_rfl
theorem RNumber_k : RNumber_C.valid Try.prog 84 := ctr_of (X := RNumber_X) (ok_of seat_ok (fun b hb => by cases hb; exact bkT_ok) fns_ok trivial) 200 (RNumber_eq.mpr fun a hp w_0 => @RNumber_ok a.1 w_0)
noncomputable def RBlobs_C : Ctr := ⟨[.v (.sl .byte), .v (.sl (.sl .byte))], [.ow 5 .byte], some (fun a => (fun (a0_b : List UInt8) (a1_l : List (List UInt8)) => (a0_b.length + blobRoom a1_l ≤ 140737488355328 : Prop)) a.1 a.2.1), fun a => (fun (a0_b : List UInt8) (a1_l : List (List UInt8)) => (((a0_b ++ blobAll a1_l), ()), (()))) a.1 a.2.1⟩
noncomputable def RBlobs_X : Fx := ⟨seat, some bkT, fns, [(84, RNumber_C)], [], [], []⟩
def RBlobs_VC (a0_b : List UInt8) (a1_l : List (List UInt8)) (Q : (List UInt8) → Prop) : Prop :=
  (([] : List UInt8).length + a0_b.length) * (1 : Nat) ≤ (140737488355328 : Nat) ∧ ∃ (x0 : List UInt8 → Int → Prop), ∃ (x1 : List UInt8 → Int → Nat), x0 (([] : List UInt8) ++ a0_b) (0 : Int) ∧ ∀ (x2 : List UInt8) (x3 : Int), x0 x2 x3 → Ty.byte.kd.sl.wf x2 → (Kd.int IntKind.i64).wf x3 → (x3 < (a1_l.length : Int) → ((0 : Int) ≤ x3 ∧ x3 < (a1_l.length : Int)) ∧ (Ty.byte.kd.sl.wf (numB (IntKind.u64.wrap ((ix a1_l x3).length : Int)).toNat) → (x2.length + (numB (IntKind.u64.wrap ((ix a1_l x3).length : Int)).toNat).length) * (1 : Nat) ≤ (140737488355328 : Nat) ∧ ((0 : Int) ≤ x3 ∧ x3 < (a1_l.length : Int)) ∧ ((x2 ++ numB (IntKind.u64.wrap ((ix a1_l x3).length : Int)).toNat).length + (ix a1_l x3).length) * (1 : Nat) ≤ (140737488355328 : Nat) ∧ x3 < (9223372036854775807 : Int) ∧ x0 (x2 ++ numB (IntKind.u64.wrap ((ix a1_l x3).length : Int)).toNat ++ ix a1_l x3) (x3 + (1 : Int)) ∧ x1 (x2 ++ numB (IntKind.u64.wrap ((ix a1_l x3).length : Int)).toNat ++ ix a1_l x3) (x3 + (1 : Int)) < x1 x2 x3)) ∧ (¬x3 < (a1_l.length : Int) → Q x2)
theorem RBlobs_ok {a0_b : List UInt8} {a1_l : List (List UInt8)} (w_0 : (Ty.kd (.sl .byte)).wf a0_b) (w_1 : (Ty.kd (.sl (.sl .byte))).wf a1_l) (hp : a0_b.length + blobRoom a1_l ≤ 140737488355328) : RBlobs_VC a0_b a1_l (fun o0 => o0 = (a0_b ++ blobAll a1_l)) := by
  have hw : ∀ x ∈ a1_l, x.length ≤ LM := fun x hx => (w_1.2 x hx).1
  have hL : a1_l.length ≤ LM := w_1.1
  unfold LM at hL
  unfold RBlobs_VC
  simp only [List.nil_append]
  refine ⟨by simp only [List.length_nil]; omega, fun out i => ∃ j : Nat, i = (j : Int) ∧ j ≤ a1_l.length ∧ out = a0_b ++ blobAll (a1_l.take j), fun _ i => a1_l.length - i.toNat, ⟨0, rfl, by omega, by simp [blobAll]⟩, ?_⟩
  rintro out i ⟨j, rfl, hj, rfl⟩ _ _
  refine ⟨fun hlt => ?_, fun hge => ?_⟩
  · have h1 := blobAll_length (a1_l.take j) (fun y hy => by have := hw y (List.mem_of_mem_take hy); unfold LM at this; omega)
    have h2 := blobRoom_step hlt
    have h3 := hw _ (ix_mem (by omega) hlt)
    have h4 : IntKind.u64.wrap ((ix a1_l (j : Int)).length : Int) = ((ix a1_l (j : Int)).length : Int) := wrap_id ⟨by show (0 : Int) ≤ _; omega, by unfold LM at h3; show _ ≤ (18446744073709551615 : Int); omega⟩
    have h5 := numB_length (n := (ix a1_l (j : Int)).length) (by unfold LM at h3; omega)
    rw [h4, Int.toNat_natCast]
    refine ⟨⟨by omega, hlt⟩, fun _ => ⟨?_, ⟨by omega, hlt⟩, ?_, by omega, ⟨j + 1, by omega, by omega, ?_⟩, ?_⟩⟩
    · simp only [List.length_append]; omega
    · simp only [List.length_append]; omega
    · rw [take_step hlt]
      simp [blobAll]
    · show a1_l.length - ((j : Int) + 1).toNat < a1_l.length - (j : Int).toNat
      omega
  · have : j = a1_l.length := by omega
    subst this
    rw [List.take_length]
theorem RBlobs_eq : (∀ a, RBlobs_C.pre a → PM.wfP RBlobs_C.pm a (fvc RBlobs_X 200 73 RBlobs_C a (eqO RBlobs_C a))) = (∀ a : (List UInt8) × (List (List UInt8)) × Unit, ((a.1).length + blobRoom (a.2.1) ≤ 140737488355328) → (Ty.kd (.sl .byte)).wf a.1 → (Ty.kd (.sl (.sl .byte))).wf a.2.1 → RBlobs_VC a.1 a.2.1 (fun o0 => o0 = ((a.1) ++ blobAll (a.2.1)))) := by kernel_rfl
theorem RBlobs_k : RBlobs_C.valid Try.prog 73 := ctr_of (X := RBlobs_X) (ok_of seat_ok (fun b hb => by cases hb; exact bkT_ok) fns_ok ⟨RNumber_k, trivial⟩) 200 (RBlobs_eq.mpr fun a hp w_0 w_1 => @RBlobs_ok a.1 a.2.1 w_0 w_1 hp)
noncomputable def RPreimage_C : Ctr := ⟨[.v (.int .i64), .v (.sl (.sl .byte))], [.ow 5 .byte], some (fun a => (fun (a0_kind : Int) (a1_parts : List (List UInt8)) => (1 + blobRoom a1_parts ≤ 140737488355328 : Prop)) a.1 a.2.1), fun a => (fun (a0_kind : Int) (a1_parts : List (List UInt8)) => (((preimage a0_kind a1_parts), ()), (()))) a.1 a.2.1⟩
noncomputable def RPreimage_X : Fx := ⟨seat, some bkT, fns, [(73, RBlobs_C)], [], [], []⟩
def RPreimage_VC (a0_kind : Int) (a1_parts : List (List UInt8)) (Q : (List UInt8) → Prop) : Prop :=
  (toB (IntKind.u8.wrap a0_kind) :: ([] : List UInt8)).length + blobRoom a1_parts ≤ (140737488355328 : Nat) ∧ (Ty.byte.kd.sl.wf (toB (IntKind.u8.wrap a0_kind) :: ([] : List UInt8) ++ blobAll a1_parts) → Q (toB (IntKind.u8.wrap a0_kind) :: ([] : List UInt8) ++ blobAll a1_parts))
theorem RPreimage_ok {a0_kind : Int} {a1_parts : List (List UInt8)} (w_0 : (Ty.kd (.int .i64)).wf a0_kind) (w_1 : (Ty.kd (.sl (.sl .byte))).wf a1_parts) (hp : 1 + blobRoom a1_parts ≤ 140737488355328) : RPreimage_VC a0_kind a1_parts (fun o0 => o0 = (preimage a0_kind a1_parts)) := by
  unfold RPreimage_VC
  exact ⟨by simpa using hp, fun _ => rfl⟩
theorem RPreimage_eq : (∀ a, RPreimage_C.pre a → PM.wfP RPreimage_C.pm a (fvc RPreimage_X 200 65 RPreimage_C a (eqO RPreimage_C a))) = (∀ a : Int × (List (List UInt8)) × Unit, (1 + blobRoom (a.2.1) ≤ 140737488355328) → (Ty.kd (.int .i64)).wf a.1 → (Ty.kd (.sl (.sl .byte))).wf a.2.1 → RPreimage_VC a.1 a.2.1 (fun o0 => o0 = (preimage (a.1) (a.2.1)))) := by kernel_rfl
theorem RPreimage_k : RPreimage_C.valid Try.prog 65 := ctr_of (X := RPreimage_X) (ok_of seat_ok (fun b hb => by cases hb; exact bkT_ok) fns_ok ⟨RBlobs_k, trivial⟩) 200 (RPreimage_eq.mpr fun a hp w_0 w_1 => @RPreimage_ok a.1 a.2.1 w_0 w_1 hp)
noncomputable def ROf_C : Ctr := ⟨[.v (.int .i64), .v (.sl (.sl .byte))], [.v (.arr 32 .byte)], some (fun a => (fun (a0_kind : Int) (a1_parts : List (List UInt8)) => (1 + blobRoom a1_parts ≤ 70368744177664 : Prop)) a.1 a.2.1), fun a => (fun (a0_kind : Int) (a1_parts : List (List UInt8)) => (((sealOf a0_kind a1_parts), ()), (()))) a.1 a.2.1⟩
noncomputable def ROf_X : Fx := ⟨seat, some bkT, fns, [(65, RPreimage_C), (64, RSum_C)], [], [], []⟩
def ROf_VC (a0_kind : Int) (a1_parts : List (List UInt8)) (Q : (List UInt8) → Prop) : Prop :=
  (1 : Nat) + blobRoom a1_parts ≤ (140737488355328 : Nat) ∧ (Ty.byte.kd.sl.wf (preimage a0_kind a1_parts) → (preimage a0_kind a1_parts :: ([] : List (List UInt8))).flatten.length ≤ (70368744177664 : Nat) ∧ ((Ty.arr (32 : Nat) Ty.byte).kd.wf (sha256 (preimage a0_kind a1_parts :: ([] : List (List UInt8)))) → Q (sha256 (preimage a0_kind a1_parts :: ([] : List (List UInt8))))))
theorem ROf_ok {a0_kind : Int} {a1_parts : List (List UInt8)} (w_0 : (Ty.kd (.int .i64)).wf a0_kind) (w_1 : (Ty.kd (.sl (.sl .byte))).wf a1_parts) (hp : 1 + blobRoom a1_parts ≤ 70368744177664) : ROf_VC a0_kind a1_parts (fun o0 => o0 = (sealOf a0_kind a1_parts)) := by
  have hl := preimage_len a0_kind (l := a1_parts) (by omega)
  unfold ROf_VC
  exact ⟨by omega, fun _ => ⟨by simp; omega, fun _ => rfl⟩⟩
theorem ROf_eq : (∀ a, ROf_C.pre a → PM.wfP ROf_C.pm a (fvc ROf_X 200 47 ROf_C a (eqO ROf_C a))) = (∀ a : Int × (List (List UInt8)) × Unit, (1 + blobRoom (a.2.1) ≤ 70368744177664) → (Ty.kd (.int .i64)).wf a.1 → (Ty.kd (.sl (.sl .byte))).wf a.2.1 → ROf_VC a.1 a.2.1 (fun o0 => o0 = (sealOf (a.1) (a.2.1)))) := by kernel_rfl
theorem ROf_k : ROf_C.valid Try.prog 47 := ctr_of (X := ROf_X) (ok_of seat_ok (fun b hb => by cases hb; exact bkT_ok) fns_ok ⟨RPreimage_k, RSum_k, trivial⟩) 200 (ROf_eq.mpr fun a hp w_0 w_1 => @ROf_ok a.1 a.2.1 w_0 w_1 hp)
end Go.Proofs.Ytkffegaofdpkiaa
