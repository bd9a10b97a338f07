/- G2, K3, S4, K4, G3, K5, S5. -/
import Derived.Test.YtfbhiilolpamaaaM4
import Derived.Test.YtfbhiilolpamaaaChecked
/- Functions in the old form: what a call must answer for (_VC), that it does (_ok), the walk through its code (_walk), its contract (_c). -/
set_option linter.unusedVariables false
set_option maxRecDepth 100000
set_option maxHeartbeats 2000000
namespace Go.Proofs.Ytfbhiilolpamaaa
open Go Go.RowKit Go.Inc
theorem ty146 : TyOk Try.prog 146 kd_a8_u32 32 := ⟨⟨Try.t146, _, Try.type146, rfl, rfl, rfl, rfl, rfl⟩, ⟨_, Try.underlying146, rfl⟩⟩
theorem ty123 : TyOk Try.prog 123 (Kd.int .u32) 4 := ⟨⟨Try.t123, _, Try.type123, rfl, rfl, rfl, rfl, rfl⟩, ⟨_, Try.underlying123, rfl⟩⟩
abbrev kd_a64_u32 : Kd (List Int) := (Kd.arr 64 (Kd.int .u32))
theorem ty165 : TyOk Try.prog 165 kd_a64_u32 256 := ⟨⟨Try.t165, _, Try.type165, rfl, rfl, rfl, rfl, rfl⟩, ⟨_, Try.underlying165, rfl⟩⟩
abbrev kd_l_i64 : Kd (List Int) := (Kd.sl (Kd.int .i64))
theorem ty3 : TyOk Try.prog 3 (Kd.int .i64) 8 := ⟨⟨Try.t3, _, Try.type3, rfl, rfl, rfl, rfl, rfl⟩, ⟨_, Try.underlying3, rfl⟩⟩
abbrev kd_a32_u8 : Kd (List UInt8) := (Kd.arr 32 Kd.byte)
abbrev kd_Sseal_note : Kd ((List UInt8) × (List UInt8)) := (Kd.pr kd_a32_u8 kd_l_u8)
theorem ty23 : TyOk Try.prog 23 kd_a32_u8 32 := ⟨⟨Try.t23, _, Try.type23, rfl, rfl, rfl, rfl, rfl⟩, ⟨_, Try.underlying23, rfl⟩⟩
def hasOne_VC (a0_x : ((List UInt8) × (List UInt8))) (a1_x : (List UInt8)) (a2_x : (List UInt8)) (Q : Bool → Prop) : Prop :=
  Q (decide ((a0_x.1 = a1_x) ∧ (a0_x.2 = a2_x)))
theorem hasOne_ok {a0_x : ((List UInt8) × (List UInt8))} {a1_x : (List UInt8)} {a2_x : (List UInt8)} (w_0 : kd_Sseal_note.wf a0_x) (w_1 : kd_a32_u8.wf a1_x) (w_2 : kd_l_u8.wf a2_x) : hasOne_VC a0_x a1_x a2_x (fun o0 => o0 = decide (a0_x.1 = a1_x ∧ a0_x.2 = a2_x)) := by
  show decide _ = decide _
  simp

theorem hasOne_walk {w0 : World} {K0 : Ghost} {a0_x_v : Value} {a0_x : ((List UInt8) × (List UInt8))} {a1_x_b : Nat} {a1_x_pre a1_x_post : List Value} {a1_x : (List UInt8)} {a2_x_b : Nat} {a2_x_pre a2_x_post : List Value} {a2_x : (List UInt8)} {Q : Bool → Prop} (hM0 : Models w0 K0) (h_a0_x : kd_Sseal_note.V K0 a0_x a0_x_v) (h_a1_x_B : Bx kd_a32_u8 w0 K0 a1_x_b a1_x_pre a1_x_post a1_x) (h_a2_x_B : Bx kd_l_u8 w0 K0 a2_x_b a2_x_pre a2_x_post a2_x) (hsp2_3 : ¬ (a1_x_b = a2_x_b)) (h : hasOne_VC a0_x a1_x a2_x Q) : Calls Try.prog 90 #[a0_x_v, (.pointer (some ⟨a1_x_b, a1_x_pre.length, none⟩)), (.pointer (some ⟨a2_x_b, a2_x_pre.length, none⟩))] w0 (fun e w' => ∃ (K' : Ghost) (r0 : Value) (o0 : Bool), e = .returned r0 ∧ Q o0 ∧ Ext NX w0 K0 w' K' ∧ Models w' K' ∧ Kd.bool.V K' o0 r0) := by
  unfold hasOne_VC at h
  have hE0 : Ext NX w0 K0 w0 K0 := Ext.refl _ _ _
  refine calls_gen fun R hR => ?_
  refine calls_env (args := [a0_x_v, (.pointer (some ⟨a1_x_b, a1_x_pre.length, none⟩)), (.pointer (some ⟨a2_x_b, a2_x_pre.length, none⟩))]) Try.func90 rfl (Nat.le_of_ble_eq_true rfl) ?_
  refine WP_seq ?_
  refine WP_region ?_
  refine WL_eff rfl rfl (St_B (S_box hM0 rfl h_a0_x) ?_)
  rintro b4 w4 (hB4 : Bx kd_Sseal_note _ _ _ _ _ a0_x) hS4 hM4 hge4
  have hE4 := hE0.andN hS4
  refine WL_pure (.bool false) (R_as rfl) rfl rfl ?_
  refine WL_nil ?_
  refine WP_seq ?_
  refine WP_own (K := K0) NX [.o 0 2, .o 1 2, .o 2 2, .o 3 2, .o 4 2, .o 5 2, .o 6 2, .o 7 2, .o 8 0, .o 9 2, .o 10 2] (by kernel_rfl) hM4 ?_
  refine WO_pure (.pointer (some ⟨b4, 0 + 0, none⟩)) rfl l0 hM4 (fun _ => R_fa rfl Try.underlying90 rfl rfl ty23 rfl) rfl (gN rfl) rfl ?_
  refine WO_L0 hM4 (S_ldB (Foc.fst kd_a32_u8 kd_l_u8) rfl ty23 hB4 (by first | rfl | simp | omega) (fun h => h)) rfl (gN rfl) rfl ?_
  rintro v6 (hV6 : kd_a32_u8.V _ a0_x.1 _)
  have hR9 := (h_a1_x_B.extN hS4)
  refine WO_L0 hM4 (S_ldB (Foc.id _) rfl ty23 hR9 (by first | rfl | simp | omega) (fun h => h)) rfl (gN rfl) rfl ?_
  rintro v8 (hV8 : kd_a32_u8.V _ a1_x _)
  refine WO_pure (.bool (decide (a0_x.1 = a1_x))) rfl l0 hM4 (fun _ => R_aeql rfl rfl hV6 hV8 Try.underlying23 Try.underlying5 ty5b (by kernel_rfl)) rfl (gN rfl) rfl ?_
  refine WO_pure (.bool (decide (a0_x.1 = a1_x))) rfl l0 hM4 (fun _ => R_mv rfl) rfl (gN rfl) rfl ?_
  refine WO_meet (al := true) (l1 := [.o 5 2, .o 6 2, .o 7 2, .o 8 0, .o 9 2]) [10, 11, 12, 13, 14] NX (fun l w K => l = [(14, (.bool (decide ((a0_x.1 = a1_x) ∧ (a0_x.2 = a2_x)))))] ∧ Ext NX w4 K0 w K ∧ Models w K) ?_ ?_
  · rcases Classical.em (a0_x.1 = a1_x) with hp11 | hp11
    · skip
      refine WO_pure (.pointer (some ⟨b4, 0 + 32, none⟩)) rfl l0 hM4 (fun _ => R_fa rfl Try.underlying90 rfl rfl ty39 rfl) rfl (gY rfl rfl rfl (decide_eq_true hp11)) rfl ?_
      refine WO_L0 hM4 (S_ldB (Foc.snd kd_a32_u8 kd_l_u8) rfl ty39 hB4 (by first | rfl | simp | omega) (fun h => h)) rfl (gY rfl rfl rfl (decide_eq_true hp11)) rfl ?_
      rintro v12 (hV12 : kd_l_u8.V _ a0_x.2 _)
      have hR15 := (h_a2_x_B.extN hS4)
      refine WO_L0 hM4 (S_ldB (Foc.id _) rfl ty39 hR15 (by first | rfl | simp | omega) (fun h => h)) rfl (gY rfl rfl rfl (decide_eq_true hp11)) rfl ?_
      rintro v14 (hV14 : kd_l_u8.V _ a2_x _)
      refine WO_eff0 rfl (gY rfl rfl rfl (decide_eq_true hp11)) rfl (St_call (R_call Try.call48 rfl) ((Equal_c hM4 hV12 hV14).mono ?_))
      rintro _ w17 ⟨K17, v17_0, rfl, hS17, hM17, hV17_0⟩
      refine ⟨v17_0, rfl, ?_⟩
      refine ⟨K17, hS17, hM17, ?_⟩
      have hE17 := hE4.andN hS17
      obtain rfl := bool_form hV17_0
      refine WO_pure (.bool (decide ((a0_x.1 = a1_x) ∧ (a0_x.2 = a2_x)))) rfl l0 hM17 (fun _ => R_pick1 rfl (decide_eq_true hp11) rfl (and_T hp11)) rfl (gN rfl) rfl ?_
      exact WO_end [(14, (.bool (decide ((a0_x.1 = a1_x) ∧ (a0_x.2 = a2_x)))))] K17 rfl ⟨rfl, ((Ext.refl _ _ _).andN hS17), hM17⟩ (by repeat (first | exact Off.refl _ _ | refine Off.updO ?_ rfl _ | refine Off.updN ?_ _ | refine Off.lay ?_ rfl)) ⟨rfl, trivial⟩
    · skip
      refine WO_skip _ hM4 l0 rfl (gF rfl rfl rfl (decide_eq_false hp11)) rfl ?_
      refine WO_skip _ hM4 l0 rfl (gF rfl rfl rfl (decide_eq_false hp11)) rfl ?_
      refine WO_skip _ hM4 l0 rfl (gF rfl rfl rfl (decide_eq_false hp11)) rfl ?_
      refine WO_skip _ hM4 l0 rfl (gF rfl rfl rfl (decide_eq_false hp11)) rfl ?_
      refine WO_pure (.bool (decide ((a0_x.1 = a1_x) ∧ (a0_x.2 = a2_x)))) rfl l0 hM4 (fun _ => R_pick2 rfl (decide_eq_false hp11) rfl (and_F hp11)) rfl (gN rfl) rfl ?_
      exact WO_end [(14, (.bool (decide ((a0_x.1 = a1_x) ∧ (a0_x.2 = a2_x)))))] K0 rfl ⟨rfl, (Ext.refl _ _ _), hM4⟩ (by repeat (first | exact Off.refl _ _ | refine Off.updO ?_ rfl _ | refine Off.updN ?_ _ | refine Off.lay ?_ rfl)) ⟨rfl, trivial⟩
  rintro l σ18 w18 K18 ⟨rfl, hS18, hM18⟩
  have hE18 := hE4.andN hS18
  refine WO_pure (.bool (decide ((a0_x.1 = a1_x) ∧ (a0_x.2 = a2_x)))) rfl l0 hM18 (fun _ => R_as rfl) rfl (gN rfl) rfl ?_
  refine WO_nil ?_
  refine WP_ret ?_
  exact endR_ret hR (v := (.bool (decide ((a0_x.1 = a1_x) ∧ (a0_x.2 = a2_x))))) (resE_1 rfl rfl) ⟨K18, (.bool (decide ((a0_x.1 = a1_x) ∧ (a0_x.2 = a2_x)))), (decide ((a0_x.1 = a1_x) ∧ (a0_x.2 = a2_x))), rfl, h, hE18, hM18, bool_V⟩
theorem hasOne_c {w0 : World} {K0 : Ghost} {a0_x_v : Value} {a0_x : ((List UInt8) × (List UInt8))} {a1_x_b : Nat} {a1_x_pre a1_x_post : List Value} {a1_x : (List UInt8)} {a2_x_b : Nat} {a2_x_pre a2_x_post : List Value} {a2_x : (List UInt8)} (hM0 : Models w0 K0) (h_a0_x : kd_Sseal_note.V K0 a0_x a0_x_v) (h_a1_x_B : Bx kd_a32_u8 w0 K0 a1_x_b a1_x_pre a1_x_post a1_x) (h_a2_x_B : Bx kd_l_u8 w0 K0 a2_x_b a2_x_pre a2_x_post a2_x) (hsp2_3 : ¬ (a1_x_b = a2_x_b)) : Calls Try.prog 90 #[a0_x_v, (.pointer (some ⟨a1_x_b, a1_x_pre.length, none⟩)), (.pointer (some ⟨a2_x_b, a2_x_pre.length, none⟩))] w0 (fun e w' => ∃ (K' : Ghost) (r0 : Value), e = .returned r0 ∧ Ext NX w0 K0 w' K' ∧ Models w' K' ∧ Kd.bool.V K' (decide (a0_x.1 = a1_x ∧ a0_x.2 = a2_x)) r0) := by
  refine (hasOne_walk hM0 h_a0_x h_a1_x_B h_a2_x_B hsp2_3 (hasOne_ok h_a0_x.wf h_a1_x_B.wf h_a2_x_B.wf)).mono ?_
  rintro _ w' ⟨K', r0, o0, rfl, rfl, hF⟩
  exact ⟨K', r0, rfl, hF⟩
abbrev kd_l_Sseal_note : Kd (List ((List UInt8) × (List UInt8))) := (Kd.sl kd_Sseal_note)
theorem ty90 : TyOk Try.prog 90 kd_Sseal_note 56 := ⟨⟨Try.t90, _, Try.type90, rfl, rfl, rfl, rfl, rfl⟩, ⟨_, Try.underlying90, rfl⟩⟩
def IndexNote_VC (a0_s : (List ((List UInt8) × (List UInt8)))) (a1_f_0 : (List UInt8)) (a1_f_1 : (List UInt8)) (Q : Int → Prop) : Prop :=
  ∃ (I4 : Int → Int → Prop) (μ4 : Int → Int → Nat), I4 0 0 ∧ ∀ (i4 : Int) (i4' : Int), I4 i4 i4' → ((Kd.int .i64).wf i4) → ((Kd.int .i64).wf i4') → (((i4' < (a0_s.length : Int)) → (0 ≤ i4' ∧ i4' < (a0_s.length : Int)) ∧ ((((ix a0_s i4').1 = a1_f_0 ∧ (ix a0_s i4').2 = a1_f_1) → Q i4') ∧ ((¬ ((ix a0_s i4').1 = a1_f_0 ∧ (ix a0_s i4').2 = a1_f_1)) → I4 i4 (i4' + 1) ∧ μ4 i4 (i4' + 1) < μ4 i4 i4'))) ∧ ((¬ (i4' < (a0_s.length : Int))) → Q (-1)))
theorem IndexNote_ok {a0_s : (List ((List UInt8) × (List UInt8)))} {a1_f_0 : (List UInt8)} {a1_f_1 : (List UInt8)} (w_0 : kd_l_Sseal_note.wf a0_s) : IndexNote_VC a0_s a1_f_0 a1_f_1 (fun o0 => o0 = (noteIx a1_f_0 a1_f_1 a0_s 0)) := by
  unfold IndexNote_VC
  refine ⟨fun _ i => ∃ j : Nat, i = (j : Int) ∧ j ≤ a0_s.length ∧ noteIx a1_f_0 a1_f_1 a0_s 0 = noteIx a1_f_0 a1_f_1 (a0_s.drop j) (j : Int), fun _ i => a0_s.length - i.toNat, ⟨0, rfl, by omega, by simp⟩, ?_⟩
  rintro _ i ⟨j, rfl, hj, he⟩ _ _
  refine ⟨fun hlt => ⟨⟨by omega, hlt⟩, fun h => ?_, fun h => ⟨⟨j + 1, by omega, by omega, ?_⟩, ?_⟩⟩, fun hge => ?_⟩
  · rw [noteIx_drop hlt, if_pos (h)] at he
    exact he.symm
  · rw [noteIx_drop hlt, if_neg (h)] at he
    rw [he]
    congr 1
  · show a0_s.length - ((j : Int) + 1).toNat < a0_s.length - (j : Int).toNat
    omega
  · have : j = a0_s.length := by omega
    subst this
    rw [List.drop_length] at he
    exact he.symm

theorem IndexNote_walk {w0 : World} {K0 : Ghost} {a0_s_v : Value} {a0_s : (List ((List UInt8) × (List UInt8)))} {a1_f_0_b : Nat} {a1_f_0_pre a1_f_0_post : List Value} {a1_f_0 : (List UInt8)} {a1_f_1_b : Nat} {a1_f_1_pre a1_f_1_post : List Value} {a1_f_1 : (List UInt8)} {Q : Int → Prop} (hM0 : Models w0 K0) (h_a0_s : kd_l_Sseal_note.V K0 a0_s a0_s_v) (h_a1_f_0_B : Bx kd_a32_u8 w0 K0 a1_f_0_b a1_f_0_pre a1_f_0_post a1_f_0) (h_a1_f_1_B : Bx kd_l_u8 w0 K0 a1_f_1_b a1_f_1_pre a1_f_1_post a1_f_1) (hsp2_3 : ¬ (a1_f_0_b = a1_f_1_b)) (h : IndexNote_VC a0_s a1_f_0 a1_f_1 Q) : Calls Try.prog 103 #[a0_s_v, (.func (.func 90) #[] #[(.pointer (some ⟨a1_f_0_b, a1_f_0_pre.length, none⟩)), (.pointer (some ⟨a1_f_1_b, a1_f_1_pre.length, none⟩))])] w0 (fun e w' => ∃ (K' : Ghost) (r0 : Value) (o0 : Int), e = .returned r0 ∧ Q o0 ∧ Ext NX w0 K0 w' K' ∧ Models w' K' ∧ (Kd.int .i64).V K' o0 r0) := by
  unfold IndexNote_VC at h
  have hE0 : Ext NX w0 K0 w0 K0 := Ext.refl _ _ _
  refine calls_gen fun R hR => ?_
  refine calls_env (args := [a0_s_v, (.func (.func 90) #[] #[(.pointer (some ⟨a1_f_0_b, a1_f_0_pre.length, none⟩)), (.pointer (some ⟨a1_f_1_b, a1_f_1_pre.length, none⟩))])]) Try.func103 rfl (Nat.le_of_ble_eq_true rfl) ?_
  refine WP_seq ?_
  refine WP_region ?_
  refine WL_pure (.int .i64 0) (R_as rfl) rfl rfl ?_
  refine WL_nil ?_
  refine WP_seq ?_
  refine WP_seq ?_
  refine WP_region ?_
  refine WL_pure a0_s_v (R_mv rfl) rfl rfl ?_
  refine WL_pure (.int .i64 (a0_s.length : Int)) (R_len rfl h_a0_s Try.underlying27) rfl rfl ?_
  refine WL_pure (.int .i64 0) (R_mv rfl) rfl rfl ?_
  refine WL_nil ?_
  refine WP_block ?_
  obtain ⟨I4, μ4, h0, h⟩ := h
  refine WP_loopE (ι := Int × Int) [4, 5, 8, 9, 10, 11, 12, 13, 14, 15, 16, 17, 18] (fun s l w => ∃ K, I4 s.1 s.2 ∧ l = [(4, (.int .i64 s.1)), (8, (.int .i64 s.2))] ∧ Ext NX w0 K0 w K ∧ Models w K ∧ (Kd.int .i64).wf s.1 ∧ (Kd.int .i64).wf s.2) (fun s => μ4 s.1 s.2) (0, 0) [(4, (.int .i64 0)), (8, (.int .i64 0))]
    ⟨K0, h0, rfl, Ext.refl _ _ _, hM0, (show (Kd.int .i64).wf 0 from by constructor <;> decide), (show (Kd.int .i64).wf 0 from by constructor <;> decide)⟩ (by repeat (first | exact trivial | refine ⟨rfl, ?_⟩)) ?_
  rintro ⟨i4, i4'⟩ l σ4 w5 ⟨K5, hI, rfl, hX5, hM5, hw4_4, hw4_8⟩
  dsimp only at hI hw4_4 hw4_8
  have hE5 := hE0.andN hX5
  have h := h i4 i4' hI hw4_4 hw4_8
  refine WP_seq ?_
  refine WP_region ?_
  refine WL_pure (.bool (decide (i4' < (a0_s.length : Int)))) (R_lss rfl rfl) rfl rfl ?_
  refine WL_nil ?_
  refine WP_seq ?_
  refine WP_cond (decide (i4' < (a0_s.length : Int))) rfl (fun hc6 => ?_) (fun hc6 => ?_)
  · have hd6 : i4' < (a0_s.length : Int) := dec_t hc6
    have h := h.1 hd6
    refine WP_skip ?_
    refine WP_seq ?_
    refine WP_block ?_
    refine WP_seq ?_
    refine WP_region ?_
    refine WL_pure (.int .i64 i4') (R_mv rfl) rfl rfl ?_
    refine WL_pure (.int .i64 i4') (R_as rfl) rfl rfl ?_
    refine WL_nil ?_
    refine WP_seq ?_
    refine WP_region ?_
    refine WL_pure (.func (.func 90) #[] #[(.pointer (some ⟨a1_f_0_b, a1_f_0_pre.length, none⟩)), (.pointer (some ⟨a1_f_1_b, a1_f_1_pre.length, none⟩))]) (R_mv rfl) rfl rfl ?_
    refine WL_pure a0_s_v (R_mv rfl) rfl rfl ?_
    refine WL_pure (.int .i64 i4') (R_mv rfl) rfl rfl ?_
    obtain ⟨hp8, h⟩ := h
    refine WL_P (S_ixs rfl (h_a0_s.mono hX5.le) rfl Try.underlying27 ty90 hp8.1 hp8.2) rfl rfl ?_
    rintro b7 o7 hP7
    refine WL_L hM5 (S_ld rfl ty90 hP7) rfl rfl ?_
    rintro v10 (hV10 : kd_Sseal_note.V _ (ix a0_s i4') _)
    have hR12 := (h_a1_f_0_B.extN hX5)
    have hR13 := (h_a1_f_1_B.extN hX5)
    refine WL_eff rfl rfl (St_call (R_callv rfl Try.call90 rfl) ((hasOne_c hM5 hV10 hR12 hR13 hsp2_3).mono ?_))
    rintro _ w14 ⟨K14, v14_0, rfl, hS14, hM14, hV14_0⟩
    refine ⟨v14_0, rfl, ?_⟩
    have hE14 := hE5.andN hS14
    obtain rfl := bool_form hV14_0
    refine WL_nil ?_
    refine WP_cond (decide ((ix a0_s i4').1 = a1_f_0 ∧ (ix a0_s i4').2 = a1_f_1)) rfl (fun hc15 => ?_) (fun hc15 => ?_)
    · have hd15 : (ix a0_s i4').1 = a1_f_0 ∧ (ix a0_s i4').2 = a1_f_1 := dec_t hc15
      have h := h.1 hd15
      refine WP_seq ?_
      refine WP_region ?_
      refine WL_pure (.int .i64 i4') (R_mv rfl) rfl rfl ?_
      refine WL_pure (.int .i64 i4') (R_as rfl) rfl rfl ?_
      refine WL_nil ?_
      refine WP_ret ?_
      exact endR_ret hR (v := (.int .i64 i4')) (resE_1 rfl rfl) ⟨K14, (.int .i64 i4'), i4', rfl, h, hE14, hM14, (int_V hw4_8)⟩
    · have hd15 : ¬ ((ix a0_s i4').1 = a1_f_0 ∧ (ix a0_s i4').2 = a1_f_1) := dec_f hc15
      have h := h.2 hd15
      refine WP_skip ?_
      refine WP_region ?_
      refine WL_pure (.int .i64 (i4' + 1)) (R_inc rfl rfl hw4_8 hd6 (len_wf (h_a0_s).wf.1)) rfl rfl ?_
      refine WL_pure (.int .i64 (i4' + 1)) (R_mv rfl) rfl rfl ?_
      refine WL_nil ?_
      refine BackQ.mk (i4, (i4' + 1)) [(4, (.int .i64 i4)), (8, (.int .i64 (i4' + 1)))] ?_ ?_ ?_ ?_
      rotate_left
      · exact h.2
      · repeat (first | exact Off.lay0 rfl | refine Off.updO ?_ rfl _ | refine Off.updN ?_ _ | refine Off.lay ?_ rfl)
      · repeat (first | exact trivial | refine ⟨rfl, ?_⟩)
      exact ⟨K14, h.1, rfl, (((Ext.refl _ _ _).andN hX5).andN hS14), hM14, hw4_4, (inc_wf hw4_8 hd6 (len_wf (h_a0_s).wf.1))⟩
  · have hd6 : ¬ (i4' < (a0_s.length : Int)) := dec_f hc6
    have h := h.2 hd6
    refine WP_exit ?_
    refine WP_seq ?_
    refine WP_region ?_
    refine WL_pure (.int .i64 (-1)) (R_as rfl) rfl rfl ?_
    refine WL_nil ?_
    refine WP_ret ?_
    exact endR_ret hR (v := (.int .i64 (-1))) (resE_1 rfl rfl) ⟨K5, (.int .i64 (-1)), (-1), rfl, h, hE5, hM5, (int_V (show (Kd.int .i64).wf (-1) from by constructor <;> decide))⟩
theorem IndexNote_c {w0 : World} {K0 : Ghost} {a0_s_v : Value} {a0_s : (List ((List UInt8) × (List UInt8)))} {a1_f_0_b : Nat} {a1_f_0_pre a1_f_0_post : List Value} {a1_f_0 : (List UInt8)} {a1_f_1_b : Nat} {a1_f_1_pre a1_f_1_post : List Value} {a1_f_1 : (List UInt8)} (hM0 : Models w0 K0) (h_a0_s : kd_l_Sseal_note.V K0 a0_s a0_s_v) (h_a1_f_0_B : Bx kd_a32_u8 w0 K0 a1_f_0_b a1_f_0_pre a1_f_0_post a1_f_0) (h_a1_f_1_B : Bx kd_l_u8 w0 K0 a1_f_1_b a1_f_1_pre a1_f_1_post a1_f_1) (hsp2_3 : ¬ (a1_f_0_b = a1_f_1_b)) : Calls Try.prog 103 #[a0_s_v, (.func (.func 90) #[] #[(.pointer (some ⟨a1_f_0_b, a1_f_0_pre.length, none⟩)), (.pointer (some ⟨a1_f_1_b, a1_f_1_pre.length, none⟩))])] w0 (fun e w' => ∃ (K' : Ghost) (r0 : Value), e = .returned r0 ∧ Ext NX w0 K0 w' K' ∧ Models w' K' ∧ (Kd.int .i64).V K' (noteIx a1_f_0 a1_f_1 a0_s 0) r0) := by
  refine (IndexNote_walk hM0 h_a0_s h_a1_f_0_B h_a1_f_1_B hsp2_3 (IndexNote_ok h_a0_s.wf)).mono ?_
  rintro _ w' ⟨K', r0, o0, rfl, rfl, hF⟩
  exact ⟨K', r0, rfl, hF⟩
def HasNote_VC (a0_s : (List ((List UInt8) × (List UInt8)))) (a1_f_0 : (List UInt8)) (a1_f_1 : (List UInt8)) (Q : Bool → Prop) : Prop :=
  ((Kd.int .i64).wf (noteIx a1_f_0 a1_f_1 a0_s 0)) → (Q (decide (0 ≤ (noteIx a1_f_0 a1_f_1 a0_s 0))))
theorem HasNote_ok {a0_s : (List ((List UInt8) × (List UInt8)))} {a1_f_0 : (List UInt8)} {a1_f_1 : (List UInt8)} (w_0 : kd_l_Sseal_note.wf a0_s) : HasNote_VC a0_s a1_f_0 a1_f_1 (fun o0 => o0 = decide (0 ≤ noteIx a1_f_0 a1_f_1 a0_s 0)) := by
  exact fun _ => rfl

theorem HasNote_walk {w0 : World} {K0 : Ghost} {a0_s_v : Value} {a0_s : (List ((List UInt8) × (List UInt8)))} {a1_f_0_b : Nat} {a1_f_0_pre a1_f_0_post : List Value} {a1_f_0 : (List UInt8)} {a1_f_1_b : Nat} {a1_f_1_pre a1_f_1_post : List Value} {a1_f_1 : (List UInt8)} {Q : Bool → Prop} (hM0 : Models w0 K0) (h_a0_s : kd_l_Sseal_note.V K0 a0_s a0_s_v) (h_a1_f_0_B : Bx kd_a32_u8 w0 K0 a1_f_0_b a1_f_0_pre a1_f_0_post a1_f_0) (h_a1_f_1_B : Bx kd_l_u8 w0 K0 a1_f_1_b a1_f_1_pre a1_f_1_post a1_f_1) (hsp2_3 : ¬ (a1_f_0_b = a1_f_1_b)) (h : HasNote_VC a0_s a1_f_0 a1_f_1 Q) : Calls Try.prog 89 #[a0_s_v, (.func (.func 90) #[] #[(.pointer (some ⟨a1_f_0_b, a1_f_0_pre.length, none⟩)), (.pointer (some ⟨a1_f_1_b, a1_f_1_pre.length, none⟩))])] w0 (fun e w' => ∃ (K' : Ghost) (r0 : Value) (o0 : Bool), e = .returned r0 ∧ Q o0 ∧ Ext NX w0 K0 w' K' ∧ Models w' K' ∧ Kd.bool.V K' o0 r0) := by
  unfold HasNote_VC at h
  have hE0 : Ext NX w0 K0 w0 K0 := Ext.refl _ _ _
  refine calls_gen fun R hR => ?_
  refine calls_env (args := [a0_s_v, (.func (.func 90) #[] #[(.pointer (some ⟨a1_f_0_b, a1_f_0_pre.length, none⟩)), (.pointer (some ⟨a1_f_1_b, a1_f_1_pre.length, none⟩))])]) Try.func89 rfl (Nat.le_of_ble_eq_true rfl) ?_
  refine WP_seq ?_
  refine WP_region ?_
  refine WL_pure (.bool false) (R_as rfl) rfl rfl ?_
  refine WL_nil ?_
  refine WP_seq ?_
  refine WP_region ?_
  refine WL_pure a0_s_v (R_mv rfl) rfl rfl ?_
  refine WL_pure (.func (.func 90) #[] #[(.pointer (some ⟨a1_f_0_b, a1_f_0_pre.length, none⟩)), (.pointer (some ⟨a1_f_1_b, a1_f_1_pre.length, none⟩))]) (R_mv rfl) rfl rfl ?_
  refine WL_eff rfl rfl (St_call (R_call Try.call103 rfl) ((IndexNote_c hM0 h_a0_s h_a1_f_0_B h_a1_f_1_B hsp2_3).mono ?_))
  rintro _ w4 ⟨K4, v4_0, rfl, hS4, hM4, hV4_0⟩
  refine ⟨v4_0, rfl, ?_⟩
  have hE4 := hE0.andN hS4
  obtain rfl := int_form hV4_0
  have h := h hV4_0.wf
  refine WL_pure (.bool (decide (0 ≤ (noteIx a1_f_0 a1_f_1 a0_s 0)))) (R_geq rfl rfl) rfl rfl ?_
  refine WL_pure (.bool (decide (0 ≤ (noteIx a1_f_0 a1_f_1 a0_s 0)))) (R_as rfl) rfl rfl ?_
  refine WL_nil ?_
  refine WP_ret ?_
  exact endR_ret hR (v := (.bool (decide (0 ≤ (noteIx a1_f_0 a1_f_1 a0_s 0))))) (resE_1 rfl rfl) ⟨K4, (.bool (decide (0 ≤ (noteIx a1_f_0 a1_f_1 a0_s 0)))), (decide (0 ≤ (noteIx a1_f_0 a1_f_1 a0_s 0))), rfl, h, hE4, hM4, bool_V⟩
theorem HasNote_c {w0 : World} {K0 : Ghost} {a0_s_v : Value} {a0_s : (List ((List UInt8) × (List UInt8)))} {a1_f_0_b : Nat} {a1_f_0_pre a1_f_0_post : List Value} {a1_f_0 : (List UInt8)} {a1_f_1_b : Nat} {a1_f_1_pre a1_f_1_post : List Value} {a1_f_1 : (List UInt8)} (hM0 : Models w0 K0) (h_a0_s : kd_l_Sseal_note.V K0 a0_s a0_s_v) (h_a1_f_0_B : Bx kd_a32_u8 w0 K0 a1_f_0_b a1_f_0_pre a1_f_0_post a1_f_0) (h_a1_f_1_B : Bx kd_l_u8 w0 K0 a1_f_1_b a1_f_1_pre a1_f_1_post a1_f_1) (hsp2_3 : ¬ (a1_f_0_b = a1_f_1_b)) : Calls Try.prog 89 #[a0_s_v, (.func (.func 90) #[] #[(.pointer (some ⟨a1_f_0_b, a1_f_0_pre.length, none⟩)), (.pointer (some ⟨a1_f_1_b, a1_f_1_pre.length, none⟩))])] w0 (fun e w' => ∃ (K' : Ghost) (r0 : Value), e = .returned r0 ∧ Ext NX w0 K0 w' K' ∧ Models w' K' ∧ Kd.bool.V K' (decide (0 ≤ noteIx a1_f_0 a1_f_1 a0_s 0)) r0) := by
  refine (HasNote_walk hM0 h_a0_s h_a1_f_0_B h_a1_f_1_B hsp2_3 (HasNote_ok h_a0_s.wf)).mono ?_
  rintro _ w' ⟨K', r0, o0, rfl, rfl, hF⟩
  exact ⟨K', r0, rfl, hF⟩
abbrev kd_Sseal_notes : Kd (Value × Value) := (Kd.pr Kd.rsl Kd.rmp)
theorem ty28r : TyOk Try.prog 28 Kd.rmp 8 := ⟨⟨Try.t28, _, Try.type28, rfl, rfl, rfl, rfl, rfl⟩, ⟨_, Try.underlying28, rfl⟩⟩
theorem ty27r : TyOk Try.prog 27 Kd.rsl 24 := ⟨⟨Try.t27, _, Try.type27, rfl, rfl, rfl, rfl, rfl⟩, ⟨_, Try.underlying27, rfl⟩⟩
def has_VC (a0_n_0 : (List ((List UInt8) × (List UInt8)))) (a0_n_1 : (List ((List UInt8) × Int))) (a1_s : (List UInt8)) (a2_b : (List UInt8)) (Q : Bool → Prop) : Prop :=
  ((¬ (((mfind a1_s a0_n_1).isSome) = true)) → Q false) ∧ ((((mfind a1_s a0_n_1).isSome) = true) → (0 ≤ ((mfind a1_s a0_n_1).getD 0) ∧ ((mfind a1_s a0_n_1).getD 0) ≤ (a0_n_0.length : Int)) ∧ (Q (decide (0 ≤ noteIx a1_s a2_b (a0_n_0.drop ((mfind a1_s a0_n_1).getD 0).toNat) 0))))
theorem has_ok {a0_n_0 : (List ((List UInt8) × (List UInt8)))} {a0_n_1 : (List ((List UInt8) × Int))} {a1_s : (List UInt8)} {a2_b : (List UInt8)} (w_0 : kd_a32_u8.wf a1_s) (w_1 : kd_l_u8.wf a2_b) (hp : BookInv a0_n_0 a0_n_1) : has_VC a0_n_0 a0_n_1 a1_s a2_b (fun o0 => o0 = decide ((a1_s, a2_b) ∈ a0_n_0)) := by
  unfold has_VC
  rw [hp a1_s]
  refine ⟨fun h => ?_, fun h => ?_⟩
  · have hn : firstOf a1_s a0_n_0 0 = none := by
      cases hf : firstOf a1_s a0_n_0 0 with
      | none => rfl
      | some a => rw [hf] at h; exact absurd rfl h
    have := firstOf_none hn a2_b
    simp [this]
  · cases hf : firstOf a1_s a0_n_0 0 with
    | none => rw [hf] at h; cases h
    | some a =>
      obtain ⟨j, rfl, hl, hm⟩ := firstOf_some hf
      simp only [Option.getD_some, Int.zero_add, Int.toNat_natCast]
      refine ⟨⟨by omega, by omega⟩, ?_⟩
      rw [decide_eq_decide, noteIx_ge _ _ (Int.le_refl _)]
      exact (hm a2_b).symm

theorem has_walk {w0 : World} {K0 : Ghost} {a0_n_b : Nat} {a0_n_pre a0_n_post : List Value} {a0_n_0v : Value} {a0_n_0 : (List ((List UInt8) × (List UInt8)))} {a0_n_1v : Value} {a0_n_1 : (List ((List UInt8) × Int))} {a1_s_v : Value} {a1_s : (List UInt8)} {a2_b_v : Value} {a2_b : (List UInt8)} {Q : Bool → Prop} (hM0 : Models w0 K0) (h_a0_n_B : Bx kd_Sseal_notes w0 K0 a0_n_b a0_n_pre a0_n_post (a0_n_0v, a0_n_1v)) (h_a0_n_0 : Own kd_Sseal_note 90 w0 K0 a0_n_0 a0_n_0v) (h_a0_n_1 : Mp kd_a32_u8 (Kd.int .i64) w0 K0 a0_n_1 a0_n_1v) (h_a1_s : kd_a32_u8.V K0 a1_s a1_s_v) (h_a2_b : kd_l_u8.V K0 a2_b a2_b_v) (h : has_VC a0_n_0 a0_n_1 a1_s a2_b Q) : Calls Try.prog 69 #[(.pointer (some ⟨a0_n_b, a0_n_pre.length, none⟩)), a1_s_v, a2_b_v] w0 (fun e w' => ∃ (K' : Ghost) (r0 : Value) (o0 : Bool), e = .returned r0 ∧ Q o0 ∧ Ext NX w0 K0 w' K' ∧ Models w' K' ∧ Kd.bool.V K' o0 r0) := by
  unfold has_VC at h
  have hE0 : Ext NX w0 K0 w0 K0 := Ext.refl _ _ _
  refine calls_gen fun R hR => ?_
  refine calls_env (args := [(.pointer (some ⟨a0_n_b, a0_n_pre.length, none⟩)), a1_s_v, a2_b_v]) Try.func69 rfl (Nat.le_of_ble_eq_true rfl) ?_
  refine WP_seq ?_
  refine WP_region ?_
  refine WL_eff rfl rfl (St_B (S_box hM0 rfl h_a1_s) ?_)
  rintro b6 w6 (hB6 : Bx kd_a32_u8 _ _ _ _ _ a1_s) hS6 hM6 hge6
  have hE6 := hE0.andN hS6
  refine WL_eff rfl rfl (St_B (S_box hM6 rfl (h_a2_b.mono hS6.le)) ?_)
  rintro b8 w8 (hB8 : Bx kd_l_u8 _ _ _ _ _ a2_b) hS8 hM8 hge8
  have hE8 := hE6.andN hS8
  have hR10 := (h_a0_n_B.extN hS6)
  refine WL_pure (.bool false) (R_as rfl) rfl rfl ?_
  refine WL_nil ?_
  refine WP_seq ?_
  refine WP_ordD (K := K0) NX [.o 0 2, .o 1 2, .o 2 2, .o 3 2, .o 4 2, .o 5 2, .o 6 2, .o 7 2, .o 8 2, .o 9 2, .o 10 2] (by kernel_rfl) (by kernel_rfl) hM8 ?_
  rintro w11 hS11 hM11
  have hE11 := hE8.andN hS11
  refine WO_pure (.pointer (some ⟨a0_n_b, a0_n_pre.length, none⟩)) rfl l0 hM11 (fun _ => R_mv rfl) rfl (gN rfl) rfl ?_
  refine WO_pure (.pointer (some ⟨a0_n_b, a0_n_pre.length, none⟩)) rfl l0 hM11 (fun _ => R_nilck rfl) rfl (gN rfl) rfl ?_
  refine WO_pure (.pointer (some ⟨a0_n_b, a0_n_pre.length + 1, none⟩)) rfl l0 hM11 (fun _ => R_fa rfl Try.underlying30 rfl rfl ty28r rfl) rfl (gN rfl) rfl ?_
  have hR13 := (((h_a0_n_B.extN hS6).extN hS8).extN hS11)
  refine WO_L0 hM11 (S_ldB (Foc.snd Kd.rsl Kd.rmp) rfl ty28r hR13 (by first | rfl | simp | omega) (fun h => h)) rfl (gN rfl) rfl ?_
  rintro v12 (hV12 : Kd.rmp.V _ a0_n_1v _)
  obtain rfl := rw_form hV12
  have hR15 := ((hB6.extN hS8).extN hS11)
  refine WO_L0 hM11 (S_ldB (Foc.id _) rfl ty23 hR15 (by first | rfl | simp | omega) (fun h => h)) rfl (gN rfl) rfl ?_
  rintro v14 (hV14 : kd_a32_u8.V _ a1_s _)
  have hR18 := (((h_a0_n_1.extN hS6).extN hS8).extN hS11)
  refine WO_LK0 hM11 (S_lkp (kv := (Kd.int .i64)) rfl rfl hR18 hV14 Try.underlying28 (keyOk_arr Try.underlying23 Try.underlying5 ty5b) ty3 (fun _ _ h => h)) rfl (gN rfl) rfl ?_
  rintro v17 (hV17 : (Kd.int .i64).V _ ((mfind a1_s a0_n_1).getD 0) _)
  obtain rfl := int_form hV17
  refine WO_pure (.tuple #[(.int .i64 ((mfind a1_s a0_n_1).getD 0)), (.bool ((mfind a1_s a0_n_1).isSome))]) rfl l0 hM11 (fun _ => R_mv rfl) rfl (gN rfl) rfl ?_
  refine WO_pure (.int .i64 ((mfind a1_s a0_n_1).getD 0)) rfl l0 hM11 (fun _ => R_ext rfl rfl) rfl (gN rfl) rfl ?_
  refine WO_pure (.bool ((mfind a1_s a0_n_1).isSome)) rfl l0 hM11 (fun _ => R_ext rfl rfl) rfl (gN rfl) rfl ?_
  refine WO_pure (.int .i64 ((mfind a1_s a0_n_1).getD 0)) rfl l0 hM11 (fun _ => R_as rfl) rfl (gN rfl) rfl ?_
  refine WO_pure (.bool ((mfind a1_s a0_n_1).isSome)) rfl l0 hM11 (fun _ => R_as rfl) rfl (gN rfl) rfl ?_
  refine WO_nil ?_
  refine WP_seq ?_
  refine WP_seq ?_
  refine WP_region ?_
  refine WL_pure (.bool ((mfind a1_s a0_n_1).isSome)) (R_mv rfl) rfl rfl ?_
  refine WL_pure (.bool (!((mfind a1_s a0_n_1).isSome))) (R_not rfl) rfl rfl ?_
  refine WL_nil ?_
  refine WP_cond (!((mfind a1_s a0_n_1).isSome)) rfl (fun hc19 => ?_) (fun hc19 => ?_)
  · have hd19 : ¬ (((mfind a1_s a0_n_1).isSome) = true) := nbb_t hc19
    have h := h.1 hd19
    refine WP_seq ?_
    refine WP_region ?_
    refine WL_pure (.bool false) (R_as rfl) rfl rfl ?_
    refine WL_nil ?_
    refine WP_ret ?_
    exact endR_ret hR (v := (.bool false)) (resE_1 rfl rfl) ⟨K0, (.bool false), false, rfl, h, hE11, hM11, bool_V⟩
  · have hd19 : ((mfind a1_s a0_n_1).isSome) = true := nbb_f hc19
    have h := h.2 hd19
    refine WP_skip ?_
    refine WP_seq ?_
    refine WP_region ?_
    refine WL_pure (.pointer (some ⟨a0_n_b, a0_n_pre.length, none⟩)) (R_mv rfl) rfl rfl ?_
    refine WL_pure (.pointer (some ⟨a0_n_b, a0_n_pre.length, none⟩)) (R_nilck rfl) rfl rfl ?_
    refine WL_pure (.pointer (some ⟨a0_n_b, a0_n_pre.length + 0, none⟩)) (R_fa rfl Try.underlying30 rfl rfl ty27r rfl) rfl rfl ?_
    refine WL_L hM11 (S_ldB (Foc.fst Kd.rsl Kd.rmp) rfl ty27r hR13 (by first | rfl | simp | omega) (fun h => h)) rfl rfl ?_
    rintro v20 (hV20 : Kd.rsl.V _ a0_n_0v _)
    obtain rfl := rw_form hV20
    refine WL_pure (.int .i64 ((mfind a1_s a0_n_1).getD 0)) (R_mv rfl) rfl rfl ?_
    obtain ⟨hp22, h⟩ := h
    refine WL_V (S_slL rfl (h_a0_n_0.V.mono (hS6.le.trans (hS8.le.trans hS11.le))) Try.underlying27 ty90 rfl hp22.1 hp22.2) rfl rfl ?_
    rintro v21 (hV21 : kd_l_Sseal_note.V _ (a0_n_0.drop ((mfind a1_s a0_n_1).getD 0).toNat) _)
    refine WL_pure (.func (.func 90) #[] #[(.pointer (some ⟨b6, 0, none⟩)), (.pointer (some ⟨b8, 0, none⟩))]) (R_fnl rfl) rfl rfl ?_
    have hR25 := (hB8.extN hS11)
    refine WL_eff rfl rfl (St_call (R_call Try.call89 rfl) ((HasNote_c hM11 hV21 hR15 hR25 (fun he => (ne_new hge8 hB6.lt) he.symm)).mono ?_))
    rintro _ w24 ⟨K24, v24_0, rfl, hS24, hM24, hV24_0⟩
    refine ⟨v24_0, rfl, ?_⟩
    have hE24 := hE11.andN hS24
    obtain rfl := bool_form hV24_0
    refine WL_pure (.bool (decide (0 ≤ noteIx a1_s a2_b (a0_n_0.drop ((mfind a1_s a0_n_1).getD 0).toNat) 0))) (R_as rfl) rfl rfl ?_
    refine WL_nil ?_
    refine WP_ret ?_
    exact endR_ret hR (v := (.bool (decide (0 ≤ noteIx a1_s a2_b (a0_n_0.drop ((mfind a1_s a0_n_1).getD 0).toNat) 0)))) (resE_1 rfl rfl) ⟨K24, (.bool (decide (0 ≤ noteIx a1_s a2_b (a0_n_0.drop ((mfind a1_s a0_n_1).getD 0).toNat) 0))), (decide (0 ≤ noteIx a1_s a2_b (a0_n_0.drop ((mfind a1_s a0_n_1).getD 0).toNat) 0)), rfl, h, hE24, hM24, bool_V⟩
theorem has_c {w0 : World} {K0 : Ghost} {a0_n_b : Nat} {a0_n_pre a0_n_post : List Value} {a0_n_0v : Value} {a0_n_0 : (List ((List UInt8) × (List UInt8)))} {a0_n_1v : Value} {a0_n_1 : (List ((List UInt8) × Int))} {a1_s_v : Value} {a1_s : (List UInt8)} {a2_b_v : Value} {a2_b : (List UInt8)} (hM0 : Models w0 K0) (h_a0_n_B : Bx kd_Sseal_notes w0 K0 a0_n_b a0_n_pre a0_n_post (a0_n_0v, a0_n_1v)) (h_a0_n_0 : Own kd_Sseal_note 90 w0 K0 a0_n_0 a0_n_0v) (h_a0_n_1 : Mp kd_a32_u8 (Kd.int .i64) w0 K0 a0_n_1 a0_n_1v) (h_a1_s : kd_a32_u8.V K0 a1_s a1_s_v) (h_a2_b : kd_l_u8.V K0 a2_b a2_b_v) (hp : BookInv a0_n_0 a0_n_1) : Calls Try.prog 69 #[(.pointer (some ⟨a0_n_b, a0_n_pre.length, none⟩)), a1_s_v, a2_b_v] w0 (fun e w' => ∃ (K' : Ghost) (r0 : Value), e = .returned r0 ∧ Ext NX w0 K0 w' K' ∧ Models w' K' ∧ Kd.bool.V K' (decide ((a1_s, a2_b) ∈ a0_n_0)) r0) := by
  refine (has_walk hM0 h_a0_n_B h_a0_n_0 h_a0_n_1 h_a1_s h_a2_b (has_ok h_a1_s.wf h_a2_b.wf hp)).mono ?_
  rintro _ w' ⟨K', r0, o0, rfl, rfl, hF⟩
  exact ⟨K', r0, rfl, hF⟩
theorem fs90 {fs : Array Field} (h : Try.prog.underlying 90 = some (.struct fs)) : ∀ f ∈ fs.toList, ∃ i, Try.prog.info? f.type = some i := by
  have h2 := (Try.underlying90).symm.trans h
  cases h2
  intro f hf
  simp only [List.mem_cons, List.not_mem_nil, or_false] at hf
  rcases hf with rfl | rfl
  · exact ⟨_, Try.type23⟩
  · exact ⟨_, Try.type39⟩
def add_VC (a0_n_0 : (List ((List UInt8) × (List UInt8)))) (a0_n_1 : (List ((List UInt8) × Int))) (a1_s : (List UInt8)) (a2_b : (List UInt8)) (Q : (List ((List UInt8) × (List UInt8))) → (List ((List UInt8) × Int)) → Prop) : Prop :=
  (BookInv a0_n_0 a0_n_1) ∧ ((((a1_s, a2_b) ∈ a0_n_0) → Q a0_n_0 a0_n_1) ∧ ((¬ ((a1_s, a2_b) ∈ a0_n_0)) → ∀ (r21 : Bool), (r21 = true → a0_n_1 = []) → (∃ (J23 : (List ((List UInt8) × Int)) → Prop), (((r21 = true) → J23 ([] : List ((List UInt8) × Int))) ∧ ((r21 = false) → J23 a0_n_1)) ∧ ∀ (y23 : (List ((List UInt8) × Int))), J23 y23 → (∃ (J42 : (List ((List UInt8) × Int)) → Prop), (((¬ (((mfind a1_s y23).isSome) = true)) → J42 (mset a1_s (a0_n_0.length : Int) y23)) ∧ ((((mfind a1_s y23).isSome) = true) → J42 y23)) ∧ ∀ (y42 : (List ((List UInt8) × Int))), J42 y42 → ((a2_b.length ≤ 140737488355328) ∧ ((kd_l_u8.wf a2_b) → (((a0_n_0.length + [(a1_s, a2_b)].length) * 56 ≤ 140737488355328) ∧ (Q (a0_n_0 ++ [(a1_s, a2_b)]) y42))))))))
theorem add_ok {a0_n_0 : (List ((List UInt8) × (List UInt8)))} {a0_n_1 : (List ((List UInt8) × Int))} {a1_s : (List UInt8)} {a2_b : (List UInt8)} (w_0 : kd_a32_u8.wf a1_s) (w_1 : kd_l_u8.wf a2_b) (hp : BookInv a0_n_0 a0_n_1 ∧ a2_b.length ≤ 140737488355328 ∧ (a0_n_0.length + 1) * 64 ≤ 140737488355328) : add_VC a0_n_0 a0_n_1 a1_s a2_b (fun o0 o1 => o0 = (addL a0_n_0 a1_s a2_b) ∧ o1 = (addM a0_n_0 a0_n_1 a1_s a2_b)) := by
  obtain ⟨h1, h2, h3⟩ := hp
  have hlen : (a0_n_0.length + [(a1_s, a2_b)].length) * 56 ≤ 140737488355328 := by
    simp only [List.length_cons, List.length_nil]
    omega
  unfold add_VC
  refine ⟨h1, fun h => ?_, fun h r hr => ?_⟩
  · have hm := h
    exact ⟨by simp [addL, hm], by simp [addM, hm]⟩
  · have hm := h
    refine ⟨fun m => m = a0_n_1, ⟨fun h => (hr h).symm, fun _ => rfl⟩, ?_⟩
    rintro m rfl
    refine ⟨fun m' => m' = if (mfind a1_s m).isSome then m else mset a1_s (a0_n_0.length : Int) m, ⟨fun h => by rw [if_neg h], fun h => by rw [if_pos h]⟩, ?_⟩
    rintro m' rfl
    exact ⟨h2, fun _ => ⟨hlen, by simp [addL, hm], by simp [addM, hm]⟩⟩

theorem add_walk {w0 : World} {K0 : Ghost} {a0_n_b : Nat} {a0_n_pre a0_n_post : List Value} {a0_n_0v : Value} {a0_n_0 : (List ((List UInt8) × (List UInt8)))} {a0_n_1v : Value} {a0_n_1 : (List ((List UInt8) × Int))} {a1_s_v : Value} {a1_s : (List UInt8)} {a2_b_v : Value} {a2_b : (List UInt8)} {Q : (List ((List UInt8) × (List UInt8))) → (List ((List UInt8) × Int)) → Prop} (hM0 : Models w0 K0) (h_a0_n_B : Bx kd_Sseal_notes w0 K0 a0_n_b a0_n_pre a0_n_post (a0_n_0v, a0_n_1v)) (h_a0_n_0 : Own kd_Sseal_note 90 w0 K0 a0_n_0 a0_n_0v) (h_a0_n_1 : Mp kd_a32_u8 (Kd.int .i64) w0 K0 a0_n_1 a0_n_1v) (h_a1_s : kd_a32_u8.V K0 a1_s a1_s_v) (h_a2_b : kd_l_u8.V K0 a2_b a2_b_v) (h : add_VC a0_n_0 a0_n_1 a1_s a2_b Q) : Calls Try.prog 47 #[(.pointer (some ⟨a0_n_b, a0_n_pre.length, none⟩)), a1_s_v, a2_b_v] w0 (fun e w' => ∃ (K' : Ghost) (u0_0 : Value) (u0_1 : Value) (o0 : (List ((List UInt8) × (List UInt8)))) (o1 : (List ((List UInt8) × Int))), e = .returned (.tuple #[]) ∧ Q o0 o1 ∧ Ext (fun c => c = a0_n_b ∨ ob a0_n_0v = some c ∨ mb a0_n_1v = some c) w0 K0 w' K' ∧ Models w' K' ∧ Bx kd_Sseal_notes w' K' a0_n_b a0_n_pre a0_n_post (u0_0, u0_1) ∧ Own kd_Sseal_note 90 w' K' o0 u0_0 ∧ (∀ g, ob u0_0 = some g → ob a0_n_0v = some g ∨ w0.heap.size ≤ g) ∧ Mp kd_a32_u8 (Kd.int .i64) w' K' o1 u0_1 ∧ (∀ g, mb u0_1 = some g → mb a0_n_1v = some g ∨ w0.heap.size ≤ g)) := by
  unfold add_VC at h
  have hE0 : Ext (fun c => c = a0_n_b ∨ ob a0_n_0v = some c ∨ mb a0_n_1v = some c) w0 K0 w0 K0 := Ext.refl _ _ _
  refine calls_gen fun R hR => ?_
  refine calls_env (args := [(.pointer (some ⟨a0_n_b, a0_n_pre.length, none⟩)), a1_s_v, a2_b_v]) Try.func47 rfl (Nat.le_of_ble_eq_true rfl) ?_
  refine WP_seq ?_
  refine WP_region ?_
  refine WL_eff rfl rfl (St_B (S_box hM0 rfl h_a1_s) ?_)
  rintro b6 w6 (hB6 : Bx kd_a32_u8 _ _ _ _ _ a1_s) hS6 hM6 hge6
  have hE6 := hE0.andN hS6
  refine WL_nil ?_
  refine WP_seq ?_
  refine WP_seq ?_
  refine WP_region ?_
  refine WL_pure (.pointer (some ⟨a0_n_b, a0_n_pre.length, none⟩)) (R_mv rfl) rfl rfl ?_
  refine WL_L hM6 (S_ldB (Foc.id _) rfl ty23 hB6 (by first | rfl | simp | omega) (fun h => h)) rfl rfl ?_
  rintro v8 (hV8 : kd_a32_u8.V _ a1_s _)
  refine WL_pure a2_b_v (R_mv rfl) rfl rfl ?_
  have hR10 := (h_a0_n_0.extN hS6)
  have hR11 := (h_a0_n_1.extN hS6)
  have hR12 := (h_a0_n_B.extN hS6)
  obtain ⟨hp14, h⟩ := h
  refine WL_eff rfl rfl (St_call (R_call Try.call69 rfl) ((has_c hM6 hR12 hR10 hR11 hV8 (h_a2_b.mono hS6.le) hp14).mono ?_))
  rintro _ w13 ⟨K13, v13_0, rfl, hS13, hM13, hV13_0⟩
  refine ⟨v13_0, rfl, ?_⟩
  have hE13 := hE6.andN hS13
  obtain rfl := bool_form hV13_0
  refine WL_nil ?_
  refine WP_cond (decide ((a1_s, a2_b) ∈ a0_n_0)) rfl (fun hc15 => ?_) (fun hc15 => ?_)
  · have hd15 : (a1_s, a2_b) ∈ a0_n_0 := dec_t hc15
    have h := h.1 hd15
    refine WP_ret ?_
    have hR16 := (hR10.extN hS13)
    have hR17 := (hR11.extN hS13)
    have hR18 := (hR12.extN hS13)
    exact endR_ret hR (v := (.tuple #[])) (resE_0 rfl) ⟨K13, a0_n_0v, a0_n_1v, a0_n_0, a0_n_1, rfl, h, hE13, hM13, hR18, hR16, (fun g hg => (.inl hg)), hR17, (fun g hg => (.inl hg))⟩
  · have hd15 : ¬ ((a1_s, a2_b) ∈ a0_n_0) := dec_f hc15
    have h := h.2 hd15
    refine WP_skip ?_
    refine WP_seq ?_
    refine WP_seq ?_
    refine WP_region ?_
    refine WL_pure (.pointer (some ⟨a0_n_b, a0_n_pre.length, none⟩)) (R_mv rfl) rfl rfl ?_
    refine WL_pure (.pointer (some ⟨a0_n_b, a0_n_pre.length, none⟩)) (R_nilck rfl) rfl rfl ?_
    refine WL_pure (.pointer (some ⟨a0_n_b, a0_n_pre.length + 1, none⟩)) (R_fa rfl Try.underlying30 rfl rfl ty28r rfl) rfl rfl ?_
    have hR20 := (hR12.extN hS13)
    refine WL_L hM13 (S_ldB (Foc.snd Kd.rsl Kd.rmp) rfl ty28r hR20 (by first | rfl | simp | omega) (fun h => h)) rfl rfl ?_
    rintro v19 (hV19 : Kd.rmp.V _ a0_n_1v _)
    obtain rfl := rw_form hV19
    have hR22 := (hR11.extN hS13)
    refine WL_bq (S_mnil rfl rfl hR22 Try.underlying28) rfl rfl ?_
    rintro r21 ⟨hn21, hnn21⟩
    have h := h r21 (fun hx => (hn21 hx).2)
    refine WL_nil ?_
    obtain ⟨J23, h, hJ23⟩ := h
    refine WP_meet [17, 18, 19, 20] (fun l w => ∃ y23 K z1_1, J23 y23 ∧ l = [] ∧ Ext (fun c => mb a0_n_1v = some c ∨ c = a0_n_b) w13 K13 w K ∧ Models w K ∧ Mp kd_a32_u8 (Kd.int .i64) w K y23 (.map (some z1_1)) ∧ (∀ g, mb (.map (some z1_1)) = some g → mb a0_n_1v = some g ∨ w13.heap.size ≤ g) ∧ Bx kd_Sseal_notes w K a0_n_b a0_n_pre a0_n_post (a0_n_0v, (.map (some z1_1)))) ?_ ?_
    · skip
      refine WP_cond r21 rfl (fun hc24 => ?_) (fun hc24 => ?_)
      · have hd24 : r21 = true := hc24
        have h := h.1 hd24
        refine WP_region ?_
        refine WL_pure (.pointer (some ⟨a0_n_b, a0_n_pre.length, none⟩)) (R_mv rfl) rfl rfl ?_
        refine WL_eff rfl rfl (St_MM (S_mkm (kk := kd_a32_u8) (kv := (Kd.int .i64)) hM13) ?_)
        rintro b25 w25 hO25 hS25 hM25 hge25
        have hf25 : ∀ g, mb (.map (some b25)) = some g → w0.heap.size ≤ g := fun g hg => by cases hg; exact Nat.le_trans hE13.size hge25
        have hE25 := hE13.andN hS25
        have hs27 : ∀ g, mb (.map (some b25)) = some g → ¬ (mb a0_n_1v = some g) := fun g hg hx => by cases hg; exact absurd (hR22.lt _ hx) (Nat.not_lt.2 hge25)
        refine WL_pure (.pointer (some ⟨a0_n_b, a0_n_pre.length, none⟩)) (R_nilck rfl) rfl rfl ?_
        refine WL_pure (.pointer (some ⟨a0_n_b, a0_n_pre.length + 1, none⟩)) (R_fa rfl Try.underlying30 rfl rfl ty28r rfl) rfl rfl ?_
        have hR29 := (hR20.extN hS25)
        refine WL_eff rfl rfl (St_St (S_stB (Foc.snd Kd.rsl Kd.rmp) hM25 rfl rfl (rw_V hO25.one) ty28r hR29 (by first | rfl | simp | omega)) ?_)
        rintro w28 (hB28 : Bx kd_Sseal_notes _ _ a0_n_b a0_n_pre a0_n_post (a0_n_0v, (.map (some b25)))) hS28 hM28
        have hE28 := hE25.comp hS28 (fun c hx hlt => (by subst hx; exact (fun _ => (.inl rfl)) hlt))
        refine WL_nil ?_
        have hR30 := (hO25.ext hS28 (fun g hg hx => (fun g hg hx => hO25.box hR29 (hg.trans (congrArg some hx))) g hg hx))
        exact MeetQ.mk [] ⟨([] : List ((List UInt8) × Int)), K13, b25, h, rfl, (((Ext.refl _ _ _).andN hS25).comp hS28 (fun c hx hlt => (.inr (hx)))), hM28, hR30, (fun g hg => .inr ((fun g hg => by cases hg; exact hge25) g hg)), hB28⟩ (by repeat (first | exact Off.lay0 rfl | exact Off.refl _ _ | refine Off.updO ?_ rfl _ | refine Off.updN ?_ _ | refine Off.lay ?_ rfl)) (by repeat (first | exact trivial | refine ⟨rfl, ?_⟩))
      · have hd24 : r21 = false := hc24
        have h := h.2 hd24
        obtain ⟨b24, hv24⟩ := hnn21 hd24
        subst hv24
        refine WP_skip ?_
        exact MeetQ.mk [] ⟨a0_n_1, K13, b24, h, rfl, (Ext.refl _ _ _), hM13, hR22, (fun g hg => (.inl hg)), hR20⟩ (by repeat (first | exact Off.lay0 rfl | exact Off.refl _ _ | refine Off.updO ?_ rfl _ | refine Off.updN ?_ _ | refine Off.lay ?_ rfl)) (by repeat (first | exact trivial | refine ⟨rfl, ?_⟩))
    rintro l σ23 w31 ⟨y23, K31, z1_1_23, hI, rfl, hX31, hM31, hL23_z1_1, ho23_z1_1, hL23_1⟩
    have h := hJ23 y23 hI
    have hE31 := hE13.comp hX31 (fun c hx hlt => Or.elim hx (fun hx => (fun g hg _ => (.inr (.inr (hg)))) c hx hlt) (fun hx => (by subst hx; exact (fun _ => (.inl rfl)) hlt)))
    have hf32 : ∀ g, mb (.map (some z1_1_23)) = some g → g < w0.heap.size → g = a0_n_b ∨ ob a0_n_0v = some g ∨ mb a0_n_1v = some g := fun g hg hlt => (ho23_z1_1 g hg).elim (fun hx => (fun g hg _ => (.inr (.inr (hg)))) g hx hlt) (fun hx => absurd hlt (Nat.not_lt.2 (Nat.le_trans hE13.size hx)))
    refine WP_seq ?_
    refine WP_seq ?_
    refine WP_ordD (K := K31) NX [.o 0 2, .o 1 2, .o 2 2, .o 3 2, .o 4 2, .o 5 2, .o 6 2, .o 7 2, .o 8 2, .o 9 2, .o 10 2] (by kernel_rfl) (by kernel_rfl) hM31 ?_
    rintro w33 hS33 hM33
    have hE33 := hE31.andN hS33
    refine WO_pure (.pointer (some ⟨a0_n_b, a0_n_pre.length, none⟩)) rfl l0 hM33 (fun _ => R_mv rfl) rfl (gN rfl) rfl ?_
    refine WO_pure (.pointer (some ⟨a0_n_b, a0_n_pre.length, none⟩)) rfl l0 hM33 (fun _ => R_nilck rfl) rfl (gN rfl) rfl ?_
    refine WO_pure (.pointer (some ⟨a0_n_b, a0_n_pre.length + 1, none⟩)) rfl l0 hM33 (fun _ => R_fa rfl Try.underlying30 rfl rfl ty28r rfl) rfl (gN rfl) rfl ?_
    have hR35 := (hL23_1.extN hS33)
    refine WO_L0 hM33 (S_ldB (Foc.snd Kd.rsl Kd.rmp) rfl ty28r hR35 (by first | rfl | simp | omega) (fun h => h)) rfl (gN rfl) rfl ?_
    rintro v34 (hV34 : Kd.rmp.V _ (.map (some z1_1_23)) _)
    obtain rfl := rw_form hV34
    have hR37 := (hB6.extN hS13)
    have hR38 := ((hR37.ext hX31 (fun hx => Or.elim hx (fun hx => (hR22.box hR37) hx) (fun hx => (ne_new hge6 h_a0_n_B.lt) hx))).extN hS33)
    refine WO_L0 hM33 (S_ldB (Foc.id _) rfl ty23 hR38 (by first | rfl | simp | omega) (fun h => h)) rfl (gN rfl) rfl ?_
    rintro v36 (hV36 : kd_a32_u8.V _ a1_s _)
    have hR41 := (hL23_z1_1.extN hS33)
    refine WO_LK0 hM33 (S_lkp (kv := (Kd.int .i64)) rfl rfl hR41 hV36 Try.underlying28 (keyOk_arr Try.underlying23 Try.underlying5 ty5b) ty3 (fun _ _ h => h)) rfl (gN rfl) rfl ?_
    rintro v40 (hV40 : (Kd.int .i64).V _ ((mfind a1_s y23).getD 0) _)
    obtain rfl := int_form hV40
    refine WO_pure (.tuple #[(.int .i64 ((mfind a1_s y23).getD 0)), (.bool ((mfind a1_s y23).isSome))]) rfl l0 hM33 (fun _ => R_mv rfl) rfl (gN rfl) rfl ?_
    refine WO_pure (.int .i64 ((mfind a1_s y23).getD 0)) rfl l0 hM33 (fun _ => R_ext rfl rfl) rfl (gN rfl) rfl ?_
    refine WO_pure (.bool ((mfind a1_s y23).isSome)) rfl l0 hM33 (fun _ => R_ext rfl rfl) rfl (gN rfl) rfl ?_
    refine WO_pure (.int .i64 ((mfind a1_s y23).getD 0)) rfl l0 hM33 (fun _ => R_as rfl) rfl (gN rfl) rfl ?_
    refine WO_pure (.bool ((mfind a1_s y23).isSome)) rfl l0 hM33 (fun _ => R_as rfl) rfl (gN rfl) rfl ?_
    refine WO_nil ?_
    refine WP_seq ?_
    refine WP_region ?_
    refine WL_pure (.bool ((mfind a1_s y23).isSome)) (R_mv rfl) rfl rfl ?_
    refine WL_pure (.bool (!((mfind a1_s y23).isSome))) (R_not rfl) rfl rfl ?_
    refine WL_nil ?_
    obtain ⟨J42, h, hJ42⟩ := h
    refine WP_meet [32, 33, 34, 35, 36, 37, 38, 39, 40, 41] (fun l w => ∃ y42 K z1_1, J42 y42 ∧ l = [] ∧ Ext (fun c => mb (.map (some z1_1_23)) = some c ∨ c = a0_n_b) w33 K31 w K ∧ Models w K ∧ Mp kd_a32_u8 (Kd.int .i64) w K y42 (.map (some z1_1)) ∧ (∀ g, mb (.map (some z1_1)) = some g → mb (.map (some z1_1_23)) = some g ∨ w33.heap.size ≤ g) ∧ Bx kd_Sseal_notes w K a0_n_b a0_n_pre a0_n_post (a0_n_0v, (.map (some z1_1)))) ?_ ?_
    · skip
      refine WP_cond (!((mfind a1_s y23).isSome)) rfl (fun hc43 => ?_) (fun hc43 => ?_)
      · have hd43 : ¬ (((mfind a1_s y23).isSome) = true) := nbb_t hc43
        have h := h.1 hd43
        refine WP_ordD (K := K31) (fun c => mb (.map (some z1_1_23)) = some c ∨ w33.heap.size ≤ c) [.o 0 2, .o 1 2, .o 2 2, .o 3 2, .o 4 2, .o 5 2, .o 6 2, .o 7 2, .o 8 2, .o 9 2, .o 10 1] (by kernel_rfl) (by kernel_rfl) hM33 ?_
        rintro w44 hS44 hM44
        have hE44 := hE33.andN hS44
        refine WO_pure (.pointer (some ⟨a0_n_b, a0_n_pre.length, none⟩)) rfl l0 hM44 (fun _ => R_mv rfl) rfl (gN rfl) rfl ?_
        refine WO_pure (.pointer (some ⟨a0_n_b, a0_n_pre.length, none⟩)) rfl l0 hM44 (fun _ => R_nilck rfl) rfl (gN rfl) rfl ?_
        refine WO_pure (.pointer (some ⟨a0_n_b, a0_n_pre.length + 1, none⟩)) rfl l0 hM44 (fun _ => R_fa rfl Try.underlying30 rfl rfl ty28r rfl) rfl (gN rfl) rfl ?_
        have hR46 := (hR35.extN hS44)
        refine WO_L0 hM44 (S_ldB (Foc.snd Kd.rsl Kd.rmp) rfl ty28r hR46 (by first | rfl | simp | omega) (fun h => h)) rfl (gN rfl) rfl ?_
        rintro v45 (hV45 : Kd.rmp.V _ (.map (some z1_1_23)) _)
        obtain rfl := rw_form hV45
        have hR48 := (hR38.extN hS44)
        refine WO_L0 hM44 (S_ldB (Foc.id _) rfl ty23 hR48 (by first | rfl | simp | omega) (fun h => h)) rfl (gN rfl) rfl ?_
        rintro v47 (hV47 : kd_a32_u8.V _ a1_s _)
        refine WO_pure (.pointer (some ⟨a0_n_b, a0_n_pre.length, none⟩)) rfl l0 hM44 (fun _ => R_mv rfl) rfl (gN rfl) rfl ?_
        refine WO_pure (.pointer (some ⟨a0_n_b, a0_n_pre.length, none⟩)) rfl l0 hM44 (fun _ => R_nilck rfl) rfl (gN rfl) rfl ?_
        refine WO_pure (.pointer (some ⟨a0_n_b, a0_n_pre.length + 0, none⟩)) rfl l0 hM44 (fun _ => R_fa rfl Try.underlying30 rfl rfl ty27r rfl) rfl (gN rfl) rfl ?_
        refine WO_L0 hM44 (S_ldB (Foc.fst Kd.rsl Kd.rmp) rfl ty27r hR46 (by first | rfl | simp | omega) (fun h => h)) rfl (gN rfl) rfl ?_
        rintro v50 (hV50 : Kd.rsl.V _ a0_n_0v _)
        obtain rfl := rw_form hV50
        refine WO_pure (.int .i64 (a0_n_0.length : Int)) rfl l0 hM44 (fun _ => R_len rfl (hR10.V.mono (hS13.le.trans (hX31.le.trans (hS33.le.trans hS44.le)))) Try.underlying27) rfl (gN rfl) rfl ?_
        have hR52 := (hR41.extN hS44)
        refine WO_eff rfl (gN rfl) rfl (St_Mu (S_mst hM44 rfl rfl rfl hR52 hV47 (int_V (len_wf ((hR10).V).wf.1)) Try.underlying28 (keyOk_arr Try.underlying23 Try.underlying5 ty5b)) ?_)
        rintro w51 hO51 hS51 hM51
        have hS51 : Ext (fun c => mb (.map (some z1_1_23)) = some c) w44 K31 w51 K31 := hS51.weak (fun c _ hc => congrArg some hc.symm)
        refine ⟨K31, (hS51.weak (fun c hlt hx => (.inl (hx)))), hM51, ?_⟩
        have hE51 := hE44.comp hS51 (fun c hx hlt => hf32 c hx hlt)
        refine WO_nil ?_
        have hR53 := (hR46.ext hS51 (fun hx => (hR52.box hR46) hx))
        exact MeetQ.mk [] ⟨(mset a1_s (a0_n_0.length : Int) y23), K31, z1_1_23, h, rfl, (((Ext.refl _ _ _).andN hS44).comp hS51 (fun c hx hlt => (.inl (hx)))), hM51, hO51, (fun g hg => (.inl hg)), hR53⟩ (by repeat (first | exact Off.lay0 rfl | exact Off.refl _ _ | refine Off.updO ?_ rfl _ | refine Off.updN ?_ _ | refine Off.lay ?_ rfl)) (by repeat (first | exact trivial | refine ⟨rfl, ?_⟩))
      · have hd43 : ((mfind a1_s y23).isSome) = true := nbb_f hc43
        have h := h.2 hd43
        refine WP_skip ?_
        exact MeetQ.mk [] ⟨y23, K31, z1_1_23, h, rfl, (Ext.refl _ _ _), hM33, hR41, (fun g hg => (.inl hg)), hR35⟩ (by repeat (first | exact Off.lay0 rfl | exact Off.refl _ _ | refine Off.updO ?_ rfl _ | refine Off.updN ?_ _ | refine Off.lay ?_ rfl)) (by repeat (first | exact trivial | refine ⟨rfl, ?_⟩))
    rintro l σ42 w54 ⟨y42, K54, z1_1_42, hI, rfl, hX54, hM54, hL42_z1_1, ho42_z1_1, hL42_1⟩
    have h := hJ42 y42 hI
    have hE54 := hE33.comp hX54 (fun c hx hlt => Or.elim hx (fun hx => hf32 c hx hlt) (fun hx => (by subst hx; exact (fun _ => (.inl rfl)) hlt)))
    have hf55 : ∀ g, mb (.map (some z1_1_42)) = some g → g < w0.heap.size → g = a0_n_b ∨ ob a0_n_0v = some g ∨ mb a0_n_1v = some g := fun g hg hlt => (ho42_z1_1 g hg).elim (fun hx => hf32 g hx hlt) (fun hx => absurd hlt (Nat.not_lt.2 (Nat.le_trans hE33.size hx)))
    have hR56 := (hR10.extN hS13)
    have hR57 := ((hR56.ext hX31 (fun g hg hx => Or.elim hx (fun hx => (fun g hg => hR22.own hR56 g hg) g hg hx) (fun hx => (fun g hg hx => hR56.box hR20 (hg.trans (congrArg some hx))) g hg hx))).extN hS33)
    have hR58 := (hR57.ext hX54 (fun g hg hx => Or.elim hx (fun hx => (fun g hg => hR41.own hR57 g hg) g hg hx) (fun hx => (fun g hg hx => hR57.box hR35 (hg.trans (congrArg some hx))) g hg hx)))
    have hR59 := (hR38.ext hX54 (fun hx => Or.elim hx (fun hx => (hR41.box hR38) hx) (fun hx => (ne_new hge6 h_a0_n_B.lt) hx)))
    refine WP_ordD (K := K54) (fun c => c = a0_n_b ∨ ob a0_n_0v = some c ∨ w54.heap.size ≤ c) [.o 0 3, .o 1 2, .o 2 2, .o 3 2, .o 4 2, .o 5 2, .o 6 2, .o 7 0, .o 8 2, .o 9 0, .o 10 1, .o 11 3, .o 12 3, .o 13 1] (by kernel_rfl) (by kernel_rfl) hM54 ?_
    rintro w60 hS60 hM60
    have hE60 := hE54.andN hS60
    refine WO_pure (.pointer (some ⟨a0_n_b, a0_n_pre.length, none⟩)) rfl l3 hM60 (fun _ => R_mv rfl) rfl (gN rfl) rfl ?_
    refine WO_pure (.pointer (some ⟨a0_n_b, a0_n_pre.length, none⟩)) rfl l0 hM60 (fun _ => R_mv rfl) rfl (gN rfl) rfl ?_
    refine WO_pure (.pointer (some ⟨a0_n_b, a0_n_pre.length, none⟩)) rfl l0 hM60 (fun _ => R_nilck rfl) rfl (gN rfl) rfl ?_
    refine WO_pure (.pointer (some ⟨a0_n_b, a0_n_pre.length + 0, none⟩)) rfl l0 hM60 (fun _ => R_fa rfl Try.underlying30 rfl rfl ty27r rfl) rfl (gN rfl) rfl ?_
    have hR62 := (hL42_1.extN hS60)
    refine WO_L0 hM60 (S_ldB (Foc.fst Kd.rsl Kd.rmp) rfl ty27r hR62 (by first | rfl | simp | omega) (fun h => h)) rfl (gN rfl) rfl ?_
    rintro v61 (hV61 : Kd.rsl.V _ a0_n_0v _)
    obtain rfl := rw_form hV61
    have hR64 := (hR59.extN hS60)
    refine WO_L0 hM60 (S_ldB (Foc.id _) rfl ty23 hR64 (by first | rfl | simp | omega) (fun h => h)) rfl (gN rfl) rfl ?_
    rintro v63 (hV63 : kd_a32_u8.V _ a1_s _)
    refine WO_pure a2_b_v rfl l0 hM60 (fun _ => R_mv rfl) rfl (gN rfl) rfl ?_
    have hR66 := (hR58.extN hS60)
    have hR67 := (hL42_z1_1.extN hS60)
    obtain ⟨hp69, h⟩ := h
    refine WO_eff0 rfl (gN rfl) rfl (St_call (R_call Try.call46 rfl) ((Clone_c hM60 (h_a2_b.mono (hS6.le.trans (hS13.le.trans (hX31.le.trans (hS33.le.trans (hX54.le.trans hS60.le)))))) hp69).mono ?_))
    rintro _ w68 ⟨K68, v68_0, rfl, hS68, hM68, hO68_0, hg68_0⟩
    refine ⟨v68_0, rfl, ?_⟩
    refine ⟨K68, hS68, hM68, ?_⟩
    have hE68 := hE60.andN hS68
    have h := h hO68_0.wf
    refine WO_V rfl l0 hM68 (S_bld (K := K68) (vs := [(0, v63), (1, v68_0)]) (Z := (a1_s, a2_b)) ty90 rfl Try.underlying90 (fs90 Try.underlying90) rfl (Parts.cons rfl rfl ty23 (Foc.fst kd_a32_u8 kd_l_u8) (hV63.mono hS68.le) (Parts.cons rfl rfl ty39 (Foc.snd kd_a32_u8 kd_l_u8) hO68_0.V Parts.nil))) rfl (gN rfl) rfl ?_
    rintro v71 (hV71 : kd_Sseal_note.V _ (a1_s, a2_b) _)
    refine WO_eff0 rfl (gN rfl) rfl (St_S0 (S_bsl (k := kd_Sseal_note) (l := [((a1_s, a2_b), v71)]) hM68 rfl (by intro p hp; simp only [List.mem_cons, List.not_mem_nil, or_false] at hp; subst hp; exact hV71) rfl Try.underlying27 ty90 rfl rfl) ?_)
    rintro v73 w73 K73 (hO73 : Own kd_Sseal_note 90 w73 K73 [(a1_s, a2_b)] v73) hS73 hM73 hg73
    refine ⟨K73, hS73, hM73, ?_⟩
    have hE73 := hE68.andN hS73
    have hR75 := (hR66.extN hS68)
    have hR76 := ((hR66.extN hS68).extN hS73)
    obtain ⟨hp78, h⟩ := h
    refine WO_eff rfl (gN rfl) rfl (St_S (S_app hM73 rfl hR76 rfl hO73.V Try.underlying27 ty90 rfl hp78) ?_)
    rintro v77 w77 K77 hO77 hS77 hM77 hob77
    refine ⟨K77, (hS77.weak (fun c hlt hx => (.inr (.inl (hx))))), hM77, ?_⟩
    have hE77 := hE73.comp hS77 (fun c hx hlt => (fun g hg _ => (.inr (.inl hg))) c hx hlt)
    have hR79 := (hO73.ext hS77 (fun g hg hx => (fun g hg hx => absurd (hR75.lt _ hx) (Nat.not_lt.2 (hg73 g hg))) g hg hx))
    have hfx77 : ∀ g, ob v77 = some g → g < w0.heap.size → g = a0_n_b ∨ ob a0_n_0v = some g ∨ mb a0_n_1v = some g := fun g hg hlt => by rcases hob77 with hq | hq <;> rw [hq] at hg; exact (fun g hg _ => (.inr (.inl hg))) g hg hlt; cases hg; exact absurd hlt (Nat.not_lt.2 hE73.size)
    have hs81 : ∀ g, ob v77 = some g → ¬ (ob v73 = some g) := fun g hg hx => by rcases hob77 with hq | hq <;> rw [hq] at hg; exact (fun g hg hx => (fun g hg hx => absurd (hR75.lt _ hx) (Nat.not_lt.2 (hg73 g hg))) g hx hg) g hg hx; cases hg; exact absurd (hO73.lt _ hx) (Nat.not_lt.2 (Nat.le_refl _))
    refine WO_pure (.pointer (some ⟨a0_n_b, a0_n_pre.length, none⟩)) rfl l3 hM77 (fun _ => R_nilck rfl) rfl (gN rfl) rfl ?_
    refine WO_pure (.pointer (some ⟨a0_n_b, a0_n_pre.length + 0, none⟩)) rfl l3 hM77 (fun _ => R_fa rfl Try.underlying30 rfl rfl ty27r rfl) rfl (gN rfl) rfl ?_
    have hR83 := ((hR62.extN hS68).extN hS73)
    have hR84 := (hR83.ext hS77 (fun hx => (hR76.box hR83) hx))
    refine WO_eff rfl (gN rfl) rfl (St_St (S_stB (Foc.fst Kd.rsl Kd.rmp) hM77 rfl rfl (rw_V hO77.one) ty27r hR84 (by first | rfl | simp | omega)) ?_)
    rintro w82 (hB82 : Bx kd_Sseal_notes _ _ a0_n_b a0_n_pre a0_n_post (v77, (.map (some z1_1_42)))) hS82 hM82
    refine ⟨K77, (hS82.weak (fun c hlt hx => (.inl (hx)))), hM82, ?_⟩
    have hE82 := hE77.comp hS82 (fun c hx hlt => (by subst hx; exact (fun _ => (.inl rfl)) hlt))
    refine WO_nil ?_
    have hR85 := (hO77.ext hS82 (fun g hg hx => (fun g hg hx => hO77.box hR84 (hg.trans (congrArg some hx))) g hg hx))
    have hR86 := ((hR67.extN hS68).extN hS73)
    have hR87 := (hR86.ext hS77 (fun g hg hx => (fun g hg hx => hR86.own hR76 g hx hg) g hg hx))
    have hR88 := (hR87.ext hS82 (fun g hg hx => (fun g hg hx => hR87.box hR84 (hg.trans (congrArg some hx))) g hg hx))
    exact endR_nrm hR (v := (.tuple #[])) (resE_0 rfl) ⟨K77, v77, (.map (some z1_1_42)), (a0_n_0 ++ [(a1_s, a2_b)]), y42, rfl, h, hE82, hM82, hB82, hR85, (fun g hg => (by have hg : ob v77 = some g := hg; rcases hob77 with hq | hq <;> rw [hq] at hg; exact (.inl hg); cases hg; exact .inr hE73.size)), hR88, (fun g hg => ((ho42_z1_1 g hg).elim (fun hz => ((ho23_z1_1 g hz).elim (fun hz => (.inl hz)) (fun hz => .inr (Nat.le_trans hE13.size hz)))) (fun hz => .inr (Nat.le_trans hE33.size hz))))⟩
theorem add_c {w0 : World} {K0 : Ghost} {a0_n_b : Nat} {a0_n_pre a0_n_post : List Value} {a0_n_0v : Value} {a0_n_0 : (List ((List UInt8) × (List UInt8)))} {a0_n_1v : Value} {a0_n_1 : (List ((List UInt8) × Int))} {a1_s_v : Value} {a1_s : (List UInt8)} {a2_b_v : Value} {a2_b : (List UInt8)} (hM0 : Models w0 K0) (h_a0_n_B : Bx kd_Sseal_notes w0 K0 a0_n_b a0_n_pre a0_n_post (a0_n_0v, a0_n_1v)) (h_a0_n_0 : Own kd_Sseal_note 90 w0 K0 a0_n_0 a0_n_0v) (h_a0_n_1 : Mp kd_a32_u8 (Kd.int .i64) w0 K0 a0_n_1 a0_n_1v) (h_a1_s : kd_a32_u8.V K0 a1_s a1_s_v) (h_a2_b : kd_l_u8.V K0 a2_b a2_b_v) (hp : BookInv a0_n_0 a0_n_1 ∧ a2_b.length ≤ 140737488355328 ∧ (a0_n_0.length + 1) * 64 ≤ 140737488355328) : Calls Try.prog 47 #[(.pointer (some ⟨a0_n_b, a0_n_pre.length, none⟩)), a1_s_v, a2_b_v] w0 (fun e w' => ∃ (K' : Ghost) (u0_0 : Value) (u0_1 : Value), e = .returned (.tuple #[]) ∧ Ext (fun c => c = a0_n_b ∨ ob a0_n_0v = some c ∨ mb a0_n_1v = some c) w0 K0 w' K' ∧ Models w' K' ∧ Bx kd_Sseal_notes w' K' a0_n_b a0_n_pre a0_n_post (u0_0, u0_1) ∧ Own kd_Sseal_note 90 w' K' (addL a0_n_0 a1_s a2_b) u0_0 ∧ (∀ g, ob u0_0 = some g → ob a0_n_0v = some g ∨ w0.heap.size ≤ g) ∧ Mp kd_a32_u8 (Kd.int .i64) w' K' (addM a0_n_0 a0_n_1 a1_s a2_b) u0_1 ∧ (∀ g, mb u0_1 = some g → mb a0_n_1v = some g ∨ w0.heap.size ≤ g)) := by
  refine (add_walk hM0 h_a0_n_B h_a0_n_0 h_a0_n_1 h_a1_s h_a2_b (add_ok h_a1_s.wf h_a2_b.wf hp)).mono ?_
  rintro _ w' ⟨K', u0, u1, o0, o1, rfl, ⟨rfl, rfl⟩, hF⟩
  exact ⟨K', u0, u1, rfl, hF⟩
abbrev kd_Sseal_Book : Kd ((Value × Value) × Int) := (Kd.pr kd_Sseal_notes (Kd.int .i64))
def Calls_VC (a0_k_0_0 : (List ((List UInt8) × (List UInt8)))) (a0_k_0_1 : (List ((List UInt8) × Int))) (a0_k_1 : Int) (Q : Int → Prop) : Prop :=
  Q a0_k_1
theorem Calls_ok {a0_k_0_0 : (List ((List UInt8) × (List UInt8)))} {a0_k_0_1 : (List ((List UInt8) × Int))} {a0_k_1 : Int} : Calls_VC a0_k_0_0 a0_k_0_1 a0_k_1 (fun o0 => o0 = a0_k_1) := by
  exact rfl

theorem Calls_walk {w0 : World} {K0 : Ghost} {a0_k_b : Nat} {a0_k_pre a0_k_post : List Value} {a0_k_0_0v : Value} {a0_k_0_0 : (List ((List UInt8) × (List UInt8)))} {a0_k_0_1v : Value} {a0_k_0_1 : (List ((List UInt8) × Int))} {a0_k_1 : Int} {Q : Int → Prop} (hM0 : Models w0 K0) (h_a0_k_B : Bx kd_Sseal_Book w0 K0 a0_k_b a0_k_pre a0_k_post ((a0_k_0_0v, a0_k_0_1v), a0_k_1)) (h_a0_k_0_0 : Own kd_Sseal_note 90 w0 K0 a0_k_0_0 a0_k_0_0v) (h_a0_k_0_1 : Mp kd_a32_u8 (Kd.int .i64) w0 K0 a0_k_0_1 a0_k_0_1v) (h : Calls_VC a0_k_0_0 a0_k_0_1 a0_k_1 Q) : Calls Try.prog 23 #[(.pointer (some ⟨a0_k_b, a0_k_pre.length, none⟩))] w0 (fun e w' => ∃ (K' : Ghost) (r0 : Value) (o0 : Int), e = .returned r0 ∧ Q o0 ∧ Ext NX w0 K0 w' K' ∧ Models w' K' ∧ (Kd.int .i64).V K' o0 r0) := by
  unfold Calls_VC at h
  have hE0 : Ext NX w0 K0 w0 K0 := Ext.refl _ _ _
  refine calls_gen fun R hR => ?_
  refine calls_env (args := [(.pointer (some ⟨a0_k_b, a0_k_pre.length, none⟩))]) Try.func23 rfl (Nat.le_of_ble_eq_true rfl) ?_
  refine WP_seq ?_
  refine WP_region ?_
  refine WL_pure (.int .i64 0) (R_as rfl) rfl rfl ?_
  refine WL_nil ?_
  refine WP_seq ?_
  refine WP_seq ?_
  refine WP_region ?_
  refine WL_pure (.pointer (some ⟨a0_k_b, a0_k_pre.length, none⟩)) (R_mv rfl) rfl rfl ?_
  refine WL_pure (.bool false) (R_peq rfl rfl Try.underlying26) rfl rfl ?_
  refine WL_nil ?_
  refine WP_cond false rfl (fun hc => by cases hc) (fun _ => ?_)
  refine WP_skip ?_
  refine WP_seq ?_
  refine WP_region ?_
  refine WL_pure (.pointer (some ⟨a0_k_b, a0_k_pre.length, none⟩)) (R_mv rfl) rfl rfl ?_
  refine WL_pure (.pointer (some ⟨a0_k_b, a0_k_pre.length, none⟩)) (R_nilck rfl) rfl rfl ?_
  refine WL_pure (.pointer (some ⟨a0_k_b, a0_k_pre.length + 2, none⟩)) (R_fa rfl Try.underlying32 rfl rfl ty3 rfl) rfl rfl ?_
  refine WL_L hM0 (S_ldB (Foc.snd kd_Sseal_notes (Kd.int .i64)) rfl ty3 h_a0_k_B (by first | rfl | simp | omega) (fun h => h)) rfl rfl ?_
  rintro v4 (hV4 : (Kd.int .i64).V _ a0_k_1 _)
  obtain rfl := int_form hV4
  refine WL_pure (.int .i64 a0_k_1) (R_as rfl) rfl rfl ?_
  refine WL_nil ?_
  refine WP_ret ?_
  exact endR_ret hR (v := (.int .i64 a0_k_1)) (resE_1 rfl rfl) ⟨K0, (.int .i64 a0_k_1), a0_k_1, rfl, h, hE0, hM0, (int_V (hV4).wf)⟩
theorem Calls_c {w0 : World} {K0 : Ghost} {a0_k_b : Nat} {a0_k_pre a0_k_post : List Value} {a0_k_0_0v : Value} {a0_k_0_0 : (List ((List UInt8) × (List UInt8)))} {a0_k_0_1v : Value} {a0_k_0_1 : (List ((List UInt8) × Int))} {a0_k_1 : Int} (hM0 : Models w0 K0) (h_a0_k_B : Bx kd_Sseal_Book w0 K0 a0_k_b a0_k_pre a0_k_post ((a0_k_0_0v, a0_k_0_1v), a0_k_1)) (h_a0_k_0_0 : Own kd_Sseal_note 90 w0 K0 a0_k_0_0 a0_k_0_0v) (h_a0_k_0_1 : Mp kd_a32_u8 (Kd.int .i64) w0 K0 a0_k_0_1 a0_k_0_1v) : Calls Try.prog 23 #[(.pointer (some ⟨a0_k_b, a0_k_pre.length, none⟩))] w0 (fun e w' => ∃ (K' : Ghost) (r0 : Value), e = .returned r0 ∧ Ext NX w0 K0 w' K' ∧ Models w' K' ∧ (Kd.int .i64).V K' a0_k_1 r0) := by
  refine (Calls_walk hM0 h_a0_k_B h_a0_k_0_0 h_a0_k_0_1 (Calls_ok)).mono ?_
  rintro _ w' ⟨K', r0, o0, rfl, rfl, hF⟩
  exact ⟨K', r0, rfl, hF⟩
theorem ty30 : TyOk Try.prog 30 kd_Sseal_notes 32 := ⟨⟨Try.t30, _, Try.type30, rfl, rfl, rfl, rfl, rfl⟩, ⟨_, Try.underlying30, rfl⟩⟩
def Note_VC (a0_k_0_0 : (List ((List UInt8) × (List UInt8)))) (a0_k_0_1 : (List ((List UInt8) × Int))) (a0_k_1 : Int) (a1_s : (List UInt8)) (a2_b : (List UInt8)) (Q : (List ((List UInt8) × (List UInt8))) → (List ((List UInt8) × Int)) → Int → Prop) : Prop :=
  (BookInv a0_k_0_0 a0_k_0_1 ∧ a2_b.length ≤ 140737488355328 ∧ (a0_k_0_0.length + 1) * 64 ≤ 140737488355328) ∧ (Q (addL a0_k_0_0 a1_s a2_b) (addM a0_k_0_0 a0_k_0_1 a1_s a2_b) a0_k_1)
theorem Note_ok {a0_k_0_0 : (List ((List UInt8) × (List UInt8)))} {a0_k_0_1 : (List ((List UInt8) × Int))} {a0_k_1 : Int} {a1_s : (List UInt8)} {a2_b : (List UInt8)} (w_0 : kd_a32_u8.wf a1_s) (w_1 : kd_l_u8.wf a2_b) (hp : BookInv a0_k_0_0 a0_k_0_1 ∧ a2_b.length ≤ 140737488355328 ∧ (a0_k_0_0.length + 1) * 64 ≤ 140737488355328) : Note_VC a0_k_0_0 a0_k_0_1 a0_k_1 a1_s a2_b (fun o0 o1 o2 => o0 = (addL a0_k_0_0 a1_s a2_b) ∧ o1 = (addM a0_k_0_0 a0_k_0_1 a1_s a2_b) ∧ o2 = a0_k_1) := by
  exact ⟨hp, rfl, rfl, rfl⟩

theorem Note_walk {w0 : World} {K0 : Ghost} {a0_k_b : Nat} {a0_k_pre a0_k_post : List Value} {a0_k_0_0v : Value} {a0_k_0_0 : (List ((List UInt8) × (List UInt8)))} {a0_k_0_1v : Value} {a0_k_0_1 : (List ((List UInt8) × Int))} {a0_k_1 : Int} {a1_s_v : Value} {a1_s : (List UInt8)} {a2_b_v : Value} {a2_b : (List UInt8)} {Q : (List ((List UInt8) × (List UInt8))) → (List ((List UInt8) × Int)) → Int → Prop} (hM0 : Models w0 K0) (h_a0_k_B : Bx kd_Sseal_Book w0 K0 a0_k_b a0_k_pre a0_k_post ((a0_k_0_0v, a0_k_0_1v), a0_k_1)) (h_a0_k_0_0 : Own kd_Sseal_note 90 w0 K0 a0_k_0_0 a0_k_0_0v) (h_a0_k_0_1 : Mp kd_a32_u8 (Kd.int .i64) w0 K0 a0_k_0_1 a0_k_0_1v) (h_a1_s : kd_a32_u8.V K0 a1_s a1_s_v) (h_a2_b : kd_l_u8.V K0 a2_b a2_b_v) (h : Note_VC a0_k_0_0 a0_k_0_1 a0_k_1 a1_s a2_b Q) : Calls Try.prog 19 #[(.pointer (some ⟨a0_k_b, a0_k_pre.length, none⟩)), a1_s_v, a2_b_v] w0 (fun e w' => ∃ (K' : Ghost) (u0_0_0 : Value) (u0_0_1 : Value) (o0 : (List ((List UInt8) × (List UInt8)))) (o1 : (List ((List UInt8) × Int))) (o2 : Int), e = .returned (.tuple #[]) ∧ Q o0 o1 o2 ∧ Ext (fun c => c = a0_k_b ∨ ob a0_k_0_0v = some c ∨ mb a0_k_0_1v = some c) w0 K0 w' K' ∧ Models w' K' ∧ Bx kd_Sseal_Book w' K' a0_k_b a0_k_pre a0_k_post ((u0_0_0, u0_0_1), o2) ∧ Own kd_Sseal_note 90 w' K' o0 u0_0_0 ∧ (∀ g, ob u0_0_0 = some g → ob a0_k_0_0v = some g ∨ w0.heap.size ≤ g) ∧ Mp kd_a32_u8 (Kd.int .i64) w' K' o1 u0_0_1 ∧ (∀ g, mb u0_0_1 = some g → mb a0_k_0_1v = some g ∨ w0.heap.size ≤ g)) := by
  unfold Note_VC at h
  have hE0 : Ext (fun c => c = a0_k_b ∨ ob a0_k_0_0v = some c ∨ mb a0_k_0_1v = some c) w0 K0 w0 K0 := Ext.refl _ _ _
  refine calls_gen fun R hR => ?_
  refine calls_env (args := [(.pointer (some ⟨a0_k_b, a0_k_pre.length, none⟩)), a1_s_v, a2_b_v]) Try.func19 rfl (Nat.le_of_ble_eq_true rfl) ?_
  refine WP_seq ?_
  refine WP_region ?_
  refine WL_eff rfl rfl (St_B (S_box hM0 rfl h_a1_s) ?_)
  rintro b6 w6 (hB6 : Bx kd_a32_u8 _ _ _ _ _ a1_s) hS6 hM6 hge6
  have hE6 := hE0.andN hS6
  refine WL_nil ?_
  refine WP_seq ?_
  refine WP_region ?_
  refine WL_pure (.pointer (some ⟨a0_k_b, a0_k_pre.length, none⟩)) (R_mv rfl) rfl rfl ?_
  refine WL_pure (.bool true) (R_pne rfl rfl Try.underlying26) rfl rfl ?_
  refine WL_nil ?_
  refine WP_cond true rfl (fun _ => ?_) (fun hc => by cases hc)
  have hR8 := (h_a0_k_B.extN hS6)
  have hR9 := (h_a0_k_0_0.extN hS6)
  have hR10 := (h_a0_k_0_1.extN hS6)
  refine WP_ordD (K := K0) (fun c => c = a0_k_b ∨ ob a0_k_0_0v = some c ∨ mb a0_k_0_1v = some c ∨ w6.heap.size ≤ c) [.o 0 2, .o 1 2, .o 2 2, .o 3 2, .o 4 2, .o 5 1] (by kernel_rfl) (by kernel_rfl) hM6 ?_
  rintro w11 hS11 hM11
  have hE11 := hE6.andN hS11
  refine WO_pure (.pointer (some ⟨a0_k_b, a0_k_pre.length, none⟩)) rfl l0 hM11 (fun _ => R_mv rfl) rfl (gN rfl) rfl ?_
  refine WO_pure (.pointer (some ⟨a0_k_b, a0_k_pre.length, none⟩)) rfl l0 hM11 (fun _ => R_nilck rfl) rfl (gN rfl) rfl ?_
  refine WO_pure (.pointer (some ⟨a0_k_b, a0_k_pre.length + 0, none⟩)) rfl l0 hM11 (fun _ => R_fa rfl Try.underlying32 rfl rfl ty30 rfl) rfl (gN rfl) rfl ?_
  have hR13 := (hB6.extN hS11)
  refine WO_L0 hM11 (S_ldB (Foc.id _) rfl ty23 hR13 (by first | rfl | simp | omega) (fun h => h)) rfl (gN rfl) rfl ?_
  rintro v12 (hV12 : kd_a32_u8.V _ a1_s _)
  refine WO_pure a2_b_v rfl l0 hM11 (fun _ => R_mv rfl) rfl (gN rfl) rfl ?_
  have hR15 := (hR9.extN hS11)
  have hR16 := (hR10.extN hS11)
  have hR17 := (hR8.extN hS11)
  obtain ⟨p19, q19, hl19, hB19, hback19⟩ := Bx.sub (Foc.fst kd_Sseal_notes (Kd.int .i64)) hR17
  obtain ⟨hp20, h⟩ := h
  refine WO_eff rfl (gN rfl) rfl (St_call (R_call Try.call47 (mapC (show (Value.pointer (some ⟨a0_k_b, a0_k_pre.length + 0, none⟩)) = .pointer (some ⟨a0_k_b, ((a0_k_pre : List Value) ++ p19).length, none⟩) from by rw [List.length_append, hl19]; first | done | simp) (mapC rfl (mapC rfl mapN)))) ((add_c hM11 hB19 hR15 hR16 hV12 (h_a2_b.mono (hS6.le.trans hS11.le)) hp20).mono ?_))
  rintro _ w18 ⟨K18, u18_0_0, u18_0_1, rfl, hS18, hM18, hB18_m0, hu18_0_0, hxu18_0_0, hu18_0_1, hxu18_0_1⟩
  refine ⟨(.tuple #[]), rfl, ?_⟩
  refine ⟨K18, (hS18.weak (fun c hlt hx => Or.elim hx (fun hx => (.inl (hx))) (fun hx => Or.elim hx (fun hx => (.inr (.inl (hx)))) (fun hx => (.inr (.inr (.inl (hx)))))))), hM18, ?_⟩
  have hE18 := hE11.comp hS18 (fun c hx hlt => Or.elim hx (fun hx => (by subst hx; exact (fun _ => (.inl rfl)) hlt)) (fun hx => Or.elim hx (fun hx => (fun g hg _ => (.inr (.inl hg))) c hx hlt) (fun hx => (fun g hg _ => (.inr (.inr (hg)))) c hx hlt)))
  have hf21 : ∀ g, ob u18_0_0 = some g → g < w0.heap.size → g = a0_k_b ∨ ob a0_k_0_0v = some g ∨ mb a0_k_0_1v = some g := fun g hg hlt => (hxu18_0_0 g hg).elim (fun hx => (fun g hg _ => (.inr (.inl hg))) g hx hlt) (fun hx => absurd hlt (Nat.not_lt.2 (Nat.le_trans hE11.size hx)))
  have hf22 : ∀ g, mb u18_0_1 = some g → g < w0.heap.size → g = a0_k_b ∨ ob a0_k_0_0v = some g ∨ mb a0_k_0_1v = some g := fun g hg hlt => (hxu18_0_1 g hg).elim (fun hx => (fun g hg _ => (.inr (.inr (hg)))) g hx hlt) (fun hx => absurd hlt (Nat.not_lt.2 (Nat.le_trans hE11.size hx)))
  have hB18_w : Bx kd_Sseal_Book w18 K18 a0_k_b a0_k_pre a0_k_post ((u18_0_0, u18_0_1), a0_k_1) := hback19 hS18.le hB18_m0
  refine WO_nil ?_
  exact endR_nrm hR (v := (.tuple #[])) (resE_0 rfl) ⟨K18, u18_0_0, u18_0_1, (addL a0_k_0_0 a1_s a2_b), (addM a0_k_0_0 a0_k_0_1 a1_s a2_b), a0_k_1, rfl, h, hE18, hM18, hB18_w, hu18_0_0, (fun g hg => ((hxu18_0_0 g hg).elim (fun hz => (.inl hz)) (fun hz => .inr (Nat.le_trans hE11.size hz)))), hu18_0_1, (fun g hg => ((hxu18_0_1 g hg).elim (fun hz => (.inl hz)) (fun hz => .inr (Nat.le_trans hE11.size hz))))⟩
theorem Note_c {w0 : World} {K0 : Ghost} {a0_k_b : Nat} {a0_k_pre a0_k_post : List Value} {a0_k_0_0v : Value} {a0_k_0_0 : (List ((List UInt8) × (List UInt8)))} {a0_k_0_1v : Value} {a0_k_0_1 : (List ((List UInt8) × Int))} {a0_k_1 : Int} {a1_s_v : Value} {a1_s : (List UInt8)} {a2_b_v : Value} {a2_b : (List UInt8)} (hM0 : Models w0 K0) (h_a0_k_B : Bx kd_Sseal_Book w0 K0 a0_k_b a0_k_pre a0_k_post ((a0_k_0_0v, a0_k_0_1v), a0_k_1)) (h_a0_k_0_0 : Own kd_Sseal_note 90 w0 K0 a0_k_0_0 a0_k_0_0v) (h_a0_k_0_1 : Mp kd_a32_u8 (Kd.int .i64) w0 K0 a0_k_0_1 a0_k_0_1v) (h_a1_s : kd_a32_u8.V K0 a1_s a1_s_v) (h_a2_b : kd_l_u8.V K0 a2_b a2_b_v) (hp : BookInv a0_k_0_0 a0_k_0_1 ∧ a2_b.length ≤ 140737488355328 ∧ (a0_k_0_0.length + 1) * 64 ≤ 140737488355328) : Calls Try.prog 19 #[(.pointer (some ⟨a0_k_b, a0_k_pre.length, none⟩)), a1_s_v, a2_b_v] w0 (fun e w' => ∃ (K' : Ghost) (u0_0_0 : Value) (u0_0_1 : Value), e = .returned (.tuple #[]) ∧ Ext (fun c => c = a0_k_b ∨ ob a0_k_0_0v = some c ∨ mb a0_k_0_1v = some c) w0 K0 w' K' ∧ Models w' K' ∧ Bx kd_Sseal_Book w' K' a0_k_b a0_k_pre a0_k_post ((u0_0_0, u0_0_1), a0_k_1) ∧ Own kd_Sseal_note 90 w' K' (addL a0_k_0_0 a1_s a2_b) u0_0_0 ∧ (∀ g, ob u0_0_0 = some g → ob a0_k_0_0v = some g ∨ w0.heap.size ≤ g) ∧ Mp kd_a32_u8 (Kd.int .i64) w' K' (addM a0_k_0_0 a0_k_0_1 a1_s a2_b) u0_0_1 ∧ (∀ g, mb u0_0_1 = some g → mb a0_k_0_1v = some g ∨ w0.heap.size ≤ g)) := by
  refine (Note_walk hM0 h_a0_k_B h_a0_k_0_0 h_a0_k_0_1 h_a1_s h_a2_b (Note_ok h_a1_s.wf h_a2_b.wf hp)).mono ?_
  rintro _ w' ⟨K', u0, u1, o0, o1, o2, rfl, ⟨rfl, rfl, rfl⟩, hF⟩
  exact ⟨K', u0, u1, rfl, hF⟩
def Find_VC (a0_k_0_0 : (List ((List UInt8) × (List UInt8)))) (a0_k_0_1 : (List ((List UInt8) × Int))) (a0_k_1 : Int) (a1_s : (List UInt8)) (Q : (List UInt8) → Bool → Prop) : Prop :=
  ((¬ (((mfind a1_s a0_k_0_1).isSome) = true)) → Q ([] : List UInt8) false) ∧ ((((mfind a1_s a0_k_0_1).isSome) = true) → (0 ≤ ((mfind a1_s a0_k_0_1).getD 0) ∧ ((mfind a1_s a0_k_0_1).getD 0) < (a0_k_0_0.length : Int)) ∧ ((((ix a0_k_0_0 ((mfind a1_s a0_k_0_1).getD 0)).2).length ≤ 140737488355328) ∧ ((kd_l_u8.wf ((ix a0_k_0_0 ((mfind a1_s a0_k_0_1).getD 0)).2)) → (Q ((ix a0_k_0_0 ((mfind a1_s a0_k_0_1).getD 0)).2) true))))
theorem Find_ok {a0_k_0_0 : (List ((List UInt8) × (List UInt8)))} {a0_k_0_1 : (List ((List UInt8) × Int))} {a0_k_1 : Int} {a1_s : (List UInt8)} (w_0 : kd_a32_u8.wf a1_s) (hp : BookInv a0_k_0_0 a0_k_0_1 ∧ ∀ x ∈ a0_k_0_0, x.2.length ≤ 140737488355328) : Find_VC a0_k_0_0 a0_k_0_1 a0_k_1 a1_s (fun o0 o1 => o0 = (noteAt a0_k_0_0 a1_s) ∧ o1 = (firstOf a1_s a0_k_0_0 0).isSome) := by
  obtain ⟨h1, h2⟩ := hp
  unfold Find_VC
  rw [h1 a1_s]
  refine ⟨fun h => ?_, fun h => ?_⟩
  · cases hf : firstOf a1_s a0_k_0_0 0 with
    | none => exact ⟨by simp [noteAt, hf], rfl⟩
    | some a => rw [hf] at h; exact absurd rfl h
  · cases hf : firstOf a1_s a0_k_0_0 0 with
    | none => rw [hf] at h; cases h
    | some a =>
      obtain ⟨j, rfl, hl, -⟩ := firstOf_some hf
      simp only [Option.getD_some]
      refine ⟨⟨by omega, by omega⟩, h2 _ (ix_mem (by omega) (by omega)), fun _ => ⟨by simp [noteAt, hf], rfl⟩⟩

theorem Find_walk {w0 : World} {K0 : Ghost} {a0_k_b : Nat} {a0_k_pre a0_k_post : List Value} {a0_k_0_0v : Value} {a0_k_0_0 : (List ((List UInt8) × (List UInt8)))} {a0_k_0_1v : Value} {a0_k_0_1 : (List ((List UInt8) × Int))} {a0_k_1 : Int} {a1_s_v : Value} {a1_s : (List UInt8)} {Q : (List UInt8) → Bool → Prop} (hM0 : Models w0 K0) (h_a0_k_B : Bx kd_Sseal_Book w0 K0 a0_k_b a0_k_pre a0_k_post ((a0_k_0_0v, a0_k_0_1v), a0_k_1)) (h_a0_k_0_0 : Own kd_Sseal_note 90 w0 K0 a0_k_0_0 a0_k_0_0v) (h_a0_k_0_1 : Mp kd_a32_u8 (Kd.int .i64) w0 K0 a0_k_0_1 a0_k_0_1v) (h_a1_s : kd_a32_u8.V K0 a1_s a1_s_v) (h : Find_VC a0_k_0_0 a0_k_0_1 a0_k_1 a1_s Q) : Calls Try.prog 16 #[(.pointer (some ⟨a0_k_b, a0_k_pre.length, none⟩)), a1_s_v] w0 (fun e w' => ∃ (K' : Ghost) (r0 : Value) (r1 : Value) (o0 : (List UInt8)) (o1 : Bool), e = .returned (.tuple #[r0, r1]) ∧ Q o0 o1 ∧ Ext NX w0 K0 w' K' ∧ Models w' K' ∧ Own Kd.byte 5 w' K' o0 r0 ∧ (∀ g, ob r0 = some g → w0.heap.size ≤ g) ∧ Kd.bool.V K' o1 r1) := by
  unfold Find_VC at h
  have hE0 : Ext NX w0 K0 w0 K0 := Ext.refl _ _ _
  refine calls_gen fun R hR => ?_
  refine calls_env (args := [(.pointer (some ⟨a0_k_b, a0_k_pre.length, none⟩)), a1_s_v]) Try.func16 rfl (Nat.le_of_ble_eq_true rfl) ?_
  refine WP_seq ?_
  refine WP_region ?_
  refine WL_eff rfl rfl (St_B (S_box hM0 rfl h_a1_s) ?_)
  rintro b5 w5 (hB5 : Bx kd_a32_u8 _ _ _ _ _ a1_s) hS5 hM5 hge5
  have hE5 := hE0.andN hS5
  have hR7 : Own Kd.byte 5 w5 K0 ([] : List UInt8) (.slice none 0 0) := Own.nil
  refine WL_pure (.slice none 0 0) (R_as rfl) rfl rfl ?_
  refine WL_pure (.bool false) (R_as rfl) rfl rfl ?_
  refine WL_nil ?_
  refine WP_seq ?_
  refine WP_seq ?_
  refine WP_region ?_
  refine WL_pure (.pointer (some ⟨a0_k_b, a0_k_pre.length, none⟩)) (R_mv rfl) rfl rfl ?_
  refine WL_pure (.bool false) (R_peq rfl rfl Try.underlying26) rfl rfl ?_
  refine WL_nil ?_
  refine WP_cond false rfl (fun hc => by cases hc) (fun _ => ?_)
  refine WP_skip ?_
  refine WP_seq ?_
  refine WP_ordD (K := K0) NX [.o 0 2, .o 1 2, .o 2 2, .o 3 2, .o 4 2, .o 5 2, .o 6 2, .o 7 2, .o 8 2, .o 9 2, .o 10 2, .o 11 2] (by kernel_rfl) (by kernel_rfl) hM5 ?_
  rintro w8 hS8 hM8
  have hE8 := hE5.andN hS8
  refine WO_pure (.pointer (some ⟨a0_k_b, a0_k_pre.length, none⟩)) rfl l0 hM8 (fun _ => R_mv rfl) rfl (gN rfl) rfl ?_
  refine WO_pure (.pointer (some ⟨a0_k_b, a0_k_pre.length, none⟩)) rfl l0 hM8 (fun _ => R_nilck rfl) rfl (gN rfl) rfl ?_
  refine WO_pure (.pointer (some ⟨a0_k_b, a0_k_pre.length + 0, none⟩)) rfl l0 hM8 (fun _ => R_fa rfl Try.underlying32 rfl rfl ty30 rfl) rfl (gN rfl) rfl ?_
  refine WO_pure (.pointer (some ⟨a0_k_b, a0_k_pre.length + 0 + 1, none⟩)) rfl l0 hM8 (fun _ => R_fa rfl Try.underlying30 rfl rfl ty28r rfl) rfl (gN rfl) rfl ?_
  have hR10 := ((h_a0_k_B.extN hS5).extN hS8)
  refine WO_L0 hM8 (S_ldB (Foc.trans (Foc.fst kd_Sseal_notes (Kd.int .i64)) (Foc.snd Kd.rsl Kd.rmp)) rfl ty28r hR10 (by first | rfl | simp | omega) (fun h => h)) rfl (gN rfl) rfl ?_
  rintro v9 (hV9 : Kd.rmp.V _ a0_k_0_1v _)
  obtain rfl := rw_form hV9
  have hR12 := (hB5.extN hS8)
  refine WO_L0 hM8 (S_ldB (Foc.id _) rfl ty23 hR12 (by first | rfl | simp | omega) (fun h => h)) rfl (gN rfl) rfl ?_
  rintro v11 (hV11 : kd_a32_u8.V _ a1_s _)
  have hR15 := ((h_a0_k_0_1.extN hS5).extN hS8)
  refine WO_LK0 hM8 (S_lkp (kv := (Kd.int .i64)) rfl rfl hR15 hV11 Try.underlying28 (keyOk_arr Try.underlying23 Try.underlying5 ty5b) ty3 (fun _ _ h => h)) rfl (gN rfl) rfl ?_
  rintro v14 (hV14 : (Kd.int .i64).V _ ((mfind a1_s a0_k_0_1).getD 0) _)
  obtain rfl := int_form hV14
  refine WO_pure (.tuple #[(.int .i64 ((mfind a1_s a0_k_0_1).getD 0)), (.bool ((mfind a1_s a0_k_0_1).isSome))]) rfl l0 hM8 (fun _ => R_mv rfl) rfl (gN rfl) rfl ?_
  refine WO_pure (.int .i64 ((mfind a1_s a0_k_0_1).getD 0)) rfl l0 hM8 (fun _ => R_ext rfl rfl) rfl (gN rfl) rfl ?_
  refine WO_pure (.bool ((mfind a1_s a0_k_0_1).isSome)) rfl l0 hM8 (fun _ => R_ext rfl rfl) rfl (gN rfl) rfl ?_
  refine WO_pure (.int .i64 ((mfind a1_s a0_k_0_1).getD 0)) rfl l0 hM8 (fun _ => R_as rfl) rfl (gN rfl) rfl ?_
  refine WO_pure (.bool ((mfind a1_s a0_k_0_1).isSome)) rfl l0 hM8 (fun _ => R_as rfl) rfl (gN rfl) rfl ?_
  refine WO_nil ?_
  refine WP_seq ?_
  refine WP_seq ?_
  refine WP_region ?_
  refine WL_pure (.bool ((mfind a1_s a0_k_0_1).isSome)) (R_mv rfl) rfl rfl ?_
  refine WL_pure (.bool (!((mfind a1_s a0_k_0_1).isSome))) (R_not rfl) rfl rfl ?_
  refine WL_nil ?_
  refine WP_cond (!((mfind a1_s a0_k_0_1).isSome)) rfl (fun hc16 => ?_) (fun hc16 => ?_)
  · have hd16 : ¬ (((mfind a1_s a0_k_0_1).isSome) = true) := nbb_t hc16
    have h := h.1 hd16
    refine WP_seq ?_
    refine WP_region ?_
    have hR17 : Own Kd.byte 5 w8 K0 ([] : List UInt8) (.slice none 0 0) := Own.nil
    refine WL_pure (.slice none 0 0) (R_as rfl) rfl rfl ?_
    refine WL_pure (.bool false) (R_as rfl) rfl rfl ?_
    refine WL_nil ?_
    refine WP_ret ?_
    exact endR_ret hR (v := (.tuple #[(.slice none 0 0), (.bool false)])) (resE_2 rfl rfl rfl) ⟨K0, (.slice none 0 0), (.bool false), ([] : List UInt8), false, rfl, h, hE8, hM8, hR17, (fun g hg => nilS hg), bool_V⟩
  · have hd16 : ((mfind a1_s a0_k_0_1).isSome) = true := nbb_f hc16
    have h := h.2 hd16
    refine WP_skip ?_
    refine WP_seq ?_
    refine WP_region ?_
    refine WL_pure (.pointer (some ⟨a0_k_b, a0_k_pre.length, none⟩)) (R_mv rfl) rfl rfl ?_
    refine WL_pure (.pointer (some ⟨a0_k_b, a0_k_pre.length, none⟩)) (R_nilck rfl) rfl rfl ?_
    refine WL_pure (.pointer (some ⟨a0_k_b, a0_k_pre.length + 0, none⟩)) (R_fa rfl Try.underlying32 rfl rfl ty30 rfl) rfl rfl ?_
    refine WL_pure (.pointer (some ⟨a0_k_b, a0_k_pre.length + 0 + 0, none⟩)) (R_fa rfl Try.underlying30 rfl rfl ty27r rfl) rfl rfl ?_
    refine WL_L hM8 (S_ldB (Foc.trans (Foc.fst kd_Sseal_notes (Kd.int .i64)) (Foc.fst Kd.rsl Kd.rmp)) rfl ty27r hR10 (by first | rfl | simp | omega) (fun h => h)) rfl rfl ?_
    rintro v18 (hV18 : Kd.rsl.V _ a0_k_0_0v _)
    obtain rfl := rw_form hV18
    refine WL_pure (.int .i64 ((mfind a1_s a0_k_0_1).getD 0)) (R_mv rfl) rfl rfl ?_
    obtain ⟨hp20, h⟩ := h
    refine WL_P (S_ixs rfl (h_a0_k_0_0.V.mono (hS5.le.trans hS8.le)) rfl Try.underlying27 ty90 hp20.1 hp20.2) rfl rfl ?_
    rintro b19 o19 hP19
    have hP22 := Kd.Pt.foc (Foc.snd kd_a32_u8 kd_l_u8) hP19
    refine WL_pure (.pointer (some ⟨b19, o19 + 32, none⟩)) (R_fa rfl Try.underlying90 rfl rfl ty39 rfl) rfl rfl ?_
    refine WL_L hM8 (S_ld rfl ty39 hP22) rfl rfl ?_
    rintro v24 (hV24 : kd_l_u8.V _ ((ix a0_k_0_0 ((mfind a1_s a0_k_0_1).getD 0)).2) _)
    have hR26 := ((h_a0_k_0_0.extN hS5).extN hS8)
    have hR27 := (hR7.extN hS8)
    obtain ⟨hp29, h⟩ := h
    refine WL_eff rfl rfl (St_call (R_call Try.call46 rfl) ((Clone_c hM8 hV24 hp29).mono ?_))
    rintro _ w28 ⟨K28, v28_0, rfl, hS28, hM28, hO28_0, hg28_0⟩
    refine ⟨v28_0, rfl, ?_⟩
    have hE28 := hE8.andN hS28
    have h := h hO28_0.wf
    refine WL_pure v28_0 (R_as rfl) rfl rfl ?_
    refine WL_pure (.bool true) (R_as rfl) rfl rfl ?_
    refine WL_nil ?_
    refine WP_ret ?_
    exact endR_ret hR (v := (.tuple #[v28_0, (.bool true)])) (resE_2 rfl rfl rfl) ⟨K28, v28_0, (.bool true), ((ix a0_k_0_0 ((mfind a1_s a0_k_0_1).getD 0)).2), true, rfl, h, hE28, hM28, hO28_0, (fun g hg => Nat.le_trans hE8.size (hg28_0 g hg)), bool_V⟩
theorem Find_c {w0 : World} {K0 : Ghost} {a0_k_b : Nat} {a0_k_pre a0_k_post : List Value} {a0_k_0_0v : Value} {a0_k_0_0 : (List ((List UInt8) × (List UInt8)))} {a0_k_0_1v : Value} {a0_k_0_1 : (List ((List UInt8) × Int))} {a0_k_1 : Int} {a1_s_v : Value} {a1_s : (List UInt8)} (hM0 : Models w0 K0) (h_a0_k_B : Bx kd_Sseal_Book w0 K0 a0_k_b a0_k_pre a0_k_post ((a0_k_0_0v, a0_k_0_1v), a0_k_1)) (h_a0_k_0_0 : Own kd_Sseal_note 90 w0 K0 a0_k_0_0 a0_k_0_0v) (h_a0_k_0_1 : Mp kd_a32_u8 (Kd.int .i64) w0 K0 a0_k_0_1 a0_k_0_1v) (h_a1_s : kd_a32_u8.V K0 a1_s a1_s_v) (hp : BookInv a0_k_0_0 a0_k_0_1 ∧ ∀ x ∈ a0_k_0_0, x.2.length ≤ 140737488355328) : Calls Try.prog 16 #[(.pointer (some ⟨a0_k_b, a0_k_pre.length, none⟩)), a1_s_v] w0 (fun e w' => ∃ (K' : Ghost) (r0 : Value) (r1 : Value), e = .returned (.tuple #[r0, r1]) ∧ Ext NX w0 K0 w' K' ∧ Models w' K' ∧ Own Kd.byte 5 w' K' (noteAt a0_k_0_0 a1_s) r0 ∧ (∀ g, ob r0 = some g → w0.heap.size ≤ g) ∧ Kd.bool.V K' ((firstOf a1_s a0_k_0_0 0).isSome) r1) := by
  refine (Find_walk hM0 h_a0_k_B h_a0_k_0_0 h_a0_k_0_1 h_a1_s (Find_ok h_a1_s.wf hp)).mono ?_
  rintro _ w' ⟨K', r0, r1, o0, o1, rfl, ⟨rfl, rfl⟩, hF⟩
  exact ⟨K', r0, r1, rfl, hF⟩
def AllNotes_VC (a0_k_0_0 : (List ((List UInt8) × (List UInt8)))) (a0_k_0_1 : (List ((List UInt8) × Int))) (a0_k_1 : Int) (Q : (List (List UInt8)) → Prop) : Prop :=
  ∃ (I7 : (List (List UInt8)) → Int → Prop) (μ7 : (List (List UInt8)) → Int → Nat), I7 ([] : List (List UInt8)) 0 ∧ ∀ (out7 : (List (List UInt8))) (i7 : Int), I7 out7 i7 → (kd_l_l_u8.wf out7) → ((Kd.int .i64).wf i7) → (((i7 < (a0_k_0_0.length : Int)) → (0 ≤ i7 ∧ i7 < (a0_k_0_0.length : Int)) ∧ ((((ix a0_k_0_0 i7).2).length ≤ 140737488355328) ∧ ((kd_l_u8.wf ((ix a0_k_0_0 i7).2)) → (((out7.length + [((ix a0_k_0_0 i7).2)].length) * 24 ≤ 140737488355328) ∧ (I7 (out7 ++ [((ix a0_k_0_0 i7).2)]) (i7 + 1) ∧ μ7 (out7 ++ [((ix a0_k_0_0 i7).2)]) (i7 + 1) < μ7 out7 i7))))) ∧ ((¬ (i7 < (a0_k_0_0.length : Int))) → Q out7))
theorem AllNotes_ok {a0_k_0_0 : (List ((List UInt8) × (List UInt8)))} {a0_k_0_1 : (List ((List UInt8) × Int))} {a0_k_1 : Int} (hp : a0_k_0_0.length * 24 ≤ 140737488355328 ∧ ∀ x ∈ a0_k_0_0, x.2.length ≤ 140737488355328) : AllNotes_VC a0_k_0_0 a0_k_0_1 a0_k_1 (fun o0 => o0 = (a0_k_0_0.map Prod.snd)) := by
  obtain ⟨h1, h2⟩ := hp
  unfold AllNotes_VC
  refine ⟨fun out i => ∃ j : Nat, i = (j : Int) ∧ j ≤ a0_k_0_0.length ∧ out = (a0_k_0_0.take j).map Prod.snd, fun _ i => a0_k_0_0.length - i.toNat, ⟨0, rfl, by omega, rfl⟩, ?_⟩
  rintro out i ⟨j, rfl, hj, rfl⟩ _ _
  refine ⟨fun hlt => ⟨⟨by omega, hlt⟩, h2 _ (ix_mem (by omega) hlt), fun _ => ⟨?_, ⟨j + 1, by omega, by omega, ?_⟩, ?_⟩⟩, fun hge => ?_⟩
  · simp only [List.length_map, List.length_take, List.length_cons, List.length_nil]
    omega
  · rw [take_step hlt]
    simp
  · show a0_k_0_0.length - ((j : Int) + 1).toNat < a0_k_0_0.length - (j : Int).toNat
    omega
  · have : j = a0_k_0_0.length := by omega
    subst this
    rw [List.take_length]

theorem AllNotes_walk {w0 : World} {K0 : Ghost} {a0_k_b : Nat} {a0_k_pre a0_k_post : List Value} {a0_k_0_0v : Value} {a0_k_0_0 : (List ((List UInt8) × (List UInt8)))} {a0_k_0_1v : Value} {a0_k_0_1 : (List ((List UInt8) × Int))} {a0_k_1 : Int} {Q : (List (List UInt8)) → Prop} (hM0 : Models w0 K0) (h_a0_k_B : Bx kd_Sseal_Book w0 K0 a0_k_b a0_k_pre a0_k_post ((a0_k_0_0v, a0_k_0_1v), a0_k_1)) (h_a0_k_0_0 : Own kd_Sseal_note 90 w0 K0 a0_k_0_0 a0_k_0_0v) (h_a0_k_0_1 : Mp kd_a32_u8 (Kd.int .i64) w0 K0 a0_k_0_1 a0_k_0_1v) (h : AllNotes_VC a0_k_0_0 a0_k_0_1 a0_k_1 Q) : Calls Try.prog 24 #[(.pointer (some ⟨a0_k_b, a0_k_pre.length, none⟩))] w0 (fun e w' => ∃ (K' : Ghost) (r0 : Value) (o0 : (List (List UInt8))), e = .returned r0 ∧ Q o0 ∧ Ext NX w0 K0 w' K' ∧ Models w' K' ∧ Own kd_l_u8 39 w' K' o0 r0 ∧ (∀ g, ob r0 = some g → w0.heap.size ≤ g)) := by
  unfold AllNotes_VC at h
  have hE0 : Ext NX w0 K0 w0 K0 := Ext.refl _ _ _
  refine calls_gen fun R hR => ?_
  refine calls_env (args := [(.pointer (some ⟨a0_k_b, a0_k_pre.length, none⟩))]) Try.func24 rfl (Nat.le_of_ble_eq_true rfl) ?_
  refine WP_seq ?_
  refine WP_region ?_
  have hR4 : Own kd_l_u8 39 w0 K0 ([] : List (List UInt8)) (.slice none 0 0) := Own.nil
  refine WL_pure (.slice none 0 0) (R_as rfl) rfl rfl ?_
  refine WL_nil ?_
  refine WP_seq ?_
  refine WP_seq ?_
  refine WP_region ?_
  refine WL_pure (.pointer (some ⟨a0_k_b, a0_k_pre.length, none⟩)) (R_mv rfl) rfl rfl ?_
  refine WL_pure (.bool false) (R_peq rfl rfl Try.underlying26) rfl rfl ?_
  refine WL_nil ?_
  refine WP_cond false rfl (fun hc => by cases hc) (fun _ => ?_)
  refine WP_skip ?_
  refine WP_seq ?_
  refine WP_region ?_
  have hR5 : Own kd_l_u8 39 w0 K0 ([] : List (List UInt8)) (.slice none 0 0) := Own.nil
  refine WL_pure (.slice none 0 0) (R_as rfl) rfl rfl ?_
  refine WL_nil ?_
  refine WP_seq ?_
  refine WP_seq ?_
  refine WP_region ?_
  refine WL_pure (.pointer (some ⟨a0_k_b, a0_k_pre.length, none⟩)) (R_mv rfl) rfl rfl ?_
  refine WL_pure (.pointer (some ⟨a0_k_b, a0_k_pre.length, none⟩)) (R_nilck rfl) rfl rfl ?_
  refine WL_pure (.pointer (some ⟨a0_k_b, a0_k_pre.length + 0, none⟩)) (R_fa rfl Try.underlying32 rfl rfl ty30 rfl) rfl rfl ?_
  refine WL_pure (.pointer (some ⟨a0_k_b, a0_k_pre.length + 0 + 0, none⟩)) (R_fa rfl Try.underlying30 rfl rfl ty27r rfl) rfl rfl ?_
  refine WL_L hM0 (S_ldB (Foc.trans (Foc.fst kd_Sseal_notes (Kd.int .i64)) (Foc.fst Kd.rsl Kd.rmp)) rfl ty27r h_a0_k_B (by first | rfl | simp | omega) (fun h => h)) rfl rfl ?_
  rintro v6 (hV6 : Kd.rsl.V _ a0_k_0_0v _)
  obtain rfl := rw_form hV6
  refine WL_pure (.int .i64 (a0_k_0_0.length : Int)) (R_len rfl h_a0_k_0_0.V Try.underlying27) rfl rfl ?_
  refine WL_pure (.int .i64 0) (R_mv rfl) rfl rfl ?_
  refine WL_nil ?_
  refine WP_block ?_
  obtain ⟨I7, μ7, h0, h⟩ := h
  refine WP_loopE (ι := (List (List UInt8)) × Int) [3, 5, 14, 15, 16, 17, 18, 19, 20, 21, 22, 23, 24] (fun s l w => ∃ K u3, I7 s.1 s.2 ∧ l = [(3, u3), (14, (.int .i64 s.2))] ∧ Ext (fun c => ob (.slice none 0 0) = some c) w0 K0 w K ∧ Models w K ∧ (Kd.int .i64).wf s.2 ∧ Own kd_l_u8 39 w K s.1 u3 ∧ (∀ g, ob u3 = some g → ob (.slice none 0 0) = some g ∨ w0.heap.size ≤ g)) (fun s => μ7 s.1 s.2) (([] : List (List UInt8)), 0) [(3, (.slice none 0 0)), (14, (.int .i64 0))]
    ⟨K0, (.slice none 0 0), h0, rfl, Ext.refl _ _ _, hM0, (show (Kd.int .i64).wf 0 from by constructor <;> decide), hR5, (fun g hg => .inr (nilS hg))⟩ (by repeat (first | exact trivial | refine ⟨rfl, ?_⟩)) ?_
  rintro ⟨out7, i7⟩ l σ7 w8 ⟨K8, u3_7, hI, rfl, hX8, hM8, hw7_14, hL7_u3, ho7_u3⟩
  dsimp only at hI hw7_14 hL7_u3 ho7_u3
  have hE8 := hE0.comp hX8 (fun c hx hlt => (fun g hg _ => nilS hg) c hx hlt)
  have hR9 := (hR4.ext hX8 (fun g hg hx => (fun g hg hx => (fun g hg _ => nilS hg) g hx hg) g hg hx))
  have h := h out7 i7 hI hL7_u3.wf hw7_14
  refine WP_seq ?_
  refine WP_region ?_
  refine WL_pure (.bool (decide (i7 < (a0_k_0_0.length : Int)))) (R_lss rfl rfl) rfl rfl ?_
  refine WL_nil ?_
  refine WP_seq ?_
  refine WP_cond (decide (i7 < (a0_k_0_0.length : Int))) rfl (fun hc10 => ?_) (fun hc10 => ?_)
  · have hd10 : i7 < (a0_k_0_0.length : Int) := dec_t hc10
    have h := h.1 hd10
    refine WP_skip ?_
    refine WP_seq ?_
    refine WP_block ?_
    refine WP_seq ?_
    refine WP_region ?_
    obtain ⟨hp12, h⟩ := h
    refine WL_P (S_ixs rfl (h_a0_k_0_0.V.mono hX8.le) rfl Try.underlying27 ty90 hp12.1 hp12.2) rfl rfl ?_
    rintro b11 o11 hP11
    refine WL_L hM8 (S_ld rfl ty90 hP11) rfl rfl ?_
    rintro v14 (hV14 : kd_Sseal_note.V _ (ix a0_k_0_0 i7) _)
    refine WL_eff rfl rfl (St_B (S_alloc hM8 ty90) ?_)
    rintro b16 w16 (hB16 : Bx kd_Sseal_note _ _ _ _ _ ((List.replicate 32 0), ([] : List UInt8))) hS16 hM16 hge16
    have hE16 := hE8.andN hS16
    have hR18 := (h_a0_k_B.ext hX8 (fun hx => (hR5.box h_a0_k_B) hx))
    refine WL_eff rfl rfl (St_St (S_stB (Foc.id _) hM16 rfl rfl (hV14.mono hS16.le) ty90 hB16 (by first | rfl | simp | omega)) ?_)
    rintro w19 (hB19 : Bx kd_Sseal_note _ _ b16 [] [] (ix a0_k_0_0 i7)) hS19 hM19
    have hE19 := hE16.comp hS19 (fun c hx hlt => (by subst hx; exact (fun hlt => absurd hlt (Nat.not_lt.2 (Nat.le_trans hE8.size hge16))) hlt))
    refine WL_nil ?_
    refine WP_region ?_
    refine WL_pure u3_7 (R_mv rfl) rfl rfl ?_
    refine WL_pure (.pointer (some ⟨b16, 0 + 32, none⟩)) (R_fa rfl Try.underlying90 rfl rfl ty39 rfl) rfl rfl ?_
    refine WL_L hM19 (S_ldB (Foc.snd kd_a32_u8 kd_l_u8) rfl ty39 hB19 (by first | rfl | simp | omega) (fun h => h)) rfl rfl ?_
    rintro v20 (hV20 : kd_l_u8.V _ ((ix a0_k_0_0 i7).2) _)
    have hR22 := ((h_a0_k_0_0.ext hX8 (fun g hg hx => (Own.ne_type h_a0_k_0_0 hR5 (by decide)) g hg hx)).extN hS16)
    have hR23 := (hR22.ext hS19 (fun g hg hx => (fun g hg hx => hR22.box hB16 (hg.trans (congrArg some hx))) g hg hx))
    have hR24 := ((h_a0_k_0_1.ext hX8 (fun g hg hx => (fun g hg hx => h_a0_k_0_1.own hR5 g hx hg) g hg hx)).extN hS16)
    have hR25 := (hR24.ext hS19 (fun g hg hx => (fun g hg hx => hR24.box hB16 (hg.trans (congrArg some hx))) g hg hx))
    have hR26 := ((h_a0_k_B.ext hX8 (fun hx => (hR5.box h_a0_k_B) hx)).extN hS16)
    have hR27 := (hR26.ext hS19 (fun hx => (fun he => (ne_new hge16 hR18.lt) he.symm) hx))
    have hR28 := (hR9.extN hS16)
    have hR29 := (hR28.ext hS19 (fun g hg hx => (fun g hg hx => hR28.box hB16 (hg.trans (congrArg some hx))) g hg hx))
    have hR30 := (hL7_u3.extN hS16)
    have hR31 := (hR30.ext hS19 (fun g hg hx => (fun g hg hx => hR30.box hB16 (hg.trans (congrArg some hx))) g hg hx))
    obtain ⟨hp33, h⟩ := h
    refine WL_eff rfl rfl (St_call (R_call Try.call46 rfl) ((Clone_c hM19 hV20 hp33).mono ?_))
    rintro _ w32 ⟨K32, v32_0, rfl, hS32, hM32, hO32_0, hg32_0⟩
    refine ⟨v32_0, rfl, ?_⟩
    have hE32 := hE19.andN hS32
    have h := h hO32_0.wf
    refine WL_eff rfl rfl (St_S0 (S_bsl (k := kd_l_u8) (l := [(((ix a0_k_0_0 i7).2), v32_0)]) hM32 rfl (by intro p hp; simp only [List.mem_cons, List.not_mem_nil, or_false] at hp; subst hp; exact hO32_0.V) rfl Try.underlying38 ty39 rfl rfl) ?_)
    rintro v35 w35 K35 (hO35 : Own kd_l_u8 39 w35 K35 [((ix a0_k_0_0 i7).2)] v35) hS35 hM35 hg35
    have hE35 := hE32.andN hS35
    have hR37 := (hR29.extN hS32)
    have hR38 := (hR31.extN hS32)
    have hR39 := ((hR31.extN hS32).extN hS35)
    obtain ⟨hp41, h⟩ := h
    refine WL_eff rfl rfl (St_S (S_app hM35 rfl hR39 rfl hO35.V Try.underlying38 ty39 rfl hp41) ?_)
    rintro v40 w40 K40 hO40 hS40 hM40 hob40
    have hE40 := hE35.comp hS40 (fun c hx hlt => (fun g hg hlt => absurd hlt (Nat.not_lt.2 ((fun g hg => (ho7_u3 g hg).elim (fun hx => (fun g hg => nilS hg) g hx) (fun hx => Nat.le_trans hE0.size hx)) g hg))) c hx hlt)
    have hR42 := ((hR29.extN hS32).extN hS35)
    have hR43 := (hR42.ext hS40 (fun g hg hx => (fun g hg hx => (fun g hg hy => (ho7_u3 g hg).elim (fun hz => (fun g hg _ => nilS hg) g hz hy) (fun hz => absurd (hR4.lt _ hy) (Nat.not_lt.2 hz))) g hx hg) g hg hx))
    have hR44 := (hO35.ext hS40 (fun g hg hx => (fun g hg hx => absurd (hR38.lt _ hx) (Nat.not_lt.2 (hg35 g hg))) g hg hx))
    have hf40 : ∀ g, ob v40 = some g → w0.heap.size ≤ g := fun g hg => by rcases hob40 with hq | hq <;> rw [hq] at hg; exact (fun g hg => (ho7_u3 g hg).elim (fun hx => (fun g hg => nilS hg) g hx) (fun hx => Nat.le_trans hE0.size hx)) g hg; cases hg; exact hE35.size
    have hs46 : ∀ g, ob v40 = some g → ¬ (ob v35 = some g) := fun g hg hx => by rcases hob40 with hq | hq <;> rw [hq] at hg; exact (fun g hg hx => (fun g hg hx => absurd (hR38.lt _ hx) (Nat.not_lt.2 (hg35 g hg))) g hx hg) g hg hx; cases hg; exact absurd (hO35.lt _ hx) (Nat.not_lt.2 (Nat.le_refl _))
    refine WL_pure v40 (R_as rfl) rfl rfl ?_
    refine WL_nil ?_
    refine WP_region ?_
    refine WL_pure (.int .i64 (i7 + 1)) (R_inc rfl rfl hw7_14 hd10 (len_wf ((h_a0_k_0_0).V).wf.1)) rfl rfl ?_
    refine WL_pure (.int .i64 (i7 + 1)) (R_mv rfl) rfl rfl ?_
    refine WL_nil ?_
    refine BackQ.mk ((out7 ++ [((ix a0_k_0_0 i7).2)]), (i7 + 1)) [(3, v40), (14, (.int .i64 (i7 + 1)))] ?_ ?_ ?_ ?_
    rotate_left
    · exact h.2
    · repeat (first | exact Off.lay0 rfl | refine Off.updO ?_ rfl _ | refine Off.updN ?_ _ | refine Off.lay ?_ rfl)
    · repeat (first | exact trivial | refine ⟨rfl, ?_⟩)
    exact ⟨K40, v40, h.1, rfl, (((((((Ext.refl _ _ _).comp hX8 (fun c hx hlt => (absurd hlt (Nat.not_lt.2 (nilS hx))))).andN hS16).comp hS19 (fun c hx hlt => (by subst hx; exact absurd hlt (Nat.not_lt.2 (Nat.le_trans hE8.size hge16))))).andN hS32).andN hS35).comp hS40 (fun c hx hlt => (absurd hlt (Nat.not_lt.2 ((ho7_u3 c hx).elim (fun hz => (nilS hz)) (fun hz => (Nat.le_trans (Nat.le_refl _) hz))))))), hM40, (inc_wf hw7_14 hd10 (len_wf ((h_a0_k_0_0).V).wf.1)), hO40, (fun g hg => .inr (by have hg : ob v40 = some g := hg; rcases hob40 with hq | hq <;> rw [hq] at hg; exact ((ho7_u3 g hg).elim (fun hz => (nilS hz)) (fun hz => (Nat.le_trans (Nat.le_refl _) hz))); cases hg; exact hE35.size))⟩
  · have hd10 : ¬ (i7 < (a0_k_0_0.length : Int)) := dec_f hc10
    have h := h.2 hd10
    refine WP_exit ?_
    refine WP_seq ?_
    refine WP_region ?_
    refine WL_pure u3_7 (R_mv rfl) rfl rfl ?_
    refine WL_pure u3_7 (R_as rfl) rfl rfl ?_
    refine WL_nil ?_
    refine WP_ret ?_
    exact endR_ret hR (v := u3_7) (resE_1 rfl rfl) ⟨K8, u3_7, out7, rfl, h, hE8, hM8, hL7_u3, (fun g hg => (ho7_u3 g hg).elim (fun hx => (fun g hg => nilS hg) g hx) (fun hx => Nat.le_trans hE0.size hx))⟩
theorem AllNotes_c {w0 : World} {K0 : Ghost} {a0_k_b : Nat} {a0_k_pre a0_k_post : List Value} {a0_k_0_0v : Value} {a0_k_0_0 : (List ((List UInt8) × (List UInt8)))} {a0_k_0_1v : Value} {a0_k_0_1 : (List ((List UInt8) × Int))} {a0_k_1 : Int} (hM0 : Models w0 K0) (h_a0_k_B : Bx kd_Sseal_Book w0 K0 a0_k_b a0_k_pre a0_k_post ((a0_k_0_0v, a0_k_0_1v), a0_k_1)) (h_a0_k_0_0 : Own kd_Sseal_note 90 w0 K0 a0_k_0_0 a0_k_0_0v) (h_a0_k_0_1 : Mp kd_a32_u8 (Kd.int .i64) w0 K0 a0_k_0_1 a0_k_0_1v) (hp : a0_k_0_0.length * 24 ≤ 140737488355328 ∧ ∀ x ∈ a0_k_0_0, x.2.length ≤ 140737488355328) : Calls Try.prog 24 #[(.pointer (some ⟨a0_k_b, a0_k_pre.length, none⟩))] w0 (fun e w' => ∃ (K' : Ghost) (r0 : Value), e = .returned r0 ∧ Ext NX w0 K0 w' K' ∧ Models w' K' ∧ Own kd_l_u8 39 w' K' (a0_k_0_0.map Prod.snd) r0 ∧ (∀ g, ob r0 = some g → w0.heap.size ≤ g)) := by
  refine (AllNotes_walk hM0 h_a0_k_B h_a0_k_0_0 h_a0_k_0_1 (AllNotes_ok hp)).mono ?_
  rintro _ w' ⟨K', r0, o0, rfl, rfl, hF⟩
  exact ⟨K', r0, rfl, hF⟩
abbrev BookR := BookE 90
def OfB_VC (a0_k_0_0 : (List ((List UInt8) × (List UInt8)))) (a0_k_0_1 : (List ((List UInt8) × Int))) (a0_k_1 : Int) (a1_kind : Int) (a2_parts : (List (List UInt8))) (Q : (List UInt8) → (List ((List UInt8) × (List UInt8))) → (List ((List UInt8) × Int)) → Int → Prop) : Prop :=
  (1 + blobRoom a2_parts ≤ 140737488355328) ∧ ((kd_l_u8.wf (preimage a1_kind a2_parts)) → (((1 + [(preimage a1_kind a2_parts)].length) * 24 ≤ 140737488355328 ∧ [(preimage a1_kind a2_parts)].flatten.length ≤ 140737488355328) ∧ ((kd_a32_u8.wf (sha256 [(preimage a1_kind a2_parts)])) → ((BookInv a0_k_0_0 a0_k_0_1 ∧ (preimage a1_kind a2_parts).length ≤ 140737488355328 ∧ (a0_k_0_0.length + 1) * 64 ≤ 140737488355328) ∧ (Q (sha256 [(preimage a1_kind a2_parts)]) (addL a0_k_0_0 (sha256 [(preimage a1_kind a2_parts)]) (preimage a1_kind a2_parts)) (addM a0_k_0_0 a0_k_0_1 (sha256 [(preimage a1_kind a2_parts)]) (preimage a1_kind a2_parts)) (IntKind.i64.wrap (a0_k_1 + 1)))))))
theorem OfB_ok {a0_k_0_0 : (List ((List UInt8) × (List UInt8)))} {a0_k_0_1 : (List ((List UInt8) × Int))} {a0_k_1 : Int} {a1_kind : Int} {a2_parts : (List (List UInt8))} (w_0 : (Kd.int .i64).wf a1_kind) (w_1 : kd_l_l_u8.wf a2_parts) (hp : BookInv a0_k_0_0 a0_k_0_1 ∧ 1 + blobRoom a2_parts ≤ 140737488355328 ∧ (a0_k_0_0.length + 1) * 64 ≤ 140737488355328) : OfB_VC a0_k_0_0 a0_k_0_1 a0_k_1 a1_kind a2_parts (fun o0 o1 o2 o3 => o0 = (sealOf a1_kind a2_parts) ∧ o1 = (addL a0_k_0_0 (sealOf a1_kind a2_parts) (preimage a1_kind a2_parts)) ∧ o2 = (addM a0_k_0_0 a0_k_0_1 (sealOf a1_kind a2_parts) (preimage a1_kind a2_parts)) ∧ o3 = (IntKind.i64.wrap (a0_k_1 + 1))) := by
  obtain ⟨h1, h2, h3⟩ := hp
  have hl := preimage_len a1_kind h2
  unfold OfB_VC
  exact ⟨h2, fun _ => ⟨⟨by simp, by simpa using by omega⟩, fun _ => ⟨⟨h1, by omega, h3⟩, rfl, rfl, rfl, rfl⟩⟩⟩

theorem OfB_walk {w0 : World} {K0 : Ghost} {a0_k_b : Nat} {a0_k_pre a0_k_post : List Value} {a0_k_0_0v : Value} {a0_k_0_0 : (List ((List UInt8) × (List UInt8)))} {a0_k_0_1v : Value} {a0_k_0_1 : (List ((List UInt8) × Int))} {a0_k_1 : Int} {a1_kind_v : Value} {a1_kind : Int} {a2_parts_v : Value} {a2_parts : (List (List UInt8))} {Q : (List UInt8) → (List ((List UInt8) × (List UInt8))) → (List ((List UInt8) × Int)) → Int → Prop} (hM0 : Models w0 K0) (h_a0_k_B : Bx kd_Sseal_Book w0 K0 a0_k_b a0_k_pre a0_k_post ((a0_k_0_0v, a0_k_0_1v), a0_k_1)) (h_a0_k_0_0 : Own kd_Sseal_note 90 w0 K0 a0_k_0_0 a0_k_0_0v) (h_a0_k_0_1 : Mp kd_a32_u8 (Kd.int .i64) w0 K0 a0_k_0_1 a0_k_0_1v) (h_a1_kind : (Kd.int .i64).V K0 a1_kind a1_kind_v) (h_a2_parts : kd_l_l_u8.V K0 a2_parts a2_parts_v) (h : OfB_VC a0_k_0_0 a0_k_0_1 a0_k_1 a1_kind a2_parts Q) : Calls Try.prog 21 #[(.pointer (some ⟨a0_k_b, a0_k_pre.length, none⟩)), a1_kind_v, a2_parts_v] w0 (fun e w' => ∃ (K' : Ghost) (r0 : Value) (u0_0_0 : Value) (u0_0_1 : Value) (o0 : (List UInt8)) (o1 : (List ((List UInt8) × (List UInt8)))) (o2 : (List ((List UInt8) × Int))) (o3 : Int), e = .returned r0 ∧ Q o0 o1 o2 o3 ∧ Ext (fun c => c = a0_k_b ∨ ob a0_k_0_0v = some c ∨ mb a0_k_0_1v = some c) w0 K0 w' K' ∧ Models w' K' ∧ kd_a32_u8.V K' o0 r0 ∧ Bx kd_Sseal_Book w' K' a0_k_b a0_k_pre a0_k_post ((u0_0_0, u0_0_1), o3) ∧ Own kd_Sseal_note 90 w' K' o1 u0_0_0 ∧ (∀ g, ob u0_0_0 = some g → ob a0_k_0_0v = some g ∨ w0.heap.size ≤ g) ∧ Mp kd_a32_u8 (Kd.int .i64) w' K' o2 u0_0_1 ∧ (∀ g, mb u0_0_1 = some g → mb a0_k_0_1v = some g ∨ w0.heap.size ≤ g)) := by
  unfold OfB_VC at h
  obtain rfl := int_form h_a1_kind
  have hE0 : Ext (fun c => c = a0_k_b ∨ ob a0_k_0_0v = some c ∨ mb a0_k_0_1v = some c) w0 K0 w0 K0 := Ext.refl _ _ _
  refine calls_gen fun R hR => ?_
  refine calls_env (args := [(.pointer (some ⟨a0_k_b, a0_k_pre.length, none⟩)), (.int .i64 a1_kind), a2_parts_v]) Try.func21 rfl (Nat.le_of_ble_eq_true rfl) ?_
  refine WP_seq ?_
  refine WP_region ?_
  refine WL_eff rfl rfl (St_B (S_alloc hM0 ty23) ?_)
  rintro b5 w5 (hB5 : Bx kd_a32_u8 _ _ _ _ _ (List.replicate 32 0)) hS5 hM5 hge5
  have hE5 := hE0.andN hS5
  refine WL_nil ?_
  refine WP_seq ?_
  refine WP_region ?_
  refine WL_pure (.int .i64 a1_kind) (R_mv rfl) rfl rfl ?_
  refine WL_pure a2_parts_v (R_mv rfl) rfl rfl ?_
  have hR7 := (h_a0_k_0_0.extN hS5)
  have hR8 := (h_a0_k_0_1.extN hS5)
  have hR9 := (h_a0_k_B.extN hS5)
  obtain ⟨hp11, h⟩ := h
  refine WL_eff rfl rfl (St_call (R_call Try.call26 rfl) ((Preimage_c hM5 (int_V (h_a1_kind).wf) (h_a2_parts.mono hS5.le) hp11).mono ?_))
  rintro _ w10 ⟨K10, v10_0, rfl, hS10, hM10, hO10_0, hg10_0⟩
  refine ⟨v10_0, rfl, ?_⟩
  have hE10 := hE5.andN hS10
  have h := h hO10_0.wf
  refine WL_pure v10_0 (R_as rfl) rfl rfl ?_
  refine WL_nil ?_
  refine WP_seq ?_
  refine WP_region ?_
  refine WL_pure v10_0 (R_mv rfl) rfl rfl ?_
  refine WL_eff rfl rfl (St_S0 (S_bsl (k := kd_l_u8) (l := [((preimage a1_kind a2_parts), v10_0)]) hM10 rfl (by intro p hp; simp only [List.mem_cons, List.not_mem_nil, or_false] at hp; subst hp; exact hO10_0.V) rfl Try.underlying38 ty39 rfl rfl) ?_)
  rintro v13 w13 K13 (hO13 : Own kd_l_u8 39 w13 K13 [(preimage a1_kind a2_parts)] v13) hS13 hM13 hg13
  have hE13 := hE10.andN hS13
  obtain ⟨hp16, h⟩ := h
  refine WL_eff rfl rfl (St_call (R_call Try.call49 rfl) ((ShaSum_c hM13 hO13.V hp16).mono ?_))
  rintro _ w15 ⟨K15, v15_0, rfl, hS15, hM15, hV15_0⟩
  refine ⟨v15_0, rfl, ?_⟩
  have hE15 := hE13.andN hS15
  have h := h hV15_0.wf
  refine WL_eff rfl rfl (St_B (S_alloc hM15 ty23) ?_)
  rintro b18 w18 (hB18 : Bx kd_a32_u8 _ _ _ _ _ (List.replicate 32 0)) hS18 hM18 hge18
  have hE18 := hE15.andN hS18
  have hR20 := (((hR9.extN hS10).extN hS13).extN hS15)
  have hR21 := (((hB5.extN hS10).extN hS13).extN hS15)
  refine WL_eff rfl rfl (St_St (S_stB (Foc.id _) hM18 rfl rfl (hV15_0.mono hS18.le) ty23 hB18 (by first | rfl | simp | omega)) ?_)
  rintro w22 (hB22 : Bx kd_a32_u8 _ _ b18 [] [] (sha256 [(preimage a1_kind a2_parts)])) hS22 hM22
  have hE22 := hE18.comp hS22 (fun c hx hlt => (by subst hx; exact (fun hlt => absurd hlt (Nat.not_lt.2 (Nat.le_trans hE15.size hge18))) hlt))
  refine WL_nil ?_
  refine WP_seq ?_
  refine WP_seq ?_
  refine WP_region ?_
  refine WL_pure (.pointer (some ⟨a0_k_b, a0_k_pre.length, none⟩)) (R_mv rfl) rfl rfl ?_
  refine WL_pure (.bool true) (R_pne rfl rfl Try.underlying26) rfl rfl ?_
  refine WL_nil ?_
  refine WP_cond true rfl (fun _ => ?_) (fun hc => by cases hc)
  refine WP_seq ?_
  refine WP_region ?_
  refine WL_pure (.pointer (some ⟨a0_k_b, a0_k_pre.length, none⟩)) (R_mv rfl) rfl rfl ?_
  refine WL_pure (.pointer (some ⟨a0_k_b, a0_k_pre.length, none⟩)) (R_nilck rfl) rfl rfl ?_
  refine WL_pure (.pointer (some ⟨a0_k_b, a0_k_pre.length + 2, none⟩)) (R_fa rfl Try.underlying32 rfl rfl ty3 rfl) rfl rfl ?_
  have hR24 := ((((hR9.extN hS10).extN hS13).extN hS15).extN hS18)
  have hR25 := (hR24.ext hS22 (fun hx => (fun he => (ne_new hge18 hR20.lt) he.symm) hx))
  refine WL_L hM22 (S_ldB (Foc.snd kd_Sseal_notes (Kd.int .i64)) rfl ty3 hR25 (by first | rfl | simp | omega) (fun h => h)) rfl rfl ?_
  rintro v23 (hV23 : (Kd.int .i64).V _ a0_k_1 _)
  obtain rfl := int_form hV23
  refine WL_pure (.int .i64 (IntKind.i64.wrap (a0_k_1 + 1))) (R_add rfl rfl) rfl rfl ?_
  refine WL_pure (.pointer (some ⟨a0_k_b, a0_k_pre.length, none⟩)) (R_nilck rfl) rfl rfl ?_
  refine WL_pure (.pointer (some ⟨a0_k_b, a0_k_pre.length + 2, none⟩)) (R_fa rfl Try.underlying32 rfl rfl ty3 rfl) rfl rfl ?_
  refine WL_eff rfl rfl (St_St (S_stB (Foc.snd kd_Sseal_notes (Kd.int .i64)) hM22 rfl rfl (int_V (wrap_wf _ _)) ty3 hR25 (by first | rfl | simp | omega)) ?_)
  rintro w26 (hB26 : Bx kd_Sseal_Book _ _ a0_k_b a0_k_pre a0_k_post ((a0_k_0_0v, a0_k_0_1v), (IntKind.i64.wrap (a0_k_1 + 1)))) hS26 hM26
  have hE26 := hE22.comp hS26 (fun c hx hlt => (by subst hx; exact (fun _ => (.inl rfl)) hlt))
  refine WL_nil ?_
  have hR27 := (hB22.ext hS26 (fun hx => (ne_new hge18 hR20.lt) hx))
  have hR28 := ((((hR7.extN hS10).extN hS13).extN hS15).extN hS18)
  have hR29 := (hR28.ext hS22 (fun g hg hx => (fun g hg hx => hR28.box hB18 (hg.trans (congrArg some hx))) g hg hx))
  have hR30 := (hR29.ext hS26 (fun g hg hx => (fun g hg hx => hR29.box hR25 (hg.trans (congrArg some hx))) g hg hx))
  have hR31 := ((((hR8.extN hS10).extN hS13).extN hS15).extN hS18)
  have hR32 := (hR31.ext hS22 (fun g hg hx => (fun g hg hx => hR31.box hB18 (hg.trans (congrArg some hx))) g hg hx))
  have hR33 := (hR32.ext hS26 (fun g hg hx => (fun g hg hx => hR32.box hR25 (hg.trans (congrArg some hx))) g hg hx))
  refine WP_ordD (K := K15) (fun c => c = a0_k_b ∨ ob a0_k_0_0v = some c ∨ mb a0_k_0_1v = some c ∨ w26.heap.size ≤ c) [.o 0 2, .o 1 2, .o 2 2, .o 3 2, .o 4 2, .o 5 1] (by kernel_rfl) (by kernel_rfl) hM26 ?_
  rintro w34 hS34 hM34
  have hE34 := hE26.andN hS34
  refine WO_pure (.pointer (some ⟨a0_k_b, a0_k_pre.length, none⟩)) rfl l0 hM34 (fun _ => R_mv rfl) rfl (gN rfl) rfl ?_
  refine WO_pure (.pointer (some ⟨a0_k_b, a0_k_pre.length, none⟩)) rfl l0 hM34 (fun _ => R_nilck rfl) rfl (gN rfl) rfl ?_
  refine WO_pure (.pointer (some ⟨a0_k_b, a0_k_pre.length + 0, none⟩)) rfl l0 hM34 (fun _ => R_fa rfl Try.underlying32 rfl rfl ty30 rfl) rfl (gN rfl) rfl ?_
  have hR36 := (hR27.extN hS34)
  refine WO_L0 hM34 (S_ldB (Foc.id _) rfl ty23 hR36 (by first | rfl | simp | omega) (fun h => h)) rfl (gN rfl) rfl ?_
  rintro v35 (hV35 : kd_a32_u8.V _ (sha256 [(preimage a1_kind a2_parts)]) _)
  refine WO_pure v10_0 rfl l0 hM34 (fun _ => R_mv rfl) rfl (gN rfl) rfl ?_
  have hR38 := (hR30.extN hS34)
  have hR39 := (hR33.extN hS34)
  have hR40 := (hB26.extN hS34)
  have hR41 := ((((hB5.extN hS10).extN hS13).extN hS15).extN hS18)
  have hR42 := (hR41.ext hS22 (fun hx => (fun he => (ne_new hge18 hR21.lt) he.symm) hx))
  have hR43 := ((hR42.ext hS26 (fun hx => (ne_new hge5 h_a0_k_B.lt) hx)).extN hS34)
  have hR44 := (((hO10_0.extN hS13).extN hS15).extN hS18)
  have hR45 := (hR44.ext hS22 (fun g hg hx => (fun g hg hx => hR44.box hB18 (hg.trans (congrArg some hx))) g hg hx))
  have hR46 := ((hR45.ext hS26 (fun g hg hx => (fun g hg hx => hR45.box hR25 (hg.trans (congrArg some hx))) g hg hx)).extN hS34)
  have hR47 := ((hO13.extN hS15).extN hS18)
  have hR48 := (hR47.ext hS22 (fun g hg hx => (fun g hg hx => hR47.box hB18 (hg.trans (congrArg some hx))) g hg hx))
  have hR49 := ((hR48.ext hS26 (fun g hg hx => (fun g hg hx => hR48.box hR25 (hg.trans (congrArg some hx))) g hg hx)).extN hS34)
  obtain ⟨p51, q51, hl51, hB51, hback51⟩ := Bx.sub (Foc.fst kd_Sseal_notes (Kd.int .i64)) hR40
  obtain ⟨hp52, h⟩ := h
  refine WO_eff rfl (gN rfl) rfl (St_call (R_call Try.call47 (mapC (show (Value.pointer (some ⟨a0_k_b, a0_k_pre.length + 0, none⟩)) = .pointer (some ⟨a0_k_b, ((a0_k_pre : List Value) ++ p51).length, none⟩) from by rw [List.length_append, hl51]; first | done | simp) (mapC rfl (mapC rfl mapN)))) ((add_c hM34 hB51 hR38 hR39 hV35 hR46.V hp52).mono ?_))
  rintro _ w50 ⟨K50, u50_0_0, u50_0_1, rfl, hS50, hM50, hB50_m0, hu50_0_0, hxu50_0_0, hu50_0_1, hxu50_0_1⟩
  refine ⟨(.tuple #[]), rfl, ?_⟩
  refine ⟨K50, (hS50.weak (fun c hlt hx => Or.elim hx (fun hx => (.inl (hx))) (fun hx => Or.elim hx (fun hx => (.inr (.inl (hx)))) (fun hx => (.inr (.inr (.inl (hx)))))))), hM50, ?_⟩
  have hE50 := hE34.comp hS50 (fun c hx hlt => Or.elim hx (fun hx => (by subst hx; exact (fun _ => (.inl rfl)) hlt)) (fun hx => Or.elim hx (fun hx => (fun g hg _ => (.inr (.inl hg))) c hx hlt) (fun hx => (fun g hg _ => (.inr (.inr (hg)))) c hx hlt)))
  have hf53 : ∀ g, ob u50_0_0 = some g → g < w0.heap.size → g = a0_k_b ∨ ob a0_k_0_0v = some g ∨ mb a0_k_0_1v = some g := fun g hg hlt => (hxu50_0_0 g hg).elim (fun hx => (fun g hg _ => (.inr (.inl hg))) g hx hlt) (fun hx => absurd hlt (Nat.not_lt.2 (Nat.le_trans hE34.size hx)))
  have hf54 : ∀ g, mb u50_0_1 = some g → g < w0.heap.size → g = a0_k_b ∨ ob a0_k_0_0v = some g ∨ mb a0_k_0_1v = some g := fun g hg hlt => (hxu50_0_1 g hg).elim (fun hx => (fun g hg _ => (.inr (.inr (hg)))) g hx hlt) (fun hx => absurd hlt (Nat.not_lt.2 (Nat.le_trans hE34.size hx)))
  have hB50_w : Bx kd_Sseal_Book w50 K50 a0_k_b a0_k_pre a0_k_post ((u50_0_0, u50_0_1), (IntKind.i64.wrap (a0_k_1 + 1))) := hback51 hS50.le hB50_m0
  refine WO_nil ?_
  refine WP_seq ?_
  refine WP_region ?_
  have hR56 := (hR36.ext hS50 (fun hx => Or.elim hx (fun hx => (ne_new hge18 hR20.lt) hx) (fun hx => Or.elim hx (fun hx => (hR38.box hR36) hx) (fun hx => (hR39.box hR36) hx))))
  refine WL_L hM50 (S_ldB (Foc.id _) rfl ty23 hR56 (by first | rfl | simp | omega) (fun h => h)) rfl rfl ?_
  rintro v55 (hV55 : kd_a32_u8.V _ (sha256 [(preimage a1_kind a2_parts)]) _)
  have hR59 := (hR43.ext hS50 (fun hx => Or.elim hx (fun hx => (ne_new hge5 h_a0_k_B.lt) hx) (fun hx => Or.elim hx (fun hx => (hR38.box hR43) hx) (fun hx => (hR39.box hR43) hx))))
  refine WL_eff rfl rfl (St_St (S_stB (Foc.id _) hM50 rfl rfl hV55 ty23 hR59 (by first | rfl | simp | omega)) ?_)
  rintro w58 (hB58 : Bx kd_a32_u8 _ _ b5 [] [] (sha256 [(preimage a1_kind a2_parts)])) hS58 hM58
  have hE58 := hE50.comp hS58 (fun c hx hlt => (by subst hx; exact (fun hlt => absurd hlt (Nat.not_lt.2 (Nat.le_trans hE0.size hge5))) hlt))
  refine WL_nil ?_
  refine WP_ret ?_
  refine endS_ret hR (resE_B rfl rfl ty23 hB58) ?_
  rintro v60 hV60
  have hR61 := (hu50_0_0.ext hS58 (fun g hg hx => (fun g hg hx => hu50_0_0.box hR59 (hg.trans (congrArg some hx))) g hg hx))
  have hR62 := (hu50_0_1.ext hS58 (fun g hg hx => (fun g hg hx => hu50_0_1.box hR59 (hg.trans (congrArg some hx))) g hg hx))
  have hR63 := (hB50_w.ext hS58 (fun hx => (fun he => (ne_new hge5 h_a0_k_B.lt) he.symm) hx))
  exact ⟨K50, v60, u50_0_0, u50_0_1, (sha256 [(preimage a1_kind a2_parts)]), (addL a0_k_0_0 (sha256 [(preimage a1_kind a2_parts)]) (preimage a1_kind a2_parts)), (addM a0_k_0_0 a0_k_0_1 (sha256 [(preimage a1_kind a2_parts)]) (preimage a1_kind a2_parts)), (IntKind.i64.wrap (a0_k_1 + 1)), rfl, h, hE58, hM58, hV60, hR63, hR61, (fun g hg => ((hxu50_0_0 g hg).elim (fun hz => (.inl hz)) (fun hz => .inr (Nat.le_trans hE34.size hz)))), hR62, (fun g hg => ((hxu50_0_1 g hg).elim (fun hz => (.inl hz)) (fun hz => .inr (Nat.le_trans hE34.size hz))))⟩
theorem OfB_c {w0 : World} {K0 : Ghost} {a0_k_b : Nat} {a0_k_pre a0_k_post : List Value} {a0_k_0_0v : Value} {a0_k_0_0 : (List ((List UInt8) × (List UInt8)))} {a0_k_0_1v : Value} {a0_k_0_1 : (List ((List UInt8) × Int))} {a0_k_1 : Int} {a1_kind_v : Value} {a1_kind : Int} {a2_parts_v : Value} {a2_parts : (List (List UInt8))} (hM0 : Models w0 K0) (h_a0_k_B : Bx kd_Sseal_Book w0 K0 a0_k_b a0_k_pre a0_k_post ((a0_k_0_0v, a0_k_0_1v), a0_k_1)) (h_a0_k_0_0 : Own kd_Sseal_note 90 w0 K0 a0_k_0_0 a0_k_0_0v) (h_a0_k_0_1 : Mp kd_a32_u8 (Kd.int .i64) w0 K0 a0_k_0_1 a0_k_0_1v) (h_a1_kind : (Kd.int .i64).V K0 a1_kind a1_kind_v) (h_a2_parts : kd_l_l_u8.V K0 a2_parts a2_parts_v) (hp : BookInv a0_k_0_0 a0_k_0_1 ∧ 1 + blobRoom a2_parts ≤ 140737488355328 ∧ (a0_k_0_0.length + 1) * 64 ≤ 140737488355328) : Calls Try.prog 21 #[(.pointer (some ⟨a0_k_b, a0_k_pre.length, none⟩)), a1_kind_v, a2_parts_v] w0 (fun e w' => ∃ (K' : Ghost) (r0 : Value) (u0_0_0 : Value) (u0_0_1 : Value), e = .returned r0 ∧ Ext (fun c => c = a0_k_b ∨ ob a0_k_0_0v = some c ∨ mb a0_k_0_1v = some c) w0 K0 w' K' ∧ Models w' K' ∧ kd_a32_u8.V K' (sealOf a1_kind a2_parts) r0 ∧ Bx kd_Sseal_Book w' K' a0_k_b a0_k_pre a0_k_post ((u0_0_0, u0_0_1), (IntKind.i64.wrap (a0_k_1 + 1))) ∧ Own kd_Sseal_note 90 w' K' (addL a0_k_0_0 (sealOf a1_kind a2_parts) (preimage a1_kind a2_parts)) u0_0_0 ∧ (∀ g, ob u0_0_0 = some g → ob a0_k_0_0v = some g ∨ w0.heap.size ≤ g) ∧ Mp kd_a32_u8 (Kd.int .i64) w' K' (addM a0_k_0_0 a0_k_0_1 (sealOf a1_kind a2_parts) (preimage a1_kind a2_parts)) u0_0_1 ∧ (∀ g, mb u0_0_1 = some g → mb a0_k_0_1v = some g ∨ w0.heap.size ≤ g)) := by
  refine (OfB_walk hM0 h_a0_k_B h_a0_k_0_0 h_a0_k_0_1 h_a1_kind h_a2_parts (OfB_ok h_a1_kind.wf h_a2_parts.wf hp)).mono ?_
  rintro _ w' ⟨K', r0, u0, u1, o0, o1, o2, o3, rfl, ⟨rfl, rfl, rfl, rfl⟩, hF⟩
  exact ⟨K', r0, u0, u1, rfl, hF⟩
def OfN_VC (a1_kind : Int) (a2_parts : (List (List UInt8))) (Q : (List UInt8) → Prop) : Prop :=
  (1 + blobRoom a2_parts ≤ 140737488355328) ∧ ((kd_l_u8.wf (preimage a1_kind a2_parts)) → (((1 + [(preimage a1_kind a2_parts)].length) * 24 ≤ 140737488355328 ∧ [(preimage a1_kind a2_parts)].flatten.length ≤ 140737488355328) ∧ ((kd_a32_u8.wf (sha256 [(preimage a1_kind a2_parts)])) → (Q (sha256 [(preimage a1_kind a2_parts)])))))
theorem OfN_ok {a1_kind : Int} {a2_parts : (List (List UInt8))} (w_0 : (Kd.int .i64).wf a1_kind) (w_1 : kd_l_l_u8.wf a2_parts) (hp : 1 + blobRoom a2_parts ≤ 140737488355328) : OfN_VC a1_kind a2_parts (fun o0 => o0 = (sealOf a1_kind a2_parts)) := by
  have hl := preimage_len a1_kind hp
  unfold OfN_VC
  exact ⟨hp, fun _ => ⟨⟨by simp, by simpa using by omega⟩, fun _ => rfl⟩⟩

theorem OfN_walk {w0 : World} {K0 : Ghost} {a1_kind_v : Value} {a1_kind : Int} {a2_parts_v : Value} {a2_parts : (List (List UInt8))} {Q : (List UInt8) → Prop} (hM0 : Models w0 K0) (h_a1_kind : (Kd.int .i64).V K0 a1_kind a1_kind_v) (h_a2_parts : kd_l_l_u8.V K0 a2_parts a2_parts_v) (h : OfN_VC a1_kind a2_parts Q) : Calls Try.prog 21 #[(.pointer none), a1_kind_v, a2_parts_v] w0 (fun e w' => ∃ (K' : Ghost) (r0 : Value) (o0 : (List UInt8)), e = .returned r0 ∧ Q o0 ∧ Ext NX w0 K0 w' K' ∧ Models w' K' ∧ kd_a32_u8.V K' o0 r0) := by
  unfold OfN_VC at h
  obtain rfl := int_form h_a1_kind
  have hE0 : Ext NX w0 K0 w0 K0 := Ext.refl _ _ _
  refine calls_gen fun R hR => ?_
  refine calls_env (args := [(.pointer none), (.int .i64 a1_kind), a2_parts_v]) Try.func21 rfl (Nat.le_of_ble_eq_true rfl) ?_
  refine WP_seq ?_
  refine WP_region ?_
  refine WL_eff rfl rfl (St_B (S_alloc hM0 ty23) ?_)
  rintro b2 w2 (hB2 : Bx kd_a32_u8 _ _ _ _ _ (List.replicate 32 0)) hS2 hM2 hge2
  have hE2 := hE0.andN hS2
  refine WL_nil ?_
  refine WP_seq ?_
  refine WP_region ?_
  refine WL_pure (.int .i64 a1_kind) (R_mv rfl) rfl rfl ?_
  refine WL_pure a2_parts_v (R_mv rfl) rfl rfl ?_
  obtain ⟨hp5, h⟩ := h
  refine WL_eff rfl rfl (St_call (R_call Try.call26 rfl) ((Preimage_c hM2 (int_V (h_a1_kind).wf) (h_a2_parts.mono hS2.le) hp5).mono ?_))
  rintro _ w4 ⟨K4, v4_0, rfl, hS4, hM4, hO4_0, hg4_0⟩
  refine ⟨v4_0, rfl, ?_⟩
  have hE4 := hE2.andN hS4
  have h := h hO4_0.wf
  refine WL_pure v4_0 (R_as rfl) rfl rfl ?_
  refine WL_nil ?_
  refine WP_seq ?_
  refine WP_region ?_
  refine WL_pure v4_0 (R_mv rfl) rfl rfl ?_
  refine WL_eff rfl rfl (St_S0 (S_bsl (k := kd_l_u8) (l := [((preimage a1_kind a2_parts), v4_0)]) hM4 rfl (by intro p hp; simp only [List.mem_cons, List.not_mem_nil, or_false] at hp; subst hp; exact hO4_0.V) rfl Try.underlying38 ty39 rfl rfl) ?_)
  rintro v7 w7 K7 (hO7 : Own kd_l_u8 39 w7 K7 [(preimage a1_kind a2_parts)] v7) hS7 hM7 hg7
  have hE7 := hE4.andN hS7
  obtain ⟨hp10, h⟩ := h
  refine WL_eff rfl rfl (St_call (R_call Try.call49 rfl) ((ShaSum_c hM7 hO7.V hp10).mono ?_))
  rintro _ w9 ⟨K9, v9_0, rfl, hS9, hM9, hV9_0⟩
  refine ⟨v9_0, rfl, ?_⟩
  have hE9 := hE7.andN hS9
  have h := h hV9_0.wf
  refine WL_eff rfl rfl (St_B (S_alloc hM9 ty23) ?_)
  rintro b12 w12 (hB12 : Bx kd_a32_u8 _ _ _ _ _ (List.replicate 32 0)) hS12 hM12 hge12
  have hE12 := hE9.andN hS12
  have hR14 := (((hB2.extN hS4).extN hS7).extN hS9)
  refine WL_eff rfl rfl (St_St (S_stB (Foc.id _) hM12 rfl rfl (hV9_0.mono hS12.le) ty23 hB12 (by first | rfl | simp | omega)) ?_)
  rintro w15 (hB15 : Bx kd_a32_u8 _ _ b12 [] [] (sha256 [(preimage a1_kind a2_parts)])) hS15 hM15
  have hE15 := hE12.comp hS15 (fun c hx hlt => (by subst hx; exact (fun hlt => absurd hlt (Nat.not_lt.2 (Nat.le_trans hE9.size hge12))) hlt))
  refine WL_nil ?_
  refine WP_seq ?_
  refine WP_seq ?_
  refine WP_region ?_
  refine WL_pure (.pointer none) (R_mv rfl) rfl rfl ?_
  refine WL_pure (.bool false) (R_pne0 rfl rfl Try.underlying26) rfl rfl ?_
  refine WL_nil ?_
  refine WP_cond false rfl (fun hc => by cases hc) (fun _ => ?_)
  refine WP_skip ?_
  refine WP_seq ?_
  refine WP_region ?_
  refine WL_L hM15 (S_ldB (Foc.id _) rfl ty23 hB15 (by first | rfl | simp | omega) (fun h => h)) rfl rfl ?_
  rintro v16 (hV16 : kd_a32_u8.V _ (sha256 [(preimage a1_kind a2_parts)]) _)
  have hR19 := ((((hB2.extN hS4).extN hS7).extN hS9).extN hS12)
  have hR20 := (hR19.ext hS15 (fun hx => (fun he => (ne_new hge12 hR14.lt) he.symm) hx))
  refine WL_eff rfl rfl (St_St (S_stB (Foc.id _) hM15 rfl rfl hV16 ty23 hR20 (by first | rfl | simp | omega)) ?_)
  rintro w18 (hB18 : Bx kd_a32_u8 _ _ b2 [] [] (sha256 [(preimage a1_kind a2_parts)])) hS18 hM18
  have hE18 := hE15.comp hS18 (fun c hx hlt => (by subst hx; exact (fun hlt => absurd hlt (Nat.not_lt.2 (Nat.le_trans hE0.size hge2))) hlt))
  refine WL_nil ?_
  refine WP_ret ?_
  refine endS_ret hR (resE_B rfl rfl ty23 hB18) ?_
  rintro v21 hV21
  exact ⟨K9, v21, (sha256 [(preimage a1_kind a2_parts)]), rfl, h, hE18, hM18, hV21⟩
theorem OfN_c {w0 : World} {K0 : Ghost} {a1_kind_v : Value} {a1_kind : Int} {a2_parts_v : Value} {a2_parts : (List (List UInt8))} (hM0 : Models w0 K0) (h_a1_kind : (Kd.int .i64).V K0 a1_kind a1_kind_v) (h_a2_parts : kd_l_l_u8.V K0 a2_parts a2_parts_v) (hp : 1 + blobRoom a2_parts ≤ 140737488355328) : Calls Try.prog 21 #[(.pointer none), a1_kind_v, a2_parts_v] w0 (fun e w' => ∃ (K' : Ghost) (r0 : Value), e = .returned r0 ∧ Ext NX w0 K0 w' K' ∧ Models w' K' ∧ kd_a32_u8.V K' (sealOf a1_kind a2_parts) r0) := by
  refine (OfN_walk hM0 h_a1_kind h_a2_parts (OfN_ok h_a1_kind.wf h_a2_parts.wf hp)).mono ?_
  rintro _ w' ⟨K', r0, o0, rfl, rfl, hF⟩
  exact ⟨K', r0, rfl, hF⟩
def NoteN_VC (a1_s : (List UInt8)) (a2_b : (List UInt8)) (Q : Prop) : Prop :=
  Q
theorem NoteN_ok {a1_s : (List UInt8)} {a2_b : (List UInt8)} (w_0 : kd_a32_u8.wf a1_s) (w_1 : kd_l_u8.wf a2_b) : NoteN_VC a1_s a2_b (True) := by
  trivial

theorem NoteN_walk {w0 : World} {K0 : Ghost} {a1_s_v : Value} {a1_s : (List UInt8)} {a2_b_v : Value} {a2_b : (List UInt8)} {Q : Prop} (hM0 : Models w0 K0) (h_a1_s : kd_a32_u8.V K0 a1_s a1_s_v) (h_a2_b : kd_l_u8.V K0 a2_b a2_b_v) (h : NoteN_VC a1_s a2_b Q) : Calls Try.prog 19 #[(.pointer none), a1_s_v, a2_b_v] w0 (fun e w' => ∃ (K' : Ghost), e = .returned (.tuple #[]) ∧ Q ∧ Ext NX w0 K0 w' K' ∧ Models w' K') := by
  unfold NoteN_VC at h
  have hE0 : Ext NX w0 K0 w0 K0 := Ext.refl _ _ _
  refine calls_gen fun R hR => ?_
  refine calls_env (args := [(.pointer none), a1_s_v, a2_b_v]) Try.func19 rfl (Nat.le_of_ble_eq_true rfl) ?_
  refine WP_seq ?_
  refine WP_region ?_
  refine WL_eff rfl rfl (St_B (S_box hM0 rfl h_a1_s) ?_)
  rintro b3 w3 (hB3 : Bx kd_a32_u8 _ _ _ _ _ a1_s) hS3 hM3 hge3
  have hE3 := hE0.andN hS3
  refine WL_nil ?_
  refine WP_seq ?_
  refine WP_region ?_
  refine WL_pure (.pointer none) (R_mv rfl) rfl rfl ?_
  refine WL_pure (.bool false) (R_pne0 rfl rfl Try.underlying26) rfl rfl ?_
  refine WL_nil ?_
  refine WP_cond false rfl (fun hc => by cases hc) (fun _ => ?_)
  refine WP_skip ?_
  exact endR_nrm hR (v := (.tuple #[])) (resE_0 rfl) ⟨K0, rfl, h, hE3, hM3⟩
theorem NoteN_c {w0 : World} {K0 : Ghost} {a1_s_v : Value} {a1_s : (List UInt8)} {a2_b_v : Value} {a2_b : (List UInt8)} (hM0 : Models w0 K0) (h_a1_s : kd_a32_u8.V K0 a1_s a1_s_v) (h_a2_b : kd_l_u8.V K0 a2_b a2_b_v) : Calls Try.prog 19 #[(.pointer none), a1_s_v, a2_b_v] w0 (fun e w' => ∃ (K' : Ghost), e = .returned (.tuple #[]) ∧ Ext NX w0 K0 w' K' ∧ Models w' K') := by
  refine (NoteN_walk hM0 h_a1_s h_a2_b (NoteN_ok h_a1_s.wf h_a2_b.wf)).mono ?_
  rintro _ w' ⟨K', rfl, -, hF⟩
  exact ⟨K', rfl, hF⟩
def CallsN_VC  (Q : Int → Prop) : Prop :=
  Q 0
theorem CallsN_ok  : CallsN_VC  (fun o0 => o0 = (0 : Int)) := by
  rfl

theorem CallsN_walk {w0 : World} {K0 : Ghost}  {Q : Int → Prop} (hM0 : Models w0 K0)  (h : CallsN_VC  Q) : Calls Try.prog 23 #[(.pointer none)] w0 (fun e w' => ∃ (K' : Ghost) (r0 : Value) (o0 : Int), e = .returned r0 ∧ Q o0 ∧ Ext NX w0 K0 w' K' ∧ Models w' K' ∧ (Kd.int .i64).V K' o0 r0) := by
  unfold CallsN_VC at h
  have hE0 : Ext NX w0 K0 w0 K0 := Ext.refl _ _ _
  refine calls_gen fun R hR => ?_
  refine calls_env (args := [(.pointer none)]) Try.func23 rfl (Nat.le_of_ble_eq_true rfl) ?_
  refine WP_seq ?_
  refine WP_region ?_
  refine WL_pure (.int .i64 0) (R_as rfl) rfl rfl ?_
  refine WL_nil ?_
  refine WP_seq ?_
  refine WP_seq ?_
  refine WP_region ?_
  refine WL_pure (.pointer none) (R_mv rfl) rfl rfl ?_
  refine WL_pure (.bool true) (R_peq0 rfl rfl Try.underlying26) rfl rfl ?_
  refine WL_nil ?_
  refine WP_cond true rfl (fun _ => ?_) (fun hc => by cases hc)
  refine WP_seq ?_
  refine WP_region ?_
  refine WL_pure (.int .i64 0) (R_as rfl) rfl rfl ?_
  refine WL_nil ?_
  refine WP_ret ?_
  exact endR_ret hR (v := (.int .i64 0)) (resE_1 rfl rfl) ⟨K0, (.int .i64 0), 0, rfl, h, hE0, hM0, (int_V (show (Kd.int .i64).wf 0 from by constructor <;> decide))⟩
theorem CallsN_c {w0 : World} {K0 : Ghost}  (hM0 : Models w0 K0)  : Calls Try.prog 23 #[(.pointer none)] w0 (fun e w' => ∃ (K' : Ghost) (r0 : Value), e = .returned r0 ∧ Ext NX w0 K0 w' K' ∧ Models w' K' ∧ (Kd.int .i64).V K' (0 : Int) r0) := by
  refine (CallsN_walk hM0  (CallsN_ok)).mono ?_
  rintro _ w' ⟨K', r0, o0, rfl, rfl, hF⟩
  exact ⟨K', r0, rfl, hF⟩
def FindN_VC (a1_s : (List UInt8)) (Q : (List UInt8) → Bool → Prop) : Prop :=
  Q ([] : List UInt8) false
theorem FindN_ok {a1_s : (List UInt8)} (w_0 : kd_a32_u8.wf a1_s) : FindN_VC a1_s (fun o0 o1 => o0 = ([] : List UInt8) ∧ o1 = false) := by
  exact ⟨rfl, rfl⟩

theorem FindN_walk {w0 : World} {K0 : Ghost} {a1_s_v : Value} {a1_s : (List UInt8)} {Q : (List UInt8) → Bool → Prop} (hM0 : Models w0 K0) (h_a1_s : kd_a32_u8.V K0 a1_s a1_s_v) (h : FindN_VC a1_s Q) : Calls Try.prog 16 #[(.pointer none), a1_s_v] w0 (fun e w' => ∃ (K' : Ghost) (r0 : Value) (r1 : Value) (o0 : (List UInt8)) (o1 : Bool), e = .returned (.tuple #[r0, r1]) ∧ Q o0 o1 ∧ Ext NX w0 K0 w' K' ∧ Models w' K' ∧ Own Kd.byte 5 w' K' o0 r0 ∧ (∀ g, ob r0 = some g → w0.heap.size ≤ g) ∧ Kd.bool.V K' o1 r1) := by
  unfold FindN_VC at h
  have hE0 : Ext NX w0 K0 w0 K0 := Ext.refl _ _ _
  refine calls_gen fun R hR => ?_
  refine calls_env (args := [(.pointer none), a1_s_v]) Try.func16 rfl (Nat.le_of_ble_eq_true rfl) ?_
  refine WP_seq ?_
  refine WP_region ?_
  refine WL_eff rfl rfl (St_B (S_box hM0 rfl h_a1_s) ?_)
  rintro b2 w2 (hB2 : Bx kd_a32_u8 _ _ _ _ _ a1_s) hS2 hM2 hge2
  have hE2 := hE0.andN hS2
  have hR4 : Own Kd.byte 5 w2 K0 ([] : List UInt8) (.slice none 0 0) := Own.nil
  refine WL_pure (.slice none 0 0) (R_as rfl) rfl rfl ?_
  refine WL_pure (.bool false) (R_as rfl) rfl rfl ?_
  refine WL_nil ?_
  refine WP_seq ?_
  refine WP_seq ?_
  refine WP_region ?_
  refine WL_pure (.pointer none) (R_mv rfl) rfl rfl ?_
  refine WL_pure (.bool true) (R_peq0 rfl rfl Try.underlying26) rfl rfl ?_
  refine WL_nil ?_
  refine WP_cond true rfl (fun _ => ?_) (fun hc => by cases hc)
  refine WP_seq ?_
  refine WP_region ?_
  have hR5 : Own Kd.byte 5 w2 K0 ([] : List UInt8) (.slice none 0 0) := Own.nil
  refine WL_pure (.slice none 0 0) (R_as rfl) rfl rfl ?_
  refine WL_pure (.bool false) (R_as rfl) rfl rfl ?_
  refine WL_nil ?_
  refine WP_ret ?_
  exact endR_ret hR (v := (.tuple #[(.slice none 0 0), (.bool false)])) (resE_2 rfl rfl rfl) ⟨K0, (.slice none 0 0), (.bool false), ([] : List UInt8), false, rfl, h, hE2, hM2, hR5, (fun g hg => nilS hg), bool_V⟩
theorem FindN_c {w0 : World} {K0 : Ghost} {a1_s_v : Value} {a1_s : (List UInt8)} (hM0 : Models w0 K0) (h_a1_s : kd_a32_u8.V K0 a1_s a1_s_v) : Calls Try.prog 16 #[(.pointer none), a1_s_v] w0 (fun e w' => ∃ (K' : Ghost) (r0 : Value) (r1 : Value), e = .returned (.tuple #[r0, r1]) ∧ Ext NX w0 K0 w' K' ∧ Models w' K' ∧ Own Kd.byte 5 w' K' ([] : List UInt8) r0 ∧ (∀ g, ob r0 = some g → w0.heap.size ≤ g) ∧ Kd.bool.V K' false r1) := by
  refine (FindN_walk hM0 h_a1_s (FindN_ok h_a1_s.wf)).mono ?_
  rintro _ w' ⟨K', r0, r1, o0, o1, rfl, ⟨rfl, rfl⟩, hF⟩
  exact ⟨K', r0, r1, rfl, hF⟩
def AllN_VC  (Q : (List (List UInt8)) → Prop) : Prop :=
  Q ([] : List (List UInt8))
theorem AllN_ok  : AllN_VC  (fun o0 => o0 = ([] : List (List UInt8))) := by
  rfl

theorem AllN_walk {w0 : World} {K0 : Ghost}  {Q : (List (List UInt8)) → Prop} (hM0 : Models w0 K0)  (h : AllN_VC  Q) : Calls Try.prog 24 #[(.pointer none)] w0 (fun e w' => ∃ (K' : Ghost) (r0 : Value) (o0 : (List (List UInt8))), e = .returned r0 ∧ Q o0 ∧ Ext NX w0 K0 w' K' ∧ Models w' K' ∧ Own kd_l_u8 39 w' K' o0 r0 ∧ (∀ g, ob r0 = some g → w0.heap.size ≤ g)) := by
  unfold AllN_VC at h
  have hE0 : Ext NX w0 K0 w0 K0 := Ext.refl _ _ _
  refine calls_gen fun R hR => ?_
  refine calls_env (args := [(.pointer none)]) Try.func24 rfl (Nat.le_of_ble_eq_true rfl) ?_
  refine WP_seq ?_
  refine WP_region ?_
  have hR1 : Own kd_l_u8 39 w0 K0 ([] : List (List UInt8)) (.slice none 0 0) := Own.nil
  refine WL_pure (.slice none 0 0) (R_as rfl) rfl rfl ?_
  refine WL_nil ?_
  refine WP_seq ?_
  refine WP_seq ?_
  refine WP_region ?_
  refine WL_pure (.pointer none) (R_mv rfl) rfl rfl ?_
  refine WL_pure (.bool true) (R_peq0 rfl rfl Try.underlying26) rfl rfl ?_
  refine WL_nil ?_
  refine WP_cond true rfl (fun _ => ?_) (fun hc => by cases hc)
  refine WP_seq ?_
  refine WP_region ?_
  have hR2 : Own kd_l_u8 39 w0 K0 ([] : List (List UInt8)) (.slice none 0 0) := Own.nil
  refine WL_pure (.slice none 0 0) (R_as rfl) rfl rfl ?_
  refine WL_nil ?_
  refine WP_ret ?_
  exact endR_ret hR (v := (.slice none 0 0)) (resE_1 rfl rfl) ⟨K0, (.slice none 0 0), ([] : List (List UInt8)), rfl, h, hE0, hM0, hR2, (fun g hg => nilS hg)⟩
theorem AllN_c {w0 : World} {K0 : Ghost}  (hM0 : Models w0 K0)  : Calls Try.prog 24 #[(.pointer none)] w0 (fun e w' => ∃ (K' : Ghost) (r0 : Value), e = .returned r0 ∧ Ext NX w0 K0 w' K' ∧ Models w' K' ∧ Own kd_l_u8 39 w' K' ([] : List (List UInt8)) r0 ∧ (∀ g, ob r0 = some g → w0.heap.size ≤ g)) := by
  refine (AllN_walk hM0  (AllN_ok)).mono ?_
  rintro _ w' ⟨K', r0, o0, rfl, rfl, hF⟩
  exact ⟨K', r0, rfl, hF⟩
theorem Of_c {w0 : World} {K0 : Ghost} {a0_k_v : Value} {a0_k_F : Nat → Prop} {a0_k : BookA} {a1_kind_v : Value} {a1_kind : Int} {a2_parts_v : Value} {a2_parts : (List (List UInt8))} (hM0 : Models w0 K0) (h_a0_k : BookR w0 K0 a0_k_v a0_k_F a0_k) (h_a1_kind : (Kd.int .i64).V K0 a1_kind a1_kind_v) (h_a2_parts : kd_l_l_u8.V K0 a2_parts a2_parts_v) (hp : 1 + blobRoom a2_parts ≤ 140737488355328 ∧ bookRoom a0_k) : Calls Try.prog 21 #[a0_k_v, a1_kind_v, a2_parts_v] w0 (fun e w' => ∃ (K' : Ghost) (r0 : Value) (F0 : Nat → Prop), e = .returned r0 ∧ Ext a0_k_F w0 K0 w' K' ∧ Models w' K' ∧ kd_a32_u8.V K' (sealOf a1_kind a2_parts) r0 ∧ BookR w' K' a0_k_v F0 (bookOf a0_k a1_kind a2_parts) ∧ (∀ g, F0 g → a0_k_F g ∨ w0.heap.size ≤ g)) := by
  cases a0_k with
  | none =>
    obtain ⟨rfl, rfl⟩ := h_a0_k
    refine (OfN_c hM0 h_a1_kind h_a2_parts hp.1).mono ?_
    rintro _ w' ⟨K', r0, rfl, hE, hM, hr0⟩
    exact ⟨K', r0, NX, rfl, hE, hM, hr0, ⟨rfl, rfl⟩, fun g hg => hg.elim⟩
  | some x =>
    obtain ⟨b, pre, post, lv, mv, m, rfl, hB, hO, hm, hi, hF, hlt⟩ := h_a0_k
    refine (OfB_c hM0 hB hO hm h_a1_kind h_a2_parts ⟨hi, hp.1, hp.2 x rfl⟩).mono ?_
    rintro _ w' ⟨K', r0, u0, u1, rfl, hE, hM, hr0, hB', hO', hx, hm', hy⟩
    refine ⟨K', r0, _, rfl, hE.weak (fun g hg hx => hF g hx), hM, hr0, BookE.mk hB' hO' hm' (addInv hi _ _), fun g hg => ?_⟩
    rcases hg with rfl | hg | hg
    · exact .inl (hF _ (.inl rfl))
    · exact (hx g hg).imp (fun h => hF g (.inr (.inl h))) id
    · exact (hy g hg).imp (fun h => hF g (.inr (.inr h))) id

theorem NoteO_c {w0 : World} {K0 : Ghost} {a0_k_v : Value} {a0_k_F : Nat → Prop} {a0_k : BookA} {a1_s_v : Value} {a1_s : (List UInt8)} {a2_b_v : Value} {a2_b : (List UInt8)} (hM0 : Models w0 K0) (h_a0_k : BookR w0 K0 a0_k_v a0_k_F a0_k) (h_a1_s : kd_a32_u8.V K0 a1_s a1_s_v) (h_a2_b : kd_l_u8.V K0 a2_b a2_b_v) (hp : a2_b.length ≤ 140737488355328 ∧ bookRoom a0_k) : Calls Try.prog 19 #[a0_k_v, a1_s_v, a2_b_v] w0 (fun e w' => ∃ (K' : Ghost) (F0 : Nat → Prop), e = .returned (.tuple #[]) ∧ Ext a0_k_F w0 K0 w' K' ∧ Models w' K' ∧ BookR w' K' a0_k_v F0 (bookNote a0_k a1_s a2_b) ∧ (∀ g, F0 g → a0_k_F g ∨ w0.heap.size ≤ g)) := by
  cases a0_k with
  | none =>
    obtain ⟨rfl, rfl⟩ := h_a0_k
    refine (NoteN_c hM0 h_a1_s h_a2_b ).mono ?_
    rintro _ w' ⟨K', rfl, hE, hM⟩
    exact ⟨K', NX, rfl, hE, hM, ⟨rfl, rfl⟩, fun g hg => hg.elim⟩
  | some x =>
    obtain ⟨b, pre, post, lv, mv, m, rfl, hB, hO, hm, hi, hF, hlt⟩ := h_a0_k
    refine (Note_c hM0 hB hO hm h_a1_s h_a2_b ⟨hi, hp.1, hp.2 x rfl⟩).mono ?_
    rintro _ w' ⟨K', u0, u1, rfl, hE, hM, hB', hO', hx, hm', hy⟩
    refine ⟨K', _, rfl, hE.weak (fun g hg hx => hF g hx), hM, BookE.mk hB' hO' hm' (addInv hi _ _), fun g hg => ?_⟩
    rcases hg with rfl | hg | hg
    · exact .inl (hF _ (.inl rfl))
    · exact (hx g hg).imp (fun h => hF g (.inr (.inl h))) id
    · exact (hy g hg).imp (fun h => hF g (.inr (.inr h))) id

theorem CallsO_c {w0 : World} {K0 : Ghost} {a0_k_v : Value} {a0_k_F : Nat → Prop} {a0_k : BookA} (hM0 : Models w0 K0) (h_a0_k : BookR w0 K0 a0_k_v a0_k_F a0_k) : Calls Try.prog 23 #[a0_k_v] w0 (fun e w' => ∃ (K' : Ghost) (r0 : Value), e = .returned r0 ∧ Ext NX w0 K0 w' K' ∧ Models w' K' ∧ (Kd.int .i64).V K' (bookCalls a0_k) r0) := by
  cases a0_k with
  | none =>
    obtain ⟨rfl, rfl⟩ := h_a0_k
    exact (CallsN_c hM0  )
  | some x =>
    obtain ⟨b, pre, post, lv, mv, m, rfl, hB, hO, hm, hi, hF, hlt⟩ := h_a0_k
    exact (Calls_c hM0 hB hO hm  )

theorem FindO_c {w0 : World} {K0 : Ghost} {a0_k_v : Value} {a0_k_F : Nat → Prop} {a0_k : BookA} {a1_s_v : Value} {a1_s : (List UInt8)} (hM0 : Models w0 K0) (h_a0_k : BookR w0 K0 a0_k_v a0_k_F a0_k) (h_a1_s : kd_a32_u8.V K0 a1_s a1_s_v) (hp : bookFits a0_k) : Calls Try.prog 16 #[a0_k_v, a1_s_v] w0 (fun e w' => ∃ (K' : Ghost) (r0 : Value) (r1 : Value), e = .returned (.tuple #[r0, r1]) ∧ Ext NX w0 K0 w' K' ∧ Models w' K' ∧ Own Kd.byte 5 w' K' (bookFind a0_k a1_s) r0 ∧ (∀ g, ob r0 = some g → w0.heap.size ≤ g) ∧ Kd.bool.V K' (bookHas a0_k a1_s) r1) := by
  cases a0_k with
  | none =>
    obtain ⟨rfl, rfl⟩ := h_a0_k
    exact (FindN_c hM0 h_a1_s )
  | some x =>
    obtain ⟨b, pre, post, lv, mv, m, rfl, hB, hO, hm, hi, hF, hlt⟩ := h_a0_k
    exact (Find_c hM0 hB hO hm h_a1_s ⟨hi, (hp x rfl).2⟩)

theorem AllO_c {w0 : World} {K0 : Ghost} {a0_k_v : Value} {a0_k_F : Nat → Prop} {a0_k : BookA} (hM0 : Models w0 K0) (h_a0_k : BookR w0 K0 a0_k_v a0_k_F a0_k) (hp : bookFits a0_k) : Calls Try.prog 24 #[a0_k_v] w0 (fun e w' => ∃ (K' : Ghost) (r0 : Value), e = .returned r0 ∧ Ext NX w0 K0 w' K' ∧ Models w' K' ∧ Own kd_l_u8 39 w' K' (bookAll a0_k) r0 ∧ (∀ g, ob r0 = some g → w0.heap.size ≤ g)) := by
  cases a0_k with
  | none =>
    obtain ⟨rfl, rfl⟩ := h_a0_k
    exact (AllN_c hM0  )
  | some x =>
    obtain ⟨b, pre, post, lv, mv, m, rfl, hB, hO, hm, hi, hF, hlt⟩ := h_a0_k
    exact (AllNotes_c hM0 hB hO hm  (hp x rfl))

abbrev kd_Sseal_notesF : Kd ((List ((List UInt8) × (List UInt8))) × Unit) := (Kd.pr kd_l_Sseal_note Kd.anm)
abbrev kd_Sseal_BookF : Kd (((List ((List UInt8) × (List UInt8))) × Unit) × Int) := (Kd.pr kd_Sseal_notesF (Kd.int .i64))
abbrev kd_p_Sseal_BookF : Kd (Option (((List ((List UInt8) × (List UInt8))) × Unit) × Int)) := (Kd.ptr kd_Sseal_BookF)
abbrev kd_l_p_Sseal_BookF : Kd (List (Option (((List ((List UInt8) × (List UInt8))) × Unit) × Int))) := (Kd.sl kd_p_Sseal_BookF)
theorem ty32 : TyOk Try.prog 32 kd_Sseal_Book 40 := ⟨⟨Try.t32, _, Try.type32, rfl, rfl, rfl, rfl, rfl⟩, ⟨_, Try.underlying32, rfl⟩⟩
theorem ty26b : TyOk Try.prog 26 kd_p_Sseal_BookF 8 := ⟨⟨Try.t26, _, Try.type26, rfl, rfl, rfl, rfl, rfl⟩, ⟨_, Try.underlying26, rfl⟩⟩
theorem ty30F : TyOk Try.prog 30 kd_Sseal_notesF 32 := ⟨⟨Try.t30, _, Try.type30, rfl, rfl, rfl, rfl, rfl⟩, ⟨_, Try.underlying30, rfl⟩⟩
theorem ty27 : TyOk Try.prog 27 kd_l_Sseal_note 24 := ⟨⟨Try.t27, _, Try.type27, rfl, rfl, rfl, rfl, rfl⟩, ⟨_, Try.underlying27, rfl⟩⟩
theorem fs32 {fs : Array Field} (h : Try.prog.underlying 32 = some (.struct fs)) : ∀ f ∈ fs.toList, ∃ i, Try.prog.info? f.type = some i := by
  have h2 := (Try.underlying32).symm.trans h
  cases h2
  intro f hf
  simp only [List.mem_cons, List.not_mem_nil, or_false] at hf
  rcases hf with rfl | rfl
  · exact ⟨_, Try.type30⟩
  · exact ⟨_, Try.type3⟩
def Clash_VC (a0_l : (List (Option (((List ((List UInt8) × (List UInt8))) × Unit) × Int)))) (Q : (List UInt8) → (List UInt8) → Bool → Prop) : Prop :=
  ∃ (I10 : (List UInt8) → (List UInt8) → Bool → Int → (List ((List UInt8) × (List UInt8))) → (List ((List UInt8) × Int)) → Prop) (μ10 : (List UInt8) → (List UInt8) → Bool → Int → (List ((List UInt8) × (List UInt8))) → (List ((List UInt8) × Int)) → Nat), I10 ([] : List UInt8) ([] : List UInt8) false 0 ([] : List ((List UInt8) × (List UInt8))) ([] : List ((List UInt8) × Int)) ∧ ∀ (a10 : (List UInt8)) (b10 : (List UInt8)) (found10 : Bool) (i10 : Int) (y10 : (List ((List UInt8) × (List UInt8)))) (y10' : (List ((List UInt8) × Int))), I10 a10 b10 found10 i10 y10 y10' → (kd_l_u8.wf a10) → (kd_l_u8.wf b10) → ((Kd.int .i64).wf i10) → (kd_l_Sseal_note.wf y10) → (((i10 < (a0_l.length : Int)) → (0 ≤ i10 ∧ i10 < (a0_l.length : Int)) ∧ (((((ix a0_l i10).isNone) = true) → I10 a10 b10 found10 (i10 + 1) y10 y10' ∧ μ10 a10 b10 found10 (i10 + 1) y10 y10' < μ10 a10 b10 found10 i10 y10 y10') ∧ ((((ix a0_l i10).isNone) = false) → ∀ (y20 : (((List ((List UInt8) × (List UInt8))) × Unit) × Int)), (ix a0_l i10) = some y20 → (∃ (I28 : (List UInt8) → (List UInt8) → Bool → Int → (List ((List UInt8) × (List UInt8))) → (List ((List UInt8) × Int)) → Prop) (μ28 : (List UInt8) → (List UInt8) → Bool → Int → (List ((List UInt8) × (List UInt8))) → (List ((List UInt8) × Int)) → Nat), I28 a10 b10 found10 0 y10 y10' ∧ ∀ (a28 : (List UInt8)) (b28 : (List UInt8)) (found28 : Bool) (i28 : Int) (y28 : (List ((List UInt8) × (List UInt8)))) (y28' : (List ((List UInt8) × Int))), I28 a28 b28 found28 i28 y28 y28' → (kd_l_u8.wf a28) → (kd_l_u8.wf b28) → ((Kd.int .i64).wf i28) → (kd_l_Sseal_note.wf y28) → (((i28 < (y20.1.1.length : Int)) → (0 ≤ i28 ∧ i28 < (y20.1.1.length : Int)) ∧ (((((mfind ((ix y20.1.1 i28).1) y28').isSome) = true) → ((0 ≤ ((mfind ((ix y20.1.1 i28).1) y28').getD 0) ∧ ((mfind ((ix y20.1.1 i28).1) y28').getD 0) < (y28.length : Int)) ∧ (True))) ∧ ((((((mfind ((ix y20.1.1 i28).1) y28').isSome) = true) ∧ (¬ (((ix y28 ((mfind ((ix y20.1.1 i28).1) y28').getD 0)).2) = ((ix y20.1.1 i28).2)))) → (0 ≤ ((mfind ((ix y20.1.1 i28).1) y28').getD 0) ∧ ((mfind ((ix y20.1.1 i28).1) y28').getD 0) < (y28.length : Int)) ∧ ((((ix y28 ((mfind ((ix y20.1.1 i28).1) y28').getD 0)).2).length ≤ 140737488355328) ∧ ((kd_l_u8.wf ((ix y28 ((mfind ((ix y20.1.1 i28).1) y28').getD 0)).2)) → ((((ix y20.1.1 i28).2).length ≤ 140737488355328) ∧ ((kd_l_u8.wf ((ix y20.1.1 i28).2)) → (Q ((ix y28 ((mfind ((ix y20.1.1 i28).1) y28').getD 0)).2) ((ix y20.1.1 i28).2) true)))))) ∧ ((¬ ((((mfind ((ix y20.1.1 i28).1) y28').isSome) = true) ∧ (¬ (((ix y28 ((mfind ((ix y20.1.1 i28).1) y28').getD 0)).2) = ((ix y20.1.1 i28).2))))) → (BookInv y28 y28' ∧ ((ix y20.1.1 i28).2).length ≤ 140737488355328 ∧ (y28.length + 1) * 64 ≤ 140737488355328) ∧ (I28 a28 b28 found28 (i28 + 1) (addL y28 ((ix y20.1.1 i28).1) ((ix y20.1.1 i28).2)) (addM y28 y28' ((ix y20.1.1 i28).1) ((ix y20.1.1 i28).2)) ∧ μ28 a28 b28 found28 (i28 + 1) (addL y28 ((ix y20.1.1 i28).1) ((ix y20.1.1 i28).2)) (addM y28 y28' ((ix y20.1.1 i28).1) ((ix y20.1.1 i28).2)) < μ28 a28 b28 found28 i28 y28 y28'))))) ∧ ((¬ (i28 < (y20.1.1.length : Int))) → I10 a28 b28 found28 (IntKind.i64.wrap (i10 + 1)) y28 y28' ∧ μ10 a28 b28 found28 (IntKind.i64.wrap (i10 + 1)) y28 y28' < μ10 a10 b10 found10 i10 y10 y10')))))) ∧ ((¬ (i10 < (a0_l.length : Int))) → Q ([] : List UInt8) ([] : List UInt8) false))
theorem Clash_ok {a0_l : (List (Option (((List ((List UInt8) × (List UInt8))) × Unit) × Int)))} (w_0 : kd_l_p_Sseal_BookF.wf a0_l) (hp : clashPre a0_l) : Clash_VC a0_l (fun o0 o1 o2 => o0 = (clashA a0_l).1 ∧ o1 = (clashA a0_l).2.1 ∧ o2 = (clashA a0_l).2.2) := by
  obtain ⟨hp1, hp2⟩ := hp
  unfold Clash_VC
  refine ⟨fun _ _ _ i l m => ∃ j : Nat, i = (j : Int) ∧ j ≤ a0_l.length ∧ clashA a0_l = clashL l (notesF (a0_l.drop j)) ∧ BookInv l m ∧ l.length ≤ (notesF (a0_l.take j)).length ∧ ∀ z ∈ l, z ∈ notesF a0_l, fun _ _ _ i _ _ => a0_l.length - i.toNat, ⟨0, rfl, by omega, by simp [clashA], fun s => rfl, by simp, by simp⟩, ?_⟩
  rintro a b f i l m ⟨j, rfl, hj, hc, hi, hlen, hmem⟩ _ _ _ _
  refine ⟨fun hlt => ⟨⟨by omega, hlt⟩, fun hn => ⟨⟨j + 1, by omega, by omega, ?_, hi, ?_, hmem⟩, ?_⟩, fun hs y hy => ?_⟩, fun hge => ?_⟩
  · rw [hc, notesF_drop hlt]
    rw [Option.isNone_iff_eq_none] at hn
    rw [hn]
    rfl
  · have h1 := congrArg List.length (notesF_take (a0_l.take (j + 1)) j)
    rw [List.take_take, Nat.min_eq_left (by omega), List.length_append] at h1
    omega
  · show a0_l.length - ((j : Int) + 1).toNat < a0_l.length - (j : Int).toNat
    omega
  · have hd := notesF_drop hlt
    rw [hy] at hd
    simp only at hd
    have hall := notesF_take a0_l j
    have hal := congrArg List.length hall
    rw [hd, List.length_append, List.length_append] at hal
    have hym : ∀ z ∈ y.1.1, z ∈ notesF a0_l := fun z hz => by
      rw [hall, hd]
      simp [hz]
    refine ⟨fun _ _ _ i l m => ∃ n : Nat, i = (n : Int) ∧ n ≤ y.1.1.length ∧ clashA a0_l = clashL l (y.1.1.drop n ++ notesF (a0_l.drop (j + 1))) ∧ BookInv l m ∧ l.length ≤ (notesF (a0_l.take j)).length + n ∧ ∀ z ∈ l, z ∈ notesF a0_l, fun _ _ _ i _ _ => y.1.1.length - i.toNat, ⟨0, rfl, by omega, by rw [hc, hd]; simp, hi, by omega, hmem⟩, ?_⟩
    rintro a b f i l m ⟨n, rfl, hn, hc, hi, hlen, hmem⟩ _ _ _ _
    simp only [hi _]
    refine ⟨fun hlt2 => ⟨⟨by omega, hlt2⟩, ?_, ?_, ?_⟩, fun hge => ?_⟩
    · intro hs
      obtain ⟨a, ha⟩ := Option.isSome_iff_exists.1 hs
      have := firstOf_ix ha
      rw [ha]
      exact ⟨this, trivial⟩
    · intro hs
      have hnl : n < y.1.1.length := by omega
      have hst : y.1.1.drop n ++ notesF (a0_l.drop (j + 1)) = ix y.1.1 (n : Int) :: (y.1.1.drop (n + 1) ++ notesF (a0_l.drop (j + 1))) := by
        rw [List.drop_eq_getElem_cons hnl, ix_of_lt (by simpa using hnl)]
        rfl
      rw [hst, clashL_step, if_pos hs] at hc
      obtain ⟨a, ha⟩ := Option.isSome_iff_exists.1 hs.1
      have hb := firstOf_ix ha
      rw [ha] at hc ⊢
      simp only [Option.getD_some] at hc ⊢
      refine ⟨hb, hp2 _ (hmem _ (ix_mem' hb.1 hb.2)), fun _ => ⟨hp2 _ (hym _ (ix_mem' (by omega) hlt2)), fun _ => ?_⟩⟩
      rw [hc]
      exact ⟨rfl, rfl, rfl⟩
    · intro hs
      have hnl : n < y.1.1.length := by omega
      have hst : y.1.1.drop n ++ notesF (a0_l.drop (j + 1)) = ix y.1.1 (n : Int) :: (y.1.1.drop (n + 1) ++ notesF (a0_l.drop (j + 1))) := by
        rw [List.drop_eq_getElem_cons hnl, ix_of_lt (by simpa using hnl)]
        rfl
      rw [hst, clashL_step, if_neg hs] at hc
      have hx := hym _ (ix_mem' (l := y.1.1) (i := (n : Int)) (by omega) hlt2)
      refine ⟨⟨fun s => hi s, hp2 _ hx, by omega⟩, ⟨n + 1, by omega, by omega, hc, addInv hi _ _, ?_, ?_⟩, ?_⟩
      · have := addL_len l (ix y.1.1 (n : Int)).1 (ix y.1.1 (n : Int)).2
        omega
      · intro z hz
        rcases addL_mem hz with h | rfl
        · exact hmem z h
        · exact hx
      · show y.1.1.length - ((n : Int) + 1).toNat < y.1.1.length - (n : Int).toNat
        omega
    · have hne : n = y.1.1.length := by omega
      subst hne
      have hw : IntKind.i64.wrap ((j : Int) + 1) = (j : Int) + 1 := wrap_id (wf64 (by omega) (by have := w_0.1; unfold LM at this; omega))
      rw [hw]
      refine ⟨⟨j + 1, by omega, by omega, by rw [hc]; simp, hi, ?_, hmem⟩, ?_⟩
      · have h1 := congrArg List.length (notesF_take (a0_l.take (j + 1)) j)
        rw [List.take_take, Nat.min_eq_left (by omega), List.length_append, List.drop_take] at h1
        have h2 : notesF ((a0_l.drop j).take (j + 1 - j)) = y.1.1 := by
          have hj' : j < a0_l.length := by omega
          rw [List.drop_eq_getElem_cons hj', show j + 1 - j = 1 from by omega, List.take_succ_cons, List.take_zero]
          have : a0_l[j] = some y := by
            rw [← hy, ix_of_lt (by simpa using hj')]
            rfl
          rw [this]
          simp [notesF]
        rw [h2] at h1
        omega
      · show a0_l.length - ((j : Int) + 1).toNat < a0_l.length - (j : Int).toNat
        omega
  · have : j = a0_l.length := by omega
    subst this
    rw [hc]
    simp [notesF, clashL]

theorem Clash_walk {w0 : World} {K0 : Ghost} {a0_l_v : Value} {a0_l : (List (Option (((List ((List UInt8) × (List UInt8))) × Unit) × Int)))} {Q : (List UInt8) → (List UInt8) → Bool → Prop} (hM0 : Models w0 K0) (h_a0_l : kd_l_p_Sseal_BookF.V K0 a0_l a0_l_v) (h : Clash_VC a0_l Q) : Calls Try.prog 20 #[a0_l_v] w0 (fun e w' => ∃ (K' : Ghost) (r0 : Value) (r1 : Value) (r2 : Value) (o0 : (List UInt8)) (o1 : (List UInt8)) (o2 : Bool), e = .returned (.tuple #[r0, r1, r2]) ∧ Q o0 o1 o2 ∧ Ext NX w0 K0 w' K' ∧ Models w' K' ∧ kd_l_u8.V K' o0 r0 ∧ kd_l_u8.V K' o1 r1 ∧ Kd.bool.V K' o2 r2) := by
  unfold Clash_VC at h
  have hE0 : Ext NX w0 K0 w0 K0 := Ext.refl _ _ _
  refine calls_gen fun R hR => ?_
  refine calls_env (args := [a0_l_v]) Try.func20 rfl (Nat.le_of_ble_eq_true rfl) ?_
  refine WP_seq ?_
  refine WP_region ?_
  have hR2 : Own Kd.byte 5 w0 K0 ([] : List UInt8) (.slice none 0 0) := Own.nil
  refine WL_pure (.slice none 0 0) (R_as rfl) rfl rfl ?_
  have hR3 : Own Kd.byte 5 w0 K0 ([] : List UInt8) (.slice none 0 0) := Own.nil
  refine WL_pure (.slice none 0 0) (R_as rfl) rfl rfl ?_
  refine WL_pure (.bool false) (R_as rfl) rfl rfl ?_
  refine WL_nil ?_
  refine WP_seq ?_
  refine WP_region ?_
  refine WL_V (S_bld (K := K0) (vs := []) (Z := (((.slice none 0 0), (.map none)), 0)) ty32 rfl Try.underlying32 (fs32 Try.underlying32) rfl Parts.nil) rfl rfl ?_
  rintro v4 (hV4 : kd_Sseal_Book.V _ (((.slice none 0 0), (.map none)), 0) _)
  refine WL_eff rfl rfl (St_B (S_box hM0 rfl hV4) ?_)
  rintro b6 w6 (hB6 : Bx kd_Sseal_Book _ _ _ _ _ (((.slice none 0 0), (.map none)), 0)) hS6 hM6 hge6
  have hE6 := hE0.andN hS6
  have hR8 : Own kd_Sseal_note 90 w6 K0 ([] : List ((List UInt8) × (List UInt8))) (.slice none 0 0) := Own.nil
  have hR9 : Mp kd_a32_u8 (Kd.int .i64) w6 K0 ([] : List ((List UInt8) × Int)) (.map none) := Or.inl ⟨rfl, rfl⟩
  refine WL_pure (.pointer (some ⟨b6, 0, none⟩)) (R_as rfl) rfl rfl ?_
  refine WL_nil ?_
  refine WP_seq ?_
  refine WP_seq ?_
  refine WP_region ?_
  refine WL_pure a0_l_v (R_mv rfl) rfl rfl ?_
  refine WL_pure (.int .i64 (a0_l.length : Int)) (R_len rfl (h_a0_l.mono hS6.le) Try.underlying61) rfl rfl ?_
  refine WL_pure (.int .i64 0) (R_mv rfl) rfl rfl ?_
  refine WL_nil ?_
  refine WP_block ?_
  have hR12 := (hR2.extN hS6)
  have hR13 := (hR3.extN hS6)
  obtain ⟨I10, μ10, h0, h⟩ := h
  refine WP_loopE (ι := (List UInt8) × (List UInt8) × Bool × Int × (List ((List UInt8) × (List UInt8))) × (List ((List UInt8) × Int))) [2, 3, 4, 7, 9, 10, 11, 16, 17, 18, 19, 20, 21, 22, 23, 24, 25, 26, 27, 28, 29, 30, 31, 32, 33, 34, 35, 36, 37, 38, 39, 40, 41, 42, 43, 44, 45, 46, 47, 48, 49, 50, 51, 52, 53, 54, 55, 56, 57, 58, 59, 60, 61, 62, 63, 64, 65, 66, 67, 68, 69, 70, 71, 72, 73, 74, 75, 76, 77, 78, 79, 80, 81] (fun s l w => ∃ K u2 u3 z7_0_0 z7_0_1, I10 s.1 s.2.1 s.2.2.1 s.2.2.2.1 s.2.2.2.2.1 s.2.2.2.2.2 ∧ l = [(2, u2), (3, u3), (4, (.bool s.2.2.1)), (16, (.int .i64 s.2.2.2.1))] ∧ Ext (fun c => ob (.slice none 0 0) = some c ∨ ob (.slice none 0 0) = some c ∨ ob (.slice none 0 0) = some c ∨ mb (.map none) = some c ∨ c = b6) w6 K0 w K ∧ Models w K ∧ (Kd.int .i64).wf s.2.2.2.1 ∧ Own Kd.byte 5 w K s.1 u2 ∧ (∀ g, ob u2 = some g → ob (.slice none 0 0) = some g ∨ w6.heap.size ≤ g) ∧ Own Kd.byte 5 w K s.2.1 u3 ∧ (∀ g, ob u3 = some g → ob (.slice none 0 0) = some g ∨ w6.heap.size ≤ g) ∧ Own kd_Sseal_note 90 w K s.2.2.2.2.1 z7_0_0 ∧ (∀ g, ob z7_0_0 = some g → ob (.slice none 0 0) = some g ∨ w6.heap.size ≤ g) ∧ Mp kd_a32_u8 (Kd.int .i64) w K s.2.2.2.2.2 z7_0_1 ∧ (∀ g, mb z7_0_1 = some g → mb (.map none) = some g ∨ w6.heap.size ≤ g) ∧ Bx kd_Sseal_Book w K b6 [] [] ((z7_0_0, z7_0_1), 0) ∧ (∀ g, ob u2 = some g → ¬ (ob u3 = some g))) (fun s => μ10 s.1 s.2.1 s.2.2.1 s.2.2.2.1 s.2.2.2.2.1 s.2.2.2.2.2) (([] : List UInt8), ([] : List UInt8), false, 0, ([] : List ((List UInt8) × (List UInt8))), ([] : List ((List UInt8) × Int))) [(2, (.slice none 0 0)), (3, (.slice none 0 0)), (4, (.bool false)), (16, (.int .i64 0))]
    ⟨K0, (.slice none 0 0), (.slice none 0 0), (.slice none 0 0), (.map none), h0, rfl, Ext.refl _ _ _, hM6, (show (Kd.int .i64).wf 0 from by constructor <;> decide), hR12, (fun g hg => (.inl hg)), hR13, (fun g hg => (.inl hg)), hR8, (fun g hg => .inr (nilS hg)), hR9, (fun g hg => .inr (nilM hg)), hB6, (fun g hg hx => (fun g hg _ => nilS hg) g hx hg)⟩ (by repeat (first | exact trivial | refine ⟨rfl, ?_⟩)) ?_
  rintro ⟨a10, b10, found10, i10, y10, y10'⟩ l σ10 w11 ⟨K11, u2_10, u3_10, z7_0_0_10, z7_0_1_10, hI, rfl, hX11, hM11, hw10_16, hL10_u2, ho10_u2, hL10_u3, ho10_u3, hL10_z7_0_0, ho10_z7_0_0, hL10_z7_0_1, ho10_z7_0_1, hL10_7, hs10_u2_u3⟩
  dsimp only at hI hw10_16 hL10_u2 ho10_u2 hL10_u3 ho10_u3 hL10_z7_0_0 ho10_z7_0_0 hL10_z7_0_1 ho10_z7_0_1 hL10_7
  have hE11 := hE6.comp hX11 (fun c hx hlt => Or.elim hx (fun hx => (fun g hg _ => nilS hg) c hx hlt) (fun hx => Or.elim hx (fun hx => (fun g hg _ => nilS hg) c hx hlt) (fun hx => Or.elim hx (fun hx => (fun g hg _ => nilS hg) c hx hlt) (fun hx => Or.elim hx (fun hx => (fun g hg _ => nilM hg) c hx hlt) (fun hx => (by subst hx; exact (fun hlt => absurd hlt (Nat.not_lt.2 (Nat.le_trans hE0.size hge6))) hlt))))))
  have h := h a10 b10 found10 i10 y10 y10' hI hL10_u2.wf hL10_u3.wf hw10_16 hL10_z7_0_0.wf
  refine WP_seq ?_
  refine WP_region ?_
  refine WL_pure (.bool (decide (i10 < (a0_l.length : Int)))) (R_lss rfl rfl) rfl rfl ?_
  refine WL_nil ?_
  refine WP_seq ?_
  refine WP_cond (decide (i10 < (a0_l.length : Int))) rfl (fun hc14 => ?_) (fun hc14 => ?_)
  · have hd14 : i10 < (a0_l.length : Int) := dec_t hc14
    have h := h.1 hd14
    refine WP_skip ?_
    refine WP_seq ?_
    refine WP_block ?_
    refine WP_seq ?_
    refine WP_region ?_
    obtain ⟨hp16, h⟩ := h
    refine WL_P (S_ixs rfl (h_a0_l.mono (hS6.le.trans hX11.le)) rfl Try.underlying61 ty26b hp16.1 hp16.2) rfl rfl ?_
    rintro b15 o15 hP15
    refine WL_L hM11 (S_ld rfl ty26b hP15) rfl rfl ?_
    rintro v18 (hV18 : kd_p_Sseal_BookF.V _ (ix a0_l i10) _)
    refine WL_pure v18 (R_as rfl) rfl rfl ?_
    refine WL_nil ?_
    refine WP_seq ?_
    refine WP_seq ?_
    refine WP_region ?_
    refine WL_pure v18 (R_mv rfl) rfl rfl ?_
    refine WL_pure (.bool ((ix a0_l i10).isNone)) (R_ptrnil rfl hV18 rfl Try.underlying26) rfl rfl ?_
    refine WL_nil ?_
    refine WP_cond ((ix a0_l i10).isNone) rfl (fun hc20 => ?_) (fun hc20 => ?_)
    · have hd20 : ((ix a0_l i10).isNone) = true := hc20
      have h := h.1 hd20
      refine WP_exit ?_
      refine WP_region ?_
      refine WL_pure (.int .i64 (i10 + 1)) (R_inc rfl rfl hw10_16 hd14 (len_wf (h_a0_l).wf.1)) rfl rfl ?_
      refine WL_pure (.int .i64 (i10 + 1)) (R_mv rfl) rfl rfl ?_
      refine WL_nil ?_
      refine BackQ.mk (a10, b10, found10, (i10 + 1), y10, y10') [(2, u2_10), (3, u3_10), (4, (.bool found10)), (16, (.int .i64 (i10 + 1)))] ?_ ?_ ?_ ?_
      rotate_left
      · exact h.2
      · repeat (first | exact Off.lay0 rfl | refine Off.updO ?_ rfl _ | refine Off.updN ?_ _ | refine Off.lay ?_ rfl)
      · repeat (first | exact trivial | refine ⟨rfl, ?_⟩)
      exact ⟨K11, u2_10, u3_10, z7_0_0_10, z7_0_1_10, h.1, rfl, ((Ext.refl _ _ _).comp hX11 (fun c hx hlt => Or.elim hx (fun hx => (.inl (hx))) (fun hx => Or.elim hx (fun hx => (.inl (hx))) (fun hx => Or.elim hx (fun hx => (absurd hlt (Nat.not_lt.2 (nilS hx)))) (fun hx => Or.elim hx (fun hx => (absurd hlt (Nat.not_lt.2 (nilM hx)))) (fun hx => (.inr (.inr (.inr (.inr (hx))))))))))), hM11, (inc_wf hw10_16 hd14 (len_wf (h_a0_l).wf.1)), hL10_u2, (fun g hg => ((ho10_u2 g hg).elim (fun hz => (.inl hz)) (fun hz => .inr (Nat.le_trans (Nat.le_refl _) hz)))), hL10_u3, (fun g hg => ((ho10_u3 g hg).elim (fun hz => (.inl hz)) (fun hz => .inr (Nat.le_trans (Nat.le_refl _) hz)))), hL10_z7_0_0, (fun g hg => .inr ((ho10_z7_0_0 g hg).elim (fun hz => (nilS hz)) (fun hz => (Nat.le_trans (Nat.le_refl _) hz)))), hL10_z7_0_1, (fun g hg => .inr ((ho10_z7_0_1 g hg).elim (fun hz => (nilM hz)) (fun hz => (Nat.le_trans (Nat.le_refl _) hz)))), hL10_7, hs10_u2_u3⟩
    · have hd20 : ((ix a0_l i10).isNone) = false := hc20
      have h := h.2 hd20
      obtain ⟨y20, b20, o20, hy20, hv20, hP20⟩ := ptr_some hV18 (by rw [hd20]; decide)
      have h := h y20 hy20
      subst hv20
      refine WP_skip ?_
      refine WP_seq ?_
      refine WP_region ?_
      refine WL_pure (.pointer (some ⟨b20, o20, none⟩)) (R_mv rfl) rfl rfl ?_
      refine WL_pure (.pointer (some ⟨b20, o20, none⟩)) (R_nilck rfl) rfl rfl ?_
      have hP22 := Kd.Pt.foc (Foc.fst kd_Sseal_notesF (Kd.int .i64)) hP20
      refine WL_pure (.pointer (some ⟨b20, o20 + 0, none⟩)) (R_fa rfl Try.underlying32 rfl rfl ty30F rfl) rfl rfl ?_
      have hP24 := Kd.Pt.foc (Foc.fst kd_l_Sseal_note Kd.anm) hP22
      refine WL_pure (.pointer (some ⟨b20, o20 + 0 + 0, none⟩)) (R_fa rfl Try.underlying30 rfl rfl ty27 rfl) rfl rfl ?_
      refine WL_L hM11 (S_ld rfl ty27 hP24) rfl rfl ?_
      rintro v26 (hV26 : kd_l_Sseal_note.V _ y20.1.1 _)
      refine WL_pure (.int .i64 (y20.1.1.length : Int)) (R_len rfl hV26 Try.underlying27) rfl rfl ?_
      refine WL_pure (.int .i64 0) (R_mv rfl) rfl rfl ?_
      refine WL_nil ?_
      refine WP_block ?_
      obtain ⟨I28, μ28, h0, h⟩ := h
      refine WP_loopE (ι := (List UInt8) × (List UInt8) × Bool × Int × (List ((List UInt8) × (List UInt8))) × (List ((List UInt8) × Int))) [2, 3, 4, 9, 10, 11, 28, 29, 30, 31, 32, 33, 34, 35, 36, 37, 38, 39, 40, 41, 42, 43, 44, 45, 46, 47, 48, 49, 50, 51, 52, 53, 54, 55, 56, 57, 58, 59, 60, 61, 62, 63, 64, 65, 66, 67, 68, 69, 70, 71, 72, 73, 74, 75, 76, 77, 78, 79, 80] (fun s l w => ∃ K u2 u3 z7_0_0 z7_0_1, I28 s.1 s.2.1 s.2.2.1 s.2.2.2.1 s.2.2.2.2.1 s.2.2.2.2.2 ∧ l = [(2, u2), (3, u3), (4, (.bool s.2.2.1)), (28, (.int .i64 s.2.2.2.1))] ∧ Ext (fun c => ob u2_10 = some c ∨ ob u3_10 = some c ∨ ob z7_0_0_10 = some c ∨ mb z7_0_1_10 = some c ∨ c = b6) w11 K11 w K ∧ Models w K ∧ (Kd.int .i64).wf s.2.2.2.1 ∧ Own Kd.byte 5 w K s.1 u2 ∧ (∀ g, ob u2 = some g → ob u2_10 = some g ∨ w11.heap.size ≤ g) ∧ Own Kd.byte 5 w K s.2.1 u3 ∧ (∀ g, ob u3 = some g → ob u3_10 = some g ∨ w11.heap.size ≤ g) ∧ Own kd_Sseal_note 90 w K s.2.2.2.2.1 z7_0_0 ∧ (∀ g, ob z7_0_0 = some g → ob z7_0_0_10 = some g ∨ w11.heap.size ≤ g) ∧ Mp kd_a32_u8 (Kd.int .i64) w K s.2.2.2.2.2 z7_0_1 ∧ (∀ g, mb z7_0_1 = some g → mb z7_0_1_10 = some g ∨ w11.heap.size ≤ g) ∧ Bx kd_Sseal_Book w K b6 [] [] ((z7_0_0, z7_0_1), 0) ∧ (∀ g, ob u2 = some g → ¬ (ob u3 = some g))) (fun s => μ28 s.1 s.2.1 s.2.2.1 s.2.2.2.1 s.2.2.2.2.1 s.2.2.2.2.2) (a10, b10, found10, 0, y10, y10') [(2, u2_10), (3, u3_10), (4, (.bool found10)), (28, (.int .i64 0))]
        ⟨K11, u2_10, u3_10, z7_0_0_10, z7_0_1_10, h0, rfl, Ext.refl _ _ _, hM11, (show (Kd.int .i64).wf 0 from by constructor <;> decide), hL10_u2, (fun g hg => (.inl hg)), hL10_u3, (fun g hg => (.inl hg)), hL10_z7_0_0, (fun g hg => (.inl hg)), hL10_z7_0_1, (fun g hg => (.inl hg)), hL10_7, hs10_u2_u3⟩ (by repeat (first | exact trivial | refine ⟨rfl, ?_⟩)) ?_
      rintro ⟨a28, b28, found28, i28, y28, y28'⟩ l σ28 w29 ⟨K29, u2_28, u3_28, z7_0_0_28, z7_0_1_28, hI, rfl, hX29, hM29, hw28_28, hL28_u2, ho28_u2, hL28_u3, ho28_u3, hL28_z7_0_0, ho28_z7_0_0, hL28_z7_0_1, ho28_z7_0_1, hL28_7, hs28_u2_u3⟩
      dsimp only at hI hw28_28 hL28_u2 ho28_u2 hL28_u3 ho28_u3 hL28_z7_0_0 ho28_z7_0_0 hL28_z7_0_1 ho28_z7_0_1 hL28_7
      have hE29 := hE11.comp hX29 (fun c hx hlt => Or.elim hx (fun hx => (fun g hg hlt => absurd hlt (Nat.not_lt.2 ((fun g hg => (ho10_u2 g hg).elim (fun hx => (fun g hg => nilS hg) g hx) (fun hx => Nat.le_trans hE6.size hx)) g hg))) c hx hlt) (fun hx => Or.elim hx (fun hx => (fun g hg hlt => absurd hlt (Nat.not_lt.2 ((fun g hg => (ho10_u3 g hg).elim (fun hx => (fun g hg => nilS hg) g hx) (fun hx => Nat.le_trans hE6.size hx)) g hg))) c hx hlt) (fun hx => Or.elim hx (fun hx => (fun g hg hlt => absurd hlt (Nat.not_lt.2 ((fun g hg => (ho10_z7_0_0 g hg).elim (fun hx => (fun g hg => nilS hg) g hx) (fun hx => Nat.le_trans hE6.size hx)) g hg))) c hx hlt) (fun hx => Or.elim hx (fun hx => (fun g hg hlt => absurd hlt (Nat.not_lt.2 ((fun g hg => (ho10_z7_0_1 g hg).elim (fun hx => (fun g hg => nilM hg) g hx) (fun hx => Nat.le_trans hE6.size hx)) g hg))) c hx hlt) (fun hx => (by subst hx; exact (fun hlt => absurd hlt (Nat.not_lt.2 (Nat.le_trans hE0.size hge6))) hlt))))))
      have h := h a28 b28 found28 i28 y28 y28' hI hL28_u2.wf hL28_u3.wf hw28_28 hL28_z7_0_0.wf
      refine WP_seq ?_
      refine WP_region ?_
      refine WL_pure (.bool (decide (i28 < (y20.1.1.length : Int)))) (R_lss rfl rfl) rfl rfl ?_
      refine WL_nil ?_
      refine WP_seq ?_
      refine WP_cond (decide (i28 < (y20.1.1.length : Int))) rfl (fun hc30 => ?_) (fun hc30 => ?_)
      · have hd30 : i28 < (y20.1.1.length : Int) := dec_t hc30
        have h := h.1 hd30
        refine WP_skip ?_
        refine WP_seq ?_
        refine WP_block ?_
        refine WP_seq ?_
        refine WP_region ?_
        obtain ⟨hp32, h⟩ := h
        refine WL_P (S_ixs rfl (hV26.mono hX29.le) rfl Try.underlying27 ty90 hp32.1 hp32.2) rfl rfl ?_
        rintro b31 o31 hP31
        refine WL_L hM29 (S_ld rfl ty90 hP31) rfl rfl ?_
        rintro v34 (hV34 : kd_Sseal_note.V _ (ix y20.1.1 i28) _)
        refine WL_eff rfl rfl (St_B (S_alloc hM29 ty90) ?_)
        rintro b36 w36 (hB36 : Bx kd_Sseal_note _ _ _ _ _ ((List.replicate 32 0), ([] : List UInt8))) hS36 hM36 hge36
        have hE36 := hE29.andN hS36
        refine WL_eff rfl rfl (St_St (S_stB (Foc.id _) hM36 rfl rfl (hV34.mono hS36.le) ty90 hB36 (by first | rfl | simp | omega)) ?_)
        rintro w38 (hB38 : Bx kd_Sseal_note _ _ b36 [] [] (ix y20.1.1 i28)) hS38 hM38
        have hE38 := hE36.comp hS38 (fun c hx hlt => (by subst hx; exact (fun hlt => absurd hlt (Nat.not_lt.2 (Nat.le_trans hE29.size hge36))) hlt))
        refine WL_nil ?_
        refine WP_seq ?_
        refine WP_seq ?_
        refine WP_ordD (K := K29) NX [.o 0 2, .o 1 2, .o 2 2, .o 3 2, .o 4 2, .o 5 2, .o 6 2, .o 7 2, .o 8 2, .o 9 2, .o 10 2, .o 11 2, .o 12 2] (by kernel_rfl) (by kernel_rfl) hM38 ?_
        rintro w39 hS39 hM39
        have hE39 := hE38.andN hS39
        refine WO_pure (.pointer (some ⟨b6, 0, none⟩)) rfl l0 hM39 (fun _ => R_mv rfl) rfl (gN rfl) rfl ?_
        refine WO_pure (.pointer (some ⟨b6, 0, none⟩)) rfl l0 hM39 (fun _ => R_nilck rfl) rfl (gN rfl) rfl ?_
        refine WO_pure (.pointer (some ⟨b6, 0 + 0, none⟩)) rfl l0 hM39 (fun _ => R_fa rfl Try.underlying32 rfl rfl ty30 rfl) rfl (gN rfl) rfl ?_
        refine WO_pure (.pointer (some ⟨b6, 0 + 0 + 1, none⟩)) rfl l0 hM39 (fun _ => R_fa rfl Try.underlying30 rfl rfl ty28r rfl) rfl (gN rfl) rfl ?_
        have hR41 := (hL28_7.extN hS36)
        have hR42 := ((hR41.ext hS38 (fun hx => (fun he => (ne_new hge36 hL28_7.lt) he.symm) hx)).extN hS39)
        refine WO_L0 hM39 (S_ldB (Foc.trans (Foc.fst kd_Sseal_notes (Kd.int .i64)) (Foc.snd Kd.rsl Kd.rmp)) rfl ty28r hR42 (by first | rfl | simp | omega) (fun h => h)) rfl (gN rfl) rfl ?_
        rintro v40 (hV40 : Kd.rmp.V _ z7_0_1_28 _)
        obtain rfl := rw_form hV40
        refine WO_pure (.pointer (some ⟨b36, 0 + 0, none⟩)) rfl l0 hM39 (fun _ => R_fa rfl Try.underlying90 rfl rfl ty23 rfl) rfl (gN rfl) rfl ?_
        have hR44 := (hB38.extN hS39)
        refine WO_L0 hM39 (S_ldB (Foc.fst kd_a32_u8 kd_l_u8) rfl ty23 hR44 (by first | rfl | simp | omega) (fun h => h)) rfl (gN rfl) rfl ?_
        rintro v43 (hV43 : kd_a32_u8.V _ ((ix y20.1.1 i28).1) _)
        have hR47 := (hL28_z7_0_1.extN hS36)
        have hR48 := ((hR47.ext hS38 (fun g hg hx => (fun g hg hx => hR47.box hB36 (hg.trans (congrArg some hx))) g hg hx)).extN hS39)
        refine WO_LK0 hM39 (S_lkp (kv := (Kd.int .i64)) rfl rfl hR48 hV43 Try.underlying28 (keyOk_arr Try.underlying23 Try.underlying5 ty5b) ty3 (fun _ _ h => h)) rfl (gN rfl) rfl ?_
        rintro v46 (hV46 : (Kd.int .i64).V _ ((mfind ((ix y20.1.1 i28).1) y28').getD 0) _)
        obtain rfl := int_form hV46
        refine WO_pure (.tuple #[(.int .i64 ((mfind ((ix y20.1.1 i28).1) y28').getD 0)), (.bool ((mfind ((ix y20.1.1 i28).1) y28').isSome))]) rfl l0 hM39 (fun _ => R_mv rfl) rfl (gN rfl) rfl ?_
        refine WO_pure (.int .i64 ((mfind ((ix y20.1.1 i28).1) y28').getD 0)) rfl l0 hM39 (fun _ => R_ext rfl rfl) rfl (gN rfl) rfl ?_
        refine WO_pure (.bool ((mfind ((ix y20.1.1 i28).1) y28').isSome)) rfl l0 hM39 (fun _ => R_ext rfl rfl) rfl (gN rfl) rfl ?_
        refine WO_pure (.int .i64 ((mfind ((ix y20.1.1 i28).1) y28').getD 0)) rfl l0 hM39 (fun _ => R_as rfl) rfl (gN rfl) rfl ?_
        refine WO_pure (.bool ((mfind ((ix y20.1.1 i28).1) y28').isSome)) rfl l0 hM39 (fun _ => R_as rfl) rfl (gN rfl) rfl ?_
        refine WO_nil ?_
        refine WP_seq ?_
        refine WP_ordD (K := K29) NX [.o 0 2, .o 1 2, .o 2 2, .o 3 2, .o 4 2, .o 5 2, .o 6 2, .o 7 2, .o 8 2, .o 9 2, .o 10 2, .o 11 2, .o 12 2, .o 13 0, .o 14 2, .o 15 2] (by kernel_rfl) (by kernel_rfl) hM39 ?_
        rintro w49 hS49 hM49
        have hE49 := hE39.andN hS49
        refine WO_pure (.bool ((mfind ((ix y20.1.1 i28).1) y28').isSome)) rfl l0 hM49 (fun _ => R_mv rfl) rfl (gN rfl) rfl ?_
        refine WO_pure (.bool ((mfind ((ix y20.1.1 i28).1) y28').isSome)) rfl l0 hM49 (fun _ => R_mv rfl) rfl (gN rfl) rfl ?_
        obtain ⟨hq50, h⟩ := h
        refine WO_meet (al := true) (l1 := [.o 2 2, .o 3 2, .o 4 2, .o 5 2, .o 6 2, .o 7 2, .o 8 2, .o 9 2, .o 10 2, .o 11 2, .o 12 2, .o 13 0, .o 14 2, .o 15 2]) [45, 46, 47, 48, 49, 50, 51, 52, 53, 54, 55, 56, 57, 58] NX (fun l w K => l = [(58, (.bool (decide ((((mfind ((ix y20.1.1 i28).1) y28').isSome) = true) ∧ (¬ (((ix y28 ((mfind ((ix y20.1.1 i28).1) y28').getD 0)).2) = ((ix y20.1.1 i28).2)))))))] ∧ Ext NX w49 K29 w K ∧ Models w K) ?_ ?_
        · rcases Classical.em (((mfind ((ix y20.1.1 i28).1) y28').isSome) = true) with hp50 | hp50
          · skip
            have h := hq50 hp50
            refine WO_pure (.pointer (some ⟨b6, 0, none⟩)) rfl l0 hM49 (fun _ => R_mv rfl) rfl (gY rfl rfl rfl hp50) rfl ?_
            refine WO_pure (.pointer (some ⟨b6, 0, none⟩)) rfl l0 hM49 (fun _ => R_nilck rfl) rfl (gY rfl rfl rfl hp50) rfl ?_
            refine WO_pure (.pointer (some ⟨b6, 0 + 0, none⟩)) rfl l0 hM49 (fun _ => R_fa rfl Try.underlying32 rfl rfl ty30 rfl) rfl (gY rfl rfl rfl hp50) rfl ?_
            refine WO_pure (.pointer (some ⟨b6, 0 + 0 + 0, none⟩)) rfl l0 hM49 (fun _ => R_fa rfl Try.underlying30 rfl rfl ty27r rfl) rfl (gY rfl rfl rfl hp50) rfl ?_
            have hR52 := (hR42.extN hS49)
            refine WO_L0 hM49 (S_ldB (Foc.trans (Foc.fst kd_Sseal_notes (Kd.int .i64)) (Foc.fst Kd.rsl Kd.rmp)) rfl ty27r hR52 (by first | rfl | simp | omega) (fun h => h)) rfl (gY rfl rfl rfl hp50) rfl ?_
            rintro v51 (hV51 : Kd.rsl.V _ z7_0_0_28 _)
            obtain rfl := rw_form hV51
            refine WO_pure (.int .i64 ((mfind ((ix y20.1.1 i28).1) y28').getD 0)) rfl l0 hM49 (fun _ => R_mv rfl) rfl (gY rfl rfl rfl hp50) rfl ?_
            obtain ⟨hp54, h⟩ := h
            refine WO_P rfl l0 hM49 (S_ixs rfl (hL28_z7_0_0.V.mono (hS36.le.trans (hS38.le.trans (hS39.le.trans hS49.le)))) rfl Try.underlying27 ty90 hp54.1 hp54.2) rfl (gY rfl rfl rfl hp50) rfl ?_
            rintro b53 o53 hP53
            have hP56 := Kd.Pt.foc (Foc.snd kd_a32_u8 kd_l_u8) hP53
            refine WO_pure (.pointer (some ⟨b53, o53 + 32, none⟩)) rfl l0 hM49 (fun _ => R_fa rfl Try.underlying90 rfl rfl ty39 rfl) rfl (gY rfl rfl rfl hp50) rfl ?_
            refine WO_L0 hM49 (S_ld rfl ty39 hP56) rfl (gY rfl rfl rfl hp50) rfl ?_
            rintro v58 (hV58 : kd_l_u8.V _ ((ix y28 ((mfind ((ix y20.1.1 i28).1) y28').getD 0)).2) _)
            refine WO_pure (.pointer (some ⟨b36, 0 + 32, none⟩)) rfl l0 hM49 (fun _ => R_fa rfl Try.underlying90 rfl rfl ty39 rfl) rfl (gY rfl rfl rfl hp50) rfl ?_
            have hR61 := (hR44.extN hS49)
            refine WO_L0 hM49 (S_ldB (Foc.snd kd_a32_u8 kd_l_u8) rfl ty39 hR61 (by first | rfl | simp | omega) (fun h => h)) rfl (gY rfl rfl rfl hp50) rfl ?_
            rintro v60 (hV60 : kd_l_u8.V _ ((ix y20.1.1 i28).2) _)
            refine WO_eff0 rfl (gY rfl rfl rfl hp50) rfl (St_call (R_call Try.call48 rfl) ((Equal_c hM49 hV58 hV60).mono ?_))
            rintro _ w63 ⟨K63, v63_0, rfl, hS63, hM63, hV63_0⟩
            refine ⟨v63_0, rfl, ?_⟩
            refine ⟨K63, hS63, hM63, ?_⟩
            have hE63 := hE49.andN hS63
            obtain rfl := bool_form hV63_0
            refine WO_pure (.bool (decide (¬ (((ix y28 ((mfind ((ix y20.1.1 i28).1) y28').getD 0)).2) = ((ix y20.1.1 i28).2))))) rfl l0 hM63 (fun _ => R_notd rfl) rfl (gY rfl rfl rfl hp50) rfl ?_
            refine WO_pure (.bool (decide ((((mfind ((ix y20.1.1 i28).1) y28').isSome) = true) ∧ (¬ (((ix y28 ((mfind ((ix y20.1.1 i28).1) y28').getD 0)).2) = ((ix y20.1.1 i28).2)))))) rfl l0 hM63 (fun _ => R_pick1 rfl hp50 rfl (and_T hp50)) rfl (gN rfl) rfl ?_
            exact WO_end [(58, (.bool (decide ((((mfind ((ix y20.1.1 i28).1) y28').isSome) = true) ∧ (¬ (((ix y28 ((mfind ((ix y20.1.1 i28).1) y28').getD 0)).2) = ((ix y20.1.1 i28).2)))))))] K63 rfl ⟨rfl, ((Ext.refl _ _ _).andN hS63), hM63⟩ (by repeat (first | exact Off.refl _ _ | refine Off.updO ?_ rfl _ | refine Off.updN ?_ _ | refine Off.lay ?_ rfl)) ⟨rfl, trivial⟩
          · skip
            refine WO_skip _ hM49 l0 rfl (gF rfl rfl rfl (eq_false_of_ne_true hp50)) rfl ?_
            refine WO_skip _ hM49 l0 rfl (gF rfl rfl rfl (eq_false_of_ne_true hp50)) rfl ?_
            refine WO_skip _ hM49 l0 rfl (gF rfl rfl rfl (eq_false_of_ne_true hp50)) rfl ?_
            refine WO_skip _ hM49 l0 rfl (gF rfl rfl rfl (eq_false_of_ne_true hp50)) rfl ?_
            refine WO_skip _ hM49 l0 rfl (gF rfl rfl rfl (eq_false_of_ne_true hp50)) rfl ?_
            refine WO_skip _ hM49 l0 rfl (gF rfl rfl rfl (eq_false_of_ne_true hp50)) rfl ?_
            refine WO_skip _ hM49 l0 rfl (gF rfl rfl rfl (eq_false_of_ne_true hp50)) rfl ?_
            refine WO_skip _ hM49 l0 rfl (gF rfl rfl rfl (eq_false_of_ne_true hp50)) rfl ?_
            refine WO_skip _ hM49 l0 rfl (gF rfl rfl rfl (eq_false_of_ne_true hp50)) rfl ?_
            refine WO_skip _ hM49 l0 rfl (gF rfl rfl rfl (eq_false_of_ne_true hp50)) rfl ?_
            refine WO_skip _ hM49 l0 rfl (gF rfl rfl rfl (eq_false_of_ne_true hp50)) rfl ?_
            refine WO_skip _ hM49 l0 rfl (gF rfl rfl rfl (eq_false_of_ne_true hp50)) rfl ?_
            refine WO_skip _ hM49 l0 rfl (gF rfl rfl rfl (eq_false_of_ne_true hp50)) rfl ?_
            refine WO_pure (.bool (decide ((((mfind ((ix y20.1.1 i28).1) y28').isSome) = true) ∧ (¬ (((ix y28 ((mfind ((ix y20.1.1 i28).1) y28').getD 0)).2) = ((ix y20.1.1 i28).2)))))) rfl l0 hM49 (fun _ => R_pick2 rfl (eq_false_of_ne_true hp50) rfl (and_F hp50)) rfl (gN rfl) rfl ?_
            exact WO_end [(58, (.bool (decide ((((mfind ((ix y20.1.1 i28).1) y28').isSome) = true) ∧ (¬ (((ix y28 ((mfind ((ix y20.1.1 i28).1) y28').getD 0)).2) = ((ix y20.1.1 i28).2)))))))] K29 rfl ⟨rfl, (Ext.refl _ _ _), hM49⟩ (by repeat (first | exact Off.refl _ _ | refine Off.updO ?_ rfl _ | refine Off.updN ?_ _ | refine Off.lay ?_ rfl)) ⟨rfl, trivial⟩
        rintro l σ64 w64 K64 ⟨rfl, hS64, hM64⟩
        have hE64 := hE49.andN hS64
        refine WO_nil ?_
        refine WP_cond (decide ((((mfind ((ix y20.1.1 i28).1) y28').isSome) = true) ∧ (¬ (((ix y28 ((mfind ((ix y20.1.1 i28).1) y28').getD 0)).2) = ((ix y20.1.1 i28).2))))) rfl (fun hc65 => ?_) (fun hc65 => ?_)
        · have hd65 : (((mfind ((ix y20.1.1 i28).1) y28').isSome) = true) ∧ (¬ (((ix y28 ((mfind ((ix y20.1.1 i28).1) y28').getD 0)).2) = ((ix y20.1.1 i28).2))) := dec_t hc65
          have h := h.1 hd65
          refine WP_seq ?_
          refine WP_ordD (K := K64) NX [.o 0 2, .o 1 2, .o 2 2, .o 3 2, .o 4 2, .o 5 2, .o 6 2, .o 7 2, .o 8 2, .o 10 2, .o 11 2, .o 9 0, .o 12 0, .o 13 2, .o 14 2, .o 15 2] (by kernel_rfl) (by kernel_rfl) hM64 ?_
          rintro w66 hS66 hM66
          have hE66 := hE64.andN hS66
          refine WO_pure (.pointer (some ⟨b6, 0, none⟩)) rfl l0 hM66 (fun _ => R_mv rfl) rfl (gN rfl) rfl ?_
          refine WO_pure (.pointer (some ⟨b6, 0, none⟩)) rfl l0 hM66 (fun _ => R_nilck rfl) rfl (gN rfl) rfl ?_
          refine WO_pure (.pointer (some ⟨b6, 0 + 0, none⟩)) rfl l0 hM66 (fun _ => R_fa rfl Try.underlying32 rfl rfl ty30 rfl) rfl (gN rfl) rfl ?_
          refine WO_pure (.pointer (some ⟨b6, 0 + 0 + 0, none⟩)) rfl l0 hM66 (fun _ => R_fa rfl Try.underlying30 rfl rfl ty27r rfl) rfl (gN rfl) rfl ?_
          have hR68 := (((hR42.extN hS49).extN hS64).extN hS66)
          refine WO_L0 hM66 (S_ldB (Foc.trans (Foc.fst kd_Sseal_notes (Kd.int .i64)) (Foc.fst Kd.rsl Kd.rmp)) rfl ty27r hR68 (by first | rfl | simp | omega) (fun h => h)) rfl (gN rfl) rfl ?_
          rintro v67 (hV67 : Kd.rsl.V _ z7_0_0_28 _)
          obtain rfl := rw_form hV67
          refine WO_pure (.int .i64 ((mfind ((ix y20.1.1 i28).1) y28').getD 0)) rfl l0 hM66 (fun _ => R_mv rfl) rfl (gN rfl) rfl ?_
          obtain ⟨hp70, h⟩ := h
          refine WO_P rfl l0 hM66 (S_ixs rfl (hL28_z7_0_0.V.mono (hS36.le.trans (hS38.le.trans (hS39.le.trans (hS49.le.trans (hS64.le.trans hS66.le)))))) rfl Try.underlying27 ty90 hp70.1 hp70.2) rfl (gN rfl) rfl ?_
          rintro b69 o69 hP69
          have hP72 := Kd.Pt.foc (Foc.snd kd_a32_u8 kd_l_u8) hP69
          refine WO_pure (.pointer (some ⟨b69, o69 + 32, none⟩)) rfl l0 hM66 (fun _ => R_fa rfl Try.underlying90 rfl rfl ty39 rfl) rfl (gN rfl) rfl ?_
          refine WO_L0 hM66 (S_ld rfl ty39 hP72) rfl (gN rfl) rfl ?_
          rintro v74 (hV74 : kd_l_u8.V _ ((ix y28 ((mfind ((ix y20.1.1 i28).1) y28').getD 0)).2) _)
          refine WO_pure (.pointer (some ⟨b36, 0 + 32, none⟩)) rfl l0 hM66 (fun _ => R_fa rfl Try.underlying90 rfl rfl ty39 rfl) rfl (gN rfl) rfl ?_
          have hR77 := (((hR44.extN hS49).extN hS64).extN hS66)
          refine WO_L0 hM66 (S_ldB (Foc.snd kd_a32_u8 kd_l_u8) rfl ty39 hR77 (by first | rfl | simp | omega) (fun h => h)) rfl (gN rfl) rfl ?_
          rintro v76 (hV76 : kd_l_u8.V _ ((ix y20.1.1 i28).2) _)
          have hR79 := (hL28_u2.extN hS36)
          have hR80 := (((((hR79.ext hS38 (fun g hg hx => (fun g hg hx => hR79.box hB36 (hg.trans (congrArg some hx))) g hg hx)).extN hS39).extN hS49).extN hS64).extN hS66)
          have hR81 := (hL28_u3.extN hS36)
          have hR82 := (((((hR81.ext hS38 (fun g hg hx => (fun g hg hx => hR81.box hB36 (hg.trans (congrArg some hx))) g hg hx)).extN hS39).extN hS49).extN hS64).extN hS66)
          have hR83 := (hL28_z7_0_0.extN hS36)
          have hR84 := (((((hR83.ext hS38 (fun g hg hx => (fun g hg hx => hR83.box hB36 (hg.trans (congrArg some hx))) g hg hx)).extN hS39).extN hS49).extN hS64).extN hS66)
          have hR85 := (((hR48.extN hS49).extN hS64).extN hS66)
          obtain ⟨hp87, h⟩ := h
          refine WO_eff0 rfl (gN rfl) rfl (St_call (R_call Try.call46 rfl) ((Clone_c hM66 hV74 hp87).mono ?_))
          rintro _ w86 ⟨K86, v86_0, rfl, hS86, hM86, hO86_0, hg86_0⟩
          refine ⟨v86_0, rfl, ?_⟩
          refine ⟨K86, hS86, hM86, ?_⟩
          have hE86 := hE66.andN hS86
          have h := h hO86_0.wf
          have hR89 := (hR80.extN hS86)
          have hR90 := (hR82.extN hS86)
          have hR91 := (hR68.extN hS86)
          have hR92 := (hR84.extN hS86)
          have hR93 := (hR85.extN hS86)
          have hR94 := (hR77.extN hS86)
          obtain ⟨hp96, h⟩ := h
          refine WO_eff0 rfl (gN rfl) rfl (St_call (R_call Try.call46 rfl) ((Clone_c hM86 (hV76.mono hS86.le) hp96).mono ?_))
          rintro _ w95 ⟨K95, v95_0, rfl, hS95, hM95, hO95_0, hg95_0⟩
          refine ⟨v95_0, rfl, ?_⟩
          refine ⟨K95, hS95, hM95, ?_⟩
          have hE95 := hE86.andN hS95
          have h := h hO95_0.wf
          refine WO_pure v86_0 rfl l0 hM95 (fun _ => R_as rfl) rfl (gN rfl) rfl ?_
          refine WO_pure v95_0 rfl l0 hM95 (fun _ => R_as rfl) rfl (gN rfl) rfl ?_
          refine WO_pure (.bool true) rfl l0 hM95 (fun _ => R_as rfl) rfl (gN rfl) rfl ?_
          refine WO_nil ?_
          refine WP_ret ?_
          exact endR_ret hR (v := (.tuple #[v86_0, v95_0, (.bool true)])) (resE_3 rfl rfl rfl rfl) ⟨K95, v86_0, v95_0, (.bool true), ((ix y28 ((mfind ((ix y20.1.1 i28).1) y28').getD 0)).2), ((ix y20.1.1 i28).2), true, rfl, h, hE95, hM95, (hO86_0.V.mono hS95.le), hO95_0.V, bool_V⟩
        · have hd65 : ¬ ((((mfind ((ix y20.1.1 i28).1) y28').isSome) = true) ∧ (¬ (((ix y28 ((mfind ((ix y20.1.1 i28).1) y28').getD 0)).2) = ((ix y20.1.1 i28).2)))) := dec_f hc65
          have h := h.2 hd65
          refine WP_skip ?_
          have hR98 := (hL28_z7_0_0.extN hS36)
          have hR99 := ((((hR98.ext hS38 (fun g hg hx => (fun g hg hx => hR98.box hB36 (hg.trans (congrArg some hx))) g hg hx)).extN hS39).extN hS49).extN hS64)
          have hR100 := ((hR48.extN hS49).extN hS64)
          have hR101 := ((hR44.extN hS49).extN hS64)
          have hR102 := ((hR42.extN hS49).extN hS64)
          refine WP_ordD (K := K64) (fun c => c = b6 ∨ ob z7_0_0_28 = some c ∨ mb z7_0_1_28 = some c ∨ w64.heap.size ≤ c) [.o 0 2, .o 1 2, .o 2 2, .o 3 2, .o 4 2, .o 5 2, .o 6 2, .o 7 1] (by kernel_rfl) (by kernel_rfl) hM64 ?_
          rintro w103 hS103 hM103
          have hE103 := hE64.andN hS103
          refine WO_pure (.pointer (some ⟨b6, 0, none⟩)) rfl l0 hM103 (fun _ => R_mv rfl) rfl (gN rfl) rfl ?_
          refine WO_pure (.pointer (some ⟨b6, 0, none⟩)) rfl l0 hM103 (fun _ => R_nilck rfl) rfl (gN rfl) rfl ?_
          refine WO_pure (.pointer (some ⟨b6, 0 + 0, none⟩)) rfl l0 hM103 (fun _ => R_fa rfl Try.underlying32 rfl rfl ty30 rfl) rfl (gN rfl) rfl ?_
          refine WO_pure (.pointer (some ⟨b36, 0 + 0, none⟩)) rfl l0 hM103 (fun _ => R_fa rfl Try.underlying90 rfl rfl ty23 rfl) rfl (gN rfl) rfl ?_
          have hR105 := (hR101.extN hS103)
          refine WO_L0 hM103 (S_ldB (Foc.fst kd_a32_u8 kd_l_u8) rfl ty23 hR105 (by first | rfl | simp | omega) (fun h => h)) rfl (gN rfl) rfl ?_
          rintro v104 (hV104 : kd_a32_u8.V _ ((ix y20.1.1 i28).1) _)
          refine WO_pure (.pointer (some ⟨b36, 0 + 32, none⟩)) rfl l0 hM103 (fun _ => R_fa rfl Try.underlying90 rfl rfl ty39 rfl) rfl (gN rfl) rfl ?_
          refine WO_L0 hM103 (S_ldB (Foc.snd kd_a32_u8 kd_l_u8) rfl ty39 hR105 (by first | rfl | simp | omega) (fun h => h)) rfl (gN rfl) rfl ?_
          rintro v107 (hV107 : kd_l_u8.V _ ((ix y20.1.1 i28).2) _)
          have hR109 := (hL28_u2.extN hS36)
          have hR110 := (((((hR109.ext hS38 (fun g hg hx => (fun g hg hx => hR109.box hB36 (hg.trans (congrArg some hx))) g hg hx)).extN hS39).extN hS49).extN hS64).extN hS103)
          have hR111 := (hL28_u3.extN hS36)
          have hR112 := (((((hR111.ext hS38 (fun g hg hx => (fun g hg hx => hR111.box hB36 (hg.trans (congrArg some hx))) g hg hx)).extN hS39).extN hS49).extN hS64).extN hS103)
          have hR113 := (hR102.extN hS103)
          have hR114 := (hR99.extN hS103)
          have hR115 := (hR100.extN hS103)
          obtain ⟨p117, q117, hl117, hB117, hback117⟩ := Bx.sub (Foc.fst kd_Sseal_notes (Kd.int .i64)) hR113
          obtain ⟨hp118, h⟩ := h
          refine WO_eff rfl (gN rfl) rfl (St_call (R_call Try.call47 (mapC (show (Value.pointer (some ⟨b6, 0 + 0, none⟩)) = .pointer (some ⟨b6, (([] : List Value) ++ p117).length, none⟩) from by rw [List.length_append, hl117]; first | done | simp) (mapC rfl (mapC rfl mapN)))) ((add_c hM103 hB117 hR114 hR115 hV104 hV107 hp118).mono ?_))
          rintro _ w116 ⟨K116, u116_0_0, u116_0_1, rfl, hS116, hM116, hB116_m0, hu116_0_0, hxu116_0_0, hu116_0_1, hxu116_0_1⟩
          refine ⟨(.tuple #[]), rfl, ?_⟩
          refine ⟨K116, (hS116.weak (fun c hlt hx => Or.elim hx (fun hx => (.inl (hx))) (fun hx => Or.elim hx (fun hx => (.inr (.inl (hx)))) (fun hx => (.inr (.inr (.inl (hx)))))))), hM116, ?_⟩
          have hE116 := hE103.comp hS116 (fun c hx hlt => Or.elim hx (fun hx => (by subst hx; exact (fun hlt => absurd hlt (Nat.not_lt.2 (Nat.le_trans hE0.size hge6))) hlt)) (fun hx => Or.elim hx (fun hx => (fun g hg hlt => absurd hlt (Nat.not_lt.2 ((fun g hg => (ho28_z7_0_0 g hg).elim (fun hx => (fun g hg => (ho10_z7_0_0 g hg).elim (fun hx => (fun g hg => nilS hg) g hx) (fun hx => Nat.le_trans hE6.size hx)) g hx) (fun hx => Nat.le_trans hE11.size hx)) g hg))) c hx hlt) (fun hx => (fun g hg hlt => absurd hlt (Nat.not_lt.2 ((fun g hg => (ho28_z7_0_1 g hg).elim (fun hx => (fun g hg => (ho10_z7_0_1 g hg).elim (fun hx => (fun g hg => nilM hg) g hx) (fun hx => Nat.le_trans hE6.size hx)) g hx) (fun hx => Nat.le_trans hE11.size hx)) g hg))) c hx hlt)))
          have hB116_w : Bx kd_Sseal_Book w116 K116 b6 [] [] ((u116_0_0, u116_0_1), 0) := hback117 hS116.le hB116_m0
          refine WO_nil ?_
          refine WP_region ?_
          refine WL_pure (.int .i64 (i28 + 1)) (R_inc rfl rfl hw28_28 hd30 (len_wf (hV26).wf.1)) rfl rfl ?_
          refine WL_pure (.int .i64 (i28 + 1)) (R_mv rfl) rfl rfl ?_
          refine WL_nil ?_
          have hR119 := (hR110.ext hS116 (fun g hg hx => Or.elim hx (fun hx => (fun g hg hx => hR110.box hR113 (hg.trans (congrArg some hx))) g hg hx) (fun hx => Or.elim hx (fun hx => (Own.ne_type hR110 hR114 (by decide)) g hg hx) (fun hx => (fun g hg => hR115.own hR110 g hg) g hg hx))))
          have hR120 := (hR112.ext hS116 (fun g hg hx => Or.elim hx (fun hx => (fun g hg hx => hR112.box hR113 (hg.trans (congrArg some hx))) g hg hx) (fun hx => Or.elim hx (fun hx => (Own.ne_type hR112 hR114 (by decide)) g hg hx) (fun hx => (fun g hg => hR115.own hR112 g hg) g hg hx))))
          refine BackQ.mk (a28, b28, found28, (i28 + 1), (addL y28 ((ix y20.1.1 i28).1) ((ix y20.1.1 i28).2)), (addM y28 y28' ((ix y20.1.1 i28).1) ((ix y20.1.1 i28).2))) [(2, u2_28), (3, u3_28), (4, (.bool found28)), (28, (.int .i64 (i28 + 1)))] ?_ ?_ ?_ ?_
          rotate_left
          · exact h.2
          · repeat (first | exact Off.lay0 rfl | refine Off.updO ?_ rfl _ | refine Off.updN ?_ _ | refine Off.lay ?_ rfl)
          · repeat (first | exact trivial | refine ⟨rfl, ?_⟩)
          exact ⟨K116, u2_28, u3_28, u116_0_0, u116_0_1, h.1, rfl, (((((((((Ext.refl _ _ _).comp hX29 (fun c hx hlt => Or.elim hx (fun hx => (.inl (hx))) (fun hx => Or.elim hx (fun hx => (.inr (.inl (hx)))) (fun hx => Or.elim hx (fun hx => (.inr (.inr (.inl (hx))))) (fun hx => Or.elim hx (fun hx => (.inr (.inr (.inr (.inl (hx)))))) (fun hx => (.inr (.inr (.inr (.inr (hx))))))))))).andN hS36).comp hS38 (fun c hx hlt => (by subst hx; exact absurd hlt (Nat.not_lt.2 (Nat.le_trans hX29.size hge36))))).andN hS39).andN hS49).andN hS64).andN hS103).comp hS116 (fun c hx hlt => Or.elim hx (fun hx => (.inr (.inr (.inr (.inr (hx)))))) (fun hx => Or.elim hx (fun hx => ((((ho28_z7_0_0 c hx).elim (fun hz => (.inl hz)) (fun hz => .inr (Nat.le_trans (Nat.le_refl _) hz))) : ob z7_0_0_10 = some c ∨ w11.heap.size ≤ c).elim (fun hx => (.inr (.inr (.inl (hx))))) (fun hz => absurd hlt (Nat.not_lt.2 hz)))) (fun hx => ((((ho28_z7_0_1 c hx).elim (fun hz => (.inl hz)) (fun hz => .inr (Nat.le_trans (Nat.le_refl _) hz))) : mb z7_0_1_10 = some c ∨ w11.heap.size ≤ c).elim (fun hx => (.inr (.inr (.inr (.inl (hx)))))) (fun hz => absurd hlt (Nat.not_lt.2 hz))))))), hM116, (inc_wf hw28_28 hd30 (len_wf (hV26).wf.1)), hR119, (fun g hg => ((ho28_u2 g hg).elim (fun hz => (.inl hz)) (fun hz => .inr (Nat.le_trans (Nat.le_refl _) hz)))), hR120, (fun g hg => ((ho28_u3 g hg).elim (fun hz => (.inl hz)) (fun hz => .inr (Nat.le_trans (Nat.le_refl _) hz)))), hu116_0_0, (fun g hg => ((hxu116_0_0 g hg).elim (fun hz => ((ho28_z7_0_0 g hz).elim (fun hz => (.inl hz)) (fun hz => .inr (Nat.le_trans (Nat.le_refl _) hz)))) (fun hz => .inr (Nat.le_trans (Nat.le_trans hX29.size (Nat.le_trans hS36.size (Nat.le_trans hS38.size (Nat.le_trans hS39.size (Nat.le_trans hS49.size (Nat.le_trans hS64.size hS103.size)))))) hz)))), hu116_0_1, (fun g hg => ((hxu116_0_1 g hg).elim (fun hz => ((ho28_z7_0_1 g hz).elim (fun hz => (.inl hz)) (fun hz => .inr (Nat.le_trans (Nat.le_refl _) hz)))) (fun hz => .inr (Nat.le_trans (Nat.le_trans hX29.size (Nat.le_trans hS36.size (Nat.le_trans hS38.size (Nat.le_trans hS39.size (Nat.le_trans hS49.size (Nat.le_trans hS64.size hS103.size)))))) hz)))), hB116_w, hs28_u2_u3⟩
      · have hd30 : ¬ (i28 < (y20.1.1.length : Int)) := dec_f hc30
        have h := h.2 hd30
        refine WP_exit ?_
        refine WP_region ?_
        refine WL_pure (.int .i64 (IntKind.i64.wrap (i10 + 1))) (R_add rfl rfl) rfl rfl ?_
        refine WL_pure (.int .i64 (IntKind.i64.wrap (i10 + 1))) (R_mv rfl) rfl rfl ?_
        refine WL_nil ?_
        refine BackQ.mk (a28, b28, found28, (IntKind.i64.wrap (i10 + 1)), y28, y28') [(2, u2_28), (3, u3_28), (4, (.bool found28)), (16, (.int .i64 (IntKind.i64.wrap (i10 + 1))))] ?_ ?_ ?_ ?_
        rotate_left
        · exact h.2
        · repeat (first | exact Off.lay0 rfl | refine Off.updO ?_ rfl _ | refine Off.updN ?_ _ | refine Off.lay ?_ rfl)
        · repeat (first | exact trivial | refine ⟨rfl, ?_⟩)
        exact ⟨K29, u2_28, u3_28, z7_0_0_28, z7_0_1_28, h.1, rfl, (((Ext.refl _ _ _).comp hX11 (fun c hx hlt => Or.elim hx (fun hx => (.inl (hx))) (fun hx => Or.elim hx (fun hx => (.inl (hx))) (fun hx => Or.elim hx (fun hx => (absurd hlt (Nat.not_lt.2 (nilS hx)))) (fun hx => Or.elim hx (fun hx => (absurd hlt (Nat.not_lt.2 (nilM hx)))) (fun hx => (.inr (.inr (.inr (.inr (hx))))))))))).comp hX29 (fun c hx hlt => Or.elim hx (fun hx => ((((ho10_u2 c hx).elim (fun hz => (.inl hz)) (fun hz => .inr (Nat.le_trans (Nat.le_refl _) hz))) : ob (.slice none 0 0) = some c ∨ w6.heap.size ≤ c).elim (fun hx => (.inl (hx))) (fun hz => absurd hlt (Nat.not_lt.2 hz)))) (fun hx => Or.elim hx (fun hx => ((((ho10_u3 c hx).elim (fun hz => (.inl hz)) (fun hz => .inr (Nat.le_trans (Nat.le_refl _) hz))) : ob (.slice none 0 0) = some c ∨ w6.heap.size ≤ c).elim (fun hx => (.inl (hx))) (fun hz => absurd hlt (Nat.not_lt.2 hz)))) (fun hx => Or.elim hx (fun hx => (absurd hlt (Nat.not_lt.2 ((ho10_z7_0_0 c hx).elim (fun hz => (nilS hz)) (fun hz => (Nat.le_trans (Nat.le_refl _) hz)))))) (fun hx => Or.elim hx (fun hx => (absurd hlt (Nat.not_lt.2 ((ho10_z7_0_1 c hx).elim (fun hz => (nilM hz)) (fun hz => (Nat.le_trans (Nat.le_refl _) hz)))))) (fun hx => (.inr (.inr (.inr (.inr (hx))))))))))), hM29, (wrap_wf _ _), hL28_u2, (fun g hg => ((ho28_u2 g hg).elim (fun hz => ((ho10_u2 g hz).elim (fun hz => (.inl hz)) (fun hz => .inr (Nat.le_trans (Nat.le_refl _) hz)))) (fun hz => .inr (Nat.le_trans hX11.size hz)))), hL28_u3, (fun g hg => ((ho28_u3 g hg).elim (fun hz => ((ho10_u3 g hz).elim (fun hz => (.inl hz)) (fun hz => .inr (Nat.le_trans (Nat.le_refl _) hz)))) (fun hz => .inr (Nat.le_trans hX11.size hz)))), hL28_z7_0_0, (fun g hg => .inr ((ho28_z7_0_0 g hg).elim (fun hz => ((ho10_z7_0_0 g hz).elim (fun hz => (nilS hz)) (fun hz => (Nat.le_trans (Nat.le_refl _) hz)))) (fun hz => (Nat.le_trans hX11.size hz)))), hL28_z7_0_1, (fun g hg => .inr ((ho28_z7_0_1 g hg).elim (fun hz => ((ho10_z7_0_1 g hz).elim (fun hz => (nilM hz)) (fun hz => (Nat.le_trans (Nat.le_refl _) hz)))) (fun hz => (Nat.le_trans hX11.size hz)))), hL28_7, hs28_u2_u3⟩
  · have hd14 : ¬ (i10 < (a0_l.length : Int)) := dec_f hc14
    have h := h.2 hd14
    refine WP_exit ?_
    refine WP_seq ?_
    refine WP_region ?_
    have hR121 : Own Kd.byte 5 w11 K11 ([] : List UInt8) (.slice none 0 0) := Own.nil
    refine WL_pure (.slice none 0 0) (R_as rfl) rfl rfl ?_
    have hR122 : Own Kd.byte 5 w11 K11 ([] : List UInt8) (.slice none 0 0) := Own.nil
    refine WL_pure (.slice none 0 0) (R_as rfl) rfl rfl ?_
    refine WL_pure (.bool false) (R_as rfl) rfl rfl ?_
    refine WL_nil ?_
    refine WP_ret ?_
    exact endR_ret hR (v := (.tuple #[(.slice none 0 0), (.slice none 0 0), (.bool false)])) (resE_3 rfl rfl rfl rfl) ⟨K11, (.slice none 0 0), (.slice none 0 0), (.bool false), ([] : List UInt8), ([] : List UInt8), false, rfl, h, hE11, hM11, hR121.V, hR122.V, bool_V⟩
theorem Clash_c {w0 : World} {K0 : Ghost} {a0_l_v : Value} {a0_l : (List (Option (((List ((List UInt8) × (List UInt8))) × Unit) × Int)))} (hM0 : Models w0 K0) (h_a0_l : kd_l_p_Sseal_BookF.V K0 a0_l a0_l_v) (hp : clashPre a0_l) : Calls Try.prog 20 #[a0_l_v] w0 (fun e w' => ∃ (K' : Ghost) (r0 : Value) (r1 : Value) (r2 : Value), e = .returned (.tuple #[r0, r1, r2]) ∧ Ext NX w0 K0 w' K' ∧ Models w' K' ∧ kd_l_u8.V K' ((clashA a0_l).1) r0 ∧ kd_l_u8.V K' ((clashA a0_l).2.1) r1 ∧ Kd.bool.V K' ((clashA a0_l).2.2) r2) := by
  refine (Clash_walk hM0 h_a0_l (Clash_ok h_a0_l.wf hp)).mono ?_
  rintro _ w' ⟨K', r0, r1, r2, o0, o1, o2, rfl, ⟨rfl, rfl, rfl⟩, hF⟩
  exact ⟨K', r0, r1, r2, rfl, hF⟩
end Go.Proofs.Ytfbhiilolpamaaa

/- Package seal, out of the old form. -/
set_option linter.unusedVariables false
set_option maxRecDepth 100000
set_option maxHeartbeats 2000000
namespace Go.Proofs.Ytfbhiilolpamaaa
open Go Go.RowKit Go.Inc
noncomputable def Of_C : Ctr := ⟨[.bk 90 true, .v (.int .i64), .v (.sl (.sl .byte))], [.v (.arr 32 .byte)], some (fun a => (fun (a0_k : BookA) (a1_kind : Int) (a2_parts : List (List UInt8)) => (1 + blobRoom a2_parts ≤ 140737488355328 ∧ bookRoom a0_k : Prop)) a.1 a.2.1 a.2.2.1), fun a => (fun (a0_k : BookA) (a1_kind : Int) (a2_parts : List (List UInt8)) => (((sealOf a1_kind a2_parts), ()), ((bookOf a0_k a1_kind a2_parts), ()))) a.1 a.2.1 a.2.2.1⟩
theorem Of_k : Of_C.valid Try.prog 21 := br_bk (fun _ => rfl) (fun _ => rfl) fun a hp θ v F vs w K hM hB hv => by
  obtain ⟨v1, vs, rfl, h1, v2, vs, rfl, h2, hnil⟩ := hv
  have hnil' : vs = [] := hnil
  subst hnil'
  refine (Of_c hM hB (rel_out (t := .int .i64) h1 rfl) (rel_out (t := .sl (.sl .byte)) h2 rfl) hp).mono ?_
  rintro ed w' ⟨K', r0, F0, rfl, hE, hM', hr, hB', hg⟩
  exact ⟨K', [r0], F0, rfl, hE, hM', fun θ' => relL1 (SVal.of_rel (t := .arr 32 .byte) hr), hB', hg⟩
noncomputable def NoteO_C : Ctr := ⟨[.bk 90 true, .v (.arr 32 .byte), .v (.sl .byte)], [], some (fun a => (fun (a0_k : BookA) (a1_s : List UInt8) (a2_b : List UInt8) => (a2_b.length ≤ 140737488355328 ∧ bookRoom a0_k : Prop)) a.1 a.2.1 a.2.2.1), fun a => (fun (a0_k : BookA) (a1_s : List UInt8) (a2_b : List UInt8) => ((()), ((bookNote a0_k a1_s a2_b), ()))) a.1 a.2.1 a.2.2.1⟩
theorem NoteO_k : NoteO_C.valid Try.prog 19 := br_bk (fun _ => rfl) (fun _ => rfl) fun a hp θ v F vs w K hM hB hv => by
  obtain ⟨v1, vs, rfl, h1, v2, vs, rfl, h2, hnil⟩ := hv
  have hnil' : vs = [] := hnil
  subst hnil'
  refine (NoteO_c hM hB (rel_out (t := .arr 32 .byte) h1 rfl) (rel_out (t := .sl .byte) h2 rfl) hp).mono ?_
  rintro ed w' ⟨K', F0, rfl, hE, hM', hB', hg⟩
  exact ⟨K', [], F0, rfl, hE, hM', fun θ' => rfl, hB', hg⟩
noncomputable def CallsO_C : Ctr := ⟨[.bk 90 false], [.v (.int .i64)], none, fun a => (fun (a0_k : BookA) => (((bookCalls a0_k), ()), (()))) a.1⟩
theorem CallsO_k : CallsO_C.valid Try.prog 23 := br_bkr (fun _ => rfl) (fun _ => rfl) fun a hp θ v F vs w K hM hB hv => by
  have hnil' : vs = [] := hv
  subst hnil'
  refine (CallsO_c hM hB).mono ?_
  rintro ed w' ⟨K', r0, rfl, hE, hM', hr⟩
  exact ⟨K', [r0], rfl, hE, hM', fun θ' => relL1 (SVal.of_rel (t := .int .i64) hr)⟩
noncomputable def Clash_C : Ctr := ⟨[.v (.sl (.ptr (.pr (.pr (.sl (.pr (.arr 32 .byte) (.sl .byte))) .anm) (.int .i64))))], [.v (.sl .byte), .v (.sl .byte), .v .bool], some (fun a => (fun (a0_l : List (Option (((List ((List UInt8) × (List UInt8))) × Unit) × Int))) => (clashPre a0_l : Prop)) a.1), fun a => (fun (a0_l : List (Option (((List ((List UInt8) × (List UInt8))) × Unit) × Int))) => (((clashA a0_l).1, (clashA a0_l).2.1, (clashA a0_l).2.2, ()), (()))) a.1⟩
theorem Clash_k : Clash_C.valid Try.prog 20 := br_v (fun _ => rfl) (fun _ => rfl) fun a hp θ vs w K hM hv => by
  obtain ⟨v1, vs, rfl, h1, hnil⟩ := hv
  have hnil' : vs = [] := hnil
  subst hnil'
  refine (Clash_c hM (rel_out (t := .sl (.ptr (.pr (.pr (.sl (.pr (.arr 32 .byte) (.sl .byte))) .anm) (.int .i64)))) h1 rfl) hp).mono ?_
  rintro ed w' ⟨K', r0, r1, r2, rfl, hE, hM', hr0, hr1, hr2⟩
  exact ⟨K', [r0, r1, r2], rfl, hE, hM', ⟨r0, _, rfl, SVal.of_rel (t := .sl .byte) hr0, r1, _, rfl, SVal.of_rel (t := .sl .byte) hr1, relL1 (SVal.of_rel (t := .bool) hr2)⟩⟩
end Go.Proofs.Ytfbhiilolpamaaa

/- Each function that stands here: what it is asked and leaves (_C), its condition (_VC), that it holds (_ok), its contract (_c). -/
set_option linter.unusedVariables false
set_option maxRecDepth 100000
set_option maxHeartbeats 20000000
namespace Go.Proofs.Ytfbhiilolpamaaa
open Go Go.RowKit Go.Inc
noncomputable def PSums_C : Ctr := ⟨[.v (.sl .byte), .v (.sl (.arr 32 .byte))], [.ow 5 .byte], some (fun a => (fun (a0_b : List UInt8) (a1_l : List (List UInt8)) => (a0_b.length + a1_l.flatten.length ≤ 140737488355328 ∧ ∀ x ∈ a1_l, x.length = 32 : Prop)) a.1 a.2.1), fun a => (fun (a0_b : List UInt8) (a1_l : List (List UInt8)) => (((a0_b ++ a1_l.flatten), ()), (()))) a.1 a.2.1⟩
noncomputable def PSums_X : Fx := ⟨seat, some bkT, fns, [(46, Clone_C)], [], [], []⟩
def PSums_VC (a0_b : List UInt8) (a1_l : List (List UInt8)) (Q : (List UInt8) → Prop) : Prop :=
  a0_b.length ≤ (140737488355328 : Nat) ∧ (Ty.byte.kd.sl.wf a0_b → ∃ (x0 : List UInt8 → Int → Prop), ∃ (x1 : List UInt8 → Int → Nat), x0 a0_b (0 : Int) ∧ ∀ (x2 : List UInt8) (x3 : Int), x0 x2 x3 → Ty.byte.kd.sl.wf x2 → (Kd.int IntKind.i64).wf x3 → (x3 < (a1_l.length : Int) → ((0 : Int) ≤ x3 ∧ x3 < (a1_l.length : Int)) ∧ (x2.length + (List.drop (Int.toNat (0 : Int)) (List.take ((32 : Nat) : Int).toNat (ix a1_l x3))).length) * (1 : Nat) ≤ (140737488355328 : Nat) ∧ x3 < (9223372036854775807 : Int) ∧ x0 (x2 ++ List.drop (Int.toNat (0 : Int)) (List.take ((32 : Nat) : Int).toNat (ix a1_l x3))) (x3 + (1 : Int)) ∧ x1 (x2 ++ List.drop (Int.toNat (0 : Int)) (List.take ((32 : Nat) : Int).toNat (ix a1_l x3))) (x3 + (1 : Int)) < x1 x2 x3) ∧ (¬x3 < (a1_l.length : Int) → Q x2))
theorem PSums_ok {a0_b : List UInt8} {a1_l : List (List UInt8)} (w_0 : (Ty.kd (.sl .byte)).wf a0_b) (w_1 : (Ty.kd (.sl (.arr 32 .byte))).wf a1_l) (hp : a0_b.length + a1_l.flatten.length ≤ 140737488355328 ∧ ∀ x ∈ a1_l, x.length = 32) : PSums_VC a0_b a1_l (fun o0 => o0 = (a0_b ++ a1_l.flatten)) := by
  unfold PSums_VC
  refine ⟨by omega, fun _ => ⟨fun out i => ∃ j : Nat, i = (j : Int) ∧ j ≤ a1_l.length ∧ out = a0_b ++ (a1_l.take j).flatten, fun _ i => a1_l.length - i.toNat, ⟨0, rfl, by omega, by simp⟩, ?_⟩⟩
  rintro out i ⟨j, rfl, hj, rfl⟩ _ _
  refine ⟨fun hlt => ?_, fun hge => ?_⟩
  · have h1 := flat_take (l := a1_l) (j + 1)
    rw [flat_step hlt, List.length_append] at h1
    have h32 := hp.2 _ (ix_mem (l := a1_l) (by omega) hlt)
    have e : List.drop (Int.toNat 0) (List.take ((32 : Nat) : Int).toNat (ix a1_l (j : Int))) = ix a1_l (j : Int) := by show ((ix a1_l (j : Int)).take 32).drop 0 = _; rw [List.drop_zero, List.take_of_length_le (by omega)]
    rw [e]
    refine ⟨⟨by omega, hlt⟩, by simp only [List.length_append]; omega, by have := w_1.1; unfold LM at this; omega, ⟨j + 1, by omega, by omega, by rw [flat_step hlt]; simp⟩, ?_⟩
    show a1_l.length - ((j : Int) + 1).toNat < a1_l.length - (j : Int).toNat
    omega
  · have : j = a1_l.length := by omega
    subst this
    rw [List.take_length]
theorem PSums_eq : (∀ a, PSums_C.pre a → PM.wfP PSums_C.pm a (fvc PSums_X 200 60 PSums_C a (eqO PSums_C a))) = (∀ a : (List UInt8) × (List (List UInt8)) × Unit, ((a.1).length + (a.2.1).flatten.length ≤ 140737488355328 ∧ ∀ x ∈ (a.2.1), x.length = 32) → (Ty.kd (.sl .byte)).wf a.1 → (Ty.kd (.sl (.arr 32 .byte))).wf a.2.1 → PSums_VC a.1 a.2.1 (fun o0 => o0 = ((a.1) ++ (a.2.1).flatten))) := by kernel_rfl
theorem PSums_k : PSums_C.valid Try.prog 60 := ctr_of (X := PSums_X) (ok_of seat_ok (fun b hb => by cases hb; exact bkT_ok) fns_ok ⟨Clone_k, trivial⟩) 200 (PSums_eq.mpr fun a hp w_0 w_1 => @PSums_ok a.1 a.2.1 w_0 w_1 hp)
noncomputable def tnode_C : Ctr := ⟨[.bk 90 true, .v (.sl (.arr 32 .byte))], [.v (.arr 32 .byte)], some (fun a => (fun (a0_k : BookA) (a1_l : List (List UInt8)) => (a1_l.length ≤ 1048576 ∧ bookRoom a0_k : Prop)) a.1 a.2.1), fun a => (fun (a0_k : BookA) (a1_l : List (List UInt8)) => (((sealOf 2 a1_l), ()), ((bookOf a0_k 2 a1_l), ()))) a.1 a.2.1⟩
noncomputable def tnode_X : Fx := ⟨seat, some bkT, fns, [(21, Of_C)], [], [], []⟩
def tnode_VC (a0_k : BookA) (a1_l : List (List UInt8)) (Q : (List UInt8) → BookA → Prop) : Prop :=
  ∃ (x0 : List (List UInt8) → Int → Prop), ∃ (x1 : List (List UInt8) → Int → Nat), x0 ([] : List (List UInt8)) (0 : Int) ∧ ∀ (x2 : List (List UInt8)) (x3 : Int), x0 x2 x3 → Ty.byte.sl.kd.sl.wf x2 → (Kd.int IntKind.i64).wf x3 → (x3 < (a1_l.length : Int) → ((0 : Int) ≤ x3 ∧ x3 < (a1_l.length : Int)) ∧ (x2.length + (ix a1_l x3 :: ([] : List (List UInt8))).length) * (24 : Nat) ≤ (140737488355328 : Nat) ∧ x3 < (9223372036854775807 : Int) ∧ x0 (x2 ++ ix a1_l x3 :: ([] : List (List UInt8))) (x3 + (1 : Int)) ∧ x1 (x2 ++ ix a1_l x3 :: ([] : List (List UInt8))) (x3 + (1 : Int)) < x1 x2 x3) ∧ (¬x3 < (a1_l.length : Int) → ((1 : Nat) + blobRoom x2 ≤ (140737488355328 : Nat) ∧ bookRoom a0_k) ∧ ((Ty.arr (32 : Nat) Ty.byte).kd.wf (sealOf (2 : Int) x2) → Q (sealOf (2 : Int) x2) (bookOf a0_k (2 : Int) x2)))
theorem tnode_ok {a0_k : BookA} {a1_l : List (List UInt8)} (w_0 : (Ty.kd (.sl (.arr 32 .byte))).wf a1_l) (hp : a1_l.length ≤ 1048576 ∧ bookRoom a0_k) : tnode_VC a0_k a1_l (fun o0 o1 => o0 = (sealOf 2 a1_l) ∧ o1 = (bookOf a0_k 2 a1_l)) := by
  unfold tnode_VC
  refine ⟨fun parts i => ∃ j : Nat, i = (j : Int) ∧ j ≤ a1_l.length ∧ parts = a1_l.take j, fun _ i => a1_l.length - i.toNat, ⟨0, rfl, by omega, rfl⟩, ?_⟩
  rintro parts i ⟨j, rfl, hj, rfl⟩ _ _
  have hp1 := hp.1
  refine ⟨fun hlt => ⟨⟨by omega, hlt⟩, by simp only [List.length_take, List.length_cons, List.length_nil]; omega, by omega, ⟨j + 1, by omega, by omega, (take_step hlt).symm⟩, by show a1_l.length - ((j : Int) + 1).toNat < a1_l.length - (j : Int).toNat; omega⟩, fun hge => ?_⟩
  have : j = a1_l.length := by omega
  subst this
  rw [List.take_length]
  have hr := blobRoom32 (l := a1_l) (fun x hx => (w_0.2 x hx).1)
  exact ⟨⟨by omega, hp.2⟩, fun _ => ⟨rfl, rfl⟩⟩
theorem tnode_eq : (∀ a, tnode_C.pre a → PM.wfP tnode_C.pm a (fvc tnode_X 200 79 tnode_C a (eqO tnode_C a))) = (∀ a : BookA × (List (List UInt8)) × Unit, ((a.2.1).length ≤ 1048576 ∧ bookRoom (a.1)) → (Ty.kd (.sl (.arr 32 .byte))).wf a.2.1 → tnode_VC a.1 a.2.1 (fun o0 o1 => o0 = (sealOf 2 (a.2.1)) ∧ o1 = (bookOf (a.1) 2 (a.2.1)))) := by kernel_rfl
theorem tnode_k : tnode_C.valid Try.prog 79 := ctr_of (X := tnode_X) (ok_of seat_ok (fun b hb => by cases hb; exact bkT_ok) fns_ok ⟨Of_k, trivial⟩) 200 (tnode_eq.mpr fun a hp w_0 => @tnode_ok a.1 a.2.1 w_0 hp)
noncomputable def WSeal_C : Ctr := ⟨[.bk 90 true, .v (.sl .str)], [.v (.arr 32 .byte)], some (fun a => (fun (a0_k : BookA) (a1_stops : List (List UInt8)) => (a1_stops.length ≤ 1048576 ∧ 1 + blobRoom a1_stops ≤ 140737488355328 ∧ bookRoom a0_k : Prop)) a.1 a.2.1), fun a => (fun (a0_k : BookA) (a1_stops : List (List UInt8)) => (((sealOf 8 a1_stops), ()), ((bookOf a0_k 8 a1_stops), ()))) a.1 a.2.1⟩
noncomputable def WSeal_X : Fx := ⟨seat, some bkT, fns, [(21, Of_C)], [], [], []⟩
def WSeal_VC (a0_k : BookA) (a1_stops : List (List UInt8)) (Q : (List UInt8) → BookA → Prop) : Prop :=
  ∃ (x0 : List (List UInt8) → Int → Prop), ∃ (x1 : List (List UInt8) → Int → Nat), x0 ([] : List (List UInt8)) (0 : Int) ∧ ∀ (x2 : List (List UInt8)) (x3 : Int), x0 x2 x3 → Ty.byte.sl.kd.sl.wf x2 → (Kd.int IntKind.i64).wf x3 → (x3 < (a1_stops.length : Int) → ((0 : Int) ≤ x3 ∧ x3 < (a1_stops.length : Int)) ∧ (x2.length + (ix a1_stops x3 :: ([] : List (List UInt8))).length) * (24 : Nat) ≤ (140737488355328 : Nat) ∧ x3 < (9223372036854775807 : Int) ∧ x0 (x2 ++ ix a1_stops x3 :: ([] : List (List UInt8))) (x3 + (1 : Int)) ∧ x1 (x2 ++ ix a1_stops x3 :: ([] : List (List UInt8))) (x3 + (1 : Int)) < x1 x2 x3) ∧ (¬x3 < (a1_stops.length : Int) → ((1 : Nat) + blobRoom x2 ≤ (140737488355328 : Nat) ∧ bookRoom a0_k) ∧ ((Ty.arr (32 : Nat) Ty.byte).kd.wf (sealOf (8 : Int) x2) → Q (sealOf (8 : Int) x2) (bookOf a0_k (8 : Int) x2)))
theorem WSeal_ok {a0_k : BookA} {a1_stops : List (List UInt8)} (w_0 : (Ty.kd (.sl .str)).wf a1_stops) (hp : a1_stops.length ≤ 1048576 ∧ 1 + blobRoom a1_stops ≤ 140737488355328 ∧ bookRoom a0_k) : WSeal_VC a0_k a1_stops (fun o0 o1 => o0 = (sealOf 8 a1_stops) ∧ o1 = (bookOf a0_k 8 a1_stops)) := by
  unfold WSeal_VC
  refine ⟨fun parts i => ∃ j : Nat, i = (j : Int) ∧ j ≤ a1_stops.length ∧ parts = a1_stops.take j, fun _ i => a1_stops.length - i.toNat, ⟨0, rfl, by omega, rfl⟩, ?_⟩
  rintro parts i ⟨j, rfl, hj, rfl⟩ _ _
  have hp1 := hp.1
  refine ⟨fun hlt => ⟨⟨by omega, hlt⟩, by simp only [List.length_take, List.length_cons, List.length_nil]; omega, by omega, ⟨j + 1, by omega, by omega, (take_step hlt).symm⟩, by show a1_stops.length - ((j : Int) + 1).toNat < a1_stops.length - (j : Int).toNat; omega⟩, fun hge => ?_⟩
  have : j = a1_stops.length := by omega
  subst this
  rw [List.take_length]
  exact ⟨hp.2, fun _ => ⟨rfl, rfl⟩⟩
theorem WSeal_eq : (∀ a, WSeal_C.pre a → PM.wfP WSeal_C.pm a (fvc WSeal_X 200 54 WSeal_C a (eqO WSeal_C a))) = (∀ a : BookA × (List (List UInt8)) × Unit, ((a.2.1).length ≤ 1048576 ∧ 1 + blobRoom (a.2.1) ≤ 140737488355328 ∧ bookRoom (a.1)) → (Ty.kd (.sl .str)).wf a.2.1 → WSeal_VC a.1 a.2.1 (fun o0 o1 => o0 = (sealOf 8 (a.2.1)) ∧ o1 = (bookOf (a.1) 8 (a.2.1)))) := by kernel_rfl
theorem WSeal_k : WSeal_C.valid Try.prog 54 := ctr_of (X := WSeal_X) (ok_of seat_ok (fun b hb => by cases hb; exact bkT_ok) fns_ok ⟨Of_k, trivial⟩) 200 (WSeal_eq.mpr fun a hp w_0 => @WSeal_ok a.1 a.2.1 w_0 hp)
noncomputable def kleaf_C : Ctr := ⟨[.bk 90 true, .v (.pr (.sl .byte) (.sl .byte))], [.v (.arr 32 .byte)], some (fun a => (fun (a0_k : BookA) (a1_p : (List UInt8) × List UInt8) => (a1_p.1.length + a1_p.2.length ≤ 70368744177664 ∧ bookRoom a0_k : Prop)) a.1 a.2.1), fun a => (fun (a0_k : BookA) (a1_p : (List UInt8) × List UInt8) => (((sealOf 4 [a1_p.1, a1_p.2]), ()), ((bookOf a0_k 4 [a1_p.1, a1_p.2]), ()))) a.1 a.2.1⟩
noncomputable def kleaf_X : Fx := ⟨seat, some bkT, fns, [(21, Of_C)], [], [], []⟩
def kleaf_VC (a0_k : BookA) (a1_p : (List UInt8) × List UInt8) (Q : (List UInt8) → BookA → Prop) : Prop :=
  ((1 : Nat) + blobRoom (a1_p.fst :: a1_p.snd :: ([] : List (List UInt8))) ≤ (140737488355328 : Nat) ∧ bookRoom a0_k) ∧ ((Ty.arr (32 : Nat) Ty.byte).kd.wf (sealOf (4 : Int) (a1_p.fst :: a1_p.snd :: ([] : List (List UInt8)))) → Q (sealOf (4 : Int) (a1_p.fst :: a1_p.snd :: ([] : List (List UInt8)))) (bookOf a0_k (4 : Int) (a1_p.fst :: a1_p.snd :: ([] : List (List UInt8)))))
theorem kleaf_ok {a0_k : BookA} {a1_p : (List UInt8) × List UInt8} (w_0 : (Ty.kd (.pr (.sl .byte) (.sl .byte))).wf a1_p) (hp : a1_p.1.length + a1_p.2.length ≤ 70368744177664 ∧ bookRoom a0_k) : kleaf_VC a0_k a1_p (fun o0 o1 => o0 = (sealOf 4 [a1_p.1, a1_p.2]) ∧ o1 = (bookOf a0_k 4 [a1_p.1, a1_p.2])) := by
  unfold kleaf_VC
  exact ⟨⟨by simp [blobRoom]; omega, hp.2⟩, fun _ => ⟨rfl, rfl⟩⟩
theorem kleaf_eq : (∀ a, kleaf_C.pre a → PM.wfP kleaf_C.pm a (fvc kleaf_X 200 101 kleaf_C a (eqO kleaf_C a))) = (∀ a : BookA × ((List UInt8) × List UInt8) × Unit, ((a.2.1).1.length + (a.2.1).2.length ≤ 70368744177664 ∧ bookRoom (a.1)) → (Ty.kd (.pr (.sl .byte) (.sl .byte))).wf a.2.1 → kleaf_VC a.1 a.2.1 (fun o0 o1 => o0 = (sealOf 4 [(a.2.1).1, (a.2.1).2]) ∧ o1 = (bookOf (a.1) 4 [(a.2.1).1, (a.2.1).2]))) := by kernel_rfl
theorem kleaf_k : kleaf_C.valid Try.prog 101 := ctr_of (X := kleaf_X) (ok_of seat_ok (fun b hb => by cases hb; exact bkT_ok) fns_ok ⟨Of_k, trivial⟩) 200 (kleaf_eq.mpr fun a hp w_0 => @kleaf_ok a.1 a.2.1 w_0 hp)
noncomputable def kwhole_C : Ctr := ⟨[.bk 90 true, .v (.int .i64), .v (.arr 32 .byte)], [.v (.arr 32 .byte)], some (fun a => (fun (a0_k : BookA) (a1_n : Int) (a2_t : List UInt8) => (0 ≤ a1_n ∧ bookRoom a0_k : Prop)) a.1 a.2.1 a.2.2.1), fun a => (fun (a0_k : BookA) (a1_n : Int) (a2_t : List UInt8) => (((sealOf 5 [numB a1_n.toNat, a2_t]), ()), ((bookOf a0_k 5 [numB a1_n.toNat, a2_t]), ()))) a.1 a.2.1 a.2.2.1⟩
noncomputable def kwhole_X : Fx := ⟨seat, some bkT, fns, [(58, Num_C), (21, Of_C)], [], [], [(1, [0, 1, 2], [.o 0 3, .o 1 2, .o 2 2, .o 5 2, .o 3 0, .o 4 0, .o 6 1, .o 7 1, .o 8 1])]⟩
def kwhole_VC (a0_k : BookA) (a1_n : Int) (a2_t : List UInt8) (Q : (List UInt8) → BookA → Prop) : Prop :=
  ([] : List UInt8).length + (9 : Nat) * (IntKind.u64.wrap a1_n :: ([] : List Int)).length ≤ (140737488355328 : Nat) ∧ (Ty.byte.kd.sl.wf (([] : List UInt8) ++ numAll (IntKind.u64.wrap a1_n :: ([] : List Int))) → ((1 : Nat) + blobRoom ((([] : List UInt8) ++ numAll (IntKind.u64.wrap a1_n :: ([] : List Int))) :: a2_t :: ([] : List (List UInt8))) ≤ (140737488355328 : Nat) ∧ bookRoom a0_k) ∧ ((Ty.arr (32 : Nat) Ty.byte).kd.wf (sealOf (5 : Int) ((([] : List UInt8) ++ numAll (IntKind.u64.wrap a1_n :: ([] : List Int))) :: a2_t :: ([] : List (List UInt8)))) → Q (sealOf (5 : Int) ((([] : List UInt8) ++ numAll (IntKind.u64.wrap a1_n :: ([] : List Int))) :: a2_t :: ([] : List (List UInt8)))) (bookOf a0_k (5 : Int) ((([] : List UInt8) ++ numAll (IntKind.u64.wrap a1_n :: ([] : List Int))) :: a2_t :: ([] : List (List UInt8))))))
theorem kwhole_ok {a0_k : BookA} {a1_n : Int} {a2_t : List UInt8} (w_0 : (Ty.kd (.int .i64)).wf a1_n) (w_1 : (Ty.kd (.arr 32 .byte)).wf a2_t) (hp : 0 ≤ a1_n ∧ bookRoom a0_k) : kwhole_VC a0_k a1_n a2_t (fun o0 o1 => o0 = (sealOf 5 [numB a1_n.toNat, a2_t]) ∧ o1 = (bookOf a0_k 5 [numB a1_n.toNat, a2_t])) := by
  have e : IntKind.u64.wrap a1_n = a1_n := wrap_id ⟨hp.1, by have : a1_n ≤ 9223372036854775807 := w_0.2; show _ ≤ (18446744073709551615 : Int); omega⟩
  have hl := numB_length (n := a1_n.toNat) (by have : a1_n ≤ 9223372036854775807 := w_0.2; omega)
  have ht : a2_t.length = 32 := w_1.1
  unfold kwhole_VC
  rw [e]
  refine ⟨by simp, fun _ => ⟨⟨by simp [blobRoom, numAll]; omega, hp.2⟩, fun _ => ?_⟩⟩
  simp [numAll]
theorem kwhole_eq : (∀ a, kwhole_C.pre a → PM.wfP kwhole_C.pm a (fvc kwhole_X 200 77 kwhole_C a (eqO kwhole_C a))) = (∀ a : BookA × Int × (List UInt8) × Unit, (0 ≤ (a.2.1) ∧ bookRoom (a.1)) → (Ty.kd (.int .i64)).wf a.2.1 → (Ty.kd (.arr 32 .byte)).wf a.2.2.1 → kwhole_VC a.1 a.2.1 a.2.2.1 (fun o0 o1 => o0 = (sealOf 5 [numB (a.2.1).toNat, (a.2.2.1)]) ∧ o1 = (bookOf (a.1) 5 [numB (a.2.1).toNat, (a.2.2.1)]))) := by kernel_rfl
theorem kwhole_k : kwhole_C.valid Try.prog 77 := ctr_of (X := kwhole_X) (ok_of seat_ok (fun b hb => by cases hb; exact bkT_ok) fns_ok ⟨Num_k, Of_k, trivial⟩) 200 (kwhole_eq.mpr fun a hp w_0 w_1 => @kwhole_ok a.1 a.2.1 a.2.2.1 w_0 w_1 hp)
noncomputable def halfNo_C : Ctr := ⟨[.v (.int .i64)], [.v (.int .i64)], some (fun a => (fun (a0_n : Int) => (False : Prop)) a.1), fun a => (fun (a0_n : Int) => (((0 : Int), ()), (()))) a.1⟩
theorem halfNo_k : halfNo_C.valid Try.prog 80 :=  fun a hp => hp.elim
noncomputable def rootNo_C : Ctr := ⟨[.bk 90 true, .v (.sl (.arr 32 .byte))], [.v (.arr 32 .byte)], some (fun a => (fun (a0_k : BookA) (a1_l : List (List UInt8)) => (False : Prop)) a.1 a.2.1), fun a => (fun (a0_k : BookA) (a1_l : List (List UInt8)) => (((sealOf 2 []), ()), (a0_k, ()))) a.1 a.2.1⟩
theorem rootNo_k : rootNo_C.valid Try.prog 53 :=  fun a hp => hp.elim
noncomputable def RootN_C : Ctr := ⟨[.bk 90 true, .v (.sl (.arr 32 .byte))], [.v (.arr 32 .byte)], some (fun a => (fun (a0_k : BookA) (a1_l : List (List UInt8)) => (a1_l = [] ∧ bookRoom a0_k : Prop)) a.1 a.2.1), fun a => (fun (a0_k : BookA) (a1_l : List (List UInt8)) => (((sealOf 2 []), ()), ((bookOf a0_k 2 []), ()))) a.1 a.2.1⟩
noncomputable def RootN_X : Fx := ⟨seat, some bkT, fns, [(79, tnode_C), (80, halfNo_C), (53, rootNo_C)], [], [], [(8, [0, 1, 2, 3, 4, 5, 6, 7, 8, 9, 10, 11, 12], [.o 0 3, .o 2 2, .o 3 2, .o 4 2, .o 5 2, .par [1, 6] (.alt 1 0 (.one 6 1 .fin) (.alt 6 1 (.one 1 0 .fin) .fin)), .o 7 1, .o 8 1, .o 9 1])]⟩
def RootN_VC (a0_k : BookA) (a1_l : List (List UInt8)) (Q : (List UInt8) → BookA → Prop) : Prop :=
  ((a1_l.length : Int) = (0 : Int) → (([] : List (List UInt8)).length ≤ (1048576 : Nat) ∧ bookRoom a0_k) ∧ ((Ty.arr (32 : Nat) Ty.byte).kd.wf (sealOf (2 : Int) ([] : List (List UInt8))) → Q (sealOf (2 : Int) ([] : List (List UInt8))) (bookOf a0_k (2 : Int) ([] : List (List UInt8))))) ∧ (¬(a1_l.length : Int) = (0 : Int) → ((a1_l.length : Int) = (1 : Int) → ((0 : Int) ≤ (0 : Int) ∧ (0 : Int) < (a1_l.length : Int)) ∧ Q (ix a1_l (0 : Int)) a0_k) ∧ (¬(a1_l.length : Int) = (1 : Int) → False ∧ ((Ty.int IntKind.i64).kd.wf (0 : Int) → ((0 : Int) ≤ (0 : Int) ∧ (0 : Int) ≤ (a1_l.length : Int)) ∧ False ∧ ((Ty.arr (32 : Nat) Ty.byte).kd.wf (sealOf (2 : Int) ([] : List (List UInt8))) → ((0 : Int) ≤ (0 : Int) ∧ (0 : Int) ≤ (a1_l.length : Int)) ∧ (False ∧ ((Ty.arr (32 : Nat) Ty.byte).kd.wf (sealOf (2 : Int) ([] : List (List UInt8))) → ((sealOf (2 : Int) ([] : List (List UInt8)) :: sealOf (2 : Int) ([] : List (List UInt8)) :: ([] : List (List UInt8))).length ≤ (1048576 : Nat) ∧ bookRoom a0_k) ∧ ((Ty.arr (32 : Nat) Ty.byte).kd.wf (sealOf (2 : Int) (sealOf (2 : Int) ([] : List (List UInt8)) :: sealOf (2 : Int) ([] : List (List UInt8)) :: ([] : List (List UInt8)))) → Q (sealOf (2 : Int) (sealOf (2 : Int) ([] : List (List UInt8)) :: sealOf (2 : Int) ([] : List (List UInt8)) :: ([] : List (List UInt8)))) (bookOf a0_k (2 : Int) (sealOf (2 : Int) ([] : List (List UInt8)) :: sealOf (2 : Int) ([] : List (List UInt8)) :: ([] : List (List UInt8))))))) ∧ (False ∧ ((Ty.arr (32 : Nat) Ty.byte).kd.wf (sealOf (2 : Int) ([] : List (List UInt8))) → False)) ∧ True))))
theorem RootN_ok {a0_k : BookA} {a1_l : List (List UInt8)} (w_0 : (Ty.kd (.sl (.arr 32 .byte))).wf a1_l) (hp : a1_l = [] ∧ bookRoom a0_k) : RootN_VC a0_k a1_l (fun o0 o1 => o0 = (sealOf 2 []) ∧ o1 = (bookOf a0_k 2 [])) := by
  obtain ⟨rfl, hb⟩ := hp
  unfold RootN_VC
  exact ⟨fun _ => ⟨⟨by simp, hb⟩, fun _ => ⟨rfl, rfl⟩⟩, fun h => absurd rfl h⟩
theorem RootN_eq : (∀ a, RootN_C.pre a → PM.wfP RootN_C.pm a (fvc RootN_X 200 53 RootN_C a (eqO RootN_C a))) = (∀ a : BookA × (List (List UInt8)) × Unit, ((a.2.1) = [] ∧ bookRoom (a.1)) → (Ty.kd (.sl (.arr 32 .byte))).wf a.2.1 → RootN_VC a.1 a.2.1 (fun o0 o1 => o0 = (sealOf 2 []) ∧ o1 = (bookOf (a.1) 2 []))) := by kernel_rfl
theorem RootN_k : RootN_C.valid Try.prog 53 := ctr_of (X := RootN_X) (ok_of seat_ok (fun b hb => by cases hb; exact bkT_ok) fns_ok ⟨tnode_k, halfNo_k, rootNo_k, trivial⟩) 200 (RootN_eq.mpr fun a hp w_0 => @RootN_ok a.1 a.2.1 w_0 hp)
noncomputable def kleavesN_C : Ctr := ⟨[.bk 90 true, .v (.sl (.pr (.sl .byte) (.sl .byte)))], [.ow 23 (.arr 32 .byte)], some (fun a => (fun (a0_k : BookA) (a1_l : List ((List UInt8) × List UInt8)) => (a1_l = [] : Prop)) a.1 a.2.1), fun a => (fun (a0_k : BookA) (a1_l : List ((List UInt8) × List UInt8)) => ((([] : List (List UInt8)), ()), (a0_k, ()))) a.1 a.2.1⟩
noncomputable def kleavesN_X : Fx := ⟨seat, some bkT, fns, [(101, kleaf_C)], [], [(3, [0], [])], []⟩
def kleavesN_VC (a0_k : BookA) (a1_l : List ((List UInt8) × List UInt8)) (Q : (List (List UInt8)) → BookA → Prop) : Prop :=
  ∃ (x0 : List (List UInt8) → Int → BookA → Prop), ∃ (x1 : List (List UInt8) → Int → BookA → Nat), x0 ([] : List (List UInt8)) (0 : Int) a0_k ∧ ∀ (x2 : List (List UInt8)) (x3 : Int) (x4 : BookA), x0 x2 x3 x4 → (Ty.arr (32 : Nat) Ty.byte).kd.sl.wf x2 → (Kd.int IntKind.i64).wf x3 → (x3 < (a1_l.length : Int) → ((0 : Int) ≤ x3 ∧ x3 < (a1_l.length : Int)) ∧ ((ix a1_l x3).fst.length + (ix a1_l x3).snd.length ≤ (70368744177664 : Nat) ∧ bookRoom x4) ∧ ((Ty.arr (32 : Nat) Ty.byte).kd.wf (sealOf (4 : Int) ((ix a1_l x3).fst :: (ix a1_l x3).snd :: ([] : List (List UInt8)))) → (x2.length + (sealOf (4 : Int) ((ix a1_l x3).fst :: (ix a1_l x3).snd :: ([] : List (List UInt8))) :: ([] : List (List UInt8))).length) * (32 : Nat) ≤ (140737488355328 : Nat) ∧ x3 < (9223372036854775807 : Int) ∧ x0 (x2 ++ sealOf (4 : Int) ((ix a1_l x3).fst :: (ix a1_l x3).snd :: ([] : List (List UInt8))) :: ([] : List (List UInt8))) (x3 + (1 : Int)) (bookOf x4 (4 : Int) ((ix a1_l x3).fst :: (ix a1_l x3).snd :: ([] : List (List UInt8)))) ∧ x1 (x2 ++ sealOf (4 : Int) ((ix a1_l x3).fst :: (ix a1_l x3).snd :: ([] : List (List UInt8))) :: ([] : List (List UInt8))) (x3 + (1 : Int)) (bookOf x4 (4 : Int) ((ix a1_l x3).fst :: (ix a1_l x3).snd :: ([] : List (List UInt8)))) < x1 x2 x3 x4)) ∧ (¬x3 < (a1_l.length : Int) → Q x2 x4)
theorem kleavesN_ok {a0_k : BookA} {a1_l : List ((List UInt8) × List UInt8)} (w_0 : (Ty.kd (.sl (.pr (.sl .byte) (.sl .byte)))).wf a1_l) (hp : a1_l = []) : kleavesN_VC a0_k a1_l (fun o0 o1 => o0 = ([] : List (List UInt8)) ∧ o1 = a0_k) := by
  subst hp
  unfold kleavesN_VC
  refine ⟨fun out i k => out = [] ∧ i = 0 ∧ k = a0_k, fun _ _ _ => 0, ⟨rfl, rfl, rfl⟩, ?_⟩
  rintro out i k ⟨rfl, rfl, rfl⟩ _ _
  exact ⟨fun h => by simp at h, fun _ => ⟨rfl, rfl⟩⟩
theorem kleavesN_eq : (∀ a, kleavesN_C.pre a → PM.wfP kleavesN_C.pm a (fvc kleavesN_X 200 78 kleavesN_C a (eqO kleavesN_C a))) = (∀ a : BookA × (List ((List UInt8) × List UInt8)) × Unit, ((a.2.1) = []) → (Ty.kd (.sl (.pr (.sl .byte) (.sl .byte)))).wf a.2.1 → kleavesN_VC a.1 a.2.1 (fun o0 o1 => o0 = ([] : List (List UInt8)) ∧ o1 = (a.1))) := by kernel_rfl
theorem kleavesN_k : kleavesN_C.valid Try.prog 78 := ctr_of (X := kleavesN_X) (ok_of seat_ok (fun b hb => by cases hb; exact bkT_ok) fns_ok ⟨kleaf_k, trivial⟩) 200 (kleavesN_eq.mpr fun a hp w_0 => @kleavesN_ok a.1 a.2.1 w_0 hp)
noncomputable def kRootN_C : Ctr := ⟨[.bk 90 true, .v (.sl (.pr (.sl .byte) (.sl .byte)))], [.v (.arr 32 .byte)], some (fun a => (fun (a0_k : BookA) (a1_l : List ((List UInt8) × List UInt8)) => (a1_l = [] ∧ a0_k = none : Prop)) a.1 a.2.1), fun a => (fun (a0_k : BookA) (a1_l : List ((List UInt8) × List UInt8)) => ((noneR, ()), ((bookOf (bookOf a0_k 2 []) 5 [numB 0, sealOf 2 []]), ()))) a.1 a.2.1⟩
noncomputable def kRootN_X : Fx := ⟨seat, some bkT, fns, [(78, kleavesN_C), (53, RootN_C), (77, kwhole_C)], [], [], []⟩
def kRootN_VC (a0_k : BookA) (a1_l : List ((List UInt8) × List UInt8)) (Q : (List UInt8) → BookA → Prop) : Prop :=
  a1_l = ([] : List (List UInt8 × List UInt8)) ∧ ((Ty.arr (32 : Nat) Ty.byte).kd.sl.wf ([] : List (List UInt8)) → (([] : List (List UInt8)) = ([] : List (List UInt8)) ∧ bookRoom a0_k) ∧ ((Ty.arr (32 : Nat) Ty.byte).kd.wf (sealOf (2 : Int) ([] : List (List UInt8))) → ((0 : Int) ≤ (a1_l.length : Int) ∧ bookRoom (bookOf a0_k (2 : Int) ([] : List (List UInt8)))) ∧ ((Ty.arr (32 : Nat) Ty.byte).kd.wf (sealOf (5 : Int) (numB (a1_l.length : Int).toNat :: sealOf (2 : Int) ([] : List (List UInt8)) :: ([] : List (List UInt8)))) → Q (sealOf (5 : Int) (numB (a1_l.length : Int).toNat :: sealOf (2 : Int) ([] : List (List UInt8)) :: ([] : List (List UInt8)))) (bookOf (bookOf a0_k (2 : Int) ([] : List (List UInt8))) (5 : Int) (numB (a1_l.length : Int).toNat :: sealOf (2 : Int) ([] : List (List UInt8)) :: ([] : List (List UInt8)))))))
theorem kRootN_ok {a0_k : BookA} {a1_l : List ((List UInt8) × List UInt8)} (w_0 : (Ty.kd (.sl (.pr (.sl .byte) (.sl .byte)))).wf a1_l) (hp : a1_l = [] ∧ a0_k = none) : kRootN_VC a0_k a1_l (fun o0 o1 => o0 = noneR ∧ o1 = (bookOf (bookOf a0_k 2 []) 5 [numB 0, sealOf 2 []])) := by
  obtain ⟨rfl, rfl⟩ := hp
  have hb : bookRoom none := by rintro y h; cases h
  unfold kRootN_VC
  exact ⟨rfl, fun _ => ⟨⟨rfl, hb⟩, fun _ => ⟨⟨by simp, hb⟩, fun _ => ⟨rfl, rfl⟩⟩⟩⟩
theorem kRootN_eq : (∀ a, kRootN_C.pre a → PM.wfP kRootN_C.pm a (fvc kRootN_X 200 52 kRootN_C a (eqO kRootN_C a))) = (∀ a : BookA × (List ((List UInt8) × List UInt8)) × Unit, ((a.2.1) = [] ∧ (a.1) = none) → (Ty.kd (.sl (.pr (.sl .byte) (.sl .byte)))).wf a.2.1 → kRootN_VC a.1 a.2.1 (fun o0 o1 => o0 = noneR ∧ o1 = (bookOf (bookOf (a.1) 2 []) 5 [numB 0, sealOf 2 []]))) := by kernel_rfl
theorem kRootN_k : kRootN_C.valid Try.prog 52 := ctr_of (X := kRootN_X) (ok_of seat_ok (fun b hb => by cases hb; exact bkT_ok) fns_ok ⟨kleavesN_k, RootN_k, kwhole_k, trivial⟩) 200 (kRootN_eq.mpr fun a hp w_0 => @kRootN_ok a.1 a.2.1 w_0 hp)
noncomputable def CFirst_C : Ctr := ⟨[.bk 90 true, .v (.sl .str)], [.v (.pr (.int .u64) (.pr (.arr 32 .byte) (.pr (.arr 32 .byte) (.pr (.arr 32 .byte) (.pr (.arr 32 .byte) (.arr 32 .byte))))))], some (fun a => (fun (a0_k : BookA) (a1_stops : List (List UInt8)) => (a0_k = none ∧ a1_stops.length ≤ 1048576 ∧ 1 + blobRoom a1_stops ≤ 140737488355328 : Prop)) a.1 a.2.1), fun a => (fun (a0_k : BookA) (a1_stops : List (List UInt8)) => (((firstH a1_stops), ()), ((none : BookA), ()))) a.1 a.2.1⟩
noncomputable def CFirst_X : Fx := ⟨seat, some bkT, fns, [(52, kRootN_C), (53, RootN_C), (54, WSeal_C)], [], [], [(2, [0, 1], [.o 0 3, .o 1 3, .o 2 3, .o 4 3, .o 5 3, .o 3 1, .o 6 1, .o 7 3, .o 8 1])]⟩
def CFirst_VC (a0_k : BookA) (a1_stops : List (List UInt8)) (Q : (Int × (List UInt8) × (List UInt8) × (List UInt8) × (List UInt8) × List UInt8) → BookA → Prop) : Prop :=
  (([] : List (List UInt8 × List UInt8)) = ([] : List (List UInt8 × List UInt8)) ∧ a0_k = (none : Option (List Nt × Int))) ∧ ((Ty.arr (32 : Nat) Ty.byte).kd.wf noneR → (([] : List (List UInt8)) = ([] : List (List UInt8)) ∧ bookRoom (bookOf (bookOf a0_k (2 : Int) ([] : List (List UInt8))) (5 : Int) (numB (0 : Nat) :: sealOf (2 : Int) ([] : List (List UInt8)) :: ([] : List (List UInt8))))) ∧ ((Ty.arr (32 : Nat) Ty.byte).kd.wf (sealOf (2 : Int) ([] : List (List UInt8))) → (a1_stops.length ≤ (1048576 : Nat) ∧ (1 : Nat) + blobRoom a1_stops ≤ (140737488355328 : Nat) ∧ bookRoom (bookOf (bookOf (bookOf a0_k (2 : Int) ([] : List (List UInt8))) (5 : Int) (numB (0 : Nat) :: sealOf (2 : Int) ([] : List (List UInt8)) :: ([] : List (List UInt8)))) (2 : Int) ([] : List (List UInt8)))) ∧ ((Ty.arr (32 : Nat) Ty.byte).kd.wf (sealOf (8 : Int) a1_stops) → Q (((Ty.int IntKind.u64).pr ((Ty.arr (32 : Nat) Ty.byte).pr ((Ty.arr (32 : Nat) Ty.byte).pr ((Ty.arr (32 : Nat) Ty.byte).pr ((Ty.arr (32 : Nat) Ty.byte).pr (Ty.arr (32 : Nat) Ty.byte)))))).kd.z.fst, ((Ty.int IntKind.u64).pr ((Ty.arr (32 : Nat) Ty.byte).pr ((Ty.arr (32 : Nat) Ty.byte).pr ((Ty.arr (32 : Nat) Ty.byte).pr ((Ty.arr (32 : Nat) Ty.byte).pr (Ty.arr (32 : Nat) Ty.byte)))))).kd.z.snd.fst, noneR, noneR, sealOf (2 : Int) ([] : List (List UInt8)), sealOf (8 : Int) a1_stops) (bookOf (bookOf (bookOf (bookOf a0_k (2 : Int) ([] : List (List UInt8))) (5 : Int) (numB (0 : Nat) :: sealOf (2 : Int) ([] : List (List UInt8)) :: ([] : List (List UInt8)))) (2 : Int) ([] : List (List UInt8))) (8 : Int) a1_stops))))
theorem CFirst_ok {a0_k : BookA} {a1_stops : List (List UInt8)} (w_0 : (Ty.kd (.sl .str)).wf a1_stops) (hp : a0_k = none ∧ a1_stops.length ≤ 1048576 ∧ 1 + blobRoom a1_stops ≤ 140737488355328) : CFirst_VC a0_k a1_stops (fun o0 o1 => o0 = (firstH a1_stops) ∧ o1 = (none : BookA)) := by
  obtain ⟨rfl, h1, h2⟩ := hp
  have hb : bookRoom none := by rintro y h; cases h
  unfold CFirst_VC
  exact ⟨⟨rfl, rfl⟩, fun _ => ⟨⟨rfl, hb⟩, fun _ => ⟨⟨h1, h2, hb⟩, fun _ => ⟨rfl, rfl⟩⟩⟩⟩
theorem CFirst_eq : (∀ a, CFirst_C.pre a → PM.wfP CFirst_C.pm a (fvc CFirst_X 200 30 CFirst_C a (eqO CFirst_C a))) = (∀ a : BookA × (List (List UInt8)) × Unit, ((a.1) = none ∧ (a.2.1).length ≤ 1048576 ∧ 1 + blobRoom (a.2.1) ≤ 140737488355328) → (Ty.kd (.sl .str)).wf a.2.1 → CFirst_VC a.1 a.2.1 (fun o0 o1 => o0 = (firstH (a.2.1)) ∧ o1 = (none : BookA))) := by kernel_rfl
theorem CFirst_k : CFirst_C.valid Try.prog 30 := ctr_of (X := CFirst_X) (ok_of seat_ok (fun b hb => by cases hb; exact bkT_ok) fns_ok ⟨kRootN_k, RootN_k, WSeal_k, trivial⟩) 200 (CFirst_eq.mpr fun a hp w_0 => @CFirst_ok a.1 a.2.1 w_0 hp)
end Go.Proofs.Ytfbhiilolpamaaa

/- What the old form of chain.Bytes asks of the new: Num, Sums. -/
set_option linter.unusedVariables false
set_option maxRecDepth 100000
set_option maxHeartbeats 2000000
namespace Go.Proofs.Ytfbhiilolpamaaa
open Go Go.RowKit Go.Inc
theorem Num_c {w0 : World} {K0 : Ghost} {a0_b_v : Value} {a0_b : (List UInt8)} {a1_l_v : Value} {a1_l : (List Int)} (hM0 : Models w0 K0) (h_a0_b : kd_l_u8.V K0 a0_b a0_b_v) (h_a1_l : (Kd.sl (Kd.int .u64)).V K0 a1_l a1_l_v) (hp : a0_b.length + 9 * a1_l.length ≤ 140737488355328) : Calls Try.prog 58 #[a0_b_v, a1_l_v] w0 (fun e w' => ∃ (K' : Ghost) (r0 : Value), e = .returned r0 ∧ Ext NX w0 K0 w' K' ∧ Models w' K' ∧ Own Kd.byte 5 w' K' (a0_b ++ numAll a1_l) r0 ∧ (∀ g, ob r0 = some g → w0.heap.size ≤ g)) :=
  un_ow (k := .byte) Num_k (fun _ => rfl) (a := (a0_b, a1_l, ())) (vs := [a0_b_v, a1_l_v]) hp hM0 fun θ => relL2 (SVal.of_rel (t := .sl .byte) h_a0_b) (SVal.of_rel (t := .sl (.int .u64)) h_a1_l)
theorem PSums_c {w0 : World} {K0 : Ghost} {a0_b_v : Value} {a0_b : (List UInt8)} {a1_l_v : Value} {a1_l : (List (List UInt8))} (hM0 : Models w0 K0) (h_a0_b : kd_l_u8.V K0 a0_b a0_b_v) (h_a1_l : (Kd.sl kd_a32_u8).V K0 a1_l a1_l_v) (hp : a0_b.length + a1_l.flatten.length ≤ 140737488355328 ∧ ∀ x ∈ a1_l, x.length = 32) : Calls Try.prog 60 #[a0_b_v, a1_l_v] w0 (fun e w' => ∃ (K' : Ghost) (r0 : Value), e = .returned r0 ∧ Ext NX w0 K0 w' K' ∧ Models w' K' ∧ Own Kd.byte 5 w' K' (a0_b ++ a1_l.flatten) r0 ∧ (∀ g, ob r0 = some g → w0.heap.size ≤ g)) :=
  un_ow (k := .byte) PSums_k (fun _ => rfl) (a := (a0_b, a1_l, ())) (vs := [a0_b_v, a1_l_v]) hp hM0 fun θ => relL2 (SVal.of_rel (t := .sl .byte) h_a0_b) (SVal.of_rel (t := .sl (.arr 32 .byte)) h_a1_l)
end Go.Proofs.Ytfbhiilolpamaaa

/- Functions in the old form: what a call must answer for (_VC), that it does (_ok), the walk through its code (_walk), its contract (_c). -/
set_option linter.unusedVariables false
set_option maxRecDepth 100000
set_option maxHeartbeats 2000000
namespace Go.Proofs.Ytfbhiilolpamaaa
open Go Go.RowKit Go.Inc
abbrev kd_l_a32_u8 : Kd (List (List UInt8)) := (Kd.sl kd_a32_u8)
abbrev kd_Sapi_Head : Kd (Int × ((List UInt8) × ((List UInt8) × ((List UInt8) × ((List UInt8) × (List UInt8)))))) := (Kd.pr (Kd.int .u64) (Kd.pr kd_a32_u8 (Kd.pr kd_a32_u8 (Kd.pr kd_a32_u8 (Kd.pr kd_a32_u8 kd_a32_u8)))))
abbrev kd_a5_rpt : Kd (List Value) := (Kd.arr 5 Kd.rpt)
theorem ty104 : TyOk Try.prog 104 kd_a5_rpt 40 := ⟨⟨Try.t104, _, Try.type104, rfl, rfl, rfl, rfl, rfl⟩, ⟨_, Try.underlying104, rfl⟩⟩
theorem ty103r : TyOk Try.prog 103 Kd.rpt 8 := ⟨⟨Try.t103, _, Try.type103, rfl, rfl, rfl, rfl, rfl⟩, ⟨_, Try.underlying103, rfl⟩⟩
def CBytes_VC (a0_h : (Int × ((List UInt8) × ((List UInt8) × ((List UInt8) × ((List UInt8) × (List UInt8))))))) (Q : (List UInt8) → Prop) : Prop :=
  (([] : List UInt8).length + 9 * [a0_h.1].length ≤ 140737488355328) ∧ ((kd_l_u8.wf (([] : List UInt8) ++ numAll [a0_h.1])) → (((([] : List UInt8) ++ numAll [a0_h.1]).length + [a0_h.2.1].flatten.length ≤ 140737488355328 ∧ ∀ x ∈ [a0_h.2.1], x.length = 32) ∧ ((kd_l_u8.wf ((([] : List UInt8) ++ numAll [a0_h.1]) ++ [a0_h.2.1].flatten)) → ((((([] : List UInt8) ++ numAll [a0_h.1]) ++ [a0_h.2.1].flatten).length + [a0_h.2.2.1].flatten.length ≤ 140737488355328 ∧ ∀ x ∈ [a0_h.2.2.1], x.length = 32) ∧ ((kd_l_u8.wf (((([] : List UInt8) ++ numAll [a0_h.1]) ++ [a0_h.2.1].flatten) ++ [a0_h.2.2.1].flatten)) → (((((([] : List UInt8) ++ numAll [a0_h.1]) ++ [a0_h.2.1].flatten) ++ [a0_h.2.2.1].flatten).length + [a0_h.2.2.2.1].flatten.length ≤ 140737488355328 ∧ ∀ x ∈ [a0_h.2.2.2.1], x.length = 32) ∧ ((kd_l_u8.wf ((((([] : List UInt8) ++ numAll [a0_h.1]) ++ [a0_h.2.1].flatten) ++ [a0_h.2.2.1].flatten) ++ [a0_h.2.2.2.1].flatten)) → ((((((([] : List UInt8) ++ numAll [a0_h.1]) ++ [a0_h.2.1].flatten) ++ [a0_h.2.2.1].flatten) ++ [a0_h.2.2.2.1].flatten).length + [a0_h.2.2.2.2.1].flatten.length ≤ 140737488355328 ∧ ∀ x ∈ [a0_h.2.2.2.2.1], x.length = 32) ∧ ((kd_l_u8.wf (((((([] : List UInt8) ++ numAll [a0_h.1]) ++ [a0_h.2.1].flatten) ++ [a0_h.2.2.1].flatten) ++ [a0_h.2.2.2.1].flatten) ++ [a0_h.2.2.2.2.1].flatten)) → (((((((([] : List UInt8) ++ numAll [a0_h.1]) ++ [a0_h.2.1].flatten) ++ [a0_h.2.2.1].flatten) ++ [a0_h.2.2.2.1].flatten) ++ [a0_h.2.2.2.2.1].flatten).length + [a0_h.2.2.2.2.2].flatten.length ≤ 140737488355328 ∧ ∀ x ∈ [a0_h.2.2.2.2.2], x.length = 32) ∧ ((kd_l_u8.wf ((((((([] : List UInt8) ++ numAll [a0_h.1]) ++ [a0_h.2.1].flatten) ++ [a0_h.2.2.1].flatten) ++ [a0_h.2.2.2.1].flatten) ++ [a0_h.2.2.2.2.1].flatten) ++ [a0_h.2.2.2.2.2].flatten)) → (Q ((((((([] : List UInt8) ++ numAll [a0_h.1]) ++ [a0_h.2.1].flatten) ++ [a0_h.2.2.1].flatten) ++ [a0_h.2.2.2.1].flatten) ++ [a0_h.2.2.2.2.1].flatten) ++ [a0_h.2.2.2.2.2].flatten)))))))))))))
theorem CBytes_ok {a0_h : (Int × ((List UInt8) × ((List UInt8) × ((List UInt8) × ((List UInt8) × (List UInt8))))))} (w_0 : kd_Sapi_Head.wf a0_h) : CBytes_VC a0_h (fun o0 => o0 = (hdBytes a0_h)) := by
  have hw : HdWf a0_h := ⟨w_0.1.1, w_0.1.2, w_0.2.1.1, w_0.2.2.1.1, w_0.2.2.2.1.1, w_0.2.2.2.2.1.1, w_0.2.2.2.2.2.1⟩
  have hn := numB_length (n := a0_h.1.toNat) (by have := hw.n1; omega)
  have ha := hw.a; have hb := hw.b; have hc := hw.c; have hd := hw.d; have he := hw.e
  have en : numAll [a0_h.1] = numB a0_h.1.toNat := by simp [numAll]
  unfold CBytes_VC
  rw [en]
  refine ⟨by simp, fun _ => ⟨⟨by simp; omega, by simp [ha]⟩, fun _ => ⟨⟨by simp; omega, by simp [hb]⟩, fun _ => ⟨⟨by simp; omega, by simp [hc]⟩, fun _ => ⟨⟨by simp; omega, by simp [hd]⟩, fun _ => ⟨⟨by simp; omega, by simp [he]⟩, fun _ => ?_⟩⟩⟩⟩⟩⟩
  simp [hdBytes]

theorem CBytes_walk {w0 : World} {K0 : Ghost} {a0_h_v : Value} {a0_h : (Int × ((List UInt8) × ((List UInt8) × ((List UInt8) × ((List UInt8) × (List UInt8))))))} {Q : (List UInt8) → Prop} (hM0 : Models w0 K0) (h_a0_h : kd_Sapi_Head.V K0 a0_h a0_h_v) (h : CBytes_VC a0_h Q) : Calls Try.prog 32 #[a0_h_v] w0 (fun e w' => ∃ (K' : Ghost) (r0 : Value) (o0 : (List UInt8)), e = .returned r0 ∧ Q o0 ∧ Ext NX w0 K0 w' K' ∧ Models w' K' ∧ Own Kd.byte 5 w' K' o0 r0 ∧ (∀ g, ob r0 = some g → w0.heap.size ≤ g)) := by
  unfold CBytes_VC at h
  have hE0 : Ext NX w0 K0 w0 K0 := Ext.refl _ _ _
  refine calls_gen fun R hR => ?_
  refine calls_env (args := [a0_h_v]) Try.func32 rfl (Nat.le_of_ble_eq_true rfl) ?_
  refine WP_seq ?_
  refine WP_region ?_
  refine WL_eff rfl rfl (St_B (S_box hM0 rfl h_a0_h) ?_)
  rintro b2 w2 (hB2 : Bx kd_Sapi_Head _ _ _ _ _ a0_h) hS2 hM2 hge2
  have hE2 := hE0.andN hS2
  have hR4 : Own Kd.byte 5 w2 K0 ([] : List UInt8) (.slice none 0 0) := Own.nil
  refine WL_pure (.slice none 0 0) (R_as rfl) rfl rfl ?_
  refine WL_nil ?_
  refine WP_seq ?_
  refine WP_region ?_
  refine WL_pure (.pointer (some ⟨b2, 0 + 0, none⟩)) (R_fa rfl Try.underlying67 rfl rfl ty65 rfl) rfl rfl ?_
  refine WL_L hM2 (S_ldB (Foc.fst (Kd.int .u64) (Kd.pr kd_a32_u8 (Kd.pr kd_a32_u8 (Kd.pr kd_a32_u8 (Kd.pr kd_a32_u8 kd_a32_u8))))) rfl ty65 hB2 (by first | rfl | simp | omega) (fun h => h)) rfl rfl ?_
  rintro v5 (hV5 : (Kd.int .u64).V _ a0_h.1 _)
  obtain rfl := int_form hV5
  refine WL_eff rfl rfl (St_S0 (S_bsl (k := (Kd.int .u64)) (l := [(a0_h.1, (.int .u64 a0_h.1))]) hM2 rfl (by intro p hp; simp only [List.mem_cons, List.not_mem_nil, or_false] at hp; subst hp; exact (int_V (hV5).wf)) rfl Try.underlying137 ty65 rfl rfl) ?_)
  rintro v6 w6 K6 (hO6 : Own (Kd.int .u64) 65 w6 K6 [a0_h.1] v6) hS6 hM6 hg6
  have hE6 := hE2.andN hS6
  have hR8 : Own Kd.byte 5 w6 K6 ([] : List UInt8) (.slice none 0 0) := Own.nil
  have hR9 := (hB2.extN hS6)
  have hR10 := (hR4.extN hS6)
  obtain ⟨hp12, h⟩ := h
  refine WL_eff rfl rfl (St_call (R_call Try.call58 rfl) ((Num_c hM6 hR8.V hO6.V hp12).mono ?_))
  rintro _ w11 ⟨K11, v11_0, rfl, hS11, hM11, hO11_0, hg11_0⟩
  refine ⟨v11_0, rfl, ?_⟩
  have hE11 := hE6.andN hS11
  have h := h hO11_0.wf
  refine WL_pure v11_0 (R_as rfl) rfl rfl ?_
  refine WL_nil ?_
  refine WP_seq ?_
  refine WP_seq ?_
  refine WP_region ?_
  refine WL_eff rfl rfl (St_call (R_call Try.call59 rfl) (?_))
  refine calls_gen fun R14 hR14 => ?_
  refine calls_env (args := [(.pointer (some ⟨b2, 0, none⟩))]) Try.func59 rfl (Nat.le_of_ble_eq_true rfl) ?_
  refine WP_seq ?_
  refine WP_region ?_
  refine WL_eff rfl rfl (St_B (S_alloc hM11 ty104) ?_)
  rintro b15 w15 (hB15 : Bx kd_a5_rpt _ _ _ _ _ (List.replicate 5 (.pointer none))) hS15 hM15 hge15
  have hE15 := hE11.andN hS15
  have hR17 := (hR9.extN hS11)
  refine WL_nil ?_
  refine WP_seq ?_
  refine WP_ordD (K := K11) (fun c => c = b15 ∨ w15.heap.size ≤ c) [.o 0 2, .o 1 2, .o 2 2, .o 3 2, .o 4 2, .o 5 2, .o 6 2, .o 7 2, .o 8 2, .o 9 2, .o 10 2, .o 11 2, .o 12 2, .o 13 2, .o 14 2, .o 15 2, .o 16 1] (by kernel_rfl) (by kernel_rfl) hM15 ?_
  rintro w18 hS18 hM18
  have hE18 := hE15.andN hS18
  refine WO_pure (.pointer (some ⟨b2, 0, none⟩)) rfl l0 hM18 (fun _ => R_mv rfl) rfl (gN rfl) rfl ?_
  refine WO_pure (.pointer (some ⟨b2, 0, none⟩)) rfl l0 hM18 (fun _ => R_nilck rfl) rfl (gN rfl) rfl ?_
  refine WO_pure (.pointer (some ⟨b2, 0 + 1, none⟩)) rfl l0 hM18 (fun _ => R_fa rfl Try.underlying67 rfl rfl ty23 rfl) rfl (gN rfl) rfl ?_
  refine WO_pure (.pointer (some ⟨b2, 0, none⟩)) rfl l0 hM18 (fun _ => R_mv rfl) rfl (gN rfl) rfl ?_
  refine WO_pure (.pointer (some ⟨b2, 0, none⟩)) rfl l0 hM18 (fun _ => R_nilck rfl) rfl (gN rfl) rfl ?_
  refine WO_pure (.pointer (some ⟨b2, 0 + 33, none⟩)) rfl l0 hM18 (fun _ => R_fa rfl Try.underlying67 rfl rfl ty23 rfl) rfl (gN rfl) rfl ?_
  refine WO_pure (.pointer (some ⟨b2, 0, none⟩)) rfl l0 hM18 (fun _ => R_mv rfl) rfl (gN rfl) rfl ?_
  refine WO_pure (.pointer (some ⟨b2, 0, none⟩)) rfl l0 hM18 (fun _ => R_nilck rfl) rfl (gN rfl) rfl ?_
  refine WO_pure (.pointer (some ⟨b2, 0 + 65, none⟩)) rfl l0 hM18 (fun _ => R_fa rfl Try.underlying67 rfl rfl ty23 rfl) rfl (gN rfl) rfl ?_
  refine WO_pure (.pointer (some ⟨b2, 0, none⟩)) rfl l0 hM18 (fun _ => R_mv rfl) rfl (gN rfl) rfl ?_
  refine WO_pure (.pointer (some ⟨b2, 0, none⟩)) rfl l0 hM18 (fun _ => R_nilck rfl) rfl (gN rfl) rfl ?_
  refine WO_pure (.pointer (some ⟨b2, 0 + 97, none⟩)) rfl l0 hM18 (fun _ => R_fa rfl Try.underlying67 rfl rfl ty23 rfl) rfl (gN rfl) rfl ?_
  refine WO_pure (.pointer (some ⟨b2, 0, none⟩)) rfl l0 hM18 (fun _ => R_mv rfl) rfl (gN rfl) rfl ?_
  refine WO_pure (.pointer (some ⟨b2, 0, none⟩)) rfl l0 hM18 (fun _ => R_nilck rfl) rfl (gN rfl) rfl ?_
  refine WO_pure (.pointer (some ⟨b2, 0 + 129, none⟩)) rfl l0 hM18 (fun _ => R_fa rfl Try.underlying67 rfl rfl ty23 rfl) rfl (gN rfl) rfl ?_
  refine WO_V rfl l0 hM18 (S_bldA (k := Kd.rpt) (l := [((.pointer (some ⟨b2, 0 + 1, none⟩)), (.pointer (some ⟨b2, 0 + 1, none⟩))), ((.pointer (some ⟨b2, 0 + 33, none⟩)), (.pointer (some ⟨b2, 0 + 33, none⟩))), ((.pointer (some ⟨b2, 0 + 65, none⟩)), (.pointer (some ⟨b2, 0 + 65, none⟩))), ((.pointer (some ⟨b2, 0 + 97, none⟩)), (.pointer (some ⟨b2, 0 + 97, none⟩))), ((.pointer (some ⟨b2, 0 + 129, none⟩)), (.pointer (some ⟨b2, 0 + 129, none⟩)))]) (K := K11) ty104 ty103r Try.underlying104 rfl (by intro p hp; simp only [List.mem_cons, List.not_mem_nil, or_false] at hp; rcases hp with rfl | rfl | rfl | rfl | rfl; exact (rw_V (by rfl)); exact (rw_V (by rfl)); exact (rw_V (by rfl)); exact (rw_V (by rfl)); exact (rw_V (by rfl))) rfl) rfl (gN rfl) rfl ?_
  rintro v19 (hV19 : kd_a5_rpt.V _ [(.pointer (some ⟨b2, 0 + 1, none⟩)), (.pointer (some ⟨b2, 0 + 33, none⟩)), (.pointer (some ⟨b2, 0 + 65, none⟩)), (.pointer (some ⟨b2, 0 + 97, none⟩)), (.pointer (some ⟨b2, 0 + 129, none⟩))] _)
  have hR22 := (hB15.extN hS18)
  refine WO_eff rfl (gN rfl) rfl (St_St (S_stB (Foc.id _) hM18 rfl rfl hV19 ty104 hR22 (by first | rfl | simp | omega)) ?_)
  rintro w21 (hB21 : Bx kd_a5_rpt _ _ b15 [] [] [(.pointer (some ⟨b2, 0 + 1, none⟩)), (.pointer (some ⟨b2, 0 + 33, none⟩)), (.pointer (some ⟨b2, 0 + 65, none⟩)), (.pointer (some ⟨b2, 0 + 97, none⟩)), (.pointer (some ⟨b2, 0 + 129, none⟩))]) hS21 hM21
  refine ⟨K11, (hS21.weak (fun c hlt hx => (.inl (hx)))), hM21, ?_⟩
  have hE21 := hE18.comp hS21 (fun c hx hlt => (by subst hx; exact (fun hlt => absurd hlt (Nat.not_lt.2 (Nat.le_trans hE11.size hge15))) hlt))
  refine WO_nil ?_
  refine WP_ret ?_
  refine endS_ret hR14 (resE_B rfl rfl ty104 hB21) ?_
  rintro v23 (hV23 : kd_a5_rpt.V _ [(.pointer (some ⟨b2, 0 + 1, none⟩)), (.pointer (some ⟨b2, 0 + 33, none⟩)), (.pointer (some ⟨b2, 0 + 65, none⟩)), (.pointer (some ⟨b2, 0 + 97, none⟩)), (.pointer (some ⟨b2, 0 + 129, none⟩))] _)
  refine ⟨v23, rfl, ?_⟩
  refine WL_pure (.int .i64 0) (R_mv rfl) rfl rfl ?_
  refine WL_nil ?_
  refine WP_block ?_
  refine WP_loopU ?_
  refine LI_round ?_
  refine WP_seq ?_
  refine WP_region ?_
  refine WL_pure (.bool true) ((R_lss (a := 0) (b := 5) rfl rfl).trans (by rfl)) rfl rfl ?_
  refine WL_nil ?_
  refine WP_seq ?_
  refine WP_cond true rfl (fun _ => ?_) (fun hc => by cases hc)
  refine WP_skip ?_
  refine WP_seq ?_
  refine WP_block ?_
  refine WP_seq ?_
  refine WP_region ?_
  refine WL_V (S_ixv rfl hV23 rfl Try.underlying104 ty103r (by decide) (by decide)) rfl rfl ?_
  rintro v25 (hV25 : Kd.rpt.V _ (.pointer (some ⟨b2, 0 + 1, none⟩)) _)
  obtain rfl := rw_form hV25
  refine WL_pure (.pointer (some ⟨b2, 0 + 1, none⟩)) (R_as rfl) rfl rfl ?_
  refine WL_nil ?_
  refine WP_region ?_
  refine WL_pure v11_0 (R_mv rfl) rfl rfl ?_
  refine WL_pure (.pointer (some ⟨b2, 0 + 1, none⟩)) (R_mv rfl) rfl rfl ?_
  refine WL_pure (.pointer (some ⟨b2, 0 + 1, none⟩)) (R_nilck rfl) rfl rfl ?_
  have hR27 := (((hR9.extN hS11).extN hS15).extN hS18)
  have hR28 := (hR27.ext hS21 (fun hx => (fun he => (ne_new hge15 hR17.lt) he.symm) hx))
  refine WL_L hM21 (S_ldB (Foc.trans (Foc.snd (Kd.int .u64) (Kd.pr kd_a32_u8 (Kd.pr kd_a32_u8 (Kd.pr kd_a32_u8 (Kd.pr kd_a32_u8 kd_a32_u8))))) (Foc.fst kd_a32_u8 (Kd.pr kd_a32_u8 (Kd.pr kd_a32_u8 (Kd.pr kd_a32_u8 kd_a32_u8))))) rfl ty23 hR28 (by first | rfl | simp | omega) (fun h => h)) rfl rfl ?_
  rintro v26 (hV26 : kd_a32_u8.V _ a0_h.2.1 _)
  refine WL_eff rfl rfl (St_S0 (S_bsl (k := kd_a32_u8) (l := [(a0_h.2.1, v26)]) hM21 rfl (by intro p hp; simp only [List.mem_cons, List.not_mem_nil, or_false] at hp; subst hp; exact hV26) rfl Try.underlying130 ty23 rfl rfl) ?_)
  rintro v30 w30 K30 (hO30 : Own kd_a32_u8 23 w30 K30 [a0_h.2.1] v30) hS30 hM30 hg30
  have hE30 := hE21.andN hS30
  have hR32 := (hR28.extN hS30)
  have hR33 := (((hR10.extN hS11).extN hS15).extN hS18)
  have hR34 := ((hR33.ext hS21 (fun g hg hx => (fun g hg hx => hR33.box hR22 (hg.trans (congrArg some hx))) g hg hx)).extN hS30)
  have hR35 := (((hO6.extN hS11).extN hS15).extN hS18)
  have hR36 := ((hR35.ext hS21 (fun g hg hx => (fun g hg hx => hR35.box hR22 (hg.trans (congrArg some hx))) g hg hx)).extN hS30)
  have hR37 := (((hR8.extN hS11).extN hS15).extN hS18)
  have hR38 := ((hR37.ext hS21 (fun g hg hx => (fun g hg hx => hR37.box hR22 (hg.trans (congrArg some hx))) g hg hx)).extN hS30)
  have hR39 := ((hO11_0.extN hS15).extN hS18)
  have hR40 := ((hR39.ext hS21 (fun g hg hx => (fun g hg hx => hR39.box hR22 (hg.trans (congrArg some hx))) g hg hx)).extN hS30)
  have hR41 := (hB21.extN hS30)
  obtain ⟨hp43, h⟩ := h
  refine WL_eff rfl rfl (St_call (R_call Try.call60 rfl) ((PSums_c hM30 hR40.V hO30.V hp43).mono ?_))
  rintro _ w42 ⟨K42, v42_0, rfl, hS42, hM42, hO42_0, hg42_0⟩
  refine ⟨v42_0, rfl, ?_⟩
  have hE42 := hE30.andN hS42
  have h := h hO42_0.wf
  refine WL_pure v42_0 (R_as rfl) rfl rfl ?_
  refine WL_nil ?_
  refine WP_region ?_
  refine WL_pure (.int .i64 1) ((R_add (a := 0) (b := 1) rfl rfl).trans (by rfl)) rfl rfl ?_
  refine WL_pure (.int .i64 1) (R_mv rfl) rfl rfl ?_
  refine WL_nil ?_
  refine LI_round ?_
  refine WP_seq ?_
  refine WP_region ?_
  refine WL_pure (.bool true) ((R_lss (a := 1) (b := 5) rfl rfl).trans (by rfl)) rfl rfl ?_
  refine WL_nil ?_
  refine WP_seq ?_
  refine WP_cond true rfl (fun _ => ?_) (fun hc => by cases hc)
  refine WP_skip ?_
  refine WP_seq ?_
  refine WP_block ?_
  refine WP_seq ?_
  refine WP_region ?_
  refine WL_V (S_ixv rfl (hV23.mono (hS30.le.trans hS42.le)) rfl Try.underlying104 ty103r (by decide) (by decide)) rfl rfl ?_
  rintro v45 (hV45 : Kd.rpt.V _ (.pointer (some ⟨b2, 0 + 33, none⟩)) _)
  obtain rfl := rw_form hV45
  refine WL_pure (.pointer (some ⟨b2, 0 + 33, none⟩)) (R_as rfl) rfl rfl ?_
  refine WL_nil ?_
  refine WP_region ?_
  refine WL_pure v42_0 (R_mv rfl) rfl rfl ?_
  refine WL_pure (.pointer (some ⟨b2, 0 + 33, none⟩)) (R_mv rfl) rfl rfl ?_
  refine WL_pure (.pointer (some ⟨b2, 0 + 33, none⟩)) (R_nilck rfl) rfl rfl ?_
  have hR47 := (hR32.extN hS42)
  refine WL_L hM42 (S_ldB (Foc.trans (Foc.snd (Kd.int .u64) (Kd.pr kd_a32_u8 (Kd.pr kd_a32_u8 (Kd.pr kd_a32_u8 (Kd.pr kd_a32_u8 kd_a32_u8))))) (Foc.trans (Foc.snd kd_a32_u8 (Kd.pr kd_a32_u8 (Kd.pr kd_a32_u8 (Kd.pr kd_a32_u8 kd_a32_u8)))) (Foc.fst kd_a32_u8 (Kd.pr kd_a32_u8 (Kd.pr kd_a32_u8 kd_a32_u8))))) rfl ty23 hR47 (by first | rfl | simp | omega) (fun h => h)) rfl rfl ?_
  rintro v46 (hV46 : kd_a32_u8.V _ a0_h.2.2.1 _)
  refine WL_eff rfl rfl (St_S0 (S_bsl (k := kd_a32_u8) (l := [(a0_h.2.2.1, v46)]) hM42 rfl (by intro p hp; simp only [List.mem_cons, List.not_mem_nil, or_false] at hp; subst hp; exact hV46) rfl Try.underlying130 ty23 rfl rfl) ?_)
  rintro v49 w49 K49 (hO49 : Own kd_a32_u8 23 w49 K49 [a0_h.2.2.1] v49) hS49 hM49 hg49
  have hE49 := hE42.andN hS49
  have hR51 := (hO30.extN hS42)
  have hR52 := (hR47.extN hS49)
  have hR53 := ((hR34.extN hS42).extN hS49)
  have hR54 := ((hR36.extN hS42).extN hS49)
  have hR55 := ((hR38.extN hS42).extN hS49)
  have hR56 := ((hR40.extN hS42).extN hS49)
  have hR57 := ((hR41.extN hS42).extN hS49)
  have hR58 := ((hO30.extN hS42).extN hS49)
  have hR59 := (hO42_0.extN hS49)
  obtain ⟨hp61, h⟩ := h
  refine WL_eff rfl rfl (St_call (R_call Try.call60 rfl) ((PSums_c hM49 hR59.V hO49.V hp61).mono ?_))
  rintro _ w60 ⟨K60, v60_0, rfl, hS60, hM60, hO60_0, hg60_0⟩
  refine ⟨v60_0, rfl, ?_⟩
  have hE60 := hE49.andN hS60
  have h := h hO60_0.wf
  refine WL_pure v60_0 (R_as rfl) rfl rfl ?_
  refine WL_nil ?_
  refine WP_region ?_
  refine WL_pure (.int .i64 2) ((R_add (a := 1) (b := 1) rfl rfl).trans (by rfl)) rfl rfl ?_
  refine WL_pure (.int .i64 2) (R_mv rfl) rfl rfl ?_
  refine WL_nil ?_
  refine LI_round ?_
  refine WP_seq ?_
  refine WP_region ?_
  refine WL_pure (.bool true) ((R_lss (a := 2) (b := 5) rfl rfl).trans (by rfl)) rfl rfl ?_
  refine WL_nil ?_
  refine WP_seq ?_
  refine WP_cond true rfl (fun _ => ?_) (fun hc => by cases hc)
  refine WP_skip ?_
  refine WP_seq ?_
  refine WP_block ?_
  refine WP_seq ?_
  refine WP_region ?_
  refine WL_V (S_ixv rfl (hV23.mono (hS30.le.trans (hS42.le.trans (hS49.le.trans hS60.le)))) rfl Try.underlying104 ty103r (by decide) (by decide)) rfl rfl ?_
  rintro v63 (hV63 : Kd.rpt.V _ (.pointer (some ⟨b2, 0 + 65, none⟩)) _)
  obtain rfl := rw_form hV63
  refine WL_pure (.pointer (some ⟨b2, 0 + 65, none⟩)) (R_as rfl) rfl rfl ?_
  refine WL_nil ?_
  refine WP_region ?_
  refine WL_pure v60_0 (R_mv rfl) rfl rfl ?_
  refine WL_pure (.pointer (some ⟨b2, 0 + 65, none⟩)) (R_mv rfl) rfl rfl ?_
  refine WL_pure (.pointer (some ⟨b2, 0 + 65, none⟩)) (R_nilck rfl) rfl rfl ?_
  have hR65 := (hR52.extN hS60)
  refine WL_L hM60 (S_ldB (Foc.trans (Foc.snd (Kd.int .u64) (Kd.pr kd_a32_u8 (Kd.pr kd_a32_u8 (Kd.pr kd_a32_u8 (Kd.pr kd_a32_u8 kd_a32_u8))))) (Foc.trans (Foc.snd kd_a32_u8 (Kd.pr kd_a32_u8 (Kd.pr kd_a32_u8 (Kd.pr kd_a32_u8 kd_a32_u8)))) (Foc.trans (Foc.snd kd_a32_u8 (Kd.pr kd_a32_u8 (Kd.pr kd_a32_u8 kd_a32_u8))) (Foc.fst kd_a32_u8 (Kd.pr kd_a32_u8 kd_a32_u8))))) rfl ty23 hR65 (by first | rfl | simp | omega) (fun h => h)) rfl rfl ?_
  rintro v64 (hV64 : kd_a32_u8.V _ a0_h.2.2.2.1 _)
  refine WL_eff rfl rfl (St_S0 (S_bsl (k := kd_a32_u8) (l := [(a0_h.2.2.2.1, v64)]) hM60 rfl (by intro p hp; simp only [List.mem_cons, List.not_mem_nil, or_false] at hp; subst hp; exact hV64) rfl Try.underlying130 ty23 rfl rfl) ?_)
  rintro v67 w67 K67 (hO67 : Own kd_a32_u8 23 w67 K67 [a0_h.2.2.2.1] v67) hS67 hM67 hg67
  have hE67 := hE60.andN hS67
  have hR69 := (hR58.extN hS60)
  have hR70 := (hO49.extN hS60)
  have hR71 := (hR65.extN hS67)
  have hR72 := ((hR53.extN hS60).extN hS67)
  have hR73 := ((hR54.extN hS60).extN hS67)
  have hR74 := ((hR55.extN hS60).extN hS67)
  have hR75 := ((hR56.extN hS60).extN hS67)
  have hR76 := ((hR57.extN hS60).extN hS67)
  have hR77 := ((hR58.extN hS60).extN hS67)
  have hR78 := ((hR59.extN hS60).extN hS67)
  have hR79 := ((hO49.extN hS60).extN hS67)
  have hR80 := (hO60_0.extN hS67)
  obtain ⟨hp82, h⟩ := h
  refine WL_eff rfl rfl (St_call (R_call Try.call60 rfl) ((PSums_c hM67 hR80.V hO67.V hp82).mono ?_))
  rintro _ w81 ⟨K81, v81_0, rfl, hS81, hM81, hO81_0, hg81_0⟩
  refine ⟨v81_0, rfl, ?_⟩
  have hE81 := hE67.andN hS81
  have h := h hO81_0.wf
  refine WL_pure v81_0 (R_as rfl) rfl rfl ?_
  refine WL_nil ?_
  refine WP_region ?_
  refine WL_pure (.int .i64 3) ((R_add (a := 2) (b := 1) rfl rfl).trans (by rfl)) rfl rfl ?_
  refine WL_pure (.int .i64 3) (R_mv rfl) rfl rfl ?_
  refine WL_nil ?_
  refine LI_round ?_
  refine WP_seq ?_
  refine WP_region ?_
  refine WL_pure (.bool true) ((R_lss (a := 3) (b := 5) rfl rfl).trans (by rfl)) rfl rfl ?_
  refine WL_nil ?_
  refine WP_seq ?_
  refine WP_cond true rfl (fun _ => ?_) (fun hc => by cases hc)
  refine WP_skip ?_
  refine WP_seq ?_
  refine WP_block ?_
  refine WP_seq ?_
  refine WP_region ?_
  refine WL_V (S_ixv rfl (hV23.mono (hS30.le.trans (hS42.le.trans (hS49.le.trans (hS60.le.trans (hS67.le.trans hS81.le)))))) rfl Try.underlying104 ty103r (by decide) (by decide)) rfl rfl ?_
  rintro v84 (hV84 : Kd.rpt.V _ (.pointer (some ⟨b2, 0 + 97, none⟩)) _)
  obtain rfl := rw_form hV84
  refine WL_pure (.pointer (some ⟨b2, 0 + 97, none⟩)) (R_as rfl) rfl rfl ?_
  refine WL_nil ?_
  refine WP_region ?_
  refine WL_pure v81_0 (R_mv rfl) rfl rfl ?_
  refine WL_pure (.pointer (some ⟨b2, 0 + 97, none⟩)) (R_mv rfl) rfl rfl ?_
  refine WL_pure (.pointer (some ⟨b2, 0 + 97, none⟩)) (R_nilck rfl) rfl rfl ?_
  have hR86 := (hR71.extN hS81)
  refine WL_L hM81 (S_ldB (Foc.trans (Foc.snd (Kd.int .u64) (Kd.pr kd_a32_u8 (Kd.pr kd_a32_u8 (Kd.pr kd_a32_u8 (Kd.pr kd_a32_u8 kd_a32_u8))))) (Foc.trans (Foc.snd kd_a32_u8 (Kd.pr kd_a32_u8 (Kd.pr kd_a32_u8 (Kd.pr kd_a32_u8 kd_a32_u8)))) (Foc.trans (Foc.snd kd_a32_u8 (Kd.pr kd_a32_u8 (Kd.pr kd_a32_u8 kd_a32_u8))) (Foc.trans (Foc.snd kd_a32_u8 (Kd.pr kd_a32_u8 kd_a32_u8)) (Foc.fst kd_a32_u8 kd_a32_u8))))) rfl ty23 hR86 (by first | rfl | simp | omega) (fun h => h)) rfl rfl ?_
  rintro v85 (hV85 : kd_a32_u8.V _ a0_h.2.2.2.2.1 _)
  refine WL_eff rfl rfl (St_S0 (S_bsl (k := kd_a32_u8) (l := [(a0_h.2.2.2.2.1, v85)]) hM81 rfl (by intro p hp; simp only [List.mem_cons, List.not_mem_nil, or_false] at hp; subst hp; exact hV85) rfl Try.underlying130 ty23 rfl rfl) ?_)
  rintro v88 w88 K88 (hO88 : Own kd_a32_u8 23 w88 K88 [a0_h.2.2.2.2.1] v88) hS88 hM88 hg88
  have hE88 := hE81.andN hS88
  have hR90 := (hR77.extN hS81)
  have hR91 := (hR79.extN hS81)
  have hR92 := (hO67.extN hS81)
  have hR93 := (hR86.extN hS88)
  have hR94 := ((hR72.extN hS81).extN hS88)
  have hR95 := ((hR73.extN hS81).extN hS88)
  have hR96 := ((hR74.extN hS81).extN hS88)
  have hR97 := ((hR75.extN hS81).extN hS88)
  have hR98 := ((hR76.extN hS81).extN hS88)
  have hR99 := ((hR77.extN hS81).extN hS88)
  have hR100 := ((hR78.extN hS81).extN hS88)
  have hR101 := ((hR79.extN hS81).extN hS88)
  have hR102 := ((hR80.extN hS81).extN hS88)
  have hR103 := ((hO67.extN hS81).extN hS88)
  have hR104 := (hO81_0.extN hS88)
  obtain ⟨hp106, h⟩ := h
  refine WL_eff rfl rfl (St_call (R_call Try.call60 rfl) ((PSums_c hM88 hR104.V hO88.V hp106).mono ?_))
  rintro _ w105 ⟨K105, v105_0, rfl, hS105, hM105, hO105_0, hg105_0⟩
  refine ⟨v105_0, rfl, ?_⟩
  have hE105 := hE88.andN hS105
  have h := h hO105_0.wf
  refine WL_pure v105_0 (R_as rfl) rfl rfl ?_
  refine WL_nil ?_
  refine WP_region ?_
  refine WL_pure (.int .i64 4) ((R_add (a := 3) (b := 1) rfl rfl).trans (by rfl)) rfl rfl ?_
  refine WL_pure (.int .i64 4) (R_mv rfl) rfl rfl ?_
  refine WL_nil ?_
  refine LI_round ?_
  refine WP_seq ?_
  refine WP_region ?_
  refine WL_pure (.bool true) ((R_lss (a := 4) (b := 5) rfl rfl).trans (by rfl)) rfl rfl ?_
  refine WL_nil ?_
  refine WP_seq ?_
  refine WP_cond true rfl (fun _ => ?_) (fun hc => by cases hc)
  refine WP_skip ?_
  refine WP_seq ?_
  refine WP_block ?_
  refine WP_seq ?_
  refine WP_region ?_
  refine WL_V (S_ixv rfl (hV23.mono (hS30.le.trans (hS42.le.trans (hS49.le.trans (hS60.le.trans (hS67.le.trans (hS81.le.trans (hS88.le.trans hS105.le)))))))) rfl Try.underlying104 ty103r (by decide) (by decide)) rfl rfl ?_
  rintro v108 (hV108 : Kd.rpt.V _ (.pointer (some ⟨b2, 0 + 129, none⟩)) _)
  obtain rfl := rw_form hV108
  refine WL_pure (.pointer (some ⟨b2, 0 + 129, none⟩)) (R_as rfl) rfl rfl ?_
  refine WL_nil ?_
  refine WP_region ?_
  refine WL_pure v105_0 (R_mv rfl) rfl rfl ?_
  refine WL_pure (.pointer (some ⟨b2, 0 + 129, none⟩)) (R_mv rfl) rfl rfl ?_
  refine WL_pure (.pointer (some ⟨b2, 0 + 129, none⟩)) (R_nilck rfl) rfl rfl ?_
  have hR110 := (hR93.extN hS105)
  refine WL_L hM105 (S_ldB (Foc.trans (Foc.snd (Kd.int .u64) (Kd.pr kd_a32_u8 (Kd.pr kd_a32_u8 (Kd.pr kd_a32_u8 (Kd.pr kd_a32_u8 kd_a32_u8))))) (Foc.trans (Foc.snd kd_a32_u8 (Kd.pr kd_a32_u8 (Kd.pr kd_a32_u8 (Kd.pr kd_a32_u8 kd_a32_u8)))) (Foc.trans (Foc.snd kd_a32_u8 (Kd.pr kd_a32_u8 (Kd.pr kd_a32_u8 kd_a32_u8))) (Foc.trans (Foc.snd kd_a32_u8 (Kd.pr kd_a32_u8 kd_a32_u8)) (Foc.snd kd_a32_u8 kd_a32_u8))))) rfl ty23 hR110 (by first | rfl | simp | omega) (fun h => h)) rfl rfl ?_
  rintro v109 (hV109 : kd_a32_u8.V _ a0_h.2.2.2.2.2 _)
  refine WL_eff rfl rfl (St_S0 (S_bsl (k := kd_a32_u8) (l := [(a0_h.2.2.2.2.2, v109)]) hM105 rfl (by intro p hp; simp only [List.mem_cons, List.not_mem_nil, or_false] at hp; subst hp; exact hV109) rfl Try.underlying130 ty23 rfl rfl) ?_)
  rintro v112 w112 K112 (hO112 : Own kd_a32_u8 23 w112 K112 [a0_h.2.2.2.2.2] v112) hS112 hM112 hg112
  have hE112 := hE105.andN hS112
  have hR114 := (hR99.extN hS105)
  have hR115 := (hR101.extN hS105)
  have hR116 := (hR103.extN hS105)
  have hR117 := (hO88.extN hS105)
  have hR118 := (hR110.extN hS112)
  have hR119 := ((hR94.extN hS105).extN hS112)
  have hR120 := ((hR95.extN hS105).extN hS112)
  have hR121 := ((hR96.extN hS105).extN hS112)
  have hR122 := ((hR97.extN hS105).extN hS112)
  have hR123 := ((hR98.extN hS105).extN hS112)
  have hR124 := ((hR99.extN hS105).extN hS112)
  have hR125 := ((hR100.extN hS105).extN hS112)
  have hR126 := ((hR101.extN hS105).extN hS112)
  have hR127 := ((hR102.extN hS105).extN hS112)
  have hR128 := ((hR103.extN hS105).extN hS112)
  have hR129 := ((hR104.extN hS105).extN hS112)
  have hR130 := ((hO88.extN hS105).extN hS112)
  have hR131 := (hO105_0.extN hS112)
  obtain ⟨hp133, h⟩ := h
  refine WL_eff rfl rfl (St_call (R_call Try.call60 rfl) ((PSums_c hM112 hR131.V hO112.V hp133).mono ?_))
  rintro _ w132 ⟨K132, v132_0, rfl, hS132, hM132, hO132_0, hg132_0⟩
  refine ⟨v132_0, rfl, ?_⟩
  have hE132 := hE112.andN hS132
  have h := h hO132_0.wf
  refine WL_pure v132_0 (R_as rfl) rfl rfl ?_
  refine WL_nil ?_
  refine WP_region ?_
  refine WL_pure (.int .i64 5) ((R_add (a := 4) (b := 1) rfl rfl).trans (by rfl)) rfl rfl ?_
  refine WL_pure (.int .i64 5) (R_mv rfl) rfl rfl ?_
  refine WL_nil ?_
  refine LI_round ?_
  refine WP_seq ?_
  refine WP_region ?_
  refine WL_pure (.bool false) ((R_lss (a := 5) (b := 5) rfl rfl).trans (by rfl)) rfl rfl ?_
  refine WL_nil ?_
  refine WP_seq ?_
  refine WP_cond false rfl (fun hc => by cases hc) (fun _ => ?_)
  refine WP_exit ?_
  refine WP_seq ?_
  refine WP_region ?_
  refine WL_pure v132_0 (R_mv rfl) rfl rfl ?_
  refine WL_pure v132_0 (R_as rfl) rfl rfl ?_
  refine WL_nil ?_
  refine WP_ret ?_
  exact endR_ret hR (v := v132_0) (resE_1 rfl rfl) ⟨K132, v132_0, ((((((([] : List UInt8) ++ numAll [a0_h.1]) ++ [a0_h.2.1].flatten) ++ [a0_h.2.2.1].flatten) ++ [a0_h.2.2.2.1].flatten) ++ [a0_h.2.2.2.2.1].flatten) ++ [a0_h.2.2.2.2.2].flatten), rfl, h, hE132, hM132, hO132_0, (fun g hg => Nat.le_trans hE112.size (hg132_0 g hg))⟩
theorem CBytes_c {w0 : World} {K0 : Ghost} {a0_h_v : Value} {a0_h : (Int × ((List UInt8) × ((List UInt8) × ((List UInt8) × ((List UInt8) × (List UInt8))))))} (hM0 : Models w0 K0) (h_a0_h : kd_Sapi_Head.V K0 a0_h a0_h_v) : Calls Try.prog 32 #[a0_h_v] w0 (fun e w' => ∃ (K' : Ghost) (r0 : Value), e = .returned r0 ∧ Ext NX w0 K0 w' K' ∧ Models w' K' ∧ Own Kd.byte 5 w' K' (hdBytes a0_h) r0 ∧ (∀ g, ob r0 = some g → w0.heap.size ≤ g)) := by
  refine (CBytes_walk hM0 h_a0_h (CBytes_ok h_a0_h.wf)).mono ?_
  rintro _ w' ⟨K', r0, o0, rfl, rfl, hF⟩
  exact ⟨K', r0, rfl, hF⟩
end Go.Proofs.Ytfbhiilolpamaaa

/- chain.Bytes, out of the old form. -/
set_option linter.unusedVariables false
set_option maxRecDepth 100000
set_option maxHeartbeats 2000000
namespace Go.Proofs.Ytfbhiilolpamaaa
open Go Go.RowKit Go.Inc
noncomputable def CBytes_C : Ctr := ⟨[.v (.pr (.int .u64) (.pr (.arr 32 .byte) (.pr (.arr 32 .byte) (.pr (.arr 32 .byte) (.pr (.arr 32 .byte) (.arr 32 .byte))))))], [.ow 5 .byte], none, fun a => (fun (a0_h : Int × (List UInt8) × (List UInt8) × (List UInt8) × (List UInt8) × List UInt8) => (((hdBytes a0_h), ()), (()))) a.1⟩
theorem CBytes_k : CBytes_C.valid Try.prog 32 := br_ow (k := .byte) (fun _ => rfl) fun a hp θ vs w K hM hv => by
  obtain ⟨v, vs, rfl, h1, h2⟩ := hv
  have h2' : vs = [] := h2
  subst h2'
  exact CBytes_c hM (rel_out (t := .pr (.int .u64) (.pr (.arr 32 .byte) (.pr (.arr 32 .byte) (.pr (.arr 32 .byte) (.pr (.arr 32 .byte) (.arr 32 .byte)))))) h1 rfl)
end Go.Proofs.Ytfbhiilolpamaaa

/- Each function that stands here: what it is asked and leaves (_C), its condition (_VC), that it holds (_ok), its contract (_c). -/
set_option linter.unusedVariables false
set_option maxRecDepth 100000
set_option maxHeartbeats 20000000
namespace Go.Proofs.Ytfbhiilolpamaaa
open Go Go.RowKit Go.Inc
noncomputable def CDigest_C : Ctr := ⟨[.bk 90 true, .v (.pr (.int .u64) (.pr (.arr 32 .byte) (.pr (.arr 32 .byte) (.pr (.arr 32 .byte) (.pr (.arr 32 .byte) (.arr 32 .byte))))))], [.v (.arr 32 .byte)], some (fun a => (fun (a0_k : BookA) (a1_h : Int × (List UInt8) × (List UInt8) × (List UInt8) × (List UInt8) × List UInt8) => (bookRoom a0_k : Prop)) a.1 a.2.1), fun a => (fun (a0_k : BookA) (a1_h : Int × (List UInt8) × (List UInt8) × (List UInt8) × (List UInt8) × List UInt8) => (((sealOf 6 [hdBytes a1_h]), ()), ((bookOf a0_k 6 [hdBytes a1_h]), ()))) a.1 a.2.1⟩
noncomputable def CDigest_X : Fx := ⟨seat, some bkT, fns, [(32, CBytes_C), (21, Of_C)], [], [], []⟩
def CDigest_VC (a0_k : BookA) (a1_h : Int × (List UInt8) × (List UInt8) × (List UInt8) × (List UInt8) × List UInt8) (Q : (List UInt8) → BookA → Prop) : Prop :=
  Ty.byte.kd.sl.wf (hdBytes a1_h) → ((1 : Nat) + blobRoom (hdBytes a1_h :: ([] : List (List UInt8))) ≤ (140737488355328 : Nat) ∧ bookRoom a0_k) ∧ ((Ty.arr (32 : Nat) Ty.byte).kd.wf (sealOf (6 : Int) (hdBytes a1_h :: ([] : List (List UInt8)))) → Q (sealOf (6 : Int) (hdBytes a1_h :: ([] : List (List UInt8)))) (bookOf a0_k (6 : Int) (hdBytes a1_h :: ([] : List (List UInt8)))))
theorem CDigest_ok {a0_k : BookA} {a1_h : Int × (List UInt8) × (List UInt8) × (List UInt8) × (List UInt8) × List UInt8} (w_0 : (Ty.kd (.pr (.int .u64) (.pr (.arr 32 .byte) (.pr (.arr 32 .byte) (.pr (.arr 32 .byte) (.pr (.arr 32 .byte) (.arr 32 .byte))))))).wf a1_h) (hp : bookRoom a0_k) : CDigest_VC a0_k a1_h (fun o0 o1 => o0 = (sealOf 6 [hdBytes a1_h]) ∧ o1 = (bookOf a0_k 6 [hdBytes a1_h])) := by
  have hw : HdWf a1_h := ⟨w_0.1.1, w_0.1.2, w_0.2.1.1, w_0.2.2.1.1, w_0.2.2.2.1.1, w_0.2.2.2.2.1.1, w_0.2.2.2.2.2.1⟩
  have hl := hdBytes_len hw
  unfold CDigest_VC
  exact fun _ => ⟨⟨by simp [blobRoom]; omega, hp⟩, fun _ => ⟨rfl, rfl⟩⟩
theorem CDigest_eq : (∀ a, CDigest_C.pre a → PM.wfP CDigest_C.pm a (fvc CDigest_X 200 34 CDigest_C a (eqO CDigest_C a))) = (∀ a : BookA × (Int × (List UInt8) × (List UInt8) × (List UInt8) × (List UInt8) × List UInt8) × Unit, (bookRoom (a.1)) → (Ty.kd (.pr (.int .u64) (.pr (.arr 32 .byte) (.pr (.arr 32 .byte) (.pr (.arr 32 .byte) (.pr (.arr 32 .byte) (.arr 32 .byte))))))).wf a.2.1 → CDigest_VC a.1 a.2.1 (fun o0 o1 => o0 = (sealOf 6 [hdBytes (a.2.1)]) ∧ o1 = (bookOf (a.1) 6 [hdBytes (a.2.1)]))) := by kernel_rfl
theorem CDigest_k : CDigest_C.valid Try.prog 34 := ctr_of (X := CDigest_X) (ok_of seat_ok (fun b hb => by cases hb; exact bkT_ok) fns_ok ⟨CBytes_k, Of_k, trivial⟩) 200 (CDigest_eq.mpr fun a hp w_0 => @CDigest_ok a.1 a.2.1 w_0 hp)
noncomputable def CNext_C : Ctr := ⟨[.bk 90 true, .v (.pr (.int .u64) (.pr (.arr 32 .byte) (.pr (.arr 32 .byte) (.pr (.arr 32 .byte) (.pr (.arr 32 .byte) (.arr 32 .byte)))))), .v (.arr 32 .byte), .v (.arr 32 .byte), .v (.arr 32 .byte)], [.v (.pr (.int .u64) (.pr (.arr 32 .byte) (.pr (.arr 32 .byte) (.pr (.arr 32 .byte) (.pr (.arr 32 .byte) (.arr 32 .byte))))))], some (fun a => (fun (a0_k : BookA) (a1_h : Int × (List UInt8) × (List UInt8) × (List UInt8) × (List UInt8) × List UInt8) (a2_tables : List UInt8) (a3_index : List UInt8) (a4_history : List UInt8) => (bookRoom a0_k : Prop)) a.1 a.2.1 a.2.2.1 a.2.2.2.1 a.2.2.2.2.1), fun a => (fun (a0_k : BookA) (a1_h : Int × (List UInt8) × (List UInt8) × (List UInt8) × (List UInt8) × List UInt8) (a2_tables : List UInt8) (a3_index : List UInt8) (a4_history : List UInt8) => (((nextH a1_h a2_tables a3_index a4_history), ()), ((bookOf a0_k 6 [hdBytes a1_h]), ()))) a.1 a.2.1 a.2.2.1 a.2.2.2.1 a.2.2.2.2.1⟩
noncomputable def CNext_X : Fx := ⟨seat, some bkT, fns, [(34, CDigest_C)], [], [], [(1, [0, 6], [.o 0 3, .o 1 3, .o 2 3, .par [3, 4, 5] (.alt 3 1 (.one 4 3 (.one 5 1 .fin)) (.alt 5 1 (.one 3 1 (.one 4 3 .fin)) .fin)), .o 6 1]), (4, [6], [.o 0 3, .o 2 3, .o 3 3, .o 4 3, .o 1 0, .o 5 2, .o 6 2, .o 7 1, .o 8 3, .o 9 3, .o 10 1, .o 11 3, .o 12 3, .o 13 1, .o 14 3, .o 15 3, .o 16 1])]⟩
def CNext_VC (a0_k : BookA) (a1_h : Int × (List UInt8) × (List UInt8) × (List UInt8) × (List UInt8) × List UInt8) (a2_tables : List UInt8) (a3_index : List UInt8) (a4_history : List UInt8) (Q : (Int × (List UInt8) × (List UInt8) × (List UInt8) × (List UInt8) × List UInt8) → BookA → Prop) : Prop :=
  (bookRoom a0_k ∧ ((Ty.arr (32 : Nat) Ty.byte).kd.wf (sealOf (6 : Int) (hdBytes a1_h :: ([] : List (List UInt8)))) → (a1_h.fst < (4611686018427387903 : Int) → Q (IntKind.u64.wrap (a1_h.fst + (1 : Int)), sealOf (6 : Int) (hdBytes a1_h :: ([] : List (List UInt8))), a2_tables, a3_index, a4_history, a1_h.snd.snd.snd.snd.snd) (bookOf a0_k (6 : Int) (hdBytes a1_h :: ([] : List (List UInt8))))) ∧ (¬a1_h.fst < (4611686018427387903 : Int) → Q (a1_h.fst, sealOf (6 : Int) (hdBytes a1_h :: ([] : List (List UInt8))), a2_tables, a3_index, a4_history, a1_h.snd.snd.snd.snd.snd) (bookOf a0_k (6 : Int) (hdBytes a1_h :: ([] : List (List UInt8))))))) ∧ (bookRoom a0_k ∧ ((Ty.arr (32 : Nat) Ty.byte).kd.wf (sealOf (6 : Int) (hdBytes a1_h :: ([] : List (List UInt8)))) → (a1_h.fst < (4611686018427387903 : Int) → Q (IntKind.u64.wrap (a1_h.fst + (1 : Int)), sealOf (6 : Int) (hdBytes a1_h :: ([] : List (List UInt8))), a2_tables, a3_index, a4_history, a1_h.snd.snd.snd.snd.snd) (bookOf a0_k (6 : Int) (hdBytes a1_h :: ([] : List (List UInt8))))) ∧ (¬a1_h.fst < (4611686018427387903 : Int) → Q (a1_h.fst, sealOf (6 : Int) (hdBytes a1_h :: ([] : List (List UInt8))), a2_tables, a3_index, a4_history, a1_h.snd.snd.snd.snd.snd) (bookOf a0_k (6 : Int) (hdBytes a1_h :: ([] : List (List UInt8))))))) ∧ True
theorem CNext_ok {a0_k : BookA} {a1_h : Int × (List UInt8) × (List UInt8) × (List UInt8) × (List UInt8) × List UInt8} {a2_tables : List UInt8} {a3_index : List UInt8} {a4_history : List UInt8} (w_0 : (Ty.kd (.pr (.int .u64) (.pr (.arr 32 .byte) (.pr (.arr 32 .byte) (.pr (.arr 32 .byte) (.pr (.arr 32 .byte) (.arr 32 .byte))))))).wf a1_h) (w_1 : (Ty.kd (.arr 32 .byte)).wf a2_tables) (w_2 : (Ty.kd (.arr 32 .byte)).wf a3_index) (w_3 : (Ty.kd (.arr 32 .byte)).wf a4_history) (hp : bookRoom a0_k) : CNext_VC a0_k a1_h a2_tables a3_index a4_history (fun o0 o1 => o0 = (nextH a1_h a2_tables a3_index a4_history) ∧ o1 = (bookOf a0_k 6 [hdBytes a1_h])) := by
  have h0 : 0 ≤ a1_h.1 := w_0.1.1
  have hy : ∀ h : a1_h.1 < 4611686018427387903, (IntKind.u64.wrap (a1_h.1 + 1), sealOf 6 [hdBytes a1_h], a2_tables, a3_index, a4_history, a1_h.2.2.2.2.2) = nextH a1_h a2_tables a3_index a4_history := fun h => by
    have e : IntKind.u64.wrap (a1_h.1 + 1) = a1_h.1 + 1 := wrap_id ⟨by show (0 : Int) ≤ _; omega, by show _ ≤ (18446744073709551615 : Int); omega⟩
    rw [e]
    unfold nextH
    rw [if_pos h]
  have hn : ∀ h : ¬ a1_h.1 < 4611686018427387903, (a1_h.1, sealOf 6 [hdBytes a1_h], a2_tables, a3_index, a4_history, a1_h.2.2.2.2.2) = nextH a1_h a2_tables a3_index a4_history := fun h => by
    unfold nextH
    rw [if_neg h]
  unfold CNext_VC
  exact ⟨⟨hp, fun _ => ⟨fun h => ⟨hy h, rfl⟩, fun h => ⟨hn h, rfl⟩⟩⟩, ⟨hp, fun _ => ⟨fun h => ⟨hy h, rfl⟩, fun h => ⟨hn h, rfl⟩⟩⟩, trivial⟩
theorem CNext_eq : (∀ a, CNext_C.pre a → PM.wfP CNext_C.pm a (fvc CNext_X 200 36 CNext_C a (eqO CNext_C a))) = (∀ a : BookA × (Int × (List UInt8) × (List UInt8) × (List UInt8) × (List UInt8) × List UInt8) × (List UInt8) × (List UInt8) × (List UInt8) × Unit, (bookRoom (a.1)) → (Ty.kd (.pr (.int .u64) (.pr (.arr 32 .byte) (.pr (.arr 32 .byte) (.pr (.arr 32 .byte) (.pr (.arr 32 .byte) (.arr 32 .byte))))))).wf a.2.1 → (Ty.kd (.arr 32 .byte)).wf a.2.2.1 → (Ty.kd (.arr 32 .byte)).wf a.2.2.2.1 → (Ty.kd (.arr 32 .byte)).wf a.2.2.2.2.1 → CNext_VC a.1 a.2.1 a.2.2.1 a.2.2.2.1 a.2.2.2.2.1 (fun o0 o1 => o0 = (nextH (a.2.1) (a.2.2.1) (a.2.2.2.1) (a.2.2.2.2.1)) ∧ o1 = (bookOf (a.1) 6 [hdBytes (a.2.1)]))) := by kernel_rfl
theorem CNext_k : CNext_C.valid Try.prog 36 := ctr_of (X := CNext_X) (ok_of seat_ok (fun b hb => by cases hb; exact bkT_ok) fns_ok ⟨CDigest_k, trivial⟩) 200 (CNext_eq.mpr fun a hp w_0 w_1 w_2 w_3 => @CNext_ok a.1 a.2.1 a.2.2.1 a.2.2.2.1 a.2.2.2.2.1 w_0 w_1 w_2 w_3 hp)
end Go.Proofs.Ytfbhiilolpamaaa
