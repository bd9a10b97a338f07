/- G2, K3, S4, S5, E30, S6. -/
import Derived.Test.YtmjjkpiglbpkhaaM5
import Derived.Test.YtmjjkpiglbpkhaaChecked
import Derived.Test.YtmjjkpiglbpkhaaM4
/- Functions in the old form: what a call must answer for (_VC), that it does (_ok), the walk through its code (_walk), its contract (_c). -/
set_option linter.unusedVariables false
set_option maxRecDepth 100000
set_option maxHeartbeats 2000000
namespace Go.Proofs.Ytmjjkpiglbpkhaa
open Go Go.RowKit Go.Inc
theorem ty3 : TyOk Try.prog 3 (Kd.int .i64) 8 := ⟨⟨Try.t3, _, Try.type3, rfl, rfl, rfl, rfl, rfl⟩, ⟨_, Try.underlying3, rfl⟩⟩
abbrev kd_a32_u8 : Kd (List UInt8) := (Kd.arr 32 Kd.byte)
abbrev kd_Sseal_note : Kd ((List UInt8) × (List UInt8)) := (Kd.pr kd_a32_u8 kd_l_u8)
theorem ty24 : TyOk Try.prog 24 kd_a32_u8 32 := ⟨⟨Try.t24, _, Try.type24, rfl, rfl, rfl, rfl, rfl⟩, ⟨_, Try.underlying24, rfl⟩⟩
def hasOne_VC (a0_x : ((List UInt8) × (List UInt8))) (a1_x : (List UInt8)) (a2_x : (List UInt8)) (Q : Bool → Prop) : Prop :=
  Q (decide ((a0_x.1 = a1_x) ∧ (a0_x.2 = a2_x)))
theorem hasOne_ok {a0_x : ((List UInt8) × (List UInt8))} {a1_x : (List UInt8)} {a2_x : (List UInt8)} (w_0 : kd_Sseal_note.wf a0_x) (w_1 : kd_a32_u8.wf a1_x) (w_2 : kd_l_u8.wf a2_x) : hasOne_VC a0_x a1_x a2_x (fun o0 => o0 = decide (a0_x.1 = a1_x ∧ a0_x.2 = a2_x)) := by
  show decide _ = decide _
  simp

theorem hasOne_walk {w0 : World} {K0 : Ghost} {a0_x_v : Value} {a0_x : ((List UInt8) × (List UInt8))} {a1_x_b : Nat} {a1_x_pre a1_x_post : List Value} {a1_x : (List UInt8)} {a2_x_b : Nat} {a2_x_pre a2_x_post : List Value} {a2_x : (List UInt8)} {Q : Bool → Prop} (hM0 : Models w0 K0) (h_a0_x : kd_Sseal_note.V K0 a0_x a0_x_v) (h_a1_x_B : Bx kd_a32_u8 w0 K0 a1_x_b a1_x_pre a1_x_post a1_x) (h_a2_x_B : Bx kd_l_u8 w0 K0 a2_x_b a2_x_pre a2_x_post a2_x) (hsp2_3 : ¬ (a1_x_b = a2_x_b)) (h : hasOne_VC a0_x a1_x a2_x Q) : Calls Try.prog 133 #[a0_x_v, (.pointer (some ⟨a1_x_b, a1_x_pre.length, none⟩)), (.pointer (some ⟨a2_x_b, a2_x_pre.length, none⟩))] w0 (fun e w' => ∃ (K' : Ghost) (r0 : Value) (o0 : Bool), e = .returned r0 ∧ Q o0 ∧ Ext NX w0 K0 w' K' ∧ Models w' K' ∧ Kd.bool.V K' o0 r0) := by
  unfold hasOne_VC at h
  have hE0 : Ext NX w0 K0 w0 K0 := Ext.refl _ _ _
  refine calls_gen fun R hR => ?_
  refine calls_env (args := [a0_x_v, (.pointer (some ⟨a1_x_b, a1_x_pre.length, none⟩)), (.pointer (some ⟨a2_x_b, a2_x_pre.length, none⟩))]) Try.func133 rfl (Nat.le_of_ble_eq_true rfl) ?_
  refine WP_seq ?_
  refine WP_region ?_
  refine WL_eff rfl rfl (St_B (S_box hM0 rfl h_a0_x) ?_)
  rintro b4 w4 (hB4 : Bx kd_Sseal_note _ _ _ _ _ a0_x) hS4 hM4 hge4
  have hE4 := hE0.andN hS4
  refine WL_pure (.bool false) (R_as rfl) rfl rfl ?_
  refine WL_nil ?_
  refine WP_seq ?_
  refine WP_own (K := K0) NX [.o 0 2, .o 1 2, .o 2 2, .o 3 2, .o 4 2, .o 5 2, .o 6 2, .o 7 2, .o 8 0, .o 9 2, .o 10 2] (by kernel_rfl) hM4 ?_
  refine WO_pure (.pointer (some ⟨b4, 0 + 0, none⟩)) rfl l0 hM4 (fun _ => R_fa rfl Try.underlying146 rfl rfl ty24 rfl) rfl (gN rfl) rfl ?_
  refine WO_L0 hM4 (S_ldB (Foc.fst kd_a32_u8 kd_l_u8) rfl ty24 hB4 (by first | rfl | simp | omega) (fun h => h)) rfl (gN rfl) rfl ?_
  rintro v6 (hV6 : kd_a32_u8.V _ a0_x.1 _)
  have hR9 := (h_a1_x_B.extN hS4)
  refine WO_L0 hM4 (S_ldB (Foc.id _) rfl ty24 hR9 (by first | rfl | simp | omega) (fun h => h)) rfl (gN rfl) rfl ?_
  rintro v8 (hV8 : kd_a32_u8.V _ a1_x _)
  refine WO_pure (.bool (decide (a0_x.1 = a1_x))) rfl l0 hM4 (fun _ => R_aeql rfl rfl hV6 hV8 Try.underlying24 Try.underlying5 ty5b (by kernel_rfl)) rfl (gN rfl) rfl ?_
  refine WO_pure (.bool (decide (a0_x.1 = a1_x))) rfl l0 hM4 (fun _ => R_mv rfl) rfl (gN rfl) rfl ?_
  refine WO_meet (al := true) (l1 := [.o 5 2, .o 6 2, .o 7 2, .o 8 0, .o 9 2]) [10, 11, 12, 13, 14] NX (fun l w K => l = [(14, (.bool (decide ((a0_x.1 = a1_x) ∧ (a0_x.2 = a2_x)))))] ∧ Ext NX w4 K0 w K ∧ Models w K) ?_ ?_
  · rcases Classical.em (a0_x.1 = a1_x) with hp11 | hp11
    · skip
      refine WO_pure (.pointer (some ⟨b4, 0 + 32, none⟩)) rfl l0 hM4 (fun _ => R_fa rfl Try.underlying146 rfl rfl ty32 rfl) rfl (gY rfl rfl rfl (decide_eq_true hp11)) rfl ?_
      refine WO_L0 hM4 (S_ldB (Foc.snd kd_a32_u8 kd_l_u8) rfl ty32 hB4 (by first | rfl | simp | omega) (fun h => h)) rfl (gY rfl rfl rfl (decide_eq_true hp11)) rfl ?_
      rintro v12 (hV12 : kd_l_u8.V _ a0_x.2 _)
      have hR15 := (h_a2_x_B.extN hS4)
      refine WO_L0 hM4 (S_ldB (Foc.id _) rfl ty32 hR15 (by first | rfl | simp | omega) (fun h => h)) rfl (gY rfl rfl rfl (decide_eq_true hp11)) rfl ?_
      rintro v14 (hV14 : kd_l_u8.V _ a2_x _)
      refine WO_eff0 rfl (gY rfl rfl rfl (decide_eq_true hp11)) rfl (St_call (R_call Try.call85 rfl) ((Equal_c hM4 hV12 hV14).mono ?_))
      rintro _ w17 ⟨K17, v17_0, rfl, hS17, hM17, hV17_0⟩
      refine ⟨v17_0, rfl, ?_⟩
      refine ⟨K17, hS17, hM17, ?_⟩
      have hE17 := hE4.andN hS17
      obtain rfl := bool_form hV17_0
      refine WO_pure (.bool (decide ((a0_x.1 = a1_x) ∧ (a0_x.2 = a2_x)))) rfl l0 hM17 (fun _ => R_pick1 rfl (decide_eq_true hp11) rfl (and_T hp11)) rfl (gN rfl) rfl ?_
      exact WO_end [(14, (.bool (decide ((a0_x.1 = a1_x) ∧ (a0_x.2 = a2_x)))))] K17 rfl ⟨rfl, ((Ext.refl _ _ _).andN hS17), hM17⟩ (by repeat (first | exact Off.refl _ _ | refine Off.updO ?_ rfl _ | refine Off.updN ?_ _ | refine Off.lay ?_ rfl)) ⟨rfl, trivial⟩
    · skip
      refine WO_skip _ hM4 l0 rfl (gF rfl rfl rfl (decide_eq_false hp11)) rfl ?_
      refine WO_skip _ hM4 l0 rfl (gF rfl rfl rfl (decide_eq_false hp11)) rfl ?_
      refine WO_skip _ hM4 l0 rfl (gF rfl rfl rfl (decide_eq_false hp11)) rfl ?_
      refine WO_skip _ hM4 l0 rfl (gF rfl rfl rfl (decide_eq_false hp11)) rfl ?_
      refine WO_pure (.bool (decide ((a0_x.1 = a1_x) ∧ (a0_x.2 = a2_x)))) rfl l0 hM4 (fun _ => R_pick2 rfl (decide_eq_false hp11) rfl (and_F hp11)) rfl (gN rfl) rfl ?_
      exact WO_end [(14, (.bool (decide ((a0_x.1 = a1_x) ∧ (a0_x.2 = a2_x)))))] K0 rfl ⟨rfl, (Ext.refl _ _ _), hM4⟩ (by repeat (first | exact Off.refl _ _ | refine Off.updO ?_ rfl _ | refine Off.updN ?_ _ | refine Off.lay ?_ rfl)) ⟨rfl, trivial⟩
  rintro l σ18 w18 K18 ⟨rfl, hS18, hM18⟩
  have hE18 := hE4.andN hS18
  refine WO_pure (.bool (decide ((a0_x.1 = a1_x) ∧ (a0_x.2 = a2_x)))) rfl l0 hM18 (fun _ => R_as rfl) rfl (gN rfl) rfl ?_
  refine WO_nil ?_
  refine WP_ret ?_
  exact endR_ret hR (v := (.bool (decide ((a0_x.1 = a1_x) ∧ (a0_x.2 = a2_x))))) (resE_1 rfl rfl) ⟨K18, (.bool (decide ((a0_x.1 = a1_x) ∧ (a0_x.2 = a2_x)))), (decide ((a0_x.1 = a1_x) ∧ (a0_x.2 = a2_x))), rfl, h, hE18, hM18, bool_V⟩
theorem hasOne_c {w0 : World} {K0 : Ghost} {a0_x_v : Value} {a0_x : ((List UInt8) × (List UInt8))} {a1_x_b : Nat} {a1_x_pre a1_x_post : List Value} {a1_x : (List UInt8)} {a2_x_b : Nat} {a2_x_pre a2_x_post : List Value} {a2_x : (List UInt8)} (hM0 : Models w0 K0) (h_a0_x : kd_Sseal_note.V K0 a0_x a0_x_v) (h_a1_x_B : Bx kd_a32_u8 w0 K0 a1_x_b a1_x_pre a1_x_post a1_x) (h_a2_x_B : Bx kd_l_u8 w0 K0 a2_x_b a2_x_pre a2_x_post a2_x) (hsp2_3 : ¬ (a1_x_b = a2_x_b)) : Calls Try.prog 133 #[a0_x_v, (.pointer (some ⟨a1_x_b, a1_x_pre.length, none⟩)), (.pointer (some ⟨a2_x_b, a2_x_pre.length, none⟩))] w0 (fun e w' => ∃ (K' : Ghost) (r0 : Value), e = .returned r0 ∧ Ext NX w0 K0 w' K' ∧ Models w' K' ∧ Kd.bool.V K' (decide (a0_x.1 = a1_x ∧ a0_x.2 = a2_x)) r0) := by
  refine (hasOne_walk hM0 h_a0_x h_a1_x_B h_a2_x_B hsp2_3 (hasOne_ok h_a0_x.wf h_a1_x_B.wf h_a2_x_B.wf)).mono ?_
  rintro _ w' ⟨K', r0, o0, rfl, rfl, hF⟩
  exact ⟨K', r0, rfl, hF⟩
abbrev kd_l_Sseal_note : Kd (List ((List UInt8) × (List UInt8))) := (Kd.sl kd_Sseal_note)
theorem ty146 : TyOk Try.prog 146 kd_Sseal_note 56 := ⟨⟨Try.t146, _, Try.type146, rfl, rfl, rfl, rfl, rfl⟩, ⟨_, Try.underlying146, rfl⟩⟩
def IndexNote_VC (a0_s : (List ((List UInt8) × (List UInt8)))) (a1_f_0 : (List UInt8)) (a1_f_1 : (List UInt8)) (Q : Int → Prop) : Prop :=
  ∃ (I4 : Int → Int → Prop) (μ4 : Int → Int → Nat), I4 0 0 ∧ ∀ (i4 : Int) (i4' : Int), I4 i4 i4' → ((Kd.int .i64).wf i4) → ((Kd.int .i64).wf i4') → (((i4' < (a0_s.length : Int)) → (0 ≤ i4' ∧ i4' < (a0_s.length : Int)) ∧ ((((ix a0_s i4').1 = a1_f_0 ∧ (ix a0_s i4').2 = a1_f_1) → Q i4') ∧ ((¬ ((ix a0_s i4').1 = a1_f_0 ∧ (ix a0_s i4').2 = a1_f_1)) → I4 i4 (i4' + 1) ∧ μ4 i4 (i4' + 1) < μ4 i4 i4'))) ∧ ((¬ (i4' < (a0_s.length : Int))) → Q (-1)))
theorem IndexNote_ok {a0_s : (List ((List UInt8) × (List UInt8)))} {a1_f_0 : (List UInt8)} {a1_f_1 : (List UInt8)} (w_0 : kd_l_Sseal_note.wf a0_s) : IndexNote_VC a0_s a1_f_0 a1_f_1 (fun o0 => o0 = (noteIx a1_f_0 a1_f_1 a0_s 0)) := by
  unfold IndexNote_VC
  refine ⟨fun _ i => ∃ j : Nat, i = (j : Int) ∧ j ≤ a0_s.length ∧ noteIx a1_f_0 a1_f_1 a0_s 0 = noteIx a1_f_0 a1_f_1 (a0_s.drop j) (j : Int), fun _ i => a0_s.length - i.toNat, ⟨0, rfl, by omega, by simp⟩, ?_⟩
  rintro _ i ⟨j, rfl, hj, he⟩ _ _
  refine ⟨fun hlt => ⟨⟨by omega, hlt⟩, fun h => ?_, fun h => ⟨⟨j + 1, by omega, by omega, ?_⟩, ?_⟩⟩, fun hge => ?_⟩
  · rw [noteIx_drop hlt, if_pos (h)] at he
    exact he.symm
  · rw [noteIx_drop hlt, if_neg (h)] at he
    rw [he]
    congr 1
  · show a0_s.length - ((j : Int) + 1).toNat < a0_s.length - (j : Int).toNat
    omega
  · have : j = a0_s.length := by omega
    subst this
    rw [List.drop_length] at he
    exact he.symm

theorem IndexNote_walk {w0 : World} {K0 : Ghost} {a0_s_v : Value} {a0_s : (List ((List UInt8) × (List UInt8)))} {a1_f_0_b : Nat} {a1_f_0_pre a1_f_0_post : List Value} {a1_f_0 : (List UInt8)} {a1_f_1_b : Nat} {a1_f_1_pre a1_f_1_post : List Value} {a1_f_1 : (List UInt8)} {Q : Int → Prop} (hM0 : Models w0 K0) (h_a0_s : kd_l_Sseal_note.V K0 a0_s a0_s_v) (h_a1_f_0_B : Bx kd_a32_u8 w0 K0 a1_f_0_b a1_f_0_pre a1_f_0_post a1_f_0) (h_a1_f_1_B : Bx kd_l_u8 w0 K0 a1_f_1_b a1_f_1_pre a1_f_1_post a1_f_1) (hsp2_3 : ¬ (a1_f_0_b = a1_f_1_b)) (h : IndexNote_VC a0_s a1_f_0 a1_f_1 Q) : Calls Try.prog 144 #[a0_s_v, (.func (.func 133) #[] #[(.pointer (some ⟨a1_f_0_b, a1_f_0_pre.length, none⟩)), (.pointer (some ⟨a1_f_1_b, a1_f_1_pre.length, none⟩))])] w0 (fun e w' => ∃ (K' : Ghost) (r0 : Value) (o0 : Int), e = .returned r0 ∧ Q o0 ∧ Ext NX w0 K0 w' K' ∧ Models w' K' ∧ (Kd.int .i64).V K' o0 r0) := by
  unfold IndexNote_VC at h
  have hE0 : Ext NX w0 K0 w0 K0 := Ext.refl _ _ _
  refine calls_gen fun R hR => ?_
  refine calls_env (args := [a0_s_v, (.func (.func 133) #[] #[(.pointer (some ⟨a1_f_0_b, a1_f_0_pre.length, none⟩)), (.pointer (some ⟨a1_f_1_b, a1_f_1_pre.length, none⟩))])]) Try.func144 rfl (Nat.le_of_ble_eq_true rfl) ?_
  refine WP_seq ?_
  refine WP_region ?_
  refine WL_pure (.int .i64 0) (R_as rfl) rfl rfl ?_
  refine WL_nil ?_
  refine WP_seq ?_
  refine WP_seq ?_
  refine WP_region ?_
  refine WL_pure a0_s_v (R_mv rfl) rfl rfl ?_
  refine WL_pure (.int .i64 (a0_s.length : Int)) (R_len rfl h_a0_s Try.underlying36) rfl rfl ?_
  refine WL_pure (.int .i64 0) (R_mv rfl) rfl rfl ?_
  refine WL_nil ?_
  refine WP_block ?_
  obtain ⟨I4, μ4, h0, h⟩ := h
  refine WP_loopE (ι := Int × Int) [4, 5, 8, 9, 10, 11, 12, 13, 14, 15, 16, 17, 18] (fun s l w => ∃ K, I4 s.1 s.2 ∧ l = [(4, (.int .i64 s.1)), (8, (.int .i64 s.2))] ∧ Ext NX w0 K0 w K ∧ Models w K ∧ (Kd.int .i64).wf s.1 ∧ (Kd.int .i64).wf s.2) (fun s => μ4 s.1 s.2) (0, 0) [(4, (.int .i64 0)), (8, (.int .i64 0))]
    ⟨K0, h0, rfl, Ext.refl _ _ _, hM0, (show (Kd.int .i64).wf 0 from by constructor <;> decide), (show (Kd.int .i64).wf 0 from by constructor <;> decide)⟩ (by repeat (first | exact trivial | refine ⟨rfl, ?_⟩)) ?_
  rintro ⟨i4, i4'⟩ l σ4 w5 ⟨K5, hI, rfl, hX5, hM5, hw4_4, hw4_8⟩
  dsimp only at hI hw4_4 hw4_8
  have hE5 := hE0.andN hX5
  have h := h i4 i4' hI hw4_4 hw4_8
  refine WP_seq ?_
  refine WP_region ?_
  refine WL_pure (.bool (decide (i4' < (a0_s.length : Int)))) (R_lss rfl rfl) rfl rfl ?_
  refine WL_nil ?_
  refine WP_seq ?_
  refine WP_cond (decide (i4' < (a0_s.length : Int))) rfl (fun hc6 => ?_) (fun hc6 => ?_)
  · have hd6 : i4' < (a0_s.length : Int) := dec_t hc6
    have h := h.1 hd6
    refine WP_skip ?_
    refine WP_seq ?_
    refine WP_block ?_
    refine WP_seq ?_
    refine WP_region ?_
    refine WL_pure (.int .i64 i4') (R_mv rfl) rfl rfl ?_
    refine WL_pure (.int .i64 i4') (R_as rfl) rfl rfl ?_
    refine WL_nil ?_
    refine WP_seq ?_
    refine WP_region ?_
    refine WL_pure (.func (.func 133) #[] #[(.pointer (some ⟨a1_f_0_b, a1_f_0_pre.length, none⟩)), (.pointer (some ⟨a1_f_1_b, a1_f_1_pre.length, none⟩))]) (R_mv rfl) rfl rfl ?_
    refine WL_pure a0_s_v (R_mv rfl) rfl rfl ?_
    refine WL_pure (.int .i64 i4') (R_mv rfl) rfl rfl ?_
    obtain ⟨hp8, h⟩ := h
    refine WL_P (S_ixs rfl (h_a0_s.mono hX5.le) rfl Try.underlying36 ty146 hp8.1 hp8.2) rfl rfl ?_
    rintro b7 o7 hP7
    refine WL_L hM5 (S_ld rfl ty146 hP7) rfl rfl ?_
    rintro v10 (hV10 : kd_Sseal_note.V _ (ix a0_s i4') _)
    have hR12 := (h_a1_f_0_B.extN hX5)
    have hR13 := (h_a1_f_1_B.extN hX5)
    refine WL_eff rfl rfl (St_call (R_callv rfl Try.call133 rfl) ((hasOne_c hM5 hV10 hR12 hR13 hsp2_3).mono ?_))
    rintro _ w14 ⟨K14, v14_0, rfl, hS14, hM14, hV14_0⟩
    refine ⟨v14_0, rfl, ?_⟩
    have hE14 := hE5.andN hS14
    obtain rfl := bool_form hV14_0
    refine WL_nil ?_
    refine WP_cond (decide ((ix a0_s i4').1 = a1_f_0 ∧ (ix a0_s i4').2 = a1_f_1)) rfl (fun hc15 => ?_) (fun hc15 => ?_)
    · have hd15 : (ix a0_s i4').1 = a1_f_0 ∧ (ix a0_s i4').2 = a1_f_1 := dec_t hc15
      have h := h.1 hd15
      refine WP_seq ?_
      refine WP_region ?_
      refine WL_pure (.int .i64 i4') (R_mv rfl) rfl rfl ?_
      refine WL_pure (.int .i64 i4') (R_as rfl) rfl rfl ?_
      refine WL_nil ?_
      refine WP_ret ?_
      exact endR_ret hR (v := (.int .i64 i4')) (resE_1 rfl rfl) ⟨K14, (.int .i64 i4'), i4', rfl, h, hE14, hM14, (int_V hw4_8)⟩
    · have hd15 : ¬ ((ix a0_s i4').1 = a1_f_0 ∧ (ix a0_s i4').2 = a1_f_1) := dec_f hc15
      have h := h.2 hd15
      refine WP_skip ?_
      refine WP_region ?_
      refine WL_pure (.int .i64 (i4' + 1)) (R_inc rfl rfl hw4_8 hd6 (len_wf (h_a0_s).wf.1)) rfl rfl ?_
      refine WL_pure (.int .i64 (i4' + 1)) (R_mv rfl) rfl rfl ?_
      refine WL_nil ?_
      refine BackQ.mk (i4, (i4' + 1)) [(4, (.int .i64 i4)), (8, (.int .i64 (i4' + 1)))] ?_ ?_ ?_ ?_
      rotate_left
      · exact h.2
      · repeat (first | exact Off.lay0 rfl | refine Off.updO ?_ rfl _ | refine Off.updN ?_ _ | refine Off.lay ?_ rfl)
      · repeat (first | exact trivial | refine ⟨rfl, ?_⟩)
      exact ⟨K14, h.1, rfl, (((Ext.refl _ _ _).andN hX5).andN hS14), hM14, hw4_4, (inc_wf hw4_8 hd6 (len_wf (h_a0_s).wf.1))⟩
  · have hd6 : ¬ (i4' < (a0_s.length : Int)) := dec_f hc6
    have h := h.2 hd6
    refine WP_exit ?_
    refine WP_seq ?_
    refine WP_region ?_
    refine WL_pure (.int .i64 (-1)) (R_as rfl) rfl rfl ?_
    refine WL_nil ?_
    refine WP_ret ?_
    exact endR_ret hR (v := (.int .i64 (-1))) (resE_1 rfl rfl) ⟨K5, (.int .i64 (-1)), (-1), rfl, h, hE5, hM5, (int_V (show (Kd.int .i64).wf (-1) from by constructor <;> decide))⟩
theorem IndexNote_c {w0 : World} {K0 : Ghost} {a0_s_v : Value} {a0_s : (List ((List UInt8) × (List UInt8)))} {a1_f_0_b : Nat} {a1_f_0_pre a1_f_0_post : List Value} {a1_f_0 : (List UInt8)} {a1_f_1_b : Nat} {a1_f_1_pre a1_f_1_post : List Value} {a1_f_1 : (List UInt8)} (hM0 : Models w0 K0) (h_a0_s : kd_l_Sseal_note.V K0 a0_s a0_s_v) (h_a1_f_0_B : Bx kd_a32_u8 w0 K0 a1_f_0_b a1_f_0_pre a1_f_0_post a1_f_0) (h_a1_f_1_B : Bx kd_l_u8 w0 K0 a1_f_1_b a1_f_1_pre a1_f_1_post a1_f_1) (hsp2_3 : ¬ (a1_f_0_b = a1_f_1_b)) : Calls Try.prog 144 #[a0_s_v, (.func (.func 133) #[] #[(.pointer (some ⟨a1_f_0_b, a1_f_0_pre.length, none⟩)), (.pointer (some ⟨a1_f_1_b, a1_f_1_pre.length, none⟩))])] w0 (fun e w' => ∃ (K' : Ghost) (r0 : Value), e = .returned r0 ∧ Ext NX w0 K0 w' K' ∧ Models w' K' ∧ (Kd.int .i64).V K' (noteIx a1_f_0 a1_f_1 a0_s 0) r0) := by
  refine (IndexNote_walk hM0 h_a0_s h_a1_f_0_B h_a1_f_1_B hsp2_3 (IndexNote_ok h_a0_s.wf)).mono ?_
  rintro _ w' ⟨K', r0, o0, rfl, rfl, hF⟩
  exact ⟨K', r0, rfl, hF⟩
def HasNote_VC (a0_s : (List ((List UInt8) × (List UInt8)))) (a1_f_0 : (List UInt8)) (a1_f_1 : (List UInt8)) (Q : Bool → Prop) : Prop :=
  ((Kd.int .i64).wf (noteIx a1_f_0 a1_f_1 a0_s 0)) → (Q (decide (0 ≤ (noteIx a1_f_0 a1_f_1 a0_s 0))))
theorem HasNote_ok {a0_s : (List ((List UInt8) × (List UInt8)))} {a1_f_0 : (List UInt8)} {a1_f_1 : (List UInt8)} (w_0 : kd_l_Sseal_note.wf a0_s) : HasNote_VC a0_s a1_f_0 a1_f_1 (fun o0 => o0 = decide (0 ≤ noteIx a1_f_0 a1_f_1 a0_s 0)) := by
  exact fun _ => rfl

theorem HasNote_walk {w0 : World} {K0 : Ghost} {a0_s_v : Value} {a0_s : (List ((List UInt8) × (List UInt8)))} {a1_f_0_b : Nat} {a1_f_0_pre a1_f_0_post : List Value} {a1_f_0 : (List UInt8)} {a1_f_1_b : Nat} {a1_f_1_pre a1_f_1_post : List Value} {a1_f_1 : (List UInt8)} {Q : Bool → Prop} (hM0 : Models w0 K0) (h_a0_s : kd_l_Sseal_note.V K0 a0_s a0_s_v) (h_a1_f_0_B : Bx kd_a32_u8 w0 K0 a1_f_0_b a1_f_0_pre a1_f_0_post a1_f_0) (h_a1_f_1_B : Bx kd_l_u8 w0 K0 a1_f_1_b a1_f_1_pre a1_f_1_post a1_f_1) (hsp2_3 : ¬ (a1_f_0_b = a1_f_1_b)) (h : HasNote_VC a0_s a1_f_0 a1_f_1 Q) : Calls Try.prog 132 #[a0_s_v, (.func (.func 133) #[] #[(.pointer (some ⟨a1_f_0_b, a1_f_0_pre.length, none⟩)), (.pointer (some ⟨a1_f_1_b, a1_f_1_pre.length, none⟩))])] w0 (fun e w' => ∃ (K' : Ghost) (r0 : Value) (o0 : Bool), e = .returned r0 ∧ Q o0 ∧ Ext NX w0 K0 w' K' ∧ Models w' K' ∧ Kd.bool.V K' o0 r0) := by
  unfold HasNote_VC at h
  have hE0 : Ext NX w0 K0 w0 K0 := Ext.refl _ _ _
  refine calls_gen fun R hR => ?_
  refine calls_env (args := [a0_s_v, (.func (.func 133) #[] #[(.pointer (some ⟨a1_f_0_b, a1_f_0_pre.length, none⟩)), (.pointer (some ⟨a1_f_1_b, a1_f_1_pre.length, none⟩))])]) Try.func132 rfl (Nat.le_of_ble_eq_true rfl) ?_
  refine WP_seq ?_
  refine WP_region ?_
  refine WL_pure (.bool false) (R_as rfl) rfl rfl ?_
  refine WL_nil ?_
  refine WP_seq ?_
  refine WP_region ?_
  refine WL_pure a0_s_v (R_mv rfl) rfl rfl ?_
  refine WL_pure (.func (.func 133) #[] #[(.pointer (some ⟨a1_f_0_b, a1_f_0_pre.length, none⟩)), (.pointer (some ⟨a1_f_1_b, a1_f_1_pre.length, none⟩))]) (R_mv rfl) rfl rfl ?_
  refine WL_eff rfl rfl (St_call (R_call Try.call144 rfl) ((IndexNote_c hM0 h_a0_s h_a1_f_0_B h_a1_f_1_B hsp2_3).mono ?_))
  rintro _ w4 ⟨K4, v4_0, rfl, hS4, hM4, hV4_0⟩
  refine ⟨v4_0, rfl, ?_⟩
  have hE4 := hE0.andN hS4
  obtain rfl := int_form hV4_0
  have h := h hV4_0.wf
  refine WL_pure (.bool (decide (0 ≤ (noteIx a1_f_0 a1_f_1 a0_s 0)))) (R_geq rfl rfl) rfl rfl ?_
  refine WL_pure (.bool (decide (0 ≤ (noteIx a1_f_0 a1_f_1 a0_s 0)))) (R_as rfl) rfl rfl ?_
  refine WL_nil ?_
  refine WP_ret ?_
  exact endR_ret hR (v := (.bool (decide (0 ≤ (noteIx a1_f_0 a1_f_1 a0_s 0))))) (resE_1 rfl rfl) ⟨K4, (.bool (decide (0 ≤ (noteIx a1_f_0 a1_f_1 a0_s 0)))), (decide (0 ≤ (noteIx a1_f_0 a1_f_1 a0_s 0))), rfl, h, hE4, hM4, bool_V⟩
theorem HasNote_c {w0 : World} {K0 : Ghost} {a0_s_v : Value} {a0_s : (List ((List UInt8) × (List UInt8)))} {a1_f_0_b : Nat} {a1_f_0_pre a1_f_0_post : List Value} {a1_f_0 : (List UInt8)} {a1_f_1_b : Nat} {a1_f_1_pre a1_f_1_post : List Value} {a1_f_1 : (List UInt8)} (hM0 : Models w0 K0) (h_a0_s : kd_l_Sseal_note.V K0 a0_s a0_s_v) (h_a1_f_0_B : Bx kd_a32_u8 w0 K0 a1_f_0_b a1_f_0_pre a1_f_0_post a1_f_0) (h_a1_f_1_B : Bx kd_l_u8 w0 K0 a1_f_1_b a1_f_1_pre a1_f_1_post a1_f_1) (hsp2_3 : ¬ (a1_f_0_b = a1_f_1_b)) : Calls Try.prog 132 #[a0_s_v, (.func (.func 133) #[] #[(.pointer (some ⟨a1_f_0_b, a1_f_0_pre.length, none⟩)), (.pointer (some ⟨a1_f_1_b, a1_f_1_pre.length, none⟩))])] w0 (fun e w' => ∃ (K' : Ghost) (r0 : Value), e = .returned r0 ∧ Ext NX w0 K0 w' K' ∧ Models w' K' ∧ Kd.bool.V K' (decide (0 ≤ noteIx a1_f_0 a1_f_1 a0_s 0)) r0) := by
  refine (HasNote_walk hM0 h_a0_s h_a1_f_0_B h_a1_f_1_B hsp2_3 (HasNote_ok h_a0_s.wf)).mono ?_
  rintro _ w' ⟨K', r0, o0, rfl, rfl, hF⟩
  exact ⟨K', r0, rfl, hF⟩
abbrev kd_Sseal_notes : Kd (Value × Value) := (Kd.pr Kd.rsl Kd.rmp)
theorem ty37r : TyOk Try.prog 37 Kd.rmp 8 := ⟨⟨Try.t37, _, Try.type37, rfl, rfl, rfl, rfl, rfl⟩, ⟨_, Try.underlying37, rfl⟩⟩
theorem ty36r : TyOk Try.prog 36 Kd.rsl 24 := ⟨⟨Try.t36, _, Try.type36, rfl, rfl, rfl, rfl, rfl⟩, ⟨_, Try.underlying36, rfl⟩⟩
def has_VC (a0_n_0 : (List ((List UInt8) × (List UInt8)))) (a0_n_1 : (List ((List UInt8) × Int))) (a1_s : (List UInt8)) (a2_b : (List UInt8)) (Q : Bool → Prop) : Prop :=
  ((¬ (((mfind a1_s a0_n_1).isSome) = true)) → Q false) ∧ ((((mfind a1_s a0_n_1).isSome) = true) → (0 ≤ ((mfind a1_s a0_n_1).getD 0) ∧ ((mfind a1_s a0_n_1).getD 0) ≤ (a0_n_0.length : Int)) ∧ (Q (decide (0 ≤ noteIx a1_s a2_b (a0_n_0.drop ((mfind a1_s a0_n_1).getD 0).toNat) 0))))
theorem has_ok {a0_n_0 : (List ((List UInt8) × (List UInt8)))} {a0_n_1 : (List ((List UInt8) × Int))} {a1_s : (List UInt8)} {a2_b : (List UInt8)} (w_0 : kd_a32_u8.wf a1_s) (w_1 : kd_l_u8.wf a2_b) (hp : BookInv a0_n_0 a0_n_1) : has_VC a0_n_0 a0_n_1 a1_s a2_b (fun o0 => o0 = decide ((a1_s, a2_b) ∈ a0_n_0)) := by
  unfold has_VC
  rw [hp a1_s]
  refine ⟨fun h => ?_, fun h => ?_⟩
  · have hn : firstOf a1_s a0_n_0 0 = none := by
      cases hf : firstOf a1_s a0_n_0 0 with
      | none => rfl
      | some a => rw [hf] at h; exact absurd rfl h
    have := firstOf_none hn a2_b
    simp [this]
  · cases hf : firstOf a1_s a0_n_0 0 with
    | none => rw [hf] at h; cases h
    | some a =>
      obtain ⟨j, rfl, hl, hm⟩ := firstOf_some hf
      simp only [Option.getD_some, Int.zero_add, Int.toNat_natCast]
      refine ⟨⟨by omega, by omega⟩, ?_⟩
      rw [decide_eq_decide, noteIx_ge _ _ (Int.le_refl _)]
      exact (hm a2_b).symm

theorem has_walk {w0 : World} {K0 : Ghost} {a0_n_b : Nat} {a0_n_pre a0_n_post : List Value} {a0_n_0v : Value} {a0_n_0 : (List ((List UInt8) × (List UInt8)))} {a0_n_1v : Value} {a0_n_1 : (List ((List UInt8) × Int))} {a1_s_v : Value} {a1_s : (List UInt8)} {a2_b_v : Value} {a2_b : (List UInt8)} {Q : Bool → Prop} (hM0 : Models w0 K0) (h_a0_n_B : Bx kd_Sseal_notes w0 K0 a0_n_b a0_n_pre a0_n_post (a0_n_0v, a0_n_1v)) (h_a0_n_0 : Own kd_Sseal_note 146 w0 K0 a0_n_0 a0_n_0v) (h_a0_n_1 : Mp kd_a32_u8 (Kd.int .i64) w0 K0 a0_n_1 a0_n_1v) (h_a1_s : kd_a32_u8.V K0 a1_s a1_s_v) (h_a2_b : kd_l_u8.V K0 a2_b a2_b_v) (h : has_VC a0_n_0 a0_n_1 a1_s a2_b Q) : Calls Try.prog 120 #[(.pointer (some ⟨a0_n_b, a0_n_pre.length, none⟩)), a1_s_v, a2_b_v] w0 (fun e w' => ∃ (K' : Ghost) (r0 : Value) (o0 : Bool), e = .returned r0 ∧ Q o0 ∧ Ext NX w0 K0 w' K' ∧ Models w' K' ∧ Kd.bool.V K' o0 r0) := by
  unfold has_VC at h
  have hE0 : Ext NX w0 K0 w0 K0 := Ext.refl _ _ _
  refine calls_gen fun R hR => ?_
  refine calls_env (args := [(.pointer (some ⟨a0_n_b, a0_n_pre.length, none⟩)), a1_s_v, a2_b_v]) Try.func120 rfl (Nat.le_of_ble_eq_true rfl) ?_
  refine WP_seq ?_
  refine WP_region ?_
  refine WL_eff rfl rfl (St_B (S_box hM0 rfl h_a1_s) ?_)
  rintro b6 w6 (hB6 : Bx kd_a32_u8 _ _ _ _ _ a1_s) hS6 hM6 hge6
  have hE6 := hE0.andN hS6
  refine WL_eff rfl rfl (St_B (S_box hM6 rfl (h_a2_b.mono hS6.le)) ?_)
  rintro b8 w8 (hB8 : Bx kd_l_u8 _ _ _ _ _ a2_b) hS8 hM8 hge8
  have hE8 := hE6.andN hS8
  have hR10 := (h_a0_n_B.extN hS6)
  refine WL_pure (.bool false) (R_as rfl) rfl rfl ?_
  refine WL_nil ?_
  refine WP_seq ?_
  refine WP_ordD (K := K0) NX [.o 0 2, .o 1 2, .o 2 2, .o 3 2, .o 4 2, .o 5 2, .o 6 2, .o 7 2, .o 8 2, .o 9 2, .o 10 2] (by kernel_rfl) (by kernel_rfl) hM8 ?_
  rintro w11 hS11 hM11
  have hE11 := hE8.andN hS11
  refine WO_pure (.pointer (some ⟨a0_n_b, a0_n_pre.length, none⟩)) rfl l0 hM11 (fun _ => R_mv rfl) rfl (gN rfl) rfl ?_
  refine WO_pure (.pointer (some ⟨a0_n_b, a0_n_pre.length, none⟩)) rfl l0 hM11 (fun _ => R_nilck rfl) rfl (gN rfl) rfl ?_
  refine WO_pure (.pointer (some ⟨a0_n_b, a0_n_pre.length + 1, none⟩)) rfl l0 hM11 (fun _ => R_fa rfl Try.underlying39 rfl rfl ty37r rfl) rfl (gN rfl) rfl ?_
  have hR13 := (((h_a0_n_B.extN hS6).extN hS8).extN hS11)
  refine WO_L0 hM11 (S_ldB (Foc.snd Kd.rsl Kd.rmp) rfl ty37r hR13 (by first | rfl | simp | omega) (fun h => h)) rfl (gN rfl) rfl ?_
  rintro v12 (hV12 : Kd.rmp.V _ a0_n_1v _)
  obtain rfl := rw_form hV12
  have hR15 := ((hB6.extN hS8).extN hS11)
  refine WO_L0 hM11 (S_ldB (Foc.id _) rfl ty24 hR15 (by first | rfl | simp | omega) (fun h => h)) rfl (gN rfl) rfl ?_
  rintro v14 (hV14 : kd_a32_u8.V _ a1_s _)
  have hR18 := (((h_a0_n_1.extN hS6).extN hS8).extN hS11)
  refine WO_LK0 hM11 (S_lkp (kv := (Kd.int .i64)) rfl rfl hR18 hV14 Try.underlying37 (keyOk_arr Try.underlying24 Try.underlying5 ty5b) ty3 (fun _ _ h => h)) rfl (gN rfl) rfl ?_
  rintro v17 (hV17 : (Kd.int .i64).V _ ((mfind a1_s a0_n_1).getD 0) _)
  obtain rfl := int_form hV17
  refine WO_pure (.tuple #[(.int .i64 ((mfind a1_s a0_n_1).getD 0)), (.bool ((mfind a1_s a0_n_1).isSome))]) rfl l0 hM11 (fun _ => R_mv rfl) rfl (gN rfl) rfl ?_
  refine WO_pure (.int .i64 ((mfind a1_s a0_n_1).getD 0)) rfl l0 hM11 (fun _ => R_ext rfl rfl) rfl (gN rfl) rfl ?_
  refine WO_pure (.bool ((mfind a1_s a0_n_1).isSome)) rfl l0 hM11 (fun _ => R_ext rfl rfl) rfl (gN rfl) rfl ?_
  refine WO_pure (.int .i64 ((mfind a1_s a0_n_1).getD 0)) rfl l0 hM11 (fun _ => R_as rfl) rfl (gN rfl) rfl ?_
  refine WO_pure (.bool ((mfind a1_s a0_n_1).isSome)) rfl l0 hM11 (fun _ => R_as rfl) rfl (gN rfl) rfl ?_
  refine WO_nil ?_
  refine WP_seq ?_
  refine WP_seq ?_
  refine WP_region ?_
  refine WL_pure (.bool ((mfind a1_s a0_n_1).isSome)) (R_mv rfl) rfl rfl ?_
  refine WL_pure (.bool (!((mfind a1_s a0_n_1).isSome))) (R_not rfl) rfl rfl ?_
  refine WL_nil ?_
  refine WP_cond (!((mfind a1_s a0_n_1).isSome)) rfl (fun hc19 => ?_) (fun hc19 => ?_)
  · have hd19 : ¬ (((mfind a1_s a0_n_1).isSome) = true) := nbb_t hc19
    have h := h.1 hd19
    refine WP_seq ?_
    refine WP_region ?_
    refine WL_pure (.bool false) (R_as rfl) rfl rfl ?_
    refine WL_nil ?_
    refine WP_ret ?_
    exact endR_ret hR (v := (.bool false)) (resE_1 rfl rfl) ⟨K0, (.bool false), false, rfl, h, hE11, hM11, bool_V⟩
  · have hd19 : ((mfind a1_s a0_n_1).isSome) = true := nbb_f hc19
    have h := h.2 hd19
    refine WP_skip ?_
    refine WP_seq ?_
    refine WP_region ?_
    refine WL_pure (.pointer (some ⟨a0_n_b, a0_n_pre.length, none⟩)) (R_mv rfl) rfl rfl ?_
    refine WL_pure (.pointer (some ⟨a0_n_b, a0_n_pre.length, none⟩)) (R_nilck rfl) rfl rfl ?_
    refine WL_pure (.pointer (some ⟨a0_n_b, a0_n_pre.length + 0, none⟩)) (R_fa rfl Try.underlying39 rfl rfl ty36r rfl) rfl rfl ?_
    refine WL_L hM11 (S_ldB (Foc.fst Kd.rsl Kd.rmp) rfl ty36r hR13 (by first | rfl | simp | omega) (fun h => h)) rfl rfl ?_
    rintro v20 (hV20 : Kd.rsl.V _ a0_n_0v _)
    obtain rfl := rw_form hV20
    refine WL_pure (.int .i64 ((mfind a1_s a0_n_1).getD 0)) (R_mv rfl) rfl rfl ?_
    obtain ⟨hp22, h⟩ := h
    refine WL_V (S_slL rfl (h_a0_n_0.V.mono (hS6.le.trans (hS8.le.trans hS11.le))) Try.underlying36 ty146 rfl hp22.1 hp22.2) rfl rfl ?_
    rintro v21 (hV21 : kd_l_Sseal_note.V _ (a0_n_0.drop ((mfind a1_s a0_n_1).getD 0).toNat) _)
    refine WL_pure (.func (.func 133) #[] #[(.pointer (some ⟨b6, 0, none⟩)), (.pointer (some ⟨b8, 0, none⟩))]) (R_fnl rfl) rfl rfl ?_
    have hR25 := (hB8.extN hS11)
    refine WL_eff rfl rfl (St_call (R_call Try.call132 rfl) ((HasNote_c hM11 hV21 hR15 hR25 (fun he => (ne_new hge8 hB6.lt) he.symm)).mono ?_))
    rintro _ w24 ⟨K24, v24_0, rfl, hS24, hM24, hV24_0⟩
    refine ⟨v24_0, rfl, ?_⟩
    have hE24 := hE11.andN hS24
    obtain rfl := bool_form hV24_0
    refine WL_pure (.bool (decide (0 ≤ noteIx a1_s a2_b (a0_n_0.drop ((mfind a1_s a0_n_1).getD 0).toNat) 0))) (R_as rfl) rfl rfl ?_
    refine WL_nil ?_
    refine WP_ret ?_
    exact endR_ret hR (v := (.bool (decide (0 ≤ noteIx a1_s a2_b (a0_n_0.drop ((mfind a1_s a0_n_1).getD 0).toNat) 0)))) (resE_1 rfl rfl) ⟨K24, (.bool (decide (0 ≤ noteIx a1_s a2_b (a0_n_0.drop ((mfind a1_s a0_n_1).getD 0).toNat) 0))), (decide (0 ≤ noteIx a1_s a2_b (a0_n_0.drop ((mfind a1_s a0_n_1).getD 0).toNat) 0)), rfl, h, hE24, hM24, bool_V⟩
theorem has_c {w0 : World} {K0 : Ghost} {a0_n_b : Nat} {a0_n_pre a0_n_post : List Value} {a0_n_0v : Value} {a0_n_0 : (List ((List UInt8) × (List UInt8)))} {a0_n_1v : Value} {a0_n_1 : (List ((List UInt8) × Int))} {a1_s_v : Value} {a1_s : (List UInt8)} {a2_b_v : Value} {a2_b : (List UInt8)} (hM0 : Models w0 K0) (h_a0_n_B : Bx kd_Sseal_notes w0 K0 a0_n_b a0_n_pre a0_n_post (a0_n_0v, a0_n_1v)) (h_a0_n_0 : Own kd_Sseal_note 146 w0 K0 a0_n_0 a0_n_0v) (h_a0_n_1 : Mp kd_a32_u8 (Kd.int .i64) w0 K0 a0_n_1 a0_n_1v) (h_a1_s : kd_a32_u8.V K0 a1_s a1_s_v) (h_a2_b : kd_l_u8.V K0 a2_b a2_b_v) (hp : BookInv a0_n_0 a0_n_1) : Calls Try.prog 120 #[(.pointer (some ⟨a0_n_b, a0_n_pre.length, none⟩)), a1_s_v, a2_b_v] w0 (fun e w' => ∃ (K' : Ghost) (r0 : Value), e = .returned r0 ∧ Ext NX w0 K0 w' K' ∧ Models w' K' ∧ Kd.bool.V K' (decide ((a1_s, a2_b) ∈ a0_n_0)) r0) := by
  refine (has_walk hM0 h_a0_n_B h_a0_n_0 h_a0_n_1 h_a1_s h_a2_b (has_ok h_a1_s.wf h_a2_b.wf hp)).mono ?_
  rintro _ w' ⟨K', r0, o0, rfl, rfl, hF⟩
  exact ⟨K', r0, rfl, hF⟩
theorem fs146 {fs : Array Field} (h : Try.prog.underlying 146 = some (.struct fs)) : ∀ f ∈ fs.toList, ∃ i, Try.prog.info? f.type = some i := by
  have h2 := (Try.underlying146).symm.trans h
  cases h2
  intro f hf
  simp only [List.mem_cons, List.not_mem_nil, or_false] at hf
  rcases hf with rfl | rfl
  · exact ⟨_, Try.type24⟩
  · exact ⟨_, Try.type32⟩
def add_VC (a0_n_0 : (List ((List UInt8) × (List UInt8)))) (a0_n_1 : (List ((List UInt8) × Int))) (a1_s : (List UInt8)) (a2_b : (List UInt8)) (Q : (List ((List UInt8) × (List UInt8))) → (List ((List UInt8) × Int)) → Prop) : Prop :=
  (BookInv a0_n_0 a0_n_1) ∧ ((((a1_s, a2_b) ∈ a0_n_0) → Q a0_n_0 a0_n_1) ∧ ((¬ ((a1_s, a2_b) ∈ a0_n_0)) → ∀ (r21 : Bool), (r21 = true → a0_n_1 = []) → (∃ (J23 : (List ((List UInt8) × Int)) → Prop), (((r21 = true) → J23 ([] : List ((List UInt8) × Int))) ∧ ((r21 = false) → J23 a0_n_1)) ∧ ∀ (y23 : (List ((List UInt8) × Int))), J23 y23 → (∃ (J42 : (List ((List UInt8) × Int)) → Prop), (((¬ (((mfind a1_s y23).isSome) = true)) → J42 (mset a1_s (a0_n_0.length : Int) y23)) ∧ ((((mfind a1_s y23).isSome) = true) → J42 y23)) ∧ ∀ (y42 : (List ((List UInt8) × Int))), J42 y42 → ((a2_b.length ≤ 140737488355328) ∧ ((kd_l_u8.wf a2_b) → (((a0_n_0.length + [(a1_s, a2_b)].length) * 56 ≤ 140737488355328) ∧ (Q (a0_n_0 ++ [(a1_s, a2_b)]) y42))))))))
theorem add_ok {a0_n_0 : (List ((List UInt8) × (List UInt8)))} {a0_n_1 : (List ((List UInt8) × Int))} {a1_s : (List UInt8)} {a2_b : (List UInt8)} (w_0 : kd_a32_u8.wf a1_s) (w_1 : kd_l_u8.wf a2_b) (hp : BookInv a0_n_0 a0_n_1 ∧ a2_b.length ≤ 140737488355328 ∧ (a0_n_0.length + 1) * 64 ≤ 140737488355328) : add_VC a0_n_0 a0_n_1 a1_s a2_b (fun o0 o1 => o0 = (addL a0_n_0 a1_s a2_b) ∧ o1 = (addM a0_n_0 a0_n_1 a1_s a2_b)) := by
  obtain ⟨h1, h2, h3⟩ := hp
  have hlen : (a0_n_0.length + [(a1_s, a2_b)].length) * 56 ≤ 140737488355328 := by
    simp only [List.length_cons, List.length_nil]
    omega
  unfold add_VC
  refine ⟨h1, fun h => ?_, fun h r hr => ?_⟩
  · have hm := h
    exact ⟨by simp [addL, hm], by simp [addM, hm]⟩
  · have hm := h
    refine ⟨fun m => m = a0_n_1, ⟨fun h => (hr h).symm, fun _ => rfl⟩, ?_⟩
    rintro m rfl
    refine ⟨fun m' => m' = if (mfind a1_s m).isSome then m else mset a1_s (a0_n_0.length : Int) m, ⟨fun h => by rw [if_neg h], fun h => by rw [if_pos h]⟩, ?_⟩
    rintro m' rfl
    exact ⟨h2, fun _ => ⟨hlen, by simp [addL, hm], by simp [addM, hm]⟩⟩

theorem add_walk {w0 : World} {K0 : Ghost} {a0_n_b : Nat} {a0_n_pre a0_n_post : List Value} {a0_n_0v : Value} {a0_n_0 : (List ((List UInt8) × (List UInt8)))} {a0_n_1v : Value} {a0_n_1 : (List ((List UInt8) × Int))} {a1_s_v : Value} {a1_s : (List UInt8)} {a2_b_v : Value} {a2_b : (List UInt8)} {Q : (List ((List UInt8) × (List UInt8))) → (List ((List UInt8) × Int)) → Prop} (hM0 : Models w0 K0) (h_a0_n_B : Bx kd_Sseal_notes w0 K0 a0_n_b a0_n_pre a0_n_post (a0_n_0v, a0_n_1v)) (h_a0_n_0 : Own kd_Sseal_note 146 w0 K0 a0_n_0 a0_n_0v) (h_a0_n_1 : Mp kd_a32_u8 (Kd.int .i64) w0 K0 a0_n_1 a0_n_1v) (h_a1_s : kd_a32_u8.V K0 a1_s a1_s_v) (h_a2_b : kd_l_u8.V K0 a2_b a2_b_v) (h : add_VC a0_n_0 a0_n_1 a1_s a2_b Q) : Calls Try.prog 86 #[(.pointer (some ⟨a0_n_b, a0_n_pre.length, none⟩)), a1_s_v, a2_b_v] w0 (fun e w' => ∃ (K' : Ghost) (u0_0 : Value) (u0_1 : Value) (o0 : (List ((List UInt8) × (List UInt8)))) (o1 : (List ((List UInt8) × Int))), e = .returned (.tuple #[]) ∧ Q o0 o1 ∧ Ext (fun c => c = a0_n_b ∨ ob a0_n_0v = some c ∨ mb a0_n_1v = some c) w0 K0 w' K' ∧ Models w' K' ∧ Bx kd_Sseal_notes w' K' a0_n_b a0_n_pre a0_n_post (u0_0, u0_1) ∧ Own kd_Sseal_note 146 w' K' o0 u0_0 ∧ (∀ g, ob u0_0 = some g → ob a0_n_0v = some g ∨ w0.heap.size ≤ g) ∧ Mp kd_a32_u8 (Kd.int .i64) w' K' o1 u0_1 ∧ (∀ g, mb u0_1 = some g → mb a0_n_1v = some g ∨ w0.heap.size ≤ g)) := by
  unfold add_VC at h
  have hE0 : Ext (fun c => c = a0_n_b ∨ ob a0_n_0v = some c ∨ mb a0_n_1v = some c) w0 K0 w0 K0 := Ext.refl _ _ _
  refine calls_gen fun R hR => ?_
  refine calls_env (args := [(.pointer (some ⟨a0_n_b, a0_n_pre.length, none⟩)), a1_s_v, a2_b_v]) Try.func86 rfl (Nat.le_of_ble_eq_true rfl) ?_
  refine WP_seq ?_
  refine WP_region ?_
  refine WL_eff rfl rfl (St_B (S_box hM0 rfl h_a1_s) ?_)
  rintro b6 w6 (hB6 : Bx kd_a32_u8 _ _ _ _ _ a1_s) hS6 hM6 hge6
  have hE6 := hE0.andN hS6
  refine WL_nil ?_
  refine WP_seq ?_
  refine WP_seq ?_
  refine WP_region ?_
  refine WL_pure (.pointer (some ⟨a0_n_b, a0_n_pre.length, none⟩)) (R_mv rfl) rfl rfl ?_
  refine WL_L hM6 (S_ldB (Foc.id _) rfl ty24 hB6 (by first | rfl | simp | omega) (fun h => h)) rfl rfl ?_
  rintro v8 (hV8 : kd_a32_u8.V _ a1_s _)
  refine WL_pure a2_b_v (R_mv rfl) rfl rfl ?_
  have hR10 := (h_a0_n_0.extN hS6)
  have hR11 := (h_a0_n_1.extN hS6)
  have hR12 := (h_a0_n_B.extN hS6)
  obtain ⟨hp14, h⟩ := h
  refine WL_eff rfl rfl (St_call (R_call Try.call120 rfl) ((has_c hM6 hR12 hR10 hR11 hV8 (h_a2_b.mono hS6.le) hp14).mono ?_))
  rintro _ w13 ⟨K13, v13_0, rfl, hS13, hM13, hV13_0⟩
  refine ⟨v13_0, rfl, ?_⟩
  have hE13 := hE6.andN hS13
  obtain rfl := bool_form hV13_0
  refine WL_nil ?_
  refine WP_cond (decide ((a1_s, a2_b) ∈ a0_n_0)) rfl (fun hc15 => ?_) (fun hc15 => ?_)
  · have hd15 : (a1_s, a2_b) ∈ a0_n_0 := dec_t hc15
    have h := h.1 hd15
    refine WP_ret ?_
    have hR16 := (hR10.extN hS13)
    have hR17 := (hR11.extN hS13)
    have hR18 := (hR12.extN hS13)
    exact endR_ret hR (v := (.tuple #[])) (resE_0 rfl) ⟨K13, a0_n_0v, a0_n_1v, a0_n_0, a0_n_1, rfl, h, hE13, hM13, hR18, hR16, (fun g hg => (.inl hg)), hR17, (fun g hg => (.inl hg))⟩
  · have hd15 : ¬ ((a1_s, a2_b) ∈ a0_n_0) := dec_f hc15
    have h := h.2 hd15
    refine WP_skip ?_
    refine WP_seq ?_
    refine WP_seq ?_
    refine WP_region ?_
    refine WL_pure (.pointer (some ⟨a0_n_b, a0_n_pre.length, none⟩)) (R_mv rfl) rfl rfl ?_
    refine WL_pure (.pointer (some ⟨a0_n_b, a0_n_pre.length, none⟩)) (R_nilck rfl) rfl rfl ?_
    refine WL_pure (.pointer (some ⟨a0_n_b, a0_n_pre.length + 1, none⟩)) (R_fa rfl Try.underlying39 rfl rfl ty37r rfl) rfl rfl ?_
    have hR20 := (hR12.extN hS13)
    refine WL_L hM13 (S_ldB (Foc.snd Kd.rsl Kd.rmp) rfl ty37r hR20 (by first | rfl | simp | omega) (fun h => h)) rfl rfl ?_
    rintro v19 (hV19 : Kd.rmp.V _ a0_n_1v _)
    obtain rfl := rw_form hV19
    have hR22 := (hR11.extN hS13)
    refine WL_bq (S_mnil rfl rfl hR22 Try.underlying37) rfl rfl ?_
    rintro r21 ⟨hn21, hnn21⟩
    have h := h r21 (fun hx => (hn21 hx).2)
    refine WL_nil ?_
    obtain ⟨J23, h, hJ23⟩ := h
    refine WP_meet [17, 18, 19, 20] (fun l w => ∃ y23 K z1_1, J23 y23 ∧ l = [] ∧ Ext (fun c => mb a0_n_1v = some c ∨ c = a0_n_b) w13 K13 w K ∧ Models w K ∧ Mp kd_a32_u8 (Kd.int .i64) w K y23 (.map (some z1_1)) ∧ (∀ g, mb (.map (some z1_1)) = some g → mb a0_n_1v = some g ∨ w13.heap.size ≤ g) ∧ Bx kd_Sseal_notes w K a0_n_b a0_n_pre a0_n_post (a0_n_0v, (.map (some z1_1)))) ?_ ?_
    · skip
      refine WP_cond r21 rfl (fun hc24 => ?_) (fun hc24 => ?_)
      · have hd24 : r21 = true := hc24
        have h := h.1 hd24
        refine WP_region ?_
        refine WL_pure (.pointer (some ⟨a0_n_b, a0_n_pre.length, none⟩)) (R_mv rfl) rfl rfl ?_
        refine WL_eff rfl rfl (St_MM (S_mkm (kk := kd_a32_u8) (kv := (Kd.int .i64)) hM13) ?_)
        rintro b25 w25 hO25 hS25 hM25 hge25
        have hf25 : ∀ g, mb (.map (some b25)) = some g → w0.heap.size ≤ g := fun g hg => by cases hg; exact Nat.le_trans hE13.size hge25
        have hE25 := hE13.andN hS25
        have hs27 : ∀ g, mb (.map (some b25)) = some g → ¬ (mb a0_n_1v = some g) := fun g hg hx => by cases hg; exact absurd (hR22.lt _ hx) (Nat.not_lt.2 hge25)
        refine WL_pure (.pointer (some ⟨a0_n_b, a0_n_pre.length, none⟩)) (R_nilck rfl) rfl rfl ?_
        refine WL_pure (.pointer (some ⟨a0_n_b, a0_n_pre.length + 1, none⟩)) (R_fa rfl Try.underlying39 rfl rfl ty37r rfl) rfl rfl ?_
        have hR29 := (hR20.extN hS25)
        refine WL_eff rfl rfl (St_St (S_stB (Foc.snd Kd.rsl Kd.rmp) hM25 rfl rfl (rw_V hO25.one) ty37r hR29 (by first | rfl | simp | omega)) ?_)
        rintro w28 (hB28 : Bx kd_Sseal_notes _ _ a0_n_b a0_n_pre a0_n_post (a0_n_0v, (.map (some b25)))) hS28 hM28
        have hE28 := hE25.comp hS28 (fun c hx hlt => (by subst hx; exact (fun _ => (.inl rfl)) hlt))
        refine WL_nil ?_
        have hR30 := (hO25.ext hS28 (fun g hg hx => (fun g hg hx => hO25.box hR29 (hg.trans (congrArg some hx))) g hg hx))
        exact MeetQ.mk [] ⟨([] : List ((List UInt8) × Int)), K13, b25, h, rfl, (((Ext.refl _ _ _).andN hS25).comp hS28 (fun c hx hlt => (.inr (hx)))), hM28, hR30, (fun g hg => .inr ((fun g hg => by cases hg; exact hge25) g hg)), hB28⟩ (by repeat (first | exact Off.lay0 rfl | exact Off.refl _ _ | refine Off.updO ?_ rfl _ | refine Off.updN ?_ _ | refine Off.lay ?_ rfl)) (by repeat (first | exact trivial | refine ⟨rfl, ?_⟩))
      · have hd24 : r21 = false := hc24
        have h := h.2 hd24
        obtain ⟨b24, hv24⟩ := hnn21 hd24
        subst hv24
        refine WP_skip ?_
        exact MeetQ.mk [] ⟨a0_n_1, K13, b24, h, rfl, (Ext.refl _ _ _), hM13, hR22, (fun g hg => (.inl hg)), hR20⟩ (by repeat (first | exact Off.lay0 rfl | exact Off.refl _ _ | refine Off.updO ?_ rfl _ | refine Off.updN ?_ _ | refine Off.lay ?_ rfl)) (by repeat (first | exact trivial | refine ⟨rfl, ?_⟩))
    rintro l σ23 w31 ⟨y23, K31, z1_1_23, hI, rfl, hX31, hM31, hL23_z1_1, ho23_z1_1, hL23_1⟩
    have h := hJ23 y23 hI
    have hE31 := hE13.comp hX31 (fun c hx hlt => Or.elim hx (fun hx => (fun g hg _ => (.inr (.inr (hg)))) c hx hlt) (fun hx => (by subst hx; exact (fun _ => (.inl rfl)) hlt)))
    have hf32 : ∀ g, mb (.map (some z1_1_23)) = some g → g < w0.heap.size → g = a0_n_b ∨ ob a0_n_0v = some g ∨ mb a0_n_1v = some g := fun g hg hlt => (ho23_z1_1 g hg).elim (fun hx => (fun g hg _ => (.inr (.inr (hg)))) g hx hlt) (fun hx => absurd hlt (Nat.not_lt.2 (Nat.le_trans hE13.size hx)))
    refine WP_seq ?_
    refine WP_seq ?_
    refine WP_ordD (K := K31) NX [.o 0 2, .o 1 2, .o 2 2, .o 3 2, .o 4 2, .o 5 2, .o 6 2, .o 7 2, .o 8 2, .o 9 2, .o 10 2] (by kernel_rfl) (by kernel_rfl) hM31 ?_
    rintro w33 hS33 hM33
    have hE33 := hE31.andN hS33
    refine WO_pure (.pointer (some ⟨a0_n_b, a0_n_pre.length, none⟩)) rfl l0 hM33 (fun _ => R_mv rfl) rfl (gN rfl) rfl ?_
    refine WO_pure (.pointer (some ⟨a0_n_b, a0_n_pre.length, none⟩)) rfl l0 hM33 (fun _ => R_nilck rfl) rfl (gN rfl) rfl ?_
    refine WO_pure (.pointer (some ⟨a0_n_b, a0_n_pre.length + 1, none⟩)) rfl l0 hM33 (fun _ => R_fa rfl Try.underlying39 rfl rfl ty37r rfl) rfl (gN rfl) rfl ?_
    have hR35 := (hL23_1.extN hS33)
    refine WO_L0 hM33 (S_ldB (Foc.snd Kd.rsl Kd.rmp) rfl ty37r hR35 (by first | rfl | simp | omega) (fun h => h)) rfl (gN rfl) rfl ?_
    rintro v34 (hV34 : Kd.rmp.V _ (.map (some z1_1_23)) _)
    obtain rfl := rw_form hV34
    have hR37 := (hB6.extN hS13)
    have hR38 := ((hR37.ext hX31 (fun hx => Or.elim hx (fun hx => (hR22.box hR37) hx) (fun hx => (ne_new hge6 h_a0_n_B.lt) hx))).extN hS33)
    refine WO_L0 hM33 (S_ldB (Foc.id _) rfl ty24 hR38 (by first | rfl | simp | omega) (fun h => h)) rfl (gN rfl) rfl ?_
    rintro v36 (hV36 : kd_a32_u8.V _ a1_s _)
    have hR41 := (hL23_z1_1.extN hS33)
    refine WO_LK0 hM33 (S_lkp (kv := (Kd.int .i64)) rfl rfl hR41 hV36 Try.underlying37 (keyOk_arr Try.underlying24 Try.underlying5 ty5b) ty3 (fun _ _ h => h)) rfl (gN rfl) rfl ?_
    rintro v40 (hV40 : (Kd.int .i64).V _ ((mfind a1_s y23).getD 0) _)
    obtain rfl := int_form hV40
    refine WO_pure (.tuple #[(.int .i64 ((mfind a1_s y23).getD 0)), (.bool ((mfind a1_s y23).isSome))]) rfl l0 hM33 (fun _ => R_mv rfl) rfl (gN rfl) rfl ?_
    refine WO_pure (.int .i64 ((mfind a1_s y23).getD 0)) rfl l0 hM33 (fun _ => R_ext rfl rfl) rfl (gN rfl) rfl ?_
    refine WO_pure (.bool ((mfind a1_s y23).isSome)) rfl l0 hM33 (fun _ => R_ext rfl rfl) rfl (gN rfl) rfl ?_
    refine WO_pure (.int .i64 ((mfind a1_s y23).getD 0)) rfl l0 hM33 (fun _ => R_as rfl) rfl (gN rfl) rfl ?_
    refine WO_pure (.bool ((mfind a1_s y23).isSome)) rfl l0 hM33 (fun _ => R_as rfl) rfl (gN rfl) rfl ?_
    refine WO_nil ?_
    refine WP_seq ?_
    refine WP_region ?_
    refine WL_pure (.bool ((mfind a1_s y23).isSome)) (R_mv rfl) rfl rfl ?_
    refine WL_pure (.bool (!((mfind a1_s y23).isSome))) (R_not rfl) rfl rfl ?_
    refine WL_nil ?_
    obtain ⟨J42, h, hJ42⟩ := h
    refine WP_meet [32, 33, 34, 35, 36, 37, 38, 39, 40, 41] (fun l w => ∃ y42 K z1_1, J42 y42 ∧ l = [] ∧ Ext (fun c => mb (.map (some z1_1_23)) = some c ∨ c = a0_n_b) w33 K31 w K ∧ Models w K ∧ Mp kd_a32_u8 (Kd.int .i64) w K y42 (.map (some z1_1)) ∧ (∀ g, mb (.map (some z1_1)) = some g → mb (.map (some z1_1_23)) = some g ∨ w33.heap.size ≤ g) ∧ Bx kd_Sseal_notes w K a0_n_b a0_n_pre a0_n_post (a0_n_0v, (.map (some z1_1)))) ?_ ?_
    · skip
      refine WP_cond (!((mfind a1_s y23).isSome)) rfl (fun hc43 => ?_) (fun hc43 => ?_)
      · have hd43 : ¬ (((mfind a1_s y23).isSome) = true) := nbb_t hc43
        have h := h.1 hd43
        refine WP_ordD (K := K31) (fun c => mb (.map (some z1_1_23)) = some c ∨ w33.heap.size ≤ c) [.o 0 2, .o 1 2, .o 2 2, .o 3 2, .o 4 2, .o 5 2, .o 6 2, .o 7 2, .o 8 2, .o 9 2, .o 10 1] (by kernel_rfl) (by kernel_rfl) hM33 ?_
        rintro w44 hS44 hM44
        have hE44 := hE33.andN hS44
        refine WO_pure (.pointer (some ⟨a0_n_b, a0_n_pre.length, none⟩)) rfl l0 hM44 (fun _ => R_mv rfl) rfl (gN rfl) rfl ?_
        refine WO_pure (.pointer (some ⟨a0_n_b, a0_n_pre.length, none⟩)) rfl l0 hM44 (fun _ => R_nilck rfl) rfl (gN rfl) rfl ?_
        refine WO_pure (.pointer (some ⟨a0_n_b, a0_n_pre.length + 1, none⟩)) rfl l0 hM44 (fun _ => R_fa rfl Try.underlying39 rfl rfl ty37r rfl) rfl (gN rfl) rfl ?_
        have hR46 := (hR35.extN hS44)
        refine WO_L0 hM44 (S_ldB (Foc.snd Kd.rsl Kd.rmp) rfl ty37r hR46 (by first | rfl | simp | omega) (fun h => h)) rfl (gN rfl) rfl ?_
        rintro v45 (hV45 : Kd.rmp.V _ (.map (some z1_1_23)) _)
        obtain rfl := rw_form hV45
        have hR48 := (hR38.extN hS44)
        refine WO_L0 hM44 (S_ldB (Foc.id _) rfl ty24 hR48 (by first | rfl | simp | omega) (fun h => h)) rfl (gN rfl) rfl ?_
        rintro v47 (hV47 : kd_a32_u8.V _ a1_s _)
        refine WO_pure (.pointer (some ⟨a0_n_b, a0_n_pre.length, none⟩)) rfl l0 hM44 (fun _ => R_mv rfl) rfl (gN rfl) rfl ?_
        refine WO_pure (.pointer (some ⟨a0_n_b, a0_n_pre.length, none⟩)) rfl l0 hM44 (fun _ => R_nilck rfl) rfl (gN rfl) rfl ?_
        refine WO_pure (.pointer (some ⟨a0_n_b, a0_n_pre.length + 0, none⟩)) rfl l0 hM44 (fun _ => R_fa rfl Try.underlying39 rfl rfl ty36r rfl) rfl (gN rfl) rfl ?_
        refine WO_L0 hM44 (S_ldB (Foc.fst Kd.rsl Kd.rmp) rfl ty36r hR46 (by first | rfl | simp | omega) (fun h => h)) rfl (gN rfl) rfl ?_
        rintro v50 (hV50 : Kd.rsl.V _ a0_n_0v _)
        obtain rfl := rw_form hV50
        refine WO_pure (.int .i64 (a0_n_0.length : Int)) rfl l0 hM44 (fun _ => R_len rfl (hR10.V.mono (hS13.le.trans (hX31.le.trans (hS33.le.trans hS44.le)))) Try.underlying36) rfl (gN rfl) rfl ?_
        have hR52 := (hR41.extN hS44)
        refine WO_eff rfl (gN rfl) rfl (St_Mu (S_mst hM44 rfl rfl rfl hR52 hV47 (int_V (len_wf ((hR10).V).wf.1)) Try.underlying37 (keyOk_arr Try.underlying24 Try.underlying5 ty5b)) ?_)
        rintro w51 hO51 hS51 hM51
        have hS51 : Ext (fun c => mb (.map (some z1_1_23)) = some c) w44 K31 w51 K31 := hS51.weak (fun c _ hc => congrArg some hc.symm)
        refine ⟨K31, (hS51.weak (fun c hlt hx => (.inl (hx)))), hM51, ?_⟩
        have hE51 := hE44.comp hS51 (fun c hx hlt => hf32 c hx hlt)
        refine WO_nil ?_
        have hR53 := (hR46.ext hS51 (fun hx => (hR52.box hR46) hx))
        exact MeetQ.mk [] ⟨(mset a1_s (a0_n_0.length : Int) y23), K31, z1_1_23, h, rfl, (((Ext.refl _ _ _).andN hS44).comp hS51 (fun c hx hlt => (.inl (hx)))), hM51, hO51, (fun g hg => (.inl hg)), hR53⟩ (by repeat (first | exact Off.lay0 rfl | exact Off.refl _ _ | refine Off.updO ?_ rfl _ | refine Off.updN ?_ _ | refine Off.lay ?_ rfl)) (by repeat (first | exact trivial | refine ⟨rfl, ?_⟩))
      · have hd43 : ((mfind a1_s y23).isSome) = true := nbb_f hc43
        have h := h.2 hd43
        refine WP_skip ?_
        exact MeetQ.mk [] ⟨y23, K31, z1_1_23, h, rfl, (Ext.refl _ _ _), hM33, hR41, (fun g hg => (.inl hg)), hR35⟩ (by repeat (first | exact Off.lay0 rfl | exact Off.refl _ _ | refine Off.updO ?_ rfl _ | refine Off.updN ?_ _ | refine Off.lay ?_ rfl)) (by repeat (first | exact trivial | refine ⟨rfl, ?_⟩))
    rintro l σ42 w54 ⟨y42, K54, z1_1_42, hI, rfl, hX54, hM54, hL42_z1_1, ho42_z1_1, hL42_1⟩
    have h := hJ42 y42 hI
    have hE54 := hE33.comp hX54 (fun c hx hlt => Or.elim hx (fun hx => hf32 c hx hlt) (fun hx => (by subst hx; exact (fun _ => (.inl rfl)) hlt)))
    have hf55 : ∀ g, mb (.map (some z1_1_42)) = some g → g < w0.heap.size → g = a0_n_b ∨ ob a0_n_0v = some g ∨ mb a0_n_1v = some g := fun g hg hlt => (ho42_z1_1 g hg).elim (fun hx => hf32 g hx hlt) (fun hx => absurd hlt (Nat.not_lt.2 (Nat.le_trans hE33.size hx)))
    have hR56 := (hR10.extN hS13)
    have hR57 := ((hR56.ext hX31 (fun g hg hx => Or.elim hx (fun hx => (fun g hg => hR22.own hR56 g hg) g hg hx) (fun hx => (fun g hg hx => hR56.box hR20 (hg.trans (congrArg some hx))) g hg hx))).extN hS33)
    have hR58 := (hR57.ext hX54 (fun g hg hx => Or.elim hx (fun hx => (fun g hg => hR41.own hR57 g hg) g hg hx) (fun hx => (fun g hg hx => hR57.box hR35 (hg.trans (congrArg some hx))) g hg hx)))
    have hR59 := (hR38.ext hX54 (fun hx => Or.elim hx (fun hx => (hR41.box hR38) hx) (fun hx => (ne_new hge6 h_a0_n_B.lt) hx)))
    refine WP_ordD (K := K54) (fun c => c = a0_n_b ∨ ob a0_n_0v = some c ∨ w54.heap.size ≤ c) [.o 0 3, .o 1 2, .o 2 2, .o 3 2, .o 4 2, .o 5 2, .o 6 2, .o 7 0, .o 8 2, .o 9 0, .o 10 1, .o 11 3, .o 12 3, .o 13 1] (by kernel_rfl) (by kernel_rfl) hM54 ?_
    rintro w60 hS60 hM60
    have hE60 := hE54.andN hS60
    refine WO_pure (.pointer (some ⟨a0_n_b, a0_n_pre.length, none⟩)) rfl l3 hM60 (fun _ => R_mv rfl) rfl (gN rfl) rfl ?_
    refine WO_pure (.pointer (some ⟨a0_n_b, a0_n_pre.length, none⟩)) rfl l0 hM60 (fun _ => R_mv rfl) rfl (gN rfl) rfl ?_
    refine WO_pure (.pointer (some ⟨a0_n_b, a0_n_pre.length, none⟩)) rfl l0 hM60 (fun _ => R_nilck rfl) rfl (gN rfl) rfl ?_
    refine WO_pure (.pointer (some ⟨a0_n_b, a0_n_pre.length + 0, none⟩)) rfl l0 hM60 (fun _ => R_fa rfl Try.underlying39 rfl rfl ty36r rfl) rfl (gN rfl) rfl ?_
    have hR62 := (hL42_1.extN hS60)
    refine WO_L0 hM60 (S_ldB (Foc.fst Kd.rsl Kd.rmp) rfl ty36r hR62 (by first | rfl | simp | omega) (fun h => h)) rfl (gN rfl) rfl ?_
    rintro v61 (hV61 : Kd.rsl.V _ a0_n_0v _)
    obtain rfl := rw_form hV61
    have hR64 := (hR59.extN hS60)
    refine WO_L0 hM60 (S_ldB (Foc.id _) rfl ty24 hR64 (by first | rfl | simp | omega) (fun h => h)) rfl (gN rfl) rfl ?_
    rintro v63 (hV63 : kd_a32_u8.V _ a1_s _)
    refine WO_pure a2_b_v rfl l0 hM60 (fun _ => R_mv rfl) rfl (gN rfl) rfl ?_
    have hR66 := (hR58.extN hS60)
    have hR67 := (hL42_z1_1.extN hS60)
    obtain ⟨hp69, h⟩ := h
    refine WO_eff0 rfl (gN rfl) rfl (St_call (R_call Try.call69 rfl) ((Clone_c hM60 (h_a2_b.mono (hS6.le.trans (hS13.le.trans (hX31.le.trans (hS33.le.trans (hX54.le.trans hS60.le)))))) hp69).mono ?_))
    rintro _ w68 ⟨K68, v68_0, rfl, hS68, hM68, hO68_0, hg68_0⟩
    refine ⟨v68_0, rfl, ?_⟩
    refine ⟨K68, hS68, hM68, ?_⟩
    have hE68 := hE60.andN hS68
    have h := h hO68_0.wf
    refine WO_V rfl l0 hM68 (S_bld (K := K68) (vs := [(0, v63), (1, v68_0)]) (Z := (a1_s, a2_b)) ty146 rfl Try.underlying146 (fs146 Try.underlying146) rfl (Parts.cons rfl rfl ty24 (Foc.fst kd_a32_u8 kd_l_u8) (hV63.mono hS68.le) (Parts.cons rfl rfl ty32 (Foc.snd kd_a32_u8 kd_l_u8) hO68_0.V Parts.nil))) rfl (gN rfl) rfl ?_
    rintro v71 (hV71 : kd_Sseal_note.V _ (a1_s, a2_b) _)
    refine WO_eff0 rfl (gN rfl) rfl (St_S0 (S_bsl (k := kd_Sseal_note) (l := [((a1_s, a2_b), v71)]) hM68 rfl (by intro p hp; simp only [List.mem_cons, List.not_mem_nil, or_false] at hp; subst hp; exact hV71) rfl Try.underlying36 ty146 rfl rfl) ?_)
    rintro v73 w73 K73 (hO73 : Own kd_Sseal_note 146 w73 K73 [(a1_s, a2_b)] v73) hS73 hM73 hg73
    refine ⟨K73, hS73, hM73, ?_⟩
    have hE73 := hE68.andN hS73
    have hR75 := (hR66.extN hS68)
    have hR76 := ((hR66.extN hS68).extN hS73)
    obtain ⟨hp78, h⟩ := h
    refine WO_eff rfl (gN rfl) rfl (St_S (S_app hM73 rfl hR76 rfl hO73.V Try.underlying36 ty146 rfl hp78) ?_)
    rintro v77 w77 K77 hO77 hS77 hM77 hob77
    refine ⟨K77, (hS77.weak (fun c hlt hx => (.inr (.inl (hx))))), hM77, ?_⟩
    have hE77 := hE73.comp hS77 (fun c hx hlt => (fun g hg _ => (.inr (.inl hg))) c hx hlt)
    have hR79 := (hO73.ext hS77 (fun g hg hx => (fun g hg hx => absurd (hR75.lt _ hx) (Nat.not_lt.2 (hg73 g hg))) g hg hx))
    have hfx77 : ∀ g, ob v77 = some g → g < w0.heap.size → g = a0_n_b ∨ ob a0_n_0v = some g ∨ mb a0_n_1v = some g := fun g hg hlt => by rcases hob77 with hq | hq <;> rw [hq] at hg; exact (fun g hg _ => (.inr (.inl hg))) g hg hlt; cases hg; exact absurd hlt (Nat.not_lt.2 hE73.size)
    have hs81 : ∀ g, ob v77 = some g → ¬ (ob v73 = some g) := fun g hg hx => by rcases hob77 with hq | hq <;> rw [hq] at hg; exact (fun g hg hx => (fun g hg hx => absurd (hR75.lt _ hx) (Nat.not_lt.2 (hg73 g hg))) g hx hg) g hg hx; cases hg; exact absurd (hO73.lt _ hx) (Nat.not_lt.2 (Nat.le_refl _))
    refine WO_pure (.pointer (some ⟨a0_n_b, a0_n_pre.length, none⟩)) rfl l3 hM77 (fun _ => R_nilck rfl) rfl (gN rfl) rfl ?_
    refine WO_pure (.pointer (some ⟨a0_n_b, a0_n_pre.length + 0, none⟩)) rfl l3 hM77 (fun _ => R_fa rfl Try.underlying39 rfl rfl ty36r rfl) rfl (gN rfl) rfl ?_
    have hR83 := ((hR62.extN hS68).extN hS73)
    have hR84 := (hR83.ext hS77 (fun hx => (hR76.box hR83) hx))
    refine WO_eff rfl (gN rfl) rfl (St_St (S_stB (Foc.fst Kd.rsl Kd.rmp) hM77 rfl rfl (rw_V hO77.one) ty36r hR84 (by first | rfl | simp | omega)) ?_)
    rintro w82 (hB82 : Bx kd_Sseal_notes _ _ a0_n_b a0_n_pre a0_n_post (v77, (.map (some z1_1_42)))) hS82 hM82
    refine ⟨K77, (hS82.weak (fun c hlt hx => (.inl (hx)))), hM82, ?_⟩
    have hE82 := hE77.comp hS82 (fun c hx hlt => (by subst hx; exact (fun _ => (.inl rfl)) hlt))
    refine WO_nil ?_
    have hR85 := (hO77.ext hS82 (fun g hg hx => (fun g hg hx => hO77.box hR84 (hg.trans (congrArg some hx))) g hg hx))
    have hR86 := ((hR67.extN hS68).extN hS73)
    have hR87 := (hR86.ext hS77 (fun g hg hx => (fun g hg hx => hR86.own hR76 g hx hg) g hg hx))
    have hR88 := (hR87.ext hS82 (fun g hg hx => (fun g hg hx => hR87.box hR84 (hg.trans (congrArg some hx))) g hg hx))
    exact endR_nrm hR (v := (.tuple #[])) (resE_0 rfl) ⟨K77, v77, (.map (some z1_1_42)), (a0_n_0 ++ [(a1_s, a2_b)]), y42, rfl, h, hE82, hM82, hB82, hR85, (fun g hg => (by have hg : ob v77 = some g := hg; rcases hob77 with hq | hq <;> rw [hq] at hg; exact (.inl hg); cases hg; exact .inr hE73.size)), hR88, (fun g hg => ((ho42_z1_1 g hg).elim (fun hz => ((ho23_z1_1 g hz).elim (fun hz => (.inl hz)) (fun hz => .inr (Nat.le_trans hE13.size hz)))) (fun hz => .inr (Nat.le_trans hE33.size hz))))⟩
theorem add_c {w0 : World} {K0 : Ghost} {a0_n_b : Nat} {a0_n_pre a0_n_post : List Value} {a0_n_0v : Value} {a0_n_0 : (List ((List UInt8) × (List UInt8)))} {a0_n_1v : Value} {a0_n_1 : (List ((List UInt8) × Int))} {a1_s_v : Value} {a1_s : (List UInt8)} {a2_b_v : Value} {a2_b : (List UInt8)} (hM0 : Models w0 K0) (h_a0_n_B : Bx kd_Sseal_notes w0 K0 a0_n_b a0_n_pre a0_n_post (a0_n_0v, a0_n_1v)) (h_a0_n_0 : Own kd_Sseal_note 146 w0 K0 a0_n_0 a0_n_0v) (h_a0_n_1 : Mp kd_a32_u8 (Kd.int .i64) w0 K0 a0_n_1 a0_n_1v) (h_a1_s : kd_a32_u8.V K0 a1_s a1_s_v) (h_a2_b : kd_l_u8.V K0 a2_b a2_b_v) (hp : BookInv a0_n_0 a0_n_1 ∧ a2_b.length ≤ 140737488355328 ∧ (a0_n_0.length + 1) * 64 ≤ 140737488355328) : Calls Try.prog 86 #[(.pointer (some ⟨a0_n_b, a0_n_pre.length, none⟩)), a1_s_v, a2_b_v] w0 (fun e w' => ∃ (K' : Ghost) (u0_0 : Value) (u0_1 : Value), e = .returned (.tuple #[]) ∧ Ext (fun c => c = a0_n_b ∨ ob a0_n_0v = some c ∨ mb a0_n_1v = some c) w0 K0 w' K' ∧ Models w' K' ∧ Bx kd_Sseal_notes w' K' a0_n_b a0_n_pre a0_n_post (u0_0, u0_1) ∧ Own kd_Sseal_note 146 w' K' (addL a0_n_0 a1_s a2_b) u0_0 ∧ (∀ g, ob u0_0 = some g → ob a0_n_0v = some g ∨ w0.heap.size ≤ g) ∧ Mp kd_a32_u8 (Kd.int .i64) w' K' (addM a0_n_0 a0_n_1 a1_s a2_b) u0_1 ∧ (∀ g, mb u0_1 = some g → mb a0_n_1v = some g ∨ w0.heap.size ≤ g)) := by
  refine (add_walk hM0 h_a0_n_B h_a0_n_0 h_a0_n_1 h_a1_s h_a2_b (add_ok h_a1_s.wf h_a2_b.wf hp)).mono ?_
  rintro _ w' ⟨K', u0, u1, o0, o1, rfl, ⟨rfl, rfl⟩, hF⟩
  exact ⟨K', u0, u1, rfl, hF⟩
abbrev kd_Sseal_Book : Kd ((Value × Value) × Int) := (Kd.pr kd_Sseal_notes (Kd.int .i64))
theorem ty39 : TyOk Try.prog 39 kd_Sseal_notes 32 := ⟨⟨Try.t39, _, Try.type39, rfl, rfl, rfl, rfl, rfl⟩, ⟨_, Try.underlying39, rfl⟩⟩
abbrev BookR := BookE 146
def OfB_VC (a0_k_0_0 : (List ((List UInt8) × (List UInt8)))) (a0_k_0_1 : (List ((List UInt8) × Int))) (a0_k_1 : Int) (a1_kind : Int) (a2_parts : (List (List UInt8))) (Q : (List UInt8) → (List ((List UInt8) × (List UInt8))) → (List ((List UInt8) × Int)) → Int → Prop) : Prop :=
  (1 + blobRoom a2_parts ≤ 140737488355328) ∧ ((kd_l_u8.wf (preimage a1_kind a2_parts)) → (((1 + [(preimage a1_kind a2_parts)].length) * 24 ≤ 140737488355328 ∧ [(preimage a1_kind a2_parts)].flatten.length ≤ 140737488355328) ∧ ((kd_a32_u8.wf (sha256 [(preimage a1_kind a2_parts)])) → ((BookInv a0_k_0_0 a0_k_0_1 ∧ (preimage a1_kind a2_parts).length ≤ 140737488355328 ∧ (a0_k_0_0.length + 1) * 64 ≤ 140737488355328) ∧ (Q (sha256 [(preimage a1_kind a2_parts)]) (addL a0_k_0_0 (sha256 [(preimage a1_kind a2_parts)]) (preimage a1_kind a2_parts)) (addM a0_k_0_0 a0_k_0_1 (sha256 [(preimage a1_kind a2_parts)]) (preimage a1_kind a2_parts)) (IntKind.i64.wrap (a0_k_1 + 1)))))))
theorem OfB_ok {a0_k_0_0 : (List ((List UInt8) × (List UInt8)))} {a0_k_0_1 : (List ((List UInt8) × Int))} {a0_k_1 : Int} {a1_kind : Int} {a2_parts : (List (List UInt8))} (w_0 : (Kd.int .i64).wf a1_kind) (w_1 : kd_l_l_u8.wf a2_parts) (hp : BookInv a0_k_0_0 a0_k_0_1 ∧ 1 + blobRoom a2_parts ≤ 140737488355328 ∧ (a0_k_0_0.length + 1) * 64 ≤ 140737488355328) : OfB_VC a0_k_0_0 a0_k_0_1 a0_k_1 a1_kind a2_parts (fun o0 o1 o2 o3 => o0 = (sealOf a1_kind a2_parts) ∧ o1 = (addL a0_k_0_0 (sealOf a1_kind a2_parts) (preimage a1_kind a2_parts)) ∧ o2 = (addM a0_k_0_0 a0_k_0_1 (sealOf a1_kind a2_parts) (preimage a1_kind a2_parts)) ∧ o3 = (IntKind.i64.wrap (a0_k_1 + 1))) := by
  obtain ⟨h1, h2, h3⟩ := hp
  have hl := preimage_len a1_kind h2
  unfold OfB_VC
  exact ⟨h2, fun _ => ⟨⟨by simp, by simpa using by omega⟩, fun _ => ⟨⟨h1, by omega, h3⟩, rfl, rfl, rfl, rfl⟩⟩⟩

theorem OfB_walk {w0 : World} {K0 : Ghost} {a0_k_b : Nat} {a0_k_pre a0_k_post : List Value} {a0_k_0_0v : Value} {a0_k_0_0 : (List ((List UInt8) × (List UInt8)))} {a0_k_0_1v : Value} {a0_k_0_1 : (List ((List UInt8) × Int))} {a0_k_1 : Int} {a1_kind_v : Value} {a1_kind : Int} {a2_parts_v : Value} {a2_parts : (List (List UInt8))} {Q : (List UInt8) → (List ((List UInt8) × (List UInt8))) → (List ((List UInt8) × Int)) → Int → Prop} (hM0 : Models w0 K0) (h_a0_k_B : Bx kd_Sseal_Book w0 K0 a0_k_b a0_k_pre a0_k_post ((a0_k_0_0v, a0_k_0_1v), a0_k_1)) (h_a0_k_0_0 : Own kd_Sseal_note 146 w0 K0 a0_k_0_0 a0_k_0_0v) (h_a0_k_0_1 : Mp kd_a32_u8 (Kd.int .i64) w0 K0 a0_k_0_1 a0_k_0_1v) (h_a1_kind : (Kd.int .i64).V K0 a1_kind a1_kind_v) (h_a2_parts : kd_l_l_u8.V K0 a2_parts a2_parts_v) (h : OfB_VC a0_k_0_0 a0_k_0_1 a0_k_1 a1_kind a2_parts Q) : Calls Try.prog 67 #[(.pointer (some ⟨a0_k_b, a0_k_pre.length, none⟩)), a1_kind_v, a2_parts_v] w0 (fun e w' => ∃ (K' : Ghost) (r0 : Value) (u0_0_0 : Value) (u0_0_1 : Value) (o0 : (List UInt8)) (o1 : (List ((List UInt8) × (List UInt8)))) (o2 : (List ((List UInt8) × Int))) (o3 : Int), e = .returned r0 ∧ Q o0 o1 o2 o3 ∧ Ext (fun c => c = a0_k_b ∨ ob a0_k_0_0v = some c ∨ mb a0_k_0_1v = some c) w0 K0 w' K' ∧ Models w' K' ∧ kd_a32_u8.V K' o0 r0 ∧ Bx kd_Sseal_Book w' K' a0_k_b a0_k_pre a0_k_post ((u0_0_0, u0_0_1), o3) ∧ Own kd_Sseal_note 146 w' K' o1 u0_0_0 ∧ (∀ g, ob u0_0_0 = some g → ob a0_k_0_0v = some g ∨ w0.heap.size ≤ g) ∧ Mp kd_a32_u8 (Kd.int .i64) w' K' o2 u0_0_1 ∧ (∀ g, mb u0_0_1 = some g → mb a0_k_0_1v = some g ∨ w0.heap.size ≤ g)) := by
  unfold OfB_VC at h
  obtain rfl := int_form h_a1_kind
  have hE0 : Ext (fun c => c = a0_k_b ∨ ob a0_k_0_0v = some c ∨ mb a0_k_0_1v = some c) w0 K0 w0 K0 := Ext.refl _ _ _
  refine calls_gen fun R hR => ?_
  refine calls_env (args := [(.pointer (some ⟨a0_k_b, a0_k_pre.length, none⟩)), (.int .i64 a1_kind), a2_parts_v]) Try.func67 rfl (Nat.le_of_ble_eq_true rfl) ?_
  refine WP_seq ?_
  refine WP_region ?_
  refine WL_eff rfl rfl (St_B (S_alloc hM0 ty24) ?_)
  rintro b5 w5 (hB5 : Bx kd_a32_u8 _ _ _ _ _ (List.replicate 32 0)) hS5 hM5 hge5
  have hE5 := hE0.andN hS5
  refine WL_nil ?_
  refine WP_seq ?_
  refine WP_region ?_
  refine WL_pure (.int .i64 a1_kind) (R_mv rfl) rfl rfl ?_
  refine WL_pure a2_parts_v (R_mv rfl) rfl rfl ?_
  have hR7 := (h_a0_k_0_0.extN hS5)
  have hR8 := (h_a0_k_0_1.extN hS5)
  have hR9 := (h_a0_k_B.extN hS5)
  obtain ⟨hp11, h⟩ := h
  refine WL_eff rfl rfl (St_call (R_call Try.call98 rfl) ((Preimage_c hM5 (int_V (h_a1_kind).wf) (h_a2_parts.mono hS5.le) hp11).mono ?_))
  rintro _ w10 ⟨K10, v10_0, rfl, hS10, hM10, hO10_0, hg10_0⟩
  refine ⟨v10_0, rfl, ?_⟩
  have hE10 := hE5.andN hS10
  have h := h hO10_0.wf
  refine WL_pure v10_0 (R_as rfl) rfl rfl ?_
  refine WL_nil ?_
  refine WP_seq ?_
  refine WP_region ?_
  refine WL_pure v10_0 (R_mv rfl) rfl rfl ?_
  refine WL_eff rfl rfl (St_S0 (S_bsl (k := kd_l_u8) (l := [((preimage a1_kind a2_parts), v10_0)]) hM10 rfl (by intro p hp; simp only [List.mem_cons, List.not_mem_nil, or_false] at hp; subst hp; exact hO10_0.V) rfl Try.underlying96 ty32 rfl rfl) ?_)
  rintro v13 w13 K13 (hO13 : Own kd_l_u8 32 w13 K13 [(preimage a1_kind a2_parts)] v13) hS13 hM13 hg13
  have hE13 := hE10.andN hS13
  obtain ⟨hp16, h⟩ := h
  refine WL_eff rfl rfl (St_call (R_call Try.call110 rfl) ((ShaSum_c hM13 hO13.V hp16).mono ?_))
  rintro _ w15 ⟨K15, v15_0, rfl, hS15, hM15, hV15_0⟩
  refine ⟨v15_0, rfl, ?_⟩
  have hE15 := hE13.andN hS15
  have h := h hV15_0.wf
  refine WL_eff rfl rfl (St_B (S_alloc hM15 ty24) ?_)
  rintro b18 w18 (hB18 : Bx kd_a32_u8 _ _ _ _ _ (List.replicate 32 0)) hS18 hM18 hge18
  have hE18 := hE15.andN hS18
  have hR20 := (((hR9.extN hS10).extN hS13).extN hS15)
  have hR21 := (((hB5.extN hS10).extN hS13).extN hS15)
  refine WL_eff rfl rfl (St_St (S_stB (Foc.id _) hM18 rfl rfl (hV15_0.mono hS18.le) ty24 hB18 (by first | rfl | simp | omega)) ?_)
  rintro w22 (hB22 : Bx kd_a32_u8 _ _ b18 [] [] (sha256 [(preimage a1_kind a2_parts)])) hS22 hM22
  have hE22 := hE18.comp hS22 (fun c hx hlt => (by subst hx; exact (fun hlt => absurd hlt (Nat.not_lt.2 (Nat.le_trans hE15.size hge18))) hlt))
  refine WL_nil ?_
  refine WP_seq ?_
  refine WP_seq ?_
  refine WP_region ?_
  refine WL_pure (.pointer (some ⟨a0_k_b, a0_k_pre.length, none⟩)) (R_mv rfl) rfl rfl ?_
  refine WL_pure (.bool true) (R_pne rfl rfl Try.underlying35) rfl rfl ?_
  refine WL_nil ?_
  refine WP_cond true rfl (fun _ => ?_) (fun hc => by cases hc)
  refine WP_seq ?_
  refine WP_region ?_
  refine WL_pure (.pointer (some ⟨a0_k_b, a0_k_pre.length, none⟩)) (R_mv rfl) rfl rfl ?_
  refine WL_pure (.pointer (some ⟨a0_k_b, a0_k_pre.length, none⟩)) (R_nilck rfl) rfl rfl ?_
  refine WL_pure (.pointer (some ⟨a0_k_b, a0_k_pre.length + 2, none⟩)) (R_fa rfl Try.underlying41 rfl rfl ty3 rfl) rfl rfl ?_
  have hR24 := ((((hR9.extN hS10).extN hS13).extN hS15).extN hS18)
  have hR25 := (hR24.ext hS22 (fun hx => (fun he => (ne_new hge18 hR20.lt) he.symm) hx))
  refine WL_L hM22 (S_ldB (Foc.snd kd_Sseal_notes (Kd.int .i64)) rfl ty3 hR25 (by first | rfl | simp | omega) (fun h => h)) rfl rfl ?_
  rintro v23 (hV23 : (Kd.int .i64).V _ a0_k_1 _)
  obtain rfl := int_form hV23
  refine WL_pure (.int .i64 (IntKind.i64.wrap (a0_k_1 + 1))) (R_add rfl rfl) rfl rfl ?_
  refine WL_pure (.pointer (some ⟨a0_k_b, a0_k_pre.length, none⟩)) (R_nilck rfl) rfl rfl ?_
  refine WL_pure (.pointer (some ⟨a0_k_b, a0_k_pre.length + 2, none⟩)) (R_fa rfl Try.underlying41 rfl rfl ty3 rfl) rfl rfl ?_
  refine WL_eff rfl rfl (St_St (S_stB (Foc.snd kd_Sseal_notes (Kd.int .i64)) hM22 rfl rfl (int_V (wrap_wf _ _)) ty3 hR25 (by first | rfl | simp | omega)) ?_)
  rintro w26 (hB26 : Bx kd_Sseal_Book _ _ a0_k_b a0_k_pre a0_k_post ((a0_k_0_0v, a0_k_0_1v), (IntKind.i64.wrap (a0_k_1 + 1)))) hS26 hM26
  have hE26 := hE22.comp hS26 (fun c hx hlt => (by subst hx; exact (fun _ => (.inl rfl)) hlt))
  refine WL_nil ?_
  have hR27 := (hB22.ext hS26 (fun hx => (ne_new hge18 hR20.lt) hx))
  have hR28 := ((((hR7.extN hS10).extN hS13).extN hS15).extN hS18)
  have hR29 := (hR28.ext hS22 (fun g hg hx => (fun g hg hx => hR28.box hB18 (hg.trans (congrArg some hx))) g hg hx))
  have hR30 := (hR29.ext hS26 (fun g hg hx => (fun g hg hx => hR29.box hR25 (hg.trans (congrArg some hx))) g hg hx))
  have hR31 := ((((hR8.extN hS10).extN hS13).extN hS15).extN hS18)
  have hR32 := (hR31.ext hS22 (fun g hg hx => (fun g hg hx => hR31.box hB18 (hg.trans (congrArg some hx))) g hg hx))
  have hR33 := (hR32.ext hS26 (fun g hg hx => (fun g hg hx => hR32.box hR25 (hg.trans (congrArg some hx))) g hg hx))
  refine WP_ordD (K := K15) (fun c => c = a0_k_b ∨ ob a0_k_0_0v = some c ∨ mb a0_k_0_1v = some c ∨ w26.heap.size ≤ c) [.o 0 2, .o 1 2, .o 2 2, .o 3 2, .o 4 2, .o 5 1] (by kernel_rfl) (by kernel_rfl) hM26 ?_
  rintro w34 hS34 hM34
  have hE34 := hE26.andN hS34
  refine WO_pure (.pointer (some ⟨a0_k_b, a0_k_pre.length, none⟩)) rfl l0 hM34 (fun _ => R_mv rfl) rfl (gN rfl) rfl ?_
  refine WO_pure (.pointer (some ⟨a0_k_b, a0_k_pre.length, none⟩)) rfl l0 hM34 (fun _ => R_nilck rfl) rfl (gN rfl) rfl ?_
  refine WO_pure (.pointer (some ⟨a0_k_b, a0_k_pre.length + 0, none⟩)) rfl l0 hM34 (fun _ => R_fa rfl Try.underlying41 rfl rfl ty39 rfl) rfl (gN rfl) rfl ?_
  have hR36 := (hR27.extN hS34)
  refine WO_L0 hM34 (S_ldB (Foc.id _) rfl ty24 hR36 (by first | rfl | simp | omega) (fun h => h)) rfl (gN rfl) rfl ?_
  rintro v35 (hV35 : kd_a32_u8.V _ (sha256 [(preimage a1_kind a2_parts)]) _)
  refine WO_pure v10_0 rfl l0 hM34 (fun _ => R_mv rfl) rfl (gN rfl) rfl ?_
  have hR38 := (hR30.extN hS34)
  have hR39 := (hR33.extN hS34)
  have hR40 := (hB26.extN hS34)
  have hR41 := ((((hB5.extN hS10).extN hS13).extN hS15).extN hS18)
  have hR42 := (hR41.ext hS22 (fun hx => (fun he => (ne_new hge18 hR21.lt) he.symm) hx))
  have hR43 := ((hR42.ext hS26 (fun hx => (ne_new hge5 h_a0_k_B.lt) hx)).extN hS34)
  have hR44 := (((hO10_0.extN hS13).extN hS15).extN hS18)
  have hR45 := (hR44.ext hS22 (fun g hg hx => (fun g hg hx => hR44.box hB18 (hg.trans (congrArg some hx))) g hg hx))
  have hR46 := ((hR45.ext hS26 (fun g hg hx => (fun g hg hx => hR45.box hR25 (hg.trans (congrArg some hx))) g hg hx)).extN hS34)
  have hR47 := ((hO13.extN hS15).extN hS18)
  have hR48 := (hR47.ext hS22 (fun g hg hx => (fun g hg hx => hR47.box hB18 (hg.trans (congrArg some hx))) g hg hx))
  have hR49 := ((hR48.ext hS26 (fun g hg hx => (fun g hg hx => hR48.box hR25 (hg.trans (congrArg some hx))) g hg hx)).extN hS34)
  obtain ⟨p51, q51, hl51, hB51, hback51⟩ := Bx.sub (Foc.fst kd_Sseal_notes (Kd.int .i64)) hR40
  obtain ⟨hp52, h⟩ := h
  refine WO_eff rfl (gN rfl) rfl (St_call (R_call Try.call86 (mapC (show (Value.pointer (some ⟨a0_k_b, a0_k_pre.length + 0, none⟩)) = .pointer (some ⟨a0_k_b, ((a0_k_pre : List Value) ++ p51).length, none⟩) from by rw [List.length_append, hl51]; first | done | simp) (mapC rfl (mapC rfl mapN)))) ((add_c hM34 hB51 hR38 hR39 hV35 hR46.V hp52).mono ?_))
  rintro _ w50 ⟨K50, u50_0_0, u50_0_1, rfl, hS50, hM50, hB50_m0, hu50_0_0, hxu50_0_0, hu50_0_1, hxu50_0_1⟩
  refine ⟨(.tuple #[]), rfl, ?_⟩
  refine ⟨K50, (hS50.weak (fun c hlt hx => Or.elim hx (fun hx => (.inl (hx))) (fun hx => Or.elim hx (fun hx => (.inr (.inl (hx)))) (fun hx => (.inr (.inr (.inl (hx)))))))), hM50, ?_⟩
  have hE50 := hE34.comp hS50 (fun c hx hlt => Or.elim hx (fun hx => (by subst hx; exact (fun _ => (.inl rfl)) hlt)) (fun hx => Or.elim hx (fun hx => (fun g hg _ => (.inr (.inl hg))) c hx hlt) (fun hx => (fun g hg _ => (.inr (.inr (hg)))) c hx hlt)))
  have hf53 : ∀ g, ob u50_0_0 = some g → g < w0.heap.size → g = a0_k_b ∨ ob a0_k_0_0v = some g ∨ mb a0_k_0_1v = some g := fun g hg hlt => (hxu50_0_0 g hg).elim (fun hx => (fun g hg _ => (.inr (.inl hg))) g hx hlt) (fun hx => absurd hlt (Nat.not_lt.2 (Nat.le_trans hE34.size hx)))
  have hf54 : ∀ g, mb u50_0_1 = some g → g < w0.heap.size → g = a0_k_b ∨ ob a0_k_0_0v = some g ∨ mb a0_k_0_1v = some g := fun g hg hlt => (hxu50_0_1 g hg).elim (fun hx => (fun g hg _ => (.inr (.inr (hg)))) g hx hlt) (fun hx => absurd hlt (Nat.not_lt.2 (Nat.le_trans hE34.size hx)))
  have hB50_w : Bx kd_Sseal_Book w50 K50 a0_k_b a0_k_pre a0_k_post ((u50_0_0, u50_0_1), (IntKind.i64.wrap (a0_k_1 + 1))) := hback51 hS50.le hB50_m0
  refine WO_nil ?_
  refine WP_seq ?_
  refine WP_region ?_
  have hR56 := (hR36.ext hS50 (fun hx => Or.elim hx (fun hx => (ne_new hge18 hR20.lt) hx) (fun hx => Or.elim hx (fun hx => (hR38.box hR36) hx) (fun hx => (hR39.box hR36) hx))))
  refine WL_L hM50 (S_ldB (Foc.id _) rfl ty24 hR56 (by first | rfl | simp | omega) (fun h => h)) rfl rfl ?_
  rintro v55 (hV55 : kd_a32_u8.V _ (sha256 [(preimage a1_kind a2_parts)]) _)
  have hR59 := (hR43.ext hS50 (fun hx => Or.elim hx (fun hx => (ne_new hge5 h_a0_k_B.lt) hx) (fun hx => Or.elim hx (fun hx => (hR38.box hR43) hx) (fun hx => (hR39.box hR43) hx))))
  refine WL_eff rfl rfl (St_St (S_stB (Foc.id _) hM50 rfl rfl hV55 ty24 hR59 (by first | rfl | simp | omega)) ?_)
  rintro w58 (hB58 : Bx kd_a32_u8 _ _ b5 [] [] (sha256 [(preimage a1_kind a2_parts)])) hS58 hM58
  have hE58 := hE50.comp hS58 (fun c hx hlt => (by subst hx; exact (fun hlt => absurd hlt (Nat.not_lt.2 (Nat.le_trans hE0.size hge5))) hlt))
  refine WL_nil ?_
  refine WP_ret ?_
  refine endS_ret hR (resE_B rfl rfl ty24 hB58) ?_
  rintro v60 hV60
  have hR61 := (hu50_0_0.ext hS58 (fun g hg hx => (fun g hg hx => hu50_0_0.box hR59 (hg.trans (congrArg some hx))) g hg hx))
  have hR62 := (hu50_0_1.ext hS58 (fun g hg hx => (fun g hg hx => hu50_0_1.box hR59 (hg.trans (congrArg some hx))) g hg hx))
  have hR63 := (hB50_w.ext hS58 (fun hx => (fun he => (ne_new hge5 h_a0_k_B.lt) he.symm) hx))
  exact ⟨K50, v60, u50_0_0, u50_0_1, (sha256 [(preimage a1_kind a2_parts)]), (addL a0_k_0_0 (sha256 [(preimage a1_kind a2_parts)]) (preimage a1_kind a2_parts)), (addM a0_k_0_0 a0_k_0_1 (sha256 [(preimage a1_kind a2_parts)]) (preimage a1_kind a2_parts)), (IntKind.i64.wrap (a0_k_1 + 1)), rfl, h, hE58, hM58, hV60, hR63, hR61, (fun g hg => ((hxu50_0_0 g hg).elim (fun hz => (.inl hz)) (fun hz => .inr (Nat.le_trans hE34.size hz)))), hR62, (fun g hg => ((hxu50_0_1 g hg).elim (fun hz => (.inl hz)) (fun hz => .inr (Nat.le_trans hE34.size hz))))⟩
theorem OfB_c {w0 : World} {K0 : Ghost} {a0_k_b : Nat} {a0_k_pre a0_k_post : List Value} {a0_k_0_0v : Value} {a0_k_0_0 : (List ((List UInt8) × (List UInt8)))} {a0_k_0_1v : Value} {a0_k_0_1 : (List ((List UInt8) × Int))} {a0_k_1 : Int} {a1_kind_v : Value} {a1_kind : Int} {a2_parts_v : Value} {a2_parts : (List (List UInt8))} (hM0 : Models w0 K0) (h_a0_k_B : Bx kd_Sseal_Book w0 K0 a0_k_b a0_k_pre a0_k_post ((a0_k_0_0v, a0_k_0_1v), a0_k_1)) (h_a0_k_0_0 : Own kd_Sseal_note 146 w0 K0 a0_k_0_0 a0_k_0_0v) (h_a0_k_0_1 : Mp kd_a32_u8 (Kd.int .i64) w0 K0 a0_k_0_1 a0_k_0_1v) (h_a1_kind : (Kd.int .i64).V K0 a1_kind a1_kind_v) (h_a2_parts : kd_l_l_u8.V K0 a2_parts a2_parts_v) (hp : BookInv a0_k_0_0 a0_k_0_1 ∧ 1 + blobRoom a2_parts ≤ 140737488355328 ∧ (a0_k_0_0.length + 1) * 64 ≤ 140737488355328) : Calls Try.prog 67 #[(.pointer (some ⟨a0_k_b, a0_k_pre.length, none⟩)), a1_kind_v, a2_parts_v] w0 (fun e w' => ∃ (K' : Ghost) (r0 : Value) (u0_0_0 : Value) (u0_0_1 : Value), e = .returned r0 ∧ Ext (fun c => c = a0_k_b ∨ ob a0_k_0_0v = some c ∨ mb a0_k_0_1v = some c) w0 K0 w' K' ∧ Models w' K' ∧ kd_a32_u8.V K' (sealOf a1_kind a2_parts) r0 ∧ Bx kd_Sseal_Book w' K' a0_k_b a0_k_pre a0_k_post ((u0_0_0, u0_0_1), (IntKind.i64.wrap (a0_k_1 + 1))) ∧ Own kd_Sseal_note 146 w' K' (addL a0_k_0_0 (sealOf a1_kind a2_parts) (preimage a1_kind a2_parts)) u0_0_0 ∧ (∀ g, ob u0_0_0 = some g → ob a0_k_0_0v = some g ∨ w0.heap.size ≤ g) ∧ Mp kd_a32_u8 (Kd.int .i64) w' K' (addM a0_k_0_0 a0_k_0_1 (sealOf a1_kind a2_parts) (preimage a1_kind a2_parts)) u0_0_1 ∧ (∀ g, mb u0_0_1 = some g → mb a0_k_0_1v = some g ∨ w0.heap.size ≤ g)) := by
  refine (OfB_walk hM0 h_a0_k_B h_a0_k_0_0 h_a0_k_0_1 h_a1_kind h_a2_parts (OfB_ok h_a1_kind.wf h_a2_parts.wf hp)).mono ?_
  rintro _ w' ⟨K', r0, u0, u1, o0, o1, o2, o3, rfl, ⟨rfl, rfl, rfl, rfl⟩, hF⟩
  exact ⟨K', r0, u0, u1, rfl, hF⟩
def OfN_VC (a1_kind : Int) (a2_parts : (List (List UInt8))) (Q : (List UInt8) → Prop) : Prop :=
  (1 + blobRoom a2_parts ≤ 140737488355328) ∧ ((kd_l_u8.wf (preimage a1_kind a2_parts)) → (((1 + [(preimage a1_kind a2_parts)].length) * 24 ≤ 140737488355328 ∧ [(preimage a1_kind a2_parts)].flatten.length ≤ 140737488355328) ∧ ((kd_a32_u8.wf (sha256 [(preimage a1_kind a2_parts)])) → (Q (sha256 [(preimage a1_kind a2_parts)])))))
theorem OfN_ok {a1_kind : Int} {a2_parts : (List (List UInt8))} (w_0 : (Kd.int .i64).wf a1_kind) (w_1 : kd_l_l_u8.wf a2_parts) (hp : 1 + blobRoom a2_parts ≤ 140737488355328) : OfN_VC a1_kind a2_parts (fun o0 => o0 = (sealOf a1_kind a2_parts)) := by
  have hl := preimage_len a1_kind hp
  unfold OfN_VC
  exact ⟨hp, fun _ => ⟨⟨by simp, by simpa using by omega⟩, fun _ => rfl⟩⟩

theorem OfN_walk {w0 : World} {K0 : Ghost} {a1_kind_v : Value} {a1_kind : Int} {a2_parts_v : Value} {a2_parts : (List (List UInt8))} {Q : (List UInt8) → Prop} (hM0 : Models w0 K0) (h_a1_kind : (Kd.int .i64).V K0 a1_kind a1_kind_v) (h_a2_parts : kd_l_l_u8.V K0 a2_parts a2_parts_v) (h : OfN_VC a1_kind a2_parts Q) : Calls Try.prog 67 #[(.pointer none), a1_kind_v, a2_parts_v] w0 (fun e w' => ∃ (K' : Ghost) (r0 : Value) (o0 : (List UInt8)), e = .returned r0 ∧ Q o0 ∧ Ext NX w0 K0 w' K' ∧ Models w' K' ∧ kd_a32_u8.V K' o0 r0) := by
  unfold OfN_VC at h
  obtain rfl := int_form h_a1_kind
  have hE0 : Ext NX w0 K0 w0 K0 := Ext.refl _ _ _
  refine calls_gen fun R hR => ?_
  refine calls_env (args := [(.pointer none), (.int .i64 a1_kind), a2_parts_v]) Try.func67 rfl (Nat.le_of_ble_eq_true rfl) ?_
  refine WP_seq ?_
  refine WP_region ?_
  refine WL_eff rfl rfl (St_B (S_alloc hM0 ty24) ?_)
  rintro b2 w2 (hB2 : Bx kd_a32_u8 _ _ _ _ _ (List.replicate 32 0)) hS2 hM2 hge2
  have hE2 := hE0.andN hS2
  refine WL_nil ?_
  refine WP_seq ?_
  refine WP_region ?_
  refine WL_pure (.int .i64 a1_kind) (R_mv rfl) rfl rfl ?_
  refine WL_pure a2_parts_v (R_mv rfl) rfl rfl ?_
  obtain ⟨hp5, h⟩ := h
  refine WL_eff rfl rfl (St_call (R_call Try.call98 rfl) ((Preimage_c hM2 (int_V (h_a1_kind).wf) (h_a2_parts.mono hS2.le) hp5).mono ?_))
  rintro _ w4 ⟨K4, v4_0, rfl, hS4, hM4, hO4_0, hg4_0⟩
  refine ⟨v4_0, rfl, ?_⟩
  have hE4 := hE2.andN hS4
  have h := h hO4_0.wf
  refine WL_pure v4_0 (R_as rfl) rfl rfl ?_
  refine WL_nil ?_
  refine WP_seq ?_
  refine WP_region ?_
  refine WL_pure v4_0 (R_mv rfl) rfl rfl ?_
  refine WL_eff rfl rfl (St_S0 (S_bsl (k := kd_l_u8) (l := [((preimage a1_kind a2_parts), v4_0)]) hM4 rfl (by intro p hp; simp only [List.mem_cons, List.not_mem_nil, or_false] at hp; subst hp; exact hO4_0.V) rfl Try.underlying96 ty32 rfl rfl) ?_)
  rintro v7 w7 K7 (hO7 : Own kd_l_u8 32 w7 K7 [(preimage a1_kind a2_parts)] v7) hS7 hM7 hg7
  have hE7 := hE4.andN hS7
  obtain ⟨hp10, h⟩ := h
  refine WL_eff rfl rfl (St_call (R_call Try.call110 rfl) ((ShaSum_c hM7 hO7.V hp10).mono ?_))
  rintro _ w9 ⟨K9, v9_0, rfl, hS9, hM9, hV9_0⟩
  refine ⟨v9_0, rfl, ?_⟩
  have hE9 := hE7.andN hS9
  have h := h hV9_0.wf
  refine WL_eff rfl rfl (St_B (S_alloc hM9 ty24) ?_)
  rintro b12 w12 (hB12 : Bx kd_a32_u8 _ _ _ _ _ (List.replicate 32 0)) hS12 hM12 hge12
  have hE12 := hE9.andN hS12
  have hR14 := (((hB2.extN hS4).extN hS7).extN hS9)
  refine WL_eff rfl rfl (St_St (S_stB (Foc.id _) hM12 rfl rfl (hV9_0.mono hS12.le) ty24 hB12 (by first | rfl | simp | omega)) ?_)
  rintro w15 (hB15 : Bx kd_a32_u8 _ _ b12 [] [] (sha256 [(preimage a1_kind a2_parts)])) hS15 hM15
  have hE15 := hE12.comp hS15 (fun c hx hlt => (by subst hx; exact (fun hlt => absurd hlt (Nat.not_lt.2 (Nat.le_trans hE9.size hge12))) hlt))
  refine WL_nil ?_
  refine WP_seq ?_
  refine WP_seq ?_
  refine WP_region ?_
  refine WL_pure (.pointer none) (R_mv rfl) rfl rfl ?_
  refine WL_pure (.bool false) (R_pne0 rfl rfl Try.underlying35) rfl rfl ?_
  refine WL_nil ?_
  refine WP_cond false rfl (fun hc => by cases hc) (fun _ => ?_)
  refine WP_skip ?_
  refine WP_seq ?_
  refine WP_region ?_
  refine WL_L hM15 (S_ldB (Foc.id _) rfl ty24 hB15 (by first | rfl | simp | omega) (fun h => h)) rfl rfl ?_
  rintro v16 (hV16 : kd_a32_u8.V _ (sha256 [(preimage a1_kind a2_parts)]) _)
  have hR19 := ((((hB2.extN hS4).extN hS7).extN hS9).extN hS12)
  have hR20 := (hR19.ext hS15 (fun hx => (fun he => (ne_new hge12 hR14.lt) he.symm) hx))
  refine WL_eff rfl rfl (St_St (S_stB (Foc.id _) hM15 rfl rfl hV16 ty24 hR20 (by first | rfl | simp | omega)) ?_)
  rintro w18 (hB18 : Bx kd_a32_u8 _ _ b2 [] [] (sha256 [(preimage a1_kind a2_parts)])) hS18 hM18
  have hE18 := hE15.comp hS18 (fun c hx hlt => (by subst hx; exact (fun hlt => absurd hlt (Nat.not_lt.2 (Nat.le_trans hE0.size hge2))) hlt))
  refine WL_nil ?_
  refine WP_ret ?_
  refine endS_ret hR (resE_B rfl rfl ty24 hB18) ?_
  rintro v21 hV21
  exact ⟨K9, v21, (sha256 [(preimage a1_kind a2_parts)]), rfl, h, hE18, hM18, hV21⟩
theorem OfN_c {w0 : World} {K0 : Ghost} {a1_kind_v : Value} {a1_kind : Int} {a2_parts_v : Value} {a2_parts : (List (List UInt8))} (hM0 : Models w0 K0) (h_a1_kind : (Kd.int .i64).V K0 a1_kind a1_kind_v) (h_a2_parts : kd_l_l_u8.V K0 a2_parts a2_parts_v) (hp : 1 + blobRoom a2_parts ≤ 140737488355328) : Calls Try.prog 67 #[(.pointer none), a1_kind_v, a2_parts_v] w0 (fun e w' => ∃ (K' : Ghost) (r0 : Value), e = .returned r0 ∧ Ext NX w0 K0 w' K' ∧ Models w' K' ∧ kd_a32_u8.V K' (sealOf a1_kind a2_parts) r0) := by
  refine (OfN_walk hM0 h_a1_kind h_a2_parts (OfN_ok h_a1_kind.wf h_a2_parts.wf hp)).mono ?_
  rintro _ w' ⟨K', r0, o0, rfl, rfl, hF⟩
  exact ⟨K', r0, rfl, hF⟩
theorem Of_c {w0 : World} {K0 : Ghost} {a0_k_v : Value} {a0_k_F : Nat → Prop} {a0_k : BookA} {a1_kind_v : Value} {a1_kind : Int} {a2_parts_v : Value} {a2_parts : (List (List UInt8))} (hM0 : Models w0 K0) (h_a0_k : BookR w0 K0 a0_k_v a0_k_F a0_k) (h_a1_kind : (Kd.int .i64).V K0 a1_kind a1_kind_v) (h_a2_parts : kd_l_l_u8.V K0 a2_parts a2_parts_v) (hp : 1 + blobRoom a2_parts ≤ 140737488355328 ∧ bookRoom a0_k) : Calls Try.prog 67 #[a0_k_v, a1_kind_v, a2_parts_v] w0 (fun e w' => ∃ (K' : Ghost) (r0 : Value) (F0 : Nat → Prop), e = .returned r0 ∧ Ext a0_k_F w0 K0 w' K' ∧ Models w' K' ∧ kd_a32_u8.V K' (sealOf a1_kind a2_parts) r0 ∧ BookR w' K' a0_k_v F0 (bookOf a0_k a1_kind a2_parts) ∧ (∀ g, F0 g → a0_k_F g ∨ w0.heap.size ≤ g)) := by
  cases a0_k with
  | none =>
    obtain ⟨rfl, rfl⟩ := h_a0_k
    refine (OfN_c hM0 h_a1_kind h_a2_parts hp.1).mono ?_
    rintro _ w' ⟨K', r0, rfl, hE, hM, hr0⟩
    exact ⟨K', r0, NX, rfl, hE, hM, hr0, ⟨rfl, rfl⟩, fun g hg => hg.elim⟩
  | some x =>
    obtain ⟨b, pre, post, lv, mv, m, rfl, hB, hO, hm, hi, hF, hlt⟩ := h_a0_k
    refine (OfB_c hM0 hB hO hm h_a1_kind h_a2_parts ⟨hi, hp.1, hp.2 x rfl⟩).mono ?_
    rintro _ w' ⟨K', r0, u0, u1, rfl, hE, hM, hr0, hB', hO', hx, hm', hy⟩
    refine ⟨K', r0, _, rfl, hE.weak (fun g hg hx => hF g hx), hM, hr0, BookE.mk hB' hO' hm' (addInv hi _ _), fun g hg => ?_⟩
    rcases hg with rfl | hg | hg
    · exact .inl (hF _ (.inl rfl))
    · exact (hx g hg).imp (fun h => hF g (.inr (.inl h))) id
    · exact (hy g hg).imp (fun h => hF g (.inr (.inr h))) id

abbrev kd_Sseal_notesF : Kd ((List ((List UInt8) × (List UInt8))) × Unit) := (Kd.pr kd_l_Sseal_note Kd.anm)
abbrev kd_Sseal_BookF : Kd (((List ((List UInt8) × (List UInt8))) × Unit) × Int) := (Kd.pr kd_Sseal_notesF (Kd.int .i64))
abbrev kd_p_Sseal_BookF : Kd (Option (((List ((List UInt8) × (List UInt8))) × Unit) × Int)) := (Kd.ptr kd_Sseal_BookF)
abbrev kd_l_p_Sseal_BookF : Kd (List (Option (((List ((List UInt8) × (List UInt8))) × Unit) × Int))) := (Kd.sl kd_p_Sseal_BookF)
theorem ty41 : TyOk Try.prog 41 kd_Sseal_Book 40 := ⟨⟨Try.t41, _, Try.type41, rfl, rfl, rfl, rfl, rfl⟩, ⟨_, Try.underlying41, rfl⟩⟩
theorem ty35b : TyOk Try.prog 35 kd_p_Sseal_BookF 8 := ⟨⟨Try.t35, _, Try.type35, rfl, rfl, rfl, rfl, rfl⟩, ⟨_, Try.underlying35, rfl⟩⟩
theorem ty39F : TyOk Try.prog 39 kd_Sseal_notesF 32 := ⟨⟨Try.t39, _, Try.type39, rfl, rfl, rfl, rfl, rfl⟩, ⟨_, Try.underlying39, rfl⟩⟩
theorem ty36 : TyOk Try.prog 36 kd_l_Sseal_note 24 := ⟨⟨Try.t36, _, Try.type36, rfl, rfl, rfl, rfl, rfl⟩, ⟨_, Try.underlying36, rfl⟩⟩
theorem fs41 {fs : Array Field} (h : Try.prog.underlying 41 = some (.struct fs)) : ∀ f ∈ fs.toList, ∃ i, Try.prog.info? f.type = some i := by
  have h2 := (Try.underlying41).symm.trans h
  cases h2
  intro f hf
  simp only [List.mem_cons, List.not_mem_nil, or_false] at hf
  rcases hf with rfl | rfl
  · exact ⟨_, Try.type39⟩
  · exact ⟨_, Try.type3⟩
def Clash_VC (a0_l : (List (Option (((List ((List UInt8) × (List UInt8))) × Unit) × Int)))) (Q : (List UInt8) → (List UInt8) → Bool → Prop) : Prop :=
  ∃ (I10 : (List UInt8) → (List UInt8) → Bool → Int → (List ((List UInt8) × (List UInt8))) → (List ((List UInt8) × Int)) → Prop) (μ10 : (List UInt8) → (List UInt8) → Bool → Int → (List ((List UInt8) × (List UInt8))) → (List ((List UInt8) × Int)) → Nat), I10 ([] : List UInt8) ([] : List UInt8) false 0 ([] : List ((List UInt8) × (List UInt8))) ([] : List ((List UInt8) × Int)) ∧ ∀ (a10 : (List UInt8)) (b10 : (List UInt8)) (found10 : Bool) (i10 : Int) (y10 : (List ((List UInt8) × (List UInt8)))) (y10' : (List ((List UInt8) × Int))), I10 a10 b10 found10 i10 y10 y10' → (kd_l_u8.wf a10) → (kd_l_u8.wf b10) → ((Kd.int .i64).wf i10) → (kd_l_Sseal_note.wf y10) → (((i10 < (a0_l.length : Int)) → (0 ≤ i10 ∧ i10 < (a0_l.length : Int)) ∧ (((((ix a0_l i10).isNone) = true) → I10 a10 b10 found10 (i10 + 1) y10 y10' ∧ μ10 a10 b10 found10 (i10 + 1) y10 y10' < μ10 a10 b10 found10 i10 y10 y10') ∧ ((((ix a0_l i10).isNone) = false) → ∀ (y20 : (((List ((List UInt8) × (List UInt8))) × Unit) × Int)), (ix a0_l i10) = some y20 → (∃ (I28 : (List UInt8) → (List UInt8) → Bool → Int → (List ((List UInt8) × (List UInt8))) → (List ((List UInt8) × Int)) → Prop) (μ28 : (List UInt8) → (List UInt8) → Bool → Int → (List ((List UInt8) × (List UInt8))) → (List ((List UInt8) × Int)) → Nat), I28 a10 b10 found10 0 y10 y10' ∧ ∀ (a28 : (List UInt8)) (b28 : (List UInt8)) (found28 : Bool) (i28 : Int) (y28 : (List ((List UInt8) × (List UInt8)))) (y28' : (List ((List UInt8) × Int))), I28 a28 b28 found28 i28 y28 y28' → (kd_l_u8.wf a28) → (kd_l_u8.wf b28) → ((Kd.int .i64).wf i28) → (kd_l_Sseal_note.wf y28) → (((i28 < (y20.1.1.length : Int)) → (0 ≤ i28 ∧ i28 < (y20.1.1.length : Int)) ∧ (((((mfind ((ix y20.1.1 i28).1) y28').isSome) = true) → ((0 ≤ ((mfind ((ix y20.1.1 i28).1) y28').getD 0) ∧ ((mfind ((ix y20.1.1 i28).1) y28').getD 0) < (y28.length : Int)) ∧ (True))) ∧ ((((((mfind ((ix y20.1.1 i28).1) y28').isSome) = true) ∧ (¬ (((ix y28 ((mfind ((ix y20.1.1 i28).1) y28').getD 0)).2) = ((ix y20.1.1 i28).2)))) → (0 ≤ ((mfind ((ix y20.1.1 i28).1) y28').getD 0) ∧ ((mfind ((ix y20.1.1 i28).1) y28').getD 0) < (y28.length : Int)) ∧ ((((ix y28 ((mfind ((ix y20.1.1 i28).1) y28').getD 0)).2).length ≤ 140737488355328) ∧ ((kd_l_u8.wf ((ix y28 ((mfind ((ix y20.1.1 i28).1) y28').getD 0)).2)) → ((((ix y20.1.1 i28).2).length ≤ 140737488355328) ∧ ((kd_l_u8.wf ((ix y20.1.1 i28).2)) → (Q ((ix y28 ((mfind ((ix y20.1.1 i28).1) y28').getD 0)).2) ((ix y20.1.1 i28).2) true)))))) ∧ ((¬ ((((mfind ((ix y20.1.1 i28).1) y28').isSome) = true) ∧ (¬ (((ix y28 ((mfind ((ix y20.1.1 i28).1) y28').getD 0)).2) = ((ix y20.1.1 i28).2))))) → (BookInv y28 y28' ∧ ((ix y20.1.1 i28).2).length ≤ 140737488355328 ∧ (y28.length + 1) * 64 ≤ 140737488355328) ∧ (I28 a28 b28 found28 (i28 + 1) (addL y28 ((ix y20.1.1 i28).1) ((ix y20.1.1 i28).2)) (addM y28 y28' ((ix y20.1.1 i28).1) ((ix y20.1.1 i28).2)) ∧ μ28 a28 b28 found28 (i28 + 1) (addL y28 ((ix y20.1.1 i28).1) ((ix y20.1.1 i28).2)) (addM y28 y28' ((ix y20.1.1 i28).1) ((ix y20.1.1 i28).2)) < μ28 a28 b28 found28 i28 y28 y28'))))) ∧ ((¬ (i28 < (y20.1.1.length : Int))) → I10 a28 b28 found28 (IntKind.i64.wrap (i10 + 1)) y28 y28' ∧ μ10 a28 b28 found28 (IntKind.i64.wrap (i10 + 1)) y28 y28' < μ10 a10 b10 found10 i10 y10 y10')))))) ∧ ((¬ (i10 < (a0_l.length : Int))) → Q ([] : List UInt8) ([] : List UInt8) false))
theorem Clash_ok {a0_l : (List (Option (((List ((List UInt8) × (List UInt8))) × Unit) × Int)))} (w_0 : kd_l_p_Sseal_BookF.wf a0_l) (hp : clashPre a0_l) : Clash_VC a0_l (fun o0 o1 o2 => o0 = (clashA a0_l).1 ∧ o1 = (clashA a0_l).2.1 ∧ o2 = (clashA a0_l).2.2) := by
  obtain ⟨hp1, hp2⟩ := hp
  unfold Clash_VC
  refine ⟨fun _ _ _ i l m => ∃ j : Nat, i = (j : Int) ∧ j ≤ a0_l.length ∧ clashA a0_l = clashL l (notesF (a0_l.drop j)) ∧ BookInv l m ∧ l.length ≤ (notesF (a0_l.take j)).length ∧ ∀ z ∈ l, z ∈ notesF a0_l, fun _ _ _ i _ _ => a0_l.length - i.toNat, ⟨0, rfl, by omega, by simp [clashA], fun s => rfl, by simp, by simp⟩, ?_⟩
  rintro a b f i l m ⟨j, rfl, hj, hc, hi, hlen, hmem⟩ _ _ _ _
  refine ⟨fun hlt => ⟨⟨by omega, hlt⟩, fun hn => ⟨⟨j + 1, by omega, by omega, ?_, hi, ?_, hmem⟩, ?_⟩, fun hs y hy => ?_⟩, fun hge => ?_⟩
  · rw [hc, notesF_drop hlt]
    rw [Option.isNone_iff_eq_none] at hn
    rw [hn]
    rfl
  · have h1 := congrArg List.length (notesF_take (a0_l.take (j + 1)) j)
    rw [List.take_take, Nat.min_eq_left (by omega), List.length_append] at h1
    omega
  · show a0_l.length - ((j : Int) + 1).toNat < a0_l.length - (j : Int).toNat
    omega
  · have hd := notesF_drop hlt
    rw [hy] at hd
    simp only at hd
    have hall := notesF_take a0_l j
    have hal := congrArg List.length hall
    rw [hd, List.length_append, List.length_append] at hal
    have hym : ∀ z ∈ y.1.1, z ∈ notesF a0_l := fun z hz => by
      rw [hall, hd]
      simp [hz]
    refine ⟨fun _ _ _ i l m => ∃ n : Nat, i = (n : Int) ∧ n ≤ y.1.1.length ∧ clashA a0_l = clashL l (y.1.1.drop n ++ notesF (a0_l.drop (j + 1))) ∧ BookInv l m ∧ l.length ≤ (notesF (a0_l.take j)).length + n ∧ ∀ z ∈ l, z ∈ notesF a0_l, fun _ _ _ i _ _ => y.1.1.length - i.toNat, ⟨0, rfl, by omega, by rw [hc, hd]; simp, hi, by omega, hmem⟩, ?_⟩
    rintro a b f i l m ⟨n, rfl, hn, hc, hi, hlen, hmem⟩ _ _ _ _
    simp only [hi _]
    refine ⟨fun hlt2 => ⟨⟨by omega, hlt2⟩, ?_, ?_, ?_⟩, fun hge => ?_⟩
    · intro hs
      obtain ⟨a, ha⟩ := Option.isSome_iff_exists.1 hs
      have := firstOf_ix ha
      rw [ha]
      exact ⟨this, trivial⟩
    · intro hs
      have hnl : n < y.1.1.length := by omega
      have hst : y.1.1.drop n ++ notesF (a0_l.drop (j + 1)) = ix y.1.1 (n : Int) :: (y.1.1.drop (n + 1) ++ notesF (a0_l.drop (j + 1))) := by
        rw [List.drop_eq_getElem_cons hnl, ix_of_lt (by simpa using hnl)]
        rfl
      rw [hst, clashL_step, if_pos hs] at hc
      obtain ⟨a, ha⟩ := Option.isSome_iff_exists.1 hs.1
      have hb := firstOf_ix ha
      rw [ha] at hc ⊢
      simp only [Option.getD_some] at hc ⊢
      refine ⟨hb, hp2 _ (hmem _ (ix_mem' hb.1 hb.2)), fun _ => ⟨hp2 _ (hym _ (ix_mem' (by omega) hlt2)), fun _ => ?_⟩⟩
      rw [hc]
      exact ⟨rfl, rfl, rfl⟩
    · intro hs
      have hnl : n < y.1.1.length := by omega
      have hst : y.1.1.drop n ++ notesF (a0_l.drop (j + 1)) = ix y.1.1 (n : Int) :: (y.1.1.drop (n + 1) ++ notesF (a0_l.drop (j + 1))) := by
        rw [List.drop_eq_getElem_cons hnl, ix_of_lt (by simpa using hnl)]
        rfl
      rw [hst, clashL_step, if_neg hs] at hc
      have hx := hym _ (ix_mem' (l := y.1.1) (i := (n : Int)) (by omega) hlt2)
      refine ⟨⟨fun s => hi s, hp2 _ hx, by omega⟩, ⟨n + 1, by omega, by omega, hc, addInv hi _ _, ?_, ?_⟩, ?_⟩
      · have := addL_len l (ix y.1.1 (n : Int)).1 (ix y.1.1 (n : Int)).2
        omega
      · intro z hz
        rcases addL_mem hz with h | rfl
        · exact hmem z h
        · exact hx
      · show y.1.1.length - ((n : Int) + 1).toNat < y.1.1.length - (n : Int).toNat
        omega
    · have hne : n = y.1.1.length := by omega
      subst hne
      have hw : IntKind.i64.wrap ((j : Int) + 1) = (j : Int) + 1 := wrap_id (wf64 (by omega) (by have := w_0.1; unfold LM at this; omega))
      rw [hw]
      refine ⟨⟨j + 1, by omega, by omega, by rw [hc]; simp, hi, ?_, hmem⟩, ?_⟩
      · have h1 := congrArg List.length (notesF_take (a0_l.take (j + 1)) j)
        rw [List.take_take, Nat.min_eq_left (by omega), List.length_append, List.drop_take] at h1
        have h2 : notesF ((a0_l.drop j).take (j + 1 - j)) = y.1.1 := by
          have hj' : j < a0_l.length := by omega
          rw [List.drop_eq_getElem_cons hj', show j + 1 - j = 1 from by omega, List.take_succ_cons, List.take_zero]
          have : a0_l[j] = some y := by
            rw [← hy, ix_of_lt (by simpa using hj')]
            rfl
          rw [this]
          simp [notesF]
        rw [h2] at h1
        omega
      · show a0_l.length - ((j : Int) + 1).toNat < a0_l.length - (j : Int).toNat
        omega
  · have : j = a0_l.length := by omega
    subst this
    rw [hc]
    simp [notesF, clashL]

theorem Clash_walk {w0 : World} {K0 : Ghost} {a0_l_v : Value} {a0_l : (List (Option (((List ((List UInt8) × (List UInt8))) × Unit) × Int)))} {Q : (List UInt8) → (List UInt8) → Bool → Prop} (hM0 : Models w0 K0) (h_a0_l : kd_l_p_Sseal_BookF.V K0 a0_l a0_l_v) (h : Clash_VC a0_l Q) : Calls Try.prog 36 #[a0_l_v] w0 (fun e w' => ∃ (K' : Ghost) (r0 : Value) (r1 : Value) (r2 : Value) (o0 : (List UInt8)) (o1 : (List UInt8)) (o2 : Bool), e = .returned (.tuple #[r0, r1, r2]) ∧ Q o0 o1 o2 ∧ Ext NX w0 K0 w' K' ∧ Models w' K' ∧ kd_l_u8.V K' o0 r0 ∧ kd_l_u8.V K' o1 r1 ∧ Kd.bool.V K' o2 r2) := by
  unfold Clash_VC at h
  have hE0 : Ext NX w0 K0 w0 K0 := Ext.refl _ _ _
  refine calls_gen fun R hR => ?_
  refine calls_env (args := [a0_l_v]) Try.func36 rfl (Nat.le_of_ble_eq_true rfl) ?_
  refine WP_seq ?_
  refine WP_region ?_
  have hR2 : Own Kd.byte 5 w0 K0 ([] : List UInt8) (.slice none 0 0) := Own.nil
  refine WL_pure (.slice none 0 0) (R_as rfl) rfl rfl ?_
  have hR3 : Own Kd.byte 5 w0 K0 ([] : List UInt8) (.slice none 0 0) := Own.nil
  refine WL_pure (.slice none 0 0) (R_as rfl) rfl rfl ?_
  refine WL_pure (.bool false) (R_as rfl) rfl rfl ?_
  refine WL_nil ?_
  refine WP_seq ?_
  refine WP_region ?_
  refine WL_V (S_bld (K := K0) (vs := []) (Z := (((.slice none 0 0), (.map none)), 0)) ty41 rfl Try.underlying41 (fs41 Try.underlying41) rfl Parts.nil) rfl rfl ?_
  rintro v4 (hV4 : kd_Sseal_Book.V _ (((.slice none 0 0), (.map none)), 0) _)
  refine WL_eff rfl rfl (St_B (S_box hM0 rfl hV4) ?_)
  rintro b6 w6 (hB6 : Bx kd_Sseal_Book _ _ _ _ _ (((.slice none 0 0), (.map none)), 0)) hS6 hM6 hge6
  have hE6 := hE0.andN hS6
  have hR8 : Own kd_Sseal_note 146 w6 K0 ([] : List ((List UInt8) × (List UInt8))) (.slice none 0 0) := Own.nil
  have hR9 : Mp kd_a32_u8 (Kd.int .i64) w6 K0 ([] : List ((List UInt8) × Int)) (.map none) := Or.inl ⟨rfl, rfl⟩
  refine WL_pure (.pointer (some ⟨b6, 0, none⟩)) (R_as rfl) rfl rfl ?_
  refine WL_nil ?_
  refine WP_seq ?_
  refine WP_seq ?_
  refine WP_region ?_
  refine WL_pure a0_l_v (R_mv rfl) rfl rfl ?_
  refine WL_pure (.int .i64 (a0_l.length : Int)) (R_len rfl (h_a0_l.mono hS6.le) Try.underlying107) rfl rfl ?_
  refine WL_pure (.int .i64 0) (R_mv rfl) rfl rfl ?_
  refine WL_nil ?_
  refine WP_block ?_
  have hR12 := (hR2.extN hS6)
  have hR13 := (hR3.extN hS6)
  obtain ⟨I10, μ10, h0, h⟩ := h
  refine WP_loopE (ι := (List UInt8) × (List UInt8) × Bool × Int × (List ((List UInt8) × (List UInt8))) × (List ((List UInt8) × Int))) [2, 3, 4, 7, 9, 10, 11, 16, 17, 18, 19, 20, 21, 22, 23, 24, 25, 26, 27, 28, 29, 30, 31, 32, 33, 34, 35, 36, 37, 38, 39, 40, 41, 42, 43, 44, 45, 46, 47, 48, 49, 50, 51, 52, 53, 54, 55, 56, 57, 58, 59, 60, 61, 62, 63, 64, 65, 66, 67, 68, 69, 70, 71, 72, 73, 74, 75, 76, 77, 78, 79, 80, 81] (fun s l w => ∃ K u2 u3 z7_0_0 z7_0_1, I10 s.1 s.2.1 s.2.2.1 s.2.2.2.1 s.2.2.2.2.1 s.2.2.2.2.2 ∧ l = [(2, u2), (3, u3), (4, (.bool s.2.2.1)), (16, (.int .i64 s.2.2.2.1))] ∧ Ext (fun c => ob (.slice none 0 0) = some c ∨ ob (.slice none 0 0) = some c ∨ ob (.slice none 0 0) = some c ∨ mb (.map none) = some c ∨ c = b6) w6 K0 w K ∧ Models w K ∧ (Kd.int .i64).wf s.2.2.2.1 ∧ Own Kd.byte 5 w K s.1 u2 ∧ (∀ g, ob u2 = some g → ob (.slice none 0 0) = some g ∨ w6.heap.size ≤ g) ∧ Own Kd.byte 5 w K s.2.1 u3 ∧ (∀ g, ob u3 = some g → ob (.slice none 0 0) = some g ∨ w6.heap.size ≤ g) ∧ Own kd_Sseal_note 146 w K s.2.2.2.2.1 z7_0_0 ∧ (∀ g, ob z7_0_0 = some g → ob (.slice none 0 0) = some g ∨ w6.heap.size ≤ g) ∧ Mp kd_a32_u8 (Kd.int .i64) w K s.2.2.2.2.2 z7_0_1 ∧ (∀ g, mb z7_0_1 = some g → mb (.map none) = some g ∨ w6.heap.size ≤ g) ∧ Bx kd_Sseal_Book w K b6 [] [] ((z7_0_0, z7_0_1), 0) ∧ (∀ g, ob u2 = some g → ¬ (ob u3 = some g))) (fun s => μ10 s.1 s.2.1 s.2.2.1 s.2.2.2.1 s.2.2.2.2.1 s.2.2.2.2.2) (([] : List UInt8), ([] : List UInt8), false, 0, ([] : List ((List UInt8) × (List UInt8))), ([] : List ((List UInt8) × Int))) [(2, (.slice none 0 0)), (3, (.slice none 0 0)), (4, (.bool false)), (16, (.int .i64 0))]
    ⟨K0, (.slice none 0 0), (.slice none 0 0), (.slice none 0 0), (.map none), h0, rfl, Ext.refl _ _ _, hM6, (show (Kd.int .i64).wf 0 from by constructor <;> decide), hR12, (fun g hg => (.inl hg)), hR13, (fun g hg => (.inl hg)), hR8, (fun g hg => .inr (nilS hg)), hR9, (fun g hg => .inr (nilM hg)), hB6, (fun g hg hx => (fun g hg _ => nilS hg) g hx hg)⟩ (by repeat (first | exact trivial | refine ⟨rfl, ?_⟩)) ?_
  rintro ⟨a10, b10, found10, i10, y10, y10'⟩ l σ10 w11 ⟨K11, u2_10, u3_10, z7_0_0_10, z7_0_1_10, hI, rfl, hX11, hM11, hw10_16, hL10_u2, ho10_u2, hL10_u3, ho10_u3, hL10_z7_0_0, ho10_z7_0_0, hL10_z7_0_1, ho10_z7_0_1, hL10_7, hs10_u2_u3⟩
  dsimp only at hI hw10_16 hL10_u2 ho10_u2 hL10_u3 ho10_u3 hL10_z7_0_0 ho10_z7_0_0 hL10_z7_0_1 ho10_z7_0_1 hL10_7
  have hE11 := hE6.comp hX11 (fun c hx hlt => Or.elim hx (fun hx => (fun g hg _ => nilS hg) c hx hlt) (fun hx => Or.elim hx (fun hx => (fun g hg _ => nilS hg) c hx hlt) (fun hx => Or.elim hx (fun hx => (fun g hg _ => nilS hg) c hx hlt) (fun hx => Or.elim hx (fun hx => (fun g hg _ => nilM hg) c hx hlt) (fun hx => (by subst hx; exact (fun hlt => absurd hlt (Nat.not_lt.2 (Nat.le_trans hE0.size hge6))) hlt))))))
  have h := h a10 b10 found10 i10 y10 y10' hI hL10_u2.wf hL10_u3.wf hw10_16 hL10_z7_0_0.wf
  refine WP_seq ?_
  refine WP_region ?_
  refine WL_pure (.bool (decide (i10 < (a0_l.length : Int)))) (R_lss rfl rfl) rfl rfl ?_
  refine WL_nil ?_
  refine WP_seq ?_
  refine WP_cond (decide (i10 < (a0_l.length : Int))) rfl (fun hc14 => ?_) (fun hc14 => ?_)
  · have hd14 : i10 < (a0_l.length : Int) := dec_t hc14
    have h := h.1 hd14
    refine WP_skip ?_
    refine WP_seq ?_
    refine WP_block ?_
    refine WP_seq ?_
    refine WP_region ?_
    obtain ⟨hp16, h⟩ := h
    refine WL_P (S_ixs rfl (h_a0_l.mono (hS6.le.trans hX11.le)) rfl Try.underlying107 ty35b hp16.1 hp16.2) rfl rfl ?_
    rintro b15 o15 hP15
    refine WL_L hM11 (S_ld rfl ty35b hP15) rfl rfl ?_
    rintro v18 (hV18 : kd_p_Sseal_BookF.V _ (ix a0_l i10) _)
    refine WL_pure v18 (R_as rfl) rfl rfl ?_
    refine WL_nil ?_
    refine WP_seq ?_
    refine WP_seq ?_
    refine WP_region ?_
    refine WL_pure v18 (R_mv rfl) rfl rfl ?_
    refine WL_pure (.bool ((ix a0_l i10).isNone)) (R_ptrnil rfl hV18 rfl Try.underlying35) rfl rfl ?_
    refine WL_nil ?_
    refine WP_cond ((ix a0_l i10).isNone) rfl (fun hc20 => ?_) (fun hc20 => ?_)
    · have hd20 : ((ix a0_l i10).isNone) = true := hc20
      have h := h.1 hd20
      refine WP_exit ?_
      refine WP_region ?_
      refine WL_pure (.int .i64 (i10 + 1)) (R_inc rfl rfl hw10_16 hd14 (len_wf (h_a0_l).wf.1)) rfl rfl ?_
      refine WL_pure (.int .i64 (i10 + 1)) (R_mv rfl) rfl rfl ?_
      refine WL_nil ?_
      refine BackQ.mk (a10, b10, found10, (i10 + 1), y10, y10') [(2, u2_10), (3, u3_10), (4, (.bool found10)), (16, (.int .i64 (i10 + 1)))] ?_ ?_ ?_ ?_
      rotate_left
      · exact h.2
      · repeat (first | exact Off.lay0 rfl | refine Off.updO ?_ rfl _ | refine Off.updN ?_ _ | refine Off.lay ?_ rfl)
      · repeat (first | exact trivial | refine ⟨rfl, ?_⟩)
      exact ⟨K11, u2_10, u3_10, z7_0_0_10, z7_0_1_10, h.1, rfl, ((Ext.refl _ _ _).comp hX11 (fun c hx hlt => Or.elim hx (fun hx => (.inl (hx))) (fun hx => Or.elim hx (fun hx => (.inl (hx))) (fun hx => Or.elim hx (fun hx => (absurd hlt (Nat.not_lt.2 (nilS hx)))) (fun hx => Or.elim hx (fun hx => (absurd hlt (Nat.not_lt.2 (nilM hx)))) (fun hx => (.inr (.inr (.inr (.inr (hx))))))))))), hM11, (inc_wf hw10_16 hd14 (len_wf (h_a0_l).wf.1)), hL10_u2, (fun g hg => ((ho10_u2 g hg).elim (fun hz => (.inl hz)) (fun hz => .inr (Nat.le_trans (Nat.le_refl _) hz)))), hL10_u3, (fun g hg => ((ho10_u3 g hg).elim (fun hz => (.inl hz)) (fun hz => .inr (Nat.le_trans (Nat.le_refl _) hz)))), hL10_z7_0_0, (fun g hg => .inr ((ho10_z7_0_0 g hg).elim (fun hz => (nilS hz)) (fun hz => (Nat.le_trans (Nat.le_refl _) hz)))), hL10_z7_0_1, (fun g hg => .inr ((ho10_z7_0_1 g hg).elim (fun hz => (nilM hz)) (fun hz => (Nat.le_trans (Nat.le_refl _) hz)))), hL10_7, hs10_u2_u3⟩
    · have hd20 : ((ix a0_l i10).isNone) = false := hc20
      have h := h.2 hd20
      obtain ⟨y20, b20, o20, hy20, hv20, hP20⟩ := ptr_some hV18 (by rw [hd20]; decide)
      have h := h y20 hy20
      subst hv20
      refine WP_skip ?_
      refine WP_seq ?_
      refine WP_region ?_
      refine WL_pure (.pointer (some ⟨b20, o20, none⟩)) (R_mv rfl) rfl rfl ?_
      refine WL_pure (.pointer (some ⟨b20, o20, none⟩)) (R_nilck rfl) rfl rfl ?_
      have hP22 := Kd.Pt.foc (Foc.fst kd_Sseal_notesF (Kd.int .i64)) hP20
      refine WL_pure (.pointer (some ⟨b20, o20 + 0, none⟩)) (R_fa rfl Try.underlying41 rfl rfl ty39F rfl) rfl rfl ?_
      have hP24 := Kd.Pt.foc (Foc.fst kd_l_Sseal_note Kd.anm) hP22
      refine WL_pure (.pointer (some ⟨b20, o20 + 0 + 0, none⟩)) (R_fa rfl Try.underlying39 rfl rfl ty36 rfl) rfl rfl ?_
      refine WL_L hM11 (S_ld rfl ty36 hP24) rfl rfl ?_
      rintro v26 (hV26 : kd_l_Sseal_note.V _ y20.1.1 _)
      refine WL_pure (.int .i64 (y20.1.1.length : Int)) (R_len rfl hV26 Try.underlying36) rfl rfl ?_
      refine WL_pure (.int .i64 0) (R_mv rfl) rfl rfl ?_
      refine WL_nil ?_
      refine WP_block ?_
      obtain ⟨I28, μ28, h0, h⟩ := h
      refine WP_loopE (ι := (List UInt8) × (List UInt8) × Bool × Int × (List ((List UInt8) × (List UInt8))) × (List ((List UInt8) × Int))) [2, 3, 4, 9, 10, 11, 28, 29, 30, 31, 32, 33, 34, 35, 36, 37, 38, 39, 40, 41, 42, 43, 44, 45, 46, 47, 48, 49, 50, 51, 52, 53, 54, 55, 56, 57, 58, 59, 60, 61, 62, 63, 64, 65, 66, 67, 68, 69, 70, 71, 72, 73, 74, 75, 76, 77, 78, 79, 80] (fun s l w => ∃ K u2 u3 z7_0_0 z7_0_1, I28 s.1 s.2.1 s.2.2.1 s.2.2.2.1 s.2.2.2.2.1 s.2.2.2.2.2 ∧ l = [(2, u2), (3, u3), (4, (.bool s.2.2.1)), (28, (.int .i64 s.2.2.2.1))] ∧ Ext (fun c => ob u2_10 = some c ∨ ob u3_10 = some c ∨ ob z7_0_0_10 = some c ∨ mb z7_0_1_10 = some c ∨ c = b6) w11 K11 w K ∧ Models w K ∧ (Kd.int .i64).wf s.2.2.2.1 ∧ Own Kd.byte 5 w K s.1 u2 ∧ (∀ g, ob u2 = some g → ob u2_10 = some g ∨ w11.heap.size ≤ g) ∧ Own Kd.byte 5 w K s.2.1 u3 ∧ (∀ g, ob u3 = some g → ob u3_10 = some g ∨ w11.heap.size ≤ g) ∧ Own kd_Sseal_note 146 w K s.2.2.2.2.1 z7_0_0 ∧ (∀ g, ob z7_0_0 = some g → ob z7_0_0_10 = some g ∨ w11.heap.size ≤ g) ∧ Mp kd_a32_u8 (Kd.int .i64) w K s.2.2.2.2.2 z7_0_1 ∧ (∀ g, mb z7_0_1 = some g → mb z7_0_1_10 = some g ∨ w11.heap.size ≤ g) ∧ Bx kd_Sseal_Book w K b6 [] [] ((z7_0_0, z7_0_1), 0) ∧ (∀ g, ob u2 = some g → ¬ (ob u3 = some g))) (fun s => μ28 s.1 s.2.1 s.2.2.1 s.2.2.2.1 s.2.2.2.2.1 s.2.2.2.2.2) (a10, b10, found10, 0, y10, y10') [(2, u2_10), (3, u3_10), (4, (.bool found10)), (28, (.int .i64 0))]
        ⟨K11, u2_10, u3_10, z7_0_0_10, z7_0_1_10, h0, rfl, Ext.refl _ _ _, hM11, (show (Kd.int .i64).wf 0 from by constructor <;> decide), hL10_u2, (fun g hg => (.inl hg)), hL10_u3, (fun g hg => (.inl hg)), hL10_z7_0_0, (fun g hg => (.inl hg)), hL10_z7_0_1, (fun g hg => (.inl hg)), hL10_7, hs10_u2_u3⟩ (by repeat (first | exact trivial | refine ⟨rfl, ?_⟩)) ?_
      rintro ⟨a28, b28, found28, i28, y28, y28'⟩ l σ28 w29 ⟨K29, u2_28, u3_28, z7_0_0_28, z7_0_1_28, hI, rfl, hX29, hM29, hw28_28, hL28_u2, ho28_u2, hL28_u3, ho28_u3, hL28_z7_0_0, ho28_z7_0_0, hL28_z7_0_1, ho28_z7_0_1, hL28_7, hs28_u2_u3⟩
      dsimp only at hI hw28_28 hL28_u2 ho28_u2 hL28_u3 ho28_u3 hL28_z7_0_0 ho28_z7_0_0 hL28_z7_0_1 ho28_z7_0_1 hL28_7
      have hE29 := hE11.comp hX29 (fun c hx hlt => Or.elim hx (fun hx => (fun g hg hlt => absurd hlt (Nat.not_lt.2 ((fun g hg => (ho10_u2 g hg).elim (fun hx => (fun g hg => nilS hg) g hx) (fun hx => Nat.le_trans hE6.size hx)) g hg))) c hx hlt) (fun hx => Or.elim hx (fun hx => (fun g hg hlt => absurd hlt (Nat.not_lt.2 ((fun g hg => (ho10_u3 g hg).elim (fun hx => (fun g hg => nilS hg) g hx) (fun hx => Nat.le_trans hE6.size hx)) g hg))) c hx hlt) (fun hx => Or.elim hx (fun hx => (fun g hg hlt => absurd hlt (Nat.not_lt.2 ((fun g hg => (ho10_z7_0_0 g hg).elim (fun hx => (fun g hg => nilS hg) g hx) (fun hx => Nat.le_trans hE6.size hx)) g hg))) c hx hlt) (fun hx => Or.elim hx (fun hx => (fun g hg hlt => absurd hlt (Nat.not_lt.2 ((fun g hg => (ho10_z7_0_1 g hg).elim (fun hx => (fun g hg => nilM hg) g hx) (fun hx => Nat.le_trans hE6.size hx)) g hg))) c hx hlt) (fun hx => (by subst hx; exact (fun hlt => absurd hlt (Nat.not_lt.2 (Nat.le_trans hE0.size hge6))) hlt))))))
      have h := h a28 b28 found28 i28 y28 y28' hI hL28_u2.wf hL28_u3.wf hw28_28 hL28_z7_0_0.wf
      refine WP_seq ?_
      refine WP_region ?_
      refine WL_pure (.bool (decide (i28 < (y20.1.1.length : Int)))) (R_lss rfl rfl) rfl rfl ?_
      refine WL_nil ?_
      refine WP_seq ?_
      refine WP_cond (decide (i28 < (y20.1.1.length : Int))) rfl (fun hc30 => ?_) (fun hc30 => ?_)
      · have hd30 : i28 < (y20.1.1.length : Int) := dec_t hc30
        have h := h.1 hd30
        refine WP_skip ?_
        refine WP_seq ?_
        refine WP_block ?_
        refine WP_seq ?_
        refine WP_region ?_
        obtain ⟨hp32, h⟩ := h
        refine WL_P (S_ixs rfl (hV26.mono hX29.le) rfl Try.underlying36 ty146 hp32.1 hp32.2) rfl rfl ?_
        rintro b31 o31 hP31
        refine WL_L hM29 (S_ld rfl ty146 hP31) rfl rfl ?_
        rintro v34 (hV34 : kd_Sseal_note.V _ (ix y20.1.1 i28) _)
        refine WL_eff rfl rfl (St_B (S_alloc hM29 ty146) ?_)
        rintro b36 w36 (hB36 : Bx kd_Sseal_note _ _ _ _ _ ((List.replicate 32 0), ([] : List UInt8))) hS36 hM36 hge36
        have hE36 := hE29.andN hS36
        refine WL_eff rfl rfl (St_St (S_stB (Foc.id _) hM36 rfl rfl (hV34.mono hS36.le) ty146 hB36 (by first | rfl | simp | omega)) ?_)
        rintro w38 (hB38 : Bx kd_Sseal_note _ _ b36 [] [] (ix y20.1.1 i28)) hS38 hM38
        have hE38 := hE36.comp hS38 (fun c hx hlt => (by subst hx; exact (fun hlt => absurd hlt (Nat.not_lt.2 (Nat.le_trans hE29.size hge36))) hlt))
        refine WL_nil ?_
        refine WP_seq ?_
        refine WP_seq ?_
        refine WP_ordD (K := K29) NX [.o 0 2, .o 1 2, .o 2 2, .o 3 2, .o 4 2, .o 5 2, .o 6 2, .o 7 2, .o 8 2, .o 9 2, .o 10 2, .o 11 2, .o 12 2] (by kernel_rfl) (by kernel_rfl) hM38 ?_
        rintro w39 hS39 hM39
        have hE39 := hE38.andN hS39
        refine WO_pure (.pointer (some ⟨b6, 0, none⟩)) rfl l0 hM39 (fun _ => R_mv rfl) rfl (gN rfl) rfl ?_
        refine WO_pure (.pointer (some ⟨b6, 0, none⟩)) rfl l0 hM39 (fun _ => R_nilck rfl) rfl (gN rfl) rfl ?_
        refine WO_pure (.pointer (some ⟨b6, 0 + 0, none⟩)) rfl l0 hM39 (fun _ => R_fa rfl Try.underlying41 rfl rfl ty39 rfl) rfl (gN rfl) rfl ?_
        refine WO_pure (.pointer (some ⟨b6, 0 + 0 + 1, none⟩)) rfl l0 hM39 (fun _ => R_fa rfl Try.underlying39 rfl rfl ty37r rfl) rfl (gN rfl) rfl ?_
        have hR41 := (hL28_7.extN hS36)
        have hR42 := ((hR41.ext hS38 (fun hx => (fun he => (ne_new hge36 hL28_7.lt) he.symm) hx)).extN hS39)
        refine WO_L0 hM39 (S_ldB (Foc.trans (Foc.fst kd_Sseal_notes (Kd.int .i64)) (Foc.snd Kd.rsl Kd.rmp)) rfl ty37r hR42 (by first | rfl | simp | omega) (fun h => h)) rfl (gN rfl) rfl ?_
        rintro v40 (hV40 : Kd.rmp.V _ z7_0_1_28 _)
        obtain rfl := rw_form hV40
        refine WO_pure (.pointer (some ⟨b36, 0 + 0, none⟩)) rfl l0 hM39 (fun _ => R_fa rfl Try.underlying146 rfl rfl ty24 rfl) rfl (gN rfl) rfl ?_
        have hR44 := (hB38.extN hS39)
        refine WO_L0 hM39 (S_ldB (Foc.fst kd_a32_u8 kd_l_u8) rfl ty24 hR44 (by first | rfl | simp | omega) (fun h => h)) rfl (gN rfl) rfl ?_
        rintro v43 (hV43 : kd_a32_u8.V _ ((ix y20.1.1 i28).1) _)
        have hR47 := (hL28_z7_0_1.extN hS36)
        have hR48 := ((hR47.ext hS38 (fun g hg hx => (fun g hg hx => hR47.box hB36 (hg.trans (congrArg some hx))) g hg hx)).extN hS39)
        refine WO_LK0 hM39 (S_lkp (kv := (Kd.int .i64)) rfl rfl hR48 hV43 Try.underlying37 (keyOk_arr Try.underlying24 Try.underlying5 ty5b) ty3 (fun _ _ h => h)) rfl (gN rfl) rfl ?_
        rintro v46 (hV46 : (Kd.int .i64).V _ ((mfind ((ix y20.1.1 i28).1) y28').getD 0) _)
        obtain rfl := int_form hV46
        refine WO_pure (.tuple #[(.int .i64 ((mfind ((ix y20.1.1 i28).1) y28').getD 0)), (.bool ((mfind ((ix y20.1.1 i28).1) y28').isSome))]) rfl l0 hM39 (fun _ => R_mv rfl) rfl (gN rfl) rfl ?_
        refine WO_pure (.int .i64 ((mfind ((ix y20.1.1 i28).1) y28').getD 0)) rfl l0 hM39 (fun _ => R_ext rfl rfl) rfl (gN rfl) rfl ?_
        refine WO_pure (.bool ((mfind ((ix y20.1.1 i28).1) y28').isSome)) rfl l0 hM39 (fun _ => R_ext rfl rfl) rfl (gN rfl) rfl ?_
        refine WO_pure (.int .i64 ((mfind ((ix y20.1.1 i28).1) y28').getD 0)) rfl l0 hM39 (fun _ => R_as rfl) rfl (gN rfl) rfl ?_
        refine WO_pure (.bool ((mfind ((ix y20.1.1 i28).1) y28').isSome)) rfl l0 hM39 (fun _ => R_as rfl) rfl (gN rfl) rfl ?_
        refine WO_nil ?_
        refine WP_seq ?_
        refine WP_ordD (K := K29) NX [.o 0 2, .o 1 2, .o 2 2, .o 3 2, .o 4 2, .o 5 2, .o 6 2, .o 7 2, .o 8 2, .o 9 2, .o 10 2, .o 11 2, .o 12 2, .o 13 0, .o 14 2, .o 15 2] (by kernel_rfl) (by kernel_rfl) hM39 ?_
        rintro w49 hS49 hM49
        have hE49 := hE39.andN hS49
        refine WO_pure (.bool ((mfind ((ix y20.1.1 i28).1) y28').isSome)) rfl l0 hM49 (fun _ => R_mv rfl) rfl (gN rfl) rfl ?_
        refine WO_pure (.bool ((mfind ((ix y20.1.1 i28).1) y28').isSome)) rfl l0 hM49 (fun _ => R_mv rfl) rfl (gN rfl) rfl ?_
        obtain ⟨hq50, h⟩ := h
        refine WO_meet (al := true) (l1 := [.o 2 2, .o 3 2, .o 4 2, .o 5 2, .o 6 2, .o 7 2, .o 8 2, .o 9 2, .o 10 2, .o 11 2, .o 12 2, .o 13 0, .o 14 2, .o 15 2]) [45, 46, 47, 48, 49, 50, 51, 52, 53, 54, 55, 56, 57, 58] NX (fun l w K => l = [(58, (.bool (decide ((((mfind ((ix y20.1.1 i28).1) y28').isSome) = true) ∧ (¬ (((ix y28 ((mfind ((ix y20.1.1 i28).1) y28').getD 0)).2) = ((ix y20.1.1 i28).2)))))))] ∧ Ext NX w49 K29 w K ∧ Models w K) ?_ ?_
        · rcases Classical.em (((mfind ((ix y20.1.1 i28).1) y28').isSome) = true) with hp50 | hp50
          · skip
            have h := hq50 hp50
            refine WO_pure (.pointer (some ⟨b6, 0, none⟩)) rfl l0 hM49 (fun _ => R_mv rfl) rfl (gY rfl rfl rfl hp50) rfl ?_
            refine WO_pure (.pointer (some ⟨b6, 0, none⟩)) rfl l0 hM49 (fun _ => R_nilck rfl) rfl (gY rfl rfl rfl hp50) rfl ?_
            refine WO_pure (.pointer (some ⟨b6, 0 + 0, none⟩)) rfl l0 hM49 (fun _ => R_fa rfl Try.underlying41 rfl rfl ty39 rfl) rfl (gY rfl rfl rfl hp50) rfl ?_
            refine WO_pure (.pointer (some ⟨b6, 0 + 0 + 0, none⟩)) rfl l0 hM49 (fun _ => R_fa rfl Try.underlying39 rfl rfl ty36r rfl) rfl (gY rfl rfl rfl hp50) rfl ?_
            have hR52 := (hR42.extN hS49)
            refine WO_L0 hM49 (S_ldB (Foc.trans (Foc.fst kd_Sseal_notes (Kd.int .i64)) (Foc.fst Kd.rsl Kd.rmp)) rfl ty36r hR52 (by first | rfl | simp | omega) (fun h => h)) rfl (gY rfl rfl rfl hp50) rfl ?_
            rintro v51 (hV51 : Kd.rsl.V _ z7_0_0_28 _)
            obtain rfl := rw_form hV51
            refine WO_pure (.int .i64 ((mfind ((ix y20.1.1 i28).1) y28').getD 0)) rfl l0 hM49 (fun _ => R_mv rfl) rfl (gY rfl rfl rfl hp50) rfl ?_
            obtain ⟨hp54, h⟩ := h
            refine WO_P rfl l0 hM49 (S_ixs rfl (hL28_z7_0_0.V.mono (hS36.le.trans (hS38.le.trans (hS39.le.trans hS49.le)))) rfl Try.underlying36 ty146 hp54.1 hp54.2) rfl (gY rfl rfl rfl hp50) rfl ?_
            rintro b53 o53 hP53
            have hP56 := Kd.Pt.foc (Foc.snd kd_a32_u8 kd_l_u8) hP53
            refine WO_pure (.pointer (some ⟨b53, o53 + 32, none⟩)) rfl l0 hM49 (fun _ => R_fa rfl Try.underlying146 rfl rfl ty32 rfl) rfl (gY rfl rfl rfl hp50) rfl ?_
            refine WO_L0 hM49 (S_ld rfl ty32 hP56) rfl (gY rfl rfl rfl hp50) rfl ?_
            rintro v58 (hV58 : kd_l_u8.V _ ((ix y28 ((mfind ((ix y20.1.1 i28).1) y28').getD 0)).2) _)
            refine WO_pure (.pointer (some ⟨b36, 0 + 32, none⟩)) rfl l0 hM49 (fun _ => R_fa rfl Try.underlying146 rfl rfl ty32 rfl) rfl (gY rfl rfl rfl hp50) rfl ?_
            have hR61 := (hR44.extN hS49)
            refine WO_L0 hM49 (S_ldB (Foc.snd kd_a32_u8 kd_l_u8) rfl ty32 hR61 (by first | rfl | simp | omega) (fun h => h)) rfl (gY rfl rfl rfl hp50) rfl ?_
            rintro v60 (hV60 : kd_l_u8.V _ ((ix y20.1.1 i28).2) _)
            refine WO_eff0 rfl (gY rfl rfl rfl hp50) rfl (St_call (R_call Try.call85 rfl) ((Equal_c hM49 hV58 hV60).mono ?_))
            rintro _ w63 ⟨K63, v63_0, rfl, hS63, hM63, hV63_0⟩
            refine ⟨v63_0, rfl, ?_⟩
            refine ⟨K63, hS63, hM63, ?_⟩
            have hE63 := hE49.andN hS63
            obtain rfl := bool_form hV63_0
            refine WO_pure (.bool (decide (¬ (((ix y28 ((mfind ((ix y20.1.1 i28).1) y28').getD 0)).2) = ((ix y20.1.1 i28).2))))) rfl l0 hM63 (fun _ => R_notd rfl) rfl (gY rfl rfl rfl hp50) rfl ?_
            refine WO_pure (.bool (decide ((((mfind ((ix y20.1.1 i28).1) y28').isSome) = true) ∧ (¬ (((ix y28 ((mfind ((ix y20.1.1 i28).1) y28').getD 0)).2) = ((ix y20.1.1 i28).2)))))) rfl l0 hM63 (fun _ => R_pick1 rfl hp50 rfl (and_T hp50)) rfl (gN rfl) rfl ?_
            exact WO_end [(58, (.bool (decide ((((mfind ((ix y20.1.1 i28).1) y28').isSome) = true) ∧ (¬ (((ix y28 ((mfind ((ix y20.1.1 i28).1) y28').getD 0)).2) = ((ix y20.1.1 i28).2)))))))] K63 rfl ⟨rfl, ((Ext.refl _ _ _).andN hS63), hM63⟩ (by repeat (first | exact Off.refl _ _ | refine Off.updO ?_ rfl _ | refine Off.updN ?_ _ | refine Off.lay ?_ rfl)) ⟨rfl, trivial⟩
          · skip
            refine WO_skip _ hM49 l0 rfl (gF rfl rfl rfl (eq_false_of_ne_true hp50)) rfl ?_
            refine WO_skip _ hM49 l0 rfl (gF rfl rfl rfl (eq_false_of_ne_true hp50)) rfl ?_
            refine WO_skip _ hM49 l0 rfl (gF rfl rfl rfl (eq_false_of_ne_true hp50)) rfl ?_
            refine WO_skip _ hM49 l0 rfl (gF rfl rfl rfl (eq_false_of_ne_true hp50)) rfl ?_
            refine WO_skip _ hM49 l0 rfl (gF rfl rfl rfl (eq_false_of_ne_true hp50)) rfl ?_
            refine WO_skip _ hM49 l0 rfl (gF rfl rfl rfl (eq_false_of_ne_true hp50)) rfl ?_
            refine WO_skip _ hM49 l0 rfl (gF rfl rfl rfl (eq_false_of_ne_true hp50)) rfl ?_
            refine WO_skip _ hM49 l0 rfl (gF rfl rfl rfl (eq_false_of_ne_true hp50)) rfl ?_
            refine WO_skip _ hM49 l0 rfl (gF rfl rfl rfl (eq_false_of_ne_true hp50)) rfl ?_
            refine WO_skip _ hM49 l0 rfl (gF rfl rfl rfl (eq_false_of_ne_true hp50)) rfl ?_
            refine WO_skip _ hM49 l0 rfl (gF rfl rfl rfl (eq_false_of_ne_true hp50)) rfl ?_
            refine WO_skip _ hM49 l0 rfl (gF rfl rfl rfl (eq_false_of_ne_true hp50)) rfl ?_
            refine WO_skip _ hM49 l0 rfl (gF rfl rfl rfl (eq_false_of_ne_true hp50)) rfl ?_
            refine WO_pure (.bool (decide ((((mfind ((ix y20.1.1 i28).1) y28').isSome) = true) ∧ (¬ (((ix y28 ((mfind ((ix y20.1.1 i28).1) y28').getD 0)).2) = ((ix y20.1.1 i28).2)))))) rfl l0 hM49 (fun _ => R_pick2 rfl (eq_false_of_ne_true hp50) rfl (and_F hp50)) rfl (gN rfl) rfl ?_
            exact WO_end [(58, (.bool (decide ((((mfind ((ix y20.1.1 i28).1) y28').isSome) = true) ∧ (¬ (((ix y28 ((mfind ((ix y20.1.1 i28).1) y28').getD 0)).2) = ((ix y20.1.1 i28).2)))))))] K29 rfl ⟨rfl, (Ext.refl _ _ _), hM49⟩ (by repeat (first | exact Off.refl _ _ | refine Off.updO ?_ rfl _ | refine Off.updN ?_ _ | refine Off.lay ?_ rfl)) ⟨rfl, trivial⟩
        rintro l σ64 w64 K64 ⟨rfl, hS64, hM64⟩
        have hE64 := hE49.andN hS64
        refine WO_nil ?_
        refine WP_cond (decide ((((mfind ((ix y20.1.1 i28).1) y28').isSome) = true) ∧ (¬ (((ix y28 ((mfind ((ix y20.1.1 i28).1) y28').getD 0)).2) = ((ix y20.1.1 i28).2))))) rfl (fun hc65 => ?_) (fun hc65 => ?_)
        · have hd65 : (((mfind ((ix y20.1.1 i28).1) y28').isSome) = true) ∧ (¬ (((ix y28 ((mfind ((ix y20.1.1 i28).1) y28').getD 0)).2) = ((ix y20.1.1 i28).2))) := dec_t hc65
          have h := h.1 hd65
          refine WP_seq ?_
          refine WP_ordD (K := K64) NX [.o 0 2, .o 1 2, .o 2 2, .o 3 2, .o 4 2, .o 5 2, .o 6 2, .o 7 2, .o 8 2, .o 10 2, .o 11 2, .o 9 0, .o 12 0, .o 13 2, .o 14 2, .o 15 2] (by kernel_rfl) (by kernel_rfl) hM64 ?_
          rintro w66 hS66 hM66
          have hE66 := hE64.andN hS66
          refine WO_pure (.pointer (some ⟨b6, 0, none⟩)) rfl l0 hM66 (fun _ => R_mv rfl) rfl (gN rfl) rfl ?_
          refine WO_pure (.pointer (some ⟨b6, 0, none⟩)) rfl l0 hM66 (fun _ => R_nilck rfl) rfl (gN rfl) rfl ?_
          refine WO_pure (.pointer (some ⟨b6, 0 + 0, none⟩)) rfl l0 hM66 (fun _ => R_fa rfl Try.underlying41 rfl rfl ty39 rfl) rfl (gN rfl) rfl ?_
          refine WO_pure (.pointer (some ⟨b6, 0 + 0 + 0, none⟩)) rfl l0 hM66 (fun _ => R_fa rfl Try.underlying39 rfl rfl ty36r rfl) rfl (gN rfl) rfl ?_
          have hR68 := (((hR42.extN hS49).extN hS64).extN hS66)
          refine WO_L0 hM66 (S_ldB (Foc.trans (Foc.fst kd_Sseal_notes (Kd.int .i64)) (Foc.fst Kd.rsl Kd.rmp)) rfl ty36r hR68 (by first | rfl | simp | omega) (fun h => h)) rfl (gN rfl) rfl ?_
          rintro v67 (hV67 : Kd.rsl.V _ z7_0_0_28 _)
          obtain rfl := rw_form hV67
          refine WO_pure (.int .i64 ((mfind ((ix y20.1.1 i28).1) y28').getD 0)) rfl l0 hM66 (fun _ => R_mv rfl) rfl (gN rfl) rfl ?_
          obtain ⟨hp70, h⟩ := h
          refine WO_P rfl l0 hM66 (S_ixs rfl (hL28_z7_0_0.V.mono (hS36.le.trans (hS38.le.trans (hS39.le.trans (hS49.le.trans (hS64.le.trans hS66.le)))))) rfl Try.underlying36 ty146 hp70.1 hp70.2) rfl (gN rfl) rfl ?_
          rintro b69 o69 hP69
          have hP72 := Kd.Pt.foc (Foc.snd kd_a32_u8 kd_l_u8) hP69
          refine WO_pure (.pointer (some ⟨b69, o69 + 32, none⟩)) rfl l0 hM66 (fun _ => R_fa rfl Try.underlying146 rfl rfl ty32 rfl) rfl (gN rfl) rfl ?_
          refine WO_L0 hM66 (S_ld rfl ty32 hP72) rfl (gN rfl) rfl ?_
          rintro v74 (hV74 : kd_l_u8.V _ ((ix y28 ((mfind ((ix y20.1.1 i28).1) y28').getD 0)).2) _)
          refine WO_pure (.pointer (some ⟨b36, 0 + 32, none⟩)) rfl l0 hM66 (fun _ => R_fa rfl Try.underlying146 rfl rfl ty32 rfl) rfl (gN rfl) rfl ?_
          have hR77 := (((hR44.extN hS49).extN hS64).extN hS66)
          refine WO_L0 hM66 (S_ldB (Foc.snd kd_a32_u8 kd_l_u8) rfl ty32 hR77 (by first | rfl | simp | omega) (fun h => h)) rfl (gN rfl) rfl ?_
          rintro v76 (hV76 : kd_l_u8.V _ ((ix y20.1.1 i28).2) _)
          have hR79 := (hL28_u2.extN hS36)
          have hR80 := (((((hR79.ext hS38 (fun g hg hx => (fun g hg hx => hR79.box hB36 (hg.trans (congrArg some hx))) g hg hx)).extN hS39).extN hS49).extN hS64).extN hS66)
          have hR81 := (hL28_u3.extN hS36)
          have hR82 := (((((hR81.ext hS38 (fun g hg hx => (fun g hg hx => hR81.box hB36 (hg.trans (congrArg some hx))) g hg hx)).extN hS39).extN hS49).extN hS64).extN hS66)
          have hR83 := (hL28_z7_0_0.extN hS36)
          have hR84 := (((((hR83.ext hS38 (fun g hg hx => (fun g hg hx => hR83.box hB36 (hg.trans (congrArg some hx))) g hg hx)).extN hS39).extN hS49).extN hS64).extN hS66)
          have hR85 := (((hR48.extN hS49).extN hS64).extN hS66)
          obtain ⟨hp87, h⟩ := h
          refine WO_eff0 rfl (gN rfl) rfl (St_call (R_call Try.call69 rfl) ((Clone_c hM66 hV74 hp87).mono ?_))
          rintro _ w86 ⟨K86, v86_0, rfl, hS86, hM86, hO86_0, hg86_0⟩
          refine ⟨v86_0, rfl, ?_⟩
          refine ⟨K86, hS86, hM86, ?_⟩
          have hE86 := hE66.andN hS86
          have h := h hO86_0.wf
          have hR89 := (hR80.extN hS86)
          have hR90 := (hR82.extN hS86)
          have hR91 := (hR68.extN hS86)
          have hR92 := (hR84.extN hS86)
          have hR93 := (hR85.extN hS86)
          have hR94 := (hR77.extN hS86)
          obtain ⟨hp96, h⟩ := h
          refine WO_eff0 rfl (gN rfl) rfl (St_call (R_call Try.call69 rfl) ((Clone_c hM86 (hV76.mono hS86.le) hp96).mono ?_))
          rintro _ w95 ⟨K95, v95_0, rfl, hS95, hM95, hO95_0, hg95_0⟩
          refine ⟨v95_0, rfl, ?_⟩
          refine ⟨K95, hS95, hM95, ?_⟩
          have hE95 := hE86.andN hS95
          have h := h hO95_0.wf
          refine WO_pure v86_0 rfl l0 hM95 (fun _ => R_as rfl) rfl (gN rfl) rfl ?_
          refine WO_pure v95_0 rfl l0 hM95 (fun _ => R_as rfl) rfl (gN rfl) rfl ?_
          refine WO_pure (.bool true) rfl l0 hM95 (fun _ => R_as rfl) rfl (gN rfl) rfl ?_
          refine WO_nil ?_
          refine WP_ret ?_
          exact endR_ret hR (v := (.tuple #[v86_0, v95_0, (.bool true)])) (resE_3 rfl rfl rfl rfl) ⟨K95, v86_0, v95_0, (.bool true), ((ix y28 ((mfind ((ix y20.1.1 i28).1) y28').getD 0)).2), ((ix y20.1.1 i28).2), true, rfl, h, hE95, hM95, (hO86_0.V.mono hS95.le), hO95_0.V, bool_V⟩
        · have hd65 : ¬ ((((mfind ((ix y20.1.1 i28).1) y28').isSome) = true) ∧ (¬ (((ix y28 ((mfind ((ix y20.1.1 i28).1) y28').getD 0)).2) = ((ix y20.1.1 i28).2)))) := dec_f hc65
          have h := h.2 hd65
          refine WP_skip ?_
          have hR98 := (hL28_z7_0_0.extN hS36)
          have hR99 := ((((hR98.ext hS38 (fun g hg hx => (fun g hg hx => hR98.box hB36 (hg.trans (congrArg some hx))) g hg hx)).extN hS39).extN hS49).extN hS64)
          have hR100 := ((hR48.extN hS49).extN hS64)
          have hR101 := ((hR44.extN hS49).extN hS64)
          have hR102 := ((hR42.extN hS49).extN hS64)
          refine WP_ordD (K := K64) (fun c => c = b6 ∨ ob z7_0_0_28 = some c ∨ mb z7_0_1_28 = some c ∨ w64.heap.size ≤ c) [.o 0 2, .o 1 2, .o 2 2, .o 3 2, .o 4 2, .o 5 2, .o 6 2, .o 7 1] (by kernel_rfl) (by kernel_rfl) hM64 ?_
          rintro w103 hS103 hM103
          have hE103 := hE64.andN hS103
          refine WO_pure (.pointer (some ⟨b6, 0, none⟩)) rfl l0 hM103 (fun _ => R_mv rfl) rfl (gN rfl) rfl ?_
          refine WO_pure (.pointer (some ⟨b6, 0, none⟩)) rfl l0 hM103 (fun _ => R_nilck rfl) rfl (gN rfl) rfl ?_
          refine WO_pure (.pointer (some ⟨b6, 0 + 0, none⟩)) rfl l0 hM103 (fun _ => R_fa rfl Try.underlying41 rfl rfl ty39 rfl) rfl (gN rfl) rfl ?_
          refine WO_pure (.pointer (some ⟨b36, 0 + 0, none⟩)) rfl l0 hM103 (fun _ => R_fa rfl Try.underlying146 rfl rfl ty24 rfl) rfl (gN rfl) rfl ?_
          have hR105 := (hR101.extN hS103)
          refine WO_L0 hM103 (S_ldB (Foc.fst kd_a32_u8 kd_l_u8) rfl ty24 hR105 (by first | rfl | simp | omega) (fun h => h)) rfl (gN rfl) rfl ?_
          rintro v104 (hV104 : kd_a32_u8.V _ ((ix y20.1.1 i28).1) _)
          refine WO_pure (.pointer (some ⟨b36, 0 + 32, none⟩)) rfl l0 hM103 (fun _ => R_fa rfl Try.underlying146 rfl rfl ty32 rfl) rfl (gN rfl) rfl ?_
          refine WO_L0 hM103 (S_ldB (Foc.snd kd_a32_u8 kd_l_u8) rfl ty32 hR105 (by first | rfl | simp | omega) (fun h => h)) rfl (gN rfl) rfl ?_
          rintro v107 (hV107 : kd_l_u8.V _ ((ix y20.1.1 i28).2) _)
          have hR109 := (hL28_u2.extN hS36)
          have hR110 := (((((hR109.ext hS38 (fun g hg hx => (fun g hg hx => hR109.box hB36 (hg.trans (congrArg some hx))) g hg hx)).extN hS39).extN hS49).extN hS64).extN hS103)
          have hR111 := (hL28_u3.extN hS36)
          have hR112 := (((((hR111.ext hS38 (fun g hg hx => (fun g hg hx => hR111.box hB36 (hg.trans (congrArg some hx))) g hg hx)).extN hS39).extN hS49).extN hS64).extN hS103)
          have hR113 := (hR102.extN hS103)
          have hR114 := (hR99.extN hS103)
          have hR115 := (hR100.extN hS103)
          obtain ⟨p117, q117, hl117, hB117, hback117⟩ := Bx.sub (Foc.fst kd_Sseal_notes (Kd.int .i64)) hR113
          obtain ⟨hp118, h⟩ := h
          refine WO_eff rfl (gN rfl) rfl (St_call (R_call Try.call86 (mapC (show (Value.pointer (some ⟨b6, 0 + 0, none⟩)) = .pointer (some ⟨b6, (([] : List Value) ++ p117).length, none⟩) from by rw [List.length_append, hl117]; first | done | simp) (mapC rfl (mapC rfl mapN)))) ((add_c hM103 hB117 hR114 hR115 hV104 hV107 hp118).mono ?_))
          rintro _ w116 ⟨K116, u116_0_0, u116_0_1, rfl, hS116, hM116, hB116_m0, hu116_0_0, hxu116_0_0, hu116_0_1, hxu116_0_1⟩
          refine ⟨(.tuple #[]), rfl, ?_⟩
          refine ⟨K116, (hS116.weak (fun c hlt hx => Or.elim hx (fun hx => (.inl (hx))) (fun hx => Or.elim hx (fun hx => (.inr (.inl (hx)))) (fun hx => (.inr (.inr (.inl (hx)))))))), hM116, ?_⟩
          have hE116 := hE103.comp hS116 (fun c hx hlt => Or.elim hx (fun hx => (by subst hx; exact (fun hlt => absurd hlt (Nat.not_lt.2 (Nat.le_trans hE0.size hge6))) hlt)) (fun hx => Or.elim hx (fun hx => (fun g hg hlt => absurd hlt (Nat.not_lt.2 ((fun g hg => (ho28_z7_0_0 g hg).elim (fun hx => (fun g hg => (ho10_z7_0_0 g hg).elim (fun hx => (fun g hg => nilS hg) g hx) (fun hx => Nat.le_trans hE6.size hx)) g hx) (fun hx => Nat.le_trans hE11.size hx)) g hg))) c hx hlt) (fun hx => (fun g hg hlt => absurd hlt (Nat.not_lt.2 ((fun g hg => (ho28_z7_0_1 g hg).elim (fun hx => (fun g hg => (ho10_z7_0_1 g hg).elim (fun hx => (fun g hg => nilM hg) g hx) (fun hx => Nat.le_trans hE6.size hx)) g hx) (fun hx => Nat.le_trans hE11.size hx)) g hg))) c hx hlt)))
          have hB116_w : Bx kd_Sseal_Book w116 K116 b6 [] [] ((u116_0_0, u116_0_1), 0) := hback117 hS116.le hB116_m0
          refine WO_nil ?_
          refine WP_region ?_
          refine WL_pure (.int .i64 (i28 + 1)) (R_inc rfl rfl hw28_28 hd30 (len_wf (hV26).wf.1)) rfl rfl ?_
          refine WL_pure (.int .i64 (i28 + 1)) (R_mv rfl) rfl rfl ?_
          refine WL_nil ?_
          have hR119 := (hR110.ext hS116 (fun g hg hx => Or.elim hx (fun hx => (fun g hg hx => hR110.box hR113 (hg.trans (congrArg some hx))) g hg hx) (fun hx => Or.elim hx (fun hx => (Own.ne_type hR110 hR114 (by decide)) g hg hx) (fun hx => (fun g hg => hR115.own hR110 g hg) g hg hx))))
          have hR120 := (hR112.ext hS116 (fun g hg hx => Or.elim hx (fun hx => (fun g hg hx => hR112.box hR113 (hg.trans (congrArg some hx))) g hg hx) (fun hx => Or.elim hx (fun hx => (Own.ne_type hR112 hR114 (by decide)) g hg hx) (fun hx => (fun g hg => hR115.own hR112 g hg) g hg hx))))
          refine BackQ.mk (a28, b28, found28, (i28 + 1), (addL y28 ((ix y20.1.1 i28).1) ((ix y20.1.1 i28).2)), (addM y28 y28' ((ix y20.1.1 i28).1) ((ix y20.1.1 i28).2))) [(2, u2_28), (3, u3_28), (4, (.bool found28)), (28, (.int .i64 (i28 + 1)))] ?_ ?_ ?_ ?_
          rotate_left
          · exact h.2
          · repeat (first | exact Off.lay0 rfl | refine Off.updO ?_ rfl _ | refine Off.updN ?_ _ | refine Off.lay ?_ rfl)
          · repeat (first | exact trivial | refine ⟨rfl, ?_⟩)
          exact ⟨K116, u2_28, u3_28, u116_0_0, u116_0_1, h.1, rfl, (((((((((Ext.refl _ _ _).comp hX29 (fun c hx hlt => Or.elim hx (fun hx => (.inl (hx))) (fun hx => Or.elim hx (fun hx => (.inr (.inl (hx)))) (fun hx => Or.elim hx (fun hx => (.inr (.inr (.inl (hx))))) (fun hx => Or.elim hx (fun hx => (.inr (.inr (.inr (.inl (hx)))))) (fun hx => (.inr (.inr (.inr (.inr (hx))))))))))).andN hS36).comp hS38 (fun c hx hlt => (by subst hx; exact absurd hlt (Nat.not_lt.2 (Nat.le_trans hX29.size hge36))))).andN hS39).andN hS49).andN hS64).andN hS103).comp hS116 (fun c hx hlt => Or.elim hx (fun hx => (.inr (.inr (.inr (.inr (hx)))))) (fun hx => Or.elim hx (fun hx => ((((ho28_z7_0_0 c hx).elim (fun hz => (.inl hz)) (fun hz => .inr (Nat.le_trans (Nat.le_refl _) hz))) : ob z7_0_0_10 = some c ∨ w11.heap.size ≤ c).elim (fun hx => (.inr (.inr (.inl (hx))))) (fun hz => absurd hlt (Nat.not_lt.2 hz)))) (fun hx => ((((ho28_z7_0_1 c hx).elim (fun hz => (.inl hz)) (fun hz => .inr (Nat.le_trans (Nat.le_refl _) hz))) : mb z7_0_1_10 = some c ∨ w11.heap.size ≤ c).elim (fun hx => (.inr (.inr (.inr (.inl (hx)))))) (fun hz => absurd hlt (Nat.not_lt.2 hz))))))), hM116, (inc_wf hw28_28 hd30 (len_wf (hV26).wf.1)), hR119, (fun g hg => ((ho28_u2 g hg).elim (fun hz => (.inl hz)) (fun hz => .inr (Nat.le_trans (Nat.le_refl _) hz)))), hR120, (fun g hg => ((ho28_u3 g hg).elim (fun hz => (.inl hz)) (fun hz => .inr (Nat.le_trans (Nat.le_refl _) hz)))), hu116_0_0, (fun g hg => ((hxu116_0_0 g hg).elim (fun hz => ((ho28_z7_0_0 g hz).elim (fun hz => (.inl hz)) (fun hz => .inr (Nat.le_trans (Nat.le_refl _) hz)))) (fun hz => .inr (Nat.le_trans (Nat.le_trans hX29.size (Nat.le_trans hS36.size (Nat.le_trans hS38.size (Nat.le_trans hS39.size (Nat.le_trans hS49.size (Nat.le_trans hS64.size hS103.size)))))) hz)))), hu116_0_1, (fun g hg => ((hxu116_0_1 g hg).elim (fun hz => ((ho28_z7_0_1 g hz).elim (fun hz => (.inl hz)) (fun hz => .inr (Nat.le_trans (Nat.le_refl _) hz)))) (fun hz => .inr (Nat.le_trans (Nat.le_trans hX29.size (Nat.le_trans hS36.size (Nat.le_trans hS38.size (Nat.le_trans hS39.size (Nat.le_trans hS49.size (Nat.le_trans hS64.size hS103.size)))))) hz)))), hB116_w, hs28_u2_u3⟩
      · have hd30 : ¬ (i28 < (y20.1.1.length : Int)) := dec_f hc30
        have h := h.2 hd30
        refine WP_exit ?_
        refine WP_region ?_
        refine WL_pure (.int .i64 (IntKind.i64.wrap (i10 + 1))) (R_add rfl rfl) rfl rfl ?_
        refine WL_pure (.int .i64 (IntKind.i64.wrap (i10 + 1))) (R_mv rfl) rfl rfl ?_
        refine WL_nil ?_
        refine BackQ.mk (a28, b28, found28, (IntKind.i64.wrap (i10 + 1)), y28, y28') [(2, u2_28), (3, u3_28), (4, (.bool found28)), (16, (.int .i64 (IntKind.i64.wrap (i10 + 1))))] ?_ ?_ ?_ ?_
        rotate_left
        · exact h.2
        · repeat (first | exact Off.lay0 rfl | refine Off.updO ?_ rfl _ | refine Off.updN ?_ _ | refine Off.lay ?_ rfl)
        · repeat (first | exact trivial | refine ⟨rfl, ?_⟩)
        exact ⟨K29, u2_28, u3_28, z7_0_0_28, z7_0_1_28, h.1, rfl, (((Ext.refl _ _ _).comp hX11 (fun c hx hlt => Or.elim hx (fun hx => (.inl (hx))) (fun hx => Or.elim hx (fun hx => (.inl (hx))) (fun hx => Or.elim hx (fun hx => (absurd hlt (Nat.not_lt.2 (nilS hx)))) (fun hx => Or.elim hx (fun hx => (absurd hlt (Nat.not_lt.2 (nilM hx)))) (fun hx => (.inr (.inr (.inr (.inr (hx))))))))))).comp hX29 (fun c hx hlt => Or.elim hx (fun hx => ((((ho10_u2 c hx).elim (fun hz => (.inl hz)) (fun hz => .inr (Nat.le_trans (Nat.le_refl _) hz))) : ob (.slice none 0 0) = some c ∨ w6.heap.size ≤ c).elim (fun hx => (.inl (hx))) (fun hz => absurd hlt (Nat.not_lt.2 hz)))) (fun hx => Or.elim hx (fun hx => ((((ho10_u3 c hx).elim (fun hz => (.inl hz)) (fun hz => .inr (Nat.le_trans (Nat.le_refl _) hz))) : ob (.slice none 0 0) = some c ∨ w6.heap.size ≤ c).elim (fun hx => (.inl (hx))) (fun hz => absurd hlt (Nat.not_lt.2 hz)))) (fun hx => Or.elim hx (fun hx => (absurd hlt (Nat.not_lt.2 ((ho10_z7_0_0 c hx).elim (fun hz => (nilS hz)) (fun hz => (Nat.le_trans (Nat.le_refl _) hz)))))) (fun hx => Or.elim hx (fun hx => (absurd hlt (Nat.not_lt.2 ((ho10_z7_0_1 c hx).elim (fun hz => (nilM hz)) (fun hz => (Nat.le_trans (Nat.le_refl _) hz)))))) (fun hx => (.inr (.inr (.inr (.inr (hx))))))))))), hM29, (wrap_wf _ _), hL28_u2, (fun g hg => ((ho28_u2 g hg).elim (fun hz => ((ho10_u2 g hz).elim (fun hz => (.inl hz)) (fun hz => .inr (Nat.le_trans (Nat.le_refl _) hz)))) (fun hz => .inr (Nat.le_trans hX11.size hz)))), hL28_u3, (fun g hg => ((ho28_u3 g hg).elim (fun hz => ((ho10_u3 g hz).elim (fun hz => (.inl hz)) (fun hz => .inr (Nat.le_trans (Nat.le_refl _) hz)))) (fun hz => .inr (Nat.le_trans hX11.size hz)))), hL28_z7_0_0, (fun g hg => .inr ((ho28_z7_0_0 g hg).elim (fun hz => ((ho10_z7_0_0 g hz).elim (fun hz => (nilS hz)) (fun hz => (Nat.le_trans (Nat.le_refl _) hz)))) (fun hz => (Nat.le_trans hX11.size hz)))), hL28_z7_0_1, (fun g hg => .inr ((ho28_z7_0_1 g hg).elim (fun hz => ((ho10_z7_0_1 g hz).elim (fun hz => (nilM hz)) (fun hz => (Nat.le_trans (Nat.le_refl _) hz)))) (fun hz => (Nat.le_trans hX11.size hz)))), hL28_7, hs28_u2_u3⟩
  · have hd14 : ¬ (i10 < (a0_l.length : Int)) := dec_f hc14
    have h := h.2 hd14
    refine WP_exit ?_
    refine WP_seq ?_
    refine WP_region ?_
    have hR121 : Own Kd.byte 5 w11 K11 ([] : List UInt8) (.slice none 0 0) := Own.nil
    refine WL_pure (.slice none 0 0) (R_as rfl) rfl rfl ?_
    have hR122 : Own Kd.byte 5 w11 K11 ([] : List UInt8) (.slice none 0 0) := Own.nil
    refine WL_pure (.slice none 0 0) (R_as rfl) rfl rfl ?_
    refine WL_pure (.bool false) (R_as rfl) rfl rfl ?_
    refine WL_nil ?_
    refine WP_ret ?_
    exact endR_ret hR (v := (.tuple #[(.slice none 0 0), (.slice none 0 0), (.bool false)])) (resE_3 rfl rfl rfl rfl) ⟨K11, (.slice none 0 0), (.slice none 0 0), (.bool false), ([] : List UInt8), ([] : List UInt8), false, rfl, h, hE11, hM11, hR121.V, hR122.V, bool_V⟩
theorem Clash_c {w0 : World} {K0 : Ghost} {a0_l_v : Value} {a0_l : (List (Option (((List ((List UInt8) × (List UInt8))) × Unit) × Int)))} (hM0 : Models w0 K0) (h_a0_l : kd_l_p_Sseal_BookF.V K0 a0_l a0_l_v) (hp : clashPre a0_l) : Calls Try.prog 36 #[a0_l_v] w0 (fun e w' => ∃ (K' : Ghost) (r0 : Value) (r1 : Value) (r2 : Value), e = .returned (.tuple #[r0, r1, r2]) ∧ Ext NX w0 K0 w' K' ∧ Models w' K' ∧ kd_l_u8.V K' ((clashA a0_l).1) r0 ∧ kd_l_u8.V K' ((clashA a0_l).2.1) r1 ∧ Kd.bool.V K' ((clashA a0_l).2.2) r2) := by
  refine (Clash_walk hM0 h_a0_l (Clash_ok h_a0_l.wf hp)).mono ?_
  rintro _ w' ⟨K', r0, r1, r2, o0, o1, o2, rfl, ⟨rfl, rfl, rfl⟩, hF⟩
  exact ⟨K', r0, r1, r2, rfl, hF⟩
end Go.Proofs.Ytmjjkpiglbpkhaa

/- Package seal, out of the old form. -/
set_option linter.unusedVariables false
set_option maxRecDepth 100000
set_option maxHeartbeats 2000000
namespace Go.Proofs.Ytmjjkpiglbpkhaa
open Go Go.RowKit Go.Inc
noncomputable def Of_C : Ctr := ⟨[.bk 146 true, .v (.int .i64), .v (.sl (.sl .byte))], [.v (.arr 32 .byte)], some (fun a => (fun (a0_k : BookA) (a1_kind : Int) (a2_parts : List (List UInt8)) => (1 + blobRoom a2_parts ≤ 140737488355328 ∧ bookRoom a0_k : Prop)) a.1 a.2.1 a.2.2.1), fun a => (fun (a0_k : BookA) (a1_kind : Int) (a2_parts : List (List UInt8)) => (((sealOf a1_kind a2_parts), ()), ((bookOf a0_k a1_kind a2_parts), ()))) a.1 a.2.1 a.2.2.1⟩
theorem Of_k : Of_C.valid Try.prog 67 := br_bk (fun _ => rfl) (fun _ => rfl) fun a hp θ v F vs w K hM hB hv => by
  obtain ⟨v1, vs, rfl, h1, v2, vs, rfl, h2, hnil⟩ := hv
  have hnil' : vs = [] := hnil
  subst hnil'
  refine (Of_c hM hB (rel_out (t := .int .i64) h1 rfl) (rel_out (t := .sl (.sl .byte)) h2 rfl) hp).mono ?_
  rintro ed w' ⟨K', r0, F0, rfl, hE, hM', hr, hB', hg⟩
  exact ⟨K', [r0], F0, rfl, hE, hM', fun θ' => relL1 (SVal.of_rel (t := .arr 32 .byte) hr), hB', hg⟩
noncomputable def Clash_C : Ctr := ⟨[.v (.sl (.ptr (.pr (.pr (.sl (.pr (.arr 32 .byte) (.sl .byte))) .anm) (.int .i64))))], [.v (.sl .byte), .v (.sl .byte), .v .bool], some (fun a => (fun (a0_l : List (Option (((List ((List UInt8) × (List UInt8))) × Unit) × Int))) => (clashPre a0_l : Prop)) a.1), fun a => (fun (a0_l : List (Option (((List ((List UInt8) × (List UInt8))) × Unit) × Int))) => (((clashA a0_l).1, (clashA a0_l).2.1, (clashA a0_l).2.2, ()), (()))) a.1⟩
theorem Clash_k : Clash_C.valid Try.prog 36 := br_v (fun _ => rfl) (fun _ => rfl) fun a hp θ vs w K hM hv => by
  obtain ⟨v1, vs, rfl, h1, hnil⟩ := hv
  have hnil' : vs = [] := hnil
  subst hnil'
  refine (Clash_c hM (rel_out (t := .sl (.ptr (.pr (.pr (.sl (.pr (.arr 32 .byte) (.sl .byte))) .anm) (.int .i64)))) h1 rfl) hp).mono ?_
  rintro ed w' ⟨K', r0, r1, r2, rfl, hE, hM', hr0, hr1, hr2⟩
  exact ⟨K', [r0, r1, r2], rfl, hE, hM', ⟨r0, _, rfl, SVal.of_rel (t := .sl .byte) hr0, r1, _, rfl, SVal.of_rel (t := .sl .byte) hr1, relL1 (SVal.of_rel (t := .bool) hr2)⟩⟩
end Go.Proofs.Ytmjjkpiglbpkhaa

/- Each function that stands here: what it is asked and leaves (_C), its condition (_VC), that it holds (_ok), its contract (_c). -/
set_option linter.unusedVariables false
set_option maxRecDepth 100000
set_option maxHeartbeats 20000000
namespace Go.Proofs.Ytmjjkpiglbpkhaa
open Go Go.RowKit Go.Inc
noncomputable def Half_C : Ctr := ⟨[.v (.int .i64)], [.v (.int .i64)], none, fun a => (fun (a0_n : Int) => ((((half a0_n.toNat : Nat) : Int), ()), (()))) a.1⟩
noncomputable def Half_X : Fx := ⟨seat, some bkT, fns, [], [], [], []⟩
def Half_VC (a0_n : Int) (Q : Int → Prop) : Prop :=
  (a0_n < (2 : Int) → Q (0 : Int)) ∧ (¬a0_n < (2 : Int) → ∃ (x0 : Int → Prop), ∃ (x1 : Int → Nat), x0 (1 : Int) ∧ ∀ (x2 : Int), x0 x2 → (Kd.int IntKind.i64).wf x2 → (x2 ≤ IntKind.i64.wrap ((IntKind.i64.wrap (a0_n - (1 : Int))).tdiv (2 : Int)) → x0 (IntKind.i64.wrap (x2 * (2 : Int))) ∧ x1 (IntKind.i64.wrap (x2 * (2 : Int))) < x1 x2) ∧ (¬x2 ≤ IntKind.i64.wrap ((IntKind.i64.wrap (a0_n - (1 : Int))).tdiv (2 : Int)) → Q x2))
theorem Half_ok {a0_n : Int} (w_0 : (Ty.kd (.int .i64)).wf a0_n) : Half_VC a0_n (fun o0 => o0 = ((half a0_n.toNat : Nat) : Int)) := by
  have hn1 : a0_n ≤ 9223372036854775807 := w_0.2
  unfold Half_VC
  refine ⟨fun h => ?_, fun h => ?_⟩
  · rw [half_small (by omega)]
    rfl
  · have e1 : IntKind.i64.wrap (a0_n - 1) = a0_n - 1 := wrap_id (wf64 (by omega) (by omega))
    have e2 : (a0_n - 1).tdiv 2 = (a0_n - 1) / 2 := Int.tdiv_eq_ediv_of_nonneg (by omega)
    have e3 : IntKind.i64.wrap ((a0_n - 1) / 2) = (a0_n - 1) / 2 := wrap_id (wf64 (by omega) (by omega))
    rw [e1, e2, e3]
    refine ⟨fun h => ∃ j p : Nat, p = 2 ^ j ∧ h = (p : Int) ∧ (p : Int) < a0_n, fun h => (a0_n - h).toNat, ⟨0, 1, rfl, rfl, by omega⟩, ?_⟩
    rintro x ⟨j, p, hp, rfl, hlt⟩ _
    have hp1 : 1 ≤ p := by rw [hp]; exact Nat.one_le_two_pow
    refine ⟨fun hle => ?_, fun hgt => ?_⟩
    · have e4 : IntKind.i64.wrap ((p : Int) * 2) = ((2 * p : Nat) : Int) := by
        rw [wrap_id (wf64 (by omega) (by omega))]
        omega
      rw [e4]
      exact ⟨⟨j + 1, 2 * p, by rw [hp, Nat.pow_succ]; omega, rfl, by omega⟩, by show (a0_n - ((2 * p : Nat) : Int)).toNat < (a0_n - (p : Int)).toNat; omega⟩
    · have := half_of (n := a0_n.toNat) (j := j) (by rw [← hp]; omega) (by rw [Nat.pow_succ, ← hp]; omega)
      show (p : Int) = ((half a0_n.toNat : Nat) : Int)
      rw [this, ← hp]
theorem Half_eq : (∀ a, Half_C.pre a → PM.wfP Half_C.pm a (fvc Half_X 200 105 Half_C a (eqO Half_C a))) = (∀ a : Int × Unit, True → (Ty.kd (.int .i64)).wf a.1 → Half_VC a.1 (fun o0 => o0 = ((half (a.1).toNat : Nat) : Int))) := by kernel_rfl
theorem Half_k : Half_C.valid Try.prog 105 := ctr_of (X := Half_X) (ok_of seat_ok (fun b hb => by cases hb; exact bkT_ok) fns_ok trivial) 200 (Half_eq.mpr fun a hp w_0 => @Half_ok a.1 w_0)
noncomputable def tnode_C : Ctr := ⟨[.bk 146 true, .v (.sl (.arr 32 .byte))], [.v (.arr 32 .byte)], some (fun a => (fun (a0_k : BookA) (a1_l : List (List UInt8)) => (a1_l.length ≤ 1048576 ∧ bookRoom a0_k : Prop)) a.1 a.2.1), fun a => (fun (a0_k : BookA) (a1_l : List (List UInt8)) => (((sealOf 2 a1_l), ()), ((bookOf a0_k 2 a1_l), ()))) a.1 a.2.1⟩
noncomputable def tnode_X : Fx := ⟨seat, some bkT, fns, [(67, Of_C)], [], [], []⟩
def tnode_VC (a0_k : BookA) (a1_l : List (List UInt8)) (Q : (List UInt8) → BookA → Prop) : Prop :=
  ∃ (x0 : List (List UInt8) → Int → Prop), ∃ (x1 : List (List UInt8) → Int → Nat), x0 ([] : List (List UInt8)) (0 : Int) ∧ ∀ (x2 : List (List UInt8)) (x3 : Int), x0 x2 x3 → Ty.byte.sl.kd.sl.wf x2 → (Kd.int IntKind.i64).wf x3 → (x3 < (a1_l.length : Int) → ((0 : Int) ≤ x3 ∧ x3 < (a1_l.length : Int)) ∧ (x2.length + (ix a1_l x3 :: ([] : List (List UInt8))).length) * (24 : Nat) ≤ (140737488355328 : Nat) ∧ x3 < (9223372036854775807 : Int) ∧ x0 (x2 ++ ix a1_l x3 :: ([] : List (List UInt8))) (x3 + (1 : Int)) ∧ x1 (x2 ++ ix a1_l x3 :: ([] : List (List UInt8))) (x3 + (1 : Int)) < x1 x2 x3) ∧ (¬x3 < (a1_l.length : Int) → ((1 : Nat) + blobRoom x2 ≤ (140737488355328 : Nat) ∧ bookRoom a0_k) ∧ ((Ty.arr (32 : Nat) Ty.byte).kd.wf (sealOf (2 : Int) x2) → Q (sealOf (2 : Int) x2) (bookOf a0_k (2 : Int) x2)))
theorem tnode_ok {a0_k : BookA} {a1_l : List (List UInt8)} (w_0 : (Ty.kd (.sl (.arr 32 .byte))).wf a1_l) (hp : a1_l.length ≤ 1048576 ∧ bookRoom a0_k) : tnode_VC a0_k a1_l (fun o0 o1 => o0 = (sealOf 2 a1_l) ∧ o1 = (bookOf a0_k 2 a1_l)) := by
  unfold tnode_VC
  refine ⟨fun parts i => ∃ j : Nat, i = (j : Int) ∧ j ≤ a1_l.length ∧ parts = a1_l.take j, fun _ i => a1_l.length - i.toNat, ⟨0, rfl, by omega, rfl⟩, ?_⟩
  rintro parts i ⟨j, rfl, hj, rfl⟩ _ _
  have hp1 := hp.1
  refine ⟨fun hlt => ⟨⟨by omega, hlt⟩, by simp only [List.length_take, List.length_cons, List.length_nil]; omega, by omega, ⟨j + 1, by omega, by omega, (take_step hlt).symm⟩, by show a1_l.length - ((j : Int) + 1).toNat < a1_l.length - (j : Int).toNat; omega⟩, fun hge => ?_⟩
  have : j = a1_l.length := by omega
  subst this
  rw [List.take_length]
  have hr := blobRoom32 (l := a1_l) (fun x hx => (w_0.2 x hx).1)
  exact ⟨⟨by omega, hp.2⟩, fun _ => ⟨rfl, rfl⟩⟩
theorem tnode_eq : (∀ a, tnode_C.pre a → PM.wfP tnode_C.pm a (fvc tnode_X 200 104 tnode_C a (eqO tnode_C a))) = (∀ a : BookA × (List (List UInt8)) × Unit, ((a.2.1).length ≤ 1048576 ∧ bookRoom (a.1)) → (Ty.kd (.sl (.arr 32 .byte))).wf a.2.1 → tnode_VC a.1 a.2.1 (fun o0 o1 => o0 = (sealOf 2 (a.2.1)) ∧ o1 = (bookOf (a.1) 2 (a.2.1)))) := by kernel_rfl
theorem tnode_k : tnode_C.valid Try.prog 104 := ctr_of (X := tnode_X) (ok_of seat_ok (fun b hb => by cases hb; exact bkT_ok) fns_ok ⟨Of_k, trivial⟩) 200 (tnode_eq.mpr fun a hp w_0 => @tnode_ok a.1 a.2.1 w_0 hp)
noncomputable def Root_C : Ctr := ⟨[.bk 146 true, .v (.sl (.arr 32 .byte))], [.v (.arr 32 .byte)], some (fun a => (fun (a0_k : BookA) (a1_l : List (List UInt8)) => (a1_l.length ≤ 1048576 ∧ bookUpto a0_k a1_l.length : Prop)) a.1 a.2.1), fun a => (fun (a0_k : BookA) (a1_l : List (List UInt8)) => (((rootS a1_l), ()), ((rootBk a0_k a1_l), ()))) a.1 a.2.1⟩
noncomputable def Root_Cn (nn : Nat) : Ctr := ⟨[.bk 146 true, .v (.sl (.arr 32 .byte))], [.v (.arr 32 .byte)], some (fun a => (fun (a0_k : BookA) (a1_l : List (List UInt8)) => ((a1_l.length ≤ 1048576 ∧ bookUpto a0_k a1_l.length) ∧ a1_l.length < nn : Prop)) a.1 a.2.1), fun a => (fun (a0_k : BookA) (a1_l : List (List UInt8)) => (((rootS a1_l), ()), ((rootBk a0_k a1_l), ()))) a.1 a.2.1⟩
noncomputable def Root_X (nn : Nat) : Fx := ⟨seat, some bkT, fns, [(58, Root_Cn nn), (104, tnode_C), (105, Half_C)], [], [], [(8, [0, 1], [.o 0 3, .o 1 3, .o 2 2, .o 3 2, .o 4 2, .o 5 2, .o 6 1, .o 7 1, .o 8 1, .o 9 1])]⟩
def Root_VC (nn : Nat) (a0_k : BookA) (a1_l : List (List UInt8)) (Q : (List UInt8) → BookA → Prop) : Prop :=
  ((a1_l.length : Int) = (0 : Int) → (([] : List (List UInt8)).length ≤ (1048576 : Nat) ∧ bookRoom a0_k) ∧ ((Ty.arr (32 : Nat) Ty.byte).kd.wf (sealOf (2 : Int) ([] : List (List UInt8))) → Q (sealOf (2 : Int) ([] : List (List UInt8))) (bookOf a0_k (2 : Int) ([] : List (List UInt8))))) ∧ (¬(a1_l.length : Int) = (0 : Int) → ((a1_l.length : Int) = (1 : Int) → ((0 : Int) ≤ (0 : Int) ∧ (0 : Int) < (a1_l.length : Int)) ∧ Q (ix a1_l (0 : Int)) a0_k) ∧ (¬(a1_l.length : Int) = (1 : Int) → (Ty.int IntKind.i64).kd.wf (half (a1_l.length : Int).toNat : Int) → ((0 : Int) ≤ (half (a1_l.length : Int).toNat : Int) ∧ (half (a1_l.length : Int).toNat : Int) ≤ (a1_l.length : Int)) ∧ (((List.take (half (a1_l.length : Int).toNat : Int).toNat a1_l).length ≤ (1048576 : Nat) ∧ bookUpto a0_k (List.take (half (a1_l.length : Int).toNat : Int).toNat a1_l).length) ∧ (List.take (half (a1_l.length : Int).toNat : Int).toNat a1_l).length < nn) ∧ ((Ty.arr (32 : Nat) Ty.byte).kd.wf (rootS (List.take (half (a1_l.length : Int).toNat : Int).toNat a1_l)) → ((0 : Int) ≤ (half (a1_l.length : Int).toNat : Int) ∧ (half (a1_l.length : Int).toNat : Int) ≤ (a1_l.length : Int)) ∧ (((List.drop (half (a1_l.length : Int).toNat : Int).toNat a1_l).length ≤ (1048576 : Nat) ∧ bookUpto (rootBk a0_k (List.take (half (a1_l.length : Int).toNat : Int).toNat a1_l)) (List.drop (half (a1_l.length : Int).toNat : Int).toNat a1_l).length) ∧ (List.drop (half (a1_l.length : Int).toNat : Int).toNat a1_l).length < nn) ∧ ((Ty.arr (32 : Nat) Ty.byte).kd.wf (rootS (List.drop (half (a1_l.length : Int).toNat : Int).toNat a1_l)) → ((rootS (List.take (half (a1_l.length : Int).toNat : Int).toNat a1_l) :: rootS (List.drop (half (a1_l.length : Int).toNat : Int).toNat a1_l) :: ([] : List (List UInt8))).length ≤ (1048576 : Nat) ∧ bookRoom (rootBk (rootBk a0_k (List.take (half (a1_l.length : Int).toNat : Int).toNat a1_l)) (List.drop (half (a1_l.length : Int).toNat : Int).toNat a1_l))) ∧ ((Ty.arr (32 : Nat) Ty.byte).kd.wf (sealOf (2 : Int) (rootS (List.take (half (a1_l.length : Int).toNat : Int).toNat a1_l) :: rootS (List.drop (half (a1_l.length : Int).toNat : Int).toNat a1_l) :: ([] : List (List UInt8)))) → Q (sealOf (2 : Int) (rootS (List.take (half (a1_l.length : Int).toNat : Int).toNat a1_l) :: rootS (List.drop (half (a1_l.length : Int).toNat : Int).toNat a1_l) :: ([] : List (List UInt8)))) (bookOf (rootBk (rootBk a0_k (List.take (half (a1_l.length : Int).toNat : Int).toNat a1_l)) (List.drop (half (a1_l.length : Int).toNat : Int).toNat a1_l)) (2 : Int) (rootS (List.take (half (a1_l.length : Int).toNat : Int).toNat a1_l) :: rootS (List.drop (half (a1_l.length : Int).toNat : Int).toNat a1_l) :: ([] : List (List UInt8)))))))))
theorem Root_ok {nn : Nat} {a0_k : BookA} {a1_l : List (List UInt8)} (w_0 : (Ty.kd (.sl (.arr 32 .byte))).wf a1_l) (hp : (a1_l.length ≤ 1048576 ∧ bookUpto a0_k a1_l.length) ∧ a1_l.length < nn + 1) : Root_VC nn a0_k a1_l (fun o0 o1 => o0 = (rootS a1_l) ∧ o1 = (rootBk a0_k a1_l)) := by
  unfold Root_VC
  simp only [Int.toNat_natCast]
  refine ⟨fun h => ⟨⟨by simp, hp.1.2.room⟩, fun _ => ?_⟩, fun h => ⟨fun h1 => ⟨⟨by omega, by omega⟩, ?_⟩, fun h1 _ => ?_⟩⟩
  · have e : a1_l = [] := List.length_eq_zero_iff.1 (by omega)
    subst e
    rw [rootS_nil, rootBk_nil]
    exact ⟨rfl, rfl⟩
  · obtain ⟨x, rfl⟩ := List.length_eq_one_iff.1 (by omega : a1_l.length = 1)
    rw [rootS_one, rootBk_one]
    exact ⟨rfl, rfl⟩
  · have b2 : 2 ≤ a1_l.length := by omega
    have a1 := half_pos b2
    have a2 := half_lt b2
    have hp1 := hp.1.1
    have hp2 := hp.2
    have l1 : (a1_l.take (half a1_l.length)).length = half a1_l.length := by rw [List.length_take]; omega
    have l2 : (a1_l.drop (half a1_l.length)).length = a1_l.length - half a1_l.length := List.length_drop
    have u1 : bookUpto a0_k (a1_l.take (half a1_l.length)).length := hp.1.2.le (by omega)
    have u2 : bookUpto (rootBk a0_k (a1_l.take (half a1_l.length))) (a1_l.drop (half a1_l.length)).length := bookUpto.root _ (Nat.le_refl _) (by omega) (hp.1.2.le (by omega))
    have u3 := (bookUpto.root (n := 0) (l := a1_l.drop (half a1_l.length)) _ (Nat.le_refl _) (by omega) (u2.le (by omega))).room
    refine ⟨⟨by omega, by omega⟩, ⟨⟨by omega, u1⟩, by omega⟩, fun _ => ⟨⟨by omega, by omega⟩, ⟨⟨by omega, u2⟩, by omega⟩, fun _ => ⟨⟨by simp, u3⟩, fun _ => ?_⟩⟩⟩
    rw [rootS_two b2, rootBk_two _ b2]
    exact ⟨rfl, rfl⟩
theorem Root_eq (nn : Nat) : (∀ a, (Root_Cn (nn + 1)).pre a → PM.wfP (Root_Cn (nn + 1)).pm a (fvc (Root_X nn) 200 58 (Root_Cn (nn + 1)) a (eqO (Root_Cn (nn + 1)) a))) = (∀ a : BookA × (List (List UInt8)) × Unit, (((a.2.1).length ≤ 1048576 ∧ bookUpto (a.1) (a.2.1).length) ∧ (a.2.1).length < nn + 1) → (Ty.kd (.sl (.arr 32 .byte))).wf a.2.1 → Root_VC nn a.1 a.2.1 (fun o0 o1 => o0 = (rootS (a.2.1)) ∧ o1 = (rootBk (a.1) (a.2.1)))) := by kernel_rfl
theorem Root_kn : ∀ nn, (Root_Cn nn).valid Try.prog 58
  | 0 => fun a hp => absurd (And.right hp) (Nat.not_lt_zero _)
  | nn + 1 => ctr_of (X := Root_X nn) (ok_of seat_ok (fun b hb => by cases hb; exact bkT_ok) fns_ok ⟨Root_kn nn, tnode_k, Half_k, trivial⟩) 200 ((Root_eq nn).mpr fun a hp w_0 => @Root_ok nn a.1 a.2.1 w_0 hp)
theorem Root_k : Root_C.valid Try.prog 58 := valid_rec Root_kn (fun a hp => ⟨_, And.intro hp (Nat.lt_succ_self _)⟩)
noncomputable def RootN_C : Ctr := ⟨[.nil, .v (.sl (.arr 32 .byte))], [.v (.arr 32 .byte)], some (fun a => (fun (a1_l : List (List UInt8)) => (a1_l.length ≤ 1048576 : Prop)) a.2.1), fun a => (fun (a1_l : List (List UInt8)) => (((rootS a1_l), ()), (()))) a.2.1⟩
theorem RootN_k : RootN_C.valid Try.prog 58 :=
  nil_v Root_k (fun _ => rfl) (fun a θ θ' n n' K vs h => by
    obtain ⟨v0, vs, rfl, h0, h⟩ := h
    exact ⟨v0, _, rfl, SVal.of_rel (t := .sl (.arr 32 .byte)) (rel_out (t := .sl (.arr 32 .byte)) h0 rfl), h⟩) (fun _ => rfl) (fun a hp => ⟨hp, fun y h => by cases h⟩) (fun a _ => rfl)
noncomputable def there_C : Ctr := ⟨[.v (.int .i64), .v (.int .i64)], [.v .bool], none, fun a => (fun (a0_n : Int) (a1_at : Int) => ((decide (0 ≤ a1_at ∧ a1_at < a0_n), ()), (()))) a.1 a.2.1⟩
noncomputable def there_X : Fx := ⟨seat, some bkT, fns, [], [], [], []⟩
def there_VC (a0_n : Int) (a1_at : Int) (Q : Bool → Prop) : Prop :=
  ((0 : Int) ≤ a1_at → Q (decide (a1_at < a0_n))) ∧ (¬(0 : Int) ≤ a1_at → Q false)
theorem there_ok {a0_n : Int} {a1_at : Int} (w_0 : (Ty.kd (.int .i64)).wf a0_n) (w_1 : (Ty.kd (.int .i64)).wf a1_at) : there_VC a0_n a1_at (fun o0 => o0 = decide (0 ≤ a1_at ∧ a1_at < a0_n)) := by
  unfold there_VC
  exact ⟨fun h => by simp [h], fun h => by simp [h]⟩
theorem there_eq : (∀ a, there_C.pre a → PM.wfP there_C.pm a (fvc there_X 200 115 there_C a (eqO there_C a))) = (∀ a : Int × Int × Unit, True → (Ty.kd (.int .i64)).wf a.1 → (Ty.kd (.int .i64)).wf a.2.1 → there_VC a.1 a.2.1 (fun o0 => o0 = decide (0 ≤ (a.2.1) ∧ (a.2.1) < (a.1)))) := by kernel_rfl
theorem there_k : there_C.valid Try.prog 115 := ctr_of (X := there_X) (ok_of seat_ok (fun b hb => by cases hb; exact bkT_ok) fns_ok trivial) 200 (there_eq.mpr fun a hp w_0 w_1 => @there_ok a.1 a.2.1 w_0 w_1)
noncomputable def sides_I : ICtr := ⟨fun xs => match xs with
  | [a0_n, a1_at] => (0 ≤ a1_at ∧ a1_at < a0_n : Prop)
  | _ => False, fun xs => match xs with
  | [a0_n, a1_at] => (sidesN a0_n.toNat a1_at.toNat : List Int)
  | _ => []⟩
noncomputable def sides_X : Fx := ⟨seat, some bkT, fns, [(105, Half_C)], [], [], [(7, [0], [.o 0 2, .o 1 2, .o 2 2, .o 3 3, .o 4 3, .o 5 3, .o 6 1, .z 7])]⟩
def sides_VC (a0_n : Int) (a1_at : Int) : Prop :=
  ∃ (x0 : Nat → List Int → Prop), ∃ (x1 : List Int → Nat), x0 (0 : Nat) (a0_n :: a1_at :: ([] : List Int)) ∧ ∀ (x2 x3 : Nat) (x4 : Int), (Kd.int IntKind.i64).wf x4 → ∀ (x6 : Int), (Kd.int IntKind.i64).wf x6 → x0 x3 (x4 :: x6 :: ([] : List Int)) → ((1 : Int) < x4 → (Ty.int IntKind.i64).kd.wf (half x4.toNat : Int) → ((half x4.toNat : Int) ≤ x6 → (x2 = x2 ∧ (sidesN a0_n.toNat a1_at.toNat)[x3]? = some (1 : Int)) ∧ x2 = x2 ∧ x0 (x3 + (1 : Nat)) (IntKind.i64.wrap (x4 - (half x4.toNat : Int)) :: IntKind.i64.wrap (x6 - (half x4.toNat : Int)) :: ([] : List Int)) ∧ x1 (IntKind.i64.wrap (x4 - (half x4.toNat : Int)) :: IntKind.i64.wrap (x6 - (half x4.toNat : Int)) :: ([] : List Int)) < x1 (x4 :: x6 :: ([] : List Int))) ∧ (¬(half x4.toNat : Int) ≤ x6 → (x2 = x2 ∧ (sidesN a0_n.toNat a1_at.toNat)[x3]? = some (0 : Int)) ∧ x2 = x2 ∧ x0 (x3 + (1 : Nat)) ((half x4.toNat : Int) :: x6 :: ([] : List Int)) ∧ x1 ((half x4.toNat : Int) :: x6 :: ([] : List Int)) < x1 (x4 :: x6 :: ([] : List Int)))) ∧ (¬(1 : Int) < x4 → x3 = (sidesN a0_n.toNat a1_at.toNat).length)
theorem sides_ok {a0_n : Int} {a1_at : Int} (hp : 0 ≤ a1_at ∧ a1_at < a0_n) : (∀ x ∈ (sidesN a0_n.toNat a1_at.toNat : List Int), (Kd.int .i64).wf x) ∧ sides_VC a0_n a1_at := by
  refine ⟨fun x hx => ?_, ?_⟩
  · rcases sidesN_bit _ (Nat.le_refl _) x hx with rfl | rfl <;> exact wf64 (by omega) (by omega)
  unfold sides_VC
  refine ⟨fun j ys => (∀ y ∈ ys, (Kd.int .i64).wf y) → sdI a0_n (sidesN a0_n.toNat a1_at.toNat) j (ys.getD 0 0) (ys.getD 1 0), fun ys => (ys.getD 0 0).toNat, fun _ => ⟨hp.1, hp.2, Int.le_refl _, Nat.zero_le _, rfl⟩, ?_⟩
  intro x2 j n hn a ha hI
  have hI : sdI a0_n (sidesN a0_n.toNat a1_at.toNat) j n a := hI (by
    intro y hy
    rcases List.mem_cons.1 hy with rfl | hy
    · exact hn
    rcases List.mem_cons.1 hy with rfl | hy
    · exact ha
    · cases hy)
  have hn1 := hn.1
  have hn2 := hn.2
  have ha1 := ha.1
  have ha2 := ha.2
  refine ⟨fun hlt _ => ?_, fun hge => sdI_end hI hge⟩
  obtain ⟨b1, b2, b3, b4, b5⟩ := sdI_step hI hlt
  have c1 := hI.1
  have c2 := hI.2.1
  refine ⟨fun hle => ?_, fun hgt => ?_⟩
  · obtain ⟨d1, d2⟩ := b4 hle
    have e1 : IntKind.i64.wrap (n - ((half n.toNat : Nat) : Int)) = n - ((half n.toNat : Nat) : Int) := wrap_id (wf64 (by have : (IntKind.i64.min : Int) = -9223372036854775808 := rfl; omega) (by have : (IntKind.i64.max : Int) = 9223372036854775807 := rfl; omega))
    have e2 : IntKind.i64.wrap (a - ((half n.toNat : Nat) : Int)) = a - ((half n.toNat : Nat) : Int) := wrap_id (wf64 (by omega) (by have : (IntKind.i64.max : Int) = 9223372036854775807 := rfl; omega))
    rw [e1, e2]
    refine ⟨⟨rfl, d1⟩, ?_⟩
    have g : x2 = x2 ∧ ((∀ y ∈ ([n - ((half n.toNat : Nat) : Int), a - ((half n.toNat : Nat) : Int)] : List Int), (Kd.int .i64).wf y) → sdI a0_n (sidesN a0_n.toNat a1_at.toNat) (j + 1) (n - ((half n.toNat : Nat) : Int)) (a - ((half n.toNat : Nat) : Int))) ∧ (n - ((half n.toNat : Nat) : Int)).toNat < n.toNat := ⟨rfl, fun _ => d2, by omega⟩
    exact g
  · obtain ⟨d1, d2⟩ := b5 hgt
    exact ⟨⟨rfl, d1⟩, rfl, fun _ => d2, by show ((half n.toNat : Nat) : Int).toNat < n.toNat; omega⟩
theorem sides_eq (a0_n : Int) (a1_at : Int) : (itVC sides_X 200 131 sides_I [a0_n, a1_at]) = sides_VC a0_n a1_at := by kernel_rfl
theorem sides_i : sides_I.valid Try.prog 131 := iter_of (X := sides_X) (fuel := 200) (ok_of seat_ok (fun b hb => by cases hb; exact bkT_ok) fns_ok ⟨Half_k, trivial⟩) fun xs hp => match xs, hp with
  | [a0_n, a1_at], hp => ⟨(sides_ok hp).1, (sides_eq a0_n a1_at).mpr (sides_ok hp).2⟩
  | [], hp => hp.elim
  | [_], hp => hp.elim
  | _ :: _ :: _ :: _, hp => hp.elim
noncomputable def Depth_C : Ctr := ⟨[.v (.int .i64), .v (.int .i64)], [.v (.int .i64)], none, fun a => (fun (a0_n : Int) (a1_at : Int) => (((depthN a0_n a1_at), ()), (()))) a.1 a.2.1⟩
noncomputable def Depth_X : Fx := ⟨seat, some bkT, fns, [(115, there_C)], [117, 118, 130], [(3, [3], [])], []⟩
def Depth_VC (a0_n : Int) (a1_at : Int) (Q : Int → Prop) : Prop :=
  (¬decide ((0 : Int) ≤ a1_at ∧ a1_at < a0_n) = true → Q (0 : Int)) ∧ (decide ((0 : Int) ≤ a1_at ∧ a1_at < a0_n) = true → ((0 : Int) ≤ a1_at ∧ a1_at < a0_n) ∧ ∃ (x0 : Nat → List Int → Unit → Prop), x0 (0 : Nat) ([] : List Int) (Ty.hsl (3 : Nat) (Ty.int IntKind.i64)).kd.z ∧ (∀ (x1 : Nat) (x2 : Int), (sidesN a0_n.toNat a1_at.toNat)[x1]? = some x2 → (Kd.int IntKind.i64).wf x2 → ∀ (x5 : List Int) (x6 : Unit), x0 x1 x5 x6 → (Ty.int IntKind.i64).kd.sl.wf x5 → (x5.length + (x2 :: ([] : List Int)).length) * (8 : Nat) ≤ (140737488355328 : Nat) ∧ x0 (x1 + (1 : Nat)) (x5 ++ x2 :: ([] : List Int)) x6) ∧ ∀ (x1 : List Int) (x2 : Unit), x0 (sidesN a0_n.toNat a1_at.toNat).length x1 x2 → (Ty.int IntKind.i64).kd.sl.wf x1 → Q (x1.length : Int))
theorem Depth_ok {a0_n : Int} {a1_at : Int} (w_0 : (Ty.kd (.int .i64)).wf a0_n) (w_1 : (Ty.kd (.int .i64)).wf a1_at) : Depth_VC a0_n a1_at (fun o0 => o0 = (depthN a0_n a1_at)) := by
  have hn1 : a0_n ≤ 9223372036854775807 := w_0.2
  unfold Depth_VC
  refine ⟨fun h => ?_, fun h => ?_⟩
  · have h' : ¬ ((0 : Int) ≤ a1_at ∧ a1_at < a0_n) := fun hh => h (decide_eq_true hh)
    show (0 : Int) = depthN a0_n a1_at
    rw [depthN, if_neg h']
  · have h' := of_decide_eq_true h
    refine ⟨h', fun j l _ => l = (sidesN a0_n.toNat a1_at.toNat).take j, rfl, ?_, ?_⟩
    · rintro j x hx _ l u rfl hw
      have hj := (List.getElem?_eq_some_iff.1 hx).1
      have hlen := sidesN_len 63 (n := a0_n.toNat) (a := a1_at.toNat) (by omega)
      refine ⟨by rw [List.length_take]; simp only [List.length_cons, List.length_nil]; omega, ?_⟩
      show List.take j _ ++ [x] = List.take (j + 1) _
      rw [List.take_add_one, hx]
      rfl
    · rintro l u rfl _
      show ((List.take _ (sidesN a0_n.toNat a1_at.toNat)).length : Int) = depthN a0_n a1_at
      rw [List.take_length, depthN, if_pos h']
theorem Depth_eq : (∀ a, Depth_C.pre a → PM.wfP Depth_C.pm a (fvcR Depth_X [(131, sides_I)] 200 116 Depth_C a (eqO Depth_C a))) = (∀ a : Int × Int × Unit, True → (Ty.kd (.int .i64)).wf a.1 → (Ty.kd (.int .i64)).wf a.2.1 → Depth_VC a.1 a.2.1 (fun o0 => o0 = (depthN (a.1) (a.2.1)))) := by kernel_rfl
theorem Depth_k : Depth_C.valid Try.prog 116 := ctr_ofR (X := Depth_X) (ok_of seat_ok (fun b hb => by cases hb; exact bkT_ok) fns_ok ⟨there_k, trivial⟩) (its := [(131, sides_I)]) ⟨sides_i, trivial⟩ 200 (Depth_eq.mpr fun a hp w_0 w_1 => @Depth_ok a.1 a.2.1 w_0 w_1)
noncomputable def Rev32_C : Ctr := ⟨[.rw 24 (.arr 32 .byte) true], [], none, fun a => (fun (a0_s : List (List UInt8)) => ((()), (a0_s.reverse, ()))) a.1⟩
noncomputable def Rev32_X : Fx := ⟨seat, some bkT, fns, [], [], [(1, [0], [])], [(3, [0], [.o 0 2, .o 1 2, .o 2 3, .o 3 3, .o 4 2, .o 5 2, .o 6 2, .o 7 2, .o 8 2, .o 9 2, .o 10 2, .o 11 2, .o 12 2, .o 13 1, .o 14 3, .o 15 1])]⟩
def Rev32_VC (a0_s : List (List UInt8)) (Q : (List (List UInt8)) → Prop) : Prop :=
  ∃ (x0 : Int → Int → List (List UInt8) → Prop), ∃ (x1 : Int → Int → List (List UInt8) → Nat), x0 (0 : Int) (IntKind.i64.wrap ((a0_s.length : Int) - (1 : Int))) a0_s ∧ ∀ (x2 x3 : Int) (x4 : List (List UInt8)), x0 x2 x3 x4 → (Kd.int IntKind.i64).wf x2 → (Kd.int IntKind.i64).wf x3 → (Ty.arr (32 : Nat) Ty.byte).kd.sl.wf x4 → (x2 < x3 → ((0 : Int) ≤ x3 ∧ x3 < (x4.length : Int)) ∧ ((0 : Int) ≤ x2 ∧ x2 < (x4.length : Int)) ∧ ((0 : Int) ≤ x2 ∧ x2 < (x4.length : Int)) ∧ ((0 : Int) ≤ x3 ∧ x3 < ((x4.set x2.toNat (ix x4 x3)).length : Int)) ∧ x2 < (9223372036854775807 : Int) ∧ x0 (x2 + (1 : Int)) (IntKind.i64.wrap (x3 - (1 : Int))) ((x4.set x2.toNat (ix x4 x3)).set x3.toNat (ix x4 x2)) ∧ x1 (x2 + (1 : Int)) (IntKind.i64.wrap (x3 - (1 : Int))) ((x4.set x2.toNat (ix x4 x3)).set x3.toNat (ix x4 x2)) < x1 x2 x3 x4) ∧ (¬x2 < x3 → Q x4)
theorem Rev32_ok {a0_s : List (List UInt8)} (w_0 : (Ty.kd (.sl (.arr 32 .byte))).wf a0_s) : Rev32_VC a0_s (fun o0 => o0 = a0_s.reverse) := by
  have hL : a0_s.length ≤ LM := w_0.1
  unfold LM at hL
  unfold Rev32_VC
  refine ⟨fun i j x => ∃ k : Nat, i = (k : Int) ∧ j = (a0_s.length : Int) - 1 - (k : Int) ∧ 2 * k ≤ a0_s.length + 1 ∧ x.length = a0_s.length ∧ ∀ t, t < a0_s.length → x[t]? = if t < k ∨ a0_s.length ≤ t + k then a0_s[a0_s.length - 1 - t]? else a0_s[t]?, fun i j _ => (j - i + 1).toNat,
    ⟨0, rfl, by rw [wrap_id (wf64 (by omega) (by omega))]; omega, by omega, rfl, fun t ht => by rw [if_neg (by omega)]⟩, ?_⟩
  rintro i j x ⟨k, rfl, rfl, hk, hl, hx⟩ _ _ _
  refine ⟨fun hlt => ?_, fun hge => ?_⟩
  · have hk1 : k < a0_s.length - 1 - k := by omega
    have ej : (a0_s.length : Int) - 1 - (k : Int) = ((a0_s.length - 1 - k : Nat) : Int) := by omega
    have ew : IntKind.i64.wrap ((a0_s.length : Int) - 1 - (k : Int) - 1) = (a0_s.length : Int) - 1 - ((k + 1 : Nat) : Int) := by
      rw [wrap_id (wf64 (by omega) (by omega))]
      omega
    rw [ew, ej]
    simp only [Int.toNat_natCast]
    have hxk := hx k (by omega)
    rw [if_neg (by omega)] at hxk
    have hxj := hx (a0_s.length - 1 - k) (by omega)
    rw [if_neg (by omega)] at hxj
    have i0 : some (ix x (k : Int)) = a0_s[k]? := by rw [ixN (by omega), ← List.getElem?_eq_getElem, hxk]
    have i1 : some (ix x ((a0_s.length - 1 - k : Nat) : Int)) = a0_s[a0_s.length - 1 - k]? := by rw [ixN (by omega), ← List.getElem?_eq_getElem, hxj]
    refine ⟨⟨by omega, by omega⟩, ⟨by omega, by omega⟩, ⟨by omega, by omega⟩, ⟨by omega, by rw [List.length_set]; omega⟩, by omega, ⟨k + 1, by omega, rfl, by omega, by rw [List.length_set, List.length_set, hl], fun t ht => ?_⟩, ?_⟩
    · by_cases t1 : a0_s.length - 1 - k = t
      · subst t1
        rw [List.getElem?_set_self (by rw [List.length_set]; omega), i0, if_pos (by omega)]
        congr 1
        omega
      · rw [List.getElem?_set_ne t1]
        by_cases t2 : k = t
        · subst t2
          rw [List.getElem?_set_self (by omega), i1, if_pos (by omega)]
        · rw [List.getElem?_set_ne t2, hx t ht]
          have : (t < k ∨ a0_s.length ≤ t + k) ↔ (t < k + 1 ∨ a0_s.length ≤ t + (k + 1)) := by omega
          simp only [this]
    · show ((a0_s.length : Int) - 1 - ((k + 1 : Nat) : Int) - ((k : Int) + 1) + 1).toNat < (((a0_s.length - 1 - k : Nat) : Int) - (k : Int) + 1).toNat
      omega
  · show x = a0_s.reverse
    apply List.ext_getElem?
    intro t
    rcases Nat.lt_or_ge t a0_s.length with ht | ht
    · rw [hx t ht, List.getElem?_reverse ht]
      split
      · rfl
      · have : t = a0_s.length - 1 - t := by omega
        exact congrArg (fun q => a0_s[q]?) this
    · rw [List.getElem?_eq_none (by omega), List.getElem?_eq_none (by rw [List.length_reverse]; omega)]
theorem Rev32_eq : (∀ a, Rev32_C.pre a → PM.wfP Rev32_C.pm a (fvc Rev32_X 200 119 Rev32_C a (eqO Rev32_C a))) = (∀ a : (List (List UInt8)) × Unit, True → (Ty.kd (.sl (.arr 32 .byte))).wf a.1 → Rev32_VC a.1 (fun o0 => o0 = (a.1).reverse)) := by kernel_rfl
theorem Rev32_k : Rev32_C.valid Try.prog 119 := ctr_of (X := Rev32_X) (ok_of seat_ok (fun b hb => by cases hb; exact bkT_ok) fns_ok trivial) 200 (Rev32_eq.mpr fun a hp w_0 => @Rev32_ok a.1 w_0)
noncomputable def PathR_C : Ctr := ⟨[.nil, .v (.sl (.arr 32 .byte)), .v (.int .i64)], [.rw 24 (.arr 32 .byte)], some (fun a => (fun (a1_l : List (List UInt8)) (a2_at : Int) => (a1_l.length ≤ 1048576 : Prop)) a.2.1 a.2.2.1), fun a => (fun (a1_l : List (List UInt8)) (a2_at : Int) => (((pathN a1_l a2_at), ()), (()))) a.2.1 a.2.2.1⟩
noncomputable def PathR_X : Fx := ⟨{ seat with rws := [24] }, some bkT, fns, [(115, there_C), (105, Half_C), (58, RootN_C), (58, Root_C), (119, Rev32_C)], [118], [(6, [2, 4], [])], [(8, [4, 7], [.o 0 2, .o 1 2, .o 2 2, .o 3 2, .o 4 2, .o 8 3, .o 9 3, .o 10 3, .o 5 0, .o 6 0, .o 7 1, .o 11 1, .z 12]), (9, [4, 7], [.o 0 2, .o 1 2, .o 2 2, .o 3 2, .o 4 2, .o 8 3, .o 9 3, .o 10 3, .o 5 0, .o 6 0, .o 7 1, .o 11 1, .z 12])]⟩
def PathR_VC (a1_l : List (List UInt8)) (a2_at : Int) (Q : (List (List UInt8)) → Prop) : Prop :=
  (¬decide ((0 : Int) ≤ a2_at ∧ a2_at < (a1_l.length : Int)) = true → Q ([] : List (List UInt8))) ∧ (decide ((0 : Int) ≤ a2_at ∧ a2_at < (a1_l.length : Int)) = true → ((0 : Int) ≤ a2_at ∧ a2_at < (a1_l.length : Int)) ∧ ∃ (x0 : Nat → List (List UInt8) → List (List UInt8) → Unit → Prop), x0 (0 : Nat) a1_l ([] : List (List UInt8)) (Ty.hsl (24 : Nat) (Ty.arr (32 : Nat) Ty.byte)).kd.z ∧ (∀ (x1 : Nat) (x2 : Int), (sidesN (a1_l.length : Int).toNat a2_at.toNat)[x1]? = some x2 → (Kd.int IntKind.i64).wf x2 → ∀ (x5 x6 : List (List UInt8)) (x7 : Unit), x0 x1 x5 x6 x7 → (Ty.arr (32 : Nat) Ty.byte).sl.kd.wf x5 → (Ty.arr (32 : Nat) Ty.byte).kd.sl.wf x6 → (Ty.int IntKind.i64).kd.wf (half (x5.length : Int).toNat : Int) → (x2 = (0 : Int) → ((0 : Int) ≤ (half (x5.length : Int).toNat : Int) ∧ (half (x5.length : Int).toNat : Int) ≤ (x5.length : Int)) ∧ ((0 : Int) ≤ (half (x5.length : Int).toNat : Int) ∧ (half (x5.length : Int).toNat : Int) ≤ (x5.length : Int)) ∧ (List.drop (half (x5.length : Int).toNat : Int).toNat x5).length ≤ (1048576 : Nat) ∧ ((Ty.arr (32 : Nat) Ty.byte).kd.wf (rootS (List.drop (half (x5.length : Int).toNat : Int).toNat x5)) → (x6.length + (rootS (List.drop (half (x5.length : Int).toNat : Int).toNat x5) :: ([] : List (List UInt8))).length) * (32 : Nat) ≤ (140737488355328 : Nat) ∧ x0 (x1 + (1 : Nat)) (List.take (half (x5.length : Int).toNat : Int).toNat x5) (x6 ++ rootS (List.drop (half (x5.length : Int).toNat : Int).toNat x5) :: ([] : List (List UInt8))) x7)) ∧ (¬x2 = (0 : Int) → ((0 : Int) ≤ (half (x5.length : Int).toNat : Int) ∧ (half (x5.length : Int).toNat : Int) ≤ (x5.length : Int)) ∧ ((0 : Int) ≤ (half (x5.length : Int).toNat : Int) ∧ (half (x5.length : Int).toNat : Int) ≤ (x5.length : Int)) ∧ (List.take (half (x5.length : Int).toNat : Int).toNat x5).length ≤ (1048576 : Nat) ∧ ((Ty.arr (32 : Nat) Ty.byte).kd.wf (rootS (List.take (half (x5.length : Int).toNat : Int).toNat x5)) → (x6.length + (rootS (List.take (half (x5.length : Int).toNat : Int).toNat x5) :: ([] : List (List UInt8))).length) * (32 : Nat) ≤ (140737488355328 : Nat) ∧ x0 (x1 + (1 : Nat)) (List.drop (half (x5.length : Int).toNat : Int).toNat x5) (x6 ++ rootS (List.take (half (x5.length : Int).toNat : Int).toNat x5) :: ([] : List (List UInt8))) x7))) ∧ ∀ (x1 x2 : List (List UInt8)) (x3 : Unit), x0 (sidesN (a1_l.length : Int).toNat a2_at.toNat).length x1 x2 x3 → (Ty.arr (32 : Nat) Ty.byte).sl.kd.wf x1 → (Ty.arr (32 : Nat) Ty.byte).kd.sl.wf x2 → Q x2.reverse)
theorem PathR_ok {a1_l : List (List UInt8)} {a2_at : Int} (w_0 : (Ty.kd (.sl (.arr 32 .byte))).wf a1_l) (w_1 : (Ty.kd (.int .i64)).wf a2_at) (hp : a1_l.length ≤ 1048576) : PathR_VC a1_l a2_at (fun o0 => o0 = (pathN a1_l a2_at)) := by
  unfold PathR_VC
  simp only [Int.toNat_natCast]
  refine ⟨fun h => ?_, fun h => ⟨of_decide_eq_true h, ?_⟩⟩
  · have h' : ¬ ((0 : Int) ≤ a2_at ∧ a2_at < (a1_l.length : Int)) := fun hh => h (decide_eq_true hh)
    show [] = pathN a1_l a2_at
    rw [pathN, if_neg h']
  have h' := of_decide_eq_true h
  have hS := sidesN_len 20 (n := a1_l.length) (a := a2_at.toNat) (by omega)
  have ht := topL_len _ (l := a1_l) (a := a2_at.toNat) (Nat.le_refl _)
  generalize hL : sidesN a1_l.length a2_at.toNat = L at hS ht ⊢
  refine ⟨fun j l out _ => ∃ a : Nat, a < l.length ∧ l.length ≤ a1_l.length ∧ out.length = j ∧ out ++ topL l a = topL a1_l a2_at.toNat ∧ L.drop j = sidesN l.length a ∧ j ≤ L.length, ⟨a2_at.toNat, by omega, Nat.le_refl _, rfl, rfl, hL.symm, Nat.zero_le _⟩, ?_, ?_⟩
  · rintro j x hx _ l out u ⟨a, h1, h2, h3, h4, h5, h6⟩ _ _ _
    obtain ⟨hj, hxe⟩ := List.getElem?_eq_some_iff.1 hx
    rw [List.drop_eq_getElem_cons hj, hxe] at h5
    have hl : 1 < l.length := by
      apply Classical.byContradiction
      intro hn
      rw [sidesN_end hn] at h5
      cases h5
    have a1 := half_pos (n := l.length) (by omega)
    have a2 := half_lt (n := l.length) (by omega)
    have l1 : (l.take (half l.length)).length = half l.length := by rw [List.length_take]; omega
    have l2 : (l.drop (half l.length)).length = l.length - half l.length := List.length_drop
    rcases Nat.lt_or_ge a (half l.length) with ha | ha
    · rw [sidesN_left hl ha] at h5
      obtain ⟨h7, h8⟩ := List.cons.inj h5
      rw [topL_left hl ha] at h4
      refine ⟨fun _ => ⟨⟨by omega, by omega⟩, ⟨by omega, by omega⟩, by omega, fun _ => ⟨by simp only [List.length_cons, List.length_nil]; omega, ⟨a, by omega, by omega, by simp [h3], by rw [← h4]; simp, by rw [l1]; exact h8, hj⟩⟩⟩, fun hn => absurd h7 hn⟩
    · rw [sidesN_right hl ha] at h5
      obtain ⟨h7, h8⟩ := List.cons.inj h5
      rw [topL_right hl ha] at h4
      refine ⟨fun hn => absurd (h7.symm.trans hn) (by decide), fun _ => ⟨⟨by omega, by omega⟩, ⟨by omega, by omega⟩, by omega, fun _ => ⟨by simp only [List.length_cons, List.length_nil]; omega, ⟨a - half l.length, by omega, by omega, by simp [h3], by rw [← h4]; simp, by rw [l2]; exact h8, hj⟩⟩⟩⟩
  · rintro l out u ⟨a, h1, h2, h3, h4, h5, h6⟩ _ _
    rw [List.drop_length] at h5
    rw [topL_end (sidesN_nil h5.symm), List.append_nil] at h4
    show out.reverse = pathN a1_l a2_at
    rw [pathN, if_pos h', h4]
theorem PathR_eq : (∀ a, PathR_C.pre a → PM.wfP PathR_C.pm a (fvcR PathR_X [(131, sides_I)] 200 84 PathR_C a (eqO PathR_C a))) = (∀ a : Unit × (List (List UInt8)) × Int × Unit, ((a.2.1).length ≤ 1048576) → (Ty.kd (.sl (.arr 32 .byte))).wf a.2.1 → (Ty.kd (.int .i64)).wf a.2.2.1 → PathR_VC a.2.1 a.2.2.1 (fun o0 => o0 = (pathN (a.2.1) (a.2.2.1)))) := by kernel_rfl
theorem PathR_k : PathR_C.valid Try.prog 84 := ctr_ofR (X := PathR_X) (ok_of (seat_ok.rows [24]) (fun b hb => by cases hb; exact bkT_ok) fns_ok ⟨there_k, Half_k, RootN_k, Root_k, Rev32_k, trivial⟩) (its := [(131, sides_I)]) ⟨sides_i, trivial⟩ 200 (PathR_eq.mpr fun a hp w_0 w_1 => @PathR_ok a.2.1 a.2.2.1 w_0 w_1 hp)
noncomputable def PathO_C : Ctr := ⟨[.nil, .v (.sl (.arr 32 .byte)), .v (.int .i64)], [.ow 24 (.arr 32 .byte)], some (fun a => (fun (a1_l : List (List UInt8)) (a2_at : Int) => (a1_l.length ≤ 1048576 : Prop)) a.2.1 a.2.2.1), fun a => (fun (a1_l : List (List UInt8)) (a2_at : Int) => (((pathN a1_l a2_at), ()), (()))) a.2.1 a.2.2.1⟩
theorem PathO_k : PathO_C.valid Try.prog 84 := ow_of_rw PathR_k
noncomputable def Lead_C : Ctr := ⟨[.bk 146 true, .v (.int .i64), .v (.int .i64), .v (.arr 32 .byte), .v (.sl (.arr 32 .byte))], [.v (.arr 32 .byte), .v (.int .i64)], some (fun a => (fun (a0_k : BookA) (a1_n : Int) (a2_at : Int) (a3_leaf : List UInt8) (a4_path : List (List UInt8)) => (a4_path.length ≤ 1048576 ∧ bookUpto a0_k a4_path.length : Prop)) a.1 a.2.1 a.2.2.1 a.2.2.2.1 a.2.2.2.2.1), fun a => (fun (a0_k : BookA) (a1_n : Int) (a2_at : Int) (a3_leaf : List UInt8) (a4_path : List (List UInt8)) => (((leadS a1_n a2_at a3_leaf a4_path), (leadE a1_n a2_at a4_path), ()), ((leadK a0_k a1_n a2_at a3_leaf a4_path), ()))) a.1 a.2.1 a.2.2.1 a.2.2.2.1 a.2.2.2.2.1⟩
noncomputable def Lead_X : Fx := ⟨seat, some bkT, fns, [(115, there_C), (116, Depth_C), (104, tnode_C)], [117, 118, 130], [(3, [6], []), (5, [0, 1], [])], []⟩
def Lead_VC (a0_k : BookA) (a1_n : Int) (a2_at : Int) (a3_leaf : List UInt8) (a4_path : List (List UInt8)) (Q : (List UInt8) → Int → BookA → Prop) : Prop :=
  (¬decide ((0 : Int) ≤ a2_at ∧ a2_at < a1_n) = true → Q (List.replicate (32 : Nat) Ty.byte.kd.z) (10 : Int) a0_k) ∧ (decide ((0 : Int) ≤ a2_at ∧ a2_at < a1_n) = true → (Ty.int IntKind.i64).kd.wf (depthN a1_n a2_at) → ((a4_path.length : Int) ≠ depthN a1_n a2_at → Q (List.replicate (32 : Nat) Ty.byte.kd.z) (10 : Int) a0_k) ∧ (¬(a4_path.length : Int) ≠ depthN a1_n a2_at → ((0 : Int) ≤ a2_at ∧ a2_at < a1_n) ∧ ∃ (x0 : Nat → List Int → Unit → Prop), x0 (0 : Nat) ([] : List Int) (Ty.hsl (3 : Nat) (Ty.int IntKind.i64)).kd.z ∧ (∀ (x1 : Nat) (x2 : Int), (sidesN a1_n.toNat a2_at.toNat)[x1]? = some x2 → (Kd.int IntKind.i64).wf x2 → ∀ (x5 : List Int) (x6 : Unit), x0 x1 x5 x6 → (Ty.int IntKind.i64).kd.sl.wf x5 → (x5.length + (x2 :: ([] : List Int)).length) * (8 : Nat) ≤ (140737488355328 : Nat) ∧ x0 (x1 + (1 : Nat)) (x5 ++ x2 :: ([] : List Int)) x6) ∧ ∀ (x1 : List Int) (x2 : Unit), x0 (sidesN a1_n.toNat a2_at.toNat).length x1 x2 → (Ty.int IntKind.i64).kd.sl.wf x1 → ∃ (x5 : Int → BookA → List UInt8 → Prop), ∃ (x6 : Int → BookA → List UInt8 → Nat), x5 (0 : Int) a0_k a3_leaf ∧ ∀ (x7 : Int) (x8 : BookA) (x9 : List UInt8), x5 x7 x8 x9 → (Kd.int IntKind.i64).wf x7 → (Ty.arr (32 : Nat) Ty.byte).kd.wf x9 → (x7 < (a4_path.length : Int) → ((0 : Int) ≤ x7 ∧ x7 < (a4_path.length : Int)) ∧ ((0 : Int) ≤ IntKind.i64.wrap (IntKind.i64.wrap ((x1.length : Int) - (1 : Int)) - x7) ∧ IntKind.i64.wrap (IntKind.i64.wrap ((x1.length : Int) - (1 : Int)) - x7) < (x1.length : Int)) ∧ (ix x1 (IntKind.i64.wrap (IntKind.i64.wrap ((x1.length : Int) - (1 : Int)) - x7)) = (0 : Int) → ((x9 :: ix a4_path x7 :: ([] : List (List UInt8))).length ≤ (1048576 : Nat) ∧ bookRoom x8) ∧ ((Ty.arr (32 : Nat) Ty.byte).kd.wf (sealOf (2 : Int) (x9 :: ix a4_path x7 :: ([] : List (List UInt8)))) → x7 < (9223372036854775807 : Int) ∧ x5 (x7 + (1 : Int)) (bookOf x8 (2 : Int) (x9 :: ix a4_path x7 :: ([] : List (List UInt8)))) (sealOf (2 : Int) (x9 :: ix a4_path x7 :: ([] : List (List UInt8)))) ∧ x6 (x7 + (1 : Int)) (bookOf x8 (2 : Int) (x9 :: ix a4_path x7 :: ([] : List (List UInt8)))) (sealOf (2 : Int) (x9 :: ix a4_path x7 :: ([] : List (List UInt8)))) < x6 x7 x8 x9)) ∧ (¬ix x1 (IntKind.i64.wrap (IntKind.i64.wrap ((x1.length : Int) - (1 : Int)) - x7)) = (0 : Int) → ((ix a4_path x7 :: x9 :: ([] : List (List UInt8))).length ≤ (1048576 : Nat) ∧ bookRoom x8) ∧ ((Ty.arr (32 : Nat) Ty.byte).kd.wf (sealOf (2 : Int) (ix a4_path x7 :: x9 :: ([] : List (List UInt8)))) → x7 < (9223372036854775807 : Int) ∧ x5 (x7 + (1 : Int)) (bookOf x8 (2 : Int) (ix a4_path x7 :: x9 :: ([] : List (List UInt8)))) (sealOf (2 : Int) (ix a4_path x7 :: x9 :: ([] : List (List UInt8)))) ∧ x6 (x7 + (1 : Int)) (bookOf x8 (2 : Int) (ix a4_path x7 :: x9 :: ([] : List (List UInt8)))) (sealOf (2 : Int) (ix a4_path x7 :: x9 :: ([] : List (List UInt8)))) < x6 x7 x8 x9))) ∧ (¬x7 < (a4_path.length : Int) → Q x9 (0 : Int) x8)))
theorem Lead_ok {a0_k : BookA} {a1_n : Int} {a2_at : Int} {a3_leaf : List UInt8} {a4_path : List (List UInt8)} (w_0 : (Ty.kd (.int .i64)).wf a1_n) (w_1 : (Ty.kd (.int .i64)).wf a2_at) (w_2 : (Ty.kd (.arr 32 .byte)).wf a3_leaf) (w_3 : (Ty.kd (.sl (.arr 32 .byte))).wf a4_path) (hp : a4_path.length ≤ 1048576 ∧ bookUpto a0_k a4_path.length) : Lead_VC a0_k a1_n a2_at a3_leaf a4_path (fun o0 o1 o2 => o0 = (leadS a1_n a2_at a3_leaf a4_path) ∧ o1 = (leadE a1_n a2_at a4_path) ∧ o2 = (leadK a0_k a1_n a2_at a3_leaf a4_path)) := by
  have hn1 : a1_n ≤ 9223372036854775807 := w_0.2
  have bad : leadB a1_n a2_at a4_path = false → List.replicate (32 : Nat) Ty.byte.kd.z = leadS a1_n a2_at a3_leaf a4_path ∧ (10 : Int) = leadE a1_n a2_at a4_path ∧ a0_k = leadK a0_k a1_n a2_at a3_leaf a4_path := fun h => by
    unfold leadS leadE leadK
    rw [h]
    exact ⟨rfl, rfl, rfl⟩
  unfold Lead_VC
  refine ⟨fun h => bad (decide_eq_false fun hh => h (decide_eq_true hh.1)), fun h _ => ?_⟩
  have h' := of_decide_eq_true h
  have hd : depthN a1_n a2_at = ((sidesN a1_n.toNat a2_at.toNat).length : Int) := by unfold depthN; rw [if_pos h']
  refine ⟨fun hne => bad (decide_eq_false fun hh => hne (by rw [hd, hh.2])), fun hlen => ?_⟩
  have hP : a4_path.length = (sidesN a1_n.toNat a2_at.toNat).length := by
    have : (a4_path.length : Int) = depthN a1_n a2_at := Classical.byContradiction hlen
    omega
  have hb : leadB a1_n a2_at a4_path = true := decide_eq_true ⟨h', hP⟩
  have hS := sidesN_len 63 (n := a1_n.toNat) (a := a2_at.toNat) (by omega)
  refine ⟨h', fun j l _ => l = (sidesN a1_n.toNat a2_at.toNat).take j, rfl, ?_, ?_⟩
  · rintro j x hx _ l u rfl hw
    have hj := (List.getElem?_eq_some_iff.1 hx).1
    refine ⟨by rw [List.length_take]; simp only [List.length_cons, List.length_nil]; omega, ?_⟩
    show List.take j _ ++ [x] = List.take (j + 1) _
    rw [List.take_add_one, hx]
    rfl
  · rintro l u rfl _
    rw [List.take_length]
    unfold leadS leadE leadK
    rw [hb, if_pos rfl, if_pos rfl, if_pos rfl]
    generalize sidesN a1_n.toNat a2_at.toNat = S at hP hS ⊢
    refine ⟨fun i x s => ∃ j : Nat, i = (j : Int) ∧ j ≤ a4_path.length ∧ bookUpto x (a4_path.length - j) ∧ foldL (S.reverse.drop j) (a4_path.drop j) s = foldL S.reverse a4_path a3_leaf ∧ foldK (S.reverse.drop j) (a4_path.drop j) s x = foldK S.reverse a4_path a3_leaf a0_k, fun i _ _ => ((a4_path.length : Int) - i).toNat, ⟨0, rfl, Nat.zero_le _, hp.2, rfl, rfl⟩, ?_⟩
    rintro i x s ⟨j, rfl, hj, hu, e1, e2⟩ _ _
    refine ⟨fun hlt => ?_, fun hge => ?_⟩
    · have hj1 : j < a4_path.length := by omega
      have hr : j < S.reverse.length := by rw [List.length_reverse]; omega
      have ew : IntKind.i64.wrap (IntKind.i64.wrap ((S.length : Int) - 1) - (j : Int)) = ((S.length - 1 - j : Nat) : Int) := by
        rw [wrap_id (a := (S.length : Int) - 1) (wf64 (by omega) (by omega)), wrap_id (wf64 (by omega) (by omega))]
        omega
      have ev : ix S ((S.length - 1 - j : Nat) : Int) = S.reverse[j] := by rw [ixN (by omega), List.getElem_reverse]
      rw [List.drop_eq_getElem_cons hr, List.drop_eq_getElem_cons hj1] at e1 e2
      rw [ew, ev, ixN hj1]
      simp only [foldL, foldK] at e1 e2
      have hu' : bookUpto x ((a4_path.length - (j + 1)) + 1) := hu.le (by omega)
      refine ⟨⟨by omega, hlt⟩, ⟨by omega, by omega⟩, fun h0 => ?_, fun h0 => ?_⟩
      · rw [if_pos h0] at e1 e2
        rw [if_pos h0] at e2
        exact ⟨⟨by simp, hu.room⟩, fun _ => ⟨by omega, ⟨j + 1, by omega, hj1, hu'.of _ _, e1, e2⟩, by show ((a4_path.length : Int) - ((j : Int) + 1)).toNat < ((a4_path.length : Int) - (j : Int)).toNat; omega⟩⟩
      · rw [if_neg h0] at e1 e2
        rw [if_neg h0] at e2
        exact ⟨⟨by simp, hu.room⟩, fun _ => ⟨by omega, ⟨j + 1, by omega, hj1, hu'.of _ _, e1, e2⟩, by show ((a4_path.length : Int) - ((j : Int) + 1)).toNat < ((a4_path.length : Int) - (j : Int)).toNat; omega⟩⟩
    · have hj1 : j = a4_path.length := by omega
      rw [hj1, List.drop_length] at e1 e2
      have er : S.reverse.drop a4_path.length = [] := List.drop_eq_nil_of_le (by rw [List.length_reverse]; omega)
      rw [er] at e1 e2
      exact ⟨e1, rfl, e2⟩
theorem Lead_eq : (∀ a, Lead_C.pre a → PM.wfP Lead_C.pm a (fvcR Lead_X [(131, sides_I)] 200 78 Lead_C a (eqO Lead_C a))) = (∀ a : BookA × Int × Int × (List UInt8) × (List (List UInt8)) × Unit, ((a.2.2.2.2.1).length ≤ 1048576 ∧ bookUpto (a.1) (a.2.2.2.2.1).length) → (Ty.kd (.int .i64)).wf a.2.1 → (Ty.kd (.int .i64)).wf a.2.2.1 → (Ty.kd (.arr 32 .byte)).wf a.2.2.2.1 → (Ty.kd (.sl (.arr 32 .byte))).wf a.2.2.2.2.1 → Lead_VC a.1 a.2.1 a.2.2.1 a.2.2.2.1 a.2.2.2.2.1 (fun o0 o1 o2 => o0 = (leadS (a.2.1) (a.2.2.1) (a.2.2.2.1) (a.2.2.2.2.1)) ∧ o1 = (leadE (a.2.1) (a.2.2.1) (a.2.2.2.2.1)) ∧ o2 = (leadK (a.1) (a.2.1) (a.2.2.1) (a.2.2.2.1) (a.2.2.2.2.1)))) := by kernel_rfl
theorem Lead_k : Lead_C.valid Try.prog 78 := ctr_ofR (X := Lead_X) (ok_of seat_ok (fun b hb => by cases hb; exact bkT_ok) fns_ok ⟨there_k, Depth_k, tnode_k, trivial⟩) (its := [(131, sides_I)]) ⟨sides_i, trivial⟩ 200 (Lead_eq.mpr fun a hp w_0 w_1 w_2 w_3 => @Lead_ok a.1 a.2.1 a.2.2.1 a.2.2.2.1 a.2.2.2.2.1 w_0 w_1 w_2 w_3 hp)
end Go.Proofs.Ytmjjkpiglbpkhaa

/- Each function that stands here: what it is asked and leaves (_C), its condition (_VC), that it holds (_ok), its contract (_c). -/
set_option linter.unusedVariables false
set_option maxRecDepth 100000
set_option maxHeartbeats 20000000
namespace Go.Proofs.Ytmjjkpiglbpkhaa
open Go Go.RowKit Go.Inc
noncomputable def kMay_C : Ctr := ⟨[.v (.sl (.pr (.sl .byte) (.sl .byte)))], [.v .bool], none, fun a => (fun (a0_l : List ((List UInt8) × List UInt8)) => (((mayK a0_l), ()), (()))) a.1⟩
noncomputable def kMay_X : Fx := ⟨seat, some bkT, fns, [(75, Cmp_C)], [], [], [(4, [], [.o 0 2, .o 1 2, .o 2 2, .o 3 2, .o 4 2, .o 5 2, .o 6 2, .o 7 2, .o 8 2, .o 9 2, .o 10 2, .o 11 0, .o 12 2])]⟩
def kMay_VC (a0_l : List ((List UInt8) × List UInt8)) (Q : Bool → Prop) : Prop :=
  ∃ (x0 : Bool → Int → Prop), ∃ (x1 : Bool → Int → Nat), x0 false (1 : Int) ∧ ∀ (x2 : Bool) (x3 : Int), x0 x2 x3 → (Kd.int IntKind.i64).wf x3 → (x3 < (a0_l.length : Int) → ((0 : Int) ≤ IntKind.i64.wrap (x3 - (1 : Int)) ∧ IntKind.i64.wrap (x3 - (1 : Int)) < (a0_l.length : Int)) ∧ ((0 : Int) ≤ x3 ∧ x3 < (a0_l.length : Int)) ∧ ((Ty.int IntKind.i64).kd.wf (cmpB (ix a0_l (IntKind.i64.wrap (x3 - (1 : Int)))).fst (ix a0_l x3).fst) → ((0 : Int) ≤ cmpB (ix a0_l (IntKind.i64.wrap (x3 - (1 : Int)))).fst (ix a0_l x3).fst → Q false) ∧ (¬(0 : Int) ≤ cmpB (ix a0_l (IntKind.i64.wrap (x3 - (1 : Int)))).fst (ix a0_l x3).fst → x3 < (9223372036854775807 : Int) ∧ x0 x2 (x3 + (1 : Int)) ∧ x1 x2 (x3 + (1 : Int)) < x1 x2 x3))) ∧ (¬x3 < (a0_l.length : Int) → Q true)
theorem kMay_ok {a0_l : List ((List UInt8) × List UInt8)} (w_0 : (Ty.kd (.sl (.pr (.sl .byte) (.sl .byte)))).wf a0_l) : kMay_VC a0_l (fun o0 => o0 = (mayK a0_l)) := by
  unfold kMay_VC
  have hl : (a0_l.length : Int) ≤ 281474976710656 := by have := w_0.1; unfold LM at this; omega
  refine ⟨fun _ i => 1 ≤ i ∧ ∀ (t : Nat) (h : t + 1 < a0_l.length), (t : Int) + 1 < i → sless a0_l[t].1 a0_l[t + 1].1 = true, fun _ i => ((a0_l.length : Int) - i).toNat, ⟨by omega, fun t h ht => by omega⟩, ?_⟩
  rintro b i ⟨h1, h2⟩ hw
  refine ⟨fun hlt => ?_, fun hge => ?_⟩
  · obtain ⟨j, rfl⟩ : ∃ j : Nat, i = ((j + 1 : Nat) : Int) := ⟨i.toNat - 1, by omega⟩
    have hj : j + 1 < a0_l.length := by omega
    have e : IntKind.i64.wrap (((j + 1 : Nat) : Int) - 1) = (j : Int) := by rw [show ((j + 1 : Nat) : Int) - 1 = (j : Int) from by omega]; exact wrap_id (wf64 (by omega) (by omega))
    rw [e, ixN (by omega : j < a0_l.length), ixN hj]
    refine ⟨⟨by omega, by omega⟩, ⟨by omega, by omega⟩, fun _ => ⟨fun hc => ?_, fun hc => ⟨by omega, ⟨by omega, fun t ht hti => ?_⟩, by dsimp only; omega⟩⟩⟩
    · cases hm : mayK a0_l with
      | false => rfl
      | true =>
        have := cmpB_lt.2 (mayK_at (by omega) hj hm (Nat.lt_succ_self j))
        omega
    · by_cases he : t = j
      · subst he
        exact cmpB_lt.1 (by omega)
      · exact h2 t ht (by omega)
  · cases hm : mayK a0_l with
    | true => rfl
    | false =>
      obtain ⟨t, ht, hs⟩ := mayK_false hm
      rw [h2 t ht (by omega)] at hs
      cases hs
theorem kMay_eq : (∀ a, kMay_C.pre a → PM.wfP kMay_C.pm a (fvc kMay_X 200 29 kMay_C a (eqO kMay_C a))) = (∀ a : (List ((List UInt8) × List UInt8)) × Unit, True → (Ty.kd (.sl (.pr (.sl .byte) (.sl .byte)))).wf a.1 → kMay_VC a.1 (fun o0 => o0 = (mayK (a.1)))) := by kernel_rfl
theorem kMay_k : kMay_C.valid Try.prog 29 := ctr_of (X := kMay_X) (ok_of seat_ok (fun b hb => by cases hb; exact bkT_ok) fns_ok ⟨Cmp_k, trivial⟩) 200 (kMay_eq.mpr fun a hp w_0 => @kMay_ok a.1 w_0)
noncomputable def kleaf_C : Ctr := ⟨[.bk 146 true, .v (.pr (.sl .byte) (.sl .byte))], [.v (.arr 32 .byte)], some (fun a => (fun (a0_k : BookA) (a1_p : (List UInt8) × List UInt8) => (a1_p.1.length + a1_p.2.length ≤ 70368744177664 ∧ bookRoom a0_k : Prop)) a.1 a.2.1), fun a => (fun (a0_k : BookA) (a1_p : (List UInt8) × List UInt8) => (((leafK a1_p), ()), ((bookOf a0_k 4 [a1_p.1, a1_p.2]), ()))) a.1 a.2.1⟩
noncomputable def kleaf_X : Fx := ⟨seat, some bkT, fns, [(67, Of_C)], [], [], []⟩
def kleaf_VC (a0_k : BookA) (a1_p : (List UInt8) × List UInt8) (Q : (List UInt8) → BookA → Prop) : Prop :=
  ((1 : Nat) + blobRoom (a1_p.fst :: a1_p.snd :: ([] : List (List UInt8))) ≤ (140737488355328 : Nat) ∧ bookRoom a0_k) ∧ ((Ty.arr (32 : Nat) Ty.byte).kd.wf (sealOf (4 : Int) (a1_p.fst :: a1_p.snd :: ([] : List (List UInt8)))) → Q (sealOf (4 : Int) (a1_p.fst :: a1_p.snd :: ([] : List (List UInt8)))) (bookOf a0_k (4 : Int) (a1_p.fst :: a1_p.snd :: ([] : List (List UInt8)))))
theorem kleaf_ok {a0_k : BookA} {a1_p : (List UInt8) × List UInt8} (w_0 : (Ty.kd (.pr (.sl .byte) (.sl .byte))).wf a1_p) (hp : a1_p.1.length + a1_p.2.length ≤ 70368744177664 ∧ bookRoom a0_k) : kleaf_VC a0_k a1_p (fun o0 o1 => o0 = (leafK a1_p) ∧ o1 = (bookOf a0_k 4 [a1_p.1, a1_p.2])) := by
  unfold kleaf_VC
  exact ⟨⟨by simp [blobRoom]; omega, hp.2⟩, fun _ => ⟨rfl, rfl⟩⟩
theorem kleaf_eq : (∀ a, kleaf_C.pre a → PM.wfP kleaf_C.pm a (fvc kleaf_X 200 79 kleaf_C a (eqO kleaf_C a))) = (∀ a : BookA × ((List UInt8) × List UInt8) × Unit, ((a.2.1).1.length + (a.2.1).2.length ≤ 70368744177664 ∧ bookRoom (a.1)) → (Ty.kd (.pr (.sl .byte) (.sl .byte))).wf a.2.1 → kleaf_VC a.1 a.2.1 (fun o0 o1 => o0 = (leafK (a.2.1)) ∧ o1 = (bookOf (a.1) 4 [(a.2.1).1, (a.2.1).2]))) := by kernel_rfl
theorem kleaf_k : kleaf_C.valid Try.prog 79 := ctr_of (X := kleaf_X) (ok_of seat_ok (fun b hb => by cases hb; exact bkT_ok) fns_ok ⟨Of_k, trivial⟩) 200 (kleaf_eq.mpr fun a hp w_0 => @kleaf_ok a.1 a.2.1 w_0 hp)
noncomputable def kleaves_C : Ctr := ⟨[.bk 146 true, .v (.sl (.pr (.sl .byte) (.sl .byte)))], [.ow 24 (.arr 32 .byte)], some (fun a => (fun (a0_k : BookA) (a1_l : List ((List UInt8) × List UInt8)) => ((a1_l.length ≤ 65536 ∧ (∀ p ∈ a1_l, p.1.length + p.2.length ≤ 70368744177664)) ∧ bookUpto a0_k a1_l.length : Prop)) a.1 a.2.1), fun a => (fun (a0_k : BookA) (a1_l : List ((List UInt8) × List UInt8)) => (((leavesK a1_l), ()), ((leavesBk a0_k a1_l), ()))) a.1 a.2.1⟩
noncomputable def kleaves_X : Fx := ⟨seat, some bkT, fns, [(79, kleaf_C)], [], [(3, [0], [])], []⟩
def kleaves_VC (a0_k : BookA) (a1_l : List ((List UInt8) × List UInt8)) (Q : (List (List UInt8)) → BookA → Prop) : Prop :=
  ∃ (x0 : List (List UInt8) → Int → BookA → Prop), ∃ (x1 : List (List UInt8) → Int → BookA → Nat), x0 ([] : List (List UInt8)) (0 : Int) a0_k ∧ ∀ (x2 : List (List UInt8)) (x3 : Int) (x4 : BookA), x0 x2 x3 x4 → (Ty.arr (32 : Nat) Ty.byte).kd.sl.wf x2 → (Kd.int IntKind.i64).wf x3 → (x3 < (a1_l.length : Int) → ((0 : Int) ≤ x3 ∧ x3 < (a1_l.length : Int)) ∧ ((ix a1_l x3).fst.length + (ix a1_l x3).snd.length ≤ (70368744177664 : Nat) ∧ bookRoom x4) ∧ ((Ty.arr (32 : Nat) Ty.byte).kd.wf (leafK (ix a1_l x3)) → (x2.length + (leafK (ix a1_l x3) :: ([] : List (List UInt8))).length) * (32 : Nat) ≤ (140737488355328 : Nat) ∧ x3 < (9223372036854775807 : Int) ∧ x0 (x2 ++ leafK (ix a1_l x3) :: ([] : List (List UInt8))) (x3 + (1 : Int)) (bookOf x4 (4 : Int) ((ix a1_l x3).fst :: (ix a1_l x3).snd :: ([] : List (List UInt8)))) ∧ x1 (x2 ++ leafK (ix a1_l x3) :: ([] : List (List UInt8))) (x3 + (1 : Int)) (bookOf x4 (4 : Int) ((ix a1_l x3).fst :: (ix a1_l x3).snd :: ([] : List (List UInt8)))) < x1 x2 x3 x4)) ∧ (¬x3 < (a1_l.length : Int) → Q x2 x4)
theorem kleaves_ok {a0_k : BookA} {a1_l : List ((List UInt8) × List UInt8)} (w_0 : (Ty.kd (.sl (.pr (.sl .byte) (.sl .byte)))).wf a1_l) (hp : (a1_l.length ≤ 65536 ∧ (∀ p ∈ a1_l, p.1.length + p.2.length ≤ 70368744177664)) ∧ bookUpto a0_k a1_l.length) : kleaves_VC a0_k a1_l (fun o0 o1 => o0 = (leavesK a1_l) ∧ o1 = (leavesBk a0_k a1_l)) := by
  unfold kleaves_VC
  obtain ⟨⟨hl, hs⟩, hb⟩ := hp
  refine ⟨fun out i k => ∃ j : Nat, i = (j : Int) ∧ j ≤ a1_l.length ∧ out = leavesK (a1_l.take j) ∧ k = leavesBk a0_k (a1_l.take j) ∧ bookUpto k (a1_l.length - j), fun _ i _ => ((a1_l.length : Int) - i).toNat, ⟨0, rfl, Nat.zero_le _, rfl, rfl, hb⟩, ?_⟩
  rintro out i k ⟨j, rfl, hj, rfl, rfl, hk⟩ _ _
  refine ⟨fun hlt => ?_, fun hge => ?_⟩
  · have hj' : j < a1_l.length := by omega
    have e : a1_l.take (j + 1) = a1_l.take j ++ [a1_l[j]] := by rw [List.take_add_one, List.getElem?_eq_getElem hj']; rfl
    have hu : bookUpto (leavesBk a0_k (a1_l.take j)) ((a1_l.length - (j + 1)) + 1) := hk.le (by omega)
    rw [ixN hj']
    refine ⟨⟨by omega, by omega⟩, ⟨hs _ (List.getElem_mem hj'), hu.room⟩, fun _ => ⟨by rw [leavesK_len, List.length_take]; simp; omega, by omega, ⟨j + 1, rfl, hj', ?_, ?_, hu.of _ _⟩, by dsimp only; omega⟩⟩
    · rw [e]; unfold leavesK; rw [List.map_append]; rfl
    · rw [e]; unfold leavesBk; rw [List.foldl_append]; rfl
  · obtain rfl : j = a1_l.length := by omega
    rw [List.take_length]
    exact ⟨rfl, rfl⟩
theorem kleaves_eq : (∀ a, kleaves_C.pre a → PM.wfP kleaves_C.pm a (fvc kleaves_X 200 81 kleaves_C a (eqO kleaves_C a))) = (∀ a : BookA × (List ((List UInt8) × List UInt8)) × Unit, (((a.2.1).length ≤ 65536 ∧ (∀ p ∈ (a.2.1), p.1.length + p.2.length ≤ 70368744177664)) ∧ bookUpto (a.1) (a.2.1).length) → (Ty.kd (.sl (.pr (.sl .byte) (.sl .byte)))).wf a.2.1 → kleaves_VC a.1 a.2.1 (fun o0 o1 => o0 = (leavesK (a.2.1)) ∧ o1 = (leavesBk (a.1) (a.2.1)))) := by kernel_rfl
theorem kleaves_k : kleaves_C.valid Try.prog 81 := ctr_of (X := kleaves_X) (ok_of seat_ok (fun b hb => by cases hb; exact bkT_ok) fns_ok ⟨kleaf_k, trivial⟩) 200 (kleaves_eq.mpr fun a hp w_0 => @kleaves_ok a.1 a.2.1 w_0 hp)
noncomputable def kwhole_C : Ctr := ⟨[.bk 146 true, .v (.int .i64), .v (.arr 32 .byte)], [.v (.arr 32 .byte)], some (fun a => (fun (a0_k : BookA) (a1_n : Int) (a2_t : List UInt8) => (0 ≤ a1_n ∧ bookRoom a0_k : Prop)) a.1 a.2.1 a.2.2.1), fun a => (fun (a0_k : BookA) (a1_n : Int) (a2_t : List UInt8) => (((wholeK a1_n a2_t), ()), ((bookOf a0_k 5 [numB a1_n.toNat, a2_t]), ()))) a.1 a.2.1 a.2.2.1⟩
noncomputable def kwhole_X : Fx := ⟨seat, some bkT, fns, [(62, Num_C), (67, Of_C)], [], [], [(1, [0, 1, 2], [.o 0 3, .o 1 2, .o 2 2, .o 5 2, .o 3 0, .o 4 0, .o 6 1, .o 7 1, .o 8 1])]⟩
def kwhole_VC (a0_k : BookA) (a1_n : Int) (a2_t : List UInt8) (Q : (List UInt8) → BookA → Prop) : Prop :=
  ([] : List UInt8).length + (9 : Nat) * (IntKind.u64.wrap a1_n :: ([] : List Int)).length ≤ (140737488355328 : Nat) ∧ (Ty.byte.kd.sl.wf (([] : List UInt8) ++ numAll (IntKind.u64.wrap a1_n :: ([] : List Int))) → ((1 : Nat) + blobRoom ((([] : List UInt8) ++ numAll (IntKind.u64.wrap a1_n :: ([] : List Int))) :: a2_t :: ([] : List (List UInt8))) ≤ (140737488355328 : Nat) ∧ bookRoom a0_k) ∧ ((Ty.arr (32 : Nat) Ty.byte).kd.wf (sealOf (5 : Int) ((([] : List UInt8) ++ numAll (IntKind.u64.wrap a1_n :: ([] : List Int))) :: a2_t :: ([] : List (List UInt8)))) → Q (sealOf (5 : Int) ((([] : List UInt8) ++ numAll (IntKind.u64.wrap a1_n :: ([] : List Int))) :: a2_t :: ([] : List (List UInt8)))) (bookOf a0_k (5 : Int) ((([] : List UInt8) ++ numAll (IntKind.u64.wrap a1_n :: ([] : List Int))) :: a2_t :: ([] : List (List UInt8))))))
theorem kwhole_ok {a0_k : BookA} {a1_n : Int} {a2_t : List UInt8} (w_0 : (Ty.kd (.int .i64)).wf a1_n) (w_1 : (Ty.kd (.arr 32 .byte)).wf a2_t) (hp : 0 ≤ a1_n ∧ bookRoom a0_k) : kwhole_VC a0_k a1_n a2_t (fun o0 o1 => o0 = (wholeK a1_n a2_t) ∧ o1 = (bookOf a0_k 5 [numB a1_n.toNat, a2_t])) := by
  have e : IntKind.u64.wrap a1_n = a1_n := wrap_id ⟨hp.1, by have : a1_n ≤ 9223372036854775807 := w_0.2; show _ ≤ (18446744073709551615 : Int); omega⟩
  have hl := numB_length (n := a1_n.toNat) (by have : a1_n ≤ 9223372036854775807 := w_0.2; omega)
  have ht : a2_t.length = 32 := w_1.1
  unfold kwhole_VC
  rw [e]
  refine ⟨by simp, fun _ => ⟨⟨by simp [blobRoom, numAll]; omega, hp.2⟩, fun _ => ?_⟩⟩
  simp [numAll, wholeK]
theorem kwhole_eq : (∀ a, kwhole_C.pre a → PM.wfP kwhole_C.pm a (fvc kwhole_X 200 80 kwhole_C a (eqO kwhole_C a))) = (∀ a : BookA × Int × (List UInt8) × Unit, (0 ≤ (a.2.1) ∧ bookRoom (a.1)) → (Ty.kd (.int .i64)).wf a.2.1 → (Ty.kd (.arr 32 .byte)).wf a.2.2.1 → kwhole_VC a.1 a.2.1 a.2.2.1 (fun o0 o1 => o0 = (wholeK (a.2.1) (a.2.2.1)) ∧ o1 = (bookOf (a.1) 5 [numB (a.2.1).toNat, (a.2.2.1)]))) := by kernel_rfl
theorem kwhole_k : kwhole_C.valid Try.prog 80 := ctr_of (X := kwhole_X) (ok_of seat_ok (fun b hb => by cases hb; exact bkT_ok) fns_ok ⟨Num_k, Of_k, trivial⟩) 200 (kwhole_eq.mpr fun a hp w_0 w_1 => @kwhole_ok a.1 a.2.1 a.2.2.1 w_0 w_1 hp)
noncomputable def kRoot_C : Ctr := ⟨[.bk 146 true, .v (.sl (.pr (.sl .byte) (.sl .byte)))], [.v (.arr 32 .byte)], some (fun a => (fun (a0_k : BookA) (a1_l : List ((List UInt8) × List UInt8)) => ((a1_l.length ≤ 65536 ∧ (∀ p ∈ a1_l, p.1.length + p.2.length ≤ 70368744177664)) ∧ bookUpto a0_k (2 * a1_l.length + 2) : Prop)) a.1 a.2.1), fun a => (fun (a0_k : BookA) (a1_l : List ((List UInt8) × List UInt8)) => (((rootK a1_l), ()), ((rootKbk a0_k a1_l), ()))) a.1 a.2.1⟩
noncomputable def kRoot_X : Fx := ⟨seat, some bkT, fns, [(81, kleaves_C), (58, RootN_C), (58, Root_C), (80, kwhole_C)], [], [], []⟩
def kRoot_VC (a0_k : BookA) (a1_l : List ((List UInt8) × List UInt8)) (Q : (List UInt8) → BookA → Prop) : Prop :=
  ((a1_l.length ≤ (65536 : Nat) ∧ ∀ (x0 : List UInt8 × List UInt8), x0 ∈ a1_l → x0.fst.length + x0.snd.length ≤ (70368744177664 : Nat)) ∧ bookUpto a0_k a1_l.length) ∧ ((Ty.arr (32 : Nat) Ty.byte).kd.sl.wf (leavesK a1_l) → ((leavesK a1_l).length ≤ (1048576 : Nat) ∧ bookUpto (leavesBk a0_k a1_l) (leavesK a1_l).length) ∧ ((Ty.arr (32 : Nat) Ty.byte).kd.wf (rootS (leavesK a1_l)) → ((0 : Int) ≤ (a1_l.length : Int) ∧ bookRoom (rootBk (leavesBk a0_k a1_l) (leavesK a1_l))) ∧ ((Ty.arr (32 : Nat) Ty.byte).kd.wf (wholeK (a1_l.length : Int) (rootS (leavesK a1_l))) → Q (wholeK (a1_l.length : Int) (rootS (leavesK a1_l))) (bookOf (rootBk (leavesBk a0_k a1_l) (leavesK a1_l)) (5 : Int) (numB (a1_l.length : Int).toNat :: rootS (leavesK a1_l) :: ([] : List (List UInt8)))))))
theorem kRoot_ok {a0_k : BookA} {a1_l : List ((List UInt8) × List UInt8)} (w_0 : (Ty.kd (.sl (.pr (.sl .byte) (.sl .byte)))).wf a1_l) (hp : (a1_l.length ≤ 65536 ∧ (∀ p ∈ a1_l, p.1.length + p.2.length ≤ 70368744177664)) ∧ bookUpto a0_k (2 * a1_l.length + 2)) : kRoot_VC a0_k a1_l (fun o0 o1 => o0 = (rootK a1_l) ∧ o1 = (rootKbk a0_k a1_l)) := by
  unfold kRoot_VC
  obtain ⟨⟨hl, hs⟩, hb⟩ := hp
  have hb1 : bookUpto (leavesBk a0_k a1_l) (a1_l.length + 2) := bookUpto.leaves (l := a1_l) (n := a1_l.length + 2) (hb.le (by omega))
  refine ⟨⟨⟨hl, hs⟩, hb.le (by omega)⟩, fun _ => ⟨⟨by rw [leavesK_len]; omega, by rw [leavesK_len]; exact hb1.le (by omega)⟩, fun _ => ⟨⟨by omega, ?_⟩, fun _ => ⟨rfl, rfl⟩⟩⟩⟩
  by_cases h0 : 1 ≤ (leavesK a1_l).length
  · exact (bookUpto.root (n := 0) (leavesK a1_l).length (Nat.le_refl _) h0 (hb1.le (by rw [leavesK_len]; omega))).room
  · have e : leavesK a1_l = [] := List.length_eq_zero_iff.1 (by omega)
    rw [e, rootBk_nil]
    exact ((hb1.le (by omega) : bookUpto (leavesBk a0_k a1_l) (0 + 1)).of _ _).room
theorem kRoot_eq : (∀ a, kRoot_C.pre a → PM.wfP kRoot_C.pm a (fvc kRoot_X 200 32 kRoot_C a (eqO kRoot_C a))) = (∀ a : BookA × (List ((List UInt8) × List UInt8)) × Unit, (((a.2.1).length ≤ 65536 ∧ (∀ p ∈ (a.2.1), p.1.length + p.2.length ≤ 70368744177664)) ∧ bookUpto (a.1) (2 * (a.2.1).length + 2)) → (Ty.kd (.sl (.pr (.sl .byte) (.sl .byte)))).wf a.2.1 → kRoot_VC a.1 a.2.1 (fun o0 o1 => o0 = (rootK (a.2.1)) ∧ o1 = (rootKbk (a.1) (a.2.1)))) := by kernel_rfl
theorem kRoot_k : kRoot_C.valid Try.prog 32 := ctr_of (X := kRoot_X) (ok_of seat_ok (fun b hb => by cases hb; exact bkT_ok) fns_ok ⟨kleaves_k, RootN_k, Root_k, kwhole_k, trivial⟩) 200 (kRoot_eq.mpr fun a hp w_0 => @kRoot_ok a.1 a.2.1 w_0 hp)
noncomputable def kShow1_C : Ctr := ⟨[.v (.pr (.sl .byte) (.sl .byte)), .v (.sl .byte)], [.v (.int .i64)], none, fun a => (fun (a0_p : (List UInt8) × List UInt8) (a1_key : List UInt8) => (((cmpB a0_p.1 a1_key), ()), (()))) a.1 a.2.1⟩
noncomputable def kShow1_X : Fx := ⟨seat, some bkT, fns, [(75, Cmp_C)], [], [], []⟩
def kShow1_VC (a0_p : (List UInt8) × List UInt8) (a1_key : List UInt8) (Q : Int → Prop) : Prop :=
  (Ty.int IntKind.i64).kd.wf (cmpB a0_p.fst a1_key) → Q (cmpB a0_p.fst a1_key)
theorem kShow1_ok {a0_p : (List UInt8) × List UInt8} {a1_key : List UInt8} (w_0 : (Ty.kd (.pr (.sl .byte) (.sl .byte))).wf a0_p) (w_1 : (Ty.kd (.sl .byte)).wf a1_key) : kShow1_VC a0_p a1_key (fun o0 => o0 = (cmpB a0_p.1 a1_key)) := by
  unfold kShow1_VC
  exact fun _ => rfl
theorem kShow1_eq : (∀ a, kShow1_C.pre a → PM.wfP kShow1_C.pm a (fvc kShow1_X 200 83 kShow1_C a (eqO kShow1_C a))) = (∀ a : ((List UInt8) × List UInt8) × (List UInt8) × Unit, True → (Ty.kd (.pr (.sl .byte) (.sl .byte))).wf a.1 → (Ty.kd (.sl .byte)).wf a.2.1 → kShow1_VC a.1 a.2.1 (fun o0 => o0 = (cmpB (a.1).1 (a.2.1)))) := by kernel_rfl
theorem kShow1_k : kShow1_C.valid Try.prog 83 := ctr_of (X := kShow1_X) (ok_of seat_ok (fun b hb => by cases hb; exact bkT_ok) fns_ok ⟨Cmp_k, trivial⟩) 200 (kShow1_eq.mpr fun a hp w_0 w_1 => @kShow1_ok a.1 a.2.1 w_0 w_1)
noncomputable def BinS_C : Ctr := ⟨[.v (.sl (.pr (.sl .byte) (.sl .byte))), .v (.sl .byte), .fn 83 []], [.v (.int .i64), .v .bool], some (fun a => (fun (a0_x : List ((List UInt8) × List UInt8)) (a1_target : List UInt8) => (mayK a0_x = true ∧ a0_x.length ≤ 1048576 : Prop)) a.1 a.2.1), fun a => (fun (a0_x : List ((List UInt8) × List UInt8)) (a1_target : List UInt8) => ((((lowK a0_x a1_target : Nat) : Int), (isK a0_x a1_target), ()), (()))) a.1 a.2.1⟩
noncomputable def BinS_X : Fx := ⟨seat, some bkT, fns, [(83, kShow1_C)], [], [], []⟩
def BinS_VC (a0_x : List ((List UInt8) × List UInt8)) (a1_target : List UInt8) (Q : Int → Bool → Prop) : Prop :=
  ∃ (x0 : Int → Int → Prop), ∃ (x1 : Int → Int → Nat), x0 (0 : Int) (a0_x.length : Int) ∧ ∀ (x2 x3 : Int), x0 x2 x3 → (Kd.int IntKind.i64).wf x2 → (Kd.int IntKind.i64).wf x3 → (x2 < x3 → ((0 : Int) ≤ IntKind.i64.wrap (shr IntKind.u64 (IntKind.u64.wrap (IntKind.i64.wrap (x2 + x3))) (1 : Int)) ∧ IntKind.i64.wrap (shr IntKind.u64 (IntKind.u64.wrap (IntKind.i64.wrap (x2 + x3))) (1 : Int)) < (a0_x.length : Int)) ∧ ((Ty.int IntKind.i64).kd.wf (cmpB (ix a0_x (IntKind.i64.wrap (shr IntKind.u64 (IntKind.u64.wrap (IntKind.i64.wrap (x2 + x3))) (1 : Int)))).fst a1_target) → (cmpB (ix a0_x (IntKind.i64.wrap (shr IntKind.u64 (IntKind.u64.wrap (IntKind.i64.wrap (x2 + x3))) (1 : Int)))).fst a1_target < (0 : Int) → x0 (IntKind.i64.wrap (IntKind.i64.wrap (shr IntKind.u64 (IntKind.u64.wrap (IntKind.i64.wrap (x2 + x3))) (1 : Int)) + (1 : Int))) x3 ∧ x1 (IntKind.i64.wrap (IntKind.i64.wrap (shr IntKind.u64 (IntKind.u64.wrap (IntKind.i64.wrap (x2 + x3))) (1 : Int)) + (1 : Int))) x3 < x1 x2 x3) ∧ (¬cmpB (ix a0_x (IntKind.i64.wrap (shr IntKind.u64 (IntKind.u64.wrap (IntKind.i64.wrap (x2 + x3))) (1 : Int)))).fst a1_target < (0 : Int) → x0 x2 (IntKind.i64.wrap (shr IntKind.u64 (IntKind.u64.wrap (IntKind.i64.wrap (x2 + x3))) (1 : Int))) ∧ x1 x2 (IntKind.i64.wrap (shr IntKind.u64 (IntKind.u64.wrap (IntKind.i64.wrap (x2 + x3))) (1 : Int))) < x1 x2 x3))) ∧ (¬x2 < x3 → (x2 < (a0_x.length : Int) → ((0 : Int) ≤ x2 ∧ x2 < (a0_x.length : Int)) ∧ ((Ty.int IntKind.i64).kd.wf (cmpB (ix a0_x x2).fst a1_target) → Q x2 (decide (cmpB (ix a0_x x2).fst a1_target = (0 : Int))))) ∧ (¬x2 < (a0_x.length : Int) → Q x2 false))
theorem BinS_ok {a0_x : List ((List UInt8) × List UInt8)} {a1_target : List UInt8} (w_0 : (Ty.kd (.sl (.pr (.sl .byte) (.sl .byte)))).wf a0_x) (w_1 : (Ty.kd (.sl .byte)).wf a1_target) (hp : mayK a0_x = true ∧ a0_x.length ≤ 1048576) : BinS_VC a0_x a1_target (fun o0 o1 => o0 = ((lowK a0_x a1_target : Nat) : Int) ∧ o1 = (isK a0_x a1_target)) := by
  unfold BinS_VC
  obtain ⟨hm, hl⟩ := hp
  have mid : ∀ i j : Nat, i < j → j ≤ a0_x.length → IntKind.i64.wrap (shr IntKind.u64 (IntKind.u64.wrap (IntKind.i64.wrap ((i : Int) + (j : Int)))) (1 : Int)) = (((i + j) / 2 : Nat) : Int) := fun i j h1 h2 => by
    rw [wrap_id (ik := .i64) (a := (i : Int) + (j : Int)) (wf64 (by omega) (by omega)), show ((i : Int) + (j : Int)) = ((i + j : Nat) : Int) from by omega, wrap_id (ik := .u64) ⟨by show (0 : Int) ≤ _; omega, by show _ ≤ (18446744073709551615 : Int); omega⟩]
    have := shr_nat (n := i + j) (k := 1) (by decide)
    rw [show ((1 : Nat) : Int) = 1 from rfl] at this
    rw [this]
    exact wrap_id (wf64 (by omega) (by omega))
  refine ⟨fun x y => ∃ i j : Nat, x = (i : Int) ∧ y = (j : Int) ∧ i ≤ j ∧ j ≤ a0_x.length ∧ (∀ (t : Nat) (h : t < a0_x.length), t < i → sless a0_x[t].1 a1_target = true) ∧ (∀ (t : Nat) (h : t < a0_x.length), j ≤ t → sless a0_x[t].1 a1_target = false), fun x y => (y - x).toNat, ⟨0, a0_x.length, rfl, rfl, Nat.zero_le _, Nat.le_refl _, fun t h ht => by omega, fun t h ht => by omega⟩, ?_⟩
  rintro x y ⟨i, j, rfl, rfl, hij, hj, h1, h2⟩ _ _
  refine ⟨fun hlt => ?_, fun hge => ?_⟩
  · have hij' : i < j := by omega
    rw [mid i j hij' hj]
    have b1 : i ≤ (i + j) / 2 := by omega
    have b2 : (i + j) / 2 < j := by omega
    generalize (i + j) / 2 = h at b1 b2 ⊢
    have hh : h < a0_x.length := by omega
    rw [ixN hh]
    have e : IntKind.i64.wrap ((h : Int) + 1) = ((h + 1 : Nat) : Int) := by rw [show (h : Int) + 1 = ((h + 1 : Nat) : Int) from by omega]; exact wrap_id (wf64 (by omega) (by omega))
    rw [e]
    refine ⟨⟨by omega, by omega⟩, fun _ => ⟨fun hc => ⟨⟨h + 1, j, rfl, rfl, by omega, hj, fun t ht hti => ?_, h2⟩, by dsimp only; omega⟩, fun hc => ⟨⟨i, h, rfl, rfl, b1, by omega, h1, fun t ht hti => ?_⟩, by dsimp only; omega⟩⟩⟩
    · have hs := cmpB_lt.1 hc
      by_cases he : t = h
      · subst he; exact hs
      · exact sless_trans (mayK_at ht hh hm (by omega)) hs
    · cases hs : sless a0_x[t].1 a1_target with
      | false => rfl
      | true =>
        refine absurd (cmpB_lt.2 ?_) hc
        by_cases he : t = h
        · subst he; exact hs
        · exact sless_trans (mayK_at hh ht hm (by omega)) hs
  · obtain rfl : i = j := by omega
    have hlow : lowK a0_x a1_target = i := lowK_of hj h1 (fun h => h2 i h (Nat.le_refl i))
    refine ⟨fun h => ⟨⟨by omega, by omega⟩, fun _ => ⟨by rw [hlow], ?_⟩⟩, fun h => ⟨by rw [hlow], ?_⟩⟩
    · unfold isK
      rw [hlow, ixN (by omega : i < a0_x.length)]
      simp only [show i < a0_x.length from by omega, decide_true, Bool.true_and]
      exact decide_eq_decide.2 cmpB_eq
    · unfold isK
      rw [hlow]
      simp only [show ¬ i < a0_x.length from by omega, decide_false, Bool.false_and]
theorem BinS_eq : (∀ a, BinS_C.pre a → PM.wfP BinS_C.pm a (fvc BinS_X 200 82 BinS_C a (eqO BinS_C a))) = (∀ a : (List ((List UInt8) × List UInt8)) × (List UInt8) × Unit × Unit, (mayK (a.1) = true ∧ (a.1).length ≤ 1048576) → (Ty.kd (.sl (.pr (.sl .byte) (.sl .byte)))).wf a.1 → (Ty.kd (.sl .byte)).wf a.2.1 → BinS_VC a.1 a.2.1 (fun o0 o1 => o0 = ((lowK (a.1) (a.2.1) : Nat) : Int) ∧ o1 = (isK (a.1) (a.2.1)))) := by kernel_rfl
theorem BinS_k : BinS_C.valid Try.prog 82 := ctr_of (X := BinS_X) (ok_of seat_ok (fun b hb => by cases hb; exact bkT_ok) fns_ok ⟨kShow1_k, trivial⟩) 200 (BinS_eq.mpr fun a hp w_0 w_1 => @BinS_ok a.1 a.2.1 w_0 w_1 hp)
noncomputable def kShow_C : Ctr := ⟨[.nil, .v (.sl (.pr (.sl .byte) (.sl .byte))), .v (.sl .byte)], [.v (.pr (.int .i64) (.sl (.pr (.int .i64) (.pr (.pr (.sl .byte) (.sl .byte)) (.sl (.arr 32 .byte))))))], some (fun a => (fun (a1_l : List ((List UInt8) × List UInt8)) (a2_key : List UInt8) => (a1_l.length ≤ 65536 ∧ (∀ p ∈ a1_l, p.1.length + p.2.length ≤ 70368744177664) : Prop)) a.2.1 a.2.2.1), fun a => (fun (a1_l : List ((List UInt8) × List UInt8)) (a2_key : List UInt8) => (((showK a1_l a2_key), ()), (()))) a.2.1 a.2.2.1⟩
noncomputable def kShow_X : Fx := ⟨{ seat with rws := [3000011, 4000037] }, some bkT, fns, [(29, kMay_C), (82, BinS_C), (83, kShow1_C), (81, kleaves_C), (84, PathO_C), (84, PathR_C), (69, Clone_C)], [], [(10, [2], [])], [(13, [7], [.o 0 2, .o 1 2, .o 2 2, .o 3 2, .o 4 2, .o 6 2, .o 7 2, .o 8 2, .o 9 2, .o 10 2, .o 5 0, .o 12 2, .o 13 2, .o 11 0, .o 14 1, .o 15 3, .o 16 3, .o 17 1])]⟩
def kShow_VC (a1_l : List ((List UInt8) × List UInt8)) (a2_key : List UInt8) (Q : (Int × List (Int × ((List UInt8) × List UInt8) × List (List UInt8))) → Prop) : Prop :=
  (¬mayK a1_l = true → Q ((Ty.int IntKind.i64).pr ((Ty.int IntKind.i64).pr ((Ty.byte.sl.pr Ty.byte.sl).pr (Ty.arr (32 : Nat) Ty.byte).sl)).sl).kd.z) ∧ (mayK a1_l = true → (mayK a1_l = true ∧ a1_l.length ≤ (1048576 : Nat)) ∧ ((Ty.int IntKind.i64).kd.wf (lowK a1_l a2_key : Int) → (isK a1_l a2_key = true → ((a1_l.length ≤ (65536 : Nat) ∧ ∀ (x0 : List UInt8 × List UInt8), x0 ∈ a1_l → x0.fst.length + x0.snd.length ≤ (70368744177664 : Nat)) ∧ bookUpto (none : Option (List Nt × Int)) a1_l.length) ∧ ((Ty.arr (32 : Nat) Ty.byte).kd.sl.wf (leavesK a1_l) → ∃ (x0 : Int → List (Int × (List UInt8 × List UInt8) × List (List UInt8)) → Int × Unit → Prop), ∃ (x1 : Int → List (Int × (List UInt8 × List UInt8) × List (List UInt8)) → Int × Unit → Nat), x0 (lowK a1_l a2_key : Int) ([] : List (Int × (List UInt8 × List UInt8) × List (List UInt8))) ((a1_l.length : Int), ()) ∧ ∀ (x2 : Int) (x3 : List (Int × (List UInt8 × List UInt8) × List (List UInt8))) (x4 : Int × Unit), x0 x2 x3 x4 → (Kd.int IntKind.i64).wf x2 → ((Ty.int IntKind.i64).pr ((Ty.byte.sl.pr Ty.byte.sl).pr (Ty.arr (32 : Nat) Ty.byte).sl)).kd.sl.wf x3 → ((x2 < bif false then max (IntKind.i64.wrap ((lowK a1_l a2_key : Int) + (1 : Int))) (a1_l.length : Int) else min (IntKind.i64.wrap ((lowK a1_l a2_key : Int) + (1 : Int))) (a1_l.length : Int)) → (leavesK a1_l).length ≤ (1048576 : Nat) ∧ ((Ty.arr (32 : Nat) Ty.byte).kd.sl.wf (pathN (leavesK a1_l) x2) → ((0 : Int) ≤ x2 ∧ x2 < (a1_l.length : Int)) ∧ ((0 : Int) ≤ x2 ∧ x2 < (a1_l.length : Int)) ∧ (ix a1_l x2).fst.length ≤ (140737488355328 : Nat) ∧ (Ty.byte.kd.sl.wf (ix a1_l x2).fst → (ix a1_l x2).snd.length ≤ (140737488355328 : Nat) ∧ (Ty.byte.kd.sl.wf (ix a1_l x2).snd → (x3.length + ((x2, ((ix a1_l x2).fst, (ix a1_l x2).snd), pathN (leavesK a1_l) x2) :: ([] : List (Int × (List UInt8 × List UInt8) × List (List UInt8)))).length) * (80 : Nat) ≤ (140737488355328 : Nat) ∧ x2 < (9223372036854775807 : Int) ∧ x0 (x2 + (1 : Int)) (x3 ++ (x2, ((ix a1_l x2).fst, (ix a1_l x2).snd), pathN (leavesK a1_l) x2) :: ([] : List (Int × (List UInt8 × List UInt8) × List (List UInt8)))) (x4.fst, x4.snd) ∧ x1 (x2 + (1 : Int)) (x3 ++ (x2, ((ix a1_l x2).fst, (ix a1_l x2).snd), pathN (leavesK a1_l) x2) :: ([] : List (Int × (List UInt8 × List UInt8) × List (List UInt8)))) (x4.fst, x4.snd) < x1 x2 x3 x4)))) ∧ ((¬x2 < bif false then max (IntKind.i64.wrap ((lowK a1_l a2_key : Int) + (1 : Int))) (a1_l.length : Int) else min (IntKind.i64.wrap ((lowK a1_l a2_key : Int) + (1 : Int))) (a1_l.length : Int)) → Q (x4.fst, x3)))) ∧ (isK a1_l a2_key = false → ((a1_l.length ≤ (65536 : Nat) ∧ ∀ (x0 : List UInt8 × List UInt8), x0 ∈ a1_l → x0.fst.length + x0.snd.length ≤ (70368744177664 : Nat)) ∧ bookUpto (none : Option (List Nt × Int)) a1_l.length) ∧ ((Ty.arr (32 : Nat) Ty.byte).kd.sl.wf (leavesK a1_l) → ∃ (x0 : Int → List (Int × (List UInt8 × List UInt8) × List (List UInt8)) → Int × Unit → Prop), ∃ (x1 : Int → List (Int × (List UInt8 × List UInt8) × List (List UInt8)) → Int × Unit → Nat), x0 (bif true then max (IntKind.i64.wrap ((lowK a1_l a2_key : Int) - (1 : Int))) (0 : Int) else min (IntKind.i64.wrap ((lowK a1_l a2_key : Int) - (1 : Int))) (0 : Int)) ([] : List (Int × (List UInt8 × List UInt8) × List (List UInt8))) ((a1_l.length : Int), ()) ∧ ∀ (x2 : Int) (x3 : List (Int × (List UInt8 × List UInt8) × List (List UInt8))) (x4 : Int × Unit), x0 x2 x3 x4 → (Kd.int IntKind.i64).wf x2 → ((Ty.int IntKind.i64).pr ((Ty.byte.sl.pr Ty.byte.sl).pr (Ty.arr (32 : Nat) Ty.byte).sl)).kd.sl.wf x3 → ((x2 < bif false then max (IntKind.i64.wrap ((lowK a1_l a2_key : Int) + (1 : Int))) (a1_l.length : Int) else min (IntKind.i64.wrap ((lowK a1_l a2_key : Int) + (1 : Int))) (a1_l.length : Int)) → (leavesK a1_l).length ≤ (1048576 : Nat) ∧ ((Ty.arr (32 : Nat) Ty.byte).kd.sl.wf (pathN (leavesK a1_l) x2) → ((0 : Int) ≤ x2 ∧ x2 < (a1_l.length : Int)) ∧ ((0 : Int) ≤ x2 ∧ x2 < (a1_l.length : Int)) ∧ (ix a1_l x2).fst.length ≤ (140737488355328 : Nat) ∧ (Ty.byte.kd.sl.wf (ix a1_l x2).fst → (ix a1_l x2).snd.length ≤ (140737488355328 : Nat) ∧ (Ty.byte.kd.sl.wf (ix a1_l x2).snd → (x3.length + ((x2, ((ix a1_l x2).fst, (ix a1_l x2).snd), pathN (leavesK a1_l) x2) :: ([] : List (Int × (List UInt8 × List UInt8) × List (List UInt8)))).length) * (80 : Nat) ≤ (140737488355328 : Nat) ∧ x2 < (9223372036854775807 : Int) ∧ x0 (x2 + (1 : Int)) (x3 ++ (x2, ((ix a1_l x2).fst, (ix a1_l x2).snd), pathN (leavesK a1_l) x2) :: ([] : List (Int × (List UInt8 × List UInt8) × List (List UInt8)))) (x4.fst, x4.snd) ∧ x1 (x2 + (1 : Int)) (x3 ++ (x2, ((ix a1_l x2).fst, (ix a1_l x2).snd), pathN (leavesK a1_l) x2) :: ([] : List (Int × (List UInt8 × List UInt8) × List (List UInt8)))) (x4.fst, x4.snd) < x1 x2 x3 x4)))) ∧ ((¬x2 < bif false then max (IntKind.i64.wrap ((lowK a1_l a2_key : Int) + (1 : Int))) (a1_l.length : Int) else min (IntKind.i64.wrap ((lowK a1_l a2_key : Int) + (1 : Int))) (a1_l.length : Int)) → Q (x4.fst, x3))))))
theorem kShow_ok {a1_l : List ((List UInt8) × List UInt8)} {a2_key : List UInt8} (w_0 : (Ty.kd (.sl (.pr (.sl .byte) (.sl .byte)))).wf a1_l) (w_1 : (Ty.kd (.sl .byte)).wf a2_key) (hp : a1_l.length ≤ 65536 ∧ (∀ p ∈ a1_l, p.1.length + p.2.length ≤ 70368744177664)) : kShow_VC a1_l a2_key (fun o0 => o0 = (showK a1_l a2_key)) := by
  unfold kShow_VC
  obtain ⟨hl, hs⟩ := hp
  have hw : ∀ m : Int, -1 ≤ m → m ≤ 65537 → IntKind.i64.wrap m = m := fun m h1 h2 => wrap_id (wf64 (by omega) (by omega))
  refine ⟨fun hm => ?_, fun hm => ⟨⟨hm, by omega⟩, fun _ => ?_⟩⟩
  · unfold showK
    rw [if_neg hm]
    rfl
  have hlow := lowK_le a1_l a2_key
  have eto : (bif false then max (IntKind.i64.wrap ((lowK a1_l a2_key : Int) + (1 : Int))) (a1_l.length : Int) else min (IntKind.i64.wrap ((lowK a1_l a2_key : Int) + (1 : Int))) (a1_l.length : Int)) = ((toK a1_l a2_key : Nat) : Int) := by
    rw [hw _ (by omega) (by omega)]
    show min _ _ = _
    unfold toK
    omega
  have efr : (bif true then max (IntKind.i64.wrap ((lowK a1_l a2_key : Int) - (1 : Int))) (0 : Int) else min (IntKind.i64.wrap ((lowK a1_l a2_key : Int) - (1 : Int))) (0 : Int)) = ((lowK a1_l a2_key - 1 : Nat) : Int) := by
    rw [hw _ (by omega) (by omega)]
    show max _ _ = _
    omega
  rw [eto, efr]
  have hto : toK a1_l a2_key ≤ a1_l.length := by unfold toK; omega
  have hft : fromK a1_l a2_key ≤ toK a1_l a2_key := by
    unfold fromK toK
    cases hi : isK a1_l a2_key with
    | true =>
      have : lowK a1_l a2_key < a1_l.length := by
        unfold isK at hi
        simp only [Bool.and_eq_true, decide_eq_true_eq] at hi
        exact hi.1
      simp only [if_true]
      omega
    | false => simp only [Bool.false_eq_true, if_false]; omega
  have step : ∀ (x0 : Int → List (Int × (List UInt8 × List UInt8) × List (List UInt8)) → Int × Unit → Prop) (x1 : Int → List (Int × (List UInt8 × List UInt8) × List (List UInt8)) → Int × Unit → Nat),
      (x0 = fun i out c => ∃ j : Nat, i = (j : Int) ∧ fromK a1_l a2_key ≤ j ∧ j ≤ toK a1_l a2_key ∧ out = (List.range' (fromK a1_l a2_key) (j - fromK a1_l a2_key)).map (spotK a1_l) ∧ c = ((a1_l.length : Int), ())) →
      (x1 = fun i _ _ => ((a1_l.length : Int) - i).toNat) → ∀ x2 x3 x4, x0 x2 x3 x4 → (x2 < ((toK a1_l a2_key : Nat) : Int) → (leavesK a1_l).length ≤ (1048576 : Nat) ∧ ((0 : Int) ≤ x2 ∧ x2 < (a1_l.length : Int)) ∧ (ix a1_l x2).fst.length ≤ (140737488355328 : Nat) ∧ (ix a1_l x2).snd.length ≤ (140737488355328 : Nat) ∧ (x3.length + ((x2, ((ix a1_l x2).fst, (ix a1_l x2).snd), pathN (leavesK a1_l) x2) :: ([] : List (Int × (List UInt8 × List UInt8) × List (List UInt8)))).length) * (80 : Nat) ≤ (140737488355328 : Nat) ∧ x2 < (9223372036854775807 : Int) ∧ x0 (x2 + (1 : Int)) (x3 ++ (x2, ((ix a1_l x2).fst, (ix a1_l x2).snd), pathN (leavesK a1_l) x2) :: ([] : List (Int × (List UInt8 × List UInt8) × List (List UInt8)))) (x4.fst, x4.snd) ∧ x1 (x2 + (1 : Int)) (x3 ++ (x2, ((ix a1_l x2).fst, (ix a1_l x2).snd), pathN (leavesK a1_l) x2) :: ([] : List (Int × (List UInt8 × List UInt8) × List (List UInt8)))) (x4.fst, x4.snd) < x1 x2 x3 x4) ∧ (¬ x2 < ((toK a1_l a2_key : Nat) : Int) → (x4.fst, x3) = showK a1_l a2_key) := by
    intro x0 x1 e0 e1 x2 x3 x4 hI
    rw [e0] at hI
    obtain ⟨j, rfl, h1, h2, rfl, rfl⟩ := hI
    refine ⟨fun hlt => ?_, fun hge => ?_⟩
    · have hj : j < a1_l.length := by omega
      have hsz := hs _ (List.getElem_mem hj)
      have er : List.range' (fromK a1_l a2_key) (j + 1 - fromK a1_l a2_key) = List.range' (fromK a1_l a2_key) (j - fromK a1_l a2_key) ++ [j] := by
        rw [show j + 1 - fromK a1_l a2_key = (j - fromK a1_l a2_key) + 1 from by omega, List.range'_concat]
        congr 2
        omega
      refine ⟨by rw [leavesK_len]; omega, ⟨by omega, by omega⟩, by rw [ixN hj]; omega, by rw [ixN hj]; omega, ?_, by omega, ?_, by rw [e1]; dsimp only; omega⟩
      · simp only [List.length_map, List.length_range', List.length_cons, List.length_nil]
        omega
      · rw [e0]
        refine ⟨j + 1, rfl, by omega, by omega, ?_, rfl⟩
        rw [er, List.map_append]
        rfl
    · obtain rfl : j = toK a1_l a2_key := by omega
      unfold showK
      rw [if_pos hm]
  obtain ⟨I, eI⟩ : ∃ I : Int → List (Int × (List UInt8 × List UInt8) × List (List UInt8)) → Int × Unit → Prop, I = fun i out c => ∃ j : Nat, i = (j : Int) ∧ fromK a1_l a2_key ≤ j ∧ j ≤ toK a1_l a2_key ∧ out = (List.range' (fromK a1_l a2_key) (j - fromK a1_l a2_key)).map (spotK a1_l) ∧ c = ((a1_l.length : Int), ()) := ⟨_, rfl⟩
  obtain ⟨M, eM⟩ : ∃ M : Int → List (Int × (List UInt8 × List UInt8) × List (List UInt8)) → Int × Unit → Nat, M = fun i _ _ => ((a1_l.length : Int) - i).toNat := ⟨_, rfl⟩
  have beg : ∀ k : Nat, fromK a1_l a2_key = k → I (k : Int) [] ((a1_l.length : Int), ()) := fun k hk => by
    rw [eI]
    exact ⟨k, rfl, by omega, by omega, by rw [hk, Nat.sub_self]; rfl, rfl⟩
  have fin := step I M eI eM
  refine ⟨fun hi => ⟨⟨⟨hl, hs⟩, fun y h => by cases h⟩, fun _ => ⟨I, M, beg _ (by unfold fromK; rw [if_pos hi]), fun x2 x3 x4 hI _ _ => ?_⟩⟩, fun hi => ⟨⟨⟨hl, hs⟩, fun y h => by cases h⟩, fun _ => ⟨I, M, beg _ (by unfold fromK; rw [if_neg (by simp [hi])]), fun x2 x3 x4 hI _ _ => ?_⟩⟩⟩
  · obtain ⟨s1, s2⟩ := fin x2 x3 x4 hI
    refine ⟨fun hlt => ?_, s2⟩
    obtain ⟨a1, a2, a3, a4, a5, a6, a7, a8⟩ := s1 hlt
    exact ⟨a1, fun _ => ⟨a2, a2, a3, fun _ => ⟨a4, fun _ => ⟨a5, a6, a7, a8⟩⟩⟩⟩
  · obtain ⟨s1, s2⟩ := fin x2 x3 x4 hI
    refine ⟨fun hlt => ?_, s2⟩
    obtain ⟨a1, a2, a3, a4, a5, a6, a7, a8⟩ := s1 hlt
    exact ⟨a1, fun _ => ⟨a2, a2, a3, fun _ => ⟨a4, fun _ => ⟨a5, a6, a7, a8⟩⟩⟩⟩
theorem kShow_eq : (∀ a, kShow_C.pre a → PM.wfP kShow_C.pm a (fvc kShow_X 200 33 kShow_C a (eqO kShow_C a))) = (∀ a : Unit × (List ((List UInt8) × List UInt8)) × (List UInt8) × Unit, ((a.2.1).length ≤ 65536 ∧ (∀ p ∈ (a.2.1), p.1.length + p.2.length ≤ 70368744177664)) → (Ty.kd (.sl (.pr (.sl .byte) (.sl .byte)))).wf a.2.1 → (Ty.kd (.sl .byte)).wf a.2.2.1 → kShow_VC a.2.1 a.2.2.1 (fun o0 => o0 = (showK (a.2.1) (a.2.2.1)))) := by kernel_rfl
theorem kShow_k : kShow_C.valid Try.prog 33 := ctr_of (X := kShow_X) (ok_of (seat_ok.rows [3000011, 4000037]) (fun b hb => by cases hb; exact bkT_ok) fns_ok ⟨kMay_k, BinS_k, kShow1_k, kleaves_k, PathO_k, PathR_k, Clone_k, trivial⟩) 200 (kShow_eq.mpr fun a hp w_0 w_1 => @kShow_ok a.2.1 a.2.2.1 w_0 w_1 hp)
def ksays_K1 (a0_key : List UInt8) (a1_s : Int × List (Int × ((List UInt8) × List UInt8) × List (List UInt8))) (Q : Bool → Bool → Prop) : Prop :=
  (((0 : Int) ≤ (ix a1_s.snd (0 : Int)).fst → ((ix a1_s.snd (0 : Int)).fst < (ix a1_s.snd (1 : Int)).fst → (IntKind.i64.wrap ((ix a1_s.snd (1 : Int)).fst - (ix a1_s.snd (0 : Int)).fst) = (1 : Int) → (Ty.int IntKind.i64).kd.wf (cmpB (ix a1_s.snd (0 : Int)).snd.fst.fst a0_key) → (cmpB (ix a1_s.snd (0 : Int)).snd.fst.fst a0_key < (0 : Int) → (Ty.int IntKind.i64).kd.wf (cmpB a0_key (ix a1_s.snd (1 : Int)).snd.fst.fst) → Q false (decide (cmpB a0_key (ix a1_s.snd (1 : Int)).snd.fst.fst < (0 : Int)))) ∧ (¬cmpB (ix a1_s.snd (0 : Int)).snd.fst.fst a0_key < (0 : Int) → Q false false)) ∧ (¬IntKind.i64.wrap ((ix a1_s.snd (1 : Int)).fst - (ix a1_s.snd (0 : Int)).fst) = (1 : Int) → Q false false)) ∧ (¬(ix a1_s.snd (0 : Int)).fst < (ix a1_s.snd (1 : Int)).fst → Q false false)) ∧ (¬(0 : Int) ≤ (ix a1_s.snd (0 : Int)).fst → Q false false))
noncomputable def ksays_C : Ctr := ⟨[.v (.sl .byte), .v (.pr (.int .i64) (.sl (.pr (.int .i64) (.pr (.pr (.sl .byte) (.sl .byte)) (.sl (.arr 32 .byte))))))], [.v .bool, .v .bool], none, fun a => (fun (a0_key : List UInt8) (a1_s : Int × List (Int × ((List UInt8) × List UInt8) × List (List UInt8))) => (((saysW a0_key a1_s).1, (saysW a0_key a1_s).2, ()), (()))) a.1 a.2.1⟩
noncomputable def ksays_X : Fx := ⟨seat, some bkT, fns, [(75, Cmp_C)], [], [], [(4, [], [.o 0 2, .o 1 2, .o 2 2, .o 3 2, .o 4 2]), (7, [], [.o 0 2, .o 1 2, .o 2 2, .o 3 2, .o 4 2, .o 5 2, .o 6 2, .o 7 2, .o 8 2, .o 9 2, .o 10 2, .o 11 2, .o 12 2, .o 13 2, .o 14 2, .o 15 2, .o 16 2, .o 17 2, .o 18 2, .o 19 2, .o 20 2, .o 21 2, .o 22 2, .o 23 2, .o 24 2, .o 25 2, .o 26 2, .o 27 2, .o 28 2, .o 29 2, .o 30 2]), (9, [1, 2], [.o 0 2, .o 1 2, .o 2 2, .o 3 3, .o 4 3, .o 5 3, .par [6, 7] (.alt 6 0 (.one 7 0 .fin) (.alt 7 0 (.one 6 0 .fin) .fin)), .o 8 1, .o 9 1])]⟩
def ksays_VC (a0_key : List UInt8) (a1_s : Int × List (Int × ((List UInt8) × List UInt8) × List (List UInt8))) (Q : Bool → Bool → Prop) : Prop :=
  ((a1_s.snd.length : Int) = (0 : Int) → Q false (decide (a1_s.fst = (0 : Int)))) ∧ (¬(a1_s.snd.length : Int) = (0 : Int) → ((a1_s.snd.length : Int) = (1 : Int) → ((0 : Int) ≤ (0 : Int) ∧ (0 : Int) < (a1_s.snd.length : Int)) ∧ ((Ty.int IntKind.i64).kd.wf (cmpB a0_key (ix a1_s.snd (0 : Int)).snd.fst.fst) → (cmpB a0_key (ix a1_s.snd (0 : Int)).snd.fst.fst = (0 : Int) → Q (decide (cmpB a0_key (ix a1_s.snd (0 : Int)).snd.fst.fst = (0 : Int))) true) ∧ (¬cmpB a0_key (ix a1_s.snd (0 : Int)).snd.fst.fst = (0 : Int) → (cmpB a0_key (ix a1_s.snd (0 : Int)).snd.fst.fst < (0 : Int) → ((0 : Int) ≤ (0 : Int) ∧ (0 : Int) < (a1_s.snd.length : Int)) ∧ ((ix a1_s.snd (0 : Int)).fst = (0 : Int) → Q (decide (cmpB a0_key (ix a1_s.snd (0 : Int)).snd.fst.fst = (0 : Int))) true) ∧ (¬(ix a1_s.snd (0 : Int)).fst = (0 : Int) → ((0 : Int) < cmpB a0_key (ix a1_s.snd (0 : Int)).snd.fst.fst → ((0 : Int) ≤ (0 : Int) ∧ (0 : Int) < (a1_s.snd.length : Int)) ∧ Q (decide (cmpB a0_key (ix a1_s.snd (0 : Int)).snd.fst.fst = (0 : Int))) (decide ((ix a1_s.snd (0 : Int)).fst = IntKind.i64.wrap (a1_s.fst - (1 : Int))))) ∧ (¬(0 : Int) < cmpB a0_key (ix a1_s.snd (0 : Int)).snd.fst.fst → Q (decide (cmpB a0_key (ix a1_s.snd (0 : Int)).snd.fst.fst = (0 : Int))) false))) ∧ (¬cmpB a0_key (ix a1_s.snd (0 : Int)).snd.fst.fst < (0 : Int) → ((0 : Int) < cmpB a0_key (ix a1_s.snd (0 : Int)).snd.fst.fst → ((0 : Int) ≤ (0 : Int) ∧ (0 : Int) < (a1_s.snd.length : Int)) ∧ Q (decide (cmpB a0_key (ix a1_s.snd (0 : Int)).snd.fst.fst = (0 : Int))) (decide ((ix a1_s.snd (0 : Int)).fst = IntKind.i64.wrap (a1_s.fst - (1 : Int))))) ∧ (¬(0 : Int) < cmpB a0_key (ix a1_s.snd (0 : Int)).snd.fst.fst → Q (decide (cmpB a0_key (ix a1_s.snd (0 : Int)).snd.fst.fst = (0 : Int))) false))))) ∧ (¬(a1_s.snd.length : Int) = (1 : Int) → ((a1_s.snd.length : Int) = (2 : Int) → ((0 : Int) ≤ (0 : Int) ∧ (0 : Int) < (a1_s.snd.length : Int)) ∧ ((0 : Int) ≤ (1 : Int) ∧ (1 : Int) < (a1_s.snd.length : Int)) ∧ (ksays_K1 a0_key a1_s Q) ∧ (ksays_K1 a0_key a1_s Q) ∧ True) ∧ (¬(a1_s.snd.length : Int) = (2 : Int) → Q false false)))
theorem ksays_ok {a0_key : List UInt8} {a1_s : Int × List (Int × ((List UInt8) × List UInt8) × List (List UInt8))} (w_0 : (Ty.kd (.sl .byte)).wf a0_key) (w_1 : (Ty.kd (.pr (.int .i64) (.sl (.pr (.int .i64) (.pr (.pr (.sl .byte) (.sl .byte)) (.sl (.arr 32 .byte))))))).wf a1_s) : ksays_VC a0_key a1_s (fun o0 o1 => o0 = (saysW a0_key a1_s).1 ∧ o1 = (saysW a0_key a1_s).2) := by
  obtain ⟨n, l⟩ := a1_s
  unfold ksays_VC
  refine ⟨fun h => ?_, fun h0 => ⟨fun h1 => ?_, fun h1 => ⟨fun h2 => ?_, fun h2 => ?_⟩⟩⟩
  · obtain rfl : l = [] := List.length_eq_zero_iff.1 (by have h : (l.length : Int) = 0 := h; omega)
    exact ⟨rfl, rfl⟩
  · obtain ⟨a, rfl⟩ := List.length_eq_one_iff.1 (show l.length = 1 by have h1 : (l.length : Int) = 1 := h1; omega)
    have e : ix [a] 0 = a := rfl
    simp only [e]
    generalize hc : cmpB a0_key a.2.1.1 = c
    have s1 : (saysW a0_key (n, [a])).1 = decide (c = 0) := by rw [← hc]; rfl
    have s2 : (saysW a0_key (n, [a])).2 = decide (c = 0 ∨ c < 0 ∧ a.1 = 0 ∨ 0 < c ∧ a.1 = IntKind.i64.wrap (n - 1)) := by rw [← hc]; rfl
    rw [s1, s2]
    have b : (0 : Int) ≤ 0 ∧ (0 : Int) < (([a] : List Sp).length : Int) := by simp
    refine ⟨b, fun _ => ⟨fun g1 => ⟨rfl, (decide_eq_true (.inl g1)).symm⟩, fun g1 => ⟨fun g2 => ⟨b, fun g3 => ⟨rfl, (decide_eq_true (.inr (.inl ⟨g2, g3⟩))).symm⟩, fun g3 => ⟨fun g4 => by omega, fun g4 => ⟨rfl, (decide_eq_false (by omega)).symm⟩⟩⟩, fun g2 => ⟨fun g3 => ⟨b, rfl, decide_eq_decide.2 (by constructor <;> intro h <;> omega)⟩, fun g3 => by omega⟩⟩⟩⟩
  · obtain ⟨a, b, rfl⟩ : ∃ a b, l = [a, b] := by
      rcases l with _ | ⟨a, _ | ⟨b, _ | ⟨c, l⟩⟩⟩
      · simp at h2
      · simp at h2
      · exact ⟨a, b, rfl⟩
      · have h2 : ((l.length + 1 + 1 + 1 : Nat) : Int) = 2 := h2
        omega
    have e : ix [a, b] 0 = a := rfl
    have e' : ix [a, b] 1 = b := rfl
    have wa : a.1 ≤ 9223372036854775807 := (w_1.2.2 a (by simp)).1.2
    have wb : b.1 ≤ 9223372036854775807 := (w_1.2.2 b (by simp)).1.2
    have key : ksays_K1 a0_key (n, [a, b]) (fun o0 o1 => o0 = (saysW a0_key (n, [a, b])).1 ∧ o1 = (saysW a0_key (n, [a, b])).2) := by
      unfold ksays_K1
      simp only [e, e']
      have s1 : (saysW a0_key (n, [a, b])).1 = false := rfl
      have s2 : (saysW a0_key (n, [a, b])).2 = decide (0 ≤ a.1 ∧ a.1 < b.1 ∧ b.1 - a.1 = 1 ∧ cmpB a.2.1.1 a0_key < 0 ∧ cmpB a0_key b.2.1.1 < 0) := rfl
      rw [s1, s2]
      refine ⟨fun g1 => ⟨fun g2 => ?_, fun g2 => ⟨rfl, (decide_eq_false (by omega)).symm⟩⟩, fun g1 => ⟨rfl, (decide_eq_false (by omega)).symm⟩⟩
      have ew : IntKind.i64.wrap (b.1 - a.1) = b.1 - a.1 := wrap_id (wf64 (by omega) (by omega))
      rw [ew]
      refine ⟨fun g3 _ => ⟨fun g4 _ => ⟨rfl, decide_eq_decide.2 (by constructor <;> intro h <;> omega)⟩, fun g4 => ⟨rfl, (decide_eq_false (by omega)).symm⟩⟩, fun g3 => ⟨rfl, (decide_eq_false (by omega)).symm⟩⟩
    exact ⟨by simp, by simp, key, key, trivial⟩
  · match l, h0, h1, h2 with
    | [], h0, h1, h2 => simp at h0
    | [a], h0, h1, h2 => simp at h1
    | [a, b], h0, h1, h2 => simp at h2
    | a :: b :: c :: l, h0, h1, h2 => exact ⟨rfl, rfl⟩
theorem ksays_eq : (∀ a, ksays_C.pre a → PM.wfP ksays_C.pm a (fvc ksays_X 200 77 ksays_C a (eqO ksays_C a))) = (∀ a : (List UInt8) × (Int × List (Int × ((List UInt8) × List UInt8) × List (List UInt8))) × Unit, True → (Ty.kd (.sl .byte)).wf a.1 → (Ty.kd (.pr (.int .i64) (.sl (.pr (.int .i64) (.pr (.pr (.sl .byte) (.sl .byte)) (.sl (.arr 32 .byte))))))).wf a.2.1 → ksays_VC a.1 a.2.1 (fun o0 o1 => o0 = (saysW (a.1) (a.2.1)).1 ∧ o1 = (saysW (a.1) (a.2.1)).2)) := by kernel_rfl
theorem ksays_k : ksays_C.valid Try.prog 77 := ctr_of (X := ksays_X) (ok_of seat_ok (fun b hb => by cases hb; exact bkT_ok) fns_ok ⟨Cmp_k, trivial⟩) 200 (ksays_eq.mpr fun a hp w_0 w_1 => @ksays_ok a.1 a.2.1 w_0 w_1)
def kLook_K1 (a0_k : BookA) (a1_root : List UInt8) (a2_key : List UInt8) (a3_s : Int × List (Int × ((List UInt8) × List UInt8) × List (List UInt8))) (Q : (List UInt8) → Bool → Int → BookA → Prop) (x0 : List UInt8 → Bool → Int → Int → BookA → List UInt8 → Prop) (x1 : List UInt8 → Bool → Int → Int → BookA → List UInt8 → Nat) (x2 : List UInt8) (x3 : Bool) (x4 : Int) (x5 : Int) (x6 : BookA) (x7 : List UInt8) : Prop :=
  ((Ty.arr (32 : Nat) Ty.byte).kd.wf (leadS a3_s.fst (ix a3_s.snd x5).fst (leafK (ix a3_s.snd x5).snd.fst) (ix a3_s.snd x5).snd.snd) → (Ty.int IntKind.i64).kd.wf (leadE a3_s.fst (ix a3_s.snd x5).fst (ix a3_s.snd x5).snd.snd) → (leadE a3_s.fst (ix a3_s.snd x5).fst (ix a3_s.snd x5).snd.snd ≠ (0 : Int) → Q ([] : List UInt8) false (10 : Int) (leadK (bookOf x6 (4 : Int) ((ix a3_s.snd x5).snd.fst.fst :: (ix a3_s.snd x5).snd.fst.snd :: ([] : List (List UInt8)))) a3_s.fst (ix a3_s.snd x5).fst (leafK (ix a3_s.snd x5).snd.fst) (ix a3_s.snd x5).snd.snd)) ∧ (¬leadE a3_s.fst (ix a3_s.snd x5).fst (ix a3_s.snd x5).snd.snd ≠ (0 : Int) → ((0 : Int) < x5 → (leadS a3_s.fst (ix a3_s.snd x5).fst (leafK (ix a3_s.snd x5).snd.fst) (ix a3_s.snd x5).snd.snd ≠ x7 → Q ([] : List UInt8) false (10 : Int) (leadK (bookOf x6 (4 : Int) ((ix a3_s.snd x5).snd.fst.fst :: (ix a3_s.snd x5).snd.fst.snd :: ([] : List (List UInt8)))) a3_s.fst (ix a3_s.snd x5).fst (leafK (ix a3_s.snd x5).snd.fst) (ix a3_s.snd x5).snd.snd)) ∧ (¬leadS a3_s.fst (ix a3_s.snd x5).fst (leafK (ix a3_s.snd x5).snd.fst) (ix a3_s.snd x5).snd.snd ≠ x7 → x5 < (9223372036854775807 : Int) ∧ x0 x2 x3 x4 (x5 + (1 : Int)) (leadK (bookOf x6 (4 : Int) ((ix a3_s.snd x5).snd.fst.fst :: (ix a3_s.snd x5).snd.fst.snd :: ([] : List (List UInt8)))) a3_s.fst (ix a3_s.snd x5).fst (leafK (ix a3_s.snd x5).snd.fst) (ix a3_s.snd x5).snd.snd) (leadS a3_s.fst (ix a3_s.snd x5).fst (leafK (ix a3_s.snd x5).snd.fst) (ix a3_s.snd x5).snd.snd) ∧ x1 x2 x3 x4 (x5 + (1 : Int)) (leadK (bookOf x6 (4 : Int) ((ix a3_s.snd x5).snd.fst.fst :: (ix a3_s.snd x5).snd.fst.snd :: ([] : List (List UInt8)))) a3_s.fst (ix a3_s.snd x5).fst (leafK (ix a3_s.snd x5).snd.fst) (ix a3_s.snd x5).snd.snd) (leadS a3_s.fst (ix a3_s.snd x5).fst (leafK (ix a3_s.snd x5).snd.fst) (ix a3_s.snd x5).snd.snd) < x1 x2 x3 x4 x5 x6 x7)) ∧ (¬(0 : Int) < x5 → x5 < (9223372036854775807 : Int) ∧ x0 x2 x3 x4 (x5 + (1 : Int)) (leadK (bookOf x6 (4 : Int) ((ix a3_s.snd x5).snd.fst.fst :: (ix a3_s.snd x5).snd.fst.snd :: ([] : List (List UInt8)))) a3_s.fst (ix a3_s.snd x5).fst (leafK (ix a3_s.snd x5).snd.fst) (ix a3_s.snd x5).snd.snd) (leadS a3_s.fst (ix a3_s.snd x5).fst (leafK (ix a3_s.snd x5).snd.fst) (ix a3_s.snd x5).snd.snd) ∧ x1 x2 x3 x4 (x5 + (1 : Int)) (leadK (bookOf x6 (4 : Int) ((ix a3_s.snd x5).snd.fst.fst :: (ix a3_s.snd x5).snd.fst.snd :: ([] : List (List UInt8)))) a3_s.fst (ix a3_s.snd x5).fst (leafK (ix a3_s.snd x5).snd.fst) (ix a3_s.snd x5).snd.snd) (leadS a3_s.fst (ix a3_s.snd x5).fst (leafK (ix a3_s.snd x5).snd.fst) (ix a3_s.snd x5).snd.snd) < x1 x2 x3 x4 x5 x6 x7)))
def kLook_K2 (a0_k : BookA) (a1_root : List UInt8) (a2_key : List UInt8) (a3_s : Int × List (Int × ((List UInt8) × List UInt8) × List (List UInt8))) (Q : (List UInt8) → Bool → Int → BookA → Prop) (x0 : List UInt8 → Bool → Int → Int → BookA → List UInt8 → Prop) (x1 : List UInt8 → Bool → Int → Int → BookA → List UInt8 → Nat) (x2 : List UInt8) (x3 : Bool) (x4 : Int) (x5 : Int) (x6 : BookA) (x7 : List UInt8) : Prop :=
  (x5 < (a3_s.snd.length : Int) → ((0 : Int) ≤ x5 ∧ x5 < (a3_s.snd.length : Int)) ∧ (((ix a3_s.snd x5).snd.fst.fst.length + (ix a3_s.snd x5).snd.fst.snd.length ≤ (70368744177664 : Nat) ∧ bookRoom x6) ∧ ((Ty.arr (32 : Nat) Ty.byte).kd.wf (leafK (ix a3_s.snd x5).snd.fst) → (((ix a3_s.snd x5).snd.snd.length ≤ (1048576 : Nat) ∧ bookUpto (bookOf x6 (4 : Int) ((ix a3_s.snd x5).snd.fst.fst :: (ix a3_s.snd x5).snd.fst.snd :: ([] : List (List UInt8)))) (ix a3_s.snd x5).snd.snd.length) ∧ (kLook_K1 a0_k a1_root a2_key a3_s Q x0 x1 x2 x3 x4 x5 x6 x7)) ∧ (((ix a3_s.snd x5).snd.snd.length ≤ (1048576 : Nat) ∧ bookUpto (bookOf x6 (4 : Int) ((ix a3_s.snd x5).snd.fst.fst :: (ix a3_s.snd x5).snd.fst.snd :: ([] : List (List UInt8)))) (ix a3_s.snd x5).snd.snd.length) ∧ (kLook_K1 a0_k a1_root a2_key a3_s Q x0 x1 x2 x3 x4 x5 x6 x7)) ∧ True)) ∧ (((ix a3_s.snd x5).snd.fst.fst.length + (ix a3_s.snd x5).snd.fst.snd.length ≤ (70368744177664 : Nat) ∧ bookRoom x6) ∧ ((Ty.arr (32 : Nat) Ty.byte).kd.wf (leafK (ix a3_s.snd x5).snd.fst) → ((ix a3_s.snd x5).snd.snd.length ≤ (1048576 : Nat) ∧ bookUpto (bookOf x6 (4 : Int) ((ix a3_s.snd x5).snd.fst.fst :: (ix a3_s.snd x5).snd.fst.snd :: ([] : List (List UInt8)))) (ix a3_s.snd x5).snd.snd.length) ∧ (kLook_K1 a0_k a1_root a2_key a3_s Q x0 x1 x2 x3 x4 x5 x6 x7))) ∧ True)
def kLook_K3 (a0_k : BookA) (a1_root : List UInt8) (a2_key : List UInt8) (a3_s : Int × List (Int × ((List UInt8) × List UInt8) × List (List UInt8))) (Q : (List UInt8) → Bool → Int → BookA → Prop) (x5 : Int) (x6 : BookA) (x7 : List UInt8) : Prop :=
  (¬x5 < (a3_s.snd.length : Int) → ((0 : Int) ≤ a3_s.fst ∧ bookRoom x6) ∧ ((Ty.arr (32 : Nat) Ty.byte).kd.wf (wholeK a3_s.fst x7) → (wholeK a3_s.fst x7 ≠ a1_root → Q ([] : List UInt8) false (10 : Int) (bookOf x6 (5 : Int) (numB a3_s.fst.toNat :: x7 :: ([] : List (List UInt8))))) ∧ (¬wholeK a3_s.fst x7 ≠ a1_root → (¬(saysW a2_key a3_s).fst = true → Q ([] : List UInt8) false (0 : Int) (bookOf x6 (5 : Int) (numB a3_s.fst.toNat :: x7 :: ([] : List (List UInt8))))) ∧ ((saysW a2_key a3_s).fst = true → ((0 : Int) ≤ (0 : Int) ∧ (0 : Int) < (a3_s.snd.length : Int)) ∧ (ix a3_s.snd (0 : Int)).snd.fst.snd.length ≤ (140737488355328 : Nat) ∧ (Ty.byte.kd.sl.wf (ix a3_s.snd (0 : Int)).snd.fst.snd → Q (ix a3_s.snd (0 : Int)).snd.fst.snd true (0 : Int) (bookOf x6 (5 : Int) (numB a3_s.fst.toNat :: x7 :: ([] : List (List UInt8)))))))))
noncomputable def kLook_C : Ctr := ⟨[.bk 146 true, .v (.arr 32 .byte), .v (.sl .byte), .v (.pr (.int .i64) (.sl (.pr (.int .i64) (.pr (.pr (.sl .byte) (.sl .byte)) (.sl (.arr 32 .byte))))))], [.v (.sl .byte), .v .bool, .v (.int .i64)], some (fun a => (fun (a0_k : BookA) (a1_root : List UInt8) (a2_key : List UInt8) (a3_s : Int × List (Int × ((List UInt8) × List UInt8) × List (List UInt8))) => ((∀ x ∈ a3_s.2, (x.2.1.1.length + x.2.1.2.length ≤ 70368744177664 ∧ x.2.2.length ≤ 65536)) ∧ bookUpto a0_k 300000 : Prop)) a.1 a.2.1 a.2.2.1 a.2.2.2.1), fun a => (fun (a0_k : BookA) (a1_root : List UInt8) (a2_key : List UInt8) (a3_s : Int × List (Int × ((List UInt8) × List UInt8) × List (List UInt8))) => (((lookV a1_root a2_key a3_s), (lookT a1_root a2_key a3_s), (lookE a1_root a2_key a3_s), ()), ((lookBk a0_k a2_key a3_s), ()))) a.1 a.2.1 a.2.2.1 a.2.2.2.1⟩
noncomputable def kLook_X : Fx := ⟨seat, some bkT, fns, [(77, ksays_C), (58, RootN_C), (58, Root_C), (79, kleaf_C), (78, Lead_C), (80, kwhole_C), (69, Clone_C)], [], [(8, [0, 3], [])], [(10, [0], [.o 0 3, .o 1 3, .o 2 3, .o 3 3, .o 4 3, .o 5 3, .o 6 3, .o 7 3, .o 9 3, .o 10 3, .par [8, 11, 12, 13, 14, 15] (.alt 8 1 (.alt 11 1 (.one 12 3 (.one 13 3 (.one 14 3 (.one 15 1 .fin)))) (.alt 15 1 (.one 11 1 (.one 12 3 (.one 13 3 (.one 14 3 .fin)))) .fin)) (.alt 15 1 (.one 8 1 (.one 11 1 (.one 12 3 (.one 13 3 (.one 14 3 .fin))))) .fin)), .o 16 1, .o 17 3]), (15, [0], [.o 0 2, .o 1 2, .o 2 2, .o 3 2, .o 5 3, .o 4 1, .o 6 3, .o 7 3])]⟩
def kLook_VC (a0_k : BookA) (a1_root : List UInt8) (a2_key : List UInt8) (a3_s : Int × List (Int × ((List UInt8) × List UInt8) × List (List UInt8))) (Q : (List UInt8) → Bool → Int → BookA → Prop) : Prop :=
  (¬(saysW a2_key a3_s).snd = true → Q ([] : List UInt8) false (10 : Int) a0_k) ∧ ((saysW a2_key a3_s).snd = true → (a3_s.fst < (0 : Int) → Q ([] : List UInt8) false (10 : Int) a0_k) ∧ (¬a3_s.fst < (0 : Int) → (a3_s.fst = (0 : Int) → (([] : List (List UInt8)).length ≤ (1048576 : Nat) ∧ bookUpto a0_k ([] : List (List UInt8)).length) ∧ ((Ty.arr (32 : Nat) Ty.byte).kd.wf (rootS ([] : List (List UInt8))) → ∃ (x0 : List UInt8 → Bool → Int → Int → BookA → List UInt8 → Prop), ∃ (x1 : List UInt8 → Bool → Int → Int → BookA → List UInt8 → Nat), x0 ([] : List UInt8) false (0 : Int) (0 : Int) (rootBk a0_k ([] : List (List UInt8))) (rootS ([] : List (List UInt8))) ∧ ∀ (x2 : List UInt8) (x3 : Bool) (x4 x5 : Int) (x6 : BookA) (x7 : List UInt8), x0 x2 x3 x4 x5 x6 x7 → Ty.byte.kd.sl.wf x2 → (Kd.int IntKind.i64).wf x4 → (Kd.int IntKind.i64).wf x5 → (Ty.arr (32 : Nat) Ty.byte).kd.wf x7 → (kLook_K2 a0_k a1_root a2_key a3_s Q x0 x1 x2 x3 x4 x5 x6 x7) ∧ (kLook_K3 a0_k a1_root a2_key a3_s Q x5 x6 x7))) ∧ (¬a3_s.fst = (0 : Int) → ∃ (x0 : List UInt8 → Bool → Int → Int → BookA → List UInt8 → Prop), ∃ (x1 : List UInt8 → Bool → Int → Int → BookA → List UInt8 → Nat), x0 ([] : List UInt8) false (0 : Int) (0 : Int) a0_k (Ty.arr (32 : Nat) Ty.byte).kd.z ∧ ∀ (x2 : List UInt8) (x3 : Bool) (x4 x5 : Int) (x6 : BookA) (x7 : List UInt8), x0 x2 x3 x4 x5 x6 x7 → Ty.byte.kd.sl.wf x2 → (Kd.int IntKind.i64).wf x4 → (Kd.int IntKind.i64).wf x5 → (Ty.arr (32 : Nat) Ty.byte).kd.wf x7 → (kLook_K2 a0_k a1_root a2_key a3_s Q x0 x1 x2 x3 x4 x5 x6 x7) ∧ (kLook_K3 a0_k a1_root a2_key a3_s Q x5 x6 x7))))
theorem kLook_ok {a0_k : BookA} {a1_root : List UInt8} {a2_key : List UInt8} {a3_s : Int × List (Int × ((List UInt8) × List UInt8) × List (List UInt8))} (w_0 : (Ty.kd (.arr 32 .byte)).wf a1_root) (w_1 : (Ty.kd (.sl .byte)).wf a2_key) (w_2 : (Ty.kd (.pr (.int .i64) (.sl (.pr (.int .i64) (.pr (.pr (.sl .byte) (.sl .byte)) (.sl (.arr 32 .byte))))))).wf a3_s) (hp : (∀ x ∈ a3_s.2, (x.2.1.1.length + x.2.1.2.length ≤ 70368744177664 ∧ x.2.2.length ≤ 65536)) ∧ bookUpto a0_k 300000) : kLook_VC a0_k a1_root a2_key a3_s (fun o0 o1 o2 o3 => o0 = (lookV a1_root a2_key a3_s) ∧ o1 = (lookT a1_root a2_key a3_s) ∧ o2 = (lookE a1_root a2_key a3_s) ∧ o3 = (lookBk a0_k a2_key a3_s)) := by
  obtain ⟨n, l⟩ := a3_s
  obtain ⟨hs, hu0⟩ := hp
  have hs : ∀ x ∈ l, x.2.1.1.length + x.2.1.2.length ≤ 70368744177664 ∧ x.2.2.length ≤ 65536 := hs
  have hwn : (Kd.int .i64).wf n := w_2.1
  unfold kLook_VC
  refine ⟨fun h => ?_, fun hok => ⟨fun hn => ?_, fun hn => ?_⟩⟩
  · have e : lookO a1_root a2_key (n, l) = none := if_neg (fun hc => h (by rw [saysW_eq hc.2 hwn]; exact hc.1))
    have e2 : lookBk a0_k a2_key (n, l) = a0_k := if_neg (fun hc => h (by rw [saysW_eq hc.2 hwn]; exact hc.1))
    unfold lookV lookT lookE
    rw [e, e2]
    exact ⟨rfl, rfl, rfl, rfl⟩
  · have e : lookO a1_root a2_key (n, l) = none := if_neg (fun hc => by have h1 : 0 ≤ n := hc.2; have hn : n < 0 := hn; omega)
    have e2 : lookBk a0_k a2_key (n, l) = a0_k := if_neg (fun hc => by have h1 : 0 ≤ n := hc.2; have hn : n < 0 := hn; omega)
    unfold lookV lookT lookE
    rw [e, e2]
    exact ⟨rfl, rfl, rfl, rfl⟩
  have hn0 : 0 ≤ n := by have hn : ¬ n < 0 := hn; omega
  have eW : saysW a2_key (n, l) = saysK a2_key (n, l) := saysW_eq hn0 hwn
  rw [eW] at hok
  have hsay : (saysK a2_key (n, l)).2 = true ∧ 0 ≤ n := ⟨hok, hn0⟩
  have hl2 : l.length ≤ 2 := by
    rcases l with _ | ⟨a, _ | ⟨b, _ | ⟨c, l⟩⟩⟩
    · simp
    · simp
    · simp
    · cases hok
  have eO : lookO a1_root a2_key (n, l) = (match goK n true l (begK n) with
      | some t => if wholeK n t = a1_root then some (saysK a2_key (n, l)).1 else none
      | none => none) := if_pos hsay
  have eB : lookBk a0_k a2_key (n, l) = (match goK n true l (begK n) with
      | some t => bookOf (goBk n true l (begK n) (begBk n a0_k)) 5 [numB n.toNat, t]
      | none => goBk n true l (begK n) (begBk n a0_k)) := if_pos hsay
  have fail : goK n true l (begK n) = none → ([] = lookV a1_root a2_key (n, l) ∧ false = lookT a1_root a2_key (n, l) ∧ (10 : Int) = lookE a1_root a2_key (n, l) ∧ goBk n true l (begK n) (begBk n a0_k) = lookBk a0_k a2_key (n, l)) := fun hg => by
    rw [hg] at eO eB
    unfold lookV lookT lookE
    rw [eO, eB]
    exact ⟨rfl, rfl, rfl, rfl⟩
  have step : ∀ (x0 : List UInt8 → Bool → Int → Int → BookA → List UInt8 → Prop) (x1 : List UInt8 → Bool → Int → Int → BookA → List UInt8 → Nat),
      (x0 = fun x2 x3 x4 x5 x6 x7 => ∃ j : Nat, x5 = (j : Int) ∧ j ≤ l.length ∧ goK n (decide (j = 0)) (l.drop j) x7 = goK n true l (begK n) ∧ goBk n (decide (j = 0)) (l.drop j) x7 x6 = goBk n true l (begK n) (begBk n a0_k) ∧ bookUpto x6 (70000 * (3 - j))) →
      (x1 = fun _ _ _ x5 _ _ => ((l.length : Int) - x5).toNat) → ∀ (x2 : List UInt8) (x3 : Bool) (x4 x5 : Int) (x6 : BookA) (x7 : List UInt8), x0 x2 x3 x4 x5 x6 x7 → kLook_K2 a0_k a1_root a2_key (n, l) (fun o0 o1 o2 o3 => o0 = (lookV a1_root a2_key (n, l)) ∧ o1 = (lookT a1_root a2_key (n, l)) ∧ o2 = (lookE a1_root a2_key (n, l)) ∧ o3 = (lookBk a0_k a2_key (n, l))) x0 x1 x2 x3 x4 x5 x6 x7 ∧ kLook_K3 a0_k a1_root a2_key (n, l) (fun o0 o1 o2 o3 => o0 = (lookV a1_root a2_key (n, l)) ∧ o1 = (lookT a1_root a2_key (n, l)) ∧ o2 = (lookE a1_root a2_key (n, l)) ∧ o3 = (lookBk a0_k a2_key (n, l))) x5 x6 x7 := by
    intro x0 x1 e0 e1 x2 x3 x4 x5 x6 x7 hI
    rw [e0] at hI
    obtain ⟨j, rfl, hj, hg, hb, hu⟩ := hI
    refine ⟨?_, ?_⟩
    · unfold kLook_K2
      intro hlt
      have hj' : j < l.length := by have hlt : (j : Int) < (l.length : Int) := hlt; omega
      have eix : ix l (j : Int) = l[j] := ixN hj'
      have hsz := hs _ (List.getElem_mem hj')
      rw [List.drop_eq_getElem_cons hj'] at hg hb
      have h70 : bookUpto x6 ((70000 * (3 - (j + 1)) + l[j].2.2.length) + 1) := hu.le (by omega)
      have hu1 := h70.of (4 : Int) [l[j].2.1.1, l[j].2.1.2]
      have k1 : kLook_K1 a0_k a1_root a2_key (n, l) (fun o0 o1 o2 o3 => o0 = (lookV a1_root a2_key (n, l)) ∧ o1 = (lookT a1_root a2_key (n, l)) ∧ o2 = (lookE a1_root a2_key (n, l)) ∧ o3 = (lookBk a0_k a2_key (n, l))) x0 x1 x2 x3 x4 (j : Int) x6 x7 := by
        unfold kLook_K1
        simp only [eix]
        intro _ _
        have hgo : goK n (decide (j = 0)) (l[j] :: l.drop (j + 1)) x7 = if leadB n l[j].1 l[j].2.2 = true ∧ (decide (j = 0) = true ∨ leadS n l[j].1 (leafK l[j].2.1) l[j].2.2 = x7) then goK n false (l.drop (j + 1)) (leadS n l[j].1 (leafK l[j].2.1) l[j].2.2) else none := rfl
        have hbo : goBk n (decide (j = 0)) (l[j] :: l.drop (j + 1)) x7 x6 = if leadB n l[j].1 l[j].2.2 = true ∧ (decide (j = 0) = true ∨ leadS n l[j].1 (leafK l[j].2.1) l[j].2.2 = x7) then goBk n false (l.drop (j + 1)) (leadS n l[j].1 (leafK l[j].2.1) l[j].2.2) (leadK (bookOf x6 4 [l[j].2.1.1, l[j].2.1.2]) n l[j].1 (leafK l[j].2.1) l[j].2.2) else leadK (bookOf x6 4 [l[j].2.1.1, l[j].2.1.2]) n l[j].1 (leafK l[j].2.1) l[j].2.2 := rfl
        have bad : ¬ (leadB n l[j].1 l[j].2.2 = true ∧ (decide (j = 0) = true ∨ leadS n l[j].1 (leafK l[j].2.1) l[j].2.2 = x7)) → ([] = lookV a1_root a2_key (n, l) ∧ false = lookT a1_root a2_key (n, l) ∧ (10 : Int) = lookE a1_root a2_key (n, l) ∧ leadK (bookOf x6 4 [l[j].2.1.1, l[j].2.1.2]) n l[j].1 (leafK l[j].2.1) l[j].2.2 = lookBk a0_k a2_key (n, l)) := fun hc => by
          rw [hgo, if_neg hc] at hg
          rw [hbo, if_neg hc] at hb
          rw [hb]
          exact fail hg.symm
        have good : (leadB n l[j].1 l[j].2.2 = true ∧ (decide (j = 0) = true ∨ leadS n l[j].1 (leafK l[j].2.1) l[j].2.2 = x7)) → (j : Int) < 9223372036854775807 ∧ x0 x2 x3 x4 ((j : Int) + 1) (leadK (bookOf x6 4 [l[j].2.1.1, l[j].2.1.2]) n l[j].1 (leafK l[j].2.1) l[j].2.2) (leadS n l[j].1 (leafK l[j].2.1) l[j].2.2) ∧ x1 x2 x3 x4 ((j : Int) + 1) (leadK (bookOf x6 4 [l[j].2.1.1, l[j].2.1.2]) n l[j].1 (leafK l[j].2.1) l[j].2.2) (leadS n l[j].1 (leafK l[j].2.1) l[j].2.2) < x1 x2 x3 x4 (j : Int) x6 x7 := fun hc => by
          rw [hgo, if_pos hc] at hg
          rw [hbo, if_pos hc] at hb
          rw [e0, e1]
          refine ⟨by omega, ⟨j + 1, rfl, hj', hg, hb, ?_⟩, by dsimp only; omega⟩
          unfold leadK
          rw [if_pos hc.1]
          exact bookUpto.foldK (n := 70000 * (3 - (j + 1))) hu1
        have el : leadE n l[j].1 l[j].2.2 = if leadB n l[j].1 l[j].2.2 = true then 0 else 10 := rfl
        rw [el]
        by_cases hB : leadB n l[j].1 l[j].2.2 = true
        · rw [if_pos hB]
          refine ⟨fun h => absurd rfl h, fun _ => ⟨fun hp => ⟨fun hne => bad ?_, fun he => good ⟨hB, .inr (Classical.not_not.1 he)⟩⟩, fun hp => good ⟨hB, .inl (decide_eq_true (by omega))⟩⟩⟩
          rintro ⟨_, h | h⟩
          · have := of_decide_eq_true h; omega
          · exact hne h
        · rw [if_neg hB]
          exact ⟨fun _ => bad fun hc => hB hc.1, fun h => absurd (by decide : (10 : Int) ≠ 0) h⟩
      have b : (0 : Int) ≤ (j : Int) ∧ (j : Int) < ((l.length : Nat) : Int) := ⟨by omega, by omega⟩
      have r6 : bookRoom x6 := h70.room
      have up : bookUpto (bookOf x6 4 [l[j].2.1.1, l[j].2.1.2]) l[j].2.2.length := hu1.le (by omega)
      simp only [eix]
      have p16 : l[j].2.2.length ≤ 1048576 := by omega
      exact ⟨b, ⟨⟨hsz.1, r6⟩, fun _ => ⟨⟨⟨p16, up⟩, k1⟩, ⟨⟨p16, up⟩, k1⟩, trivial⟩⟩, ⟨⟨hsz.1, r6⟩, fun _ => ⟨⟨p16, up⟩, k1⟩⟩, trivial⟩
    · unfold kLook_K3
      intro hge
      obtain rfl : j = l.length := by have hge : ¬ (j : Int) < (l.length : Int) := hge; omega
      rw [List.drop_length] at hg hb
      have hg : some x7 = goK n true l (begK n) := hg
      have hb : x6 = goBk n true l (begK n) (begBk n a0_k) := hb
      rw [← hg, ← hb] at eB
      rw [← hg] at eO
      have eO : lookO a1_root a2_key (n, l) = if wholeK n x7 = a1_root then some (saysK a2_key (n, l)).1 else none := eO
      have eB : lookBk a0_k a2_key (n, l) = bookOf x6 5 [numB n.toNat, x7] := eB
      rw [eW]
      refine ⟨⟨hn0, (hu.le (by omega) : bookUpto x6 0).room⟩, fun _ => ⟨fun hne => ?_, fun he => ⟨fun hf => ?_, fun ht => ⟨⟨by omega, ?_⟩, ?_, fun _ => ?_⟩⟩⟩⟩
      · rw [if_neg hne] at eO
        unfold lookV lookT lookE
        rw [eO, eB]
        exact ⟨rfl, rfl, rfl, rfl⟩
      · rw [if_pos (Classical.not_not.1 he), Bool.eq_false_iff.2 hf] at eO
        unfold lookV lookT lookE
        rw [eO, eB]
        exact ⟨rfl, rfl, rfl, rfl⟩
      · rcases l with _ | ⟨a, l⟩
        · cases ht
        · simp
      · have hp : 0 < l.length := by
          rcases l with _ | ⟨a, l⟩
          · cases ht
          · simp
        have := hs _ (List.getElem_mem hp)
        rw [show ix (n, l).2 (0 : Int) = l[0] from ixN (j := 0) hp]
        omega
      · rw [if_pos (Classical.not_not.1 he), ht] at eO
        unfold lookV lookT lookE
        rw [eO, eB]
        exact ⟨rfl, rfl, rfl, rfl⟩
  refine ⟨fun h0 => ⟨⟨by simp, hu0.le (by simp)⟩, fun _ => ⟨_, _, ?_, fun x2 x3 x4 x5 x6 x7 hI _ _ _ _ => step _ _ rfl rfl x2 x3 x4 x5 x6 x7 hI⟩⟩, fun h0 => ⟨_, _, ?_, fun x2 x3 x4 x5 x6 x7 hI _ _ _ _ => step _ _ rfl rfl x2 x3 x4 x5 x6 x7 hI⟩⟩
  · have h0 : n = 0 := h0
    have e1 : begK n = rootS [] := if_pos h0
    have e2 : begBk n a0_k = rootBk a0_k [] := (if_pos h0).trans (rootBk_nil _).symm
    refine ⟨0, rfl, Nat.zero_le _, by rw [e1]; rfl, by rw [e1, e2]; rfl, ?_⟩
    rw [rootBk_nil]
    exact (hu0.le (by omega) : bookUpto a0_k (210000 + 1)).of _ _
  · have h0 : ¬ n = 0 := h0
    have e1 : begK n = sm0L := if_neg h0
    have e2 : begBk n a0_k = a0_k := if_neg h0
    exact ⟨0, rfl, Nat.zero_le _, by rw [e1]; rfl, by rw [e1, e2]; rfl, hu0.le (by omega)⟩
theorem kLook_eq : (∀ a, kLook_C.pre a → PM.wfP kLook_C.pm a (fvc kLook_X 200 31 kLook_C a (eqO kLook_C a))) = (∀ a : BookA × (List UInt8) × (List UInt8) × (Int × List (Int × ((List UInt8) × List UInt8) × List (List UInt8))) × Unit, ((∀ x ∈ (a.2.2.2.1).2, (x.2.1.1.length + x.2.1.2.length ≤ 70368744177664 ∧ x.2.2.length ≤ 65536)) ∧ bookUpto (a.1) 300000) → (Ty.kd (.arr 32 .byte)).wf a.2.1 → (Ty.kd (.sl .byte)).wf a.2.2.1 → (Ty.kd (.pr (.int .i64) (.sl (.pr (.int .i64) (.pr (.pr (.sl .byte) (.sl .byte)) (.sl (.arr 32 .byte))))))).wf a.2.2.2.1 → kLook_VC a.1 a.2.1 a.2.2.1 a.2.2.2.1 (fun o0 o1 o2 o3 => o0 = (lookV (a.2.1) (a.2.2.1) (a.2.2.2.1)) ∧ o1 = (lookT (a.2.1) (a.2.2.1) (a.2.2.2.1)) ∧ o2 = (lookE (a.2.1) (a.2.2.1) (a.2.2.2.1)) ∧ o3 = (lookBk (a.1) (a.2.2.1) (a.2.2.2.1)))) := by kernel_rfl
theorem kLook_k : kLook_C.valid Try.prog 31 := ctr_of (X := kLook_X) (ok_of seat_ok (fun b hb => by cases hb; exact bkT_ok) fns_ok ⟨ksays_k, RootN_k, Root_k, kleaf_k, Lead_k, kwhole_k, Clone_k, trivial⟩) 200 (kLook_eq.mpr fun a hp w_0 w_1 w_2 => @kLook_ok a.1 a.2.1 a.2.2.1 a.2.2.2.1 w_0 w_1 w_2 hp)
noncomputable def kRootN_C : Ctr := ⟨[.nil, .v (.sl (.pr (.sl .byte) (.sl .byte)))], [.v (.arr 32 .byte)], some (fun a => (fun (a1_l : List ((List UInt8) × List UInt8)) => (a1_l.length ≤ 65536 ∧ (∀ p ∈ a1_l, p.1.length + p.2.length ≤ 70368744177664) : Prop)) a.2.1), fun a => (fun (a1_l : List ((List UInt8) × List UInt8)) => (((rootK a1_l), ()), (()))) a.2.1⟩
theorem kRootN_k : kRootN_C.valid Try.prog 32 :=
  nil_v kRoot_k (fun _ => rfl) (fun a θ θ' n n' K vs h => by
    obtain ⟨v0, vs, rfl, h0, h⟩ := h
    exact ⟨v0, _, rfl, SVal.of_rel (t := .sl (.pr (.sl .byte) (.sl .byte))) (rel_out (t := .sl (.pr (.sl .byte) (.sl .byte))) h0 rfl), h⟩) (fun _ => rfl) (fun a hp => ⟨hp, fun y h => by cases h⟩) (fun a _ => rfl)
end Go.Proofs.Ytmjjkpiglbpkhaa

/-
  ENGINE 30: a call with a nil book, out of the call with any; more results than one.
-/
set_option linter.unusedVariables false
namespace Go.Inc
open Go Go.RowKit

section
variable {P : Program} {f : FuncId} {pm : List PM} {rm : List RM} {e : Nat}
theorem nil_vs {u : Bool} {pr : Option (PM.denL (.bk e u :: pm) → Prop)} {out : PM.denL (.bk e u :: pm) → RM.denL rm × PM.MD (.bk e u :: pm)} {pr' : Option (PM.denL (.nil :: pm) → Prop)} {out' : PM.denL (.nil :: pm) → RM.denL rm × PM.MD (.nil :: pm)}
    (h : Ctr.valid P f ⟨.bk e u :: pm, rm, pr, out⟩) (h0 : ∀ a, PM.resL pm a = []) (h1 : ∀ x, RM.resL rm x = []) (hs : ∀ (a : PM.denL pm) (θ θ' : Th) (n n' : Nat) (K : Ghost) (vs : List Value), SVal.relL θ n K (PM.svL pm a n) vs → SVal.relL θ' n' K (PM.svL pm a n') vs)
    (ho : ∀ (x : RM.denL rm) (θ θ' : Th) (n n' m m' : Nat) (K : Ghost) (vs : List Value), SVal.relL θ n K (RM.svL rm x m) vs → SVal.relL θ' n' K (RM.svL rm x m') vs)
    (hp : ∀ a, Ctr.pre ⟨.nil :: pm, rm, pr', out'⟩ a → Ctr.pre ⟨.bk e u :: pm, rm, pr, out⟩ (none, a.2)) (hout : ∀ a, Ctr.pre ⟨.nil :: pm, rm, pr', out'⟩ a → (out' a).1 = (out (none, a.2)).1) : Ctr.valid P f ⟨.nil :: pm, rm, pr', out'⟩ := by
  refine br_v (C := ⟨.nil :: pm, rm, pr', out'⟩) (fun a => ?_) h1 fun a hpre θ vs w K hM hv => ?_
  · show PM.res .nil a.1 ++ PM.resL pm a.2 = []
    rw [h0]
    rfl
  obtain ⟨v, vs, rfl, h2, h3⟩ := hv
  have h2' : v = .pointer none := h2
  subst h2'
  have hres : PM.resL (.bk e u :: pm) (none, a.2) = [(.bk e none, u)] := by
    show PM.res (.bk e u) none ++ PM.resL pm a.2 = _
    rw [h0]
    rfl
  have h4 := h (none, a.2) (hp a hpre) ⟨fun _ => .pointer none, fun _ => NX, fun _ => ([], [])⟩ (.pointer none :: vs) w K hM ⟨by
      rw [hres]
      exact ⟨_, vs, rfl, ⟨Nat.zero_lt_one, rfl⟩, hs _ _ _ _ _ _ _ h3⟩, fun r R m hr => by
      rw [hres] at hr
      cases r with
      | succ r => simp at hr
      | zero =>
        simp at hr
        obtain ⟨rfl, rfl⟩ := hr
        exact (BookE.nil : BookE e w K (.pointer none) NX none), fun r r' h1 h2 hne => by
      rw [hres] at h1 h2
      simp at h1 h2
      omega⟩
  refine h4.mono ?_
  rintro ed w' ⟨v, K', θ', rfl, hO⟩
  obtain ⟨us, rfl, hus⟩ := hO.val
  refine ⟨K', us, rfl, hO.ext.weak ?_, hO.mod, ?_⟩
  · rintro g _ ⟨r, R, hr, hf⟩
    exact hf
  · show SVal.relL θ 0 K' (RM.svL rm (out' a).1 0) us
    rw [hout a hpre]
    exact ho _ _ _ _ _ _ _ _ _ hus
end
end Go.Inc

/- Each function that stands here: what it is asked and leaves (_C), its condition (_VC), that it holds (_ok), its contract (_c). -/
set_option linter.unusedVariables false
set_option maxRecDepth 100000
set_option maxHeartbeats 20000000
namespace Go.Proofs.Ytmjjkpiglbpkhaa
open Go Go.RowKit Go.Inc
noncomputable def kLookN_C : Ctr := ⟨[.nil, .v (.arr 32 .byte), .v (.sl .byte), .v (.pr (.int .i64) (.sl (.pr (.int .i64) (.pr (.pr (.sl .byte) (.sl .byte)) (.sl (.arr 32 .byte))))))], [.v (.sl .byte), .v .bool, .v (.int .i64)], some (fun a => (fun (a1_root : List UInt8) (a2_key : List UInt8) (a3_s : Int × List (Int × ((List UInt8) × List UInt8) × List (List UInt8))) => (∀ x ∈ a3_s.2, (x.2.1.1.length + x.2.1.2.length ≤ 70368744177664 ∧ x.2.2.length ≤ 65536) : Prop)) a.2.1 a.2.2.1 a.2.2.2.1), fun a => (fun (a1_root : List UInt8) (a2_key : List UInt8) (a3_s : Int × List (Int × ((List UInt8) × List UInt8) × List (List UInt8))) => (((lookV a1_root a2_key a3_s), (lookT a1_root a2_key a3_s), (lookE a1_root a2_key a3_s), ()), (()))) a.2.1 a.2.2.1 a.2.2.2.1⟩
theorem kLookN_k : kLookN_C.valid Try.prog 31 :=
  nil_vs kLook_k (fun _ => rfl) (fun _ => rfl) (fun a θ θ' n n' K vs h => by
    obtain ⟨v0, vs, rfl, h0, ⟨v1, vs, rfl, h1, ⟨v2, vs, rfl, h2, h⟩⟩⟩ := h
    exact ⟨v0, _, rfl, SVal.of_rel (t := .arr 32 .byte) (rel_out (t := .arr 32 .byte) h0 rfl), ⟨v1, _, rfl, SVal.of_rel (t := .sl .byte) (rel_out (t := .sl .byte) h1 rfl), ⟨v2, _, rfl, SVal.of_rel (t := .pr (.int .i64) (.sl (.pr (.int .i64) (.pr (.pr (.sl .byte) (.sl .byte)) (.sl (.arr 32 .byte)))))) (rel_out (t := .pr (.int .i64) (.sl (.pr (.int .i64) (.pr (.pr (.sl .byte) (.sl .byte)) (.sl (.arr 32 .byte)))))) h2 rfl), h⟩⟩⟩) (fun x θ θ' n n' m m' K vs h => by
    obtain ⟨v0, vs, rfl, h0, ⟨v1, vs, rfl, h1, ⟨v2, vs, rfl, h2, h⟩⟩⟩ := h
    exact ⟨v0, _, rfl, SVal.of_rel (t := .sl .byte) (rel_out (t := .sl .byte) h0 rfl), ⟨v1, _, rfl, SVal.of_rel (t := .bool) (rel_out (t := .bool) h1 rfl), ⟨v2, _, rfl, SVal.of_rel (t := .int .i64) (rel_out (t := .int .i64) h2 rfl), h⟩⟩⟩) (fun a hp => ⟨hp, fun y h => by cases h⟩) (fun a _ => rfl)
end Go.Proofs.Ytmjjkpiglbpkhaa
