/- Each function that stands here: what its call must answer for (_VC), that it does (_ok), the walk through its code (_walk), its contract (_c). -/
import Derived.Test.YtfbhiilolpamaaaS3
import Derived.Test.YtfbhiilolpamaaaChecked
set_option linter.unusedVariables false
set_option maxRecDepth 100000
set_option maxHeartbeats 2000000
namespace Go.Proofs.Ytfbhiilolpamaaa
open Go Go.RowKit Go.Inc
abbrev kd_l_Sseal_note : Kd (List ((List UInt8) × (List UInt8))) := (Kd.sl kd_Sseal_note)
theorem ty90 : TyOk Try.prog 90 kd_Sseal_note 56 := ⟨⟨Try.t90, _, Try.type90, rfl, rfl, rfl, rfl, rfl⟩, ⟨_, Try.underlying90, rfl⟩⟩
def IndexNote_VC (a0_s : (List ((List UInt8) × (List UInt8)))) (a1_f_0 : (List UInt8)) (a1_f_1 : (List UInt8)) (Q : Int → Prop) : Prop :=
  ∃ (I4 : Int → Int → Prop) (μ4 : Int → Int → Nat), I4 0 0 ∧ ∀ (i4 : Int) (i4' : Int), I4 i4 i4' → ((Kd.int .i64).wf i4) → ((Kd.int .i64).wf i4') → (((i4' < (a0_s.length : Int)) → (0 ≤ i4' ∧ i4' < (a0_s.length : Int)) ∧ ((((ix a0_s i4').1 = a1_f_0 ∧ (ix a0_s i4').2 = a1_f_1) → Q i4') ∧ ((¬ ((ix a0_s i4').1 = a1_f_0 ∧ (ix a0_s i4').2 = a1_f_1)) → I4 i4 (i4' + 1) ∧ μ4 i4 (i4' + 1) < μ4 i4 i4'))) ∧ ((¬ (i4' < (a0_s.length : Int))) → Q (-1)))
theorem IndexNote_ok {a0_s : (List ((List UInt8) × (List UInt8)))} {a1_f_0 : (List UInt8)} {a1_f_1 : (List UInt8)} (w_0 : kd_l_Sseal_note.wf a0_s) : IndexNote_VC a0_s a1_f_0 a1_f_1 (fun o0 => o0 = (noteIx a1_f_0 a1_f_1 a0_s 0)) := by
  unfold IndexNote_VC
  refine ⟨fun _ i => ∃ j : Nat, i = (j : Int) ∧ j ≤ a0_s.length ∧ noteIx a1_f_0 a1_f_1 a0_s 0 = noteIx a1_f_0 a1_f_1 (a0_s.drop j) (j : Int), fun _ i => a0_s.length - i.toNat, ⟨0, rfl, by omega, by simp⟩, ?_⟩
  rintro _ i ⟨j, rfl, hj, he⟩ _ _
  refine ⟨fun hlt => ⟨⟨by omega, hlt⟩, fun h => ?_, fun h => ⟨⟨j + 1, by omega, by omega, ?_⟩, ?_⟩⟩, fun hge => ?_⟩
  · rw [noteIx_drop hlt, if_pos (h)] at he
    exact he.symm
  · rw [noteIx_drop hlt, if_neg (h)] at he
    rw [he]
    congr 1
  · show a0_s.length - ((j : Int) + 1).toNat < a0_s.length - (j : Int).toNat
    omega
  · have : j = a0_s.length := by omega
    subst this
    rw [List.drop_length] at he
    exact he.symm

theorem IndexNote_walk {w0 : World} {K0 : Ghost} {a0_s_v : Value} {a0_s : (List ((List UInt8) × (List UInt8)))} {a1_f_0_b : Nat} {a1_f_0_pre a1_f_0_post : List Value} {a1_f_0 : (List UInt8)} {a1_f_1_b : Nat} {a1_f_1_pre a1_f_1_post : List Value} {a1_f_1 : (List UInt8)} {Q : Int → Prop} (hM0 : Models w0 K0) (h_a0_s : kd_l_Sseal_note.V K0 a0_s a0_s_v) (h_a1_f_0_B : Bx kd_a32_u8 w0 K0 a1_f_0_b a1_f_0_pre a1_f_0_post a1_f_0) (h_a1_f_1_B : Bx kd_l_u8 w0 K0 a1_f_1_b a1_f_1_pre a1_f_1_post a1_f_1) (hsp2_3 : ¬ (a1_f_0_b = a1_f_1_b)) (h : IndexNote_VC a0_s a1_f_0 a1_f_1 Q) : Calls Try.prog 103 #[a0_s_v, (.func (.func 90) #[] #[(.pointer (some ⟨a1_f_0_b, a1_f_0_pre.length, none⟩)), (.pointer (some ⟨a1_f_1_b, a1_f_1_pre.length, none⟩))])] w0 (fun e w' => ∃ (K' : Ghost) (r0 : Value) (o0 : Int), e = .returned r0 ∧ Q o0 ∧ Ext NX w0 K0 w' K' ∧ Models w' K' ∧ (Kd.int .i64).V K' o0 r0) := by
  unfold IndexNote_VC at h
  have hE0 : Ext NX w0 K0 w0 K0 := Ext.refl _ _ _
  refine calls_gen fun R hR => ?_
  refine calls_env (args := [a0_s_v, (.func (.func 90) #[] #[(.pointer (some ⟨a1_f_0_b, a1_f_0_pre.length, none⟩)), (.pointer (some ⟨a1_f_1_b, a1_f_1_pre.length, none⟩))])]) Try.func103 rfl (Nat.le_of_ble_eq_true rfl) ?_
  refine WP_seq ?_
  refine WP_region ?_
  refine WL_pure (.int .i64 0) (R_as rfl) rfl rfl ?_
  refine WL_nil ?_
  refine WP_seq ?_
  refine WP_seq ?_
  refine WP_region ?_
  refine WL_pure a0_s_v (R_mv rfl) rfl rfl ?_
  refine WL_pure (.int .i64 (a0_s.length : Int)) (R_len rfl h_a0_s Try.underlying27) rfl rfl ?_
  refine WL_pure (.int .i64 0) (R_mv rfl) rfl rfl ?_
  refine WL_nil ?_
  refine WP_block ?_
  obtain ⟨I4, μ4, h0, h⟩ := h
  refine WP_loopE (ι := Int × Int) [4, 5, 8, 9, 10, 11, 12, 13, 14, 15, 16, 17, 18] (fun s l w => ∃ K, I4 s.1 s.2 ∧ l = [(4, (.int .i64 s.1)), (8, (.int .i64 s.2))] ∧ Ext NX w0 K0 w K ∧ Models w K ∧ (Kd.int .i64).wf s.1 ∧ (Kd.int .i64).wf s.2) (fun s => μ4 s.1 s.2) (0, 0) [(4, (.int .i64 0)), (8, (.int .i64 0))]
    ⟨K0, h0, rfl, Ext.refl _ _ _, hM0, (show (Kd.int .i64).wf 0 from by constructor <;> decide), (show (Kd.int .i64).wf 0 from by constructor <;> decide)⟩ (by repeat (first | exact trivial | refine ⟨rfl, ?_⟩)) ?_
  rintro ⟨i4, i4'⟩ l σ4 w5 ⟨K5, hI, rfl, hX5, hM5, hw4_4, hw4_8⟩
  dsimp only at hI hw4_4 hw4_8
  have hE5 := hE0.andN hX5
  have h := h i4 i4' hI hw4_4 hw4_8
  refine WP_seq ?_
  refine WP_region ?_
  refine WL_pure (.bool (decide (i4' < (a0_s.length : Int)))) (R_lss rfl rfl) rfl rfl ?_
  refine WL_nil ?_
  refine WP_seq ?_
  refine WP_cond (decide (i4' < (a0_s.length : Int))) rfl (fun hc6 => ?_) (fun hc6 => ?_)
  · have hd6 : i4' < (a0_s.length : Int) := dec_t hc6
    have h := h.1 hd6
    refine WP_skip ?_
    refine WP_seq ?_
    refine WP_block ?_
    refine WP_seq ?_
    refine WP_region ?_
    refine WL_pure (.int .i64 i4') (R_mv rfl) rfl rfl ?_
    refine WL_pure (.int .i64 i4') (R_as rfl) rfl rfl ?_
    refine WL_nil ?_
    refine WP_seq ?_
    refine WP_region ?_
    refine WL_pure (.func (.func 90) #[] #[(.pointer (some ⟨a1_f_0_b, a1_f_0_pre.length, none⟩)), (.pointer (some ⟨a1_f_1_b, a1_f_1_pre.length, none⟩))]) (R_mv rfl) rfl rfl ?_
    refine WL_pure a0_s_v (R_mv rfl) rfl rfl ?_
    refine WL_pure (.int .i64 i4') (R_mv rfl) rfl rfl ?_
    obtain ⟨hp8, h⟩ := h
    refine WL_P (S_ixs rfl (h_a0_s.mono hX5.le) rfl Try.underlying27 ty90 hp8.1 hp8.2) rfl rfl ?_
    rintro b7 o7 hP7
    refine WL_L hM5 (S_ld rfl ty90 hP7) rfl rfl ?_
    rintro v10 (hV10 : kd_Sseal_note.V _ (ix a0_s i4') _)
    have hR12 := (h_a1_f_0_B.extN hX5)
    have hR13 := (h_a1_f_1_B.extN hX5)
    refine WL_eff rfl rfl (St_call (R_callv rfl Try.call90 rfl) ((hasOne_c hM5 hV10 hR12 hR13 hsp2_3).mono ?_))
    rintro _ w14 ⟨K14, v14_0, rfl, hS14, hM14, hV14_0⟩
    refine ⟨v14_0, rfl, ?_⟩
    have hE14 := hE5.andN hS14
    obtain rfl := bool_form hV14_0
    refine WL_nil ?_
    refine WP_cond (decide ((ix a0_s i4').1 = a1_f_0 ∧ (ix a0_s i4').2 = a1_f_1)) rfl (fun hc15 => ?_) (fun hc15 => ?_)
    · have hd15 : (ix a0_s i4').1 = a1_f_0 ∧ (ix a0_s i4').2 = a1_f_1 := dec_t hc15
      have h := h.1 hd15
      refine WP_seq ?_
      refine WP_region ?_
      refine WL_pure (.int .i64 i4') (R_mv rfl) rfl rfl ?_
      refine WL_pure (.int .i64 i4') (R_as rfl) rfl rfl ?_
      refine WL_nil ?_
      refine WP_ret ?_
      exact endR_ret hR (v := (.int .i64 i4')) (resE_1 rfl rfl) ⟨K14, (.int .i64 i4'), i4', rfl, h, hE14, hM14, (int_V hw4_8)⟩
    · have hd15 : ¬ ((ix a0_s i4').1 = a1_f_0 ∧ (ix a0_s i4').2 = a1_f_1) := dec_f hc15
      have h := h.2 hd15
      refine WP_skip ?_
      refine WP_region ?_
      refine WL_pure (.int .i64 (i4' + 1)) (R_inc rfl rfl hw4_8 hd6 (len_wf (h_a0_s).wf.1)) rfl rfl ?_
      refine WL_pure (.int .i64 (i4' + 1)) (R_mv rfl) rfl rfl ?_
      refine WL_nil ?_
      refine BackQ.mk (i4, (i4' + 1)) [(4, (.int .i64 i4)), (8, (.int .i64 (i4' + 1)))] ?_ ?_ ?_ ?_
      rotate_left
      · exact h.2
      · repeat (first | exact Off.lay0 rfl | refine Off.updO ?_ rfl _ | refine Off.updN ?_ _ | refine Off.lay ?_ rfl)
      · repeat (first | exact trivial | refine ⟨rfl, ?_⟩)
      exact ⟨K14, h.1, rfl, (((Ext.refl _ _ _).andN hX5).andN hS14), hM14, hw4_4, (inc_wf hw4_8 hd6 (len_wf (h_a0_s).wf.1))⟩
  · have hd6 : ¬ (i4' < (a0_s.length : Int)) := dec_f hc6
    have h := h.2 hd6
    refine WP_exit ?_
    refine WP_seq ?_
    refine WP_region ?_
    refine WL_pure (.int .i64 (-1)) (R_as rfl) rfl rfl ?_
    refine WL_nil ?_
    refine WP_ret ?_
    exact endR_ret hR (v := (.int .i64 (-1))) (resE_1 rfl rfl) ⟨K5, (.int .i64 (-1)), (-1), rfl, h, hE5, hM5, (int_V (show (Kd.int .i64).wf (-1) from by constructor <;> decide))⟩
theorem IndexNote_c {w0 : World} {K0 : Ghost} {a0_s_v : Value} {a0_s : (List ((List UInt8) × (List UInt8)))} {a1_f_0_b : Nat} {a1_f_0_pre a1_f_0_post : List Value} {a1_f_0 : (List UInt8)} {a1_f_1_b : Nat} {a1_f_1_pre a1_f_1_post : List Value} {a1_f_1 : (List UInt8)} (hM0 : Models w0 K0) (h_a0_s : kd_l_Sseal_note.V K0 a0_s a0_s_v) (h_a1_f_0_B : Bx kd_a32_u8 w0 K0 a1_f_0_b a1_f_0_pre a1_f_0_post a1_f_0) (h_a1_f_1_B : Bx kd_l_u8 w0 K0 a1_f_1_b a1_f_1_pre a1_f_1_post a1_f_1) (hsp2_3 : ¬ (a1_f_0_b = a1_f_1_b)) : Calls Try.prog 103 #[a0_s_v, (.func (.func 90) #[] #[(.pointer (some ⟨a1_f_0_b, a1_f_0_pre.length, none⟩)), (.pointer (some ⟨a1_f_1_b, a1_f_1_pre.length, none⟩))])] w0 (fun e w' => ∃ (K' : Ghost) (r0 : Value), e = .returned r0 ∧ Ext NX w0 K0 w' K' ∧ Models w' K' ∧ (Kd.int .i64).V K' (noteIx a1_f_0 a1_f_1 a0_s 0) r0) := by
  refine (IndexNote_walk hM0 h_a0_s h_a1_f_0_B h_a1_f_1_B hsp2_3 (IndexNote_ok h_a0_s.wf)).mono ?_
  rintro _ w' ⟨K', r0, o0, rfl, rfl, hF⟩
  exact ⟨K', r0, rfl, hF⟩
def HasNote_VC (a0_s : (List ((List UInt8) × (List UInt8)))) (a1_f_0 : (List UInt8)) (a1_f_1 : (List UInt8)) (Q : Bool → Prop) : Prop :=
  ((Kd.int .i64).wf (noteIx a1_f_0 a1_f_1 a0_s 0)) → (Q (decide (0 ≤ (noteIx a1_f_0 a1_f_1 a0_s 0))))
theorem HasNote_ok {a0_s : (List ((List UInt8) × (List UInt8)))} {a1_f_0 : (List UInt8)} {a1_f_1 : (List UInt8)} (w_0 : kd_l_Sseal_note.wf a0_s) : HasNote_VC a0_s a1_f_0 a1_f_1 (fun o0 => o0 = decide (0 ≤ noteIx a1_f_0 a1_f_1 a0_s 0)) := by
  exact fun _ => rfl

theorem HasNote_walk {w0 : World} {K0 : Ghost} {a0_s_v : Value} {a0_s : (List ((List UInt8) × (List UInt8)))} {a1_f_0_b : Nat} {a1_f_0_pre a1_f_0_post : List Value} {a1_f_0 : (List UInt8)} {a1_f_1_b : Nat} {a1_f_1_pre a1_f_1_post : List Value} {a1_f_1 : (List UInt8)} {Q : Bool → Prop} (hM0 : Models w0 K0) (h_a0_s : kd_l_Sseal_note.V K0 a0_s a0_s_v) (h_a1_f_0_B : Bx kd_a32_u8 w0 K0 a1_f_0_b a1_f_0_pre a1_f_0_post a1_f_0) (h_a1_f_1_B : Bx kd_l_u8 w0 K0 a1_f_1_b a1_f_1_pre a1_f_1_post a1_f_1) (hsp2_3 : ¬ (a1_f_0_b = a1_f_1_b)) (h : HasNote_VC a0_s a1_f_0 a1_f_1 Q) : Calls Try.prog 89 #[a0_s_v, (.func (.func 90) #[] #[(.pointer (some ⟨a1_f_0_b, a1_f_0_pre.length, none⟩)), (.pointer (some ⟨a1_f_1_b, a1_f_1_pre.length, none⟩))])] w0 (fun e w' => ∃ (K' : Ghost) (r0 : Value) (o0 : Bool), e = .returned r0 ∧ Q o0 ∧ Ext NX w0 K0 w' K' ∧ Models w' K' ∧ Kd.bool.V K' o0 r0) := by
  unfold HasNote_VC at h
  have hE0 : Ext NX w0 K0 w0 K0 := Ext.refl _ _ _
  refine calls_gen fun R hR => ?_
  refine calls_env (args := [a0_s_v, (.func (.func 90) #[] #[(.pointer (some ⟨a1_f_0_b, a1_f_0_pre.length, none⟩)), (.pointer (some ⟨a1_f_1_b, a1_f_1_pre.length, none⟩))])]) Try.func89 rfl (Nat.le_of_ble_eq_true rfl) ?_
  refine WP_seq ?_
  refine WP_region ?_
  refine WL_pure (.bool false) (R_as rfl) rfl rfl ?_
  refine WL_nil ?_
  refine WP_seq ?_
  refine WP_region ?_
  refine WL_pure a0_s_v (R_mv rfl) rfl rfl ?_
  refine WL_pure (.func (.func 90) #[] #[(.pointer (some ⟨a1_f_0_b, a1_f_0_pre.length, none⟩)), (.pointer (some ⟨a1_f_1_b, a1_f_1_pre.length, none⟩))]) (R_mv rfl) rfl rfl ?_
  refine WL_eff rfl rfl (St_call (R_call Try.call103 rfl) ((IndexNote_c hM0 h_a0_s h_a1_f_0_B h_a1_f_1_B hsp2_3).mono ?_))
  rintro _ w4 ⟨K4, v4_0, rfl, hS4, hM4, hV4_0⟩
  refine ⟨v4_0, rfl, ?_⟩
  have hE4 := hE0.andN hS4
  obtain rfl := int_form hV4_0
  have h := h hV4_0.wf
  refine WL_pure (.bool (decide (0 ≤ (noteIx a1_f_0 a1_f_1 a0_s 0)))) (R_geq rfl rfl) rfl rfl ?_
  refine WL_pure (.bool (decide (0 ≤ (noteIx a1_f_0 a1_f_1 a0_s 0)))) (R_as rfl) rfl rfl ?_
  refine WL_nil ?_
  refine WP_ret ?_
  exact endR_ret hR (v := (.bool (decide (0 ≤ (noteIx a1_f_0 a1_f_1 a0_s 0))))) (resE_1 rfl rfl) ⟨K4, (.bool (decide (0 ≤ (noteIx a1_f_0 a1_f_1 a0_s 0)))), (decide (0 ≤ (noteIx a1_f_0 a1_f_1 a0_s 0))), rfl, h, hE4, hM4, bool_V⟩
theorem HasNote_c {w0 : World} {K0 : Ghost} {a0_s_v : Value} {a0_s : (List ((List UInt8) × (List UInt8)))} {a1_f_0_b : Nat} {a1_f_0_pre a1_f_0_post : List Value} {a1_f_0 : (List UInt8)} {a1_f_1_b : Nat} {a1_f_1_pre a1_f_1_post : List Value} {a1_f_1 : (List UInt8)} (hM0 : Models w0 K0) (h_a0_s : kd_l_Sseal_note.V K0 a0_s a0_s_v) (h_a1_f_0_B : Bx kd_a32_u8 w0 K0 a1_f_0_b a1_f_0_pre a1_f_0_post a1_f_0) (h_a1_f_1_B : Bx kd_l_u8 w0 K0 a1_f_1_b a1_f_1_pre a1_f_1_post a1_f_1) (hsp2_3 : ¬ (a1_f_0_b = a1_f_1_b)) : Calls Try.prog 89 #[a0_s_v, (.func (.func 90) #[] #[(.pointer (some ⟨a1_f_0_b, a1_f_0_pre.length, none⟩)), (.pointer (some ⟨a1_f_1_b, a1_f_1_pre.length, none⟩))])] w0 (fun e w' => ∃ (K' : Ghost) (r0 : Value), e = .returned r0 ∧ Ext NX w0 K0 w' K' ∧ Models w' K' ∧ Kd.bool.V K' (decide (0 ≤ noteIx a1_f_0 a1_f_1 a0_s 0)) r0) := by
  refine (HasNote_walk hM0 h_a0_s h_a1_f_0_B h_a1_f_1_B hsp2_3 (HasNote_ok h_a0_s.wf)).mono ?_
  rintro _ w' ⟨K', r0, o0, rfl, rfl, hF⟩
  exact ⟨K', r0, rfl, hF⟩
abbrev kd_Sseal_notes : Kd (Value × Value) := (Kd.pr Kd.rsl Kd.rmp)
theorem ty28r : TyOk Try.prog 28 Kd.rmp 8 := ⟨⟨Try.t28, _, Try.type28, rfl, rfl, rfl, rfl, rfl⟩, ⟨_, Try.underlying28, rfl⟩⟩
theorem ty27r : TyOk Try.prog 27 Kd.rsl 24 := ⟨⟨Try.t27, _, Try.type27, rfl, rfl, rfl, rfl, rfl⟩, ⟨_, Try.underlying27, rfl⟩⟩
def has_VC (a0_n_0 : (List ((List UInt8) × (List UInt8)))) (a0_n_1 : (List ((List UInt8) × Int))) (a1_s : (List UInt8)) (a2_b : (List UInt8)) (Q : Bool → Prop) : Prop :=
  ((¬ (((mfind a1_s a0_n_1).isSome) = true)) → Q false) ∧ ((((mfind a1_s a0_n_1).isSome) = true) → (0 ≤ ((mfind a1_s a0_n_1).getD 0) ∧ ((mfind a1_s a0_n_1).getD 0) ≤ (a0_n_0.length : Int)) ∧ (Q (decide (0 ≤ noteIx a1_s a2_b (a0_n_0.drop ((mfind a1_s a0_n_1).getD 0).toNat) 0))))
theorem has_ok {a0_n_0 : (List ((List UInt8) × (List UInt8)))} {a0_n_1 : (List ((List UInt8) × Int))} {a1_s : (List UInt8)} {a2_b : (List UInt8)} (w_0 : kd_a32_u8.wf a1_s) (w_1 : kd_l_u8.wf a2_b) (hp : BookInv a0_n_0 a0_n_1) : has_VC a0_n_0 a0_n_1 a1_s a2_b (fun o0 => o0 = decide ((a1_s, a2_b) ∈ a0_n_0)) := by
  unfold has_VC
  rw [hp a1_s]
  refine ⟨fun h => ?_, fun h => ?_⟩
  · have hn : firstOf a1_s a0_n_0 0 = none := by
      cases hf : firstOf a1_s a0_n_0 0 with
      | none => rfl
      | some a => rw [hf] at h; exact absurd rfl h
    have := firstOf_none hn a2_b
    simp [this]
  · cases hf : firstOf a1_s a0_n_0 0 with
    | none => rw [hf] at h; cases h
    | some a =>
      obtain ⟨j, rfl, hl, hm⟩ := firstOf_some hf
      simp only [Option.getD_some, Int.zero_add, Int.toNat_natCast]
      refine ⟨⟨by omega, by omega⟩, ?_⟩
      rw [decide_eq_decide, noteIx_ge _ _ (Int.le_refl _)]
      exact (hm a2_b).symm

theorem has_walk {w0 : World} {K0 : Ghost} {a0_n_b : Nat} {a0_n_pre a0_n_post : List Value} {a0_n_0v : Value} {a0_n_0 : (List ((List UInt8) × (List UInt8)))} {a0_n_1v : Value} {a0_n_1 : (List ((List UInt8) × Int))} {a1_s_v : Value} {a1_s : (List UInt8)} {a2_b_v : Value} {a2_b : (List UInt8)} {Q : Bool → Prop} (hM0 : Models w0 K0) (h_a0_n_B : Bx kd_Sseal_notes w0 K0 a0_n_b a0_n_pre a0_n_post (a0_n_0v, a0_n_1v)) (h_a0_n_0 : Own kd_Sseal_note 90 w0 K0 a0_n_0 a0_n_0v) (h_a0_n_1 : Mp kd_a32_u8 (Kd.int .i64) w0 K0 a0_n_1 a0_n_1v) (h_a1_s : kd_a32_u8.V K0 a1_s a1_s_v) (h_a2_b : kd_l_u8.V K0 a2_b a2_b_v) (h : has_VC a0_n_0 a0_n_1 a1_s a2_b Q) : Calls Try.prog 69 #[(.pointer (some ⟨a0_n_b, a0_n_pre.length, none⟩)), a1_s_v, a2_b_v] w0 (fun e w' => ∃ (K' : Ghost) (r0 : Value) (o0 : Bool), e = .returned r0 ∧ Q o0 ∧ Ext NX w0 K0 w' K' ∧ Models w' K' ∧ Kd.bool.V K' o0 r0) := by
  unfold has_VC at h
  have hE0 : Ext NX w0 K0 w0 K0 := Ext.refl _ _ _
  refine calls_gen fun R hR => ?_
  refine calls_env (args := [(.pointer (some ⟨a0_n_b, a0_n_pre.length, none⟩)), a1_s_v, a2_b_v]) Try.func69 rfl (Nat.le_of_ble_eq_true rfl) ?_
  refine WP_seq ?_
  refine WP_region ?_
  refine WL_eff rfl rfl (St_B (S_box hM0 rfl h_a1_s) ?_)
  rintro b6 w6 (hB6 : Bx kd_a32_u8 _ _ _ _ _ a1_s) hS6 hM6 hge6
  have hE6 := hE0.andN hS6
  refine WL_eff rfl rfl (St_B (S_box hM6 rfl (h_a2_b.mono hS6.le)) ?_)
  rintro b8 w8 (hB8 : Bx kd_l_u8 _ _ _ _ _ a2_b) hS8 hM8 hge8
  have hE8 := hE6.andN hS8
  have hR10 := (h_a0_n_B.extN hS6)
  refine WL_pure (.bool false) (R_as rfl) rfl rfl ?_
  refine WL_nil ?_
  refine WP_seq ?_
  refine WP_ordD (K := K0) NX [.o 0 2, .o 1 2, .o 2 2, .o 3 2, .o 4 2, .o 5 2, .o 6 2, .o 7 2, .o 8 2, .o 9 2, .o 10 2] (by kernel_rfl) (by kernel_rfl) hM8 ?_
  rintro w11 hS11 hM11
  have hE11 := hE8.andN hS11
  refine WO_pure (.pointer (some ⟨a0_n_b, a0_n_pre.length, none⟩)) rfl l0 hM11 (fun _ => R_mv rfl) rfl (gN rfl) rfl ?_
  refine WO_pure (.pointer (some ⟨a0_n_b, a0_n_pre.length, none⟩)) rfl l0 hM11 (fun _ => R_nilck rfl) rfl (gN rfl) rfl ?_
  refine WO_pure (.pointer (some ⟨a0_n_b, a0_n_pre.length + 1, none⟩)) rfl l0 hM11 (fun _ => R_fa rfl Try.underlying30 rfl rfl ty28r rfl) rfl (gN rfl) rfl ?_
  have hR13 := (((h_a0_n_B.extN hS6).extN hS8).extN hS11)
  refine WO_L0 hM11 (S_ldB (Foc.snd Kd.rsl Kd.rmp) rfl ty28r hR13 (by first | rfl | simp | omega) (fun h => h)) rfl (gN rfl) rfl ?_
  rintro v12 (hV12 : Kd.rmp.V _ a0_n_1v _)
  obtain rfl := rw_form hV12
  have hR15 := ((hB6.extN hS8).extN hS11)
  refine WO_L0 hM11 (S_ldB (Foc.id _) rfl ty23 hR15 (by first | rfl | simp | omega) (fun h => h)) rfl (gN rfl) rfl ?_
  rintro v14 (hV14 : kd_a32_u8.V _ a1_s _)
  have hR18 := (((h_a0_n_1.extN hS6).extN hS8).extN hS11)
  refine WO_LK0 hM11 (S_lkp (kv := (Kd.int .i64)) rfl rfl hR18 hV14 Try.underlying28 (keyOk_arr Try.underlying23 Try.underlying5 ty5b) ty3 (fun _ _ h => h)) rfl (gN rfl) rfl ?_
  rintro v17 (hV17 : (Kd.int .i64).V _ ((mfind a1_s a0_n_1).getD 0) _)
  obtain rfl := int_form hV17
  refine WO_pure (.tuple #[(.int .i64 ((mfind a1_s a0_n_1).getD 0)), (.bool ((mfind a1_s a0_n_1).isSome))]) rfl l0 hM11 (fun _ => R_mv rfl) rfl (gN rfl) rfl ?_
  refine WO_pure (.int .i64 ((mfind a1_s a0_n_1).getD 0)) rfl l0 hM11 (fun _ => R_ext rfl rfl) rfl (gN rfl) rfl ?_
  refine WO_pure (.bool ((mfind a1_s a0_n_1).isSome)) rfl l0 hM11 (fun _ => R_ext rfl rfl) rfl (gN rfl) rfl ?_
  refine WO_pure (.int .i64 ((mfind a1_s a0_n_1).getD 0)) rfl l0 hM11 (fun _ => R_as rfl) rfl (gN rfl) rfl ?_
  refine WO_pure (.bool ((mfind a1_s a0_n_1).isSome)) rfl l0 hM11 (fun _ => R_as rfl) rfl (gN rfl) rfl ?_
  refine WO_nil ?_
  refine WP_seq ?_
  refine WP_seq ?_
  refine WP_region ?_
  refine WL_pure (.bool ((mfind a1_s a0_n_1).isSome)) (R_mv rfl) rfl rfl ?_
  refine WL_pure (.bool (!((mfind a1_s a0_n_1).isSome))) (R_not rfl) rfl rfl ?_
  refine WL_nil ?_
  refine WP_cond (!((mfind a1_s a0_n_1).isSome)) rfl (fun hc19 => ?_) (fun hc19 => ?_)
  · have hd19 : ¬ (((mfind a1_s a0_n_1).isSome) = true) := nbb_t hc19
    have h := h.1 hd19
    refine WP_seq ?_
    refine WP_region ?_
    refine WL_pure (.bool false) (R_as rfl) rfl rfl ?_
    refine WL_nil ?_
    refine WP_ret ?_
    exact endR_ret hR (v := (.bool false)) (resE_1 rfl rfl) ⟨K0, (.bool false), false, rfl, h, hE11, hM11, bool_V⟩
  · have hd19 : ((mfind a1_s a0_n_1).isSome) = true := nbb_f hc19
    have h := h.2 hd19
    refine WP_skip ?_
    refine WP_seq ?_
    refine WP_region ?_
    refine WL_pure (.pointer (some ⟨a0_n_b, a0_n_pre.length, none⟩)) (R_mv rfl) rfl rfl ?_
    refine WL_pure (.pointer (some ⟨a0_n_b, a0_n_pre.length, none⟩)) (R_nilck rfl) rfl rfl ?_
    refine WL_pure (.pointer (some ⟨a0_n_b, a0_n_pre.length + 0, none⟩)) (R_fa rfl Try.underlying30 rfl rfl ty27r rfl) rfl rfl ?_
    refine WL_L hM11 (S_ldB (Foc.fst Kd.rsl Kd.rmp) rfl ty27r hR13 (by first | rfl | simp | omega) (fun h => h)) rfl rfl ?_
    rintro v20 (hV20 : Kd.rsl.V _ a0_n_0v _)
    obtain rfl := rw_form hV20
    refine WL_pure (.int .i64 ((mfind a1_s a0_n_1).getD 0)) (R_mv rfl) rfl rfl ?_
    obtain ⟨hp22, h⟩ := h
    refine WL_V (S_slL rfl (h_a0_n_0.V.mono (hS6.le.trans (hS8.le.trans hS11.le))) Try.underlying27 ty90 rfl hp22.1 hp22.2) rfl rfl ?_
    rintro v21 (hV21 : kd_l_Sseal_note.V _ (a0_n_0.drop ((mfind a1_s a0_n_1).getD 0).toNat) _)
    refine WL_pure (.func (.func 90) #[] #[(.pointer (some ⟨b6, 0, none⟩)), (.pointer (some ⟨b8, 0, none⟩))]) (R_fnl rfl) rfl rfl ?_
    have hR25 := (hB8.extN hS11)
    refine WL_eff rfl rfl (St_call (R_call Try.call89 rfl) ((HasNote_c hM11 hV21 hR15 hR25 (fun he => (ne_new hge8 hB6.lt) he.symm)).mono ?_))
    rintro _ w24 ⟨K24, v24_0, rfl, hS24, hM24, hV24_0⟩
    refine ⟨v24_0, rfl, ?_⟩
    have hE24 := hE11.andN hS24
    obtain rfl := bool_form hV24_0
    refine WL_pure (.bool (decide (0 ≤ noteIx a1_s a2_b (a0_n_0.drop ((mfind a1_s a0_n_1).getD 0).toNat) 0))) (R_as rfl) rfl rfl ?_
    refine WL_nil ?_
    refine WP_ret ?_
    exact endR_ret hR (v := (.bool (decide (0 ≤ noteIx a1_s a2_b (a0_n_0.drop ((mfind a1_s a0_n_1).getD 0).toNat) 0)))) (resE_1 rfl rfl) ⟨K24, (.bool (decide (0 ≤ noteIx a1_s a2_b (a0_n_0.drop ((mfind a1_s a0_n_1).getD 0).toNat) 0))), (decide (0 ≤ noteIx a1_s a2_b (a0_n_0.drop ((mfind a1_s a0_n_1).getD 0).toNat) 0)), rfl, h, hE24, hM24, bool_V⟩
theorem has_c {w0 : World} {K0 : Ghost} {a0_n_b : Nat} {a0_n_pre a0_n_post : List Value} {a0_n_0v : Value} {a0_n_0 : (List ((List UInt8) × (List UInt8)))} {a0_n_1v : Value} {a0_n_1 : (List ((List UInt8) × Int))} {a1_s_v : Value} {a1_s : (List UInt8)} {a2_b_v : Value} {a2_b : (List UInt8)} (hM0 : Models w0 K0) (h_a0_n_B : Bx kd_Sseal_notes w0 K0 a0_n_b a0_n_pre a0_n_post (a0_n_0v, a0_n_1v)) (h_a0_n_0 : Own kd_Sseal_note 90 w0 K0 a0_n_0 a0_n_0v) (h_a0_n_1 : Mp kd_a32_u8 (Kd.int .i64) w0 K0 a0_n_1 a0_n_1v) (h_a1_s : kd_a32_u8.V K0 a1_s a1_s_v) (h_a2_b : kd_l_u8.V K0 a2_b a2_b_v) (hp : BookInv a0_n_0 a0_n_1) : Calls Try.prog 69 #[(.pointer (some ⟨a0_n_b, a0_n_pre.length, none⟩)), a1_s_v, a2_b_v] w0 (fun e w' => ∃ (K' : Ghost) (r0 : Value), e = .returned r0 ∧ Ext NX w0 K0 w' K' ∧ Models w' K' ∧ Kd.bool.V K' (decide ((a1_s, a2_b) ∈ a0_n_0)) r0) := by
  refine (has_walk hM0 h_a0_n_B h_a0_n_0 h_a0_n_1 h_a1_s h_a2_b (has_ok h_a1_s.wf h_a2_b.wf hp)).mono ?_
  rintro _ w' ⟨K', r0, o0, rfl, rfl, hF⟩
  exact ⟨K', r0, rfl, hF⟩
theorem fs90 {fs : Array Field} (h : Try.prog.underlying 90 = some (.struct fs)) : ∀ f ∈ fs.toList, ∃ i, Try.prog.info? f.type = some i := by
  have h2 := (Try.underlying90).symm.trans h
  cases h2
  intro f hf
  simp only [List.mem_cons, List.not_mem_nil, or_false] at hf
  rcases hf with rfl | rfl
  · exact ⟨_, Try.type23⟩
  · exact ⟨_, Try.type39⟩
def add_VC (a0_n_0 : (List ((List UInt8) × (List UInt8)))) (a0_n_1 : (List ((List UInt8) × Int))) (a1_s : (List UInt8)) (a2_b : (List UInt8)) (Q : (List ((List UInt8) × (List UInt8))) → (List ((List UInt8) × Int)) → Prop) : Prop :=
  (BookInv a0_n_0 a0_n_1) ∧ ((((a1_s, a2_b) ∈ a0_n_0) → Q a0_n_0 a0_n_1) ∧ ((¬ ((a1_s, a2_b) ∈ a0_n_0)) → ∀ (r21 : Bool), (r21 = true → a0_n_1 = []) → (∃ (J23 : (List ((List UInt8) × Int)) → Prop), (((r21 = true) → J23 ([] : List ((List UInt8) × Int))) ∧ ((r21 = false) → J23 a0_n_1)) ∧ ∀ (y23 : (List ((List UInt8) × Int))), J23 y23 → (∃ (J42 : (List ((List UInt8) × Int)) → Prop), (((¬ (((mfind a1_s y23).isSome) = true)) → J42 (mset a1_s (a0_n_0.length : Int) y23)) ∧ ((((mfind a1_s y23).isSome) = true) → J42 y23)) ∧ ∀ (y42 : (List ((List UInt8) × Int))), J42 y42 → ((a2_b.length ≤ 140737488355328) ∧ ((kd_l_u8.wf a2_b) → (((a0_n_0.length + [(a1_s, a2_b)].length) * 56 ≤ 140737488355328) ∧ (Q (a0_n_0 ++ [(a1_s, a2_b)]) y42))))))))
theorem add_ok {a0_n_0 : (List ((List UInt8) × (List UInt8)))} {a0_n_1 : (List ((List UInt8) × Int))} {a1_s : (List UInt8)} {a2_b : (List UInt8)} (w_0 : kd_a32_u8.wf a1_s) (w_1 : kd_l_u8.wf a2_b) (hp : BookInv a0_n_0 a0_n_1 ∧ a2_b.length ≤ 140737488355328 ∧ (a0_n_0.length + 1) * 64 ≤ 140737488355328) : add_VC a0_n_0 a0_n_1 a1_s a2_b (fun o0 o1 => o0 = (addL a0_n_0 a1_s a2_b) ∧ o1 = (addM a0_n_0 a0_n_1 a1_s a2_b)) := by
  obtain ⟨h1, h2, h3⟩ := hp
  have hlen : (a0_n_0.length + [(a1_s, a2_b)].length) * 56 ≤ 140737488355328 := by
    simp only [List.length_cons, List.length_nil]
    omega
  unfold add_VC
  refine ⟨h1, fun h => ?_, fun h r hr => ?_⟩
  · have hm := h
    exact ⟨by simp [addL, hm], by simp [addM, hm]⟩
  · have hm := h
    refine ⟨fun m => m = a0_n_1, ⟨fun h => (hr h).symm, fun _ => rfl⟩, ?_⟩
    rintro m rfl
    refine ⟨fun m' => m' = if (mfind a1_s m).isSome then m else mset a1_s (a0_n_0.length : Int) m, ⟨fun h => by rw [if_neg h], fun h => by rw [if_pos h]⟩, ?_⟩
    rintro m' rfl
    exact ⟨h2, fun _ => ⟨hlen, by simp [addL, hm], by simp [addM, hm]⟩⟩

theorem add_walk {w0 : World} {K0 : Ghost} {a0_n_b : Nat} {a0_n_pre a0_n_post : List Value} {a0_n_0v : Value} {a0_n_0 : (List ((List UInt8) × (List UInt8)))} {a0_n_1v : Value} {a0_n_1 : (List ((List UInt8) × Int))} {a1_s_v : Value} {a1_s : (List UInt8)} {a2_b_v : Value} {a2_b : (List UInt8)} {Q : (List ((List UInt8) × (List UInt8))) → (List ((List UInt8) × Int)) → Prop} (hM0 : Models w0 K0) (h_a0_n_B : Bx kd_Sseal_notes w0 K0 a0_n_b a0_n_pre a0_n_post (a0_n_0v, a0_n_1v)) (h_a0_n_0 : Own kd_Sseal_note 90 w0 K0 a0_n_0 a0_n_0v) (h_a0_n_1 : Mp kd_a32_u8 (Kd.int .i64) w0 K0 a0_n_1 a0_n_1v) (h_a1_s : kd_a32_u8.V K0 a1_s a1_s_v) (h_a2_b : kd_l_u8.V K0 a2_b a2_b_v) (h : add_VC a0_n_0 a0_n_1 a1_s a2_b Q) : Calls Try.prog 47 #[(.pointer (some ⟨a0_n_b, a0_n_pre.length, none⟩)), a1_s_v, a2_b_v] w0 (fun e w' => ∃ (K' : Ghost) (u0_0 : Value) (u0_1 : Value) (o0 : (List ((List UInt8) × (List UInt8)))) (o1 : (List ((List UInt8) × Int))), e = .returned (.tuple #[]) ∧ Q o0 o1 ∧ Ext (fun c => c = a0_n_b ∨ ob a0_n_0v = some c ∨ mb a0_n_1v = some c) w0 K0 w' K' ∧ Models w' K' ∧ Bx kd_Sseal_notes w' K' a0_n_b a0_n_pre a0_n_post (u0_0, u0_1) ∧ Own kd_Sseal_note 90 w' K' o0 u0_0 ∧ (∀ g, ob u0_0 = some g → ob a0_n_0v = some g ∨ w0.heap.size ≤ g) ∧ Mp kd_a32_u8 (Kd.int .i64) w' K' o1 u0_1 ∧ (∀ g, mb u0_1 = some g → mb a0_n_1v = some g ∨ w0.heap.size ≤ g)) := by
  unfold add_VC at h
  have hE0 : Ext (fun c => c = a0_n_b ∨ ob a0_n_0v = some c ∨ mb a0_n_1v = some c) w0 K0 w0 K0 := Ext.refl _ _ _
  refine calls_gen fun R hR => ?_
  refine calls_env (args := [(.pointer (some ⟨a0_n_b, a0_n_pre.length, none⟩)), a1_s_v, a2_b_v]) Try.func47 rfl (Nat.le_of_ble_eq_true rfl) ?_
  refine WP_seq ?_
  refine WP_region ?_
  refine WL_eff rfl rfl (St_B (S_box hM0 rfl h_a1_s) ?_)
  rintro b6 w6 (hB6 : Bx kd_a32_u8 _ _ _ _ _ a1_s) hS6 hM6 hge6
  have hE6 := hE0.andN hS6
  refine WL_nil ?_
  refine WP_seq ?_
  refine WP_seq ?_
  refine WP_region ?_
  refine WL_pure (.pointer (some ⟨a0_n_b, a0_n_pre.length, none⟩)) (R_mv rfl) rfl rfl ?_
  refine WL_L hM6 (S_ldB (Foc.id _) rfl ty23 hB6 (by first | rfl | simp | omega) (fun h => h)) rfl rfl ?_
  rintro v8 (hV8 : kd_a32_u8.V _ a1_s _)
  refine WL_pure a2_b_v (R_mv rfl) rfl rfl ?_
  have hR10 := (h_a0_n_0.extN hS6)
  have hR11 := (h_a0_n_1.extN hS6)
  have hR12 := (h_a0_n_B.extN hS6)
  obtain ⟨hp14, h⟩ := h
  refine WL_eff rfl rfl (St_call (R_call Try.call69 rfl) ((has_c hM6 hR12 hR10 hR11 hV8 (h_a2_b.mono hS6.le) hp14).mono ?_))
  rintro _ w13 ⟨K13, v13_0, rfl, hS13, hM13, hV13_0⟩
  refine ⟨v13_0, rfl, ?_⟩
  have hE13 := hE6.andN hS13
  obtain rfl := bool_form hV13_0
  refine WL_nil ?_
  refine WP_cond (decide ((a1_s, a2_b) ∈ a0_n_0)) rfl (fun hc15 => ?_) (fun hc15 => ?_)
  · have hd15 : (a1_s, a2_b) ∈ a0_n_0 := dec_t hc15
    have h := h.1 hd15
    refine WP_ret ?_
    have hR16 := (hR10.extN hS13)
    have hR17 := (hR11.extN hS13)
    have hR18 := (hR12.extN hS13)
    exact endR_ret hR (v := (.tuple #[])) (resE_0 rfl) ⟨K13, a0_n_0v, a0_n_1v, a0_n_0, a0_n_1, rfl, h, hE13, hM13, hR18, hR16, (fun g hg => (.inl hg)), hR17, (fun g hg => (.inl hg))⟩
  · have hd15 : ¬ ((a1_s, a2_b) ∈ a0_n_0) := dec_f hc15
    have h := h.2 hd15
    refine WP_skip ?_
    refine WP_seq ?_
    refine WP_seq ?_
    refine WP_region ?_
    refine WL_pure (.pointer (some ⟨a0_n_b, a0_n_pre.length, none⟩)) (R_mv rfl) rfl rfl ?_
    refine WL_pure (.pointer (some ⟨a0_n_b, a0_n_pre.length, none⟩)) (R_nilck rfl) rfl rfl ?_
    refine WL_pure (.pointer (some ⟨a0_n_b, a0_n_pre.length + 1, none⟩)) (R_fa rfl Try.underlying30 rfl rfl ty28r rfl) rfl rfl ?_
    have hR20 := (hR12.extN hS13)
    refine WL_L hM13 (S_ldB (Foc.snd Kd.rsl Kd.rmp) rfl ty28r hR20 (by first | rfl | simp | omega) (fun h => h)) rfl rfl ?_
    rintro v19 (hV19 : Kd.rmp.V _ a0_n_1v _)
    obtain rfl := rw_form hV19
    have hR22 := (hR11.extN hS13)
    refine WL_bq (S_mnil rfl rfl hR22 Try.underlying28) rfl rfl ?_
    rintro r21 ⟨hn21, hnn21⟩
    have h := h r21 (fun hx => (hn21 hx).2)
    refine WL_nil ?_
    obtain ⟨J23, h, hJ23⟩ := h
    refine WP_meet [17, 18, 19, 20] (fun l w => ∃ y23 K z1_1, J23 y23 ∧ l = [] ∧ Ext (fun c => mb a0_n_1v = some c ∨ c = a0_n_b) w13 K13 w K ∧ Models w K ∧ Mp kd_a32_u8 (Kd.int .i64) w K y23 (.map (some z1_1)) ∧ (∀ g, mb (.map (some z1_1)) = some g → mb a0_n_1v = some g ∨ w13.heap.size ≤ g) ∧ Bx kd_Sseal_notes w K a0_n_b a0_n_pre a0_n_post (a0_n_0v, (.map (some z1_1)))) ?_ ?_
    · skip
      refine WP_cond r21 rfl (fun hc24 => ?_) (fun hc24 => ?_)
      · have hd24 : r21 = true := hc24
        have h := h.1 hd24
        refine WP_region ?_
        refine WL_pure (.pointer (some ⟨a0_n_b, a0_n_pre.length, none⟩)) (R_mv rfl) rfl rfl ?_
        refine WL_eff rfl rfl (St_MM (S_mkm (kk := kd_a32_u8) (kv := (Kd.int .i64)) hM13) ?_)
        rintro b25 w25 hO25 hS25 hM25 hge25
        have hf25 : ∀ g, mb (.map (some b25)) = some g → w0.heap.size ≤ g := fun g hg => by cases hg; exact Nat.le_trans hE13.size hge25
        have hE25 := hE13.andN hS25
        have hs27 : ∀ g, mb (.map (some b25)) = some g → ¬ (mb a0_n_1v = some g) := fun g hg hx => by cases hg; exact absurd (hR22.lt _ hx) (Nat.not_lt.2 hge25)
        refine WL_pure (.pointer (some ⟨a0_n_b, a0_n_pre.length, none⟩)) (R_nilck rfl) rfl rfl ?_
        refine WL_pure (.pointer (some ⟨a0_n_b, a0_n_pre.length + 1, none⟩)) (R_fa rfl Try.underlying30 rfl rfl ty28r rfl) rfl rfl ?_
        have hR29 := (hR20.extN hS25)
        refine WL_eff rfl rfl (St_St (S_stB (Foc.snd Kd.rsl Kd.rmp) hM25 rfl rfl (rw_V hO25.one) ty28r hR29 (by first | rfl | simp | omega)) ?_)
        rintro w28 (hB28 : Bx kd_Sseal_notes _ _ a0_n_b a0_n_pre a0_n_post (a0_n_0v, (.map (some b25)))) hS28 hM28
        have hE28 := hE25.comp hS28 (fun c hx hlt => (by subst hx; exact (fun _ => (.inl rfl)) hlt))
        refine WL_nil ?_
        have hR30 := (hO25.ext hS28 (fun g hg hx => (fun g hg hx => hO25.box hR29 (hg.trans (congrArg some hx))) g hg hx))
        exact MeetQ.mk [] ⟨([] : List ((List UInt8) × Int)), K13, b25, h, rfl, (((Ext.refl _ _ _).andN hS25).comp hS28 (fun c hx hlt => (.inr (hx)))), hM28, hR30, (fun g hg => .inr ((fun g hg => by cases hg; exact hge25) g hg)), hB28⟩ (by repeat (first | exact Off.lay0 rfl | exact Off.refl _ _ | refine Off.updO ?_ rfl _ | refine Off.updN ?_ _ | refine Off.lay ?_ rfl)) (by repeat (first | exact trivial | refine ⟨rfl, ?_⟩))
      · have hd24 : r21 = false := hc24
        have h := h.2 hd24
        obtain ⟨b24, hv24⟩ := hnn21 hd24
        subst hv24
        refine WP_skip ?_
        exact MeetQ.mk [] ⟨a0_n_1, K13, b24, h, rfl, (Ext.refl _ _ _), hM13, hR22, (fun g hg => (.inl hg)), hR20⟩ (by repeat (first | exact Off.lay0 rfl | exact Off.refl _ _ | refine Off.updO ?_ rfl _ | refine Off.updN ?_ _ | refine Off.lay ?_ rfl)) (by repeat (first | exact trivial | refine ⟨rfl, ?_⟩))
    rintro l σ23 w31 ⟨y23, K31, z1_1_23, hI, rfl, hX31, hM31, hL23_z1_1, ho23_z1_1, hL23_1⟩
    have h := hJ23 y23 hI
    have hE31 := hE13.comp hX31 (fun c hx hlt => Or.elim hx (fun hx => (fun g hg _ => (.inr (.inr (hg)))) c hx hlt) (fun hx => (by subst hx; exact (fun _ => (.inl rfl)) hlt)))
    have hf32 : ∀ g, mb (.map (some z1_1_23)) = some g → g < w0.heap.size → g = a0_n_b ∨ ob a0_n_0v = some g ∨ mb a0_n_1v = some g := fun g hg hlt => (ho23_z1_1 g hg).elim (fun hx => (fun g hg _ => (.inr (.inr (hg)))) g hx hlt) (fun hx => absurd hlt (Nat.not_lt.2 (Nat.le_trans hE13.size hx)))
    refine WP_seq ?_
    refine WP_seq ?_
    refine WP_ordD (K := K31) NX [.o 0 2, .o 1 2, .o 2 2, .o 3 2, .o 4 2, .o 5 2, .o 6 2, .o 7 2, .o 8 2, .o 9 2, .o 10 2] (by kernel_rfl) (by kernel_rfl) hM31 ?_
    rintro w33 hS33 hM33
    have hE33 := hE31.andN hS33
    refine WO_pure (.pointer (some ⟨a0_n_b, a0_n_pre.length, none⟩)) rfl l0 hM33 (fun _ => R_mv rfl) rfl (gN rfl) rfl ?_
    refine WO_pure (.pointer (some ⟨a0_n_b, a0_n_pre.length, none⟩)) rfl l0 hM33 (fun _ => R_nilck rfl) rfl (gN rfl) rfl ?_
    refine WO_pure (.pointer (some ⟨a0_n_b, a0_n_pre.length + 1, none⟩)) rfl l0 hM33 (fun _ => R_fa rfl Try.underlying30 rfl rfl ty28r rfl) rfl (gN rfl) rfl ?_
    have hR35 := (hL23_1.extN hS33)
    refine WO_L0 hM33 (S_ldB (Foc.snd Kd.rsl Kd.rmp) rfl ty28r hR35 (by first | rfl | simp | omega) (fun h => h)) rfl (gN rfl) rfl ?_
    rintro v34 (hV34 : Kd.rmp.V _ (.map (some z1_1_23)) _)
    obtain rfl := rw_form hV34
    have hR37 := (hB6.extN hS13)
    have hR38 := ((hR37.ext hX31 (fun hx => Or.elim hx (fun hx => (hR22.box hR37) hx) (fun hx => (ne_new hge6 h_a0_n_B.lt) hx))).extN hS33)
    refine WO_L0 hM33 (S_ldB (Foc.id _) rfl ty23 hR38 (by first | rfl | simp | omega) (fun h => h)) rfl (gN rfl) rfl ?_
    rintro v36 (hV36 : kd_a32_u8.V _ a1_s _)
    have hR41 := (hL23_z1_1.extN hS33)
    refine WO_LK0 hM33 (S_lkp (kv := (Kd.int .i64)) rfl rfl hR41 hV36 Try.underlying28 (keyOk_arr Try.underlying23 Try.underlying5 ty5b) ty3 (fun _ _ h => h)) rfl (gN rfl) rfl ?_
    rintro v40 (hV40 : (Kd.int .i64).V _ ((mfind a1_s y23).getD 0) _)
    obtain rfl := int_form hV40
    refine WO_pure (.tuple #[(.int .i64 ((mfind a1_s y23).getD 0)), (.bool ((mfind a1_s y23).isSome))]) rfl l0 hM33 (fun _ => R_mv rfl) rfl (gN rfl) rfl ?_
    refine WO_pure (.int .i64 ((mfind a1_s y23).getD 0)) rfl l0 hM33 (fun _ => R_ext rfl rfl) rfl (gN rfl) rfl ?_
    refine WO_pure (.bool ((mfind a1_s y23).isSome)) rfl l0 hM33 (fun _ => R_ext rfl rfl) rfl (gN rfl) rfl ?_
    refine WO_pure (.int .i64 ((mfind a1_s y23).getD 0)) rfl l0 hM33 (fun _ => R_as rfl) rfl (gN rfl) rfl ?_
    refine WO_pure (.bool ((mfind a1_s y23).isSome)) rfl l0 hM33 (fun _ => R_as rfl) rfl (gN rfl) rfl ?_
    refine WO_nil ?_
    refine WP_seq ?_
    refine WP_region ?_
    refine WL_pure (.bool ((mfind a1_s y23).isSome)) (R_mv rfl) rfl rfl ?_
    refine WL_pure (.bool (!((mfind a1_s y23).isSome))) (R_not rfl) rfl rfl ?_
    refine WL_nil ?_
    obtain ⟨J42, h, hJ42⟩ := h
    refine WP_meet [32, 33, 34, 35, 36, 37, 38, 39, 40, 41] (fun l w => ∃ y42 K z1_1, J42 y42 ∧ l = [] ∧ Ext (fun c => mb (.map (some z1_1_23)) = some c ∨ c = a0_n_b) w33 K31 w K ∧ Models w K ∧ Mp kd_a32_u8 (Kd.int .i64) w K y42 (.map (some z1_1)) ∧ (∀ g, mb (.map (some z1_1)) = some g → mb (.map (some z1_1_23)) = some g ∨ w33.heap.size ≤ g) ∧ Bx kd_Sseal_notes w K a0_n_b a0_n_pre a0_n_post (a0_n_0v, (.map (some z1_1)))) ?_ ?_
    · skip
      refine WP_cond (!((mfind a1_s y23).isSome)) rfl (fun hc43 => ?_) (fun hc43 => ?_)
      · have hd43 : ¬ (((mfind a1_s y23).isSome) = true) := nbb_t hc43
        have h := h.1 hd43
        refine WP_ordD (K := K31) (fun c => mb (.map (some z1_1_23)) = some c ∨ w33.heap.size ≤ c) [.o 0 2, .o 1 2, .o 2 2, .o 3 2, .o 4 2, .o 5 2, .o 6 2, .o 7 2, .o 8 2, .o 9 2, .o 10 1] (by kernel_rfl) (by kernel_rfl) hM33 ?_
        rintro w44 hS44 hM44
        have hE44 := hE33.andN hS44
        refine WO_pure (.pointer (some ⟨a0_n_b, a0_n_pre.length, none⟩)) rfl l0 hM44 (fun _ => R_mv rfl) rfl (gN rfl) rfl ?_
        refine WO_pure (.pointer (some ⟨a0_n_b, a0_n_pre.length, none⟩)) rfl l0 hM44 (fun _ => R_nilck rfl) rfl (gN rfl) rfl ?_
        refine WO_pure (.pointer (some ⟨a0_n_b, a0_n_pre.length + 1, none⟩)) rfl l0 hM44 (fun _ => R_fa rfl Try.underlying30 rfl rfl ty28r rfl) rfl (gN rfl) rfl ?_
        have hR46 := (hR35.extN hS44)
        refine WO_L0 hM44 (S_ldB (Foc.snd Kd.rsl Kd.rmp) rfl ty28r hR46 (by first | rfl | simp | omega) (fun h => h)) rfl (gN rfl) rfl ?_
        rintro v45 (hV45 : Kd.rmp.V _ (.map (some z1_1_23)) _)
        obtain rfl := rw_form hV45
        have hR48 := (hR38.extN hS44)
        refine WO_L0 hM44 (S_ldB (Foc.id _) rfl ty23 hR48 (by first | rfl | simp | omega) (fun h => h)) rfl (gN rfl) rfl ?_
        rintro v47 (hV47 : kd_a32_u8.V _ a1_s _)
        refine WO_pure (.pointer (some ⟨a0_n_b, a0_n_pre.length, none⟩)) rfl l0 hM44 (fun _ => R_mv rfl) rfl (gN rfl) rfl ?_
        refine WO_pure (.pointer (some ⟨a0_n_b, a0_n_pre.length, none⟩)) rfl l0 hM44 (fun _ => R_nilck rfl) rfl (gN rfl) rfl ?_
        refine WO_pure (.pointer (some ⟨a0_n_b, a0_n_pre.length + 0, none⟩)) rfl l0 hM44 (fun _ => R_fa rfl Try.underlying30 rfl rfl ty27r rfl) rfl (gN rfl) rfl ?_
        refine WO_L0 hM44 (S_ldB (Foc.fst Kd.rsl Kd.rmp) rfl ty27r hR46 (by first | rfl | simp | omega) (fun h => h)) rfl (gN rfl) rfl ?_
        rintro v50 (hV50 : Kd.rsl.V _ a0_n_0v _)
        obtain rfl := rw_form hV50
        refine WO_pure (.int .i64 (a0_n_0.length : Int)) rfl l0 hM44 (fun _ => R_len rfl (hR10.V.mono (hS13.le.trans (hX31.le.trans (hS33.le.trans hS44.le)))) Try.underlying27) rfl (gN rfl) rfl ?_
        have hR52 := (hR41.extN hS44)
        refine WO_eff rfl (gN rfl) rfl (St_Mu (S_mst hM44 rfl rfl rfl hR52 hV47 (int_V (len_wf ((hR10).V).wf.1)) Try.underlying28 (keyOk_arr Try.underlying23 Try.underlying5 ty5b)) ?_)
        rintro w51 hO51 hS51 hM51
        have hS51 : Ext (fun c => mb (.map (some z1_1_23)) = some c) w44 K31 w51 K31 := hS51.weak (fun c _ hc => congrArg some hc.symm)
        refine ⟨K31, (hS51.weak (fun c hlt hx => (.inl (hx)))), hM51, ?_⟩
        have hE51 := hE44.comp hS51 (fun c hx hlt => hf32 c hx hlt)
        refine WO_nil ?_
        have hR53 := (hR46.ext hS51 (fun hx => (hR52.box hR46) hx))
        exact MeetQ.mk [] ⟨(mset a1_s (a0_n_0.length : Int) y23), K31, z1_1_23, h, rfl, (((Ext.refl _ _ _).andN hS44).comp hS51 (fun c hx hlt => (.inl (hx)))), hM51, hO51, (fun g hg => (.inl hg)), hR53⟩ (by repeat (first | exact Off.lay0 rfl | exact Off.refl _ _ | refine Off.updO ?_ rfl _ | refine Off.updN ?_ _ | refine Off.lay ?_ rfl)) (by repeat (first | exact trivial | refine ⟨rfl, ?_⟩))
      · have hd43 : ((mfind a1_s y23).isSome) = true := nbb_f hc43
        have h := h.2 hd43
        refine WP_skip ?_
        exact MeetQ.mk [] ⟨y23, K31, z1_1_23, h, rfl, (Ext.refl _ _ _), hM33, hR41, (fun g hg => (.inl hg)), hR35⟩ (by repeat (first | exact Off.lay0 rfl | exact Off.refl _ _ | refine Off.updO ?_ rfl _ | refine Off.updN ?_ _ | refine Off.lay ?_ rfl)) (by repeat (first | exact trivial | refine ⟨rfl, ?_⟩))
    rintro l σ42 w54 ⟨y42, K54, z1_1_42, hI, rfl, hX54, hM54, hL42_z1_1, ho42_z1_1, hL42_1⟩
    have h := hJ42 y42 hI
    have hE54 := hE33.comp hX54 (fun c hx hlt => Or.elim hx (fun hx => hf32 c hx hlt) (fun hx => (by subst hx; exact (fun _ => (.inl rfl)) hlt)))
    have hf55 : ∀ g, mb (.map (some z1_1_42)) = some g → g < w0.heap.size → g = a0_n_b ∨ ob a0_n_0v = some g ∨ mb a0_n_1v = some g := fun g hg hlt => (ho42_z1_1 g hg).elim (fun hx => hf32 g hx hlt) (fun hx => absurd hlt (Nat.not_lt.2 (Nat.le_trans hE33.size hx)))
    have hR56 := (hR10.extN hS13)
    have hR57 := ((hR56.ext hX31 (fun g hg hx => Or.elim hx (fun hx => (fun g hg => hR22.own hR56 g hg) g hg hx) (fun hx => (fun g hg hx => hR56.box hR20 (hg.trans (congrArg some hx))) g hg hx))).extN hS33)
    have hR58 := (hR57.ext hX54 (fun g hg hx => Or.elim hx (fun hx => (fun g hg => hR41.own hR57 g hg) g hg hx) (fun hx => (fun g hg hx => hR57.box hR35 (hg.trans (congrArg some hx))) g hg hx)))
    have hR59 := (hR38.ext hX54 (fun hx => Or.elim hx (fun hx => (hR41.box hR38) hx) (fun hx => (ne_new hge6 h_a0_n_B.lt) hx)))
    refine WP_ordD (K := K54) (fun c => c = a0_n_b ∨ ob a0_n_0v = some c ∨ w54.heap.size ≤ c) [.o 0 3, .o 1 2, .o 2 2, .o 3 2, .o 4 2, .o 5 2, .o 6 2, .o 7 0, .o 8 2, .o 9 0, .o 10 1, .o 11 3, .o 12 3, .o 13 1] (by kernel_rfl) (by kernel_rfl) hM54 ?_
    rintro w60 hS60 hM60
    have hE60 := hE54.andN hS60
    refine WO_pure (.pointer (some ⟨a0_n_b, a0_n_pre.length, none⟩)) rfl l3 hM60 (fun _ => R_mv rfl) rfl (gN rfl) rfl ?_
    refine WO_pure (.pointer (some ⟨a0_n_b, a0_n_pre.length, none⟩)) rfl l0 hM60 (fun _ => R_mv rfl) rfl (gN rfl) rfl ?_
    refine WO_pure (.pointer (some ⟨a0_n_b, a0_n_pre.length, none⟩)) rfl l0 hM60 (fun _ => R_nilck rfl) rfl (gN rfl) rfl ?_
    refine WO_pure (.pointer (some ⟨a0_n_b, a0_n_pre.length + 0, none⟩)) rfl l0 hM60 (fun _ => R_fa rfl Try.underlying30 rfl rfl ty27r rfl) rfl (gN rfl) rfl ?_
    have hR62 := (hL42_1.extN hS60)
    refine WO_L0 hM60 (S_ldB (Foc.fst Kd.rsl Kd.rmp) rfl ty27r hR62 (by first | rfl | simp | omega) (fun h => h)) rfl (gN rfl) rfl ?_
    rintro v61 (hV61 : Kd.rsl.V _ a0_n_0v _)
    obtain rfl := rw_form hV61
    have hR64 := (hR59.extN hS60)
    refine WO_L0 hM60 (S_ldB (Foc.id _) rfl ty23 hR64 (by first | rfl | simp | omega) (fun h => h)) rfl (gN rfl) rfl ?_
    rintro v63 (hV63 : kd_a32_u8.V _ a1_s _)
    refine WO_pure a2_b_v rfl l0 hM60 (fun _ => R_mv rfl) rfl (gN rfl) rfl ?_
    have hR66 := (hR58.extN hS60)
    have hR67 := (hL42_z1_1.extN hS60)
    obtain ⟨hp69, h⟩ := h
    refine WO_eff0 rfl (gN rfl) rfl (St_call (R_call Try.call46 rfl) ((Clone_c hM60 (h_a2_b.mono (hS6.le.trans (hS13.le.trans (hX31.le.trans (hS33.le.trans (hX54.le.trans hS60.le)))))) hp69).mono ?_))
    rintro _ w68 ⟨K68, v68_0, rfl, hS68, hM68, hO68_0, hg68_0⟩
    refine ⟨v68_0, rfl, ?_⟩
    refine ⟨K68, hS68, hM68, ?_⟩
    have hE68 := hE60.andN hS68
    have h := h hO68_0.wf
    refine WO_V rfl l0 hM68 (S_bld (K := K68) (vs := [(0, v63), (1, v68_0)]) (Z := (a1_s, a2_b)) ty90 rfl Try.underlying90 (fs90 Try.underlying90) rfl (Parts.cons rfl rfl ty23 (Foc.fst kd_a32_u8 kd_l_u8) (hV63.mono hS68.le) (Parts.cons rfl rfl ty39 (Foc.snd kd_a32_u8 kd_l_u8) hO68_0.V Parts.nil))) rfl (gN rfl) rfl ?_
    rintro v71 (hV71 : kd_Sseal_note.V _ (a1_s, a2_b) _)
    refine WO_eff0 rfl (gN rfl) rfl (St_S0 (S_bsl (k := kd_Sseal_note) (l := [((a1_s, a2_b), v71)]) hM68 rfl (by intro p hp; simp only [List.mem_cons, List.not_mem_nil, or_false] at hp; subst hp; exact hV71) rfl Try.underlying27 ty90 rfl rfl) ?_)
    rintro v73 w73 K73 (hO73 : Own kd_Sseal_note 90 w73 K73 [(a1_s, a2_b)] v73) hS73 hM73 hg73
    refine ⟨K73, hS73, hM73, ?_⟩
    have hE73 := hE68.andN hS73
    have hR75 := (hR66.extN hS68)
    have hR76 := ((hR66.extN hS68).extN hS73)
    obtain ⟨hp78, h⟩ := h
    refine WO_eff rfl (gN rfl) rfl (St_S (S_app hM73 rfl hR76 rfl hO73.V Try.underlying27 ty90 rfl hp78) ?_)
    rintro v77 w77 K77 hO77 hS77 hM77 hob77
    refine ⟨K77, (hS77.weak (fun c hlt hx => (.inr (.inl (hx))))), hM77, ?_⟩
    have hE77 := hE73.comp hS77 (fun c hx hlt => (fun g hg _ => (.inr (.inl hg))) c hx hlt)
    have hR79 := (hO73.ext hS77 (fun g hg hx => (fun g hg hx => absurd (hR75.lt _ hx) (Nat.not_lt.2 (hg73 g hg))) g hg hx))
    have hfx77 : ∀ g, ob v77 = some g → g < w0.heap.size → g = a0_n_b ∨ ob a0_n_0v = some g ∨ mb a0_n_1v = some g := fun g hg hlt => by rcases hob77 with hq | hq <;> rw [hq] at hg; exact (fun g hg _ => (.inr (.inl hg))) g hg hlt; cases hg; exact absurd hlt (Nat.not_lt.2 hE73.size)
    have hs81 : ∀ g, ob v77 = some g → ¬ (ob v73 = some g) := fun g hg hx => by rcases hob77 with hq | hq <;> rw [hq] at hg; exact (fun g hg hx => (fun g hg hx => absurd (hR75.lt _ hx) (Nat.not_lt.2 (hg73 g hg))) g hx hg) g hg hx; cases hg; exact absurd (hO73.lt _ hx) (Nat.not_lt.2 (Nat.le_refl _))
    refine WO_pure (.pointer (some ⟨a0_n_b, a0_n_pre.length, none⟩)) rfl l3 hM77 (fun _ => R_nilck rfl) rfl (gN rfl) rfl ?_
    refine WO_pure (.pointer (some ⟨a0_n_b, a0_n_pre.length + 0, none⟩)) rfl l3 hM77 (fun _ => R_fa rfl Try.underlying30 rfl rfl ty27r rfl) rfl (gN rfl) rfl ?_
    have hR83 := ((hR62.extN hS68).extN hS73)
    have hR84 := (hR83.ext hS77 (fun hx => (hR76.box hR83) hx))
    refine WO_eff rfl (gN rfl) rfl (St_St (S_stB (Foc.fst Kd.rsl Kd.rmp) hM77 rfl rfl (rw_V hO77.one) ty27r hR84 (by first | rfl | simp | omega)) ?_)
    rintro w82 (hB82 : Bx kd_Sseal_notes _ _ a0_n_b a0_n_pre a0_n_post (v77, (.map (some z1_1_42)))) hS82 hM82
    refine ⟨K77, (hS82.weak (fun c hlt hx => (.inl (hx)))), hM82, ?_⟩
    have hE82 := hE77.comp hS82 (fun c hx hlt => (by subst hx; exact (fun _ => (.inl rfl)) hlt))
    refine WO_nil ?_
    have hR85 := (hO77.ext hS82 (fun g hg hx => (fun g hg hx => hO77.box hR84 (hg.trans (congrArg some hx))) g hg hx))
    have hR86 := ((hR67.extN hS68).extN hS73)
    have hR87 := (hR86.ext hS77 (fun g hg hx => (fun g hg hx => hR86.own hR76 g hx hg) g hg hx))
    have hR88 := (hR87.ext hS82 (fun g hg hx => (fun g hg hx => hR87.box hR84 (hg.trans (congrArg some hx))) g hg hx))
    exact endR_nrm hR (v := (.tuple #[])) (resE_0 rfl) ⟨K77, v77, (.map (some z1_1_42)), (a0_n_0 ++ [(a1_s, a2_b)]), y42, rfl, h, hE82, hM82, hB82, hR85, (fun g hg => (by have hg : ob v77 = some g := hg; rcases hob77 with hq | hq <;> rw [hq] at hg; exact (.inl hg); cases hg; exact .inr hE73.size)), hR88, (fun g hg => ((ho42_z1_1 g hg).elim (fun hz => ((ho23_z1_1 g hz).elim (fun hz => (.inl hz)) (fun hz => .inr (Nat.le_trans hE13.size hz)))) (fun hz => .inr (Nat.le_trans hE33.size hz))))⟩
theorem add_c {w0 : World} {K0 : Ghost} {a0_n_b : Nat} {a0_n_pre a0_n_post : List Value} {a0_n_0v : Value} {a0_n_0 : (List ((List UInt8) × (List UInt8)))} {a0_n_1v : Value} {a0_n_1 : (List ((List UInt8) × Int))} {a1_s_v : Value} {a1_s : (List UInt8)} {a2_b_v : Value} {a2_b : (List UInt8)} (hM0 : Models w0 K0) (h_a0_n_B : Bx kd_Sseal_notes w0 K0 a0_n_b a0_n_pre a0_n_post (a0_n_0v, a0_n_1v)) (h_a0_n_0 : Own kd_Sseal_note 90 w0 K0 a0_n_0 a0_n_0v) (h_a0_n_1 : Mp kd_a32_u8 (Kd.int .i64) w0 K0 a0_n_1 a0_n_1v) (h_a1_s : kd_a32_u8.V K0 a1_s a1_s_v) (h_a2_b : kd_l_u8.V K0 a2_b a2_b_v) (hp : BookInv a0_n_0 a0_n_1 ∧ a2_b.length ≤ 140737488355328 ∧ (a0_n_0.length + 1) * 64 ≤ 140737488355328) : Calls Try.prog 47 #[(.pointer (some ⟨a0_n_b, a0_n_pre.length, none⟩)), a1_s_v, a2_b_v] w0 (fun e w' => ∃ (K' : Ghost) (u0_0 : Value) (u0_1 : Value), e = .returned (.tuple #[]) ∧ Ext (fun c => c = a0_n_b ∨ ob a0_n_0v = some c ∨ mb a0_n_1v = some c) w0 K0 w' K' ∧ Models w' K' ∧ Bx kd_Sseal_notes w' K' a0_n_b a0_n_pre a0_n_post (u0_0, u0_1) ∧ Own kd_Sseal_note 90 w' K' (addL a0_n_0 a1_s a2_b) u0_0 ∧ (∀ g, ob u0_0 = some g → ob a0_n_0v = some g ∨ w0.heap.size ≤ g) ∧ Mp kd_a32_u8 (Kd.int .i64) w' K' (addM a0_n_0 a0_n_1 a1_s a2_b) u0_1 ∧ (∀ g, mb u0_1 = some g → mb a0_n_1v = some g ∨ w0.heap.size ≤ g)) := by
  refine (add_walk hM0 h_a0_n_B h_a0_n_0 h_a0_n_1 h_a1_s h_a2_b (add_ok h_a1_s.wf h_a2_b.wf hp)).mono ?_
  rintro _ w' ⟨K', u0, u1, o0, o1, rfl, ⟨rfl, rfl⟩, hF⟩
  exact ⟨K', u0, u1, rfl, hF⟩
abbrev kd_Sseal_Book : Kd ((Value × Value) × Int) := (Kd.pr kd_Sseal_notes (Kd.int .i64))
def Calls_VC (a0_k_0_0 : (List ((List UInt8) × (List UInt8)))) (a0_k_0_1 : (List ((List UInt8) × Int))) (a0_k_1 : Int) (Q : Int → Prop) : Prop :=
  Q a0_k_1
theorem Calls_ok {a0_k_0_0 : (List ((List UInt8) × (List UInt8)))} {a0_k_0_1 : (List ((List UInt8) × Int))} {a0_k_1 : Int} : Calls_VC a0_k_0_0 a0_k_0_1 a0_k_1 (fun o0 => o0 = a0_k_1) := by
  exact rfl

theorem Calls_walk {w0 : World} {K0 : Ghost} {a0_k_b : Nat} {a0_k_pre a0_k_post : List Value} {a0_k_0_0v : Value} {a0_k_0_0 : (List ((List UInt8) × (List UInt8)))} {a0_k_0_1v : Value} {a0_k_0_1 : (List ((List UInt8) × Int))} {a0_k_1 : Int} {Q : Int → Prop} (hM0 : Models w0 K0) (h_a0_k_B : Bx kd_Sseal_Book w0 K0 a0_k_b a0_k_pre a0_k_post ((a0_k_0_0v, a0_k_0_1v), a0_k_1)) (h_a0_k_0_0 : Own kd_Sseal_note 90 w0 K0 a0_k_0_0 a0_k_0_0v) (h_a0_k_0_1 : Mp kd_a32_u8 (Kd.int .i64) w0 K0 a0_k_0_1 a0_k_0_1v) (h : Calls_VC a0_k_0_0 a0_k_0_1 a0_k_1 Q) : Calls Try.prog 23 #[(.pointer (some ⟨a0_k_b, a0_k_pre.length, none⟩))] w0 (fun e w' => ∃ (K' : Ghost) (r0 : Value) (o0 : Int), e = .returned r0 ∧ Q o0 ∧ Ext NX w0 K0 w' K' ∧ Models w' K' ∧ (Kd.int .i64).V K' o0 r0) := by
  unfold Calls_VC at h
  have hE0 : Ext NX w0 K0 w0 K0 := Ext.refl _ _ _
  refine calls_gen fun R hR => ?_
  refine calls_env (args := [(.pointer (some ⟨a0_k_b, a0_k_pre.length, none⟩))]) Try.func23 rfl (Nat.le_of_ble_eq_true rfl) ?_
  refine WP_seq ?_
  refine WP_region ?_
  refine WL_pure (.int .i64 0) (R_as rfl) rfl rfl ?_
  refine WL_nil ?_
  refine WP_seq ?_
  refine WP_seq ?_
  refine WP_region ?_
  refine WL_pure (.pointer (some ⟨a0_k_b, a0_k_pre.length, none⟩)) (R_mv rfl) rfl rfl ?_
  refine WL_pure (.bool false) (R_peq rfl rfl Try.underlying26) rfl rfl ?_
  refine WL_nil ?_
  refine WP_cond false rfl (fun hc => by cases hc) (fun _ => ?_)
  refine WP_skip ?_
  refine WP_seq ?_
  refine WP_region ?_
  refine WL_pure (.pointer (some ⟨a0_k_b, a0_k_pre.length, none⟩)) (R_mv rfl) rfl rfl ?_
  refine WL_pure (.pointer (some ⟨a0_k_b, a0_k_pre.length, none⟩)) (R_nilck rfl) rfl rfl ?_
  refine WL_pure (.pointer (some ⟨a0_k_b, a0_k_pre.length + 2, none⟩)) (R_fa rfl Try.underlying32 rfl rfl ty3 rfl) rfl rfl ?_
  refine WL_L hM0 (S_ldB (Foc.snd kd_Sseal_notes (Kd.int .i64)) rfl ty3 h_a0_k_B (by first | rfl | simp | omega) (fun h => h)) rfl rfl ?_
  rintro v4 (hV4 : (Kd.int .i64).V _ a0_k_1 _)
  obtain rfl := int_form hV4
  refine WL_pure (.int .i64 a0_k_1) (R_as rfl) rfl rfl ?_
  refine WL_nil ?_
  refine WP_ret ?_
  exact endR_ret hR (v := (.int .i64 a0_k_1)) (resE_1 rfl rfl) ⟨K0, (.int .i64 a0_k_1), a0_k_1, rfl, h, hE0, hM0, (int_V (hV4).wf)⟩
theorem Calls_c {w0 : World} {K0 : Ghost} {a0_k_b : Nat} {a0_k_pre a0_k_post : List Value} {a0_k_0_0v : Value} {a0_k_0_0 : (List ((List UInt8) × (List UInt8)))} {a0_k_0_1v : Value} {a0_k_0_1 : (List ((List UInt8) × Int))} {a0_k_1 : Int} (hM0 : Models w0 K0) (h_a0_k_B : Bx kd_Sseal_Book w0 K0 a0_k_b a0_k_pre a0_k_post ((a0_k_0_0v, a0_k_0_1v), a0_k_1)) (h_a0_k_0_0 : Own kd_Sseal_note 90 w0 K0 a0_k_0_0 a0_k_0_0v) (h_a0_k_0_1 : Mp kd_a32_u8 (Kd.int .i64) w0 K0 a0_k_0_1 a0_k_0_1v) : Calls Try.prog 23 #[(.pointer (some ⟨a0_k_b, a0_k_pre.length, none⟩))] w0 (fun e w' => ∃ (K' : Ghost) (r0 : Value), e = .returned r0 ∧ Ext NX w0 K0 w' K' ∧ Models w' K' ∧ (Kd.int .i64).V K' a0_k_1 r0) := by
  refine (Calls_walk hM0 h_a0_k_B h_a0_k_0_0 h_a0_k_0_1 (Calls_ok)).mono ?_
  rintro _ w' ⟨K', r0, o0, rfl, rfl, hF⟩
  exact ⟨K', r0, rfl, hF⟩
theorem ty30 : TyOk Try.prog 30 kd_Sseal_notes 32 := ⟨⟨Try.t30, _, Try.type30, rfl, rfl, rfl, rfl, rfl⟩, ⟨_, Try.underlying30, rfl⟩⟩
def Note_VC (a0_k_0_0 : (List ((List UInt8) × (List UInt8)))) (a0_k_0_1 : (List ((List UInt8) × Int))) (a0_k_1 : Int) (a1_s : (List UInt8)) (a2_b : (List UInt8)) (Q : (List ((List UInt8) × (List UInt8))) → (List ((List UInt8) × Int)) → Int → Prop) : Prop :=
  (BookInv a0_k_0_0 a0_k_0_1 ∧ a2_b.length ≤ 140737488355328 ∧ (a0_k_0_0.length + 1) * 64 ≤ 140737488355328) ∧ (Q (addL a0_k_0_0 a1_s a2_b) (addM a0_k_0_0 a0_k_0_1 a1_s a2_b) a0_k_1)
theorem Note_ok {a0_k_0_0 : (List ((List UInt8) × (List UInt8)))} {a0_k_0_1 : (List ((List UInt8) × Int))} {a0_k_1 : Int} {a1_s : (List UInt8)} {a2_b : (List UInt8)} (w_0 : kd_a32_u8.wf a1_s) (w_1 : kd_l_u8.wf a2_b) (hp : BookInv a0_k_0_0 a0_k_0_1 ∧ a2_b.length ≤ 140737488355328 ∧ (a0_k_0_0.length + 1) * 64 ≤ 140737488355328) : Note_VC a0_k_0_0 a0_k_0_1 a0_k_1 a1_s a2_b (fun o0 o1 o2 => o0 = (addL a0_k_0_0 a1_s a2_b) ∧ o1 = (addM a0_k_0_0 a0_k_0_1 a1_s a2_b) ∧ o2 = a0_k_1) := by
  exact ⟨hp, rfl, rfl, rfl⟩

theorem Note_walk {w0 : World} {K0 : Ghost} {a0_k_b : Nat} {a0_k_pre a0_k_post : List Value} {a0_k_0_0v : Value} {a0_k_0_0 : (List ((List UInt8) × (List UInt8)))} {a0_k_0_1v : Value} {a0_k_0_1 : (List ((List UInt8) × Int))} {a0_k_1 : Int} {a1_s_v : Value} {a1_s : (List UInt8)} {a2_b_v : Value} {a2_b : (List UInt8)} {Q : (List ((List UInt8) × (List UInt8))) → (List ((List UInt8) × Int)) → Int → Prop} (hM0 : Models w0 K0) (h_a0_k_B : Bx kd_Sseal_Book w0 K0 a0_k_b a0_k_pre a0_k_post ((a0_k_0_0v, a0_k_0_1v), a0_k_1)) (h_a0_k_0_0 : Own kd_Sseal_note 90 w0 K0 a0_k_0_0 a0_k_0_0v) (h_a0_k_0_1 : Mp kd_a32_u8 (Kd.int .i64) w0 K0 a0_k_0_1 a0_k_0_1v) (h_a1_s : kd_a32_u8.V K0 a1_s a1_s_v) (h_a2_b : kd_l_u8.V K0 a2_b a2_b_v) (h : Note_VC a0_k_0_0 a0_k_0_1 a0_k_1 a1_s a2_b Q) : Calls Try.prog 19 #[(.pointer (some ⟨a0_k_b, a0_k_pre.length, none⟩)), a1_s_v, a2_b_v] w0 (fun e w' => ∃ (K' : Ghost) (u0_0_0 : Value) (u0_0_1 : Value) (o0 : (List ((List UInt8) × (List UInt8)))) (o1 : (List ((List UInt8) × Int))) (o2 : Int), e = .returned (.tuple #[]) ∧ Q o0 o1 o2 ∧ Ext (fun c => c = a0_k_b ∨ ob a0_k_0_0v = some c ∨ mb a0_k_0_1v = some c) w0 K0 w' K' ∧ Models w' K' ∧ Bx kd_Sseal_Book w' K' a0_k_b a0_k_pre a0_k_post ((u0_0_0, u0_0_1), o2) ∧ Own kd_Sseal_note 90 w' K' o0 u0_0_0 ∧ (∀ g, ob u0_0_0 = some g → ob a0_k_0_0v = some g ∨ w0.heap.size ≤ g) ∧ Mp kd_a32_u8 (Kd.int .i64) w' K' o1 u0_0_1 ∧ (∀ g, mb u0_0_1 = some g → mb a0_k_0_1v = some g ∨ w0.heap.size ≤ g)) := by
  unfold Note_VC at h
  have hE0 : Ext (fun c => c = a0_k_b ∨ ob a0_k_0_0v = some c ∨ mb a0_k_0_1v = some c) w0 K0 w0 K0 := Ext.refl _ _ _
  refine calls_gen fun R hR => ?_
  refine calls_env (args := [(.pointer (some ⟨a0_k_b, a0_k_pre.length, none⟩)), a1_s_v, a2_b_v]) Try.func19 rfl (Nat.le_of_ble_eq_true rfl) ?_
  refine WP_seq ?_
  refine WP_region ?_
  refine WL_eff rfl rfl (St_B (S_box hM0 rfl h_a1_s) ?_)
  rintro b6 w6 (hB6 : Bx kd_a32_u8 _ _ _ _ _ a1_s) hS6 hM6 hge6
  have hE6 := hE0.andN hS6
  refine WL_nil ?_
  refine WP_seq ?_
  refine WP_region ?_
  refine WL_pure (.pointer (some ⟨a0_k_b, a0_k_pre.length, none⟩)) (R_mv rfl) rfl rfl ?_
  refine WL_pure (.bool true) (R_pne rfl rfl Try.underlying26) rfl rfl ?_
  refine WL_nil ?_
  refine WP_cond true rfl (fun _ => ?_) (fun hc => by cases hc)
  have hR8 := (h_a0_k_B.extN hS6)
  have hR9 := (h_a0_k_0_0.extN hS6)
  have hR10 := (h_a0_k_0_1.extN hS6)
  refine WP_ordD (K := K0) (fun c => c = a0_k_b ∨ ob a0_k_0_0v = some c ∨ mb a0_k_0_1v = some c ∨ w6.heap.size ≤ c) [.o 0 2, .o 1 2, .o 2 2, .o 3 2, .o 4 2, .o 5 1] (by kernel_rfl) (by kernel_rfl) hM6 ?_
  rintro w11 hS11 hM11
  have hE11 := hE6.andN hS11
  refine WO_pure (.pointer (some ⟨a0_k_b, a0_k_pre.length, none⟩)) rfl l0 hM11 (fun _ => R_mv rfl) rfl (gN rfl) rfl ?_
  refine WO_pure (.pointer (some ⟨a0_k_b, a0_k_pre.length, none⟩)) rfl l0 hM11 (fun _ => R_nilck rfl) rfl (gN rfl) rfl ?_
  refine WO_pure (.pointer (some ⟨a0_k_b, a0_k_pre.length + 0, none⟩)) rfl l0 hM11 (fun _ => R_fa rfl Try.underlying32 rfl rfl ty30 rfl) rfl (gN rfl) rfl ?_
  have hR13 := (hB6.extN hS11)
  refine WO_L0 hM11 (S_ldB (Foc.id _) rfl ty23 hR13 (by first | rfl | simp | omega) (fun h => h)) rfl (gN rfl) rfl ?_
  rintro v12 (hV12 : kd_a32_u8.V _ a1_s _)
  refine WO_pure a2_b_v rfl l0 hM11 (fun _ => R_mv rfl) rfl (gN rfl) rfl ?_
  have hR15 := (hR9.extN hS11)
  have hR16 := (hR10.extN hS11)
  have hR17 := (hR8.extN hS11)
  obtain ⟨p19, q19, hl19, hB19, hback19⟩ := Bx.sub (Foc.fst kd_Sseal_notes (Kd.int .i64)) hR17
  obtain ⟨hp20, h⟩ := h
  refine WO_eff rfl (gN rfl) rfl (St_call (R_call Try.call47 (mapC (show (Value.pointer (some ⟨a0_k_b, a0_k_pre.length + 0, none⟩)) = .pointer (some ⟨a0_k_b, ((a0_k_pre : List Value) ++ p19).length, none⟩) from by rw [List.length_append, hl19]; first | done | simp) (mapC rfl (mapC rfl mapN)))) ((add_c hM11 hB19 hR15 hR16 hV12 (h_a2_b.mono (hS6.le.trans hS11.le)) hp20).mono ?_))
  rintro _ w18 ⟨K18, u18_0_0, u18_0_1, rfl, hS18, hM18, hB18_m0, hu18_0_0, hxu18_0_0, hu18_0_1, hxu18_0_1⟩
  refine ⟨(.tuple #[]), rfl, ?_⟩
  refine ⟨K18, (hS18.weak (fun c hlt hx => Or.elim hx (fun hx => (.inl (hx))) (fun hx => Or.elim hx (fun hx => (.inr (.inl (hx)))) (fun hx => (.inr (.inr (.inl (hx)))))))), hM18, ?_⟩
  have hE18 := hE11.comp hS18 (fun c hx hlt => Or.elim hx (fun hx => (by subst hx; exact (fun _ => (.inl rfl)) hlt)) (fun hx => Or.elim hx (fun hx => (fun g hg _ => (.inr (.inl hg))) c hx hlt) (fun hx => (fun g hg _ => (.inr (.inr (hg)))) c hx hlt)))
  have hf21 : ∀ g, ob u18_0_0 = some g → g < w0.heap.size → g = a0_k_b ∨ ob a0_k_0_0v = some g ∨ mb a0_k_0_1v = some g := fun g hg hlt => (hxu18_0_0 g hg).elim (fun hx => (fun g hg _ => (.inr (.inl hg))) g hx hlt) (fun hx => absurd hlt (Nat.not_lt.2 (Nat.le_trans hE11.size hx)))
  have hf22 : ∀ g, mb u18_0_1 = some g → g < w0.heap.size → g = a0_k_b ∨ ob a0_k_0_0v = some g ∨ mb a0_k_0_1v = some g := fun g hg hlt => (hxu18_0_1 g hg).elim (fun hx => (fun g hg _ => (.inr (.inr (hg)))) g hx hlt) (fun hx => absurd hlt (Nat.not_lt.2 (Nat.le_trans hE11.size hx)))
  have hB18_w : Bx kd_Sseal_Book w18 K18 a0_k_b a0_k_pre a0_k_post ((u18_0_0, u18_0_1), a0_k_1) := hback19 hS18.le hB18_m0
  refine WO_nil ?_
  exact endR_nrm hR (v := (.tuple #[])) (resE_0 rfl) ⟨K18, u18_0_0, u18_0_1, (addL a0_k_0_0 a1_s a2_b), (addM a0_k_0_0 a0_k_0_1 a1_s a2_b), a0_k_1, rfl, h, hE18, hM18, hB18_w, hu18_0_0, (fun g hg => ((hxu18_0_0 g hg).elim (fun hz => (.inl hz)) (fun hz => .inr (Nat.le_trans hE11.size hz)))), hu18_0_1, (fun g hg => ((hxu18_0_1 g hg).elim (fun hz => (.inl hz)) (fun hz => .inr (Nat.le_trans hE11.size hz))))⟩
theorem Note_c {w0 : World} {K0 : Ghost} {a0_k_b : Nat} {a0_k_pre a0_k_post : List Value} {a0_k_0_0v : Value} {a0_k_0_0 : (List ((List UInt8) × (List UInt8)))} {a0_k_0_1v : Value} {a0_k_0_1 : (List ((List UInt8) × Int))} {a0_k_1 : Int} {a1_s_v : Value} {a1_s : (List UInt8)} {a2_b_v : Value} {a2_b : (List UInt8)} (hM0 : Models w0 K0) (h_a0_k_B : Bx kd_Sseal_Book w0 K0 a0_k_b a0_k_pre a0_k_post ((a0_k_0_0v, a0_k_0_1v), a0_k_1)) (h_a0_k_0_0 : Own kd_Sseal_note 90 w0 K0 a0_k_0_0 a0_k_0_0v) (h_a0_k_0_1 : Mp kd_a32_u8 (Kd.int .i64) w0 K0 a0_k_0_1 a0_k_0_1v) (h_a1_s : kd_a32_u8.V K0 a1_s a1_s_v) (h_a2_b : kd_l_u8.V K0 a2_b a2_b_v) (hp : BookInv a0_k_0_0 a0_k_0_1 ∧ a2_b.length ≤ 140737488355328 ∧ (a0_k_0_0.length + 1) * 64 ≤ 140737488355328) : Calls Try.prog 19 #[(.pointer (some ⟨a0_k_b, a0_k_pre.length, none⟩)), a1_s_v, a2_b_v] w0 (fun e w' => ∃ (K' : Ghost) (u0_0_0 : Value) (u0_0_1 : Value), e = .returned (.tuple #[]) ∧ Ext (fun c => c = a0_k_b ∨ ob a0_k_0_0v = some c ∨ mb a0_k_0_1v = some c) w0 K0 w' K' ∧ Models w' K' ∧ Bx kd_Sseal_Book w' K' a0_k_b a0_k_pre a0_k_post ((u0_0_0, u0_0_1), a0_k_1) ∧ Own kd_Sseal_note 90 w' K' (addL a0_k_0_0 a1_s a2_b) u0_0_0 ∧ (∀ g, ob u0_0_0 = some g → ob a0_k_0_0v = some g ∨ w0.heap.size ≤ g) ∧ Mp kd_a32_u8 (Kd.int .i64) w' K' (addM a0_k_0_0 a0_k_0_1 a1_s a2_b) u0_0_1 ∧ (∀ g, mb u0_0_1 = some g → mb a0_k_0_1v = some g ∨ w0.heap.size ≤ g)) := by
  refine (Note_walk hM0 h_a0_k_B h_a0_k_0_0 h_a0_k_0_1 h_a1_s h_a2_b (Note_ok h_a1_s.wf h_a2_b.wf hp)).mono ?_
  rintro _ w' ⟨K', u0, u1, o0, o1, o2, rfl, ⟨rfl, rfl, rfl⟩, hF⟩
  exact ⟨K', u0, u1, rfl, hF⟩
def Find_VC (a0_k_0_0 : (List ((List UInt8) × (List UInt8)))) (a0_k_0_1 : (List ((List UInt8) × Int))) (a0_k_1 : Int) (a1_s : (List UInt8)) (Q : (List UInt8) → Bool → Prop) : Prop :=
  ((¬ (((mfind a1_s a0_k_0_1).isSome) = true)) → Q ([] : List UInt8) false) ∧ ((((mfind a1_s a0_k_0_1).isSome) = true) → (0 ≤ ((mfind a1_s a0_k_0_1).getD 0) ∧ ((mfind a1_s a0_k_0_1).getD 0) < (a0_k_0_0.length : Int)) ∧ ((((ix a0_k_0_0 ((mfind a1_s a0_k_0_1).getD 0)).2).length ≤ 140737488355328) ∧ ((kd_l_u8.wf ((ix a0_k_0_0 ((mfind a1_s a0_k_0_1).getD 0)).2)) → (Q ((ix a0_k_0_0 ((mfind a1_s a0_k_0_1).getD 0)).2) true))))
theorem Find_ok {a0_k_0_0 : (List ((List UInt8) × (List UInt8)))} {a0_k_0_1 : (List ((List UInt8) × Int))} {a0_k_1 : Int} {a1_s : (List UInt8)} (w_0 : kd_a32_u8.wf a1_s) (hp : BookInv a0_k_0_0 a0_k_0_1 ∧ ∀ x ∈ a0_k_0_0, x.2.length ≤ 140737488355328) : Find_VC a0_k_0_0 a0_k_0_1 a0_k_1 a1_s (fun o0 o1 => o0 = (noteAt a0_k_0_0 a1_s) ∧ o1 = (firstOf a1_s a0_k_0_0 0).isSome) := by
  obtain ⟨h1, h2⟩ := hp
  unfold Find_VC
  rw [h1 a1_s]
  refine ⟨fun h => ?_, fun h => ?_⟩
  · cases hf : firstOf a1_s a0_k_0_0 0 with
    | none => exact ⟨by simp [noteAt, hf], rfl⟩
    | some a => rw [hf] at h; exact absurd rfl h
  · cases hf : firstOf a1_s a0_k_0_0 0 with
    | none => rw [hf] at h; cases h
    | some a =>
      obtain ⟨j, rfl, hl, -⟩ := firstOf_some hf
      simp only [Option.getD_some]
      refine ⟨⟨by omega, by omega⟩, h2 _ (ix_mem (by omega) (by omega)), fun _ => ⟨by simp [noteAt, hf], rfl⟩⟩

theorem Find_walk {w0 : World} {K0 : Ghost} {a0_k_b : Nat} {a0_k_pre a0_k_post : List Value} {a0_k_0_0v : Value} {a0_k_0_0 : (List ((List UInt8) × (List UInt8)))} {a0_k_0_1v : Value} {a0_k_0_1 : (List ((List UInt8) × Int))} {a0_k_1 : Int} {a1_s_v : Value} {a1_s : (List UInt8)} {Q : (List UInt8) → Bool → Prop} (hM0 : Models w0 K0) (h_a0_k_B : Bx kd_Sseal_Book w0 K0 a0_k_b a0_k_pre a0_k_post ((a0_k_0_0v, a0_k_0_1v), a0_k_1)) (h_a0_k_0_0 : Own kd_Sseal_note 90 w0 K0 a0_k_0_0 a0_k_0_0v) (h_a0_k_0_1 : Mp kd_a32_u8 (Kd.int .i64) w0 K0 a0_k_0_1 a0_k_0_1v) (h_a1_s : kd_a32_u8.V K0 a1_s a1_s_v) (h : Find_VC a0_k_0_0 a0_k_0_1 a0_k_1 a1_s Q) : Calls Try.prog 16 #[(.pointer (some ⟨a0_k_b, a0_k_pre.length, none⟩)), a1_s_v] w0 (fun e w' => ∃ (K' : Ghost) (r0 : Value) (r1 : Value) (o0 : (List UInt8)) (o1 : Bool), e = .returned (.tuple #[r0, r1]) ∧ Q o0 o1 ∧ Ext NX w0 K0 w' K' ∧ Models w' K' ∧ Own Kd.byte 5 w' K' o0 r0 ∧ (∀ g, ob r0 = some g → w0.heap.size ≤ g) ∧ Kd.bool.V K' o1 r1) := by
  unfold Find_VC at h
  have hE0 : Ext NX w0 K0 w0 K0 := Ext.refl _ _ _
  refine calls_gen fun R hR => ?_
  refine calls_env (args := [(.pointer (some ⟨a0_k_b, a0_k_pre.length, none⟩)), a1_s_v]) Try.func16 rfl (Nat.le_of_ble_eq_true rfl) ?_
  refine WP_seq ?_
  refine WP_region ?_
  refine WL_eff rfl rfl (St_B (S_box hM0 rfl h_a1_s) ?_)
  rintro b5 w5 (hB5 : Bx kd_a32_u8 _ _ _ _ _ a1_s) hS5 hM5 hge5
  have hE5 := hE0.andN hS5
  have hR7 : Own Kd.byte 5 w5 K0 ([] : List UInt8) (.slice none 0 0) := Own.nil
  refine WL_pure (.slice none 0 0) (R_as rfl) rfl rfl ?_
  refine WL_pure (.bool false) (R_as rfl) rfl rfl ?_
  refine WL_nil ?_
  refine WP_seq ?_
  refine WP_seq ?_
  refine WP_region ?_
  refine WL_pure (.pointer (some ⟨a0_k_b, a0_k_pre.length, none⟩)) (R_mv rfl) rfl rfl ?_
  refine WL_pure (.bool false) (R_peq rfl rfl Try.underlying26) rfl rfl ?_
  refine WL_nil ?_
  refine WP_cond false rfl (fun hc => by cases hc) (fun _ => ?_)
  refine WP_skip ?_
  refine WP_seq ?_
  refine WP_ordD (K := K0) NX [.o 0 2, .o 1 2, .o 2 2, .o 3 2, .o 4 2, .o 5 2, .o 6 2, .o 7 2, .o 8 2, .o 9 2, .o 10 2, .o 11 2] (by kernel_rfl) (by kernel_rfl) hM5 ?_
  rintro w8 hS8 hM8
  have hE8 := hE5.andN hS8
  refine WO_pure (.pointer (some ⟨a0_k_b, a0_k_pre.length, none⟩)) rfl l0 hM8 (fun _ => R_mv rfl) rfl (gN rfl) rfl ?_
  refine WO_pure (.pointer (some ⟨a0_k_b, a0_k_pre.length, none⟩)) rfl l0 hM8 (fun _ => R_nilck rfl) rfl (gN rfl) rfl ?_
  refine WO_pure (.pointer (some ⟨a0_k_b, a0_k_pre.length + 0, none⟩)) rfl l0 hM8 (fun _ => R_fa rfl Try.underlying32 rfl rfl ty30 rfl) rfl (gN rfl) rfl ?_
  refine WO_pure (.pointer (some ⟨a0_k_b, a0_k_pre.length + 0 + 1, none⟩)) rfl l0 hM8 (fun _ => R_fa rfl Try.underlying30 rfl rfl ty28r rfl) rfl (gN rfl) rfl ?_
  have hR10 := ((h_a0_k_B.extN hS5).extN hS8)
  refine WO_L0 hM8 (S_ldB (Foc.trans (Foc.fst kd_Sseal_notes (Kd.int .i64)) (Foc.snd Kd.rsl Kd.rmp)) rfl ty28r hR10 (by first | rfl | simp | omega) (fun h => h)) rfl (gN rfl) rfl ?_
  rintro v9 (hV9 : Kd.rmp.V _ a0_k_0_1v _)
  obtain rfl := rw_form hV9
  have hR12 := (hB5.extN hS8)
  refine WO_L0 hM8 (S_ldB (Foc.id _) rfl ty23 hR12 (by first | rfl | simp | omega) (fun h => h)) rfl (gN rfl) rfl ?_
  rintro v11 (hV11 : kd_a32_u8.V _ a1_s _)
  have hR15 := ((h_a0_k_0_1.extN hS5).extN hS8)
  refine WO_LK0 hM8 (S_lkp (kv := (Kd.int .i64)) rfl rfl hR15 hV11 Try.underlying28 (keyOk_arr Try.underlying23 Try.underlying5 ty5b) ty3 (fun _ _ h => h)) rfl (gN rfl) rfl ?_
  rintro v14 (hV14 : (Kd.int .i64).V _ ((mfind a1_s a0_k_0_1).getD 0) _)
  obtain rfl := int_form hV14
  refine WO_pure (.tuple #[(.int .i64 ((mfind a1_s a0_k_0_1).getD 0)), (.bool ((mfind a1_s a0_k_0_1).isSome))]) rfl l0 hM8 (fun _ => R_mv rfl) rfl (gN rfl) rfl ?_
  refine WO_pure (.int .i64 ((mfind a1_s a0_k_0_1).getD 0)) rfl l0 hM8 (fun _ => R_ext rfl rfl) rfl (gN rfl) rfl ?_
  refine WO_pure (.bool ((mfind a1_s a0_k_0_1).isSome)) rfl l0 hM8 (fun _ => R_ext rfl rfl) rfl (gN rfl) rfl ?_
  refine WO_pure (.int .i64 ((mfind a1_s a0_k_0_1).getD 0)) rfl l0 hM8 (fun _ => R_as rfl) rfl (gN rfl) rfl ?_
  refine WO_pure (.bool ((mfind a1_s a0_k_0_1).isSome)) rfl l0 hM8 (fun _ => R_as rfl) rfl (gN rfl) rfl ?_
  refine WO_nil ?_
  refine WP_seq ?_
  refine WP_seq ?_
  refine WP_region ?_
  refine WL_pure (.bool ((mfind a1_s a0_k_0_1).isSome)) (R_mv rfl) rfl rfl ?_
  refine WL_pure (.bool (!((mfind a1_s a0_k_0_1).isSome))) (R_not rfl) rfl rfl ?_
  refine WL_nil ?_
  refine WP_cond (!((mfind a1_s a0_k_0_1).isSome)) rfl (fun hc16 => ?_) (fun hc16 => ?_)
  · have hd16 : ¬ (((mfind a1_s a0_k_0_1).isSome) = true) := nbb_t hc16
    have h := h.1 hd16
    refine WP_seq ?_
    refine WP_region ?_
    have hR17 : Own Kd.byte 5 w8 K0 ([] : List UInt8) (.slice none 0 0) := Own.nil
    refine WL_pure (.slice none 0 0) (R_as rfl) rfl rfl ?_
    refine WL_pure (.bool false) (R_as rfl) rfl rfl ?_
    refine WL_nil ?_
    refine WP_ret ?_
    exact endR_ret hR (v := (.tuple #[(.slice none 0 0), (.bool false)])) (resE_2 rfl rfl rfl) ⟨K0, (.slice none 0 0), (.bool false), ([] : List UInt8), false, rfl, h, hE8, hM8, hR17, (fun g hg => nilS hg), bool_V⟩
  · have hd16 : ((mfind a1_s a0_k_0_1).isSome) = true := nbb_f hc16
    have h := h.2 hd16
    refine WP_skip ?_
    refine WP_seq ?_
    refine WP_region ?_
    refine WL_pure (.pointer (some ⟨a0_k_b, a0_k_pre.length, none⟩)) (R_mv rfl) rfl rfl ?_
    refine WL_pure (.pointer (some ⟨a0_k_b, a0_k_pre.length, none⟩)) (R_nilck rfl) rfl rfl ?_
    refine WL_pure (.pointer (some ⟨a0_k_b, a0_k_pre.length + 0, none⟩)) (R_fa rfl Try.underlying32 rfl rfl ty30 rfl) rfl rfl ?_
    refine WL_pure (.pointer (some ⟨a0_k_b, a0_k_pre.length + 0 + 0, none⟩)) (R_fa rfl Try.underlying30 rfl rfl ty27r rfl) rfl rfl ?_
    refine WL_L hM8 (S_ldB (Foc.trans (Foc.fst kd_Sseal_notes (Kd.int .i64)) (Foc.fst Kd.rsl Kd.rmp)) rfl ty27r hR10 (by first | rfl | simp | omega) (fun h => h)) rfl rfl ?_
    rintro v18 (hV18 : Kd.rsl.V _ a0_k_0_0v _)
    obtain rfl := rw_form hV18
    refine WL_pure (.int .i64 ((mfind a1_s a0_k_0_1).getD 0)) (R_mv rfl) rfl rfl ?_
    obtain ⟨hp20, h⟩ := h
    refine WL_P (S_ixs rfl (h_a0_k_0_0.V.mono (hS5.le.trans hS8.le)) rfl Try.underlying27 ty90 hp20.1 hp20.2) rfl rfl ?_
    rintro b19 o19 hP19
    have hP22 := Kd.Pt.foc (Foc.snd kd_a32_u8 kd_l_u8) hP19
    refine WL_pure (.pointer (some ⟨b19, o19 + 32, none⟩)) (R_fa rfl Try.underlying90 rfl rfl ty39 rfl) rfl rfl ?_
    refine WL_L hM8 (S_ld rfl ty39 hP22) rfl rfl ?_
    rintro v24 (hV24 : kd_l_u8.V _ ((ix a0_k_0_0 ((mfind a1_s a0_k_0_1).getD 0)).2) _)
    have hR26 := ((h_a0_k_0_0.extN hS5).extN hS8)
    have hR27 := (hR7.extN hS8)
    obtain ⟨hp29, h⟩ := h
    refine WL_eff rfl rfl (St_call (R_call Try.call46 rfl) ((Clone_c hM8 hV24 hp29).mono ?_))
    rintro _ w28 ⟨K28, v28_0, rfl, hS28, hM28, hO28_0, hg28_0⟩
    refine ⟨v28_0, rfl, ?_⟩
    have hE28 := hE8.andN hS28
    have h := h hO28_0.wf
    refine WL_pure v28_0 (R_as rfl) rfl rfl ?_
    refine WL_pure (.bool true) (R_as rfl) rfl rfl ?_
    refine WL_nil ?_
    refine WP_ret ?_
    exact endR_ret hR (v := (.tuple #[v28_0, (.bool true)])) (resE_2 rfl rfl rfl) ⟨K28, v28_0, (.bool true), ((ix a0_k_0_0 ((mfind a1_s a0_k_0_1).getD 0)).2), true, rfl, h, hE28, hM28, hO28_0, (fun g hg => Nat.le_trans hE8.size (hg28_0 g hg)), bool_V⟩
theorem Find_c {w0 : World} {K0 : Ghost} {a0_k_b : Nat} {a0_k_pre a0_k_post : List Value} {a0_k_0_0v : Value} {a0_k_0_0 : (List ((List UInt8) × (List UInt8)))} {a0_k_0_1v : Value} {a0_k_0_1 : (List ((List UInt8) × Int))} {a0_k_1 : Int} {a1_s_v : Value} {a1_s : (List UInt8)} (hM0 : Models w0 K0) (h_a0_k_B : Bx kd_Sseal_Book w0 K0 a0_k_b a0_k_pre a0_k_post ((a0_k_0_0v, a0_k_0_1v), a0_k_1)) (h_a0_k_0_0 : Own kd_Sseal_note 90 w0 K0 a0_k_0_0 a0_k_0_0v) (h_a0_k_0_1 : Mp kd_a32_u8 (Kd.int .i64) w0 K0 a0_k_0_1 a0_k_0_1v) (h_a1_s : kd_a32_u8.V K0 a1_s a1_s_v) (hp : BookInv a0_k_0_0 a0_k_0_1 ∧ ∀ x ∈ a0_k_0_0, x.2.length ≤ 140737488355328) : Calls Try.prog 16 #[(.pointer (some ⟨a0_k_b, a0_k_pre.length, none⟩)), a1_s_v] w0 (fun e w' => ∃ (K' : Ghost) (r0 : Value) (r1 : Value), e = .returned (.tuple #[r0, r1]) ∧ Ext NX w0 K0 w' K' ∧ Models w' K' ∧ Own Kd.byte 5 w' K' (noteAt a0_k_0_0 a1_s) r0 ∧ (∀ g, ob r0 = some g → w0.heap.size ≤ g) ∧ Kd.bool.V K' ((firstOf a1_s a0_k_0_0 0).isSome) r1) := by
  refine (Find_walk hM0 h_a0_k_B h_a0_k_0_0 h_a0_k_0_1 h_a1_s (Find_ok h_a1_s.wf hp)).mono ?_
  rintro _ w' ⟨K', r0, r1, o0, o1, rfl, ⟨rfl, rfl⟩, hF⟩
  exact ⟨K', r0, r1, rfl, hF⟩
end Go.Proofs.Ytfbhiilolpamaaa
