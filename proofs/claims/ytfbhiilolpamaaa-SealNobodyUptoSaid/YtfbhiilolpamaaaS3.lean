/- Each function that stands here: what its call must answer for (_VC), that it does (_ok), the walk through its code (_walk), its contract (_c). -/
import Derived.Test.YtfbhiilolpamaaaS2
import Derived.Test.YtfbhiilolpamaaaChecked
set_option linter.unusedVariables false
set_option maxRecDepth 100000
set_option maxHeartbeats 2000000
namespace Go.Proofs.Ytfbhiilolpamaaa
open Go Go.RowKit Go.Inc
abbrev kd_l_i64 : Kd (List Int) := (Kd.sl (Kd.int .i64))
theorem ty3 : TyOk Try.prog 3 (Kd.int .i64) 8 := ⟨⟨Try.t3, _, Try.type3, rfl, rfl, rfl, rfl, rfl⟩, ⟨_, Try.underlying3, rfl⟩⟩
def turns_VC (a0_x : Int) (a1_l : (List Int)) (Q : Int → Prop) : Prop :=
  ∃ (I2 : Int → Int → Prop) (μ2 : Int → Int → Nat), I2 0 0 ∧ ∀ (sum2 : Int) (i2 : Int), I2 sum2 i2 → ((Kd.int .u32).wf sum2) → ((Kd.int .i64).wf i2) → (((i2 < (a1_l.length : Int)) → (0 ≤ i2 ∧ i2 < (a1_l.length : Int)) ∧ (((Kd.int .u32).wf (rotl a0_x (IntKind.i64.wrap (0 - (ix a1_l i2))))) → (I2 (bxor .u32 sum2 (rotl a0_x (IntKind.i64.wrap (0 - (ix a1_l i2))))) (i2 + 1) ∧ μ2 (bxor .u32 sum2 (rotl a0_x (IntKind.i64.wrap (0 - (ix a1_l i2))))) (i2 + 1) < μ2 sum2 i2))) ∧ ((¬ (i2 < (a1_l.length : Int))) → Q sum2))
theorem turns_ok {a0_x : Int} {a1_l : (List Int)} (w_0 : (Kd.int .u32).wf a0_x) (w_1 : kd_l_i64.wf a1_l) : turns_VC a0_x a1_l (fun o0 => o0 = (turnsOf a0_x a1_l)) := by
  unfold turns_VC
  refine ⟨fun s i => ∃ j : Nat, i = (j : Int) ∧ j ≤ a1_l.length ∧ s = turnsOf a0_x (a1_l.take j), fun _ i => a1_l.length - i.toNat, ⟨0, rfl, by omega, rfl⟩, ?_⟩
  rintro s i ⟨j, rfl, hj, rfl⟩ _ _
  refine ⟨fun hlt => ⟨⟨by omega, hlt⟩, fun _ => ⟨⟨j + 1, by omega, by omega, ?_⟩, ?_⟩⟩, fun hge => ?_⟩
  · rw [take_step hlt]
    simp [turnsOf]
  · show a1_l.length - ((j : Int) + 1).toNat < a1_l.length - (j : Int).toNat
    omega
  · have : j = a1_l.length := by omega
    subst this
    rw [List.take_length]

theorem turns_walk {w0 : World} {K0 : Ghost} {a0_x_v : Value} {a0_x : Int} {a1_l_v : Value} {a1_l : (List Int)} {Q : Int → Prop} (hM0 : Models w0 K0) (h_a0_x : (Kd.int .u32).V K0 a0_x a0_x_v) (h_a1_l : kd_l_i64.V K0 a1_l a1_l_v) (h : turns_VC a0_x a1_l Q) : Calls Try.prog 105 #[a0_x_v, a1_l_v] w0 (fun e w' => ∃ (K' : Ghost) (r0 : Value) (o0 : Int), e = .returned r0 ∧ Q o0 ∧ Ext NX w0 K0 w' K' ∧ Models w' K' ∧ (Kd.int .u32).V K' o0 r0) := by
  unfold turns_VC at h
  obtain rfl := int_form h_a0_x
  have hE0 : Ext NX w0 K0 w0 K0 := Ext.refl _ _ _
  refine calls_gen fun R hR => ?_
  refine calls_env (args := [(.int .u32 a0_x), a1_l_v]) Try.func105 rfl (Nat.le_of_ble_eq_true rfl) ?_
  refine WP_seq ?_
  refine WP_region ?_
  refine WL_pure (.int .u32 0) (R_as rfl) rfl rfl ?_
  refine WL_nil ?_
  refine WP_seq ?_
  refine WP_region ?_
  refine WL_pure (.int .u32 0) (R_as rfl) rfl rfl ?_
  refine WL_nil ?_
  refine WP_seq ?_
  refine WP_seq ?_
  refine WP_region ?_
  refine WL_pure a1_l_v (R_mv rfl) rfl rfl ?_
  refine WL_pure (.int .i64 (a1_l.length : Int)) (R_len rfl h_a1_l Try.underlying168) rfl rfl ?_
  refine WL_pure (.int .i64 0) (R_mv rfl) rfl rfl ?_
  refine WL_nil ?_
  refine WP_block ?_
  obtain ⟨I2, μ2, h0, h⟩ := h
  refine WP_loopE (ι := Int × Int) [5, 7, 10, 11, 12, 13, 14, 15, 16, 17, 18, 19, 20] (fun s l w => ∃ K, I2 s.1 s.2 ∧ l = [(5, (.int .u32 s.1)), (10, (.int .i64 s.2))] ∧ Ext NX w0 K0 w K ∧ Models w K ∧ (Kd.int .u32).wf s.1 ∧ (Kd.int .i64).wf s.2) (fun s => μ2 s.1 s.2) (0, 0) [(5, (.int .u32 0)), (10, (.int .i64 0))]
    ⟨K0, h0, rfl, Ext.refl _ _ _, hM0, (show (Kd.int .u32).wf 0 from by constructor <;> decide), (show (Kd.int .i64).wf 0 from by constructor <;> decide)⟩ (by repeat (first | exact trivial | refine ⟨rfl, ?_⟩)) ?_
  rintro ⟨sum2, i2⟩ l σ2 w3 ⟨K3, hI, rfl, hX3, hM3, hw2_5, hw2_10⟩
  dsimp only at hI hw2_5 hw2_10
  have hE3 := hE0.andN hX3
  have h := h sum2 i2 hI hw2_5 hw2_10
  refine WP_seq ?_
  refine WP_region ?_
  refine WL_pure (.bool (decide (i2 < (a1_l.length : Int)))) (R_lss rfl rfl) rfl rfl ?_
  refine WL_nil ?_
  refine WP_seq ?_
  refine WP_cond (decide (i2 < (a1_l.length : Int))) rfl (fun hc4 => ?_) (fun hc4 => ?_)
  · have hd4 : i2 < (a1_l.length : Int) := dec_t hc4
    have h := h.1 hd4
    refine WP_skip ?_
    refine WP_seq ?_
    refine WP_block ?_
    refine WP_seq ?_
    refine WP_region ?_
    obtain ⟨hp6, h⟩ := h
    refine WL_P (S_ixs rfl (h_a1_l.mono hX3.le) rfl Try.underlying168 ty3 hp6.1 hp6.2) rfl rfl ?_
    rintro b5 o5 hP5
    refine WL_L hM3 (S_ld rfl ty3 hP5) rfl rfl ?_
    rintro v8 (hV8 : (Kd.int .i64).V _ (ix a1_l i2) _)
    obtain rfl := int_form hV8
    refine WL_pure (.int .i64 (ix a1_l i2)) (R_as rfl) rfl rfl ?_
    refine WL_nil ?_
    refine WP_region ?_
    refine WL_pure (.int .u32 sum2) (R_mv rfl) rfl rfl ?_
    refine WL_pure (.int .u32 a0_x) (R_mv rfl) rfl rfl ?_
    refine WL_pure (.int .i64 (ix a1_l i2)) (R_mv rfl) rfl rfl ?_
    refine WL_pure (.int .i64 (IntKind.i64.wrap (0 - (ix a1_l i2)))) (R_neg rfl) rfl rfl ?_
    refine WL_eff rfl rfl (St_call (R_call Try.call107 rfl) ((Rotl_c hM3 (int_V (h_a0_x).wf) (int_V (wrap_wf _ _))).mono ?_))
    rintro _ w9 ⟨K9, v9_0, rfl, hS9, hM9, hV9_0⟩
    refine ⟨v9_0, rfl, ?_⟩
    have hE9 := hE3.andN hS9
    obtain rfl := int_form hV9_0
    have h := h hV9_0.wf
    refine WL_pure (.int .u32 (bxor .u32 sum2 (rotl a0_x (IntKind.i64.wrap (0 - (ix a1_l i2)))))) (R_xor rfl rfl) rfl rfl ?_
    refine WL_pure (.int .u32 (bxor .u32 sum2 (rotl a0_x (IntKind.i64.wrap (0 - (ix a1_l i2)))))) (R_as rfl) rfl rfl ?_
    refine WL_nil ?_
    refine WP_region ?_
    refine WL_pure (.int .i64 (i2 + 1)) (R_inc rfl rfl hw2_10 hd4 (len_wf (h_a1_l).wf.1)) rfl rfl ?_
    refine WL_pure (.int .i64 (i2 + 1)) (R_mv rfl) rfl rfl ?_
    refine WL_nil ?_
    refine BackQ.mk ((bxor .u32 sum2 (rotl a0_x (IntKind.i64.wrap (0 - (ix a1_l i2))))), (i2 + 1)) [(5, (.int .u32 (bxor .u32 sum2 (rotl a0_x (IntKind.i64.wrap (0 - (ix a1_l i2))))))), (10, (.int .i64 (i2 + 1)))] ?_ ?_ ?_ ?_
    rotate_left
    · exact h.2
    · repeat (first | exact Off.lay0 rfl | refine Off.updO ?_ rfl _ | refine Off.updN ?_ _ | refine Off.lay ?_ rfl)
    · repeat (first | exact trivial | refine ⟨rfl, ?_⟩)
    exact ⟨K9, h.1, rfl, (((Ext.refl _ _ _).andN hX3).andN hS9), hM9, (wrap_wf _ _), (inc_wf hw2_10 hd4 (len_wf (h_a1_l).wf.1))⟩
  · have hd4 : ¬ (i2 < (a1_l.length : Int)) := dec_f hc4
    have h := h.2 hd4
    refine WP_exit ?_
    refine WP_seq ?_
    refine WP_region ?_
    refine WL_pure (.int .u32 sum2) (R_mv rfl) rfl rfl ?_
    refine WL_pure (.int .u32 sum2) (R_as rfl) rfl rfl ?_
    refine WL_nil ?_
    refine WP_ret ?_
    exact endR_ret hR (v := (.int .u32 sum2)) (resE_1 rfl rfl) ⟨K3, (.int .u32 sum2), sum2, rfl, h, hE3, hM3, (int_V hw2_5)⟩
theorem turns_c {w0 : World} {K0 : Ghost} {a0_x_v : Value} {a0_x : Int} {a1_l_v : Value} {a1_l : (List Int)} (hM0 : Models w0 K0) (h_a0_x : (Kd.int .u32).V K0 a0_x a0_x_v) (h_a1_l : kd_l_i64.V K0 a1_l a1_l_v) : Calls Try.prog 105 #[a0_x_v, a1_l_v] w0 (fun e w' => ∃ (K' : Ghost) (r0 : Value), e = .returned r0 ∧ Ext NX w0 K0 w' K' ∧ Models w' K' ∧ (Kd.int .u32).V K' (turnsOf a0_x a1_l) r0) := by
  refine (turns_walk hM0 h_a0_x h_a1_l (turns_ok h_a0_x.wf h_a1_l.wf)).mono ?_
  rintro _ w' ⟨K', r0, o0, rfl, rfl, hF⟩
  exact ⟨K', r0, rfl, hF⟩
def alike_VC (a0_a : (List (List UInt8))) (a1_b : (List (List UInt8))) (Q : Bool → Prop) : Prop :=
  (((a0_a.length : Int) ≠ (a1_b.length : Int)) → Q false) ∧ ((¬ ((a0_a.length : Int) ≠ (a1_b.length : Int))) → ∃ (I4 : Bool → Int → Prop) (μ4 : Bool → Int → Nat), I4 false 0 ∧ ∀ (i4 : Bool) (i4' : Int), I4 i4 i4' → ((Kd.int .i64).wf i4') → (((i4' < (a0_a.length : Int)) → (0 ≤ i4' ∧ i4' < (a0_a.length : Int)) ∧ ((0 ≤ i4' ∧ i4' < (a1_b.length : Int)) ∧ ((((ix a0_a i4') ≠ (ix a1_b i4')) → Q false) ∧ ((¬ ((ix a0_a i4') ≠ (ix a1_b i4'))) → I4 i4 (i4' + 1) ∧ μ4 i4 (i4' + 1) < μ4 i4 i4')))) ∧ ((¬ (i4' < (a0_a.length : Int))) → Q true)))
theorem alike_ok {a0_a : (List (List UInt8))} {a1_b : (List (List UInt8))} (w_0 : kd_l_l_u8.wf a0_a) (w_1 : kd_l_l_u8.wf a1_b) : alike_VC a0_a a1_b (fun o0 => o0 = decide (a0_a = a1_b)) := by
  unfold alike_VC
  refine ⟨fun h => ?_, fun h => ?_⟩
  · have : a0_a ≠ a1_b := fun e => h (by rw [e])
    simp [this]
  · have hl : a0_a.length = a1_b.length := by omega
    refine ⟨fun _ i => ∃ j : Nat, i = (j : Int) ∧ j ≤ a0_a.length ∧ a0_a.take j = a1_b.take j, fun _ i => a0_a.length - i.toNat, ⟨0, rfl, by omega, by simp⟩, ?_⟩
    rintro _ i ⟨j, rfl, hj, he⟩ _
    refine ⟨fun hlt => ⟨⟨by omega, hlt⟩, ⟨by omega, by omega⟩, fun hne => ?_, fun heq => ⟨⟨j + 1, by omega, by omega, ?_⟩, ?_⟩⟩, fun hge => ?_⟩
    · have : a0_a ≠ a1_b := fun e => hne (by rw [e])
      simp [this]
    · rw [take_step hlt, take_step (l := a1_b) (by omega), he]
      simp only [ne_eq, Decidable.not_not] at heq
      rw [heq]
    · show a0_a.length - ((j : Int) + 1).toNat < a0_a.length - (j : Int).toNat
      omega
    · have : j = a0_a.length := by omega
      subst this
      rw [List.take_length, hl, List.take_length] at he
      simp [he]

theorem alike_walk {w0 : World} {K0 : Ghost} {a0_a_v : Value} {a0_a : (List (List UInt8))} {a1_b_v : Value} {a1_b : (List (List UInt8))} {Q : Bool → Prop} (hM0 : Models w0 K0) (h_a0_a : kd_l_l_u8.V K0 a0_a a0_a_v) (h_a1_b : kd_l_l_u8.V K0 a1_b a1_b_v) (h : alike_VC a0_a a1_b Q) : Calls Try.prog 27 #[a0_a_v, a1_b_v] w0 (fun e w' => ∃ (K' : Ghost) (r0 : Value) (o0 : Bool), e = .returned r0 ∧ Q o0 ∧ Ext NX w0 K0 w' K' ∧ Models w' K' ∧ Kd.bool.V K' o0 r0) := by
  unfold alike_VC at h
  have hE0 : Ext NX w0 K0 w0 K0 := Ext.refl _ _ _
  refine calls_gen fun R hR => ?_
  refine calls_env (args := [a0_a_v, a1_b_v]) Try.func27 rfl (Nat.le_of_ble_eq_true rfl) ?_
  refine WP_seq ?_
  refine WP_region ?_
  refine WL_pure (.bool false) (R_as rfl) rfl rfl ?_
  refine WL_nil ?_
  refine WP_seq ?_
  refine WP_seq ?_
  refine WP_region ?_
  refine WL_pure a0_a_v (R_mv rfl) rfl rfl ?_
  refine WL_pure (.int .i64 (a0_a.length : Int)) (R_len rfl h_a0_a Try.underlying38) rfl rfl ?_
  refine WL_pure a1_b_v (R_mv rfl) rfl rfl ?_
  refine WL_pure (.int .i64 (a1_b.length : Int)) (R_len rfl h_a1_b Try.underlying38) rfl rfl ?_
  refine WL_pure (.bool (decide ((a0_a.length : Int) ≠ (a1_b.length : Int)))) (R_neq rfl rfl) rfl rfl ?_
  refine WL_nil ?_
  refine WP_cond (decide ((a0_a.length : Int) ≠ (a1_b.length : Int))) rfl (fun hc3 => ?_) (fun hc3 => ?_)
  · have hd3 : (a0_a.length : Int) ≠ (a1_b.length : Int) := dec_t hc3
    have h := h.1 hd3
    refine WP_seq ?_
    refine WP_region ?_
    refine WL_pure (.bool false) (R_as rfl) rfl rfl ?_
    refine WL_nil ?_
    refine WP_ret ?_
    exact endR_ret hR (v := (.bool false)) (resE_1 rfl rfl) ⟨K0, (.bool false), false, rfl, h, hE0, hM0, bool_V⟩
  · have hd3 : ¬ ((a0_a.length : Int) ≠ (a1_b.length : Int)) := dec_f hc3
    have h := h.2 hd3
    refine WP_skip ?_
    refine WP_seq ?_
    refine WP_seq ?_
    refine WP_region ?_
    refine WL_pure (.int .i64 0) (R_as rfl) rfl rfl ?_
    refine WL_nil ?_
    refine WP_block ?_
    obtain ⟨I4, μ4, h0, h⟩ := h
    refine WP_loopE (ι := Bool × Int) [4, 5, 11, 12, 13, 14, 15, 16, 17, 18, 19, 20, 21, 22, 23, 24, 25, 26, 27] (fun s l w => ∃ K, I4 s.1 s.2 ∧ l = [(4, (.bool s.1)), (5, (.int .i64 s.2))] ∧ Ext NX w0 K0 w K ∧ Models w K ∧ (Kd.int .i64).wf s.2) (fun s => μ4 s.1 s.2) (false, 0) [(4, (.bool false)), (5, (.int .i64 0))]
      ⟨K0, h0, rfl, Ext.refl _ _ _, hM0, (show (Kd.int .i64).wf 0 from by constructor <;> decide)⟩ (by repeat (first | exact trivial | refine ⟨rfl, ?_⟩)) ?_
    rintro ⟨i4, i4'⟩ l σ4 w5 ⟨K5, hI, rfl, hX5, hM5, hw4_5⟩
    dsimp only at hI hw4_5
    have hE5 := hE0.andN hX5
    have h := h i4 i4' hI hw4_5
    refine WP_seq ?_
    refine WP_seq ?_
    refine WP_region ?_
    refine WL_pure (.int .i64 i4') (R_mv rfl) rfl rfl ?_
    refine WL_pure a0_a_v (R_mv rfl) rfl rfl ?_
    refine WL_pure (.int .i64 (a0_a.length : Int)) (R_len rfl (h_a0_a.mono hX5.le) Try.underlying38) rfl rfl ?_
    refine WL_pure (.bool (decide (i4' < (a0_a.length : Int)))) (R_lss rfl rfl) rfl rfl ?_
    refine WL_nil ?_
    refine WP_cond (decide (i4' < (a0_a.length : Int))) rfl (fun hc6 => ?_) (fun hc6 => ?_)
    · have hd6 : i4' < (a0_a.length : Int) := dec_t hc6
      have h := h.1 hd6
      refine WP_skip ?_
      refine WP_seq ?_
      refine WP_block ?_
      refine WP_seq ?_
      refine WP_ordD (K := K5) NX [.o 0 2, .o 1 2, .o 2 2, .o 3 2, .o 4 2, .o 5 2, .o 6 2, .o 7 2, .o 8 2, .o 9 2, .o 10 2] (by kernel_rfl) (by kernel_rfl) hM5 ?_
      rintro w7 hS7 hM7
      have hE7 := hE5.andN hS7
      refine WO_pure a0_a_v rfl l0 hM7 (fun _ => R_mv rfl) rfl (gN rfl) rfl ?_
      refine WO_pure (.int .i64 i4') rfl l0 hM7 (fun _ => R_mv rfl) rfl (gN rfl) rfl ?_
      obtain ⟨hp9, h⟩ := h
      refine WO_P rfl l0 hM7 (S_ixs rfl (h_a0_a.mono (hX5.le.trans hS7.le)) rfl Try.underlying38 ty39 hp9.1 hp9.2) rfl (gN rfl) rfl ?_
      rintro b8 o8 hP8
      refine WO_L0 hM7 (S_ld rfl ty39 hP8) rfl (gN rfl) rfl ?_
      rintro v11 (hV11 : kd_l_u8.V _ (ix a0_a i4') _)
      refine WO_held0 hM7 (S_b2s rfl hV11 Try.underlying39 Try.underlying9 Try.underlying5) rfl (gN rfl) rfl ?_
      refine WO_pure a1_b_v rfl l0 hM7 (fun _ => R_mv rfl) rfl (gN rfl) rfl ?_
      refine WO_pure (.int .i64 i4') rfl l0 hM7 (fun _ => R_mv rfl) rfl (gN rfl) rfl ?_
      obtain ⟨hp14, h⟩ := h
      refine WO_P rfl l0 hM7 (S_ixs rfl (h_a1_b.mono (hX5.le.trans hS7.le)) rfl Try.underlying38 ty39 hp14.1 hp14.2) rfl (gN rfl) rfl ?_
      rintro b13 o13 hP13
      refine WO_L0 hM7 (S_ld rfl ty39 hP13) rfl (gN rfl) rfl ?_
      rintro v16 (hV16 : kd_l_u8.V _ (ix a1_b i4') _)
      refine WO_held0 hM7 (S_b2s rfl hV16 Try.underlying39 Try.underlying9 Try.underlying5) rfl (gN rfl) rfl ?_
      refine WO_pure (.bool (decide ((ix a0_a i4') ≠ (ix a1_b i4')))) rfl l0 hM7 (fun _ => R_sneq rfl rfl Try.underlying9) rfl (gN rfl) rfl ?_
      refine WO_nil ?_
      refine WP_cond (decide ((ix a0_a i4') ≠ (ix a1_b i4'))) rfl (fun hc18 => ?_) (fun hc18 => ?_)
      · have hd18 : (ix a0_a i4') ≠ (ix a1_b i4') := dec_t hc18
        have h := h.1 hd18
        refine WP_seq ?_
        refine WP_region ?_
        refine WL_pure (.bool false) (R_as rfl) rfl rfl ?_
        refine WL_nil ?_
        refine WP_ret ?_
        exact endR_ret hR (v := (.bool false)) (resE_1 rfl rfl) ⟨K5, (.bool false), false, rfl, h, hE7, hM7, bool_V⟩
      · have hd18 : ¬ ((ix a0_a i4') ≠ (ix a1_b i4')) := dec_f hc18
        have h := h.2 hd18
        refine WP_skip ?_
        refine WP_region ?_
        refine WL_pure (.int .i64 i4') (R_mv rfl) rfl rfl ?_
        refine WL_pure (.int .i64 (i4' + 1)) (R_inc rfl rfl hw4_5 hd6 (len_wf (h_a0_a).wf.1)) rfl rfl ?_
        refine WL_pure (.int .i64 (i4' + 1)) (R_as rfl) rfl rfl ?_
        refine WL_nil ?_
        refine BackQ.mk (i4, (i4' + 1)) [(4, (.bool i4)), (5, (.int .i64 (i4' + 1)))] ?_ ?_ ?_ ?_
        rotate_left
        · exact h.2
        · repeat (first | exact Off.lay0 rfl | refine Off.updO ?_ rfl _ | refine Off.updN ?_ _ | refine Off.lay ?_ rfl)
        · repeat (first | exact trivial | refine ⟨rfl, ?_⟩)
        exact ⟨K5, h.1, rfl, (((Ext.refl _ _ _).andN hX5).andN hS7), hM7, (inc_wf hw4_5 hd6 (len_wf (h_a0_a).wf.1))⟩
    · have hd6 : ¬ (i4' < (a0_a.length : Int)) := dec_f hc6
      have h := h.2 hd6
      refine WP_exit ?_
      refine WP_seq ?_
      refine WP_region ?_
      refine WL_pure (.bool true) (R_as rfl) rfl rfl ?_
      refine WL_nil ?_
      refine WP_ret ?_
      exact endR_ret hR (v := (.bool true)) (resE_1 rfl rfl) ⟨K5, (.bool true), true, rfl, h, hE5, hM5, bool_V⟩
theorem alike_c {w0 : World} {K0 : Ghost} {a0_a_v : Value} {a0_a : (List (List UInt8))} {a1_b_v : Value} {a1_b : (List (List UInt8))} (hM0 : Models w0 K0) (h_a0_a : kd_l_l_u8.V K0 a0_a a0_a_v) (h_a1_b : kd_l_l_u8.V K0 a1_b a1_b_v) : Calls Try.prog 27 #[a0_a_v, a1_b_v] w0 (fun e w' => ∃ (K' : Ghost) (r0 : Value), e = .returned r0 ∧ Ext NX w0 K0 w' K' ∧ Models w' K' ∧ Kd.bool.V K' (decide (a0_a = a1_b)) r0) := by
  refine (alike_walk hM0 h_a0_a h_a1_b (alike_ok h_a0_a.wf h_a1_b.wf)).mono ?_
  rintro _ w' ⟨K', r0, o0, rfl, rfl, hF⟩
  exact ⟨K', r0, rfl, hF⟩
def both_VC (a0_x : (List UInt8)) (a1_y : (List UInt8)) (a2_a : (List UInt8)) (a3_b : (List UInt8)) (Q : Bool → Prop) : Prop :=
  Q (decide (((a0_x = a2_a) ∧ (a1_y = a3_b)) ∨ ((a0_x = a3_b) ∧ (a1_y = a2_a))))
theorem both_ok {a0_x : (List UInt8)} {a1_y : (List UInt8)} {a2_a : (List UInt8)} {a3_b : (List UInt8)} (w_0 : kd_l_u8.wf a0_x) (w_1 : kd_l_u8.wf a1_y) (w_2 : kd_l_u8.wf a2_a) (w_3 : kd_l_u8.wf a3_b) : both_VC a0_x a1_y a2_a a3_b (fun o0 => o0 = decide ((a0_x = a2_a ∧ a1_y = a3_b) ∨ (a0_x = a3_b ∧ a1_y = a2_a))) := by
  exact rfl

theorem both_walk {w0 : World} {K0 : Ghost} {a0_x_v : Value} {a0_x : (List UInt8)} {a1_y_v : Value} {a1_y : (List UInt8)} {a2_a_v : Value} {a2_a : (List UInt8)} {a3_b_v : Value} {a3_b : (List UInt8)} {Q : Bool → Prop} (hM0 : Models w0 K0) (h_a0_x : kd_l_u8.V K0 a0_x a0_x_v) (h_a1_y : kd_l_u8.V K0 a1_y a1_y_v) (h_a2_a : kd_l_u8.V K0 a2_a a2_a_v) (h_a3_b : kd_l_u8.V K0 a3_b a3_b_v) (h : both_VC a0_x a1_y a2_a a3_b Q) : Calls Try.prog 28 #[a0_x_v, a1_y_v, a2_a_v, a3_b_v] w0 (fun e w' => ∃ (K' : Ghost) (r0 : Value) (o0 : Bool), e = .returned r0 ∧ Q o0 ∧ Ext NX w0 K0 w' K' ∧ Models w' K' ∧ Kd.bool.V K' o0 r0) := by
  unfold both_VC at h
  have hE0 : Ext NX w0 K0 w0 K0 := Ext.refl _ _ _
  refine calls_gen fun R hR => ?_
  refine calls_env (args := [a0_x_v, a1_y_v, a2_a_v, a3_b_v]) Try.func28 rfl (Nat.le_of_ble_eq_true rfl) ?_
  refine WP_seq ?_
  refine WP_region ?_
  refine WL_pure (.bool false) (R_as rfl) rfl rfl ?_
  refine WL_nil ?_
  refine WP_seq ?_
  refine WP_own (K := K0) NX [.o 0 2, .o 1 2, .o 2 2, .o 3 2, .o 4 2, .o 5 2, .o 6 2, .o 7 2, .o 8 2, .o 9 2, .o 10 2, .o 11 2, .o 12 2, .o 13 2, .o 14 2, .o 15 2, .o 16 2, .o 17 2, .o 18 2, .o 19 2, .o 20 2, .o 21 2, .o 22 2, .o 23 2, .o 24 2, .o 25 2, .o 26 2] (by kernel_rfl) hM0 ?_
  refine WO_pure a0_x_v rfl l0 hM0 (fun _ => R_mv rfl) rfl (gN rfl) rfl ?_
  refine WO_held0 hM0 (S_b2s rfl h_a0_x Try.underlying39 Try.underlying9 Try.underlying5) rfl (gN rfl) rfl ?_
  refine WO_pure a2_a_v rfl l0 hM0 (fun _ => R_mv rfl) rfl (gN rfl) rfl ?_
  refine WO_held0 hM0 (S_b2s rfl h_a2_a Try.underlying39 Try.underlying9 Try.underlying5) rfl (gN rfl) rfl ?_
  refine WO_pure (.bool (decide (a0_x = a2_a))) rfl l0 hM0 (fun _ => R_seql rfl rfl Try.underlying9) rfl (gN rfl) rfl ?_
  refine WO_pure (.bool (decide (a0_x = a2_a))) rfl l0 hM0 (fun _ => R_mv rfl) rfl (gN rfl) rfl ?_
  refine WO_meet (al := true) (l1 := [.o 6 2, .o 7 2, .o 8 2, .o 9 2, .o 10 2, .o 11 2]) [15, 16, 17, 18, 19, 20] NX (fun l w K => l = [(20, (.bool (decide ((a0_x = a2_a) ∧ (a1_y = a3_b)))))] ∧ Ext NX w0 K0 w K ∧ Models w K) ?_ ?_
  · rcases Classical.em (a0_x = a2_a) with hp5 | hp5
    · skip
      refine WO_pure a1_y_v rfl l0 hM0 (fun _ => R_mv rfl) rfl (gY rfl rfl rfl (decide_eq_true hp5)) rfl ?_
      refine WO_held0 hM0 (S_b2s rfl h_a1_y Try.underlying39 Try.underlying9 Try.underlying5) rfl (gY rfl rfl rfl (decide_eq_true hp5)) rfl ?_
      refine WO_pure a3_b_v rfl l0 hM0 (fun _ => R_mv rfl) rfl (gY rfl rfl rfl (decide_eq_true hp5)) rfl ?_
      refine WO_held0 hM0 (S_b2s rfl h_a3_b Try.underlying39 Try.underlying9 Try.underlying5) rfl (gY rfl rfl rfl (decide_eq_true hp5)) rfl ?_
      refine WO_pure (.bool (decide (a1_y = a3_b))) rfl l0 hM0 (fun _ => R_seql rfl rfl Try.underlying9) rfl (gY rfl rfl rfl (decide_eq_true hp5)) rfl ?_
      refine WO_pure (.bool (decide ((a0_x = a2_a) ∧ (a1_y = a3_b)))) rfl l0 hM0 (fun _ => R_pick1 rfl (decide_eq_true hp5) rfl (and_T hp5)) rfl (gN rfl) rfl ?_
      exact WO_end [(20, (.bool (decide ((a0_x = a2_a) ∧ (a1_y = a3_b)))))] K0 rfl ⟨rfl, (Ext.refl _ _ _), hM0⟩ (by repeat (first | exact Off.refl _ _ | refine Off.updO ?_ rfl _ | refine Off.updN ?_ _ | refine Off.lay ?_ rfl)) ⟨rfl, trivial⟩
    · skip
      refine WO_skip _ hM0 l0 rfl (gF rfl rfl rfl (decide_eq_false hp5)) rfl ?_
      refine WO_skip _ hM0 l0 rfl (gF rfl rfl rfl (decide_eq_false hp5)) rfl ?_
      refine WO_skip _ hM0 l0 rfl (gF rfl rfl rfl (decide_eq_false hp5)) rfl ?_
      refine WO_skip _ hM0 l0 rfl (gF rfl rfl rfl (decide_eq_false hp5)) rfl ?_
      refine WO_skip _ hM0 l0 rfl (gF rfl rfl rfl (decide_eq_false hp5)) rfl ?_
      refine WO_pure (.bool (decide ((a0_x = a2_a) ∧ (a1_y = a3_b)))) rfl l0 hM0 (fun _ => R_pick2 rfl (decide_eq_false hp5) rfl (and_F hp5)) rfl (gN rfl) rfl ?_
      exact WO_end [(20, (.bool (decide ((a0_x = a2_a) ∧ (a1_y = a3_b)))))] K0 rfl ⟨rfl, (Ext.refl _ _ _), hM0⟩ (by repeat (first | exact Off.refl _ _ | refine Off.updO ?_ rfl _ | refine Off.updN ?_ _ | refine Off.lay ?_ rfl)) ⟨rfl, trivial⟩
  rintro l σ6 w6 K6 ⟨rfl, hS6, hM6⟩
  have hE6 := hE0.andN hS6
  refine WO_pure (.bool (decide ((a0_x = a2_a) ∧ (a1_y = a3_b)))) rfl l0 hM6 (fun _ => R_mv rfl) rfl (gN rfl) rfl ?_
  refine WO_meet (al := true) (l1 := [.o 13 2, .o 14 2, .o 15 2, .o 16 2, .o 17 2, .o 18 2, .o 19 2, .o 20 2, .o 21 2, .o 22 2, .o 23 2, .o 24 2, .o 25 2]) [22, 23, 24, 25, 26, 27, 28, 29, 30, 31, 32, 33, 34] NX (fun l w K => l = [(34, (.bool (decide (((a0_x = a2_a) ∧ (a1_y = a3_b)) ∨ ((a0_x = a3_b) ∧ (a1_y = a2_a))))))] ∧ Ext NX w6 K6 w K ∧ Models w K) ?_ ?_
  · rcases Classical.em ((a0_x = a2_a) ∧ (a1_y = a3_b)) with hp7 | hp7
    · skip
      refine WO_skip _ hM6 l0 rfl (gF rfl rfl rfl (decide_eq_true hp7)) rfl ?_
      refine WO_skip _ hM6 l0 rfl (gF rfl rfl rfl (decide_eq_true hp7)) rfl ?_
      refine WO_skip _ hM6 l0 rfl (gF rfl rfl rfl (decide_eq_true hp7)) rfl ?_
      refine WO_skip _ hM6 l0 rfl (gF rfl rfl rfl (decide_eq_true hp7)) rfl ?_
      refine WO_skip _ hM6 l0 rfl (gF rfl rfl rfl (decide_eq_true hp7)) rfl ?_
      refine WO_skip _ hM6 l0 rfl (gF rfl rfl rfl (decide_eq_true hp7)) rfl ?_
      refine WO_skip _ hM6 l0 rfl (gU rfl rfl rfl) rfl ?_
      refine WO_skip _ hM6 l0 rfl (gU rfl rfl rfl) rfl ?_
      refine WO_skip _ hM6 l0 rfl (gU rfl rfl rfl) rfl ?_
      refine WO_skip _ hM6 l0 rfl (gU rfl rfl rfl) rfl ?_
      refine WO_skip _ hM6 l0 rfl (gU rfl rfl rfl) rfl ?_
      refine WO_skip _ hM6 l0 rfl (gF rfl rfl rfl (decide_eq_true hp7)) rfl ?_
      refine WO_pure (.bool (decide (((a0_x = a2_a) ∧ (a1_y = a3_b)) ∨ ((a0_x = a3_b) ∧ (a1_y = a2_a))))) rfl l0 hM6 (fun _ => R_pick1 rfl (decide_eq_true hp7) rfl (or_T hp7)) rfl (gN rfl) rfl ?_
      exact WO_end [(34, (.bool (decide (((a0_x = a2_a) ∧ (a1_y = a3_b)) ∨ ((a0_x = a3_b) ∧ (a1_y = a2_a))))))] K6 rfl ⟨rfl, (Ext.refl _ _ _), hM6⟩ (by repeat (first | exact Off.refl _ _ | refine Off.updO ?_ rfl _ | refine Off.updN ?_ _ | refine Off.lay ?_ rfl)) ⟨rfl, trivial⟩
    · skip
      refine WO_pure a0_x_v rfl l0 hM6 (fun _ => R_mv rfl) rfl (gY rfl rfl rfl (decide_eq_false hp7)) rfl ?_
      refine WO_held0 hM6 (S_b2s rfl (h_a0_x.mono hS6.le) Try.underlying39 Try.underlying9 Try.underlying5) rfl (gY rfl rfl rfl (decide_eq_false hp7)) rfl ?_
      refine WO_pure a3_b_v rfl l0 hM6 (fun _ => R_mv rfl) rfl (gY rfl rfl rfl (decide_eq_false hp7)) rfl ?_
      refine WO_held0 hM6 (S_b2s rfl (h_a3_b.mono hS6.le) Try.underlying39 Try.underlying9 Try.underlying5) rfl (gY rfl rfl rfl (decide_eq_false hp7)) rfl ?_
      refine WO_pure (.bool (decide (a0_x = a3_b))) rfl l0 hM6 (fun _ => R_seql rfl rfl Try.underlying9) rfl (gY rfl rfl rfl (decide_eq_false hp7)) rfl ?_
      refine WO_pure (.bool (decide (a0_x = a3_b))) rfl l0 hM6 (fun _ => R_mv rfl) rfl (gY rfl rfl rfl (decide_eq_false hp7)) rfl ?_
      refine WO_meet (al := true) (l1 := [.o 19 2, .o 20 2, .o 21 2, .o 22 2, .o 23 2, .o 24 2]) [28, 29, 30, 31, 32, 33] NX (fun l w K => l = [(33, (.bool (decide ((a0_x = a3_b) ∧ (a1_y = a2_a)))))] ∧ Ext NX w6 K6 w K ∧ Models w K) ?_ ?_
      · rcases Classical.em (a0_x = a3_b) with hp8 | hp8
        · skip
          refine WO_pure a1_y_v rfl l0 hM6 (fun _ => R_mv rfl) rfl (gY rfl rfl rfl (decide_eq_true hp8)) rfl ?_
          refine WO_held0 hM6 (S_b2s rfl (h_a1_y.mono hS6.le) Try.underlying39 Try.underlying9 Try.underlying5) rfl (gY rfl rfl rfl (decide_eq_true hp8)) rfl ?_
          refine WO_pure a2_a_v rfl l0 hM6 (fun _ => R_mv rfl) rfl (gY rfl rfl rfl (decide_eq_true hp8)) rfl ?_
          refine WO_held0 hM6 (S_b2s rfl (h_a2_a.mono hS6.le) Try.underlying39 Try.underlying9 Try.underlying5) rfl (gY rfl rfl rfl (decide_eq_true hp8)) rfl ?_
          refine WO_pure (.bool (decide (a1_y = a2_a))) rfl l0 hM6 (fun _ => R_seql rfl rfl Try.underlying9) rfl (gY rfl rfl rfl (decide_eq_true hp8)) rfl ?_
          refine WO_pure (.bool (decide ((a0_x = a3_b) ∧ (a1_y = a2_a)))) rfl l0 hM6 (fun _ => R_pick1 rfl (decide_eq_true hp8) rfl (and_T hp8)) rfl (gY rfl rfl rfl (decide_eq_false hp7)) rfl ?_
          exact WO_end [(33, (.bool (decide ((a0_x = a3_b) ∧ (a1_y = a2_a)))))] K6 rfl ⟨rfl, (Ext.refl _ _ _), hM6⟩ (by repeat (first | exact Off.refl _ _ | refine Off.updO ?_ rfl _ | refine Off.updN ?_ _ | refine Off.lay ?_ rfl)) ⟨rfl, trivial⟩
        · skip
          refine WO_skip _ hM6 l0 rfl (gF rfl rfl rfl (decide_eq_false hp8)) rfl ?_
          refine WO_skip _ hM6 l0 rfl (gF rfl rfl rfl (decide_eq_false hp8)) rfl ?_
          refine WO_skip _ hM6 l0 rfl (gF rfl rfl rfl (decide_eq_false hp8)) rfl ?_
          refine WO_skip _ hM6 l0 rfl (gF rfl rfl rfl (decide_eq_false hp8)) rfl ?_
          refine WO_skip _ hM6 l0 rfl (gF rfl rfl rfl (decide_eq_false hp8)) rfl ?_
          refine WO_pure (.bool (decide ((a0_x = a3_b) ∧ (a1_y = a2_a)))) rfl l0 hM6 (fun _ => R_pick2 rfl (decide_eq_false hp8) rfl (and_F hp8)) rfl (gY rfl rfl rfl (decide_eq_false hp7)) rfl ?_
          exact WO_end [(33, (.bool (decide ((a0_x = a3_b) ∧ (a1_y = a2_a)))))] K6 rfl ⟨rfl, (Ext.refl _ _ _), hM6⟩ (by repeat (first | exact Off.refl _ _ | refine Off.updO ?_ rfl _ | refine Off.updN ?_ _ | refine Off.lay ?_ rfl)) ⟨rfl, trivial⟩
      rintro l σ9 w9 K9 ⟨rfl, hS9, hM9⟩
      have hE9 := hE6.andN hS9
      refine WO_pure (.bool (decide (((a0_x = a2_a) ∧ (a1_y = a3_b)) ∨ ((a0_x = a3_b) ∧ (a1_y = a2_a))))) rfl l0 hM9 (fun _ => R_pick2 rfl (decide_eq_false hp7) rfl (or_F hp7)) rfl (gN rfl) rfl ?_
      exact WO_end [(34, (.bool (decide (((a0_x = a2_a) ∧ (a1_y = a3_b)) ∨ ((a0_x = a3_b) ∧ (a1_y = a2_a))))))] K9 rfl ⟨rfl, ((Ext.refl _ _ _).andN hS9), hM9⟩ (by repeat (first | exact Off.refl _ _ | refine Off.updO ?_ rfl _ | refine Off.updN ?_ _ | refine Off.lay ?_ rfl)) ⟨rfl, trivial⟩
  rintro l σ10 w10 K10 ⟨rfl, hS10, hM10⟩
  have hE10 := hE6.andN hS10
  refine WO_pure (.bool (decide (((a0_x = a2_a) ∧ (a1_y = a3_b)) ∨ ((a0_x = a3_b) ∧ (a1_y = a2_a))))) rfl l0 hM10 (fun _ => R_as rfl) rfl (gN rfl) rfl ?_
  refine WO_nil ?_
  refine WP_ret ?_
  exact endR_ret hR (v := (.bool (decide (((a0_x = a2_a) ∧ (a1_y = a3_b)) ∨ ((a0_x = a3_b) ∧ (a1_y = a2_a)))))) (resE_1 rfl rfl) ⟨K10, (.bool (decide (((a0_x = a2_a) ∧ (a1_y = a3_b)) ∨ ((a0_x = a3_b) ∧ (a1_y = a2_a))))), (decide (((a0_x = a2_a) ∧ (a1_y = a3_b)) ∨ ((a0_x = a3_b) ∧ (a1_y = a2_a)))), rfl, h, hE10, hM10, bool_V⟩
theorem both_c {w0 : World} {K0 : Ghost} {a0_x_v : Value} {a0_x : (List UInt8)} {a1_y_v : Value} {a1_y : (List UInt8)} {a2_a_v : Value} {a2_a : (List UInt8)} {a3_b_v : Value} {a3_b : (List UInt8)} (hM0 : Models w0 K0) (h_a0_x : kd_l_u8.V K0 a0_x a0_x_v) (h_a1_y : kd_l_u8.V K0 a1_y a1_y_v) (h_a2_a : kd_l_u8.V K0 a2_a a2_a_v) (h_a3_b : kd_l_u8.V K0 a3_b a3_b_v) : Calls Try.prog 28 #[a0_x_v, a1_y_v, a2_a_v, a3_b_v] w0 (fun e w' => ∃ (K' : Ghost) (r0 : Value), e = .returned r0 ∧ Ext NX w0 K0 w' K' ∧ Models w' K' ∧ Kd.bool.V K' (decide ((a0_x = a2_a ∧ a1_y = a3_b) ∨ (a0_x = a3_b ∧ a1_y = a2_a))) r0) := by
  refine (both_walk hM0 h_a0_x h_a1_y h_a2_a h_a3_b (both_ok h_a0_x.wf h_a1_y.wf h_a2_a.wf h_a3_b.wf)).mono ?_
  rintro _ w' ⟨K', r0, o0, rfl, rfl, hF⟩
  exact ⟨K', r0, rfl, hF⟩
def HLen_VC (a0_h : ((List Int) × (Int × (List UInt8)))) (Q : Int → Prop) : Prop :=
  Q (IntKind.u64.wrap ((IntKind.u64.wrap (64 * a0_h.2.1)) + (IntKind.u64.wrap (a0_h.2.2.length : Int))))
theorem HLen_ok {a0_h : ((List Int) × (Int × (List UInt8)))} (w_0 : kd_Ssha_Hash.wf a0_h) : HLen_VC a0_h (fun o0 => o0 = (hLen a0_h)) := by
  exact rfl

theorem HLen_walk {w0 : World} {K0 : Ghost} {a0_h_b : Nat} {a0_h_pre a0_h_post : List Value} {a0_h : ((List Int) × (Int × (List UInt8)))} {Q : Int → Prop} (hM0 : Models w0 K0) (h_a0_h_B : Bx kd_Ssha_Hash w0 K0 a0_h_b a0_h_pre a0_h_post a0_h) (h : HLen_VC a0_h Q) : Calls Try.prog 95 #[(.pointer (some ⟨a0_h_b, a0_h_pre.length, none⟩))] w0 (fun e w' => ∃ (K' : Ghost) (r0 : Value) (o0 : Int), e = .returned r0 ∧ Q o0 ∧ Ext NX w0 K0 w' K' ∧ Models w' K' ∧ (Kd.int .u64).V K' o0 r0) := by
  unfold HLen_VC at h
  have hE0 : Ext NX w0 K0 w0 K0 := Ext.refl _ _ _
  refine calls_gen fun R hR => ?_
  refine calls_env (args := [(.pointer (some ⟨a0_h_b, a0_h_pre.length, none⟩))]) Try.func95 rfl (Nat.le_of_ble_eq_true rfl) ?_
  refine WP_seq ?_
  refine WP_region ?_
  refine WL_pure (.int .u64 0) (R_as rfl) rfl rfl ?_
  refine WL_nil ?_
  refine WP_seq ?_
  refine WP_seq ?_
  refine WP_region ?_
  refine WL_pure (.pointer (some ⟨a0_h_b, a0_h_pre.length, none⟩)) (R_mv rfl) rfl rfl ?_
  refine WL_pure (.bool false) (R_peq rfl rfl Try.underlying120) rfl rfl ?_
  refine WL_nil ?_
  refine WP_cond false rfl (fun hc => by cases hc) (fun _ => ?_)
  refine WP_skip ?_
  refine WP_seq ?_
  refine WP_ordD (K := K0) NX [.o 0 2, .o 1 2, .o 2 2, .o 3 2, .o 4 2, .o 5 2, .o 6 2, .o 7 2, .o 8 2, .o 9 2, .o 10 2, .o 11 2, .o 12 2] (by kernel_rfl) (by kernel_rfl) hM0 ?_
  rintro w2 hS2 hM2
  have hE2 := hE0.andN hS2
  refine WO_pure (.pointer (some ⟨a0_h_b, a0_h_pre.length, none⟩)) rfl l0 hM2 (fun _ => R_mv rfl) rfl (gN rfl) rfl ?_
  refine WO_pure (.pointer (some ⟨a0_h_b, a0_h_pre.length, none⟩)) rfl l0 hM2 (fun _ => R_nilck rfl) rfl (gN rfl) rfl ?_
  refine WO_pure (.pointer (some ⟨a0_h_b, a0_h_pre.length + 8, none⟩)) rfl l0 hM2 (fun _ => R_fa rfl Try.underlying148 rfl rfl ty65 rfl) rfl (gN rfl) rfl ?_
  have hR4 := (h_a0_h_B.extN hS2)
  refine WO_L0 hM2 (S_ldB (Foc.trans (Foc.snd kd_a8_u32 (Kd.pr (Kd.int .u64) kd_l_u8)) (Foc.fst (Kd.int .u64) kd_l_u8)) rfl ty65 hR4 (by first | rfl | simp | omega) (fun h => h)) rfl (gN rfl) rfl ?_
  rintro v3 (hV3 : (Kd.int .u64).V _ a0_h.2.1 _)
  obtain rfl := int_form hV3
  refine WO_pure (.int .u64 (IntKind.u64.wrap (64 * a0_h.2.1))) rfl l0 hM2 (fun _ => R_mul rfl rfl) rfl (gN rfl) rfl ?_
  refine WO_pure (.pointer (some ⟨a0_h_b, a0_h_pre.length, none⟩)) rfl l0 hM2 (fun _ => R_mv rfl) rfl (gN rfl) rfl ?_
  refine WO_pure (.pointer (some ⟨a0_h_b, a0_h_pre.length, none⟩)) rfl l0 hM2 (fun _ => R_nilck rfl) rfl (gN rfl) rfl ?_
  refine WO_pure (.pointer (some ⟨a0_h_b, a0_h_pre.length + 9, none⟩)) rfl l0 hM2 (fun _ => R_fa rfl Try.underlying148 rfl rfl ty39 rfl) rfl (gN rfl) rfl ?_
  refine WO_L0 hM2 (S_ldB (Foc.trans (Foc.snd kd_a8_u32 (Kd.pr (Kd.int .u64) kd_l_u8)) (Foc.snd (Kd.int .u64) kd_l_u8)) rfl ty39 hR4 (by first | rfl | simp | omega) (fun h => h)) rfl (gN rfl) rfl ?_
  rintro v5 (hV5 : kd_l_u8.V _ a0_h.2.2 _)
  refine WO_pure (.int .i64 (a0_h.2.2.length : Int)) rfl l0 hM2 (fun _ => R_len rfl hV5 Try.underlying39) rfl (gN rfl) rfl ?_
  refine WO_pure (.int .u64 (IntKind.u64.wrap (a0_h.2.2.length : Int))) rfl l0 hM2 (fun _ => R_cvi rfl Try.underlying3 Try.underlying65) rfl (gN rfl) rfl ?_
  refine WO_pure (.int .u64 (IntKind.u64.wrap ((IntKind.u64.wrap (64 * a0_h.2.1)) + (IntKind.u64.wrap (a0_h.2.2.length : Int))))) rfl l0 hM2 (fun _ => R_add rfl rfl) rfl (gN rfl) rfl ?_
  refine WO_pure (.int .u64 (IntKind.u64.wrap ((IntKind.u64.wrap (64 * a0_h.2.1)) + (IntKind.u64.wrap (a0_h.2.2.length : Int))))) rfl l0 hM2 (fun _ => R_as rfl) rfl (gN rfl) rfl ?_
  refine WO_nil ?_
  refine WP_ret ?_
  exact endR_ret hR (v := (.int .u64 (IntKind.u64.wrap ((IntKind.u64.wrap (64 * a0_h.2.1)) + (IntKind.u64.wrap (a0_h.2.2.length : Int)))))) (resE_1 rfl rfl) ⟨K0, (.int .u64 (IntKind.u64.wrap ((IntKind.u64.wrap (64 * a0_h.2.1)) + (IntKind.u64.wrap (a0_h.2.2.length : Int))))), (IntKind.u64.wrap ((IntKind.u64.wrap (64 * a0_h.2.1)) + (IntKind.u64.wrap (a0_h.2.2.length : Int)))), rfl, h, hE2, hM2, (int_V (wrap_wf _ _))⟩
theorem HLen_c {w0 : World} {K0 : Ghost} {a0_h_b : Nat} {a0_h_pre a0_h_post : List Value} {a0_h : ((List Int) × (Int × (List UInt8)))} (hM0 : Models w0 K0) (h_a0_h_B : Bx kd_Ssha_Hash w0 K0 a0_h_b a0_h_pre a0_h_post a0_h) : Calls Try.prog 95 #[(.pointer (some ⟨a0_h_b, a0_h_pre.length, none⟩))] w0 (fun e w' => ∃ (K' : Ghost) (r0 : Value), e = .returned r0 ∧ Ext NX w0 K0 w' K' ∧ Models w' K' ∧ (Kd.int .u64).V K' (hLen a0_h) r0) := by
  refine (HLen_walk hM0 h_a0_h_B (HLen_ok h_a0_h_B.wf)).mono ?_
  rintro _ w' ⟨K', r0, o0, rfl, rfl, hF⟩
  exact ⟨K', r0, rfl, hF⟩
def HCopy_VC (a0_h : ((List Int) × (Int × (List UInt8)))) (Q : ((List Int) × (Int × (List UInt8))) → Prop) : Prop :=
  (a0_h.2.2.length ≤ 140737488355328) ∧ ((kd_l_u8.wf a0_h.2.2) → (Q (a0_h.1, a0_h.2.1, a0_h.2.2)))
theorem HCopy_ok {a0_h : ((List Int) × (Int × (List UInt8)))} (w_0 : kd_Ssha_Hash.wf a0_h) (hp : a0_h.2.2.length ≤ 140737488355328) : HCopy_VC a0_h (fun o0 => o0 = a0_h) := by
  exact ⟨hp, fun _ => rfl⟩

theorem HCopy_walk {w0 : World} {K0 : Ghost} {a0_h_b : Nat} {a0_h_pre a0_h_post : List Value} {a0_h : ((List Int) × (Int × (List UInt8)))} {Q : ((List Int) × (Int × (List UInt8))) → Prop} (hM0 : Models w0 K0) (h_a0_h_B : Bx kd_Ssha_Hash w0 K0 a0_h_b a0_h_pre a0_h_post a0_h) (h : HCopy_VC a0_h Q) : Calls Try.prog 94 #[(.pointer (some ⟨a0_h_b, a0_h_pre.length, none⟩))] w0 (fun e w' => ∃ (K' : Ghost) (r0 : Nat) (o0 : ((List Int) × (Int × (List UInt8)))), e = .returned (.pointer (some ⟨r0, 0, none⟩)) ∧ Q o0 ∧ Ext NX w0 K0 w' K' ∧ Models w' K' ∧ Bx kd_Ssha_Hash w' K' r0 [] [] o0 ∧ w0.heap.size ≤ r0) := by
  unfold HCopy_VC at h
  have hE0 : Ext NX w0 K0 w0 K0 := Ext.refl _ _ _
  refine calls_gen fun R hR => ?_
  refine calls_env (args := [(.pointer (some ⟨a0_h_b, a0_h_pre.length, none⟩))]) Try.func94 rfl (Nat.le_of_ble_eq_true rfl) ?_
  refine WP_seq ?_
  refine WP_region ?_
  refine WL_pure (.pointer none) (R_as rfl) rfl rfl ?_
  refine WL_nil ?_
  refine WP_seq ?_
  refine WP_seq ?_
  refine WP_region ?_
  refine WL_pure (.pointer (some ⟨a0_h_b, a0_h_pre.length, none⟩)) (R_mv rfl) rfl rfl ?_
  refine WL_pure (.bool false) (R_peq rfl rfl Try.underlying120) rfl rfl ?_
  refine WL_nil ?_
  refine WP_cond false rfl (fun hc => by cases hc) (fun _ => ?_)
  refine WP_skip ?_
  refine WP_seq ?_
  refine WP_region ?_
  refine WL_pure (.pointer (some ⟨a0_h_b, a0_h_pre.length, none⟩)) (R_mv rfl) rfl rfl ?_
  refine WL_pure (.pointer (some ⟨a0_h_b, a0_h_pre.length, none⟩)) (R_nilck rfl) rfl rfl ?_
  refine WL_L hM0 (S_ldB (Foc.id _) rfl ty148 h_a0_h_B (by first | rfl | simp | omega) (fun h => h)) rfl rfl ?_
  rintro v2 (hV2 : kd_Ssha_Hash.V _ a0_h _)
  refine WL_eff rfl rfl (St_B (S_alloc hM0 ty148) ?_)
  rintro b4 w4 (hB4 : Bx kd_Ssha_Hash _ _ _ _ _ ((List.replicate 8 (0 : Int)), 0, ([] : List UInt8))) hS4 hM4 hge4
  have hE4 := hE0.andN hS4
  refine WL_eff rfl rfl (St_St (S_stB (Foc.id _) hM4 rfl rfl (hV2.mono hS4.le) ty148 hB4 (by first | rfl | simp | omega)) ?_)
  rintro w6 (hB6 : Bx kd_Ssha_Hash _ _ b4 [] [] a0_h) hS6 hM6
  have hE6 := hE4.comp hS6 (fun c hx hlt => (by subst hx; exact (fun hlt => absurd hlt (Nat.not_lt.2 (Nat.le_trans hE0.size hge4))) hlt))
  refine WL_nil ?_
  refine WP_seq ?_
  refine WP_region ?_
  refine WL_pure (.pointer (some ⟨a0_h_b, a0_h_pre.length, none⟩)) (R_mv rfl) rfl rfl ?_
  refine WL_pure (.pointer (some ⟨a0_h_b, a0_h_pre.length, none⟩)) (R_nilck rfl) rfl rfl ?_
  refine WL_pure (.pointer (some ⟨a0_h_b, a0_h_pre.length + 9, none⟩)) (R_fa rfl Try.underlying148 rfl rfl ty39 rfl) rfl rfl ?_
  have hR8 := (h_a0_h_B.extN hS4)
  have hR9 := (hR8.ext hS6 (fun hx => (fun he => (ne_new hge4 h_a0_h_B.lt) he.symm) hx))
  refine WL_L hM6 (S_ldB (Foc.trans (Foc.snd kd_a8_u32 (Kd.pr (Kd.int .u64) kd_l_u8)) (Foc.snd (Kd.int .u64) kd_l_u8)) rfl ty39 hR9 (by first | rfl | simp | omega) (fun h => h)) rfl rfl ?_
  rintro v7 (hV7 : kd_l_u8.V _ a0_h.2.2 _)
  obtain ⟨hp12, h⟩ := h
  refine WL_eff rfl rfl (St_call (R_call Try.call46 rfl) ((Clone_c hM6 hV7 hp12).mono ?_))
  rintro _ w11 ⟨K11, v11_0, rfl, hS11, hM11, hO11_0, hg11_0⟩
  refine ⟨v11_0, rfl, ?_⟩
  have hE11 := hE6.andN hS11
  have h := h hO11_0.wf
  refine WL_pure (.pointer (some ⟨b4, 0 + 9, none⟩)) (R_fa rfl Try.underlying148 rfl rfl ty39 rfl) rfl rfl ?_
  have hR15 := (hB6.extN hS11)
  refine WL_eff rfl rfl (St_St (S_stB (Foc.trans (Foc.snd kd_a8_u32 (Kd.pr (Kd.int .u64) kd_l_u8)) (Foc.snd (Kd.int .u64) kd_l_u8)) hM11 rfl rfl hO11_0.V ty39 hR15 (by first | rfl | simp | omega)) ?_)
  rintro w14 (hB14 : Bx kd_Ssha_Hash _ _ b4 [] [] (a0_h.1, a0_h.2.1, a0_h.2.2)) hS14 hM14
  have hE14 := hE11.comp hS14 (fun c hx hlt => (by subst hx; exact (fun hlt => absurd hlt (Nat.not_lt.2 (Nat.le_trans hE0.size hge4))) hlt))
  refine WL_nil ?_
  refine WP_seq ?_
  refine WP_region ?_
  refine WL_pure (.pointer (some ⟨b4, 0, none⟩)) (R_as rfl) rfl rfl ?_
  refine WL_nil ?_
  refine WP_ret ?_
  exact endR_ret hR (v := (.pointer (some ⟨b4, 0, none⟩))) (resE_1 rfl rfl) ⟨K11, b4, (a0_h.1, a0_h.2.1, a0_h.2.2), rfl, h, hE14, hM14, hB14, (Nat.le_trans hE0.size hge4)⟩
theorem HCopy_c {w0 : World} {K0 : Ghost} {a0_h_b : Nat} {a0_h_pre a0_h_post : List Value} {a0_h : ((List Int) × (Int × (List UInt8)))} (hM0 : Models w0 K0) (h_a0_h_B : Bx kd_Ssha_Hash w0 K0 a0_h_b a0_h_pre a0_h_post a0_h) (hp : a0_h.2.2.length ≤ 140737488355328) : Calls Try.prog 94 #[(.pointer (some ⟨a0_h_b, a0_h_pre.length, none⟩))] w0 (fun e w' => ∃ (K' : Ghost) (r0 : Nat), e = .returned (.pointer (some ⟨r0, 0, none⟩)) ∧ Ext NX w0 K0 w' K' ∧ Models w' K' ∧ Bx kd_Ssha_Hash w' K' r0 [] [] a0_h ∧ w0.heap.size ≤ r0) := by
  refine (HCopy_walk hM0 h_a0_h_B (HCopy_ok h_a0_h_B.wf hp)).mono ?_
  rintro _ w' ⟨K', r0, o0, rfl, rfl, hF⟩
  exact ⟨K', r0, rfl, hF⟩
abbrev kd_a32_u8 : Kd (List UInt8) := (Kd.arr 32 Kd.byte)
abbrev kd_Sincipitlaw03_Act : Kd (Int × (Int × ((List (List UInt8)) × ((List UInt8) × (List UInt8))))) := (Kd.pr (Kd.int .i64) (Kd.pr (Kd.int .i64) (Kd.pr kd_l_l_u8 (Kd.pr kd_a32_u8 kd_l_u8))))
abbrev kd_l_Sincipitlaw03_Act : Kd (List (Int × (Int × ((List (List UInt8)) × ((List UInt8) × (List UInt8)))))) := (Kd.sl kd_Sincipitlaw03_Act)
theorem ty41 : TyOk Try.prog 41 kd_Sincipitlaw03_Act 96 := ⟨⟨Try.t41, _, Try.type41, rfl, rfl, rfl, rfl, rfl⟩, ⟨_, Try.underlying41, rfl⟩⟩
theorem ty38 : TyOk Try.prog 38 kd_l_l_u8 24 := ⟨⟨Try.t38, _, Try.type38, rfl, rfl, rfl, rfl, rfl⟩, ⟨_, Try.underlying38, rfl⟩⟩
def heavy_VC (a0_l : (List (Int × (Int × ((List (List UInt8)) × ((List UInt8) × (List UInt8))))))) (Q : Bool → Prop) : Prop :=
  ((200 < (a0_l.length : Int)) → Q true) ∧ ((¬ (200 < (a0_l.length : Int))) → ∃ (I3 : Bool → Int → Int → Prop) (μ3 : Bool → Int → Int → Nat), I3 false 60000 0 ∧ ∀ (i3 : Bool) (left3 : Int) (i3' : Int), I3 i3 left3 i3' → ((Kd.int .i64).wf left3) → ((Kd.int .i64).wf i3') → (((i3' < (a0_l.length : Int)) → (0 ≤ i3' ∧ i3' < (a0_l.length : Int)) ∧ (((500 < (((ix a0_l i3').2.2.1).length : Int)) → Q true) ∧ ((¬ (500 < (((ix a0_l i3').2.2.1).length : Int))) → (0 ≤ i3' ∧ i3' < (a0_l.length : Int)) ∧ (∃ (I21 : Int → Int → Prop) (μ21 : Int → Int → Nat), I21 (IntKind.i64.wrap (left3 - (((ix a0_l i3').2.2.2.2).length : Int))) 0 ∧ ∀ (left21 : Int) (k21 : Int), I21 left21 k21 → ((Kd.int .i64).wf left21) → ((Kd.int .i64).wf k21) → ((0 ≤ i3' ∧ i3' < (a0_l.length : Int)) ∧ ((((k21 < (((ix a0_l i3').2.2.1).length : Int)) ∧ (0 ≤ left21)) → (0 ≤ i3' ∧ i3' < (a0_l.length : Int)) ∧ ((0 ≤ k21 ∧ k21 < (((ix a0_l i3').2.2.1).length : Int)) ∧ (I21 (IntKind.i64.wrap (left21 - ((ix ((ix a0_l i3').2.2.1) k21).length : Int))) (IntKind.i64.wrap (k21 + 1)) ∧ μ21 (IntKind.i64.wrap (left21 - ((ix ((ix a0_l i3').2.2.1) k21).length : Int))) (IntKind.i64.wrap (k21 + 1)) < μ21 left21 k21))) ∧ ((¬ ((k21 < (((ix a0_l i3').2.2.1).length : Int)) ∧ (0 ≤ left21))) → ((left21 < 0) → Q true) ∧ ((¬ (left21 < 0)) → I3 i3 left21 (IntKind.i64.wrap (i3' + 1)) ∧ μ3 i3 left21 (IntKind.i64.wrap (i3' + 1)) < μ3 i3 left3 i3')))))))) ∧ ((¬ (i3' < (a0_l.length : Int))) → Q false)))
theorem heavy_ok {a0_l : (List (Int × (Int × ((List (List UInt8)) × ((List UInt8) × (List UInt8))))))} (w_0 : kd_l_Sincipitlaw03_Act.wf a0_l) : heavy_VC a0_l (fun o0 => o0 = decide (¬ light a0_l)) := by
  unfold heavy_VC
  refine ⟨fun h => by rw [decide_eq_true]; exact fun hl => by have := hl.1; omega, fun h200 => ?_⟩
  refine ⟨fun _ left i => ∃ j : Nat, i = (j : Int) ∧ j ≤ a0_l.length ∧ 0 ≤ left ∧ left = 60000 - (actsLen (a0_l.take j) : Int) ∧ ∀ a ∈ a0_l.take j, a.2.2.1.length ≤ 500, fun _ _ i => a0_l.length - i.toNat, ⟨0, rfl, by omega, by omega, by simp [actsLen], by simp⟩, ?_⟩
  rintro _ left i ⟨j, rfl, hj, hl0, hl, hp⟩ _ _
  refine ⟨fun hlt => ⟨⟨by omega, hlt⟩, fun h500 => ?_, fun h500 => ⟨⟨by omega, hlt⟩, ?_⟩⟩, fun hge => ?_⟩
  · rw [decide_eq_true]
    intro hq
    have := hq.2.1 _ (ix_mem (l := a0_l) (by omega) hlt)
    omega
  · have hm := ix_mem (l := a0_l) (i := (j : Int)) (by omega) hlt
    have hwf := w_0.2 _ hm
    have hst := actsLen_step hlt
    have htk := actsLen_take a0_l (j + 1)
    generalize hx : ix a0_l (j : Int) = x at hm hwf hst h500 ⊢
    have hb : x.2.2.2.2.length ≤ LM := hwf.2.2.2.2.1
    have hpl : ∀ y ∈ x.2.2.1, y.length ≤ LM := fun y hy => (hwf.2.2.1.2 y hy).1
    unfold LM at hb hpl
    have e0 : IntKind.i64.wrap (left - (x.2.2.2.2.length : Int)) = left - (x.2.2.2.2.length : Int) := wrap_id (wf64 (by omega) (by omega))
    rw [e0]
    refine ⟨fun lf k => ∃ m : Nat, k = (m : Int) ∧ m ≤ x.2.2.1.length ∧ -281474976710656 ≤ lf ∧ lf = left - (x.2.2.2.2.length : Int) - (partsLen (x.2.2.1.take m) : Int), fun _ k => x.2.2.1.length - k.toNat, ⟨0, rfl, by omega, by omega, by simp [partsLen]⟩, ?_⟩
    rintro lf k ⟨m, rfl, hm2, hlo, hlf⟩ _ _
    have hptk := partsLen_take x.2.2.1 m
    refine ⟨⟨by omega, hlt⟩, fun hc => ⟨⟨by omega, hlt⟩, ⟨by omega, hc.1⟩, ?_, ?_⟩, fun hc => ⟨fun hneg => ?_, fun hnn => ?_⟩⟩
    · have h1 := hpl _ (ix_mem (l := x.2.2.1) (i := (m : Int)) (by omega) hc.1)
      have h2 := partsLen_step hc.1
      have h3 := hc.2
      rw [wrap_id (wf64 (by omega) (by omega)), wrap_id (a := (m : Int) + 1) (wf64 (by omega) (by omega))]
      exact ⟨m + 1, by omega, by omega, by omega, by omega⟩
    · have h3 := hc.1
      rw [wrap_id (a := (m : Int) + 1) (wf64 (by omega) (by omega))]
      show x.2.2.1.length - ((m : Int) + 1).toNat < x.2.2.1.length - (m : Int).toNat
      omega
    · rw [decide_eq_true]
      intro hq
      have := hq.2.2
      omega
    · have hme : m = x.2.2.1.length := by omega
      subst hme
      rw [List.take_length] at hlf
      rw [wrap_id (a := (j : Int) + 1) (wf64 (by omega) (by omega))]
      refine ⟨⟨j + 1, by omega, by omega, by omega, by omega, ?_⟩, ?_⟩
      · intro a ha
        rw [take_step hlt] at ha
        rcases List.mem_append.1 ha with ha | ha
        · exact hp a ha
        · rw [List.mem_singleton, hx] at ha
          subst ha
          omega
      · show a0_l.length - ((j : Int) + 1).toNat < a0_l.length - (j : Int).toNat
        omega
  · have : j = a0_l.length := by omega
    subst this
    rw [List.take_length] at hl hp
    show false = decide (¬ light a0_l)
    rw [eq_comm, decide_eq_false_iff_not, Decidable.not_not]
    exact ⟨by omega, hp, by omega⟩

theorem heavy_walk {w0 : World} {K0 : Ghost} {a0_l_v : Value} {a0_l : (List (Int × (Int × ((List (List UInt8)) × ((List UInt8) × (List UInt8))))))} {Q : Bool → Prop} (hM0 : Models w0 K0) (h_a0_l : kd_l_Sincipitlaw03_Act.V K0 a0_l a0_l_v) (h : heavy_VC a0_l Q) : Calls Try.prog 13 #[a0_l_v] w0 (fun e w' => ∃ (K' : Ghost) (r0 : Value) (o0 : Bool), e = .returned r0 ∧ Q o0 ∧ Ext NX w0 K0 w' K' ∧ Models w' K' ∧ Kd.bool.V K' o0 r0) := by
  unfold heavy_VC at h
  have hE0 : Ext NX w0 K0 w0 K0 := Ext.refl _ _ _
  refine calls_gen fun R hR => ?_
  refine calls_env (args := [a0_l_v]) Try.func13 rfl (Nat.le_of_ble_eq_true rfl) ?_
  refine WP_seq ?_
  refine WP_region ?_
  refine WL_pure (.bool false) (R_as rfl) rfl rfl ?_
  refine WL_nil ?_
  refine WP_seq ?_
  refine WP_seq ?_
  refine WP_region ?_
  refine WL_pure a0_l_v (R_mv rfl) rfl rfl ?_
  refine WL_pure (.int .i64 (a0_l.length : Int)) (R_len rfl h_a0_l Try.underlying22) rfl rfl ?_
  refine WL_pure (.bool (decide (200 < (a0_l.length : Int)))) (R_gtr rfl rfl) rfl rfl ?_
  refine WL_nil ?_
  refine WP_cond (decide (200 < (a0_l.length : Int))) rfl (fun hc2 => ?_) (fun hc2 => ?_)
  · have hd2 : 200 < (a0_l.length : Int) := dec_t hc2
    have h := h.1 hd2
    refine WP_seq ?_
    refine WP_region ?_
    refine WL_pure (.bool true) (R_as rfl) rfl rfl ?_
    refine WL_nil ?_
    refine WP_ret ?_
    exact endR_ret hR (v := (.bool true)) (resE_1 rfl rfl) ⟨K0, (.bool true), true, rfl, h, hE0, hM0, bool_V⟩
  · have hd2 : ¬ (200 < (a0_l.length : Int)) := dec_f hc2
    have h := h.2 hd2
    refine WP_skip ?_
    refine WP_seq ?_
    refine WP_region ?_
    refine WL_pure (.int .i64 60000) (R_as rfl) rfl rfl ?_
    refine WL_nil ?_
    refine WP_seq ?_
    refine WP_seq ?_
    refine WP_region ?_
    refine WL_pure (.int .i64 0) (R_as rfl) rfl rfl ?_
    refine WL_nil ?_
    refine WP_block ?_
    obtain ⟨I3, μ3, h0, h⟩ := h
    refine WP_loopE (ι := Bool × Int × Int) [2, 3, 4, 5, 9, 10, 11, 12, 13, 14, 15, 16, 17, 18, 19, 20, 21, 22, 23, 24, 25, 26, 27, 28, 29, 30, 31, 32, 33, 34, 35, 36, 37, 38, 39, 40, 41, 42, 43, 44, 45, 46, 47, 48, 49, 50, 51, 52, 53, 54, 55, 56] (fun s l w => ∃ K, I3 s.1 s.2.1 s.2.2 ∧ l = [(2, (.bool s.1)), (3, (.int .i64 s.2.1)), (4, (.int .i64 s.2.2))] ∧ Ext NX w0 K0 w K ∧ Models w K ∧ (Kd.int .i64).wf s.2.1 ∧ (Kd.int .i64).wf s.2.2) (fun s => μ3 s.1 s.2.1 s.2.2) (false, 60000, 0) [(2, (.bool false)), (3, (.int .i64 60000)), (4, (.int .i64 0))]
      ⟨K0, h0, rfl, Ext.refl _ _ _, hM0, (show (Kd.int .i64).wf 60000 from by constructor <;> decide), (show (Kd.int .i64).wf 0 from by constructor <;> decide)⟩ (by repeat (first | exact trivial | refine ⟨rfl, ?_⟩)) ?_
    rintro ⟨i3, left3, i3'⟩ l σ3 w4 ⟨K4, hI, rfl, hX4, hM4, hw3_3, hw3_4⟩
    dsimp only at hI hw3_3 hw3_4
    have hE4 := hE0.andN hX4
    have h := h i3 left3 i3' hI hw3_3 hw3_4
    refine WP_seq ?_
    refine WP_seq ?_
    refine WP_region ?_
    refine WL_pure (.int .i64 i3') (R_mv rfl) rfl rfl ?_
    refine WL_pure a0_l_v (R_mv rfl) rfl rfl ?_
    refine WL_pure (.int .i64 (a0_l.length : Int)) (R_len rfl (h_a0_l.mono hX4.le) Try.underlying22) rfl rfl ?_
    refine WL_pure (.bool (decide (i3' < (a0_l.length : Int)))) (R_lss rfl rfl) rfl rfl ?_
    refine WL_nil ?_
    refine WP_cond (decide (i3' < (a0_l.length : Int))) rfl (fun hc5 => ?_) (fun hc5 => ?_)
    · have hd5 : i3' < (a0_l.length : Int) := dec_t hc5
      have h := h.1 hd5
      refine WP_skip ?_
      refine WP_seq ?_
      refine WP_block ?_
      refine WP_seq ?_
      refine WP_seq ?_
      refine WP_region ?_
      refine WL_pure a0_l_v (R_mv rfl) rfl rfl ?_
      refine WL_pure (.int .i64 i3') (R_mv rfl) rfl rfl ?_
      obtain ⟨hp7, h⟩ := h
      refine WL_P (S_ixs rfl (h_a0_l.mono hX4.le) rfl Try.underlying22 ty41 hp7.1 hp7.2) rfl rfl ?_
      rintro b6 o6 hP6
      have hP9 := Kd.Pt.foc (Foc.trans (Foc.snd (Kd.int .i64) (Kd.pr (Kd.int .i64) (Kd.pr kd_l_l_u8 (Kd.pr kd_a32_u8 kd_l_u8)))) (Foc.trans (Foc.snd (Kd.int .i64) (Kd.pr kd_l_l_u8 (Kd.pr kd_a32_u8 kd_l_u8))) (Foc.fst kd_l_l_u8 (Kd.pr kd_a32_u8 kd_l_u8)))) hP6
      refine WL_pure (.pointer (some ⟨b6, o6 + 2, none⟩)) (R_fa rfl Try.underlying41 rfl rfl ty38 rfl) rfl rfl ?_
      refine WL_L hM4 (S_ld rfl ty38 hP9) rfl rfl ?_
      rintro v11 (hV11 : kd_l_l_u8.V _ ((ix a0_l i3').2.2.1) _)
      refine WL_pure (.int .i64 (((ix a0_l i3').2.2.1).length : Int)) (R_len rfl hV11 Try.underlying38) rfl rfl ?_
      refine WL_pure (.bool (decide (500 < (((ix a0_l i3').2.2.1).length : Int)))) (R_gtr rfl rfl) rfl rfl ?_
      refine WL_nil ?_
      refine WP_cond (decide (500 < (((ix a0_l i3').2.2.1).length : Int))) rfl (fun hc13 => ?_) (fun hc13 => ?_)
      · have hd13 : 500 < (((ix a0_l i3').2.2.1).length : Int) := dec_t hc13
        have h := h.1 hd13
        refine WP_seq ?_
        refine WP_region ?_
        refine WL_pure (.bool true) (R_as rfl) rfl rfl ?_
        refine WL_nil ?_
        refine WP_ret ?_
        exact endR_ret hR (v := (.bool true)) (resE_1 rfl rfl) ⟨K4, (.bool true), true, rfl, h, hE4, hM4, bool_V⟩
      · have hd13 : ¬ (500 < (((ix a0_l i3').2.2.1).length : Int)) := dec_f hc13
        have h := h.2 hd13
        refine WP_skip ?_
        refine WP_seq ?_
        refine WP_region ?_
        refine WL_pure (.int .i64 left3) (R_mv rfl) rfl rfl ?_
        refine WL_pure a0_l_v (R_mv rfl) rfl rfl ?_
        refine WL_pure (.int .i64 i3') (R_mv rfl) rfl rfl ?_
        obtain ⟨hp15, h⟩ := h
        refine WL_P (S_ixs rfl (h_a0_l.mono hX4.le) rfl Try.underlying22 ty41 hp15.1 hp15.2) rfl rfl ?_
        rintro b14 o14 hP14
        have hP17 := Kd.Pt.foc (Foc.trans (Foc.snd (Kd.int .i64) (Kd.pr (Kd.int .i64) (Kd.pr kd_l_l_u8 (Kd.pr kd_a32_u8 kd_l_u8)))) (Foc.trans (Foc.snd (Kd.int .i64) (Kd.pr kd_l_l_u8 (Kd.pr kd_a32_u8 kd_l_u8))) (Foc.trans (Foc.snd kd_l_l_u8 (Kd.pr kd_a32_u8 kd_l_u8)) (Foc.snd kd_a32_u8 kd_l_u8)))) hP14
        refine WL_pure (.pointer (some ⟨b14, o14 + 35, none⟩)) (R_fa rfl Try.underlying41 rfl rfl ty39 rfl) rfl rfl ?_
        refine WL_L hM4 (S_ld rfl ty39 hP17) rfl rfl ?_
        rintro v19 (hV19 : kd_l_u8.V _ ((ix a0_l i3').2.2.2.2) _)
        refine WL_pure (.int .i64 (((ix a0_l i3').2.2.2.2).length : Int)) (R_len rfl hV19 Try.underlying39) rfl rfl ?_
        refine WL_pure (.int .i64 (IntKind.i64.wrap (left3 - (((ix a0_l i3').2.2.2.2).length : Int)))) (R_sub rfl rfl) rfl rfl ?_
        refine WL_pure (.int .i64 (IntKind.i64.wrap (left3 - (((ix a0_l i3').2.2.2.2).length : Int)))) (R_as rfl) rfl rfl ?_
        refine WL_nil ?_
        refine WP_seq ?_
        refine WP_seq ?_
        refine WP_region ?_
        refine WL_pure (.int .i64 0) (R_as rfl) rfl rfl ?_
        refine WL_nil ?_
        refine WP_block ?_
        obtain ⟨I21, μ21, h0, h⟩ := h
        refine WP_loopE (ι := Int × Int) [3, 5, 30, 31, 32, 33, 34, 35, 36, 37, 38, 39, 40, 41, 42, 43, 44, 45, 46, 47, 48, 49, 50, 51, 52, 53, 54] (fun s l w => ∃ K, I21 s.1 s.2 ∧ l = [(3, (.int .i64 s.1)), (5, (.int .i64 s.2))] ∧ Ext NX w4 K4 w K ∧ Models w K ∧ (Kd.int .i64).wf s.1 ∧ (Kd.int .i64).wf s.2) (fun s => μ21 s.1 s.2) ((IntKind.i64.wrap (left3 - (((ix a0_l i3').2.2.2.2).length : Int))), 0) [(3, (.int .i64 (IntKind.i64.wrap (left3 - (((ix a0_l i3').2.2.2.2).length : Int))))), (5, (.int .i64 0))]
          ⟨K4, h0, rfl, Ext.refl _ _ _, hM4, (wrap_wf _ _), (show (Kd.int .i64).wf 0 from by constructor <;> decide)⟩ (by repeat (first | exact trivial | refine ⟨rfl, ?_⟩)) ?_
        rintro ⟨left21, k21⟩ l σ21 w22 ⟨K22, hI, rfl, hX22, hM22, hw21_3, hw21_5⟩
        dsimp only at hI hw21_3 hw21_5
        have hE22 := hE4.andN hX22
        have h := h left21 k21 hI hw21_3 hw21_5
        refine WP_seq ?_
        refine WP_seq ?_
        refine WP_own (K := K22) NX [.o 0 2, .o 1 2, .o 2 2, .o 3 2, .o 4 2, .o 5 2, .o 6 2, .o 7 2, .o 8 2, .o 9 2, .o 10 2, .o 11 2] (by kernel_rfl) hM22 ?_
        refine WO_pure (.int .i64 k21) rfl l0 hM22 (fun _ => R_mv rfl) rfl (gN rfl) rfl ?_
        refine WO_pure a0_l_v rfl l0 hM22 (fun _ => R_mv rfl) rfl (gN rfl) rfl ?_
        refine WO_pure (.int .i64 i3') rfl l0 hM22 (fun _ => R_mv rfl) rfl (gN rfl) rfl ?_
        obtain ⟨hp24, h⟩ := h
        refine WO_P rfl l0 hM22 (S_ixs rfl (h_a0_l.mono (hX4.le.trans hX22.le)) rfl Try.underlying22 ty41 hp24.1 hp24.2) rfl (gN rfl) rfl ?_
        rintro b23 o23 hP23
        have hP26 := Kd.Pt.foc (Foc.trans (Foc.snd (Kd.int .i64) (Kd.pr (Kd.int .i64) (Kd.pr kd_l_l_u8 (Kd.pr kd_a32_u8 kd_l_u8)))) (Foc.trans (Foc.snd (Kd.int .i64) (Kd.pr kd_l_l_u8 (Kd.pr kd_a32_u8 kd_l_u8))) (Foc.fst kd_l_l_u8 (Kd.pr kd_a32_u8 kd_l_u8)))) hP23
        refine WO_pure (.pointer (some ⟨b23, o23 + 2, none⟩)) rfl l0 hM22 (fun _ => R_fa rfl Try.underlying41 rfl rfl ty38 rfl) rfl (gN rfl) rfl ?_
        refine WO_L0 hM22 (S_ld rfl ty38 hP26) rfl (gN rfl) rfl ?_
        rintro v28 (hV28 : kd_l_l_u8.V _ ((ix a0_l i3').2.2.1) _)
        refine WO_pure (.int .i64 (((ix a0_l i3').2.2.1).length : Int)) rfl l0 hM22 (fun _ => R_len rfl hV28 Try.underlying38) rfl (gN rfl) rfl ?_
        refine WO_pure (.bool (decide (k21 < (((ix a0_l i3').2.2.1).length : Int)))) rfl l0 hM22 (fun _ => R_lss rfl rfl) rfl (gN rfl) rfl ?_
        refine WO_pure (.bool (decide (k21 < (((ix a0_l i3').2.2.1).length : Int)))) rfl l0 hM22 (fun _ => R_mv rfl) rfl (gN rfl) rfl ?_
        refine WO_meet (al := true) (l1 := [.o 9 2, .o 10 2, .o 11 2]) [39, 40, 41] NX (fun l w K => l = [(41, (.bool (decide ((k21 < (((ix a0_l i3').2.2.1).length : Int)) ∧ (0 ≤ left21)))))] ∧ Ext NX w22 K22 w K ∧ Models w K) ?_ ?_
        · rcases Classical.em (k21 < (((ix a0_l i3').2.2.1).length : Int)) with hp30 | hp30
          · skip
            refine WO_pure (.int .i64 left21) rfl l0 hM22 (fun _ => R_mv rfl) rfl (gY rfl rfl rfl (decide_eq_true hp30)) rfl ?_
            refine WO_pure (.bool (decide (0 ≤ left21))) rfl l0 hM22 (fun _ => R_geq rfl rfl) rfl (gY rfl rfl rfl (decide_eq_true hp30)) rfl ?_
            refine WO_pure (.bool (decide ((k21 < (((ix a0_l i3').2.2.1).length : Int)) ∧ (0 ≤ left21)))) rfl l0 hM22 (fun _ => R_pick1 rfl (decide_eq_true hp30) rfl (and_T hp30)) rfl (gN rfl) rfl ?_
            exact WO_end [(41, (.bool (decide ((k21 < (((ix a0_l i3').2.2.1).length : Int)) ∧ (0 ≤ left21)))))] K22 rfl ⟨rfl, (Ext.refl _ _ _), hM22⟩ (by repeat (first | exact Off.refl _ _ | refine Off.updO ?_ rfl _ | refine Off.updN ?_ _ | refine Off.lay ?_ rfl)) ⟨rfl, trivial⟩
          · skip
            refine WO_skip _ hM22 l0 rfl (gF rfl rfl rfl (decide_eq_false hp30)) rfl ?_
            refine WO_skip _ hM22 l0 rfl (gF rfl rfl rfl (decide_eq_false hp30)) rfl ?_
            refine WO_pure (.bool (decide ((k21 < (((ix a0_l i3').2.2.1).length : Int)) ∧ (0 ≤ left21)))) rfl l0 hM22 (fun _ => R_pick2 rfl (decide_eq_false hp30) rfl (and_F hp30)) rfl (gN rfl) rfl ?_
            exact WO_end [(41, (.bool (decide ((k21 < (((ix a0_l i3').2.2.1).length : Int)) ∧ (0 ≤ left21)))))] K22 rfl ⟨rfl, (Ext.refl _ _ _), hM22⟩ (by repeat (first | exact Off.refl _ _ | refine Off.updO ?_ rfl _ | refine Off.updN ?_ _ | refine Off.lay ?_ rfl)) ⟨rfl, trivial⟩
        rintro l σ31 w31 K31 ⟨rfl, hS31, hM31⟩
        have hE31 := hE22.andN hS31
        refine WO_nil ?_
        refine WP_cond (decide ((k21 < (((ix a0_l i3').2.2.1).length : Int)) ∧ (0 ≤ left21))) rfl (fun hc32 => ?_) (fun hc32 => ?_)
        · have hd32 : (k21 < (((ix a0_l i3').2.2.1).length : Int)) ∧ (0 ≤ left21) := dec_t hc32
          have h := h.1 hd32
          refine WP_skip ?_
          refine WP_seq ?_
          refine WP_block ?_
          refine WP_region ?_
          refine WL_pure (.int .i64 left21) (R_mv rfl) rfl rfl ?_
          refine WL_pure a0_l_v (R_mv rfl) rfl rfl ?_
          refine WL_pure (.int .i64 i3') (R_mv rfl) rfl rfl ?_
          obtain ⟨hp34, h⟩ := h
          refine WL_P (S_ixs rfl (h_a0_l.mono (hX4.le.trans (hX22.le.trans hS31.le))) rfl Try.underlying22 ty41 hp34.1 hp34.2) rfl rfl ?_
          rintro b33 o33 hP33
          have hP36 := Kd.Pt.foc (Foc.trans (Foc.snd (Kd.int .i64) (Kd.pr (Kd.int .i64) (Kd.pr kd_l_l_u8 (Kd.pr kd_a32_u8 kd_l_u8)))) (Foc.trans (Foc.snd (Kd.int .i64) (Kd.pr kd_l_l_u8 (Kd.pr kd_a32_u8 kd_l_u8))) (Foc.fst kd_l_l_u8 (Kd.pr kd_a32_u8 kd_l_u8)))) hP33
          refine WL_pure (.pointer (some ⟨b33, o33 + 2, none⟩)) (R_fa rfl Try.underlying41 rfl rfl ty38 rfl) rfl rfl ?_
          refine WL_L hM31 (S_ld rfl ty38 hP36) rfl rfl ?_
          rintro v38 (hV38 : kd_l_l_u8.V _ ((ix a0_l i3').2.2.1) _)
          refine WL_pure (.int .i64 k21) (R_mv rfl) rfl rfl ?_
          obtain ⟨hp41, h⟩ := h
          refine WL_P (S_ixs rfl hV38 rfl Try.underlying38 ty39 hp41.1 hp41.2) rfl rfl ?_
          rintro b40 o40 hP40
          refine WL_L hM31 (S_ld rfl ty39 hP40) rfl rfl ?_
          rintro v43 (hV43 : kd_l_u8.V _ (ix ((ix a0_l i3').2.2.1) k21) _)
          refine WL_pure (.int .i64 ((ix ((ix a0_l i3').2.2.1) k21).length : Int)) (R_len rfl hV43 Try.underlying39) rfl rfl ?_
          refine WL_pure (.int .i64 (IntKind.i64.wrap (left21 - ((ix ((ix a0_l i3').2.2.1) k21).length : Int)))) (R_sub rfl rfl) rfl rfl ?_
          refine WL_pure (.int .i64 (IntKind.i64.wrap (left21 - ((ix ((ix a0_l i3').2.2.1) k21).length : Int)))) (R_as rfl) rfl rfl ?_
          refine WL_nil ?_
          refine WP_region ?_
          refine WL_pure (.int .i64 k21) (R_mv rfl) rfl rfl ?_
          refine WL_pure (.int .i64 (IntKind.i64.wrap (k21 + 1))) (R_add rfl rfl) rfl rfl ?_
          refine WL_pure (.int .i64 (IntKind.i64.wrap (k21 + 1))) (R_as rfl) rfl rfl ?_
          refine WL_nil ?_
          refine BackQ.mk ((IntKind.i64.wrap (left21 - ((ix ((ix a0_l i3').2.2.1) k21).length : Int))), (IntKind.i64.wrap (k21 + 1))) [(3, (.int .i64 (IntKind.i64.wrap (left21 - ((ix ((ix a0_l i3').2.2.1) k21).length : Int))))), (5, (.int .i64 (IntKind.i64.wrap (k21 + 1))))] ?_ ?_ ?_ ?_
          rotate_left
          · exact h.2
          · repeat (first | exact Off.lay0 rfl | refine Off.updO ?_ rfl _ | refine Off.updN ?_ _ | refine Off.lay ?_ rfl)
          · repeat (first | exact trivial | refine ⟨rfl, ?_⟩)
          exact ⟨K31, h.1, rfl, (((Ext.refl _ _ _).andN hX22).andN hS31), hM31, (wrap_wf _ _), (wrap_wf _ _)⟩
        · have hd32 : ¬ ((k21 < (((ix a0_l i3').2.2.1).length : Int)) ∧ (0 ≤ left21)) := dec_f hc32
          have h := h.2 hd32
          refine WP_exit ?_
          refine WP_seq ?_
          refine WP_region ?_
          refine WL_pure (.int .i64 left21) (R_mv rfl) rfl rfl ?_
          refine WL_pure (.bool (decide (left21 < 0))) (R_lss rfl rfl) rfl rfl ?_
          refine WL_nil ?_
          refine WP_cond (decide (left21 < 0)) rfl (fun hc45 => ?_) (fun hc45 => ?_)
          · have hd45 : left21 < 0 := dec_t hc45
            have h := h.1 hd45
            refine WP_seq ?_
            refine WP_region ?_
            refine WL_pure (.bool true) (R_as rfl) rfl rfl ?_
            refine WL_nil ?_
            refine WP_ret ?_
            exact endR_ret hR (v := (.bool true)) (resE_1 rfl rfl) ⟨K31, (.bool true), true, rfl, h, hE31, hM31, bool_V⟩
          · have hd45 : ¬ (left21 < 0) := dec_f hc45
            have h := h.2 hd45
            refine WP_skip ?_
            refine WP_region ?_
            refine WL_pure (.int .i64 i3') (R_mv rfl) rfl rfl ?_
            refine WL_pure (.int .i64 (IntKind.i64.wrap (i3' + 1))) (R_add rfl rfl) rfl rfl ?_
            refine WL_pure (.int .i64 (IntKind.i64.wrap (i3' + 1))) (R_as rfl) rfl rfl ?_
            refine WL_nil ?_
            refine BackQ.mk (i3, left21, (IntKind.i64.wrap (i3' + 1))) [(2, (.bool i3)), (3, (.int .i64 left21)), (4, (.int .i64 (IntKind.i64.wrap (i3' + 1))))] ?_ ?_ ?_ ?_
            rotate_left
            · exact h.2
            · repeat (first | exact Off.lay0 rfl | refine Off.updO ?_ rfl _ | refine Off.updN ?_ _ | refine Off.lay ?_ rfl)
            · repeat (first | exact trivial | refine ⟨rfl, ?_⟩)
            exact ⟨K31, h.1, rfl, ((((Ext.refl _ _ _).andN hX4).andN hX22).andN hS31), hM31, hw21_3, (wrap_wf _ _)⟩
    · have hd5 : ¬ (i3' < (a0_l.length : Int)) := dec_f hc5
      have h := h.2 hd5
      refine WP_exit ?_
      refine WP_seq ?_
      refine WP_region ?_
      refine WL_pure (.bool false) (R_as rfl) rfl rfl ?_
      refine WL_nil ?_
      refine WP_ret ?_
      exact endR_ret hR (v := (.bool false)) (resE_1 rfl rfl) ⟨K4, (.bool false), false, rfl, h, hE4, hM4, bool_V⟩
theorem heavy_c {w0 : World} {K0 : Ghost} {a0_l_v : Value} {a0_l : (List (Int × (Int × ((List (List UInt8)) × ((List UInt8) × (List UInt8))))))} (hM0 : Models w0 K0) (h_a0_l : kd_l_Sincipitlaw03_Act.V K0 a0_l a0_l_v) : Calls Try.prog 13 #[a0_l_v] w0 (fun e w' => ∃ (K' : Ghost) (r0 : Value), e = .returned r0 ∧ Ext NX w0 K0 w' K' ∧ Models w' K' ∧ Kd.bool.V K' (decide (¬ light a0_l)) r0) := by
  refine (heavy_walk hM0 h_a0_l (heavy_ok h_a0_l.wf)).mono ?_
  rintro _ w' ⟨K', r0, o0, rfl, rfl, hF⟩
  exact ⟨K', r0, rfl, hF⟩
abbrev kd_Sseal_note : Kd ((List UInt8) × (List UInt8)) := (Kd.pr kd_a32_u8 kd_l_u8)
theorem ty23 : TyOk Try.prog 23 kd_a32_u8 32 := ⟨⟨Try.t23, _, Try.type23, rfl, rfl, rfl, rfl, rfl⟩, ⟨_, Try.underlying23, rfl⟩⟩
def hasOne_VC (a0_x : ((List UInt8) × (List UInt8))) (a1_x : (List UInt8)) (a2_x : (List UInt8)) (Q : Bool → Prop) : Prop :=
  Q (decide ((a0_x.1 = a1_x) ∧ (a0_x.2 = a2_x)))
theorem hasOne_ok {a0_x : ((List UInt8) × (List UInt8))} {a1_x : (List UInt8)} {a2_x : (List UInt8)} (w_0 : kd_Sseal_note.wf a0_x) (w_1 : kd_a32_u8.wf a1_x) (w_2 : kd_l_u8.wf a2_x) : hasOne_VC a0_x a1_x a2_x (fun o0 => o0 = decide (a0_x.1 = a1_x ∧ a0_x.2 = a2_x)) := by
  show decide _ = decide _
  simp

theorem hasOne_walk {w0 : World} {K0 : Ghost} {a0_x_v : Value} {a0_x : ((List UInt8) × (List UInt8))} {a1_x_b : Nat} {a1_x_pre a1_x_post : List Value} {a1_x : (List UInt8)} {a2_x_b : Nat} {a2_x_pre a2_x_post : List Value} {a2_x : (List UInt8)} {Q : Bool → Prop} (hM0 : Models w0 K0) (h_a0_x : kd_Sseal_note.V K0 a0_x a0_x_v) (h_a1_x_B : Bx kd_a32_u8 w0 K0 a1_x_b a1_x_pre a1_x_post a1_x) (h_a2_x_B : Bx kd_l_u8 w0 K0 a2_x_b a2_x_pre a2_x_post a2_x) (hsp2_3 : ¬ (a1_x_b = a2_x_b)) (h : hasOne_VC a0_x a1_x a2_x Q) : Calls Try.prog 90 #[a0_x_v, (.pointer (some ⟨a1_x_b, a1_x_pre.length, none⟩)), (.pointer (some ⟨a2_x_b, a2_x_pre.length, none⟩))] w0 (fun e w' => ∃ (K' : Ghost) (r0 : Value) (o0 : Bool), e = .returned r0 ∧ Q o0 ∧ Ext NX w0 K0 w' K' ∧ Models w' K' ∧ Kd.bool.V K' o0 r0) := by
  unfold hasOne_VC at h
  have hE0 : Ext NX w0 K0 w0 K0 := Ext.refl _ _ _
  refine calls_gen fun R hR => ?_
  refine calls_env (args := [a0_x_v, (.pointer (some ⟨a1_x_b, a1_x_pre.length, none⟩)), (.pointer (some ⟨a2_x_b, a2_x_pre.length, none⟩))]) Try.func90 rfl (Nat.le_of_ble_eq_true rfl) ?_
  refine WP_seq ?_
  refine WP_region ?_
  refine WL_eff rfl rfl (St_B (S_box hM0 rfl h_a0_x) ?_)
  rintro b4 w4 (hB4 : Bx kd_Sseal_note _ _ _ _ _ a0_x) hS4 hM4 hge4
  have hE4 := hE0.andN hS4
  refine WL_pure (.bool false) (R_as rfl) rfl rfl ?_
  refine WL_nil ?_
  refine WP_seq ?_
  refine WP_own (K := K0) NX [.o 0 2, .o 1 2, .o 2 2, .o 3 2, .o 4 2, .o 5 2, .o 6 2, .o 7 2, .o 8 0, .o 9 2, .o 10 2] (by kernel_rfl) hM4 ?_
  refine WO_pure (.pointer (some ⟨b4, 0 + 0, none⟩)) rfl l0 hM4 (fun _ => R_fa rfl Try.underlying90 rfl rfl ty23 rfl) rfl (gN rfl) rfl ?_
  refine WO_L0 hM4 (S_ldB (Foc.fst kd_a32_u8 kd_l_u8) rfl ty23 hB4 (by first | rfl | simp | omega) (fun h => h)) rfl (gN rfl) rfl ?_
  rintro v6 (hV6 : kd_a32_u8.V _ a0_x.1 _)
  have hR9 := (h_a1_x_B.extN hS4)
  refine WO_L0 hM4 (S_ldB (Foc.id _) rfl ty23 hR9 (by first | rfl | simp | omega) (fun h => h)) rfl (gN rfl) rfl ?_
  rintro v8 (hV8 : kd_a32_u8.V _ a1_x _)
  refine WO_pure (.bool (decide (a0_x.1 = a1_x))) rfl l0 hM4 (fun _ => R_aeql rfl rfl hV6 hV8 Try.underlying23 Try.underlying5 ty5b (by kernel_rfl)) rfl (gN rfl) rfl ?_
  refine WO_pure (.bool (decide (a0_x.1 = a1_x))) rfl l0 hM4 (fun _ => R_mv rfl) rfl (gN rfl) rfl ?_
  refine WO_meet (al := true) (l1 := [.o 5 2, .o 6 2, .o 7 2, .o 8 0, .o 9 2]) [10, 11, 12, 13, 14] NX (fun l w K => l = [(14, (.bool (decide ((a0_x.1 = a1_x) ∧ (a0_x.2 = a2_x)))))] ∧ Ext NX w4 K0 w K ∧ Models w K) ?_ ?_
  · rcases Classical.em (a0_x.1 = a1_x) with hp11 | hp11
    · skip
      refine WO_pure (.pointer (some ⟨b4, 0 + 32, none⟩)) rfl l0 hM4 (fun _ => R_fa rfl Try.underlying90 rfl rfl ty39 rfl) rfl (gY rfl rfl rfl (decide_eq_true hp11)) rfl ?_
      refine WO_L0 hM4 (S_ldB (Foc.snd kd_a32_u8 kd_l_u8) rfl ty39 hB4 (by first | rfl | simp | omega) (fun h => h)) rfl (gY rfl rfl rfl (decide_eq_true hp11)) rfl ?_
      rintro v12 (hV12 : kd_l_u8.V _ a0_x.2 _)
      have hR15 := (h_a2_x_B.extN hS4)
      refine WO_L0 hM4 (S_ldB (Foc.id _) rfl ty39 hR15 (by first | rfl | simp | omega) (fun h => h)) rfl (gY rfl rfl rfl (decide_eq_true hp11)) rfl ?_
      rintro v14 (hV14 : kd_l_u8.V _ a2_x _)
      refine WO_eff0 rfl (gY rfl rfl rfl (decide_eq_true hp11)) rfl (St_call (R_call Try.call48 rfl) ((Equal_c hM4 hV12 hV14).mono ?_))
      rintro _ w17 ⟨K17, v17_0, rfl, hS17, hM17, hV17_0⟩
      refine ⟨v17_0, rfl, ?_⟩
      refine ⟨K17, hS17, hM17, ?_⟩
      have hE17 := hE4.andN hS17
      obtain rfl := bool_form hV17_0
      refine WO_pure (.bool (decide ((a0_x.1 = a1_x) ∧ (a0_x.2 = a2_x)))) rfl l0 hM17 (fun _ => R_pick1 rfl (decide_eq_true hp11) rfl (and_T hp11)) rfl (gN rfl) rfl ?_
      exact WO_end [(14, (.bool (decide ((a0_x.1 = a1_x) ∧ (a0_x.2 = a2_x)))))] K17 rfl ⟨rfl, ((Ext.refl _ _ _).andN hS17), hM17⟩ (by repeat (first | exact Off.refl _ _ | refine Off.updO ?_ rfl _ | refine Off.updN ?_ _ | refine Off.lay ?_ rfl)) ⟨rfl, trivial⟩
    · skip
      refine WO_skip _ hM4 l0 rfl (gF rfl rfl rfl (decide_eq_false hp11)) rfl ?_
      refine WO_skip _ hM4 l0 rfl (gF rfl rfl rfl (decide_eq_false hp11)) rfl ?_
      refine WO_skip _ hM4 l0 rfl (gF rfl rfl rfl (decide_eq_false hp11)) rfl ?_
      refine WO_skip _ hM4 l0 rfl (gF rfl rfl rfl (decide_eq_false hp11)) rfl ?_
      refine WO_pure (.bool (decide ((a0_x.1 = a1_x) ∧ (a0_x.2 = a2_x)))) rfl l0 hM4 (fun _ => R_pick2 rfl (decide_eq_false hp11) rfl (and_F hp11)) rfl (gN rfl) rfl ?_
      exact WO_end [(14, (.bool (decide ((a0_x.1 = a1_x) ∧ (a0_x.2 = a2_x)))))] K0 rfl ⟨rfl, (Ext.refl _ _ _), hM4⟩ (by repeat (first | exact Off.refl _ _ | refine Off.updO ?_ rfl _ | refine Off.updN ?_ _ | refine Off.lay ?_ rfl)) ⟨rfl, trivial⟩
  rintro l σ18 w18 K18 ⟨rfl, hS18, hM18⟩
  have hE18 := hE4.andN hS18
  refine WO_pure (.bool (decide ((a0_x.1 = a1_x) ∧ (a0_x.2 = a2_x)))) rfl l0 hM18 (fun _ => R_as rfl) rfl (gN rfl) rfl ?_
  refine WO_nil ?_
  refine WP_ret ?_
  exact endR_ret hR (v := (.bool (decide ((a0_x.1 = a1_x) ∧ (a0_x.2 = a2_x))))) (resE_1 rfl rfl) ⟨K18, (.bool (decide ((a0_x.1 = a1_x) ∧ (a0_x.2 = a2_x)))), (decide ((a0_x.1 = a1_x) ∧ (a0_x.2 = a2_x))), rfl, h, hE18, hM18, bool_V⟩
theorem hasOne_c {w0 : World} {K0 : Ghost} {a0_x_v : Value} {a0_x : ((List UInt8) × (List UInt8))} {a1_x_b : Nat} {a1_x_pre a1_x_post : List Value} {a1_x : (List UInt8)} {a2_x_b : Nat} {a2_x_pre a2_x_post : List Value} {a2_x : (List UInt8)} (hM0 : Models w0 K0) (h_a0_x : kd_Sseal_note.V K0 a0_x a0_x_v) (h_a1_x_B : Bx kd_a32_u8 w0 K0 a1_x_b a1_x_pre a1_x_post a1_x) (h_a2_x_B : Bx kd_l_u8 w0 K0 a2_x_b a2_x_pre a2_x_post a2_x) (hsp2_3 : ¬ (a1_x_b = a2_x_b)) : Calls Try.prog 90 #[a0_x_v, (.pointer (some ⟨a1_x_b, a1_x_pre.length, none⟩)), (.pointer (some ⟨a2_x_b, a2_x_pre.length, none⟩))] w0 (fun e w' => ∃ (K' : Ghost) (r0 : Value), e = .returned r0 ∧ Ext NX w0 K0 w' K' ∧ Models w' K' ∧ Kd.bool.V K' (decide (a0_x.1 = a1_x ∧ a0_x.2 = a2_x)) r0) := by
  refine (hasOne_walk hM0 h_a0_x h_a1_x_B h_a2_x_B hsp2_3 (hasOne_ok h_a0_x.wf h_a1_x_B.wf h_a2_x_B.wf)).mono ?_
  rintro _ w' ⟨K', r0, o0, rfl, rfl, hF⟩
  exact ⟨K', r0, rfl, hF⟩
end Go.Proofs.Ytfbhiilolpamaaa
