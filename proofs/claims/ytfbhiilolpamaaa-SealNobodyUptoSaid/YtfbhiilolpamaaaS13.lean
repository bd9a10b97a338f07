/- Each function that stands here: what its call must answer for (_VC), that it does (_ok), the walk through its code (_walk), its contract (_c). -/
import Derived.Test.YtfbhiilolpamaaaS12
import Derived.Test.YtfbhiilolpamaaaChecked
import Derived.Test.YtfbhiilolpamaaaB21
import Derived.Test.YtfbhiilolpamaaaP8
set_option linter.unusedVariables false
set_option maxRecDepth 100000
set_option maxHeartbeats 2000000
namespace Go.Proofs.Ytfbhiilolpamaaa
open Go Go.RowKit Go.Inc
def power_VC (a0_n : Int) (Q : Int → Prop) : Prop :=
  ∃ (I1 : Int → Int → Prop) (μ1 : Int → Int → Nat), I1 1 0 ∧ ∀ (x1 : Int) (i1 : Int), I1 x1 i1 → ((Kd.int .u32).wf x1) → ((Kd.int .i64).wf i1) → (((i1 < a0_n) → I1 (IntKind.u32.wrap (2 * x1)) (i1 + 1) ∧ μ1 (IntKind.u32.wrap (2 * x1)) (i1 + 1) < μ1 x1 i1) ∧ ((¬ (i1 < a0_n)) → Q x1))
theorem power_ok {a0_n : Int} (w_0 : (Kd.int .i64).wf a0_n) (hp : (0 : Int) ≤ a0_n ∧ a0_n ≤ (31 : Int)) : power_VC a0_n (fun o0 => o0 = (2 ^ a0_n.toNat : Int)) := by
  unfold power_VC
  refine ⟨fun x i => ∃ j : Nat, i = (j : Int) ∧ (j : Int) ≤ a0_n ∧ x = ((2 ^ j : Nat) : Int), fun _ i => (a0_n - i).toNat, ⟨0, rfl, by omega, rfl⟩, ?_⟩
  rintro x i ⟨j, rfl, hj, rfl⟩ _ _
  refine ⟨fun hlt => ⟨⟨j + 1, by omega, by omega, ?_⟩, by show (a0_n - ((j : Int) + 1)).toNat < (a0_n - (j : Int)).toNat; omega⟩, fun hge => ?_⟩
  · have hp : 2 ^ (j + 1) ≤ 2 ^ 31 := Nat.pow_le_pow_right (by omega) (by omega)
    have e : 2 * ((2 ^ j : Nat) : Int) = ((2 ^ (j + 1) : Nat) : Int) := by rw [Nat.pow_succ]; omega
    rw [e, wrap_nat32 (by omega)]
  · have : a0_n.toNat = j := by omega
    rw [this]
    simp

theorem power_walk {w0 : World} {K0 : Ghost} {a0_n_v : Value} {a0_n : Int} {Q : Int → Prop} (hM0 : Models w0 K0) (h_a0_n : (Kd.int .i64).V K0 a0_n a0_n_v) (h : power_VC a0_n Q) : Calls Try.prog 76 #[a0_n_v] w0 (fun e w' => ∃ (K' : Ghost) (r0 : Value) (o0 : Int), e = .returned r0 ∧ Q o0 ∧ Ext NX w0 K0 w' K' ∧ Models w' K' ∧ (Kd.int .u32).V K' o0 r0) := by
  unfold power_VC at h
  obtain rfl := int_form h_a0_n
  have hE0 : Ext NX w0 K0 w0 K0 := Ext.refl _ _ _
  refine calls_gen fun R hR => ?_
  refine calls_env (args := [(.int .i64 a0_n)]) Try.func76 rfl (Nat.le_of_ble_eq_true rfl) ?_
  refine WP_seq ?_
  refine WP_region ?_
  refine WL_pure (.int .u32 0) (R_as rfl) rfl rfl ?_
  refine WL_nil ?_
  refine WP_seq ?_
  refine WP_region ?_
  refine WL_pure (.int .u32 1) (R_as rfl) rfl rfl ?_
  refine WL_nil ?_
  refine WP_seq ?_
  refine WP_seq ?_
  refine WP_region ?_
  refine WL_pure (.int .i64 0) (R_as rfl) rfl rfl ?_
  refine WL_nil ?_
  refine WP_block ?_
  obtain ⟨I1, μ1, h0, h⟩ := h
  refine WP_loopE (ι := Int × Int) [3, 4, 5, 6, 7, 8, 9, 10, 11] (fun s l w => ∃ K, I1 s.1 s.2 ∧ l = [(3, (.int .u32 s.1)), (4, (.int .i64 s.2))] ∧ Ext NX w0 K0 w K ∧ Models w K ∧ (Kd.int .u32).wf s.1 ∧ (Kd.int .i64).wf s.2) (fun s => μ1 s.1 s.2) (1, 0) [(3, (.int .u32 1)), (4, (.int .i64 0))]
    ⟨K0, h0, rfl, Ext.refl _ _ _, hM0, (show (Kd.int .u32).wf 1 from by constructor <;> decide), (show (Kd.int .i64).wf 0 from by constructor <;> decide)⟩ (by repeat (first | exact trivial | refine ⟨rfl, ?_⟩)) ?_
  rintro ⟨x1, i1⟩ l σ1 w2 ⟨K2, hI, rfl, hX2, hM2, hw1_3, hw1_4⟩
  dsimp only at hI hw1_3 hw1_4
  have hE2 := hE0.andN hX2
  have h := h x1 i1 hI hw1_3 hw1_4
  refine WP_seq ?_
  refine WP_seq ?_
  refine WP_region ?_
  refine WL_pure (.int .i64 i1) (R_mv rfl) rfl rfl ?_
  refine WL_pure (.int .i64 a0_n) (R_mv rfl) rfl rfl ?_
  refine WL_pure (.bool (decide (i1 < a0_n))) (R_lss rfl rfl) rfl rfl ?_
  refine WL_nil ?_
  refine WP_cond (decide (i1 < a0_n)) rfl (fun hc3 => ?_) (fun hc3 => ?_)
  · have hd3 : i1 < a0_n := dec_t hc3
    have h := h.1 hd3
    refine WP_skip ?_
    refine WP_seq ?_
    refine WP_block ?_
    refine WP_region ?_
    refine WL_pure (.int .u32 x1) (R_mv rfl) rfl rfl ?_
    refine WL_pure (.int .u32 (IntKind.u32.wrap (2 * x1))) (R_mul rfl rfl) rfl rfl ?_
    refine WL_pure (.int .u32 (IntKind.u32.wrap (2 * x1))) (R_as rfl) rfl rfl ?_
    refine WL_nil ?_
    refine WP_region ?_
    refine WL_pure (.int .i64 i1) (R_mv rfl) rfl rfl ?_
    refine WL_pure (.int .i64 (i1 + 1)) (R_inc rfl rfl hw1_4 hd3 (h_a0_n).wf) rfl rfl ?_
    refine WL_pure (.int .i64 (i1 + 1)) (R_as rfl) rfl rfl ?_
    refine WL_nil ?_
    refine BackQ.mk ((IntKind.u32.wrap (2 * x1)), (i1 + 1)) [(3, (.int .u32 (IntKind.u32.wrap (2 * x1)))), (4, (.int .i64 (i1 + 1)))] ?_ ?_ ?_ ?_
    rotate_left
    · exact h.2
    · repeat (first | exact Off.lay0 rfl | refine Off.updO ?_ rfl _ | refine Off.updN ?_ _ | refine Off.lay ?_ rfl)
    · repeat (first | exact trivial | refine ⟨rfl, ?_⟩)
    exact ⟨K2, h.1, rfl, ((Ext.refl _ _ _).andN hX2), hM2, (wrap_wf _ _), (inc_wf hw1_4 hd3 (h_a0_n).wf)⟩
  · have hd3 : ¬ (i1 < a0_n) := dec_f hc3
    have h := h.2 hd3
    refine WP_exit ?_
    refine WP_seq ?_
    refine WP_region ?_
    refine WL_pure (.int .u32 x1) (R_mv rfl) rfl rfl ?_
    refine WL_pure (.int .u32 x1) (R_as rfl) rfl rfl ?_
    refine WL_nil ?_
    refine WP_ret ?_
    exact endR_ret hR (v := (.int .u32 x1)) (resE_1 rfl rfl) ⟨K2, (.int .u32 x1), x1, rfl, h, hE2, hM2, (int_V hw1_3)⟩
theorem power_c {w0 : World} {K0 : Ghost} {a0_n_v : Value} {a0_n : Int} (hM0 : Models w0 K0) (h_a0_n : (Kd.int .i64).V K0 a0_n a0_n_v) (hp : (0 : Int) ≤ a0_n ∧ a0_n ≤ (31 : Int)) : Calls Try.prog 76 #[a0_n_v] w0 (fun e w' => ∃ (K' : Ghost) (r0 : Value), e = .returned r0 ∧ Ext NX w0 K0 w' K' ∧ Models w' K' ∧ (Kd.int .u32).V K' (2 ^ a0_n.toNat : Int) r0) := by
  refine (power_walk hM0 h_a0_n (power_ok h_a0_n.wf hp)).mono ?_
  rintro _ w' ⟨K', r0, o0, rfl, rfl, hF⟩
  exact ⟨K', r0, rfl, hF⟩
def turn_VC (a0_x : Int) (a1_n : Int) (Q : Int → Prop) : Prop :=
  ((0 : Int) ≤ a1_n ∧ a1_n ≤ (31 : Int)) ∧ (((Kd.int .u32).wf (2 ^ a1_n.toNat : Int)) → (((2 ^ a1_n.toNat : Int) ≠ 0) ∧ (((0 : Int) ≤ a1_n ∧ a1_n ≤ (31 : Int)) ∧ (((Kd.int .u32).wf (2 ^ a1_n.toNat : Int)) → (((2 ^ a1_n.toNat : Int) ≠ 0) ∧ (((0 : Int) ≤ (IntKind.i64.wrap (32 - a1_n)) ∧ (IntKind.i64.wrap (32 - a1_n)) ≤ (31 : Int)) ∧ (((Kd.int .u32).wf (2 ^ (IntKind.i64.wrap (32 - a1_n)).toNat : Int)) → (Q (IntKind.u32.wrap ((IntKind.u32.wrap (Int.tdiv a0_x (2 ^ a1_n.toNat : Int))) + (IntKind.u32.wrap ((Int.tmod a0_x (2 ^ a1_n.toNat : Int)) * (2 ^ (IntKind.i64.wrap (32 - a1_n)).toNat : Int)))))))))))))
theorem turn_ok {a0_x : Int} {a1_n : Int} (w_0 : (Kd.int .u32).wf a0_x) (w_1 : (Kd.int .i64).wf a1_n) (hp : (1 : Int) ≤ a1_n ∧ a1_n ≤ (31 : Int)) : turn_VC a0_x a1_n (fun o0 => o0 = (turnR a0_x a1_n)) := by
  have w : IntKind.i64.wrap (32 - a1_n) = 32 - a1_n := wrap_id (wf64 (by omega) (by omega))
  have hp : ∀ k : Nat, (2 ^ k : Int) ≠ 0 := fun k => by
    have : (2 ^ k : Int) = ((2 ^ k : Nat) : Int) := by simp
    rw [this]
    have := Nat.two_pow_pos k
    omega
  unfold turn_VC
  rw [w]
  exact ⟨by omega, fun _ => ⟨hp _, by omega, fun _ => ⟨hp _, by omega, fun _ => rfl⟩⟩⟩

theorem turn_walk {w0 : World} {K0 : Ghost} {a0_x_v : Value} {a0_x : Int} {a1_n_v : Value} {a1_n : Int} {Q : Int → Prop} (hM0 : Models w0 K0) (h_a0_x : (Kd.int .u32).V K0 a0_x a0_x_v) (h_a1_n : (Kd.int .i64).V K0 a1_n a1_n_v) (h : turn_VC a0_x a1_n Q) : Calls Try.prog 100 #[a0_x_v, a1_n_v] w0 (fun e w' => ∃ (K' : Ghost) (r0 : Value) (o0 : Int), e = .returned r0 ∧ Q o0 ∧ Ext NX w0 K0 w' K' ∧ Models w' K' ∧ (Kd.int .u32).V K' o0 r0) := by
  unfold turn_VC at h
  obtain rfl := int_form h_a0_x
  obtain rfl := int_form h_a1_n
  have hE0 : Ext NX w0 K0 w0 K0 := Ext.refl _ _ _
  refine calls_gen fun R hR => ?_
  refine calls_env (args := [(.int .u32 a0_x), (.int .i64 a1_n)]) Try.func100 rfl (Nat.le_of_ble_eq_true rfl) ?_
  refine WP_seq ?_
  refine WP_region ?_
  refine WL_pure (.int .u32 0) (R_as rfl) rfl rfl ?_
  refine WL_nil ?_
  refine WP_seq ?_
  refine WP_ordD (K := K0) NX [.o 0 2, .o 1 2, .o 4 2, .o 5 2, .o 8 2, .o 9 2, .o 2 0, .o 3 2, .o 6 0, .o 7 2, .o 10 0, .o 11 2, .o 12 2, .o 13 2] (by kernel_rfl) (by kernel_rfl) hM0 ?_
  rintro w1 hS1 hM1
  have hE1 := hE0.andN hS1
  refine WO_pure (.int .u32 a0_x) rfl l0 hM1 (fun _ => R_mv rfl) rfl (gN rfl) rfl ?_
  refine WO_pure (.int .i64 a1_n) rfl l0 hM1 (fun _ => R_mv rfl) rfl (gN rfl) rfl ?_
  refine WO_pure (.int .u32 a0_x) rfl l0 hM1 (fun _ => R_mv rfl) rfl (gN rfl) rfl ?_
  refine WO_pure (.int .i64 a1_n) rfl l0 hM1 (fun _ => R_mv rfl) rfl (gN rfl) rfl ?_
  refine WO_pure (.int .i64 a1_n) rfl l0 hM1 (fun _ => R_mv rfl) rfl (gN rfl) rfl ?_
  refine WO_pure (.int .i64 (IntKind.i64.wrap (32 - a1_n))) rfl l0 hM1 (fun _ => R_sub rfl rfl) rfl (gN rfl) rfl ?_
  obtain ⟨hp3, h⟩ := h
  refine WO_eff0 rfl (gN rfl) rfl (St_call (R_call Try.call76 rfl) ((power_c hM1 (int_V (h_a1_n).wf) hp3).mono ?_))
  rintro _ w2 ⟨K2, v2_0, rfl, hS2, hM2, hV2_0⟩
  refine ⟨v2_0, rfl, ?_⟩
  refine ⟨K2, hS2, hM2, ?_⟩
  have hE2 := hE1.andN hS2
  obtain rfl := int_form hV2_0
  have h := h hV2_0.wf
  obtain ⟨hp4, h⟩ := h
  refine WO_pure (.int .u32 (IntKind.u32.wrap (Int.tdiv a0_x (2 ^ a1_n.toNat : Int)))) rfl l0 hM2 (fun _ => R_quo rfl rfl hp4) rfl (gN rfl) rfl ?_
  obtain ⟨hp6, h⟩ := h
  refine WO_eff0 rfl (gN rfl) rfl (St_call (R_call Try.call76 rfl) ((power_c hM2 (int_V (h_a1_n).wf) hp6).mono ?_))
  rintro _ w5 ⟨K5, v5_0, rfl, hS5, hM5, hV5_0⟩
  refine ⟨v5_0, rfl, ?_⟩
  refine ⟨K5, hS5, hM5, ?_⟩
  have hE5 := hE2.andN hS5
  obtain rfl := int_form hV5_0
  have h := h hV5_0.wf
  obtain ⟨hp7, h⟩ := h
  refine WO_pure (.int .u32 (Int.tmod a0_x (2 ^ a1_n.toNat : Int))) rfl l0 hM5 (fun _ => R_rem rfl rfl hp7) rfl (gN rfl) rfl ?_
  obtain ⟨hp9, h⟩ := h
  refine WO_eff0 rfl (gN rfl) rfl (St_call (R_call Try.call76 rfl) ((power_c hM5 (int_V (wrap_wf _ _)) hp9).mono ?_))
  rintro _ w8 ⟨K8, v8_0, rfl, hS8, hM8, hV8_0⟩
  refine ⟨v8_0, rfl, ?_⟩
  refine ⟨K8, hS8, hM8, ?_⟩
  have hE8 := hE5.andN hS8
  obtain rfl := int_form hV8_0
  have h := h hV8_0.wf
  refine WO_pure (.int .u32 (IntKind.u32.wrap ((Int.tmod a0_x (2 ^ a1_n.toNat : Int)) * (2 ^ (IntKind.i64.wrap (32 - a1_n)).toNat : Int)))) rfl l0 hM8 (fun _ => R_mul rfl rfl) rfl (gN rfl) rfl ?_
  refine WO_pure (.int .u32 (IntKind.u32.wrap ((IntKind.u32.wrap (Int.tdiv a0_x (2 ^ a1_n.toNat : Int))) + (IntKind.u32.wrap ((Int.tmod a0_x (2 ^ a1_n.toNat : Int)) * (2 ^ (IntKind.i64.wrap (32 - a1_n)).toNat : Int)))))) rfl l0 hM8 (fun _ => R_add rfl rfl) rfl (gN rfl) rfl ?_
  refine WO_pure (.int .u32 (IntKind.u32.wrap ((IntKind.u32.wrap (Int.tdiv a0_x (2 ^ a1_n.toNat : Int))) + (IntKind.u32.wrap ((Int.tmod a0_x (2 ^ a1_n.toNat : Int)) * (2 ^ (IntKind.i64.wrap (32 - a1_n)).toNat : Int)))))) rfl l0 hM8 (fun _ => R_as rfl) rfl (gN rfl) rfl ?_
  refine WO_nil ?_
  refine WP_ret ?_
  exact endR_ret hR (v := (.int .u32 (IntKind.u32.wrap ((IntKind.u32.wrap (Int.tdiv a0_x (2 ^ a1_n.toNat : Int))) + (IntKind.u32.wrap ((Int.tmod a0_x (2 ^ a1_n.toNat : Int)) * (2 ^ (IntKind.i64.wrap (32 - a1_n)).toNat : Int))))))) (resE_1 rfl rfl) ⟨K8, (.int .u32 (IntKind.u32.wrap ((IntKind.u32.wrap (Int.tdiv a0_x (2 ^ a1_n.toNat : Int))) + (IntKind.u32.wrap ((Int.tmod a0_x (2 ^ a1_n.toNat : Int)) * (2 ^ (IntKind.i64.wrap (32 - a1_n)).toNat : Int)))))), (IntKind.u32.wrap ((IntKind.u32.wrap (Int.tdiv a0_x (2 ^ a1_n.toNat : Int))) + (IntKind.u32.wrap ((Int.tmod a0_x (2 ^ a1_n.toNat : Int)) * (2 ^ (IntKind.i64.wrap (32 - a1_n)).toNat : Int))))), rfl, h, hE8, hM8, (int_V (wrap_wf _ _))⟩
theorem turn_c {w0 : World} {K0 : Ghost} {a0_x_v : Value} {a0_x : Int} {a1_n_v : Value} {a1_n : Int} (hM0 : Models w0 K0) (h_a0_x : (Kd.int .u32).V K0 a0_x a0_x_v) (h_a1_n : (Kd.int .i64).V K0 a1_n a1_n_v) (hp : (1 : Int) ≤ a1_n ∧ a1_n ≤ (31 : Int)) : Calls Try.prog 100 #[a0_x_v, a1_n_v] w0 (fun e w' => ∃ (K' : Ghost) (r0 : Value), e = .returned r0 ∧ Ext NX w0 K0 w' K' ∧ Models w' K' ∧ (Kd.int .u32).V K' (turnR a0_x a1_n) r0) := by
  refine (turn_walk hM0 h_a0_x h_a1_n (turn_ok h_a0_x.wf h_a1_n.wf hp)).mono ?_
  rintro _ w' ⟨K', r0, o0, rfl, rfl, hF⟩
  exact ⟨K', r0, rfl, hF⟩
def three_VC (a0_a : Int) (a1_b : Int) (a2_c : Int) (Q : Int → Prop) : Prop :=
  Q (bxor .u32 (bxor .u32 a0_a a1_b) a2_c)
theorem three_ok {a0_a : Int} {a1_b : Int} {a2_c : Int} (w_0 : (Kd.int .u32).wf a0_a) (w_1 : (Kd.int .u32).wf a1_b) (w_2 : (Kd.int .u32).wf a2_c) : three_VC a0_a a1_b a2_c (fun o0 => o0 = (bxor .u32 (bxor .u32 a0_a a1_b) a2_c)) := by
  rfl

theorem three_walk {w0 : World} {K0 : Ghost} {a0_a_v : Value} {a0_a : Int} {a1_b_v : Value} {a1_b : Int} {a2_c_v : Value} {a2_c : Int} {Q : Int → Prop} (hM0 : Models w0 K0) (h_a0_a : (Kd.int .u32).V K0 a0_a a0_a_v) (h_a1_b : (Kd.int .u32).V K0 a1_b a1_b_v) (h_a2_c : (Kd.int .u32).V K0 a2_c a2_c_v) (h : three_VC a0_a a1_b a2_c Q) : Calls Try.prog 99 #[a0_a_v, a1_b_v, a2_c_v] w0 (fun e w' => ∃ (K' : Ghost) (r0 : Value) (o0 : Int), e = .returned r0 ∧ Q o0 ∧ Ext NX w0 K0 w' K' ∧ Models w' K' ∧ (Kd.int .u32).V K' o0 r0) := by
  unfold three_VC at h
  obtain rfl := int_form h_a0_a
  obtain rfl := int_form h_a1_b
  obtain rfl := int_form h_a2_c
  have hE0 : Ext NX w0 K0 w0 K0 := Ext.refl _ _ _
  refine calls_gen fun R hR => ?_
  refine calls_env (args := [(.int .u32 a0_a), (.int .u32 a1_b), (.int .u32 a2_c)]) Try.func99 rfl (Nat.le_of_ble_eq_true rfl) ?_
  refine WP_seq ?_
  refine WP_region ?_
  refine WL_pure (.int .u32 0) (R_as rfl) rfl rfl ?_
  refine WL_nil ?_
  refine WP_seq ?_
  refine WP_region ?_
  refine WL_pure (.int .u32 a0_a) (R_mv rfl) rfl rfl ?_
  refine WL_pure (.int .u32 a1_b) (R_mv rfl) rfl rfl ?_
  refine WL_pure (.int .u32 (bxor .u32 a0_a a1_b)) (R_xor rfl rfl) rfl rfl ?_
  refine WL_pure (.int .u32 a2_c) (R_mv rfl) rfl rfl ?_
  refine WL_pure (.int .u32 (bxor .u32 (bxor .u32 a0_a a1_b) a2_c)) (R_xor rfl rfl) rfl rfl ?_
  refine WL_pure (.int .u32 (bxor .u32 (bxor .u32 a0_a a1_b) a2_c)) (R_as rfl) rfl rfl ?_
  refine WL_nil ?_
  refine WP_ret ?_
  exact endR_ret hR (v := (.int .u32 (bxor .u32 (bxor .u32 a0_a a1_b) a2_c))) (resE_1 rfl rfl) ⟨K0, (.int .u32 (bxor .u32 (bxor .u32 a0_a a1_b) a2_c)), (bxor .u32 (bxor .u32 a0_a a1_b) a2_c), rfl, h, hE0, hM0, (int_V (wrap_wf _ _))⟩
theorem three_c {w0 : World} {K0 : Ghost} {a0_a_v : Value} {a0_a : Int} {a1_b_v : Value} {a1_b : Int} {a2_c_v : Value} {a2_c : Int} (hM0 : Models w0 K0) (h_a0_a : (Kd.int .u32).V K0 a0_a a0_a_v) (h_a1_b : (Kd.int .u32).V K0 a1_b a1_b_v) (h_a2_c : (Kd.int .u32).V K0 a2_c a2_c_v) : Calls Try.prog 99 #[a0_a_v, a1_b_v, a2_c_v] w0 (fun e w' => ∃ (K' : Ghost) (r0 : Value), e = .returned r0 ∧ Ext NX w0 K0 w' K' ∧ Models w' K' ∧ (Kd.int .u32).V K' (bxor .u32 (bxor .u32 a0_a a1_b) a2_c) r0) := by
  refine (three_walk hM0 h_a0_a h_a1_b h_a2_c (three_ok h_a0_a.wf h_a1_b.wf h_a2_c.wf)).mono ?_
  rintro _ w' ⟨K', r0, o0, rfl, rfl, hF⟩
  exact ⟨K', r0, rfl, hF⟩
abbrev kd_l_u32 : Kd (List Int) := (Kd.sl (Kd.int .u32))
def constants_VC  (Q : (List Int) → Prop) : Prop :=
  Q [1116352408, 1899447441, 3049323471, 3921009573, 961987163, 1508970993, 2453635748, 2870763221, 3624381080, 310598401, 607225278, 1426881987, 1925078388, 2162078206, 2614888103, 3248222580, 3835390401, 4022224774, 264347078, 604807628, 770255983, 1249150122, 1555081692, 1996064986, 2554220882, 2821834349, 2952996808, 3210313671, 3336571891, 3584528711, 113926993, 338241895, 666307205, 773529912, 1294757372, 1396182291, 1695183700, 1986661051, 2177026350, 2456956037, 2730485921, 2820302411, 3259730800, 3345764771, 3516065817, 3600352804, 4094571909, 275423344, 430227734, 506948616, 659060556, 883997877, 958139571, 1322822218, 1537002063, 1747873779, 1955562222, 2024104815, 2227730452, 2361852424, 2428436474, 2756734187, 3204031479, 3329325298]
theorem constants_ok  : constants_VC  (fun o0 => o0 = shaK) := by
  rfl

theorem constants_walk {w0 : World} {K0 : Ghost}  {Q : (List Int) → Prop} (hM0 : Models w0 K0)  (h : constants_VC  Q) : Calls Try.prog 98 #[] w0 (fun e w' => ∃ (K' : Ghost) (r0 : Value) (o0 : (List Int)), e = .returned r0 ∧ Q o0 ∧ Ext NX w0 K0 w' K' ∧ Models w' K' ∧ Own (Kd.int .u32) 123 w' K' o0 r0 ∧ (∀ g, ob r0 = some g → w0.heap.size ≤ g)) := by
  unfold constants_VC at h
  have hE0 : Ext NX w0 K0 w0 K0 := Ext.refl _ _ _
  refine calls_gen fun R hR => ?_
  refine calls_env (args := []) Try.func98 rfl (Nat.le_of_ble_eq_true rfl) ?_
  refine WP_seq ?_
  refine WP_region ?_
  have hR1 : Own (Kd.int .u32) 123 w0 K0 ([] : List Int) (.slice none 0 0) := Own.nil
  refine WL_pure (.slice none 0 0) (R_as rfl) rfl rfl ?_
  refine WL_nil ?_
  refine WP_seq ?_
  refine WP_region ?_
  refine WL_eff rfl rfl (St_S0 (S_bsl (k := (Kd.int .u32)) (l := [(1116352408, (.int .u32 1116352408)), (1899447441, (.int .u32 1899447441)), (3049323471, (.int .u32 3049323471)), (3921009573, (.int .u32 3921009573)), (961987163, (.int .u32 961987163)), (1508970993, (.int .u32 1508970993)), (2453635748, (.int .u32 2453635748)), (2870763221, (.int .u32 2870763221)), (3624381080, (.int .u32 3624381080)), (310598401, (.int .u32 310598401)), (607225278, (.int .u32 607225278)), (1426881987, (.int .u32 1426881987)), (1925078388, (.int .u32 1925078388)), (2162078206, (.int .u32 2162078206)), (2614888103, (.int .u32 2614888103)), (3248222580, (.int .u32 3248222580)), (3835390401, (.int .u32 3835390401)), (4022224774, (.int .u32 4022224774)), (264347078, (.int .u32 264347078)), (604807628, (.int .u32 604807628)), (770255983, (.int .u32 770255983)), (1249150122, (.int .u32 1249150122)), (1555081692, (.int .u32 1555081692)), (1996064986, (.int .u32 1996064986)), (2554220882, (.int .u32 2554220882)), (2821834349, (.int .u32 2821834349)), (2952996808, (.int .u32 2952996808)), (3210313671, (.int .u32 3210313671)), (3336571891, (.int .u32 3336571891)), (3584528711, (.int .u32 3584528711)), (113926993, (.int .u32 113926993)), (338241895, (.int .u32 338241895)), (666307205, (.int .u32 666307205)), (773529912, (.int .u32 773529912)), (1294757372, (.int .u32 1294757372)), (1396182291, (.int .u32 1396182291)), (1695183700, (.int .u32 1695183700)), (1986661051, (.int .u32 1986661051)), (2177026350, (.int .u32 2177026350)), (2456956037, (.int .u32 2456956037)), (2730485921, (.int .u32 2730485921)), (2820302411, (.int .u32 2820302411)), (3259730800, (.int .u32 3259730800)), (3345764771, (.int .u32 3345764771)), (3516065817, (.int .u32 3516065817)), (3600352804, (.int .u32 3600352804)), (4094571909, (.int .u32 4094571909)), (275423344, (.int .u32 275423344)), (430227734, (.int .u32 430227734)), (506948616, (.int .u32 506948616)), (659060556, (.int .u32 659060556)), (883997877, (.int .u32 883997877)), (958139571, (.int .u32 958139571)), (1322822218, (.int .u32 1322822218)), (1537002063, (.int .u32 1537002063)), (1747873779, (.int .u32 1747873779)), (1955562222, (.int .u32 1955562222)), (2024104815, (.int .u32 2024104815)), (2227730452, (.int .u32 2227730452)), (2361852424, (.int .u32 2361852424)), (2428436474, (.int .u32 2428436474)), (2756734187, (.int .u32 2756734187)), (3204031479, (.int .u32 3204031479)), (3329325298, (.int .u32 3329325298))]) hM0 rfl (by intro p hp; simp only [List.mem_cons, List.not_mem_nil, or_false] at hp; rcases hp with rfl | rfl | rfl | rfl | rfl | rfl | rfl | rfl | rfl | rfl | rfl | rfl | rfl | rfl | rfl | rfl | rfl | rfl | rfl | rfl | rfl | rfl | rfl | rfl | rfl | rfl | rfl | rfl | rfl | rfl | rfl | rfl | rfl | rfl | rfl | rfl | rfl | rfl | rfl | rfl | rfl | rfl | rfl | rfl | rfl | rfl | rfl | rfl | rfl | rfl | rfl | rfl | rfl | rfl | rfl | rfl | rfl | rfl | rfl | rfl | rfl | rfl | rfl | rfl; exact (int_V (show (Kd.int .u32).wf 1116352408 from by constructor <;> decide)); exact (int_V (show (Kd.int .u32).wf 1899447441 from by constructor <;> decide)); exact (int_V (show (Kd.int .u32).wf 3049323471 from by constructor <;> decide)); exact (int_V (show (Kd.int .u32).wf 3921009573 from by constructor <;> decide)); exact (int_V (show (Kd.int .u32).wf 961987163 from by constructor <;> decide)); exact (int_V (show (Kd.int .u32).wf 1508970993 from by constructor <;> decide)); exact (int_V (show (Kd.int .u32).wf 2453635748 from by constructor <;> decide)); exact (int_V (show (Kd.int .u32).wf 2870763221 from by constructor <;> decide)); exact (int_V (show (Kd.int .u32).wf 3624381080 from by constructor <;> decide)); exact (int_V (show (Kd.int .u32).wf 310598401 from by constructor <;> decide)); exact (int_V (show (Kd.int .u32).wf 607225278 from by constructor <;> decide)); exact (int_V (show (Kd.int .u32).wf 1426881987 from by constructor <;> decide)); exact (int_V (show (Kd.int .u32).wf 1925078388 from by constructor <;> decide)); exact (int_V (show (Kd.int .u32).wf 2162078206 from by constructor <;> decide)); exact (int_V (show (Kd.int .u32).wf 2614888103 from by constructor <;> decide)); exact (int_V (show (Kd.int .u32).wf 3248222580 from by constructor <;> decide)); exact (int_V (show (Kd.int .u32).wf 3835390401 from by constructor <;> decide)); exact (int_V (show (Kd.int .u32).wf 4022224774 from by constructor <;> decide)); exact (int_V (show (Kd.int .u32).wf 264347078 from by constructor <;> decide)); exact (int_V (show (Kd.int .u32).wf 604807628 from by constructor <;> decide)); exact (int_V (show (Kd.int .u32).wf 770255983 from by constructor <;> decide)); exact (int_V (show (Kd.int .u32).wf 1249150122 from by constructor <;> decide)); exact (int_V (show (Kd.int .u32).wf 1555081692 from by constructor <;> decide)); exact (int_V (show (Kd.int .u32).wf 1996064986 from by constructor <;> decide)); exact (int_V (show (Kd.int .u32).wf 2554220882 from by constructor <;> decide)); exact (int_V (show (Kd.int .u32).wf 2821834349 from by constructor <;> decide)); exact (int_V (show (Kd.int .u32).wf 2952996808 from by constructor <;> decide)); exact (int_V (show (Kd.int .u32).wf 3210313671 from by constructor <;> decide)); exact (int_V (show (Kd.int .u32).wf 3336571891 from by constructor <;> decide)); exact (int_V (show (Kd.int .u32).wf 3584528711 from by constructor <;> decide)); exact (int_V (show (Kd.int .u32).wf 113926993 from by constructor <;> decide)); exact (int_V (show (Kd.int .u32).wf 338241895 from by constructor <;> decide)); exact (int_V (show (Kd.int .u32).wf 666307205 from by constructor <;> decide)); exact (int_V (show (Kd.int .u32).wf 773529912 from by constructor <;> decide)); exact (int_V (show (Kd.int .u32).wf 1294757372 from by constructor <;> decide)); exact (int_V (show (Kd.int .u32).wf 1396182291 from by constructor <;> decide)); exact (int_V (show (Kd.int .u32).wf 1695183700 from by constructor <;> decide)); exact (int_V (show (Kd.int .u32).wf 1986661051 from by constructor <;> decide)); exact (int_V (show (Kd.int .u32).wf 2177026350 from by constructor <;> decide)); exact (int_V (show (Kd.int .u32).wf 2456956037 from by constructor <;> decide)); exact (int_V (show (Kd.int .u32).wf 2730485921 from by constructor <;> decide)); exact (int_V (show (Kd.int .u32).wf 2820302411 from by constructor <;> decide)); exact (int_V (show (Kd.int .u32).wf 3259730800 from by constructor <;> decide)); exact (int_V (show (Kd.int .u32).wf 3345764771 from by constructor <;> decide)); exact (int_V (show (Kd.int .u32).wf 3516065817 from by constructor <;> decide)); exact (int_V (show (Kd.int .u32).wf 3600352804 from by constructor <;> decide)); exact (int_V (show (Kd.int .u32).wf 4094571909 from by constructor <;> decide)); exact (int_V (show (Kd.int .u32).wf 275423344 from by constructor <;> decide)); exact (int_V (show (Kd.int .u32).wf 430227734 from by constructor <;> decide)); exact (int_V (show (Kd.int .u32).wf 506948616 from by constructor <;> decide)); exact (int_V (show (Kd.int .u32).wf 659060556 from by constructor <;> decide)); exact (int_V (show (Kd.int .u32).wf 883997877 from by constructor <;> decide)); exact (int_V (show (Kd.int .u32).wf 958139571 from by constructor <;> decide)); exact (int_V (show (Kd.int .u32).wf 1322822218 from by constructor <;> decide)); exact (int_V (show (Kd.int .u32).wf 1537002063 from by constructor <;> decide)); exact (int_V (show (Kd.int .u32).wf 1747873779 from by constructor <;> decide)); exact (int_V (show (Kd.int .u32).wf 1955562222 from by constructor <;> decide)); exact (int_V (show (Kd.int .u32).wf 2024104815 from by constructor <;> decide)); exact (int_V (show (Kd.int .u32).wf 2227730452 from by constructor <;> decide)); exact (int_V (show (Kd.int .u32).wf 2361852424 from by constructor <;> decide)); exact (int_V (show (Kd.int .u32).wf 2428436474 from by constructor <;> decide)); exact (int_V (show (Kd.int .u32).wf 2756734187 from by constructor <;> decide)); exact (int_V (show (Kd.int .u32).wf 3204031479 from by constructor <;> decide)); exact (int_V (show (Kd.int .u32).wf 3329325298 from by constructor <;> decide))) rfl Try.underlying124 ty123 rfl rfl) ?_)
  rintro v2 w2 K2 (hO2 : Own (Kd.int .u32) 123 w2 K2 [1116352408, 1899447441, 3049323471, 3921009573, 961987163, 1508970993, 2453635748, 2870763221, 3624381080, 310598401, 607225278, 1426881987, 1925078388, 2162078206, 2614888103, 3248222580, 3835390401, 4022224774, 264347078, 604807628, 770255983, 1249150122, 1555081692, 1996064986, 2554220882, 2821834349, 2952996808, 3210313671, 3336571891, 3584528711, 113926993, 338241895, 666307205, 773529912, 1294757372, 1396182291, 1695183700, 1986661051, 2177026350, 2456956037, 2730485921, 2820302411, 3259730800, 3345764771, 3516065817, 3600352804, 4094571909, 275423344, 430227734, 506948616, 659060556, 883997877, 958139571, 1322822218, 1537002063, 1747873779, 1955562222, 2024104815, 2227730452, 2361852424, 2428436474, 2756734187, 3204031479, 3329325298] v2) hS2 hM2 hg2
  have hE2 := hE0.andN hS2
  refine WL_pure v2 (R_as rfl) rfl rfl ?_
  refine WL_nil ?_
  refine WP_ret ?_
  exact endR_ret hR (v := v2) (resE_1 rfl rfl) ⟨K2, v2, [1116352408, 1899447441, 3049323471, 3921009573, 961987163, 1508970993, 2453635748, 2870763221, 3624381080, 310598401, 607225278, 1426881987, 1925078388, 2162078206, 2614888103, 3248222580, 3835390401, 4022224774, 264347078, 604807628, 770255983, 1249150122, 1555081692, 1996064986, 2554220882, 2821834349, 2952996808, 3210313671, 3336571891, 3584528711, 113926993, 338241895, 666307205, 773529912, 1294757372, 1396182291, 1695183700, 1986661051, 2177026350, 2456956037, 2730485921, 2820302411, 3259730800, 3345764771, 3516065817, 3600352804, 4094571909, 275423344, 430227734, 506948616, 659060556, 883997877, 958139571, 1322822218, 1537002063, 1747873779, 1955562222, 2024104815, 2227730452, 2361852424, 2428436474, 2756734187, 3204031479, 3329325298], rfl, h, hE2, hM2, hO2, (fun g hg => Nat.le_trans hE0.size (hg2 g hg))⟩
theorem constants_c {w0 : World} {K0 : Ghost}  (hM0 : Models w0 K0)  : Calls Try.prog 98 #[] w0 (fun e w' => ∃ (K' : Ghost) (r0 : Value), e = .returned r0 ∧ Ext NX w0 K0 w' K' ∧ Models w' K' ∧ Own (Kd.int .u32) 123 w' K' shaK r0 ∧ (∀ g, ob r0 = some g → w0.heap.size ≤ g)) := by
  refine (constants_walk hM0  (constants_ok)).mono ?_
  rintro _ w' ⟨K', r0, o0, rfl, rfl, hF⟩
  exact ⟨K', r0, rfl, hF⟩
def Message_VC (a0_b : (List UInt8)) (Q : (List UInt8) → Prop) : Prop :=
  ((([] : List UInt8).length + a0_b.length) * 1 ≤ 140737488355328) ∧ (((a0_b.length + [(toB 128)].length) * 1 ≤ 140737488355328) ∧ (∃ (I20 : (List UInt8) → Prop) (μ20 : (List UInt8) → Nat), I20 (a0_b ++ [(toB 128)]) ∧ ∀ (m20 : (List UInt8)), I20 m20 → (kd_l_u8.wf m20) → ((((Int.tmod (m20.length : Int) 64) ≠ 56) → ((m20.length + [(toB 0)].length) * 1 ≤ 140737488355328) ∧ (I20 (m20 ++ [(toB 0)]) ∧ μ20 (m20 ++ [(toB 0)]) < μ20 m20)) ∧ ((¬ ((Int.tmod (m20.length : Int) 64) ≠ 56)) → ∃ (I40 : Int → (List UInt8) → Int → Prop) (μ40 : Int → (List UInt8) → Int → Nat), I40 (IntKind.u64.wrap (8 * (IntKind.u64.wrap (a0_b.length : Int)))) ([] : List UInt8) 0 ∧ ∀ (n40 : Int) (last40 : (List UInt8)) (i40 : Int), I40 n40 last40 i40 → ((Kd.int .u64).wf n40) → (kd_l_u8.wf last40) → ((Kd.int .i64).wf i40) → (((i40 < 8) → (([(toB (IntKind.u8.wrap (Int.tmod n40 256)))].length + last40.length) * 1 ≤ 140737488355328) ∧ (I40 (IntKind.u64.wrap (Int.tdiv n40 256)) ([(toB (IntKind.u8.wrap (Int.tmod n40 256)))] ++ last40) (IntKind.i64.wrap (i40 + 1)) ∧ μ40 (IntKind.u64.wrap (Int.tdiv n40 256)) ([(toB (IntKind.u8.wrap (Int.tmod n40 256)))] ++ last40) (IntKind.i64.wrap (i40 + 1)) < μ40 n40 last40 i40)) ∧ ((¬ (i40 < 8)) → ((m20.length + last40.length) * 1 ≤ 140737488355328) ∧ (Q (m20 ++ last40))))))))
theorem Message_ok {a0_b : (List UInt8)} (w_0 : kd_l_u8.wf a0_b) (hp : a0_b.length ≤ 70368744177664) : Message_VC a0_b (fun o0 => o0 = (msgOf a0_b)) := by
  have hz : zerosN a0_b.length < 64 ∧ (a0_b.length + 1 + zerosN a0_b.length) % 64 = 56 := by unfold zerosN; omega
  have hzm : ∀ k, k < zerosN a0_b.length → (a0_b.length + 1 + k) % 64 ≠ 56 := fun k hk => by unfold zerosN at hk; omega
  have hb0 : toB 0 = 0 := by decide
  have wu : ∀ a : Int, 0 ≤ a → a ≤ 18446744073709551615 → IntKind.u64.wrap a = a := fun a h1 h2 => wrap_id ⟨by show (0 : Int) ≤ _; omega, by show _ ≤ (18446744073709551615 : Int); omega⟩
  unfold Message_VC
  rw [hb0, wu (a0_b.length : Int) (by omega) (by omega), wu (8 * (a0_b.length : Int)) (by omega) (by omega)]
  refine ⟨by simp; omega, by simp; omega, fun m => ∃ k, k ≤ zerosN a0_b.length ∧ m = a0_b ++ [toB 128] ++ List.replicate k 0, fun m => zerosN a0_b.length - (m.length - (a0_b.length + 1)), ⟨0, by omega, by simp⟩, ?_⟩
  rintro m ⟨k, hk, rfl⟩ _
  have hl : (a0_b ++ [toB 128] ++ List.replicate k 0).length = a0_b.length + 1 + k := by simp; omega
  have hmod : Int.tmod ((a0_b ++ [toB 128] ++ List.replicate k 0).length : Int) 64 = (((a0_b.length + 1 + k) % 64 : Nat) : Int) := by
    rw [hl, Int.tmod_eq_emod_of_nonneg (by omega)]
    omega
  rw [hmod]
  refine ⟨fun hne => ⟨by simp; omega, ⟨k + 1, ?_, ?_⟩, ?_⟩, fun heq => ?_⟩
  · rcases Nat.lt_or_eq_of_le hk with h | h
    · omega
    · exfalso; apply hne; rw [h, hz.2]; rfl
  · rw [List.replicate_succ']; simp
  · rcases Nat.lt_or_eq_of_le hk with h | h
    · simp only [List.length_append, List.length_cons, List.length_nil, List.length_replicate]
      omega
    · exfalso; apply hne; rw [h, hz.2]; rfl
  · have hk' : k = zerosN a0_b.length := by
      rcases Nat.lt_or_eq_of_le hk with h | h
      · exact absurd (hzm k h) (by intro hx; apply heq; intro hy; apply hx; omega)
      · exact h
    subst hk'
    refine ⟨fun n last i => ∃ j : Nat, j ≤ 8 ∧ i = (j : Int) ∧ n = ((8 * a0_b.length / 2 ^ (8 * j) : Nat) : Int) ∧ last = be (8 * a0_b.length) j, fun _ _ i => 8 - i.toNat, ⟨0, by omega, rfl, by simp, rfl⟩, ?_⟩
    rintro n last i ⟨j, hj, rfl, rfl, rfl⟩ _ _ _
    have hle : 8 * a0_b.length / 2 ^ (8 * j) ≤ 8 * a0_b.length := Nat.div_le_self _ _
    refine ⟨fun hlt => ⟨by simp [be_length]; omega, ⟨j + 1, by omega, by rw [wrap_id (wf64 (by omega) (by omega))]; omega, ?_, ?_⟩, ?_⟩, fun hge => ⟨?_, ?_⟩⟩
    · have e : (8 * a0_b.length) / 2 ^ (8 * (j + 1)) = 8 * a0_b.length / 2 ^ (8 * j) / 256 := by
        rw [Nat.div_div_eq_div_mul, show 8 * (j + 1) = 8 * j + 8 by omega, Nat.pow_add]
      rw [e]
      generalize 8 * a0_b.length / 2 ^ (8 * j) = A at *
      rw [show (256 : Int) = ((256 : Nat) : Int) from rfl, ← Int.ofNat_tdiv, wu _ (by omega) (by omega)]
    · show toB (IntKind.u8.wrap (Int.tmod _ 256)) :: be _ j = UInt8.ofNat (8 * a0_b.length / 2 ^ (8 * j)) :: be _ j
      congr 1
      generalize 8 * a0_b.length / 2 ^ (8 * j) = A
      rw [show (256 : Int) = ((256 : Nat) : Int) from rfl, ← Int.ofNat_tmod, wrap_id ⟨by show (0 : Int) ≤ _; omega, by show _ ≤ (255 : Int); omega⟩]
      unfold toB
      rw [Int.toNat_natCast]
      apply UInt8.toNat_inj.1
      simp
    · rw [wrap_id (wf64 (by omega) (by omega))]
      show 8 - ((j : Int) + 1).toNat < 8 - (j : Int).toNat
      omega
    · simp [be_length]; omega
    · have : j = 8 := by omega
      subst this
      simp [msgOf]

theorem Message_walk {w0 : World} {K0 : Ghost} {a0_b_v : Value} {a0_b : (List UInt8)} {Q : (List UInt8) → Prop} (hM0 : Models w0 K0) (h_a0_b : kd_l_u8.V K0 a0_b a0_b_v) (h : Message_VC a0_b Q) : Calls Try.prog 73 #[a0_b_v] w0 (fun e w' => ∃ (K' : Ghost) (r0 : Value) (o0 : (List UInt8)), e = .returned r0 ∧ Q o0 ∧ Ext NX w0 K0 w' K' ∧ Models w' K' ∧ Own Kd.byte 5 w' K' o0 r0 ∧ (∀ g, ob r0 = some g → w0.heap.size ≤ g)) := by
  unfold Message_VC at h
  have hE0 : Ext NX w0 K0 w0 K0 := Ext.refl _ _ _
  refine calls_gen fun R hR => ?_
  refine calls_env (args := [a0_b_v]) Try.func73 rfl (Nat.le_of_ble_eq_true rfl) ?_
  refine WP_seq ?_
  refine WP_region ?_
  have hR2 : Own Kd.byte 5 w0 K0 ([] : List UInt8) (.slice none 0 0) := Own.nil
  refine WL_pure (.slice none 0 0) (R_as rfl) rfl rfl ?_
  refine WL_nil ?_
  refine WP_seq ?_
  refine WP_region ?_
  refine WL_eff rfl rfl (St_S0 (S_bsl (k := Kd.byte) (l := []) hM0 rfl (by intro p hp; cases hp) rfl Try.underlying39 ty5b rfl rfl) ?_)
  rintro v3 w3 K3 (hO3 : Own Kd.byte 5 w3 K3 ([] : List UInt8) v3) hS3 hM3 hg3
  have hE3 := hE0.andN hS3
  refine WL_pure a0_b_v (R_mv rfl) rfl rfl ?_
  obtain ⟨hp6, h⟩ := h
  refine WL_eff rfl rfl (St_S (S_app hM3 rfl hO3 rfl (h_a0_b.mono hS3.le) Try.underlying39 ty5b rfl hp6) ?_)
  rintro v5 w5 K5 hO5 hS5 hM5 hob5
  have hE5 := hE3.comp hS5 (fun c hx hlt => (fun g hg hlt => absurd hlt (Nat.not_lt.2 ((fun g hg => Nat.le_trans hE0.size (hg3 g hg)) g hg))) c hx hlt)
  have hR7 := (hR2.extN hS3)
  have hR8 := (hR7.ext hS5 (fun g hg hx => (fun g hg hx => (fun g hg hx => absurd (hR2.lt _ hx) (Nat.not_lt.2 (hg3 g hg))) g hx hg) g hg hx))
  rw [List.nil_append] at hO5
  have hf5 : ∀ g, ob v5 = some g → w0.heap.size ≤ g := fun g hg => by rcases hob5 with hq | hq <;> rw [hq] at hg; exact (fun g hg => Nat.le_trans hE0.size (hg3 g hg)) g hg; cases hg; exact hE3.size
  refine WL_pure v5 (R_as rfl) rfl rfl ?_
  refine WL_nil ?_
  refine WP_seq ?_
  refine WP_region ?_
  refine WL_pure v5 (R_mv rfl) rfl rfl ?_
  refine WL_eff rfl rfl (St_S0 (S_bsl (k := Kd.byte) (l := [((toB 128), (.int .u8 128))]) hM5 rfl (by intro p hp; simp only [List.mem_cons, List.not_mem_nil, or_false] at hp; subst hp; exact (byte_V (show (Kd.int .u8).wf 128 from by constructor <;> decide))) rfl Try.underlying39 ty5b rfl rfl) ?_)
  rintro v10 w10 K10 (hO10 : Own Kd.byte 5 w10 K10 [(toB 128)] v10) hS10 hM10 hg10
  have hE10 := hE5.andN hS10
  have hR12 := (hO5.extN hS10)
  obtain ⟨hp14, h⟩ := h
  refine WL_eff rfl rfl (St_S (S_app hM10 rfl hR12 rfl hO10.V Try.underlying39 ty5b rfl hp14) ?_)
  rintro v13 w13 K13 hO13 hS13 hM13 hob13
  have hE13 := hE10.comp hS13 (fun c hx hlt => (fun g hg hlt => absurd hlt (Nat.not_lt.2 (hf5 g hg))) c hx hlt)
  have hR15 := (hR8.extN hS10)
  have hR16 := (hR15.ext hS13 (fun g hg hx => (fun g hg hx => (fun g _ hx => nilS hx) g hx hg) g hg hx))
  have hR17 := (hO10.ext hS13 (fun g hg hx => (fun g hg hx => absurd (hO5.lt _ hx) (Nat.not_lt.2 (hg10 g hg))) g hg hx))
  have hf13 : ∀ g, ob v13 = some g → w0.heap.size ≤ g := fun g hg => by rcases hob13 with hq | hq <;> rw [hq] at hg; exact hf5 g hg; cases hg; exact hE10.size
  have hs19 : ∀ g, ob v13 = some g → ¬ (ob v10 = some g) := fun g hg hx => by rcases hob13 with hq | hq <;> rw [hq] at hg; exact (fun g hg hx => (fun g hg hx => absurd (hO5.lt _ hx) (Nat.not_lt.2 (hg10 g hg))) g hx hg) g hg hx; cases hg; exact absurd (hO10.lt _ hx) (Nat.not_lt.2 (Nat.le_refl _))
  refine WL_pure v13 (R_as rfl) rfl rfl ?_
  refine WL_nil ?_
  refine WP_seq ?_
  refine WP_block ?_
  obtain ⟨I20, μ20, h0, h⟩ := h
  refine WP_loopE (ι := (List UInt8)) [3, 13, 14, 15, 16, 17, 18, 19] (fun s l w => ∃ K u3, I20 s ∧ l = [(3, u3)] ∧ Ext (fun c => ob v13 = some c) w13 K13 w K ∧ Models w K ∧ Own Kd.byte 5 w K s u3 ∧ (∀ g, ob u3 = some g → ob v13 = some g ∨ w13.heap.size ≤ g)) (fun s => μ20 s) ((a0_b ++ [(toB 128)])) [(3, v13)]
    ⟨K13, v13, h0, rfl, Ext.refl _ _ _, hM13, hO13, (fun g hg => (.inl hg))⟩ (by repeat (first | exact trivial | refine ⟨rfl, ?_⟩)) ?_
  rintro m20 l σ20 w21 ⟨K21, u3_20, hI, rfl, hX21, hM21, hL20_u3, ho20_u3⟩
  have hE21 := hE13.comp hX21 (fun c hx hlt => (fun g hg hlt => absurd hlt (Nat.not_lt.2 (hf13 g hg))) c hx hlt)
  have hR22 := (hR16.ext hX21 (fun g hg hx => (fun g hg hx => (fun g _ hx => nilS hx) g hx hg) g hg hx))
  have hR23 := (hR17.ext hX21 (fun g hg hx => (fun g hg hx => hs19 g hx hg) g hg hx))
  have h := h m20 hI hL20_u3.wf
  refine WP_seq ?_
  refine WP_seq ?_
  refine WP_region ?_
  refine WL_pure u3_20 (R_mv rfl) rfl rfl ?_
  refine WL_pure (.int .i64 (m20.length : Int)) (R_len rfl hL20_u3.V Try.underlying39) rfl rfl ?_
  refine WL_pure (.int .i64 (Int.tmod (m20.length : Int) 64)) (R_rem rfl rfl (by decide)) rfl rfl ?_
  refine WL_pure (.bool (decide ((Int.tmod (m20.length : Int) 64) ≠ 56))) (R_neq rfl rfl) rfl rfl ?_
  refine WL_nil ?_
  refine WP_cond (decide ((Int.tmod (m20.length : Int) 64) ≠ 56)) rfl (fun hc24 => ?_) (fun hc24 => ?_)
  · have hd24 : (Int.tmod (m20.length : Int) 64) ≠ 56 := dec_t hc24
    have h := h.1 hd24
    refine WP_skip ?_
    refine WP_block ?_
    refine WP_region ?_
    refine WL_pure u3_20 (R_mv rfl) rfl rfl ?_
    refine WL_eff rfl rfl (St_S0 (S_bsl (k := Kd.byte) (l := [((toB 0), (.int .u8 0))]) hM21 rfl (by intro p hp; simp only [List.mem_cons, List.not_mem_nil, or_false] at hp; subst hp; exact (byte_V (show (Kd.int .u8).wf 0 from by constructor <;> decide))) rfl Try.underlying39 ty5b rfl rfl) ?_)
    rintro v25 w25 K25 (hO25 : Own Kd.byte 5 w25 K25 [(toB 0)] v25) hS25 hM25 hg25
    have hE25 := hE21.andN hS25
    have hR27 := (hL20_u3.extN hS25)
    obtain ⟨hp29, h⟩ := h
    refine WL_eff rfl rfl (St_S (S_app hM25 rfl hR27 rfl hO25.V Try.underlying39 ty5b rfl hp29) ?_)
    rintro v28 w28 K28 hO28 hS28 hM28 hob28
    have hE28 := hE25.comp hS28 (fun c hx hlt => (fun g hg hlt => absurd hlt (Nat.not_lt.2 ((fun g hg => (ho20_u3 g hg).elim (fun hx => hf13 g hx) (fun hx => Nat.le_trans hE13.size hx)) g hg))) c hx hlt)
    have hR30 := (hR22.extN hS25)
    have hR31 := (hR30.ext hS28 (fun g hg hx => (fun g hg hx => (fun g hg hy => (ho20_u3 g hg).elim (fun hz => (fun g _ hx => nilS hx) g hz hy) (fun hz => absurd (hR16.lt _ hy) (Nat.not_lt.2 hz))) g hx hg) g hg hx))
    have hR32 := (hR23.extN hS25)
    have hR33 := (hR32.ext hS28 (fun g hg hx => (fun g hg hx => (fun g hg hy => (ho20_u3 g hg).elim (fun hz => hs19 g hz hy) (fun hz => absurd (hR17.lt _ hy) (Nat.not_lt.2 hz))) g hx hg) g hg hx))
    have hR34 := (hO25.ext hS28 (fun g hg hx => (fun g hg hx => absurd (hL20_u3.lt _ hx) (Nat.not_lt.2 (hg25 g hg))) g hg hx))
    have hf28 : ∀ g, ob v28 = some g → w0.heap.size ≤ g := fun g hg => by rcases hob28 with hq | hq <;> rw [hq] at hg; exact (fun g hg => (ho20_u3 g hg).elim (fun hx => hf13 g hx) (fun hx => Nat.le_trans hE13.size hx)) g hg; cases hg; exact hE25.size
    have hR36 := (hR23.extN hS25)
    have hs37 : ∀ g, ob v28 = some g → ¬ (ob v10 = some g) := fun g hg hx => by rcases hob28 with hq | hq <;> rw [hq] at hg; exact (fun g hg hy => (ho20_u3 g hg).elim (fun hz => hs19 g hz hy) (fun hz => absurd (hR17.lt _ hy) (Nat.not_lt.2 hz))) g hg hx; cases hg; exact absurd (hR36.lt _ hx) (Nat.not_lt.2 (Nat.le_refl _))
    have hs38 : ∀ g, ob v28 = some g → ¬ (ob v25 = some g) := fun g hg hx => by rcases hob28 with hq | hq <;> rw [hq] at hg; exact (fun g hg hx => (fun g hg hx => absurd (hL20_u3.lt _ hx) (Nat.not_lt.2 (hg25 g hg))) g hx hg) g hg hx; cases hg; exact absurd (hO25.lt _ hx) (Nat.not_lt.2 (Nat.le_refl _))
    refine WL_pure v28 (R_as rfl) rfl rfl ?_
    refine WL_nil ?_
    refine BackQ.mk ((m20 ++ [(toB 0)])) [(3, v28)] ?_ ?_ ?_ ?_
    rotate_left
    · exact h.2
    · repeat (first | exact Off.lay0 rfl | refine Off.updO ?_ rfl _ | refine Off.updN ?_ _ | refine Off.lay ?_ rfl)
    · repeat (first | exact trivial | refine ⟨rfl, ?_⟩)
    exact ⟨K28, v28, h.1, rfl, ((((Ext.refl _ _ _).comp hX21 (fun c hx hlt => (hx))).andN hS25).comp hS28 (fun c hx hlt => ((((ho20_u3 c hx).elim (fun hz => (.inl hz)) (fun hz => .inr (Nat.le_trans (Nat.le_refl _) hz))) : ob v13 = some c ∨ w13.heap.size ≤ c).elim (fun hx => (hx)) (fun hz => absurd hlt (Nat.not_lt.2 hz))))), hM28, hO28, (fun g hg => (by have hg : ob v28 = some g := hg; rcases hob28 with hq | hq <;> rw [hq] at hg; exact ((ho20_u3 g hg).elim (fun hz => (.inl hz)) (fun hz => .inr (Nat.le_trans (Nat.le_refl _) hz))); cases hg; exact .inr (Nat.le_trans hX21.size hS25.size)))⟩
  · have hd24 : ¬ ((Int.tmod (m20.length : Int) 64) ≠ 56) := dec_f hc24
    have h := h.2 hd24
    refine WP_exit ?_
    refine WP_seq ?_
    refine WP_region ?_
    refine WL_pure a0_b_v (R_mv rfl) rfl rfl ?_
    refine WL_pure (.int .i64 (a0_b.length : Int)) (R_len rfl (h_a0_b.mono (hS3.le.trans (hS5.le.trans (hS10.le.trans (hS13.le.trans hX21.le))))) Try.underlying39) rfl rfl ?_
    refine WL_pure (.int .u64 (IntKind.u64.wrap (a0_b.length : Int))) (R_cvi rfl Try.underlying3 Try.underlying65) rfl rfl ?_
    refine WL_pure (.int .u64 (IntKind.u64.wrap (8 * (IntKind.u64.wrap (a0_b.length : Int))))) (R_mul rfl rfl) rfl rfl ?_
    refine WL_pure (.int .u64 (IntKind.u64.wrap (8 * (IntKind.u64.wrap (a0_b.length : Int))))) (R_as rfl) rfl rfl ?_
    refine WL_nil ?_
    refine WP_seq ?_
    refine WP_region ?_
    have hR39 : Own Kd.byte 5 w21 K21 ([] : List UInt8) (.slice none 0 0) := Own.nil
    refine WL_pure (.slice none 0 0) (R_as rfl) rfl rfl ?_
    refine WL_nil ?_
    refine WP_seq ?_
    refine WP_seq ?_
    refine WP_region ?_
    refine WL_pure (.int .i64 0) (R_as rfl) rfl rfl ?_
    refine WL_nil ?_
    refine WP_block ?_
    obtain ⟨I40, μ40, h0, h⟩ := h
    refine WP_loopE (ι := Int × (List UInt8) × Int) [4, 5, 6, 24, 25, 26, 27, 28, 29, 30, 31, 32, 33, 34, 35] (fun s l w => ∃ K u5, I40 s.1 s.2.1 s.2.2 ∧ l = [(4, (.int .u64 s.1)), (5, u5), (6, (.int .i64 s.2.2))] ∧ Ext (fun c => ob (.slice none 0 0) = some c) w21 K21 w K ∧ Models w K ∧ (Kd.int .u64).wf s.1 ∧ (Kd.int .i64).wf s.2.2 ∧ Own Kd.byte 5 w K s.2.1 u5 ∧ (∀ g, ob u5 = some g → ob (.slice none 0 0) = some g ∨ w21.heap.size ≤ g)) (fun s => μ40 s.1 s.2.1 s.2.2) ((IntKind.u64.wrap (8 * (IntKind.u64.wrap (a0_b.length : Int)))), ([] : List UInt8), 0) [(4, (.int .u64 (IntKind.u64.wrap (8 * (IntKind.u64.wrap (a0_b.length : Int)))))), (5, (.slice none 0 0)), (6, (.int .i64 0))]
      ⟨K21, (.slice none 0 0), h0, rfl, Ext.refl _ _ _, hM21, (wrap_wf _ _), (show (Kd.int .i64).wf 0 from by constructor <;> decide), hR39, (fun g hg => .inr (nilS hg))⟩ (by repeat (first | exact trivial | refine ⟨rfl, ?_⟩)) ?_
    rintro ⟨n40, last40, i40⟩ l σ40 w41 ⟨K41, u5_40, hI, rfl, hX41, hM41, hw40_4, hw40_6, hL40_u5, ho40_u5⟩
    dsimp only at hI hw40_4 hw40_6 hL40_u5 ho40_u5
    have hE41 := hE21.comp hX41 (fun c hx hlt => (fun g hg _ => nilS hg) c hx hlt)
    have hR42 := (hR22.ext hX41 (fun g hg hx => (fun g hg hx => (fun g hg _ => nilS hg) g hx hg) g hg hx))
    have hR43 := (hR23.ext hX41 (fun g hg hx => (fun g hg hx => (fun g hg _ => nilS hg) g hx hg) g hg hx))
    have hR44 := (hL20_u3.ext hX41 (fun g hg hx => (fun g hg hx => (fun g hg _ => nilS hg) g hx hg) g hg hx))
    have h := h n40 last40 i40 hI hw40_4 hL40_u5.wf hw40_6
    refine WP_seq ?_
    refine WP_seq ?_
    refine WP_region ?_
    refine WL_pure (.int .i64 i40) (R_mv rfl) rfl rfl ?_
    refine WL_pure (.bool (decide (i40 < 8))) (R_lss rfl rfl) rfl rfl ?_
    refine WL_nil ?_
    refine WP_cond (decide (i40 < 8)) rfl (fun hc45 => ?_) (fun hc45 => ?_)
    · have hd45 : i40 < 8 := dec_t hc45
      have h := h.1 hd45
      refine WP_skip ?_
      refine WP_seq ?_
      refine WP_block ?_
      refine WP_seq ?_
      refine WP_region ?_
      refine WL_pure (.int .u64 n40) (R_mv rfl) rfl rfl ?_
      refine WL_pure (.int .u64 (Int.tmod n40 256)) (R_rem rfl rfl (by decide)) rfl rfl ?_
      refine WL_pure (.int .u8 (IntKind.u8.wrap (Int.tmod n40 256))) (R_cvi rfl Try.underlying65 Try.underlying5) rfl rfl ?_
      refine WL_eff rfl rfl (St_S0 (S_bsl (k := Kd.byte) (l := [((toB (IntKind.u8.wrap (Int.tmod n40 256))), (.int .u8 (IntKind.u8.wrap (Int.tmod n40 256))))]) hM41 rfl (by intro p hp; simp only [List.mem_cons, List.not_mem_nil, or_false] at hp; subst hp; exact (byte_V (wrap_wf _ _))) rfl Try.underlying39 ty5b rfl rfl) ?_)
      rintro v46 w46 K46 (hO46 : Own Kd.byte 5 w46 K46 [(toB (IntKind.u8.wrap (Int.tmod n40 256)))] v46) hS46 hM46 hg46
      have hE46 := hE41.andN hS46
      refine WL_pure u5_40 (R_mv rfl) rfl rfl ?_
      obtain ⟨hp49, h⟩ := h
      refine WL_eff rfl rfl (St_S (S_app hM46 rfl hO46 rfl (hL40_u5.V.mono hS46.le) Try.underlying39 ty5b rfl hp49) ?_)
      rintro v48 w48 K48 hO48 hS48 hM48 hob48
      have hE48 := hE46.comp hS48 (fun c hx hlt => (fun g hg hlt => absurd hlt (Nat.not_lt.2 ((fun g hg => Nat.le_trans hE41.size (hg46 g hg)) g hg))) c hx hlt)
      have hR50 := (hR42.extN hS46)
      have hR51 := (hR50.ext hS48 (fun g hg hx => (fun g hg hx => (fun g hg hx => absurd (hR42.lt _ hx) (Nat.not_lt.2 (hg46 g hg))) g hx hg) g hg hx))
      have hR52 := (hR43.extN hS46)
      have hR53 := (hR52.ext hS48 (fun g hg hx => (fun g hg hx => (fun g hg hx => absurd (hR43.lt _ hx) (Nat.not_lt.2 (hg46 g hg))) g hx hg) g hg hx))
      have hR54 := (hR44.extN hS46)
      have hR55 := (hR54.ext hS48 (fun g hg hx => (fun g hg hx => (fun g hg hx => absurd (hR44.lt _ hx) (Nat.not_lt.2 (hg46 g hg))) g hx hg) g hg hx))
      have hR56 := (hL40_u5.extN hS46)
      have hR57 := (hR56.ext hS48 (fun g hg hx => (fun g hg hx => (fun g hg hx => absurd (hL40_u5.lt _ hx) (Nat.not_lt.2 (hg46 g hg))) g hx hg) g hg hx))
      have hf48 : ∀ g, ob v48 = some g → w0.heap.size ≤ g := fun g hg => by rcases hob48 with hq | hq <;> rw [hq] at hg; exact (fun g hg => Nat.le_trans hE41.size (hg46 g hg)) g hg; cases hg; exact hE46.size
      have hR59 := (hR43.extN hS46)
      have hs60 : ∀ g, ob v48 = some g → ¬ (ob v10 = some g) := fun g hg hx => by rcases hob48 with hq | hq <;> rw [hq] at hg; exact (fun g hg hx => absurd (hR43.lt _ hx) (Nat.not_lt.2 (hg46 g hg))) g hg hx; cases hg; exact absurd (hR59.lt _ hx) (Nat.not_lt.2 (Nat.le_refl _))
      have hR61 := (hR44.extN hS46)
      have hs62 : ∀ g, ob v48 = some g → ¬ (ob u3_20 = some g) := fun g hg hx => by rcases hob48 with hq | hq <;> rw [hq] at hg; exact (fun g hg hx => absurd (hR44.lt _ hx) (Nat.not_lt.2 (hg46 g hg))) g hg hx; cases hg; exact absurd (hR61.lt _ hx) (Nat.not_lt.2 (Nat.le_refl _))
      have hR63 := (hL40_u5.extN hS46)
      have hs64 : ∀ g, ob v48 = some g → ¬ (ob u5_40 = some g) := fun g hg hx => by rcases hob48 with hq | hq <;> rw [hq] at hg; exact (fun g hg hx => absurd (hL40_u5.lt _ hx) (Nat.not_lt.2 (hg46 g hg))) g hg hx; cases hg; exact absurd (hR63.lt _ hx) (Nat.not_lt.2 (Nat.le_refl _))
      refine WL_pure v48 (R_as rfl) rfl rfl ?_
      refine WL_nil ?_
      refine WP_region ?_
      refine WL_pure (.int .u64 n40) (R_mv rfl) rfl rfl ?_
      refine WL_pure (.int .u64 (IntKind.u64.wrap (Int.tdiv n40 256))) (R_quo rfl rfl (by decide)) rfl rfl ?_
      refine WL_pure (.int .u64 (IntKind.u64.wrap (Int.tdiv n40 256))) (R_as rfl) rfl rfl ?_
      refine WL_nil ?_
      refine WP_region ?_
      refine WL_pure (.int .i64 i40) (R_mv rfl) rfl rfl ?_
      refine WL_pure (.int .i64 (IntKind.i64.wrap (i40 + 1))) (R_add rfl rfl) rfl rfl ?_
      refine WL_pure (.int .i64 (IntKind.i64.wrap (i40 + 1))) (R_as rfl) rfl rfl ?_
      refine WL_nil ?_
      refine BackQ.mk ((IntKind.u64.wrap (Int.tdiv n40 256)), ([(toB (IntKind.u8.wrap (Int.tmod n40 256)))] ++ last40), (IntKind.i64.wrap (i40 + 1))) [(4, (.int .u64 (IntKind.u64.wrap (Int.tdiv n40 256)))), (5, v48), (6, (.int .i64 (IntKind.i64.wrap (i40 + 1))))] ?_ ?_ ?_ ?_
      rotate_left
      · exact h.2
      · repeat (first | exact Off.lay0 rfl | refine Off.updO ?_ rfl _ | refine Off.updN ?_ _ | refine Off.lay ?_ rfl)
      · repeat (first | exact trivial | refine ⟨rfl, ?_⟩)
      exact ⟨K48, v48, h.1, rfl, ((((Ext.refl _ _ _).comp hX41 (fun c hx hlt => (absurd hlt (Nat.not_lt.2 (nilS hx))))).andN hS46).comp hS48 (fun c hx hlt => (absurd hlt (Nat.not_lt.2 (Nat.le_trans hX41.size (hg46 c hx)))))), hM48, (wrap_wf _ _), (wrap_wf _ _), hO48, (fun g hg => .inr (by have hg : ob v48 = some g := hg; rcases hob48 with hq | hq <;> rw [hq] at hg; exact (Nat.le_trans hX41.size (hg46 g hg)); cases hg; exact (Nat.le_trans hX41.size hS46.size)))⟩
    · have hd45 : ¬ (i40 < 8) := dec_f hc45
      have h := h.2 hd45
      refine WP_exit ?_
      refine WP_seq ?_
      refine WP_region ?_
      refine WL_pure u3_20 (R_mv rfl) rfl rfl ?_
      refine WL_pure u5_40 (R_mv rfl) rfl rfl ?_
      obtain ⟨hp66, h⟩ := h
      refine WL_eff rfl rfl (St_S (S_app hM41 rfl hR44 rfl hL40_u5.V Try.underlying39 ty5b rfl hp66) ?_)
      rintro v65 w65 K65 hO65 hS65 hM65 hob65
      have hE65 := hE41.comp hS65 (fun c hx hlt => (fun g hg hlt => absurd hlt (Nat.not_lt.2 ((fun g hg => (ho20_u3 g hg).elim (fun hx => hf13 g hx) (fun hx => Nat.le_trans hE13.size hx)) g hg))) c hx hlt)
      have hR67 := (hR42.ext hS65 (fun g hg hx => (fun g hg hx => (fun g hg hy => (ho20_u3 g hg).elim (fun hz => (fun g _ hx => nilS hx) g hz hy) (fun hz => absurd (hR16.lt _ hy) (Nat.not_lt.2 hz))) g hx hg) g hg hx))
      have hR68 := (hR43.ext hS65 (fun g hg hx => (fun g hg hx => (fun g hg hy => (ho20_u3 g hg).elim (fun hz => hs19 g hz hy) (fun hz => absurd (hR17.lt _ hy) (Nat.not_lt.2 hz))) g hx hg) g hg hx))
      have hR69 := (hL40_u5.ext hS65 (fun g hg hx => (fun g hg hy => (ho40_u5 g hg).elim (fun hz => (fun g hg _ => nilS hg) g hz hy) (fun hz => absurd (hL20_u3.lt _ hy) (Nat.not_lt.2 hz))) g hg hx))
      have hf65 : ∀ g, ob v65 = some g → w0.heap.size ≤ g := fun g hg => by rcases hob65 with hq | hq <;> rw [hq] at hg; exact (fun g hg => (ho20_u3 g hg).elim (fun hx => hf13 g hx) (fun hx => Nat.le_trans hE13.size hx)) g hg; cases hg; exact hE41.size
      have hs71 : ∀ g, ob v65 = some g → ¬ (ob v10 = some g) := fun g hg hx => by rcases hob65 with hq | hq <;> rw [hq] at hg; exact (fun g hg hy => (ho20_u3 g hg).elim (fun hz => hs19 g hz hy) (fun hz => absurd (hR17.lt _ hy) (Nat.not_lt.2 hz))) g hg hx; cases hg; exact absurd (hR43.lt _ hx) (Nat.not_lt.2 (Nat.le_refl _))
      have hs72 : ∀ g, ob v65 = some g → ¬ (ob u5_40 = some g) := fun g hg hx => by rcases hob65 with hq | hq <;> rw [hq] at hg; exact (fun g hg hx => (fun g hg hy => (ho40_u5 g hg).elim (fun hz => (fun g hg _ => nilS hg) g hz hy) (fun hz => absurd (hL20_u3.lt _ hy) (Nat.not_lt.2 hz))) g hx hg) g hg hx; cases hg; exact absurd (hL40_u5.lt _ hx) (Nat.not_lt.2 (Nat.le_refl _))
      refine WL_pure v65 (R_as rfl) rfl rfl ?_
      refine WL_nil ?_
      refine WP_ret ?_
      exact endR_ret hR (v := v65) (resE_1 rfl rfl) ⟨K65, v65, (m20 ++ last40), rfl, h, hE65, hM65, hO65, hf65⟩
theorem Message_c {w0 : World} {K0 : Ghost} {a0_b_v : Value} {a0_b : (List UInt8)} (hM0 : Models w0 K0) (h_a0_b : kd_l_u8.V K0 a0_b a0_b_v) (hp : a0_b.length ≤ 70368744177664) : Calls Try.prog 73 #[a0_b_v] w0 (fun e w' => ∃ (K' : Ghost) (r0 : Value), e = .returned r0 ∧ Ext NX w0 K0 w' K' ∧ Models w' K' ∧ Own Kd.byte 5 w' K' (msgOf a0_b) r0 ∧ (∀ g, ob r0 = some g → w0.heap.size ≤ g)) := by
  refine (Message_walk hM0 h_a0_b (Message_ok h_a0_b.wf hp)).mono ?_
  rintro _ w' ⟨K', r0, o0, rfl, rfl, hF⟩
  exact ⟨K', r0, rfl, hF⟩
end Go.Proofs.Ytfbhiilolpamaaa
